/- SessionModel: its walk. (Printed by gen8.py out of gen8_base.txt and help8.txt.) -/
import Derived.Test.YtpdchdbkfflgfaaE3
import Derived.Test.YtpdchdbkfflgfaaE5
import Derived.Test.YtpdchdbkfflgfaaK0
import Derived.Laws.AppendOwnNone
import Derived.Deep.CutBlock
import Derived.Deep.CutRange
namespace Go.Proofs.Ytpdchdbkfflgfaa
open Go.RowKit

theorem At.with {w0 w : World} {B p : Nat} {P : Pure} {K : Nat → Prop} (h : At w0 w B p P K) (o : Obj) : At w0 (w.alloc o) B p P (fun q => K q ∨ q = w.heap.size) :=
  h.step ((Chg.refl (fun _ => False) w).alloc o) (fun _ h => h.elim) (fun q hq => hq.imp (fun h => h) (fun h => by subst h; exact ⟨Nat.le_refl _, by simp⟩))
def itM (b : Int) : It := ⟨b, 0, false, 1, 1, 1, 0, []⟩
theorem itM_fits (b : Int) : (itM b).fits := by simp only [It.fits, itM]; decide
def pL (b : Nat) : Pure := ⟨5, 1, 1, 2, 3, false, (List.range b).map fun j : Nat => ⟨(j : Int), 0, 1, 1, 1, 0, [], []⟩⟩
theorem learnM {b : Nat} {n : Int} {P' : Pure} (hb : b < 3) (h : Learns (pL b) (itM b) [] n P') : n = 0 ∧ P' = pL (b + 1) := by
  have hb3 : b = 0 ∨ b = 1 ∨ b = 2 := by omega
  have hnum : (itM b).num := by
    rcases hb3 with rfl | rfl | rfl
    all_goals unfold It.num Num itM; decide
  have hn := h.2.2 rfl rfl hnum rfl rfl
  have hno : (pL b).has (itM b).b = false := by
    rcases hb3 with rfl | rfl | rfl <;> rfl
  have hl : (pL b).rows.length = b := by simp [pL]
  rcases h.2.1 rfl with h1 | h1 | h1 | h1
  · exact absurd h1.1 hn
  · rw [hno] at h1; cases h1.2.1
  · rw [hl] at h1; omega
  · refine ⟨h1.1, h1.2.2.2.2.2.2.trans ?_⟩
    rcases hb3 with rfl | rfl | rfl <;> rfl
theorem pL3 : pL 3 = pM [] [] [] := rfl
def MInv (w0 wr : World) (p : Nat) (v : Value) (n : Nat) : Prop :=
  ∃ P m, Three P m ∧ m.length = n ∧ At w0 wr w0.heap.size p P (fun q => v.ownBlock = some q) ∧ wr.ownsRow w0.heap.size 65 2 v n (flat m)
theorem pos_next {l : List Ent} {k : ByteArray} {j : Nat} (hj : j ≤ posOf l k) (hl : j < l.length) (h : ltB l[j].1 k = true) : j + 1 ≤ posOf l k := by
  rcases Nat.lt_or_ge j (posOf l k) with h1 | h1
  · omega
  · have : j = posOf l k := by omega
    subst this
    rw [pos_at hl] at h; cases h
theorem pos_stop {l : List Ent} {k : ByteArray} {j : Nat} (hj : j ≤ posOf l k) (hl : j < l.length) (h : ltB l[j].1 k = false) : j = posOf l k := by
  rcases Nat.lt_or_ge j (posOf l k) with h1 | h1
  · rw [pos_lt h1 hl] at h; cases h
  · omega
theorem own_eq {w w' : World} {B e n : Nat} {size : Nat} {v : Value} {xs : List Value} (h : ∀ q, v.ownBlock = some q → w'.heap[q]? = w.heap[q]?) (ho : w.ownsRow B e size v n xs) : w'.ownsRow B e size v n xs := by
  refine ⟨ho.1, ?_⟩
  rcases ho.2 with h1 | ⟨g, cap, cur, rfl, hb, hg, r⟩
  · exact .inl h1
  · exact .inr ⟨g, cap, cur, rfl, hb, (h g rfl).trans hg, r⟩
theorem chg_own3 {e k : Nat} {size : Nat} {w0 w w1 : World} {v : Value} {xs : List Value} (hc : Chg (fun _ => False) w0 w) (ho : w.ownsRow w0.heap.size e size v k xs) (hg : w.grownBy w1 v.ownBlock) : Chg (fun _ => False) w0 w1 :=
  hc.trans (Chg.of_grown hg (F := fun q => v.ownBlock = some q) (fun q h => h)) (fun q hq hlt => by have := (own_lt ho hq).1; omega)
theorem minv_put {w0 w5 w8 : World} {p n : Nat} {P : Pure} {m : List Ent} {k v : ByteArray} {K : Nat → Prop} {v8 : Value} {xs : List Value} (h3 : Three (P.put k v) (putNow m k v)) (hat : At w0 w5 w0.heap.size p (P.put k v) K) (hc : Chg (fun _ => False) w5 w8)
    (ho : w8.ownsRow w5.heap.size 65 2 v8 n xs) (hn : n = (putNow m k v).length) (hx : xs = flat (putNow m k v)) : MInv w0 w8 p v8 n :=
  ⟨_, _, h3, hn.symm, hat.step hc (fun _ h => h.elim) (fun _ hq => .inr (own_lt ho hq)), own_le (hx ▸ ho) hat.old.size⟩
theorem minv_del {w0 w5 w8 : World} {p n : Nat} {P : Pure} {m : List Ent} {k : ByteArray} {K : Nat → Prop} {v8 : Value} {xs : List Value} (h3 : Three (P.del k) (delNow m k)) (hat : At w0 w5 w0.heap.size p (P.del k) K) (hc : Chg (fun _ => False) w5 w8)
    (ho : w8.ownsRow w5.heap.size 65 2 v8 n xs) (hn : n = (delNow m k).length) (hx : xs = flat (delNow m k)) : MInv w0 w8 p v8 n :=
  ⟨_, _, h3, hn.symm, hat.step hc (fun _ h => h.elim) (fun _ hq => .inr (own_lt ho hq)), own_le (hx ▸ ho) hat.old.size⟩
theorem put_flat {m : List Ent} {k v : ByteArray} {q : Nat} {b : Bool} {xs : List Value} (hq : q = posOf m k) (hb : isAt m k = b) (hx : xs = flat (m.drop (if b = true then q + 1 else q))) :
    flat (m.take q) ++ [.string k, .string v] ++ xs = flat (putNow m k v) := by
  rw [putNow_eq, hb, ← hq, hx, flat_append, List.append_assoc]; rfl
theorem put_len {m : List Ent} {k v : ByteArray} {q n : Nat} {b : Bool} (hq : q = posOf m k) (hb : isAt m k = b) (hn : n = q + 1 + (m.length - (if b = true then q + 1 else q))) : n = (putNow m k v).length := by
  have := pos_le m k
  rw [putNow_eq, hb, ← hq, List.length_append, List.length_cons, List.length_take, List.length_drop]
  omega
theorem drop_nil_flat {m : List Ent} {i : Nat} (h : m.length ≤ i) : [] = flat (m.drop i) := by rw [List.drop_eq_nil_of_le h]; rfl
theorem del_flat2 {m : List Ent} {k : ByteArray} {q : Nat} {xs : List Value} (hq : q = posOf m k) (hb : isAt m k = true) (hx : xs = flat (m.drop (q + 1))) :
    flat (m.take q) ++ xs = flat (delNow m k) := by
  rw [delNow_eq hb, ← hq, hx, flat_append]
theorem del_len {m : List Ent} {k : ByteArray} {q n : Nat} (hq : q = posOf m k) (hb : isAt m k = true) (hn : n = q + (m.length - (q + 1))) : n = (delNow m k).length := by
  have := pos_le m k
  rw [delNow_eq hb, ← hq, List.length_append, List.length_take, List.length_drop]
  omega
set_option maxRecDepth 100000 in
set_option maxHeartbeats 2000000 in
/-- SameEntries, of any two lists: true, if they are alike. -/
theorem sameEnts_some (v u : Value) (l l' : List Ent) (w : World) (hr : Reads w v l) (hs : Reads w u l') :
    Calls Try.prog 22 #[v, u] w fun e w' => (∃ r, e = .returned (.bool r) ∧ (l = l' → r = true)) ∧ Chg (fun _ => False) w w' := by
  by_cases hll : l = l'
  · subst hll
    refine (sameEnts v u l w hr hs).mono ?_
    rintro e w' ⟨rfl, hc⟩
    exact ⟨⟨true, rfl, fun _ => rfl⟩, hc⟩
  obtain ⟨a, c, rfl, _, hm, hr⟩ := hr
  obtain ⟨a1, c1, rfl, _, _, hs⟩ := hs
  have HR := Lib.hid hr
  have HS := Lib.hid hs
  have HLL := Lib.hid hll
  unfold maxLen at hm
  clear hr hs hll
  by_cases hlen : l.length = l'.length
  · rw [← hlen]
    have HLEN := Lib.hid hlen
    clear hlen
    go_enter Try.func22, Try.ntmps22
    go_wp2
    go_loopw [5] (fun i wr => ∃ k : Nat, i = .int .i64 k ∧ k ≤ l.length ∧ Chg (fun _ => False) w wr) (fun i _ => l.length - (intOf i).toNat)
    case atStart => exact ⟨0, rfl, by omega, .refl _ _⟩
    case round =>
      obtain ⟨k, rfl, hk, hc⟩ := hrel
      by_cases hlt : k < l.length
      · rcases HR.out with hn | ⟨b, o, rfl, hcl⟩
        · subst hn; simp at hlt
        have hlt' : k < l'.length := by rw [← HLEN.out]; exact hlt
        rcases HS.out with hn | ⟨b2, o2, rfl, hcm⟩
        · subst hn; simp at hlt'
        have ck := hc.cell (hcl k hlt).1 (fun h => h)
        have cv := hc.cell (hcl k hlt).2 (fun h => h)
        have dk := hc.cell (hcm k hlt').1 (fun h => h)
        have dv := hc.cell (hcm k hlt').2 (fun h => h)
        clear hcl hcm
        cases h1 : (l[k].1.toList == l'[k].1.toList) with
        | false =>
          go_wp2_with fail
          go_quiet (fail)
          go_wp2
          go_ret
          exact ⟨⟨_, rfl, fun h => absurd h HLL.out⟩, hc.drewN _⟩
        | true =>
          cases h2 : (l[k].2.toList == l'[k].2.toList) with
          | false =>
            go_wp2_with fail
            go_quiet (fail)
            go_wp2
            go_ret
            exact ⟨⟨_, rfl, fun h => absurd h HLL.out⟩, hc.drewN _⟩
          | true =>
            go_wp2_with fail
            go_quiet (fail)
            go_wp2
            go_roundw
            case rel => exact ⟨k + 1, by go_num, by omega, hc.drewN _⟩
            case measure => simp [intOf]; omega
      · go_wp2
        go_ret
        exact ⟨⟨_, rfl, fun h => absurd h HLL.out⟩, hc⟩
  · have hne : ((l.length : Int) == l'.length) = false := by simp; omega
    have hne2 : ((l.length : Int) != l'.length) = true := by simp; omega
    go_enter Try.func22, Try.ntmps22
    go_wp2
    go_ret
    exact ⟨⟨_, rfl, fun h => absurd h HLL.out⟩, .refl _ _⟩
set_option maxRecDepth 100000 in
set_option maxHeartbeats 8000000 in
theorem sessionModel_any (v : Value) (l : List OpD) (w : World) (h : Ops w v l) : Calls Try.prog 5 #[v] w fun e w' => e = .returned (.bool true) ∧ Chg (fun _ => False) w w' := by
  obtain ⟨a, c, rfl, hml, hcs⟩ := op_cells h
  have HC := Lib.hid hcs
  clear hcs h
  unfold maxLen at hml
  go_enter Try.func5, Try.ntmps5
  go_wp2_with fail
  refine (new_any 5 1 1 2 3 _ rfl (by decide) (by decide) (by decide) (by decide) (by decide) (by decide) (by decide) (by decide) (by decide) (by decide) (by decide)).mono ?_
  rintro e w1 ⟨S0, rfl, hl0, hp0, hc0⟩
  have a0 := at_new hl0 hp0 hc0
  obtain ⟨p, hpd⟩ : ∃ p, p = S0.p := ⟨_, rfl⟩
  rw [← hpd] at a0 ⊢
  have A0 := Lib.hid a0
  clear hl0 hp0 hc0 hpd a0
  go_wp2_with (go_at_call 9; refine (alive_any _).mono ?_; rintro e w2 ⟨rfl, hc2⟩; have A1 := Lib.hid (A0.out.same hc2); clear hc2)
  go_loopw [5] (fun i wr => ∃ b : Nat, i = .int .i64 b ∧ b ≤ 3 ∧ Hid (At w wr w.heap.size p (pL b) (fun _ => False))) (fun i _ => 3 - (intOf i).toNat)
  case atStart => exact ⟨0, rfl, by omega, A1.out⟩
  case round =>
    obtain ⟨b, rfl, hb, HI⟩ := hrel
    by_cases hlt : b < 3
    · go_wp2_with fail
      refine (at_learn HI.out HI.out.old.size (itM b) _ _ [] (reads_nil _) (reads_nil _) (itM_fits _)).mono ?_
      rintro e w3 ⟨n, P', ev, rfl, hln, hres⟩
      obtain ⟨rfl, rfl⟩ := learnM hlt hln
      obtain rfl := hres.2.1.nil
      have R3 := Lib.hid hres.1
      clear hres hln
      go_wp2
      go_roundw
      case rel => exact ⟨b + 1, by go_num, by omega, R3.out⟩
      case measure => simp [intOf]; omega
    · have HB3 := Lib.hid (show b = 3 by omega)
      have hb3d : decide ((b : Int) < 3) = false := by simp; omega
      have HM : Hid (MInv w wr p (.slice none 0 0) 0) := ⟨_, [], ⟨[], [], [], pL3, rfl, ⟨List.Pairwise.nil, by simp, by simp⟩, ⟨List.Pairwise.nil, by simp, by simp⟩, ⟨List.Pairwise.nil, by simp, by simp⟩⟩, rfl, (HB3.out ▸ HI.out : At w wr w.heap.size p (pL 3) (fun _ => False)).less (fun q h => by cases h), World.ownsRow_nil _ _ _ _⟩
      clear HI hb HB3
      go_wp2
      clear hb3d
      go_loopw [6, 7] (fun vm i wr => ∃ (j n : Nat), i = .int .i64 j ∧ j ≤ l.length ∧ Hid (MInv w wr p vm n)) (fun _ i _ => l.length - (intOf i).toNat)
      case atStart => exact ⟨0, 0, rfl, Nat.zero_le _, HM.out⟩
      case round =>
        obtain ⟨j, n, rfl, hj, HI⟩ := hrel
        by_cases hlt : j < l.length ∧ j < 100
        · obtain ⟨hlt1, hlt2⟩ := hlt
          rcases HC.out with hn | ⟨b, o, rfl, hbl, hop⟩
          · subst hn; simp at hlt1
          obtain ⟨v0, vd, hfit, q0, q1, q2, q3, q4, q5, q6, q7, q8, q9, q10, q11, q12⟩ := hop j hlt1
          obtain ⟨P, m, h3, hmn, hat, hown⟩ := HI.out
          have hch := hat.old
          have r0 := hch.cell q0 (fun h => h)
          have r1 := hch.cell q1 (fun h => h)
          have r2 := hch.cell q2 (fun h => h)
          have r3 := hch.cell q3 (fun h => h)
          have r4 := hch.cell q4 (fun h => h)
          have r5 := hch.cell q5 (fun h => h)
          have r6 := hch.cell q6 (fun h => h)
          have r7 := hch.cell q7 (fun h => h)
          have r8 := hch.cell q8 (fun h => h)
          have r9 := hch.cell q9 (fun h => h)
          have r10 := hch.cell q10 (fun h => h)
          have r11 := hch.cell q11 (fun h => h)
          have r12 := hch.cell q12 (fun h => h)
          clear q0 q1 q2 q3 q4 q5 q6 q7 q8 q9 q10 q11 q12 hch
          obtain ⟨op, hopd⟩ : ∃ op, op = l[j] := ⟨_, rfl⟩
          rw [← hopd] at hfit r0 r1 r2 r3 r5 r6 r7 r8 r10 r11 r12
          obtain ⟨aa, ca, rfl, _⟩ := hfit.r0
          obtain ⟨ad, cd, rfl, _⟩ := hfit.rd
          have HK := Lib.hid hfit.key
          have H3 := Lib.hid h3
          subst hmn
          have AT := Lib.hid hat
          have OWN := Lib.hid hown
          have hm24 := (three_sorted h3).2.1
          obtain ⟨ma, mc, rfl⟩ := own_form hown
          clear hfit h3 hat hown hop hopd HI
          go_upto_block 4 with fail
          have hj100 : decide ((j : Int) < 100) = true := by simp; omega
          simp only [hj100]
          clear hlt2 hj100
          have OB := Lib.hid (heap_alloc_new wr (.cells (op.arr (.slice aa op.i.data.length ca) (.slice ad op.data.length cd)) 38))
          have AX := Lib.hid (At.with AT.out (.cells (op.arr (.slice aa op.i.data.length ca) (.slice ad op.data.length cd)) 38))
          have OX := Lib.hid (((Chg.refl (fun _ => False) wr).alloc (.cells (op.arr (.slice aa op.i.data.length ca) (.slice ad op.data.length cd)) 38)).owns OWN.out (fun _ _ h => h))
          unfold OpD.arr at OB AX OX
          clear r0 r1 r2 r3 r4 r5 r6 r7 r8 r9 r10 r11 r12
          obtain ⟨g, hg⟩ : ∃ g, g = wr.heap.size := ⟨_, rfl⟩
          obtain ⟨wx, hwx⟩ : ∃ wx, wx = wr.alloc (.cells #[.int .i64 op.kind, .int .i64 op.i.b, .int .u32 op.i.ver, .bool op.i.wr, .slice aa op.i.data.length ca, .int .u32 op.i.i0, .int .u32 op.i.i1, .int .u32 op.i.i2, .int .u32 op.i.i3, .slice ad op.data.length cd, .string op.key, .string op.till, .string op.value] 38) := ⟨_, rfl⟩
          rw [← hwx, ← hg] at OB AX
          rw [← hwx] at OX
          rw [← hwx, ← hg]
          clear hwx hg AT OWN
          go_cut [9] from 46 to 174 (fun at_ wq => at_ = .int .i64 (posOf m op.key) ∧ Hid (Chg (fun _ => False) wx wq))
          case first =>
            as_aux_lemma =>
              go_wp2_with fail
              go_loopw [9] (fun i wq => ∃ q : Nat, i = .int .i64 q ∧ q ≤ posOf m op.key ∧ Hid (Chg (fun _ => False) wx wq)) (fun i _ => m.length - (intOf i).toNat)
              case atStart => exact ⟨0, rfl, by omega, .refl _ _⟩
              case round =>
                obtain ⟨q, rfl, hq, HQ⟩ := hrel
                have hpl := pos_le m op.key
                have k0 : wr.cell? ⟨g, 10, none⟩ = some (.string op.key) := HQ.out.cell (cell_row OB.out rfl) (fun h => h)
                by_cases hql : q < m.length
                · obtain ⟨sa, sc, hv, _, _, hrd⟩ := reads_of_owns (HQ.out.owns OX.out (fun _ _ h => h))
                  injection hv with hv1 _ hv2
                  subst hv1; subst hv2
                  rcases hrd with hn | ⟨mb, mo, rfl, hcl⟩
                  · rw [hn] at hql; simp at hql
                  have ck := (hcl q hql).1
                  have hd : decide ((q : Int) < m.length) = true := by simp; omega
                  clear hcl
                  cases hb : ltB m[q].1 op.key with
                  | true =>
                    have hb' : Op.bytesLess m[q].1.toList op.key.toList = true := hb
                    have HN := Lib.hid (pos_next hq hql hb)
                    clear hb
                    go_wp2_with fail
                    go_quiet (fail)
                    go_wp2
                    go_roundw
                    case rel => exact ⟨q + 1, by go_num, HN.out, HQ.out.drewN _⟩
                    case measure => simp [intOf]; omega
                  | false =>
                    have hb' : Op.bytesLess m[q].1.toList op.key.toList = false := hb
                    have HN := Lib.hid (pos_stop hq hql hb)
                    clear hb
                    go_wp2_with fail
                    go_quiet (fail)
                    go_wp2_with fail
                    go_meet
                    exact ⟨by rw [← HN.out], HQ.out.drewN _⟩
                · have hd : decide ((q : Int) < m.length) = false := by simp; omega
                  have HN : Hid (q = posOf m op.key) := by show q = posOf m op.key; omega
                  go_wp2_with fail
                  go_quiet (fail)
                  go_wp2_with fail
                  go_meet
                  exact ⟨by rw [← HN.out], HQ.out.drewN _⟩
          case rest =>
            obtain ⟨rfl, HQ⟩ := hcut
            go_wp2_with fail
            go_cut [10] from 46 to 174 (fun th wq => th = .bool (isAt m op.key) ∧ Hid (Chg (fun _ => False) wx wq))
            case first =>
              as_aux_lemma =>
                have hpl := pos_le m op.key
                have k0 : wc.cell? ⟨g, 10, none⟩ = some (.string op.key) := HQ.out.cell (cell_row OB.out rfl) (fun h => h)
                by_cases hql : posOf m op.key < m.length
                · obtain ⟨sa, sc, hv, _, _, hrd⟩ := reads_of_owns (HQ.out.owns OX.out (fun _ _ h => h))
                  injection hv with hv1 _ hv2
                  subst hv1; subst hv2
                  rcases hrd with hn | ⟨mb, mo, rfl, hcl⟩
                  · rw [hn] at hql; simp at hql
                  have ck := (hcl _ hql).1
                  have hd : decide ((posOf m op.key : Int) < m.length) = true := by simp; omega
                  have hia : isAt m op.key = eqB m[posOf m op.key].1 op.key := by unfold isAt; rw [List.getElem?_eq_getElem hql]; rfl
                  have HIA := Lib.hid hia
                  clear hcl hia
                  cases hb : eqB m[posOf m op.key].1 op.key with
                  | true =>
                    have hb' : (m[posOf m op.key].1.toList == op.key.toList) = true := hb
                    have HN : Hid (isAt m op.key = true) := HIA.out.trans hb
                    clear hb
                    go_wp2_with fail
                    go_quiet (fail)
                    go_wp2_with fail
                    go_meet
                    exact ⟨by rw [HN.out], HQ.out.drewN _⟩
                  | false =>
                    have hb' : (m[posOf m op.key].1.toList == op.key.toList) = false := hb
                    have HN : Hid (isAt m op.key = false) := HIA.out.trans hb
                    clear hb
                    go_wp2_with fail
                    go_quiet (fail)
                    go_wp2_with fail
                    go_meet
                    exact ⟨by rw [HN.out], HQ.out.drewN _⟩
                · have hd : decide ((posOf m op.key : Int) < m.length) = false := by simp; omega
                  have HN : Hid (isAt m op.key = false) := by
                    show isAt m op.key = false
                    unfold isAt; rw [List.getElem?_eq_none (by omega)]; rfl
                  go_wp2_with fail
                  go_quiet (fail)
                  go_wp2_with fail
                  go_meet
                  exact ⟨by rw [HN.out], HQ.out.drewN _⟩
            case rest =>
              clear HQ
              rename_i wc1
              obtain ⟨rfl, HQ⟩ := hcut
              have x0 : wc.cell? ⟨g, 0, none⟩ = some (.int .i64 op.kind) := HQ.out.cell (cell_row OB.out rfl) (fun h => h)
              have x10 : wc.cell? ⟨g, 10, none⟩ = some (.string op.key) := HQ.out.cell (cell_row OB.out rfl) (fun h => h)
              have x12 : wc.cell? ⟨g, 12, none⟩ = some (.string op.value) := HQ.out.cell (cell_row OB.out rfl) (fun h => h)
              have AC := Lib.hid (AX.out.same HQ.out)
              have OC := Lib.hid (HQ.out.owns OX.out (fun _ _ h => h))
              have GC := Lib.hid (HQ.out.obj OB.out (fun h => h))
              clear AX OX OB
              obtain ⟨q, hqd⟩ : ∃ q, q = posOf m op.key := ⟨_, rfl⟩
              have HQD := Lib.hid hqd
              have hqm : q ≤ m.length := by rw [hqd]; exact pos_le m op.key
              rw [← hqd]
              clear hqd HQ
              cases k3 : (op.kind == 3) with
              | true =>
                as_aux_lemma =>
                  go_wp2_with fail
                  refine (at_put AC.out AC.out.old.size op.key op.value HK.out).mono ?_
                  rintro e w5 ⟨ev, rfl, hres⟩
                  have R5 := Lib.hid hres
                  clear hres
                  have O5 := Lib.hid (own_eq (fun q hq => R5.out.2.2 q (.inl hq)) OC.out)
                  have B5 := Lib.hid ((R5.out.2.2 g (.inr rfl)).trans GC.out)
                  clear x0 x10 x12
                  by_cases hp : P.putE op.key op.value = 0
                  · have he := R5.out.2.1
                    rw [hp] at he
                    obtain rfl := he.nil
                    have H3N := Lib.hid (three_now H3.out (putE_noB hp))
                    have HP := Lib.hid hp
                    have x10 : w5.cell? ⟨g, 10, none⟩ = some (.string op.key) := cell_row B5.out rfl
                    have x12 : w5.cell? ⟨g, 12, none⟩ = some (.string op.value) := cell_row B5.out rfl
                    obtain ⟨en0, hen0, hez0, hez1, hez2⟩ := info_parts info65
                    clear hp he
                    rcases O5.out.2 with ⟨hnil, h0⟩ | ⟨gm, cap, cur, hv, hb, hg, h1, h2, h3, h4⟩
                    · obtain rfl := List.eq_nil_of_length_eq_zero h0
                      injection hnil with hn1 _ hn3
                      subst hn1; subst hn3
                      obtain rfl : q = 0 := by simpa using hqm
                      have hth : isAt [] op.key = false := rfl
                      rw [hth]
                      simp only [List.length_nil]
                      clear hth
                      go_wp2_with (first
                        | (refine wpList_append_own_none rfl (.tmp 128) (.tmp 131) 33 rfl w5.heap.size 65 en0 2 Try.underlying33 hen0 _ _ _ rfl (World.ownsRow_nil _ _ _ _) rfl ?_)
                        | (refine wpList_append_own _ rfl (.tmp 133) (.tmp 139) 33 rfl w5.heap.size 65 en0 zEnt 2 32 Try.underlying33 hen0 hez0 hez1 hez2 rfl (by decide) _ _ _ rfl (World.ownsRow_nil _ _ _ _) ⟨w5.heap.size, 0, none⟩ 1 1 [.string op.key, .string op.value] rfl rfl (news_alloc w5 _ 65) (by simp [Value.oneCell']) (by unfold maxLen; omega) (by omega) (by simp) ?_; intro v7 w7 hown7 hgrow7 _; simp only [Nat.zero_add, List.nil_append] at hown7; obtain ⟨g7, c7, rfl⟩ := owns_succ (k := 0) hown7; have O7 := Lib.hid hown7; have G7 := Lib.hid (((Chg.refl (fun _ => False) w5).alloc _).trans (Chg.of_grown hgrow7 (F := fun _ => False) (fun q h => by cases h)) (fun _ h => h.elim)); clear hown7 hgrow7)
                        | (refine wpList_append_own_none rfl (.tmp 144) (.tmp 147) 33 rfl w5.heap.size 65 en0 2 Try.underlying33 hen0 _ _ _ rfl O7.out rfl ?_))
                      go_roundw
                      case rel => exact ⟨j + 1, _, by go_num, by omega, minv_put (H3N.out.2.2.1 _ HP.out) R5.out.1 G7.out O7.out rfl rfl⟩
                      case measure => simp [intOf]; omega
                    · injection hv with hv1 _ hv2
                      subst hv1; subst hv2
                      have NT := Lib.hid (take_news (i := q) hg h4)
                      have ND := Lib.hid (fun i hi => drop_news (i := i) hg h4 hi)
                      have e1 : (q : Int) ≤ m.length := by omega
                      have e2 : (q : Int) ≤ mc := by omega
                      have e3 : (m.length : Int) ≤ mc := by omega
                      have e4 : (0 : Int) ≤ q := by omega
                      have hmc : mc ≤ 9223372036854775807 := by unfold maxLen at h2; omega
                      clear hb hg h2 h3 h4
                      cases hth : isAt m op.key with
                      | true =>
                        have HTH := Lib.hid hth
                        obtain ⟨hql, hqk⟩ := isAt_eq hth
                        have hql : q < m.length := by rw [HQD.out]; exact hql
                        clear hqk
                        have e5 : (q : Int) + 1 ≤ m.length := by omega
                        have e6 : (q : Int) + 1 ≤ mc := by omega
                        have e7 : (0 : Int) ≤ (q : Int) + 1 := by omega
                        have e8 : ((q : Int) + 1).toNat = q + 1 := by omega
                        clear hth
                        have ND := Lib.hid (ND.out (q + 1) (by omega))
                        by_cases hcap : mc = q + 1
                        · have hcap2 := hcap.symm
                          subst hcap2
                          clear hcap
                          go_wp2_with (first
                            | (refine wpList_append_own _ rfl (.tmp 128) (.tmp 131) 33 rfl w5.heap.size 65 en0 zEnt 2 32 Try.underlying33 hen0 hez0 hez1 hez2 rfl (by decide) _ _ _ rfl (World.ownsRow_nil _ _ _ _) ⟨gm, 0, none⟩ q _ (flat (m.take q)) rfl (by rw [flat_length, List.length_take]; omega) NT.out (flat_one _) (by unfold maxLen; omega) (by omega) (Nat.le_refl _) ?_; intro v6 w6 hown6 hgrow6 _; simp only [Nat.zero_add, List.nil_append] at hown6; obtain ⟨a6, c6, rfl⟩ := own_form hown6; have O6 := Lib.hid hown6; have G6 := Lib.hid (Chg.of_grown hgrow6 (F := fun _ => False) (fun q h => by cases h)); have y10 := G6.out.cell x10 (fun h => h); have y12 := G6.out.cell x12 (fun h => h); clear x10 x12; clear hown6 hgrow6)
                            | (refine wpList_append_own _ rfl (.tmp 133) (.tmp 139) 33 rfl w5.heap.size 65 en0 zEnt 2 32 Try.underlying33 hen0 hez0 hez1 hez2 rfl (by decide) _ _ _ rfl ((((Chg.refl (fun _ => False) w6).alloc _)).owns O6.out (fun _ _ h => h)) ⟨w6.heap.size, 0, none⟩ 1 1 [.string op.key, .string op.value] rfl rfl (news_alloc w6 _ 65) (by simp [Value.oneCell']) (by unfold maxLen; omega) (by omega) (by have := G6.out.size; simp; omega) ?_; intro v7 w7 hown7 hgrow7 _; obtain ⟨a7, c7, rfl⟩ := own_form hown7; have O7 := Lib.hid hown7; have G7 := Lib.hid (chg_own2 G6.out O6.out hgrow7); clear hown7 hgrow7)
                            | (refine wpList_append_own _ rfl (.tmp 144) (.tmp 147) 33 rfl w5.heap.size 65 en0 zEnt 2 32 Try.underlying33 hen0 hez0 hez1 hez2 rfl (by decide) _ _ _ rfl O7.out ⟨gm, 0, none⟩ _ _ [] rfl (by show 0 = _; omega) (fun j u h => by simp at h) (by simp) (by unfold maxLen; omega) (by omega) (by have := G7.out.size; omega) ?_; intro v8 w8 hown8 hgrow8 _; obtain ⟨a8, c8, rfl⟩ := own_form hown8; have O8 := Lib.hid hown8; have G8 := Lib.hid (chg_own3 G7.out O7.out hgrow8); clear hown8 hgrow8))
                          go_roundw
                          case rel => exact ⟨j + 1, _, by go_num, by omega, minv_put (H3N.out.2.2.1 _ HP.out) R5.out.1 G8.out O8.out (put_len HQD.out HTH.out (by show _ = q + 1 + (m.length - (q + 1)); omega)) (put_flat HQD.out HTH.out (drop_nil_flat (show m.length ≤ q + 1 by omega)))⟩
                          case measure => simp [intOf]; omega
                        · go_wp2_with (first
                            | (refine wpList_append_own _ rfl (.tmp 128) (.tmp 131) 33 rfl w5.heap.size 65 en0 zEnt 2 32 Try.underlying33 hen0 hez0 hez1 hez2 rfl (by decide) _ _ _ rfl (World.ownsRow_nil _ _ _ _) ⟨gm, 0, none⟩ q _ (flat (m.take q)) rfl (by rw [flat_length, List.length_take]; omega) NT.out (flat_one _) (by unfold maxLen; omega) (by omega) (Nat.le_refl _) ?_; intro v6 w6 hown6 hgrow6 _; simp only [Nat.zero_add, List.nil_append] at hown6; obtain ⟨a6, c6, rfl⟩ := own_form hown6; have O6 := Lib.hid hown6; have G6 := Lib.hid (Chg.of_grown hgrow6 (F := fun _ => False) (fun q h => by cases h)); have y10 := G6.out.cell x10 (fun h => h); have y12 := G6.out.cell x12 (fun h => h); clear x10 x12; clear hown6 hgrow6)
                            | (refine wpList_append_own _ rfl (.tmp 133) (.tmp 139) 33 rfl w5.heap.size 65 en0 zEnt 2 32 Try.underlying33 hen0 hez0 hez1 hez2 rfl (by decide) _ _ _ rfl ((((Chg.refl (fun _ => False) w6).alloc _)).owns O6.out (fun _ _ h => h)) ⟨w6.heap.size, 0, none⟩ 1 1 [.string op.key, .string op.value] rfl rfl (news_alloc w6 _ 65) (by simp [Value.oneCell']) (by unfold maxLen; omega) (by omega) (by have := G6.out.size; simp; omega) ?_; intro v7 w7 hown7 hgrow7 _; obtain ⟨a7, c7, rfl⟩ := own_form hown7; have O7 := Lib.hid hown7; have G7 := Lib.hid (chg_own2 G6.out O6.out hgrow7); clear hown7 hgrow7)
                            | (refine wpList_append_own _ rfl (.tmp 144) (.tmp 147) 33 rfl w5.heap.size 65 en0 zEnt 2 32 Try.underlying33 hen0 hez0 hez1 hez2 rfl (by decide) _ _ _ rfl O7.out ⟨gm, (q + 1) * 2, none⟩ (m.length - (q + 1)) _ (flat (m.drop (q + 1))) rfl (by rw [flat_length, List.length_drop]) (fun j u h => G7.out.cell (ND.out j u h) (fun h => h)) (flat_one _) (by unfold maxLen; omega) (by omega) (by have := G7.out.size; omega) ?_; intro v8 w8 hown8 hgrow8 _; obtain ⟨a8, c8, rfl⟩ := own_form hown8; have O8 := Lib.hid hown8; have G8 := Lib.hid (chg_own3 G7.out O7.out hgrow8); clear hown8 hgrow8))
                          go_roundw
                          case rel => exact ⟨j + 1, _, by go_num, by omega, minv_put (H3N.out.2.2.1 _ HP.out) R5.out.1 G8.out O8.out (put_len HQD.out HTH.out (by show _ = q + 1 + (m.length - (q + 1)); omega)) (put_flat HQD.out HTH.out (rfl))⟩
                          case measure => simp [intOf]; omega
                      | false =>
                        have HTH := Lib.hid hth
                        clear hth
                        have ND := Lib.hid (ND.out q hqm)
                        by_cases hcap : mc = q
                        · have hcap2 := hcap.symm
                          subst hcap2
                          clear hcap
                          go_wp2_with (first
                            | (refine wpList_append_own _ rfl (.tmp 128) (.tmp 131) 33 rfl w5.heap.size 65 en0 zEnt 2 32 Try.underlying33 hen0 hez0 hez1 hez2 rfl (by decide) _ _ _ rfl (World.ownsRow_nil _ _ _ _) ⟨gm, 0, none⟩ q _ (flat (m.take q)) rfl (by rw [flat_length, List.length_take]; omega) NT.out (flat_one _) (by unfold maxLen; omega) (by omega) (Nat.le_refl _) ?_; intro v6 w6 hown6 hgrow6 _; simp only [Nat.zero_add, List.nil_append] at hown6; obtain ⟨a6, c6, rfl⟩ := own_form hown6; have O6 := Lib.hid hown6; have G6 := Lib.hid (Chg.of_grown hgrow6 (F := fun _ => False) (fun q h => by cases h)); have y10 := G6.out.cell x10 (fun h => h); have y12 := G6.out.cell x12 (fun h => h); clear x10 x12; clear hown6 hgrow6)
                            | (refine wpList_append_own _ rfl (.tmp 133) (.tmp 139) 33 rfl w5.heap.size 65 en0 zEnt 2 32 Try.underlying33 hen0 hez0 hez1 hez2 rfl (by decide) _ _ _ rfl ((((Chg.refl (fun _ => False) w6).alloc _)).owns O6.out (fun _ _ h => h)) ⟨w6.heap.size, 0, none⟩ 1 1 [.string op.key, .string op.value] rfl rfl (news_alloc w6 _ 65) (by simp [Value.oneCell']) (by unfold maxLen; omega) (by omega) (by have := G6.out.size; simp; omega) ?_; intro v7 w7 hown7 hgrow7 _; obtain ⟨a7, c7, rfl⟩ := own_form hown7; have O7 := Lib.hid hown7; have G7 := Lib.hid (chg_own2 G6.out O6.out hgrow7); clear hown7 hgrow7)
                            | (refine wpList_append_own _ rfl (.tmp 144) (.tmp 147) 33 rfl w5.heap.size 65 en0 zEnt 2 32 Try.underlying33 hen0 hez0 hez1 hez2 rfl (by decide) _ _ _ rfl O7.out ⟨gm, 0, none⟩ _ _ [] rfl (by show 0 = _; omega) (fun j u h => by simp at h) (by simp) (by unfold maxLen; omega) (by omega) (by have := G7.out.size; omega) ?_; intro v8 w8 hown8 hgrow8 _; obtain ⟨a8, c8, rfl⟩ := own_form hown8; have O8 := Lib.hid hown8; have G8 := Lib.hid (chg_own3 G7.out O7.out hgrow8); clear hown8 hgrow8))
                          go_roundw
                          case rel => exact ⟨j + 1, _, by go_num, by omega, minv_put (H3N.out.2.2.1 _ HP.out) R5.out.1 G8.out O8.out (put_len HQD.out HTH.out (by show _ = q + 1 + (m.length - (q)); omega)) (put_flat HQD.out HTH.out (drop_nil_flat (show m.length ≤ q by omega)))⟩
                          case measure => simp [intOf]; omega
                        · go_wp2_with (first
                            | (refine wpList_append_own _ rfl (.tmp 128) (.tmp 131) 33 rfl w5.heap.size 65 en0 zEnt 2 32 Try.underlying33 hen0 hez0 hez1 hez2 rfl (by decide) _ _ _ rfl (World.ownsRow_nil _ _ _ _) ⟨gm, 0, none⟩ q _ (flat (m.take q)) rfl (by rw [flat_length, List.length_take]; omega) NT.out (flat_one _) (by unfold maxLen; omega) (by omega) (Nat.le_refl _) ?_; intro v6 w6 hown6 hgrow6 _; simp only [Nat.zero_add, List.nil_append] at hown6; obtain ⟨a6, c6, rfl⟩ := own_form hown6; have O6 := Lib.hid hown6; have G6 := Lib.hid (Chg.of_grown hgrow6 (F := fun _ => False) (fun q h => by cases h)); have y10 := G6.out.cell x10 (fun h => h); have y12 := G6.out.cell x12 (fun h => h); clear x10 x12; clear hown6 hgrow6)
                            | (refine wpList_append_own _ rfl (.tmp 133) (.tmp 139) 33 rfl w5.heap.size 65 en0 zEnt 2 32 Try.underlying33 hen0 hez0 hez1 hez2 rfl (by decide) _ _ _ rfl ((((Chg.refl (fun _ => False) w6).alloc _)).owns O6.out (fun _ _ h => h)) ⟨w6.heap.size, 0, none⟩ 1 1 [.string op.key, .string op.value] rfl rfl (news_alloc w6 _ 65) (by simp [Value.oneCell']) (by unfold maxLen; omega) (by omega) (by have := G6.out.size; simp; omega) ?_; intro v7 w7 hown7 hgrow7 _; obtain ⟨a7, c7, rfl⟩ := own_form hown7; have O7 := Lib.hid hown7; have G7 := Lib.hid (chg_own2 G6.out O6.out hgrow7); clear hown7 hgrow7)
                            | (refine wpList_append_own _ rfl (.tmp 144) (.tmp 147) 33 rfl w5.heap.size 65 en0 zEnt 2 32 Try.underlying33 hen0 hez0 hez1 hez2 rfl (by decide) _ _ _ rfl O7.out ⟨gm, (q) * 2, none⟩ (m.length - (q)) _ (flat (m.drop (q))) rfl (by rw [flat_length, List.length_drop]) (fun j u h => G7.out.cell (ND.out j u h) (fun h => h)) (flat_one _) (by unfold maxLen; omega) (by omega) (by have := G7.out.size; omega) ?_; intro v8 w8 hown8 hgrow8 _; obtain ⟨a8, c8, rfl⟩ := own_form hown8; have O8 := Lib.hid hown8; have G8 := Lib.hid (chg_own3 G7.out O7.out hgrow8); clear hown8 hgrow8))
                          go_roundw
                          case rel => exact ⟨j + 1, _, by go_num, by omega, minv_put (H3N.out.2.2.1 _ HP.out) R5.out.1 G8.out O8.out (put_len HQD.out HTH.out (by show _ = q + 1 + (m.length - (q)); omega)) (put_flat HQD.out HTH.out (rfl))⟩
                          case measure => simp [intOf]; omega
                  · obtain ⟨g5, rfl⟩ := R5.out.2.1.not hp
                    have HPP : Hid (P.put op.key op.value = P) := by show P.put op.key op.value = P; unfold Pure.put; rw [if_neg hp]
                    clear hp
                    go_wp2
                    go_roundw
                    case rel => exact ⟨j + 1, _, by go_num, by omega, P, m, H3.out, rfl, by have := R5.out.1; rw [HPP.out] at this; exact this.less (fun q hq => .inl hq), O5.out⟩
                    case measure => simp [intOf]; omega
              | false =>
                cases k4 : (op.kind == 4) with
                | true =>
                  as_aux_lemma =>
                    go_wp2_with fail
                    refine (at_del AC.out AC.out.old.size op.key HK.out).mono ?_
                    rintro e w5 ⟨ev, rfl, hres⟩
                    have R5 := Lib.hid hres
                    clear hres
                    have O5 := Lib.hid (own_eq (fun q hq => R5.out.2.2 q (.inl hq)) OC.out)
                    clear x0 x10 x12
                    by_cases hz : P.atE op.key noB = 0
                    · have he := R5.out.2.1
                      rw [hz] at he
                      obtain rfl := he.nil
                      have H3N := Lib.hid (three_now H3.out hz)
                      have hget : (P.get op.key).isSome = isAt m op.key := by rw [get_eq, if_pos hz, isAt_getL, H3N.out.1]
                      rw [hget]
                      obtain ⟨en0, hen0, hez0, hez1, hez2⟩ := info_parts info65
                      clear hz he hget
                      cases hth : isAt m op.key with
                      | true =>
                        have HTH := Lib.hid hth
                        rcases O5.out.2 with ⟨hnil, h0⟩ | ⟨gm, cap, cur, hv, hb, hg, h1, h2, h3, h4⟩
                        · obtain rfl := List.eq_nil_of_length_eq_zero h0
                          cases hth
                        · injection hv with hv1 _ hv2
                          subst hv1; subst hv2
                          have NT := Lib.hid (take_news (i := q) hg h4)
                          have ND := Lib.hid (fun i hi => drop_news (i := i) hg h4 hi)
                          have e1 : (q : Int) ≤ m.length := by omega
                          have e2 : (q : Int) ≤ mc := by omega
                          have e3 : (m.length : Int) ≤ mc := by omega
                          have e4 : (0 : Int) ≤ q := by omega
                          have hmc : mc ≤ 9223372036854775807 := by unfold maxLen at h2; omega
                          clear hb hg h2 h3 h4
                          obtain ⟨hql, hqk⟩ := isAt_eq hth
                          have hql : q < m.length := by rw [HQD.out]; exact hql
                          clear hqk
                          have e5 : (q : Int) + 1 ≤ m.length := by omega
                          have e6 : (q : Int) + 1 ≤ mc := by omega
                          have e7 : (0 : Int) ≤ (q : Int) + 1 := by omega
                          have e8 : ((q : Int) + 1).toNat = q + 1 := by omega
                          clear hth
                          have ND := Lib.hid (ND.out (q + 1) (by omega))
                          by_cases hcap : mc = q + 1
                          · have hcap2 := hcap.symm
                            subst hcap2
                            clear hcap
                            go_wp2_with (first
                              | (refine wpList_append_own _ rfl (.tmp 164) (.tmp 167) 33 rfl w5.heap.size 65 en0 zEnt 2 32 Try.underlying33 hen0 hez0 hez1 hez2 rfl (by decide) _ _ _ rfl (World.ownsRow_nil _ _ _ _) ⟨gm, 0, none⟩ q _ (flat (m.take q)) rfl (by rw [flat_length, List.length_take]; omega) NT.out (flat_one _) (by unfold maxLen; omega) (by omega) (Nat.le_refl _) ?_; intro v6 w6 hown6 hgrow6 _; simp only [Nat.zero_add, List.nil_append] at hown6; obtain ⟨a6, c6, rfl⟩ := own_form hown6; have O6 := Lib.hid hown6; have G6 := Lib.hid (Chg.of_grown hgrow6 (F := fun _ => False) (fun q h => by cases h)); clear hown6 hgrow6)
                              | (refine wpList_append_own _ rfl (.tmp 169) (.tmp 173) 33 rfl w5.heap.size 65 en0 zEnt 2 32 Try.underlying33 hen0 hez0 hez1 hez2 rfl (by decide) _ _ _ rfl O6.out ⟨gm, 0, none⟩ _ _ [] rfl (by show 0 = _; omega) (fun j u h => by simp at h) (by simp) (by unfold maxLen; omega) (by omega) (by have := G6.out.size; omega) ?_; intro v8 w8 hown8 hgrow8 _; obtain ⟨a8, c8, rfl⟩ := own_form hown8; have O8 := Lib.hid hown8; have G8 := Lib.hid (chg_own3 G6.out O6.out hgrow8); clear hown8 hgrow8))
                            go_roundw
                            case rel => exact ⟨j + 1, _, by go_num, by omega, minv_del H3N.out.2.2.2 R5.out.1 G8.out O8.out (del_len HQD.out HTH.out (by omega)) (del_flat2 HQD.out HTH.out (drop_nil_flat (show m.length ≤ q + 1 by omega)))⟩
                            case measure => simp [intOf]; omega
                          · go_wp2_with (first
                              | (refine wpList_append_own _ rfl (.tmp 164) (.tmp 167) 33 rfl w5.heap.size 65 en0 zEnt 2 32 Try.underlying33 hen0 hez0 hez1 hez2 rfl (by decide) _ _ _ rfl (World.ownsRow_nil _ _ _ _) ⟨gm, 0, none⟩ q _ (flat (m.take q)) rfl (by rw [flat_length, List.length_take]; omega) NT.out (flat_one _) (by unfold maxLen; omega) (by omega) (Nat.le_refl _) ?_; intro v6 w6 hown6 hgrow6 _; simp only [Nat.zero_add, List.nil_append] at hown6; obtain ⟨a6, c6, rfl⟩ := own_form hown6; have O6 := Lib.hid hown6; have G6 := Lib.hid (Chg.of_grown hgrow6 (F := fun _ => False) (fun q h => by cases h)); clear hown6 hgrow6)
                              | (refine wpList_append_own _ rfl (.tmp 169) (.tmp 173) 33 rfl w5.heap.size 65 en0 zEnt 2 32 Try.underlying33 hen0 hez0 hez1 hez2 rfl (by decide) _ _ _ rfl O6.out ⟨gm, (q + 1) * 2, none⟩ (m.length - (q + 1)) _ (flat (m.drop (q + 1))) rfl (by rw [flat_length, List.length_drop]) (fun j u h => G6.out.cell (ND.out j u h) (fun h => h)) (flat_one _) (by unfold maxLen; omega) (by omega) (by have := G6.out.size; omega) ?_; intro v8 w8 hown8 hgrow8 _; obtain ⟨a8, c8, rfl⟩ := own_form hown8; have O8 := Lib.hid hown8; have G8 := Lib.hid (chg_own3 G6.out O6.out hgrow8); clear hown8 hgrow8))
                            go_roundw
                            case rel => exact ⟨j + 1, _, by go_num, by omega, minv_del H3N.out.2.2.2 R5.out.1 G8.out O8.out (del_len HQD.out HTH.out (by omega)) (del_flat2 HQD.out HTH.out (rfl))⟩
                            case measure => simp [intOf]; omega
                      | false =>
                        have HTH := Lib.hid hth
                        clear hth
                        go_wp2
                        go_roundw
                        case rel => exact ⟨j + 1, _, by go_num, by omega, _, m, by have := H3N.out.2.2.2; rw [delNow_none HTH.out] at this; exact this, rfl, R5.out.1.less (fun q hq => .inl hq), O5.out⟩
                        case measure => simp [intOf]; omega
                    · obtain ⟨g5, rfl⟩ := R5.out.2.1.not hz
                      have HPP : Hid (P.del op.key = P) := by show P.del op.key = P; unfold Pure.del; exact if_neg hz
                      clear hz
                      obtain ⟨bb, hbb⟩ : ∃ bb, bb = (P.get op.key).isSome := ⟨_, rfl⟩
                      rw [← hbb]
                      clear hbb
                      go_wp2
                      go_roundw
                      case rel => exact ⟨j + 1, _, by go_num, by omega, P, m, H3.out, rfl, by have := R5.out.1; rw [HPP.out] at this; exact this.less (fun q hq => .inl hq), O5.out⟩
                      case measure => simp [intOf]; omega
                | false =>
                  as_aux_lemma =>
                    go_wp2_with fail
                    refine (at_get AC.out op.key HK.out).mono ?_
                    rintro e w5 ⟨ev, rfl, hres⟩
                    have R5 := Lib.hid hres
                    clear hres
                    have O5 := Lib.hid (own_eq (fun q hq => R5.out.2.2 q (.inl hq)) OC.out)
                    clear x0 x10 x12
                    by_cases hz : P.atE op.key noB = 0
                    · have he := R5.out.2.1
                      rw [hz] at he
                      obtain rfl := he.nil
                      have hget : P.get op.key = getL m op.key := by rw [get_eq, if_pos hz, (three_now H3.out hz).2.1]
                      rw [hget]
                      clear hz he hget
                      cases hth : isAt m op.key with
                      | true =>
                        obtain ⟨hql, hqk⟩ := isAt_eq hth
                        have hgl : getL m op.key = some m[posOf m op.key].2 := by unfold getL; rw [if_pos hth, List.getElem?_eq_getElem hql]; rfl
                        rw [hgl, show optV (some m[posOf m op.key].2) = .string m[posOf m op.key].2 from rfl, show (some m[posOf m op.key].2).isSome = true from rfl]
                        simp only [← HQD.out] at hql ⊢
                        clear hgl hqk hth
                        obtain ⟨sa, sc, hv, _, _, hrd⟩ := reads_of_owns O5.out
                        injection hv with hv1 _ hv2
                        subst hv1; subst hv2
                        rcases hrd with hn | ⟨mb, mo, rfl, hcl⟩
                        · rw [hn] at hql; simp at hql
                        have ck := (hcl q hql).2
                        clear hcl
                        go_wp2
                        go_roundw
                        case rel => exact ⟨j + 1, _, by go_num, by omega, P, m, H3.out, rfl, R5.out.1.less (fun q hq => .inl hq), O5.out⟩
                        case measure => simp [intOf]; omega
                      | false =>
                        have hgl : getL m op.key = none := by unfold getL; rw [hth]; rfl
                        rw [hgl, show optV none = .string noB from rfl, show (none : Option ByteArray).isSome = false from rfl]
                        clear hgl hth
                        go_wp2
                        go_roundw
                        case rel => exact ⟨j + 1, _, by go_num, by omega, P, m, H3.out, rfl, R5.out.1.less (fun q hq => .inl hq), O5.out⟩
                        case measure => simp [intOf]; omega
                    · obtain ⟨g5, rfl⟩ := R5.out.2.1.not hz
                      clear hz
                      obtain ⟨bb, hbb⟩ : ∃ bb, bb = (P.get op.key).isSome := ⟨_, rfl⟩
                      obtain ⟨sb, hsb⟩ : ∃ sb, Value.string sb = optV (P.get op.key) := ⟨_, rfl⟩
                      rw [← hbb, ← hsb]
                      clear hbb hsb
                      go_wp2
                      go_roundw
                      case rel => exact ⟨j + 1, _, by go_num, by omega, P, m, H3.out, rfl, R5.out.1.less (fun q hq => .inl hq), O5.out⟩
                      case measure => simp [intOf]; omega
        · obtain ⟨P, m, h3, hmn, hat, hown⟩ := HI.out
          subst hmn
          obtain ⟨ma, mc, rfl⟩ := own_form hown
          have H3 := Lib.hid h3
          have AT := Lib.hid hat
          have OWN := Lib.hid hown
          have hm24 := (three_sorted h3).2.1
          have hcase : (¬ j < l.length) ∨ (j < l.length ∧ ¬ j < 100) := by omega
          clear h3 hat hown HI hlt
          rcases hcase with hx | ⟨hx, hx2⟩
          all_goals
            go_wp2_with fail
            refine (at_scan AT.out kLo kHi (by unfold maxLen; decide) (by unfold maxLen; decide)).mono ?_
            rintro e w5 ⟨v5, ev5, rfl, he5, hat5, hc5, hown5⟩
            rw [(three_scan H3.out).1] at he5 hown5
            obtain rfl := he5.nil
            have A5 := Lib.hid hat5
            have O5 := Lib.hid (hown5 rfl)
            have M5 := Lib.hid (hc5.owns OWN.out (fun _ _ h => h))
            clear he5 hat5 hc5 hown5
            go_wp2_with fail
            refine (sameEnts_some _ _ _ _ _ (reads_of_owns O5.out) (reads_of_owns M5.out)).mono ?_
            rintro e w6 ⟨⟨r, rfl, hr⟩, hc6⟩
            have C6 := Lib.hid (A5.out.old.trans hc6 (fun _ h => h.elim))
            have HR := Lib.hid hr
            have M6 := Lib.hid (hc6.owns M5.out (fun _ _ h => h))
            clear hc6 hr
            cases r with
            | true =>
              go_wp2
              go_ret
              exact ⟨rfl, C6.out⟩
            | false =>
              rcases three_end H3.out with he | ⟨hm0, hlt⟩
              · have := HR.out he; cases this
              · rw [gt_two] at hlt
                obtain ⟨sa, sc, hv, _, _, hrd⟩ := reads_of_owns M6.out
                injection hv with hv1 _ hv2
                subst hv1; subst hv2
                rcases hrd with hn | ⟨mb, mo, rfl, hcl⟩
                · rw [hn] at hm0; simp at hm0
                have ck := (hcl (m.length - 1) (by omega)).1
                obtain ⟨lk, hlk⟩ : ∃ lk, lk = (m[m.length - 1]'(by omega)).1 := ⟨_, rfl⟩
                rw [← hlk] at hlt ck
                have h1 : ltB lk kHi = false := by cases hq : ltB lk kHi with
                  | false => rfl
                  | true => rw [hq] at hlt; cases hlt
                have h2 : eqB lk kHi = false := by cases hq : eqB lk kHi with
                  | false => rfl
                  | true => rw [hq, Bool.or_true] at hlt; cases hlt
                have hkl : kHi.toList = [11, 255] := by rw [Lib.toList_data]; rfl
                have l1 : Op.bytesLess lk.toList (ByteArray.toList { data := #[11, 255] }) = false := h1
                have l2 : (lk.toList == ByteArray.toList { data := #[11, 255] }) = false := h2
                have l3 : Op.bytesLess lk.toList [11, 255] = false := by rw [← hkl]; exact h1
                have l4 : (lk.toList == [11, 255]) = false := by rw [← hkl]; exact h2
                have g1 : (0 : Int) < m.length := by omega
                have g2 : (0 : Int) ≤ (m.length : Int) - 1 := by omega
                have g3 : (m.length : Int) - 1 < m.length := by omega
                have g4 : ((m.length : Int) - 1).toNat = m.length - 1 := by omega
                clear hcl hlt hlk h1 h2 hkl hm0
                go_wp2
                go_ret
                exact ⟨rfl, C6.out⟩
end Go.Proofs.Ytpdchdbkfflgfaa
