/- keys.Span; Scan of a session, whatever it is. -/
import Derived.Test.YtpdchdbkfflgfaaV
import Derived.Test.YtpdchdbkfflgfaaE1
namespace Go.Proofs.Ytpdchdbkfflgfaa
open Go.RowKit

theorem gt_two (a b : ByteArray) : ltB a b = !(ltB b a || eqB b a) := by
  cases h1 : ltB b a with
  | true => rw [ltB_asymm h1]; rfl
  | false =>
    cases h2 : eqB b a with
    | true => rw [eqB_iff.1 h2, ltB_irrefl]; rfl
    | false =>
      cases h3 : ltB a b with
      | true => rfl
      | false => rw [eqB_iff.2 (ltB_total h1 h3)] at h2; cases h2
theorem span_bad (f t : ByteArray) (w : World) (h : ltB t f = true) :
    Calls Try.prog 38 #[.string f, .string t] w fun e w' => e = .returned (.tuple #[.int .i64 0, .int .i64 0, .int .i64 1]) ∧ w = w' := by
  rw [gt_two] at h
  have h1 : Op.bytesLess f.toList t.toList = false := by show ltB f t = false; cases hq : ltB f t with
    | false => rfl
    | true => rw [hq] at h; cases h
  have h2 : (f.toList == t.toList) = false := by show eqB f t = false; cases hq : eqB f t with
    | false => rfl
    | true => rw [hq, Bool.or_true] at h; cases h
  clear h
  go_enter Try.func38, Try.ntmps38
  go_wp2
  go_ret3
  exact ⟨rfl, rfl⟩
theorem span_ok (f t : ByteArray) (w : World) (h : ltB t f = false) (hf : f.size ≤ maxLen) (ht : t.size ≤ maxLen) :
    Calls Try.prog 38 #[.string f, .string t] w fun e w' => e = .returned (.tuple #[.int .i64 (kb f), .int .i64 (kb t), .int .i64 0]) ∧ Chg (fun _ => False) w w' := by
  rw [gt_two] at h
  have Hf := Lib.hid hf
  have Ht := Lib.hid ht
  clear hf ht
  cases h1 : ltB f t with
  | true =>
    have h1' : Op.bytesLess f.toList t.toList = true := h1
    clear h1 h
    go_enter Try.func38, Try.ntmps38
    go_wp2_with fail
    refine (keyBucket_any _ _ Hf.out).mono ?_
    rintro e w1 ⟨rfl, hc1⟩
    have C1 := Lib.hid hc1
    clear hc1
    go_wp2_with fail
    refine (keyBucket_any _ _ Ht.out).mono ?_
    rintro e w2 ⟨rfl, hc2⟩
    have C2 := Lib.hid hc2
    clear hc2
    go_wp2
    go_ret3
    exact ⟨rfl, C1.out.trans C2.out (fun _ h => h.elim)⟩
  | false =>
    have h1' : Op.bytesLess f.toList t.toList = false := h1
    have h2' : (f.toList == t.toList) = true := by
      show eqB f t = true
      cases hq : eqB f t with
      | true => rfl
      | false => rw [h1, hq] at h; cases h
    clear h1 h
    go_enter Try.func38, Try.ntmps38
    go_wp2_with fail
    refine (keyBucket_any _ _ Hf.out).mono ?_
    rintro e w1 ⟨rfl, hc1⟩
    have C1 := Lib.hid hc1
    clear hc1
    go_wp2_with fail
    refine (keyBucket_any _ _ Ht.out).mono ?_
    rintro e w2 ⟨rfl, hc2⟩
    have C2 := Lib.hid hc2
    clear hc2
    go_wp2
    go_ret3
    exact ⟨rfl, C1.out.trans C2.out (fun _ h => h.elim)⟩
def ScanP (S : Ses) (f t : ByteArray) (w : World) (e : Ending) (w' : World) : Prop :=
  ∃ v ev, e = .returned (.tuple #[v, ev]) ∧ IsErr w.heap.size w' ev sScan (S.pure.scanE f t) ∧ Chg (fun _ => False) w w' ∧
    (S.pure.scanE f t ≠ 0 → v = .slice none 0 0) ∧ (S.pure.scanE f t = 0 → w'.ownsRow w.heap.size 65 2 v (S.pure.scanL f t).length (flat (S.pure.scanL f t)))
theorem spanL_succ (P : Pure) (f t : ByteArray) (a n : Nat) : P.spanL f t a (n + 1) = P.spanL f t a n ++ (P.nowB ((a + n : Nat) : Int)).filter (inR f t) := by
  unfold Pure.spanL
  rw [List.range'_concat, List.flatMap_append]
  simp
theorem spanL_len {P : Pure} (h : P.Ok) (f t : ByteArray) (a n : Nat) : (P.spanL f t a n).length ≤ 8 * n := by
  induction n with
  | zero => simp [Pure.spanL]
  | succ n ih =>
    rw [spanL_succ, List.length_append]
    have h1 := List.length_filter_le (inR f t) (P.nowB ((a + n : Nat) : Int))
    have h2 := (nowB_okay h ((a + n : Nat) : Int)).2.1
    omega
theorem spanned_succ (P : Pure) (a n : Nat) : (List.range' a (n + 1)).all (fun k : Nat => P.has k) = ((List.range' a n).all (fun k : Nat => P.has k) && P.has ((a + n : Nat) : Int)) := by
  rw [List.range'_concat, List.all_append]
  simp
theorem filt_in {L l : List Ent} {p : Ent → Bool} {j : Nat} (hj : j < l.length) (h : p l[j] = true) : L ++ (l.take (j + 1)).filter p = (L ++ (l.take j).filter p) ++ [l[j]] := by
  rw [List.take_succ_eq_append_getElem hj, List.filter_append, List.filter_cons, h]; simp
theorem filt_out {L l : List Ent} {p : Ent → Bool} {j : Nat} (hj : j < l.length) (h : p l[j] = false) : L ++ (l.take (j + 1)).filter p = L ++ (l.take j).filter p := by
  rw [List.take_succ_eq_append_getElem hj, List.filter_append, List.filter_cons, h]; simp
theorem news_q (w : World) (o : Obj) (l : List Value) (t : TypeId) : ∀ j z, l[j]? = some z → ((w.alloc o).alloc (.cells l.toArray t)).cell? ((⟨w.heap.size + 1, 0, none⟩ : Addr).add j) = some z := by
  have := news_alloc (w.alloc o) l t
  rw [World.size_alloc] at this
  exact this
theorem chg_own2 {e k : Nat} {size : Nat} {w0 w w1 : World} {o : Obj} {v : Value} {xs : List Value} (hc : Chg (fun _ => False) w0 w) (ho : w.ownsRow w0.heap.size e size v k xs) (hg : (w.alloc o).grownBy w1 v.ownBlock) : Chg (fun _ => False) w0 w1 :=
  (hc.alloc o).trans (Chg.of_grown hg (F := fun q => v.ownBlock = some q) (fun q h => h)) (fun q hq hlt => by have := (own_lt ho hq).1; omega)
theorem app_one {w : World} {B n : Nat} {v : Value} {M : List Ent} {x : Ent} {l : List Value} (h : w.ownsRow B 65 2 v n l) (hn : n = M.length + 1) (hl : l = flat M ++ [.string x.1, .string x.2]) : w.ownsRow B 65 2 v (M ++ [x]).length (flat (M ++ [x])) := by
  subst hn; subst hl
  rw [flat_append, List.length_append]; exact h
theorem scan_err {S : Ses} {f t : ByteArray} {w w' : World} {ev : Value} {n : Int} (hn : S.pure.scanE f t = n) (h0 : n ≠ 0) (he : IsErr w.heap.size w' ev sScan n) (hc : Chg (fun _ => False) w w') :
    ScanP S f t w (.returned (.tuple #[.slice none 0 0, ev])) w' := by
  subst hn
  exact ⟨_, ev, rfl, he, hc, fun _ => rfl, fun h => absurd h h0⟩
set_option maxRecDepth 100000 in
set_option maxHeartbeats 4000000 in
theorem scan_main {B : Nat} {S : Ses} (f t : ByteArray) (w : World) (h : S.Lies B w) (hf : f.size ≤ maxLen) (ht : t.size ≤ maxLen) (hcom : S.com = false) (hmf : mayK f = true) (hmt : mayK t = true) (hft : ltB t f = false) :
    Calls Try.prog 21 #[.pointer (some ⟨S.p, 0, none⟩), .string f, .string t] w fun e w' => ScanP S f t w e w' := by
  have c6 := h.c6
  have HL := Lib.hid h
  have Hf := Lib.hid hf
  have Ht := Lib.hid ht
  have HFT := Lib.hid hft
  have hE : S.pure.scanE f t = if S.pure.spanned (kb f) (kb t) then 0 else 202 := by
    unfold Pure.scanE
    rw [show S.pure.com = false from hcom, hmf, hmt, hft]; rfl
  have HE := Lib.hid hE
  have HK := Lib.hid h.ok
  clear h hf ht hE hft
  go_enter Try.func21, Try.ntmps21
  go_wp2_with fail
  refine (open_some _ _ _ c6).mono ?_
  rintro e w1 ⟨rfl, rfl⟩
  rw [hcom]
  simp only [Bool.false_eq_true, if_false]
  clear c6 hcom
  go_wp2_with (first
    | (go_at_call 37; refine (mayKey_any _ _).mono ?_; rintro e w1 ⟨rfl, rfl⟩)
    | (go_at_call 38; refine (span_ok _ _ _ HFT.out Hf.out Ht.out).mono ?_; rintro e w2 ⟨rfl, hc2⟩; have HC2 := Lib.hid hc2; clear hc2))
  have k1 := kb_lt f
  have k2 := kb_lt t
  clear hmf hmt
  go_loopw [12, 13] (fun v i wr => ∃ k : Nat, i = .int .i64 k ∧ kb f ≤ k ∧ (k ≤ kb t + 1 ∨ k = kb f) ∧ Hid ((List.range' (kb f) (k - kb f)).all (fun q : Nat => S.pure.has q) = true) ∧
    Hid (wr.ownsRow w.heap.size 65 2 v (S.pure.spanL f t (kb f) (k - kb f)).length (flat (S.pure.spanL f t (kb f) (k - kb f)))) ∧ Hid (Chg (fun _ => False) w wr)) (fun _ i _ => 100 - (intOf i).toNat)
  case atStart => exact ⟨kb f, rfl, by omega, .inr rfl, by rw [Nat.sub_self]; exact rfl, by rw [Nat.sub_self]; exact World.ownsRow_nil _ _ _ _, HC2.out⟩
  case round =>
    obtain ⟨k, rfl, hk0, hk1, HA, OWN, HC⟩ := hrel
    have HLr := Lib.hid (HL.out.same HC.out)
    obtain ⟨oa, oc, rfl⟩ := own_form OWN.out
    by_cases hlt : k ≤ kb t
    · cases hb : S.pure.has (k : Int) with
      | false =>
        have HN : Hid (S.pure.scanE f t = 202) := by
          show S.pure.scanE f t = 202
          rw [HE.out, if_neg]
          intro hsp
          unfold Pure.spanned at hsp
          have := List.all_eq_true.1 hsp k (List.mem_range'_1.2 ⟨hk0, by omega⟩)
          rw [hb] at this; cases this
        go_wp2_with (first
          | (go_at_call 10; refine (has_any _ _ HLr.out).mono ?_; rintro e w3 ⟨rfl, rfl⟩; rw [← has_pure, hb])
          | (go_at_call 25; refine (fault_err _ _ _).mono ?_; rintro e w4 ⟨ev, rfl, he, hc4⟩; have HEV := Lib.hid he; have HC4 := Lib.hid hc4; clear he hc4))
        go_ret2
        exact scan_err HN.out (by decide) (HEV.out.mono HC.out.size (.refl (fun _ => False) _) (fun _ h => h.elim)) (HC.out.trans HC4.out (fun _ h => h.elim))
      | true =>
        have hsome : ∃ x, S.find (k : Int) = some x := by
          rw [has_pure] at hb
          exact Option.isSome_iff_exists.1 hb
        obtain ⟨x, hx⟩ := hsome
        have HX := Lib.hid hx
        have hnow : S.pure.nowB (k : Int) = x.d.now := by unfold Pure.nowB; rw [find_pure, hx]; rfl
        have HNOW := Lib.hid hnow
        have c5 := HLr.out.c5
        have hl := HLr.out.look hx
        have ct := HLr.out.nowCell hx
        have hrd := reads_of_owns (HL.out.rows x (find_mem hx).1).now
        have h8 : x.d.now.length ≤ 8 := (HLr.out.fine x (find_mem hx).1).now.2.1
        obtain ⟨na, nc, hnv, _, _, hcells⟩ := hrd
        have HCE := Lib.hid hcells
        rw [hnv] at ct
        clear hx hnow hnv hcells
        go_wp2_with (go_at_call 10; refine (has_any _ _ HLr.out).mono ?_; rintro e w3 ⟨rfl, rfl⟩; rw [← has_pure, hb])
        clear c5 hl ct
        have hLl := spanL_len HK.out f t (kb f) (k - kb f)
        obtain ⟨L, hL⟩ : ∃ L, L = S.pure.spanL f t (kb f) (k - kb f) := ⟨_, rfl⟩
        have HLL := Lib.hid hL
        rw [← hL] at hLl
        have OWL : Hid (wr.ownsRow w.heap.size 65 2 (.slice oa L.length oc) L.length (flat L)) := by rw [hL]; exact OWN.out
        rw [← hL]
        obtain ⟨en0, hen0, hez0, hez1, hez2⟩ := info_parts info65
        clear hL OWN
        go_loopw [12, 63] (fun v i wq => ∃ j : Nat, i = .int .i64 j ∧ j ≤ x.d.now.length ∧ Hid (wq.ownsRow w.heap.size 65 2 v (L ++ (x.d.now.take j).filter (inR f t)).length (flat (L ++ (x.d.now.take j).filter (inR f t)))) ∧ Hid (Chg (fun _ => False) w wq)) (fun _ i _ => x.d.now.length - (intOf i).toNat)
        case atStart => exact ⟨0, rfl, Nat.zero_le _, by show World.ownsRow _ _ _ _ _ _ _; simpa using OWL.out, HC.out⟩
        case round =>
          obtain ⟨j, rfl, hj, OW, HQ⟩ := hrel
          obtain ⟨pa, pc, rfl⟩ := own_form OW.out
          by_cases hjl : j < x.d.now.length
          · rcases HCE.out with hz | ⟨b, o, rfl, hcl⟩
            · rw [hz] at hjl; simp at hjl
            have ck := HQ.out.cell (hcl j hjl).1 (fun h => h)
            have cv := HQ.out.cell (hcl j hjl).2 (fun h => h)
            have FI := Lib.hid (fun h => filt_in (L := L) (p := inR f t) hjl h)
            have FO := Lib.hid (fun h => filt_out (L := L) (p := inR f t) hjl h)
            have hfl : ((x.d.now.take j).filter (inR f t)).length ≤ 8 := by
              have h1 := List.length_filter_le (inR f t) (x.d.now.take j)
              have h2 : (x.d.now.take j).length ≤ x.d.now.length := by rw [List.length_take]; omega
              omega
            have hll : (L ++ (x.d.now.take j).filter (inR f t)).length ≤ 600 := by rw [List.length_append]; omega
            obtain ⟨M, hM⟩ : ∃ M, M = L ++ (x.d.now.take j).filter (inR f t) := ⟨_, rfl⟩
            rw [← hM] at hll ⊢
            have OW2 : Hid (wr.ownsRow w.heap.size 65 2 (.slice pa M.length pc) M.length (flat M)) := by rw [hM]; exact OW.out
            have HM := Lib.hid hM
            have h63 : M.length + 1 ≤ maxLen := by unfold maxLen; omega
            have h32 : (M.length + 1) * 32 ≤ 140737488355328 := by omega
            clear hcl hM OW hfl
            have CWX := Lib.hid fun (o : Obj) => (Chg.refl (fun _ => False) wr).alloc o
            cases h1 : ltB x.d.now[j].1 f with
            | true =>
              have hin : Hid (inR f t x.d.now[j] = false) := by show inR f t x.d.now[j] = false; unfold inR; rw [h1]; rfl
              have h1' : Op.bytesLess x.d.now[j].1.toList f.toList = true := h1
              clear h1
              go_wp2
              go_roundw
              case rel => exact ⟨j + 1, by go_num, by omega, by show World.ownsRow _ _ _ _ _ _ _; rw [FO.out hin.out, ← HM.out]; exact (CWX.out _).owns OW2.out (fun _ _ h => h), HQ.out.alloc _⟩
              case measure => simp [intOf]; omega
            | false =>
              have h1' : Op.bytesLess x.d.now[j].1.toList f.toList = false := h1
              cases h2 : ltB x.d.now[j].1 t with
              | true =>
                have hin : Hid (inR f t x.d.now[j] = true) := by show inR f t x.d.now[j] = true; unfold inR; rw [h1, gt_two t, h2]; rfl
                have h2' : Op.bytesLess x.d.now[j].1.toList t.toList = true := h2
                clear h1 h2
                go_wp2_with ((at_builtin; refine wpList_append_own _ rfl _ _ 33 rfl w.heap.size 65 en0 zEnt 2 32 Try.underlying33 hen0 hez0 hez1 hez2 rfl (by decide) _ _ _ rfl (((CWX.out _).alloc _).owns OW2.out (fun _ _ h => h)) ⟨wr.heap.size + 1, 0, none⟩ 1 1 [.string x.d.now[j].1, .string x.d.now[j].2] rfl rfl (news_q wr _ _ 65) (by simp [Value.oneCell']) h63 h32 (by have := HQ.out.size; simp; omega) ?_; intro v1 w1 hown1 hgrow1 _; obtain ⟨ra, rc, rfl⟩ := own_form hown1; have O1 := Lib.hid hown1; have G1 := Lib.hid hgrow1; clear hown1 hgrow1))
                go_roundw
                case rel =>
                  refine ⟨j + 1, by go_num, by omega, ?_, chg_own2 (HQ.out.alloc _) ((CWX.out _).owns OW2.out (fun _ _ h => h)) G1.out⟩
                  show World.ownsRow _ _ _ _ _ _ _
                  rw [FI.out hin.out, ← HM.out]
                  exact app_one O1.out rfl rfl
                case measure => simp [intOf]; omega
              | false =>
                have h2' : Op.bytesLess x.d.now[j].1.toList t.toList = false := h2
                cases h3 : eqB x.d.now[j].1 t with
                | true =>
                  have hin : Hid (inR f t x.d.now[j] = true) := by show inR f t x.d.now[j] = true; unfold inR; rw [h1, gt_two t, h2, h3]; rfl
                  have h3' : (x.d.now[j].1.toList == t.toList) = true := h3
                  clear h1 h2 h3
                  go_wp2_with ((at_builtin; refine wpList_append_own _ rfl _ _ 33 rfl w.heap.size 65 en0 zEnt 2 32 Try.underlying33 hen0 hez0 hez1 hez2 rfl (by decide) _ _ _ rfl (((CWX.out _).alloc _).owns OW2.out (fun _ _ h => h)) ⟨wr.heap.size + 1, 0, none⟩ 1 1 [.string x.d.now[j].1, .string x.d.now[j].2] rfl rfl (news_q wr _ _ 65) (by simp [Value.oneCell']) h63 h32 (by have := HQ.out.size; simp; omega) ?_; intro v1 w1 hown1 hgrow1 _; obtain ⟨ra, rc, rfl⟩ := own_form hown1; have O1 := Lib.hid hown1; have G1 := Lib.hid hgrow1; clear hown1 hgrow1))
                  go_roundw
                  case rel =>
                    refine ⟨j + 1, by go_num, by omega, ?_, chg_own2 (HQ.out.alloc _) ((CWX.out _).owns OW2.out (fun _ _ h => h)) G1.out⟩
                    show World.ownsRow _ _ _ _ _ _ _
                    rw [FI.out hin.out, ← HM.out]
                    exact app_one O1.out rfl rfl
                  case measure => simp [intOf]; omega
                | false =>
                  have hin : Hid (inR f t x.d.now[j] = false) := by show inR f t x.d.now[j] = false; unfold inR; rw [h1, gt_two t, h2, h3]; rfl
                  have h3' : (x.d.now[j].1.toList == t.toList) = false := h3
                  clear h1 h2 h3
                  go_wp2
                  go_roundw
                  case rel => exact ⟨j + 1, by go_num, by omega, by show World.ownsRow _ _ _ _ _ _ _; rw [FO.out hin.out, ← HM.out]; exact (CWX.out _).owns OW2.out (fun _ _ h => h), HQ.out.alloc _⟩
                  case measure => simp [intOf]; omega
          · have hje : j = x.d.now.length := by omega
            have OWF : Hid (wr.ownsRow w.heap.size 65 2 (.slice pa (L ++ (x.d.now.take j).filter (inR f t)).length pc) (S.pure.spanL f t (kb f) (k + 1 - kb f)).length (flat (S.pure.spanL f t (kb f) (k + 1 - kb f)))) := by
              show World.ownsRow _ _ _ _ _ _ _
              have e : S.pure.spanL f t (kb f) (k + 1 - kb f) = L ++ (x.d.now.take j).filter (inR f t) := by
                rw [show k + 1 - kb f = (k - kb f) + 1 from by omega, spanL_succ, ← HLL.out, show kb f + (k - kb f) = k from by omega, HNOW.out, hje, List.take_length]
              rw [e]; exact OW.out
            have HA2 : Hid ((List.range' (kb f) (k + 1 - kb f)).all (fun q : Nat => S.pure.has q) = true) := by
              show _ = true
              rw [show k + 1 - kb f = (k - kb f) + 1 from by omega, spanned_succ, show kb f + (k - kb f) = k from by omega, HA.out, hb]; rfl
            clear hje
            go_wp2
            go_roundw
            case rel => exact ⟨k + 1, by go_num, by omega, by omega, HA2.out, OWF.out, HQ.out⟩
            case measure => simp [intOf]; omega
    · have HN : Hid (S.pure.scanE f t = 0) := by
        show S.pure.scanE f t = 0
        rw [HE.out, if_pos]
        unfold Pure.spanned
        have := HA.out
        rw [show kb t + 1 - kb f = k - kb f from by omega]; exact this
      have HW : Hid (wr.ownsRow w.heap.size 65 2 (.slice oa (S.pure.spanL f t (kb f) (k - kb f)).length oc) (S.pure.scanL f t).length (flat (S.pure.scanL f t))) := by
        show World.ownsRow _ _ _ _ _ _ _
        unfold Pure.scanL
        rw [show kb t + 1 - kb f = k - kb f from by omega]; exact OWN.out
      go_wp2
      go_ret2
      exact ⟨_, _, rfl, by rw [HN.out]; exact isErr_nil _ _ _, HC.out, fun h => absurd HN.out h, fun _ => HW.out⟩
set_option maxRecDepth 100000 in
set_option maxHeartbeats 2000000 in
theorem scan_key {B : Nat} {S : Ses} (f t : ByteArray) (w : World) (h : S.Lies B w) (hcom : S.com = false) (hk : (mayK f && mayK t) = false) :
    Calls Try.prog 21 #[.pointer (some ⟨S.p, 0, none⟩), .string f, .string t] w fun e w' => ScanP S f t w e w' := by
  have c6 := h.c6
  have HE : Hid (S.pure.scanE f t = 11) := by
    show S.pure.scanE f t = 11
    unfold Pure.scanE
    rw [show S.pure.com = false from hcom, hk]; rfl
  cases hmf : mayK f with
  | false =>
    clear h hk
    go_enter Try.func21, Try.ntmps21
    go_wp2_with fail
    refine (open_some _ _ _ c6).mono ?_
    rintro e w1 ⟨rfl, rfl⟩
    rw [hcom]
    simp only [Bool.false_eq_true, if_false]
    clear c6 hcom
    go_wp2_with (first
      | (go_at_call 37; refine (mayKey_any _ _).mono ?_; rintro e w1 ⟨rfl, rfl⟩)
      | (go_at_call 25; refine (fault_err _ _ _).mono ?_; rintro e w4 ⟨ev, rfl, he, hc4⟩; have HEV := Lib.hid he; have HC4 := Lib.hid hc4; clear he hc4))
    go_ret2
    exact scan_err HE.out (by decide) HEV.out HC4.out
  | true =>
    have hmt : mayK t = false := by rw [hmf] at hk; exact hk
    clear h hk
    go_enter Try.func21, Try.ntmps21
    go_wp2_with fail
    refine (open_some _ _ _ c6).mono ?_
    rintro e w1 ⟨rfl, rfl⟩
    rw [hcom]
    simp only [Bool.false_eq_true, if_false]
    clear c6 hcom
    go_wp2_with (first
      | (go_at_call 37; refine (mayKey_any _ _).mono ?_; rintro e w1 ⟨rfl, rfl⟩)
      | (go_at_call 25; refine (fault_err _ _ _).mono ?_; rintro e w4 ⟨ev, rfl, he, hc4⟩; have HEV := Lib.hid he; have HC4 := Lib.hid hc4; clear he hc4))
    go_ret2
    exact scan_err HE.out (by decide) HEV.out HC4.out
set_option maxRecDepth 100000 in
set_option maxHeartbeats 2000000 in
theorem scan_order {B : Nat} {S : Ses} (f t : ByteArray) (w : World) (h : S.Lies B w) (hcom : S.com = false) (hmf : mayK f = true) (hmt : mayK t = true) (hft : ltB t f = true) :
    Calls Try.prog 21 #[.pointer (some ⟨S.p, 0, none⟩), .string f, .string t] w fun e w' => ScanP S f t w e w' := by
  have c6 := h.c6
  have HFT := Lib.hid hft
  have HE : Hid (S.pure.scanE f t = 1) := by
    show S.pure.scanE f t = 1
    unfold Pure.scanE
    rw [show S.pure.com = false from hcom, hmf, hmt, hft]; rfl
  clear h hft
  go_enter Try.func21, Try.ntmps21
  go_wp2_with fail
  refine (open_some _ _ _ c6).mono ?_
  rintro e w1 ⟨rfl, rfl⟩
  rw [hcom]
  simp only [Bool.false_eq_true, if_false]
  clear c6 hcom
  go_wp2_with (first
    | (go_at_call 37; refine (mayKey_any _ _).mono ?_; rintro e w1 ⟨rfl, rfl⟩)
    | (go_at_call 38; refine (span_bad _ _ _ HFT.out).mono ?_; rintro e w2 ⟨rfl, rfl⟩)
    | (go_at_call 25; refine (fault_err _ _ _).mono ?_; rintro e w4 ⟨ev, rfl, he, hc4⟩; have HEV := Lib.hid he; have HC4 := Lib.hid hc4; clear he hc4))
  go_ret2
  exact scan_err HE.out (by decide) HEV.out HC4.out
theorem scan_any {B : Nat} {S : Ses} (f t : ByteArray) (w : World) (h : S.Lies B w) (hf : f.size ≤ maxLen) (ht : t.size ≤ maxLen) :
    Calls Try.prog 21 #[.pointer (some ⟨S.p, 0, none⟩), .string f, .string t] w fun e w' => ScanP S f t w e w' := by
  cases hcom : S.com with
  | true =>
    refine (scan_com f t w h hcom).mono ?_
    rintro e w' ⟨ev, rfl, he, hc⟩
    have hn : S.pure.scanE f t = 201 := by unfold Pure.scanE; rw [show S.pure.com = true from hcom]; rfl
    exact scan_err hn (by decide) he hc
  | false =>
    cases hk : (mayK f && mayK t) with
    | false => exact scan_key f t w h hcom hk
    | true =>
      rw [Bool.and_eq_true] at hk
      cases hft : ltB t f with
      | true => exact scan_order f t w h hcom hk.1 hk.2 hft
      | false => exact scan_main f t w h hf ht hcom hk.1 hk.2 hft
/-- .. at a pointer p. -/
theorem scan_p {B p : Nat} {S : Ses} (hp : S.p = p) (f t : ByteArray) (w : World) (h : S.Lies B w) (hf : f.size ≤ maxLen) (ht : t.size ≤ maxLen) :
    Calls Try.prog 21 #[.pointer (some ⟨p, 0, none⟩), .string f, .string t] w fun e w' => ScanP S f t w e w' := by
  subst hp; exact scan_any f t w h hf ht
end Go.Proofs.Ytpdchdbkfflgfaa
