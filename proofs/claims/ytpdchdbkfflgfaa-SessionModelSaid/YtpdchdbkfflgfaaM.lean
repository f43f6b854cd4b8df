/- Put. -/
import Derived.Test.YtpdchdbkfflgfaaL
namespace Go.Proofs.Ytpdchdbkfflgfaa
open Go.RowKit

/-- An error value, new since the heap had H blocks. -/
def IsErr (H : Nat) (w : World) (v : Value) (of : ByteArray) (n : Int) : Prop :=
  (n = 0 ∧ v = .nilIface) ∨ (n ≠ 0 ∧ ∃ g, H ≤ g ∧ v = .iface 92 (.pointer (some ⟨g, 0, none⟩)) ∧ w.heap[g]? = some (.cells #[.int .i64 n, .string of] 95 (0, 0)))
theorem isErr_fault (of : ByteArray) (n : Int) (w : World) : IsErr w.heap.size (faultW of n w) (faultV n w) of n := by
  unfold IsErr faultW faultV
  by_cases h : n = 0
  · simp [h]
  · rw [if_neg h, if_neg h]
    exact .inr ⟨h, _, Nat.le_refl _, rfl, heap_alloc_new w _⟩
theorem isErr_nil (of : ByteArray) (H : Nat) (w : World) : IsErr H w .nilIface of 0 := .inl ⟨rfl, rfl⟩
theorem IsErr.mono {H H' : Nat} {w w' : World} {v : Value} {of : ByteArray} {n : Int} {F : Nat → Prop} (h : IsErr H w v of n) (hH : H' ≤ H) (hc : Chg F w w') (hF : ∀ k, F k → k < H) : IsErr H' w' v of n := by
  rcases h with h | ⟨h, g, hg, hv, hb⟩
  · exact .inl h
  · exact .inr ⟨h, g, by omega, hv, hc.obj hb (fun hf => by have := hF g hf; omega)⟩
theorem chg_fault (of : ByteArray) (n : Int) (w : World) (F : Nat → Prop) : Chg F w (faultW of n w) := by
  unfold faultW; split
  · exact .refl _ _
  · exact (Chg.refl _ w).alloc _
/-- What a call on a session leaves. -/
def Ran (B : Nat) (w : World) (S : Ses) (of : ByteArray) (n : Int) (P' : Pure) (w' : World) (ev : Value) : Prop :=
  ∃ S' : Ses, IsErr w.heap.size w' ev of n ∧ S'.Lies B w' ∧ S'.pure = P' ∧ S'.p = S.p ∧ Chg (· ∈ S.blocks) w w' ∧ ∀ q ∈ S'.blocks, q ∈ S.blocks ∨ w.heap.size ≤ q
theorem ran_fault {B : Nat} {S : Ses} {w w1 : World} (h : S.Lies B w) (hc : Chg (fun _ => False) w w1) (of : ByteArray) (n : Int) : Ran B w S of n S.pure (faultW of n w1) (faultV n w1) :=
  ⟨S, (isErr_fault of n w1).mono hc.size (.refl (fun _ => False) _) (fun _ h => h.elim), (h.same hc).same (chg_fault _ _ _ _), rfl, rfl, (hc.trans (chg_fault of n w1 (fun _ => False)) (fun _ h => h.elim)).mono (fun _ h => h.elim), fun _ hq => .inl hq⟩
theorem ran_nil {B : Nat} {S : Ses} {w w1 : World} (h : S.Lies B w) (hc : Chg (fun _ => False) w w1) (of : ByteArray) : Ran B w S of 0 S.pure w1 .nilIface :=
  ⟨S, isErr_nil _ _ _, h.same hc, rfl, rfl, hc.mono (fun _ h => h.elim), fun _ hq => .inl hq⟩
theorem turn_put {S : Ses} {x : Row} (x' : Row) (f : List Ent → List Ent) (hx : x ∈ S.rows) (hd : S.rows.Pairwise fun x y => x.d.b ≠ y.d.b) (he : x'.d = { x.d with now := f x.d.now }) : (S.put x').pure = S.pure.turn x.d.b f := by
  unfold Ses.pure Pure.turn Ses.put
  simp only [List.map_map]
  congr 1
  apply List.map_congr_left
  intro y hy
  show (if y.d.b = x'.d.b then x' else y).d = if y.d.b = x.d.b then { y.d with now := f y.d.now } else y.d
  rw [he]
  by_cases h : y.d.b = x.d.b
  · obtain rfl := pairwise_eq hd hy hx h
    simp [he]
  · simp [h]
theorem ran_update {B : Nat} {S : Ses} {w w1 w2 : World} (h : S.Lies B w) (h1 : Chg (fun _ => False) w w1) {x x' : Row} (f : List Ent → List Ent) (hx : x ∈ S.rows)
    (hd : x'.d = { x.d with now := f x.d.now }) (ht : x'.t = x.t) (hbo : x'.born = x.born) (hwv : x'.wv = x.wv) (hB : B ≤ w.heap.size)
    (hl : x'.Lies B w2) (hf : x'.d.Fine) (hc : Chg (fun q => q = x.t ∨ x.nv.ownBlock = some q) w1 w2)
    (hnew : ∀ q, x'.nv.ownBlock = some q → x.nv.ownBlock = some q ∨ w1.heap.size ≤ q) (of : ByteArray) : Ran B w S of 0 (S.pure.turn x.d.b f) w2 .nilIface := by
  have hh := h.same h1
  have hu := hh.update hx (by rw [hd]) ht hbo hwv (Nat.le_trans hB h1.size) hl hf hc hnew
  have hsub : ∀ q, (q = x.t ∨ x.nv.ownBlock = some q) → q ∈ S.blocks := by
    intro q hq
    simp only [Ses.blocks, List.mem_cons]
    refine .inr (.inr (List.mem_flatMap.2 ⟨x, hx, ?_⟩))
    simp only [Row.blocks, List.mem_cons, List.mem_append, Option.mem_toList]
    exact hq.imp (fun h => h) .inr
  refine ⟨S.put x', isErr_nil _ _ _, hu, turn_put x' f hx h.dif hd, rfl, ?_, ?_⟩
  · exact (h1.mono (G := (· ∈ S.blocks)) (fun _ h => h.elim)).trans hc (fun q hq _ => hsub q hq)
  · intro q hq
    simp only [Ses.blocks, List.mem_cons] at hq ⊢
    rcases hq with h2 | h2 | h2
    · exact .inl (.inl h2)
    · exact .inl (.inr (.inl h2))
    · obtain ⟨y, hy, hk⟩ := List.mem_flatMap.1 h2
      obtain ⟨z, hz, rfl⟩ := List.mem_map.1 hy
      split at hk
      · simp only [Row.blocks, List.mem_cons, List.mem_append, Option.mem_toList] at hk
        have hin : q ∈ x.blocks → (q = S.p ∨ q = S.r ∨ q ∈ S.rows.flatMap Row.blocks) ∨ w.heap.size ≤ q := fun h => .inl (.inr (.inr (List.mem_flatMap.2 ⟨x, hx, h⟩)))
        rcases hk with h3 | h3 | h3
        · exact hin (by simp [Row.blocks, h3, ht])
        · rw [hwv] at h3; exact hin (by simp [Row.blocks, h3])
        · rcases hnew q h3 with h4 | h4
          · exact hin (by simp [Row.blocks, h4])
          · exact .inr (Nat.le_trans h1.size h4)
      · exact .inl (.inr (.inr (List.mem_flatMap.2 ⟨z, hz, hk⟩)))

theorem owns_succ {W : World} {base : Nat} {e : TypeId} {size : Nat} {v : Value} {k : Nat} {xs : List Value} (h : W.ownsRow base e size v (k + 1) xs) : ∃ g cap, v = .slice (some ⟨g, 0, none⟩) (k + 1) cap := by
  rcases h.2 with ⟨_, h0⟩ | ⟨g, cap, _, rfl, _⟩
  · omega
  · exact ⟨g, cap, rfl⟩
def sPut : ByteArray := ⟨#[80, 117, 116]⟩

set_option maxRecDepth 100000 in
set_option maxHeartbeats 1000000 in
theorem put_err {B : Nat} {S : Ses} (k v : ByteArray) (w : World) (h : S.Lies B w) (hk : k.size ≤ maxLen) (he : S.pure.atE k v ≠ 0) :
    Calls Try.prog 12 #[.pointer (some ⟨S.p, 0, none⟩), .string k, .string v] w fun e w' => ∃ ev, e = .returned ev ∧ Ran B w S sPut (S.pure.putE k v) (S.pure.put k v) w' ev := by
  have hpE : S.pure.putE k v = S.pure.atE k v := by unfold Pure.putE; rw [if_pos he]
  have hp : S.pure.put k v = S.pure := by unfold Pure.put; rw [hpE, if_neg he]
  rw [hpE, hp]
  have he' : (S.pure.atE k v == 0) = false := by simpa using he
  have he2 : (S.pure.atE k v != 0) = true := by simpa using he
  rw [← atE_pure] at he
  have HH := Lib.hid h
  have HE := Lib.hid he
  clear h he hpE hp
  go_enter Try.func12, Try.ntmps12
  go_wp2_with fail
  refine (at_err k v _ HH.out hk HE.out).mono ?_
  rintro e w1 ⟨rfl, hc⟩
  rw [atE_pure]
  have HC := Lib.hid hc
  clear hc
  go_wp2_with (go_at_call 25; refine (fault_any _ _ _).mono ?_; rintro e w2 ⟨rfl, rfl⟩)
  go_ret
  exact ⟨_, rfl, ran_fault HH.out HC.out sPut _⟩
theorem flat_set (l : List Ent) (i : Nat) (hi : i < l.length) (v : ByteArray) : (flat l).set (i * 2 + 1) (.string v) = flat (l.set i (l[i].1, v)) := by
  induction l generalizing i with
  | nil => simp at hi
  | cons x l ih =>
    cases i with
    | zero => rfl
    | succ i =>
      have := ih i (by simpa using hi)
      have e : flat (x :: l) = Value.string x.1 :: Value.string x.2 :: flat l := rfl
      rw [e, show (i + 1) * 2 + 1 = i * 2 + 1 + 1 + 1 from by omega, List.set_cons_succ, List.set_cons_succ, this]
      rfl
theorem heap_setCell_same {w : World} {g o : Nat} {cur : Array Value} {t : TypeId} {fr : Nat × Nat} (h : w.heap[g]? = some (.cells cur t fr)) (v : Value) : (w.setCell ⟨g, o, none⟩ v).heap[g]? = some (.cells (cur.setIfInBounds o v) t fr) := by
  have hl := lt_of_block h
  have h' : w.heap[g] = .cells cur t fr := by simpa [Array.getElem?_eq_getElem hl] using h
  show (w.heap.modify g _)[g]? = _
  rw [Array.getElem?_eq_getElem (by simpa using hl), Array.getElem_modify_self, h']
  rfl
theorem own_set {B g cap i : Nat} {l : List Ent} {w : World} (h : w.ownsRow B 65 2 (.slice (some ⟨g, 0, none⟩) l.length cap) l.length (flat l)) (hi : i < l.length) (v : ByteArray) :
    (w.setCell ⟨g, i * 2 + 1, none⟩ (.string v)).ownsRow B 65 2 (.slice (some ⟨g, 0, none⟩) l.length cap) l.length (flat (l.set i (l[i].1, v))) := by
  rcases h.2 with ⟨h1, _⟩ | ⟨g', cap', cur, h1, hb, hg, hn, hm, hc, ht⟩
  · cases h1
  · injection h1 with h1 h2 h3
    injection h1 with h1
    injection h1 with h1
    subst h1; subst h3
    refine ⟨by rw [flat_length]; simp, .inr ⟨g, cap, _, rfl, hb, heap_setCell_same hg _, hn, hm, by simpa using hc, ?_⟩⟩
    rw [Array.toList_setIfInBounds, List.take_set, ht, flat_set l i hi]

set_option maxRecDepth 100000 in
set_option maxHeartbeats 1000000 in
theorem put_is {B : Nat} {S : Ses} (k v : ByteArray) (w : World) (x : Row) (h : S.Lies B w) (hB : B ≤ w.heap.size) (hk : k.size ≤ maxLen) (he : S.pure.atE k v = 0) (hx : S.find (kb k) = some x) (ha : isAt x.d.now k = true) :
    Calls Try.prog 12 #[.pointer (some ⟨S.p, 0, none⟩), .string k, .string v] w fun e w' => ∃ ev, e = .returned ev ∧ Ran B w S sPut (S.pure.putE k v) (S.pure.put k v) w' ev := by
  have hnow : S.pure.now k = x.d.now := by unfold Pure.now; rw [find_pure, hx]; rfl
  have hpE : S.pure.putE k v = 0 := by unfold Pure.putE; rw [he, hnow, ha]; rfl
  have hp : S.pure.put k v = S.pure.turn x.d.b (fun l => putNow l k v) := by unfold Pure.put; rw [hpE, (find_mem hx).2]; rfl
  rw [hpE, hp]
  rw [← atE_pure] at he
  have hm : mayK k = true ∧ mayV v = true := by
    unfold Go.Proofs.Ytpdchdbkfflgfaa.atE at he
    cases h1 : S.com <;> cases h2 : mayK k <;> cases h3 : mayV v <;> simp [h1, h2, h3] at he ⊢
  obtain ⟨hp1, hp2⟩ := isAt_eq ha
  have HH := Lib.hid h
  have HE := Lib.hid he
  have HX := Lib.hid hx
  have HA := Lib.hid ha
  have HM := Lib.hid hm
  have hrow := (h.rows x (find_mem hx).1).now
  rcases hrow.2 with ⟨_, h0⟩ | ⟨g, cap, cur, hnv, hbg, hg, hn, hmx, hc, ht⟩
  · omega
  have HR := Lib.hid (And.intro hnv hg)
  have q1 : (posOf x.d.now k : Int) < x.d.now.length := by omega
  have hcz : posOf x.d.now k * 2 + 1 < cur.size := by omega
  clear h he hpE hp hx ha hm hnow hg hc ht hrow hp2 hnv
  go_enter Try.func12, Try.ntmps12
  go_wp2_with fail
  refine (at_ok k v _ x HH.out hk HE.out HX.out).mono ?_
  rintro e w1 ⟨rfl, hc⟩
  rw [HA.out]
  have H1 := Lib.hid (HH.out.same hc)
  have ct := H1.out.nowCell HX.out
  rw [HR.out.1] at ct
  have cg := hc.obj HR.out.2 (fun h => h)
  have cv := cell_row cg (Array.getElem?_eq_getElem hcz)
  have cf := free_row cg (posOf x.d.now k * 2 + 1)
  have HG := Lib.hid cg
  have HC := Lib.hid hc
  clear cg hc
  go_wp2
  go_ret
  have hx := find_mem HX.out
  have hr := H1.out.rows x hx.1
  have hfx := H1.out.fine x hx.1
  have hpn : putNow x.d.now k v = x.d.now.set (posOf x.d.now k) (k, v) := by unfold putNow; rw [HA.out]; rfl
  obtain ⟨hq1, hq2⟩ := isAt_eq HA.out
  have hown := hr.now
  rw [HR.out.1] at hown
  have hown2 := own_set hown hq1 v
  rw [hq2, ← hpn] at hown2
  have hlen : (putNow x.d.now k v).length = x.d.now.length := by rw [hpn]; simp
  have hne : x.t ≠ g := fun e => by
    have := H1.out.own x hx.1
    simp only [Row.blocks, HR.out.1, Value.ownBlock] at this
    rw [e] at this
    simp at this
  have hwg : x.wv.ownBlock ≠ some g := fun e => by
    have := H1.out.own x hx.1
    simp only [Row.blocks, e] at this
    rw [HR.out.1] at this
    simp [Value.ownBlock] at this
  refine ⟨_, rfl, ran_update HH.out HC.out (x' := { x with d := { x.d with now := putNow x.d.now k v } }) (fun l => putNow l k v) hx.1 rfl rfl rfl rfl hB ⟨?_, ?_, ?_⟩ ?_ ?_ (fun q hq => .inl hq) sPut⟩
  · show (w1.setCell ⟨g, _, none⟩ _).heap[x.t]? = _
    rw [Below.heap_setCell _ _ _ _ hne]
    exact hr.tl
  · exact ownsRow_setCell_other hr.was (by simpa using hwg) _
  · show World.ownsRow _ B 65 2 x.nv (putNow x.d.now k v).length _
    rw [hlen, HR.out.1]
    exact hown2
  · exact { hfx with now := okay_put hfx.now HM.out.1 HM.out.2 hx.2.symm (.inl HA.out) }
  · exact (Chg.refl _ w1).setCell (.inl (.inr (by rw [HR.out.1]; rfl))) _

theorem at_zero {S : Ses} {k v : ByteArray} (he : atE S k v = 0) : mayK k = true ∧ mayV v = true ∧ S.com = false := by
  unfold Go.Proofs.Ytpdchdbkfflgfaa.atE at he
  cases h1 : S.com <;> cases h2 : mayK k <;> cases h3 : mayV v <;> simp [h1, h2, h3] at he ⊢
set_option maxRecDepth 100000 in
set_option maxHeartbeats 1000000 in
theorem put_full {B : Nat} {S : Ses} (k v : ByteArray) (w : World) (x : Row) (h : S.Lies B w) (hk : k.size ≤ maxLen) (he : S.pure.atE k v = 0) (hx : S.find (kb k) = some x) (ha : isAt x.d.now k = false) (h8 : 8 ≤ x.d.now.length) :
    Calls Try.prog 12 #[.pointer (some ⟨S.p, 0, none⟩), .string k, .string v] w fun e w' => ∃ ev, e = .returned ev ∧ Ran B w S sPut (S.pure.putE k v) (S.pure.put k v) w' ev := by
  have hnow : S.pure.now k = x.d.now := by unfold Pure.now; rw [find_pure, hx]; rfl
  have hpE : S.pure.putE k v = 204 := by unfold Pure.putE; rw [he, hnow, ha, if_pos h8]; rfl
  have hp : S.pure.put k v = S.pure := by unfold Pure.put; rw [hpE]; rfl
  rw [hpE, hp]
  rw [← atE_pure] at he
  have HH := Lib.hid h
  have HE := Lib.hid he
  have HX := Lib.hid hx
  have HA := Lib.hid ha
  have hfx := h.fine x (find_mem hx).1
  have hl8 := hfx.now.2.1
  have hrow := (h.rows x (find_mem hx).1).now
  rcases hrow.2 with ⟨_, h0⟩ | ⟨g, cap, cur, hnv, hbg, hg, hn, hmx, hc, ht⟩
  · omega
  have HR := Lib.hid hnv
  have q1 : (8 : Int) ≤ (x.d.now.length : Int) := by omega
  clear h he hpE hp hx ha hnow hg hc ht hrow hnv hfx
  go_enter Try.func12, Try.ntmps12
  go_wp2_with fail
  refine (at_ok k v _ x HH.out hk HE.out HX.out).mono ?_
  rintro e w1 ⟨rfl, hc⟩
  rw [HA.out]
  have ct := (HH.out.same hc).nowCell HX.out
  rw [HR.out] at ct
  have HC := Lib.hid hc
  clear hc
  go_wp2_with (go_at_call 25; refine (fault_any _ _ _).mono ?_; rintro e w2 ⟨rfl, rfl⟩)
  go_ret
  exact ⟨_, rfl, ran_fault HH.out HC.out sPut _⟩
set_option maxRecDepth 100000 in
set_option maxHeartbeats 1000000 in
theorem put_ins {B : Nat} {S : Ses} (k v : ByteArray) (w : World) (x : Row) (h : S.Lies B w) (hB : B ≤ w.heap.size) (hk : k.size ≤ maxLen) (he : S.pure.atE k v = 0) (hx : S.find (kb k) = some x) (ha : isAt x.d.now k = false) (h8 : x.d.now.length < 8) :
    Calls Try.prog 12 #[.pointer (some ⟨S.p, 0, none⟩), .string k, .string v] w fun e w' => ∃ ev, e = .returned ev ∧ Ran B w S sPut (S.pure.putE k v) (S.pure.put k v) w' ev := by
  have hnow : S.pure.now k = x.d.now := by unfold Pure.now; rw [find_pure, hx]; rfl
  have hpE : S.pure.putE k v = 0 := by unfold Pure.putE; rw [he, hnow, ha, if_neg (by omega : ¬ 8 ≤ x.d.now.length)]; rfl
  have hp : S.pure.put k v = S.pure.turn x.d.b (fun l => putNow l k v) := by unfold Pure.put; rw [hpE, (find_mem hx).2]; rfl
  rw [hpE, hp]
  rw [← atE_pure] at he
  have hm := at_zero he
  have HH := Lib.hid h
  have HE := Lib.hid he
  have HX := Lib.hid hx
  have HA := Lib.hid ha
  have HM := Lib.hid hm
  have hps := pos_le x.d.now k
  have hrow := (h.rows x (find_mem hx).1).now
  have hval : ∃ a c, x.nv = .slice a x.d.now.length c := by
    rcases hrow.2 with ⟨h1, h0⟩ | ⟨g, cap, cur, hnv, _⟩
    · exact ⟨none, 0, by rw [h1, h0]⟩
    · exact ⟨_, _, hnv⟩
  obtain ⟨sa, sc, hnv⟩ := hval
  have HR := Lib.hid hnv
  have q1 : ¬ (8 : Int) ≤ (x.d.now.length : Int) := by omega
  clear h he hpE hp hx ha hm hnow hrow hnv
  go_enter Try.func12, Try.ntmps12
  go_wp2_with fail
  refine (at_ok k v _ x HH.out hk HE.out HX.out).mono ?_
  rintro e w1 ⟨rfl, hc⟩
  rw [HA.out]
  have ct := (HH.out.same hc).nowCell HX.out
  rw [HR.out] at ct
  have HC := Lib.hid hc
  clear hc
  go_wp2_with fail
  have hx := find_mem HX.out
  have H1 := HH.out.same HC.out
  have hr := H1.rows x hx.1
  have hfx := H1.fine x hx.1
  have hown := hr.now
  rw [HR.out] at hown
  have hgn : (Value.slice sa x.d.now.length sc).ownBlock ≠ some w1.heap.size := fun e => by have := (hown.lt _ e).2; omega
  refine (insert_any B _ _ x.d.now k v w1.heap.size _ (by have := HC.out.size; simp; omega) (hown.alloc _) hps h8 (heap_alloc_new w1 _) hgn).mono ?_
  rintro e w2 ⟨v', rfl, hown2, hc2, hnew2⟩
  obtain ⟨g', cap', rfl⟩ := owns_succ hown2
  have hnt : (Value.slice sa x.d.now.length sc).ownBlock ≠ some x.t := fun e => by
    have := H1.own x hx.1
    simp only [Row.blocks] at this
    rw [HR.out, e] at this
    simp at this
  have htl2 := hc2.obj (Eq.trans (Below.heap_alloc w1 _ x.t (lt_of_block hr.tl)) hr.tl) hnt
  have ct2 : w2.cell? ⟨x.t, 9, none⟩ = some x.nv := cell_row htl2 rfl
  rw [HR.out] at ct2
  have cf2 := free_row htl2 9
  have HT := Lib.hid htl2
  have HO := Lib.hid hown2
  have HC2 := Lib.hid hc2
  have HN := Lib.hid hnew2
  clear htl2 hown2 hc2 hnew2 hr hfx hown H1 hgn hnt ct
  go_wp2
  go_ret
  have H1 := HH.out.same HC.out
  have hr := H1.rows x hx.1
  have hfx := H1.fine x hx.1
  have hpn : putNow x.d.now k v = x.d.now.take (posOf x.d.now k) ++ (k, v) :: x.d.now.drop (posOf x.d.now k) := by unfold putNow; rw [HA.out]; rfl
  have hlen : (putNow x.d.now k v).length = x.d.now.length + 1 := by rw [hpn]; simp; omega
  have hc12 : Chg (fun q => q = x.t ∨ x.nv.ownBlock = some q) w1 w2 := by
    have h2 := ((Chg.refl (fun q => x.nv.ownBlock = some q) w1).alloc (.cells #[.string k, .string v] 65)).trans (G := fun q => x.nv.ownBlock = some q) (by rw [HR.out]; exact HC2.out) (fun _ h _ => h)
    exact h2.mono (fun _ h _ => .inr h)
  have hgt : g' ≠ x.t := by
    rcases HN.out g' rfl with h | h
    · intro e; subst e
      have := H1.own x hx.1
      simp only [Row.blocks] at this
      rw [HR.out, h] at this
      simp at this
    · have := lt_of_block hr.tl; simp at h; omega
  refine ⟨_, rfl, ran_update HH.out HC.out (x' := { x with d := { x.d with now := putNow x.d.now k v }, nv := .slice (some ⟨g', 0, none⟩) (x.d.now.length + 1) cap' }) (fun l => putNow l k v) hx.1 rfl rfl rfl rfl hB ⟨?_, ?_, ?_⟩ ?_ ?_ ?_ sPut⟩
  · exact heap_setCell_same HT.out _
  · have hw := hc12.owns hr.was (fun q hq hq2 => by
      have := H1.own x hx.1
      simp only [Row.blocks] at this
      rw [hq] at this
      rcases hq2 with h | h
      · subst h; simp at this
      · rw [h] at this; simp at this)
    exact ownsRow_setCell_other hw (fun e => by
      have := H1.own x hx.1
      simp only [Row.blocks] at this
      rw [e] at this
      simp at this) _
  · show World.ownsRow _ B 65 2 (.slice (some ⟨g', 0, none⟩) (x.d.now.length + 1) cap') (putNow x.d.now k v).length (flat (putNow x.d.now k v))
    rw [hlen, hpn]
    exact ownsRow_setCell_other HO.out (fun e => hgt (by simpa [Value.ownBlock] using e)) _
  · exact { hfx with now := okay_put hfx.now HM.out.1 HM.out.2.1 hx.2.symm (.inr h8) }
  · exact hc12.setCell (.inl (.inl rfl)) _
  · intro q hq
    rcases HN.out q hq with h | h
    · exact .inl (by rw [HR.out]; exact h)
    · exact .inr (by simp at h; omega)
theorem has_find {S : Ses} {k v : ByteArray} (he : S.pure.atE k v = 0) : ∃ x, S.find (kb k) = some x := by
  unfold Pure.atE at he
  have : S.has (kb k) = true := by
    rw [← has_pure]
    cases h0 : S.pure.com <;> cases h2 : mayK k <;> cases h3 : mayV v <;> cases h4 : S.pure.has (kb k) <;> simp [h0, h2, h3, h4] at he ⊢
  unfold Ses.has at this
  exact Option.isSome_iff_exists.1 this
theorem put_any {B : Nat} {S : Ses} (k v : ByteArray) (w : World) (h : S.Lies B w) (hB : B ≤ w.heap.size) (hk : k.size ≤ maxLen) :
    Calls Try.prog 12 #[.pointer (some ⟨S.p, 0, none⟩), .string k, .string v] w fun e w' => ∃ ev, e = .returned ev ∧ Ran B w S sPut (S.pure.putE k v) (S.pure.put k v) w' ev := by
  by_cases he : S.pure.atE k v = 0
  · obtain ⟨x, hx⟩ := has_find he
    cases ha : isAt x.d.now k with
    | true => exact put_is k v w x h hB hk he hx ha
    | false =>
      by_cases h8 : x.d.now.length < 8
      · exact put_ins k v w x h hB hk he hx ha h8
      · exact put_full k v w x h hk he hx ha (by omega)
  · exact put_err k v w h hk he
end Go.Proofs.Ytpdchdbkfflgfaa
