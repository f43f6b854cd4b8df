/- A session of three empty buckets is a plain sorted list: the plain law of SessionModel. -/
import Derived.Test.YtpdchdbkfflgfaaE1
namespace Go.Proofs.Ytpdchdbkfflgfaa
open Go.RowKit

theorem kb_lt_ltB {a b : ByteArray} (ha : 1 ≤ a.size) (hb : 1 ≤ b.size) (h : kb a < kb b) : ltB a b = true := by
  rw [ltB_iff, Lib.toList_data, Lib.toList_data]
  rw [Lib.size_eq] at ha hb
  unfold kb at h
  cases hx : a.data.toList with
  | nil => rw [hx] at ha; simp at ha
  | cons x xs =>
    cases hy : b.data.toList with
    | nil => rw [hy] at hb; simp at hb
    | cons y ys =>
      rw [hx, hy] at h
      simp only [List.headD_cons] at h
      rw [List.cons_lt_cons_iff]
      refine .inl ?_
      rw [UInt8.lt_iff_toNat_lt]; omega
theorem posOf_left {a b : List Ent} {k : ByteArray} (h : ∀ e ∈ b, ltB k e.1 = true) : posOf (a ++ b) k = posOf a k := by
  induction a with
  | nil =>
    cases b with
    | nil => rfl
    | cons e l =>
      have := ltB_asymm (h e (by simp))
      simp [posOf, this]
  | cons e a ih => simp only [List.cons_append, posOf, ih]
theorem posOf_right {a b : List Ent} {k : ByteArray} (h : ∀ e ∈ a, ltB e.1 k = true) : posOf (a ++ b) k = a.length + posOf b k := by
  induction a with
  | nil => simp
  | cons e a ih =>
    have h1 := h e (by simp)
    simp only [List.cons_append, posOf, h1, if_true, List.length_cons, ih (fun e he => h e (by simp [he]))]
    omega
theorem isAt_left {a b : List Ent} {k : ByteArray} (h : ∀ e ∈ b, ltB k e.1 = true) : isAt (a ++ b) k = isAt a k := by
  unfold isAt
  rw [posOf_left h]
  have hp := pos_le a k
  by_cases hlt : posOf a k < a.length
  · rw [List.getElem?_append_left hlt]
  · rw [List.getElem?_append_right (by omega), show posOf a k - a.length = 0 from by omega, List.getElem?_eq_none (by omega : a.length ≤ posOf a k)]
    cases b with
    | nil => rfl
    | cons e l =>
      have h1 := h e (by simp)
      have : eqB e.1 k = false := by
        cases he : eqB e.1 k with
        | false => rfl
        | true => rw [eqB_iff.1 he, ltB_irrefl] at h1; cases h1
      simp [this]
theorem isAt_right {a b : List Ent} {k : ByteArray} (h : ∀ e ∈ a, ltB e.1 k = true) : isAt (a ++ b) k = isAt b k := by
  unfold isAt
  rw [posOf_right h, List.getElem?_append_right (by omega), Nat.add_sub_cancel_left]
theorem put_left {a b : List Ent} {k : ByteArray} (v : ByteArray) (h : ∀ e ∈ b, ltB k e.1 = true) : putNow (a ++ b) k v = putNow a k v ++ b := by
  have hp := pos_le a k
  rw [putNow_eq, putNow_eq, isAt_left h, posOf_left h, List.take_append_of_le_length hp]
  cases ha : isAt a k with
  | false => rw [if_neg (by simp), List.drop_append_of_le_length hp]; simp
  | true =>
    obtain ⟨hlt, _⟩ := isAt_eq ha
    rw [if_pos rfl, List.drop_append_of_le_length (by omega)]; simp
theorem put_right {a b : List Ent} {k : ByteArray} (v : ByteArray) (h : ∀ e ∈ a, ltB e.1 k = true) : putNow (a ++ b) k v = a ++ putNow b k v := by
  rw [putNow_eq, putNow_eq, isAt_right h, posOf_right h, List.take_length_add_append]
  cases isAt b k with
  | false => simp only [Bool.false_eq_true, if_false]; rw [List.drop_length_add_append]; simp
  | true => simp only [if_true]; rw [Nat.add_assoc, List.drop_length_add_append]; simp
theorem del_left {a b : List Ent} {k : ByteArray} (h : ∀ e ∈ b, ltB k e.1 = true) : delNow (a ++ b) k = delNow a k ++ b := by
  cases ha : isAt a k with
  | false => rw [delNow_none ha, delNow_none ((isAt_left h).trans ha)]
  | true =>
    obtain ⟨hlt, _⟩ := isAt_eq ha
    rw [delNow_eq ha, delNow_eq ((isAt_left h).trans ha), posOf_left h, List.take_append_of_le_length (by omega), List.drop_append_of_le_length (by omega)]; simp
theorem del_right {a b : List Ent} {k : ByteArray} (h : ∀ e ∈ a, ltB e.1 k = true) : delNow (a ++ b) k = a ++ delNow b k := by
  cases ha : isAt b k with
  | false => rw [delNow_none ha, delNow_none ((isAt_right h).trans ha)]
  | true => rw [delNow_eq ha, delNow_eq ((isAt_right h).trans ha), posOf_right h, List.take_length_add_append, Nat.add_assoc, List.drop_length_add_append]; simp

/-- The session of SessionModel. -/
def pM (n0 n1 n2 : List Ent) : Pure := ⟨5, 1, 1, 2, 3, false, [⟨0, 0, 1, 1, 1, 0, [], n0⟩, ⟨1, 0, 1, 1, 1, 0, [], n1⟩, ⟨2, 0, 1, 1, 1, 0, [], n2⟩]⟩
structure Three (P : Pure) (m : List Ent) : Prop where
  ex : ∃ n0 n1 n2, P = pM n0 n1 n2 ∧ m = n0 ++ n1 ++ n2 ∧ Okay 0 n0 ∧ Okay 1 n1 ∧ Okay 2 n2
theorem pM_ok {n0 n1 n2 : List Ent} (h0 : Okay 0 n0) (h1 : Okay 1 n1) (h2 : Okay 2 n2) : (pM n0 n1 n2).Ok := by
  refine ⟨by simp [pM], fun x hx => ?_⟩
  simp only [pM, List.mem_cons, List.not_mem_nil, or_false] at hx
  rcases hx with rfl | rfl | rfl <;> assumption
theorem pM_has (n0 n1 n2 : List Ent) (b : Nat) : (pM n0 n1 n2).has b = decide (b < 3) := by
  rcases b with _ | _ | _ | b
  · rfl
  · rfl
  · rfl
  · have h0 : ((0 : Int) == ((b + 3 : Nat) : Int)) = false := by simp; omega
    have h1 : ((1 : Int) == ((b + 3 : Nat) : Int)) = false := by simp; omega
    have h2 : ((2 : Int) == ((b + 3 : Nat) : Int)) = false := by simp; omega
    have : ¬ (b + 3 < 3) := by omega
    show (List.find? _ [_, _, _]).isSome = _
    simp only [List.find?_cons, h0, h1, h2, List.find?_nil]
    simp
theorem pM_turn0 (n0 n1 n2 : List Ent) (f : List Ent → List Ent) : (pM n0 n1 n2).turn 0 f = pM (f n0) n1 n2 := by simp [pM, Pure.turn]
theorem pM_turn1 (n0 n1 n2 : List Ent) (f : List Ent → List Ent) : (pM n0 n1 n2).turn 1 f = pM n0 (f n1) n2 := by simp [pM, Pure.turn]
theorem pM_turn2 (n0 n1 n2 : List Ent) (f : List Ent → List Ent) : (pM n0 n1 n2).turn 2 f = pM n0 n1 (f n2) := by simp [pM, Pure.turn]
theorem okay_gt {b : Int} {l : List Ent} (h : Okay b l) {k : ByteArray} (hk : mayK k = true) (hb : (kb k : Int) < b) : ∀ e ∈ l, ltB k e.1 = true := by
  intro e he
  have h1 := h.2.2 e he
  have h2 : 1 ≤ k.size ∧ k.size ≤ 32 := by simpa [mayK] using hk
  exact kb_lt_ltB h2.1 h1.1 (by omega)
theorem okay_lt {b : Int} {l : List Ent} (h : Okay b l) {k : ByteArray} (hk : mayK k = true) (hb : b < (kb k : Int)) : ∀ e ∈ l, ltB e.1 k = true := by
  intro e he
  have h1 := h.2.2 e he
  have h2 : 1 ≤ k.size ∧ k.size ≤ 32 := by simpa [mayK] using hk
  exact kb_lt_ltB h1.1 h2.1 (by omega)
theorem mem_two {a b : List Ent} {p : Ent → Prop} (ha : ∀ e ∈ a, p e) (hb : ∀ e ∈ b, p e) : ∀ e ∈ a ++ b, p e := by
  intro e he
  rcases List.mem_append.1 he with h | h
  · exact ha e h
  · exact hb e h
/-- Whatever is done to a bucket is done to the whole list. -/
theorem three_now {P : Pure} {m : List Ent} (h : Three P m) {k : ByteArray} (hk : P.atE k noB = 0) :
    isAt m k = isAt (P.now k) k ∧ getL m k = getL (P.now k) k ∧ (∀ v, P.putE k v = 0 → Three (P.put k v) (putNow m k v)) ∧ Three (P.del k) (delNow m k) := by
  obtain ⟨n0, n1, n2, rfl, rfl, h0, h1, h2⟩ := h.ex
  obtain ⟨a1, a2, a3, a4⟩ := atE_has hk
  rw [pM_has] at a1
  have hlt : kb k < 3 := by simpa using a1
  have hg : ∀ a b : List Ent, isAt a k = isAt b k → (isAt b k = true → a[posOf a k]? = b[posOf b k]?) → getL a k = getL b k := by
    intro a b e1 e2
    unfold getL
    rw [e1]
    split
    · rename_i h; rw [e2 h]
    · rfl
  have hget : ∀ a b c : List Ent, (∀ e ∈ a, ltB e.1 k = true) → (∀ e ∈ c, ltB k e.1 = true) → isAt (a ++ b ++ c) k = isAt b k ∧ getL (a ++ b ++ c) k = getL b k ∧
      (∀ v, putNow (a ++ b ++ c) k v = a ++ putNow b k v ++ c) ∧ delNow (a ++ b ++ c) k = a ++ delNow b k ++ c := by
    intro a b c ha hc
    have e1 : isAt (a ++ b ++ c) k = isAt b k := by rw [isAt_left hc, isAt_right ha]
    refine ⟨e1, hg _ _ e1 fun hb => ?_, fun v => by rw [put_left v hc, put_right v ha], by rw [del_left hc, del_right ha]⟩
    obtain ⟨hp, _⟩ := isAt_eq hb
    rw [posOf_left hc, posOf_right ha, List.getElem?_append_left (by simp; omega), List.getElem?_append_right (by omega), Nat.add_sub_cancel_left]
  have hdel := del_turn hk
  have hput : ∀ v, (pM n0 n1 n2).putE k v = 0 → _ := fun v hv => put_turn (v := v) hv
  have hpok : ∀ v b l, (pM n0 n1 n2).putE k v = 0 → (kb k : Int) = b → (pM n0 n1 n2).now k = l → Okay b l → Okay b (putNow l k v) := by
    intro v b l hv hb hl ho
    obtain ⟨b1, b2, b3, b4⟩ := atE_has (putE_at hv)
    refine okay_put ho b2 b3 hb ?_
    unfold Pure.putE at hv
    rw [if_neg (by simpa using putE_at (P := pM n0 n1 n2) (k := k) (v := v) (by unfold Pure.putE; exact hv)), hl] at hv
    cases hi : isAt l k with
    | true => exact .inl rfl
    | false =>
      rw [hi] at hv
      simp only [Bool.false_eq_true, if_false] at hv
      split at hv
      · cases hv
      · exact .inr (by omega)
  have hcase : kb k = 0 ∨ kb k = 1 ∨ kb k = 2 := by omega
  rcases hcase with e | e | e
  · have hn : (pM n0 n1 n2).now k = n0 := by rw [now_b, e]; rfl
    have X := hget [] n0 (n1 ++ n2) (by simp) (mem_two (okay_gt h1 a2 (by omega)) (okay_gt h2 a2 (by omega)))
    simp only [List.nil_append, ← List.append_assoc] at X
    rw [hn]
    refine ⟨X.1, X.2.1, fun v hv => ⟨putNow n0 k v, n1, n2, ?_, X.2.2.1 v, hpok v 0 n0 hv (by omega) hn h0, h1, h2⟩, ⟨delNow n0 k, n1, n2, ?_, X.2.2.2, okay_del h0, h1, h2⟩⟩
    · rw [hput v hv, e]; exact pM_turn0 _ _ _ _
    · rw [hdel, e]; exact pM_turn0 _ _ _ _
  · have hn : (pM n0 n1 n2).now k = n1 := by rw [now_b, e]; rfl
    have X := hget n0 n1 n2 (okay_lt h0 a2 (by omega)) (okay_gt h2 a2 (by omega))
    rw [hn]
    refine ⟨X.1, X.2.1, fun v hv => ⟨n0, putNow n1 k v, n2, ?_, X.2.2.1 v, h0, hpok v 1 n1 hv (by omega) hn h1, h2⟩, ⟨n0, delNow n1 k, n2, ?_, X.2.2.2, h0, okay_del h1, h2⟩⟩
    · rw [hput v hv, e]; exact pM_turn1 _ _ _ _
    · rw [hdel, e]; exact pM_turn1 _ _ _ _
  · have hn : (pM n0 n1 n2).now k = n2 := by rw [now_b, e]; rfl
    have X := hget (n0 ++ n1) n2 [] (mem_two (okay_lt h0 a2 (by omega)) (okay_lt h1 a2 (by omega))) (by simp)
    simp only [List.append_nil] at X
    rw [hn]
    refine ⟨X.1, X.2.1, fun v hv => ⟨n0, n1, putNow n2 k v, ?_, X.2.2.1 v, h0, h1, hpok v 2 n2 hv (by omega) hn h2⟩, ⟨n0, n1, delNow n2 k, ?_, X.2.2.2, h0, h1, okay_del h2⟩⟩
    · rw [hput v hv, e]; exact pM_turn2 _ _ _ _
    · rw [hdel, e]; exact pM_turn2 _ _ _ _
theorem three_sorted {P : Pure} {m : List Ent} (h : Three P m) : Sorted m ∧ m.length ≤ 24 ∧ ∀ e ∈ m, 1 ≤ e.1.size := by
  obtain ⟨n0, n1, n2, rfl, rfl, h0, h1, h2⟩ := h.ex
  have cross : ∀ {b c : Int} {x y : List Ent}, Okay b x → Okay c y → b < c → ∀ e ∈ x, ∀ f ∈ y, ltB e.1 f.1 = true := by
    intro b c x y hx hy hbc e he f hf
    have q1 := hx.2.2 e he
    have q2 := hy.2.2 f hf
    exact kb_lt_ltB q1.1 q2.1 (by omega)
  refine ⟨?_, ?_, ?_⟩
  · unfold Sorted
    rw [List.pairwise_append, List.pairwise_append]
    refine ⟨⟨h0.1, h1.1, cross h0 h1 (by omega)⟩, h2.1, fun e he f hf => ?_⟩
    rcases List.mem_append.1 he with he | he
    · exact cross h0 h2 (by omega) e he f hf
    · exact cross h1 h2 (by omega) e he f hf
  · have := h0.2.1; have := h1.2.1; have := h2.2.1
    simp; omega
  · intro e he
    rcases List.mem_append.1 he with he | he
    · rcases List.mem_append.1 he with he | he
      · exact (h0.2.2 e he).1
      · exact (h1.2.2 e he).1
    · exact (h2.2.2 e he).1
def kLo : ByteArray := ⟨#[0]⟩
def kHi : ByteArray := ⟨#[11, 255]⟩
theorem lo_le {k : ByteArray} (h : 1 ≤ k.size) : ltB k kLo = false := by
  rw [Bool.eq_false_iff]; intro hc
  rw [ltB_iff, Lib.toList_data, Lib.toList_data] at hc
  rw [Lib.size_eq] at h
  cases hx : k.data.toList with
  | nil => rw [hx] at h; simp at h
  | cons x xs =>
    rw [hx] at hc
    have : kLo.data.toList = [0] := rfl
    rw [this, List.cons_lt_cons_iff] at hc
    rcases hc with hc | ⟨_, hc⟩
    · rw [UInt8.lt_iff_toNat_lt] at hc; simp at hc
    · exact absurd hc (List.not_lt_nil _)
theorem three_scan {P : Pure} {m : List Ent} (h : Three P m) : P.scanE kLo kHi = 0 ∧ P.scanL kLo kHi = m.filter (fun e => !ltB kHi e.1) := by
  have hs := (three_sorted h).2.2
  obtain ⟨n0, n1, n2, rfl, rfl, h0, h1, h2⟩ := h.ex
  have e0 : kb kLo = 0 := by decide
  have e1 : kb kHi = 2 := by decide
  refine ⟨?_, ?_⟩
  · have hl : ltB kHi kLo = false := lo_le (by decide)
    unfold Pure.scanE Pure.spanned
    rw [e0, e1, hl]
    have : (List.range' 0 (2 + 1 - 0)).all (fun k : Nat => (pM n0 n1 n2).has k) = true := by
      rw [List.all_eq_true]
      intro x hx
      rw [pM_has]
      have := List.mem_range'_1.1 hx
      simp; omega
    rw [this]; rfl
  · unfold Pure.scanL Pure.spanL
    rw [e0, e1]
    have hr : List.range' 0 (2 + 1 - 0) = [0, 1, 2] := rfl
    rw [hr]
    simp only [List.flatMap_cons, List.flatMap_nil, List.append_nil]
    have f0 : (pM n0 n1 n2).nowB ((0 : Nat) : Int) = n0 := rfl
    have f1 : (pM n0 n1 n2).nowB ((1 : Nat) : Int) = n1 := rfl
    have f2 : (pM n0 n1 n2).nowB ((2 : Nat) : Int) = n2 := rfl
    rw [f0, f1, f2, List.filter_append, List.filter_append, List.append_assoc]
    have cg : ∀ l : List Ent, (∀ e ∈ l, 1 ≤ e.1.size) → l.filter (inR kLo kHi) = l.filter (fun e => !ltB kHi e.1) := by
      intro l hl
      apply List.filter_congr
      intro e he
      unfold inR
      rw [lo_le (hl e he)]; rfl
    rw [cg n0 (fun e he => hs e (by simp [he])), cg n1 (fun e he => hs e (by simp [he])), cg n2 (fun e he => hs e (by simp [he]))]
/-- Either the scan is all of it, or its last key lies behind the range. -/
theorem three_end {P : Pure} {m : List Ent} (h : Three P m) : P.scanL kLo kHi = m ∨ ∃ hm : 0 < m.length, ltB kHi (m[m.length - 1]'(by omega)).1 = true := by
  have hs := (three_sorted h).1
  rw [(three_scan h).2]
  by_cases hq : ∀ e ∈ m, ltB kHi e.1 = false
  · refine .inl (List.filter_eq_self.2 fun e he => ?_)
    rw [hq e he]; rfl
  · refine .inr ?_
    obtain ⟨e, he, hne⟩ : ∃ e ∈ m, ltB kHi e.1 = true := by
      apply Classical.byContradiction
      intro hc
      apply hq
      intro e he
      cases hb : ltB kHi e.1 with
      | false => rfl
      | true => exact absurd ⟨e, he, hb⟩ hc
    obtain ⟨i, hi, rfl⟩ := List.getElem_of_mem he
    refine ⟨by omega, ?_⟩
    by_cases hil : i = m.length - 1
    · subst hil; exact hne
    · exact ltB_trans hne (List.pairwise_iff_getElem.1 hs i (m.length - 1) hi (by omega) (by omega))
end Go.Proofs.Ytpdchdbkfflgfaa
