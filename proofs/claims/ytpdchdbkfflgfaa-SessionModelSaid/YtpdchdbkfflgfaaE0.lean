/- What a bucket holds, as a map: get behind put and delete; plain lists, no program. -/
import Derived.Test.YtpdchdbkfflgfaaN
namespace Go.Proofs.Ytpdchdbkfflgfaa
open Go.RowKit

def getL (l : List Ent) (k : ByteArray) : Option ByteArray := if isAt l k = true then (l[posOf l k]?).map (·.2) else none
theorem get_eq (P : Pure) (k : ByteArray) : P.get k = if P.atE k noB = 0 then getL (P.now k) k else none := by
  unfold Pure.get getL
  by_cases h : P.atE k noB = 0 <;> by_cases h2 : isAt (P.now k) k = true <;> simp [h, h2]
theorem sorted_ne {l : List Ent} (h : Sorted l) {i j : Nat} (hi : i < l.length) (hj : j < l.length) (hij : i < j) : l[i].1 ≠ l[j].1 := by
  intro e
  have := List.pairwise_iff_getElem.1 h i j hi hj hij
  rw [e, ltB_irrefl] at this; cases this
theorem pos_of_key {l : List Ent} (h : Sorted l) {i : Nat} (hi : i < l.length) : posOf l l[i].1 = i := by
  have hp := pos_le l l[i].1
  rcases Nat.lt_trichotomy (posOf l l[i].1) i with hlt | heq | hgt
  · have h1 := pos_at (l := l) (k := l[i].1) (by omega)
    have h2 := List.pairwise_iff_getElem.1 h _ i (by omega) hi hlt
    rw [h1] at h2; cases h2
  · exact heq
  · have := pos_lt (l := l) (k := l[i].1) hgt hi
    rw [ltB_irrefl] at this; cases this
theorem isAt_of_mem {l : List Ent} (h : Sorted l) {i : Nat} (hi : i < l.length) : isAt l l[i].1 = true := by
  unfold isAt
  rw [pos_of_key h hi, List.getElem?_eq_getElem hi]
  exact eqB_iff.2 rfl
theorem getL_iff {l : List Ent} (h : Sorted l) {k v : ByteArray} : getL l k = some v ↔ (k, v) ∈ l := by
  constructor
  · intro hg
    unfold getL at hg
    split at hg
    · rename_i ha
      obtain ⟨hp, he⟩ := isAt_eq ha
      rw [List.getElem?_eq_getElem hp] at hg
      have hv : l[posOf l k].2 = v := by simpa using hg
      have : (k, v) = l[posOf l k] := Prod.ext he.symm hv.symm
      rw [this]; exact List.getElem_mem hp
    · cases hg
  · intro hm
    obtain ⟨i, hi, he⟩ := List.getElem_of_mem hm
    have hk : l[i].1 = k := by rw [he]
    have ha := isAt_of_mem h hi
    have hp := pos_of_key h hi
    rw [hk] at ha hp
    unfold getL
    rw [if_pos ha, hp, List.getElem?_eq_getElem hi, he]; rfl
theorem getL_none {l : List Ent} (h : Sorted l) {k : ByteArray} : getL l k = none ↔ ∀ v, (k, v) ∉ l := by
  constructor
  · intro hg v hm
    rw [(getL_iff h).2 hm] at hg; cases hg
  · intro hn
    cases hg : getL l k with
    | none => rfl
    | some v => exact absurd ((getL_iff h).1 hg) (hn v)
theorem isAt_some {l : List Ent} {k : ByteArray} (h : isAt l k = true) : ∃ v, getL l k = some v := by
  obtain ⟨hp, he⟩ := isAt_eq h
  exact ⟨l[posOf l k].2, by unfold getL; rw [if_pos h, List.getElem?_eq_getElem hp]; rfl⟩
theorem isAt_getL {l : List Ent} {k : ByteArray} : (getL l k).isSome = isAt l k := by
  cases h : isAt l k with
  | true => obtain ⟨v, hv⟩ := isAt_some h; rw [hv]; rfl
  | false => unfold getL; rw [h]; rfl
theorem putNow_eq (l : List Ent) (k v : ByteArray) : putNow l k v = l.take (posOf l k) ++ (k, v) :: l.drop (if isAt l k = true then posOf l k + 1 else posOf l k) := by
  unfold putNow
  cases h : isAt l k with
  | false => rfl
  | true =>
    obtain ⟨hp, _⟩ := isAt_eq h
    simp only [if_true]
    rw [List.set_eq_take_append_cons_drop, if_pos hp]
theorem delNow_eq {l : List Ent} {k : ByteArray} (h : isAt l k = true) : delNow l k = l.take (posOf l k) ++ l.drop (posOf l k + 1) := by
  unfold delNow
  rw [if_pos h, List.eraseIdx_eq_take_drop_succ]
theorem delNow_none {l : List Ent} {k : ByteArray} (h : isAt l k = false) : delNow l k = l := by
  unfold delNow; rw [h]; rfl
/-- Those of another key stay. -/
theorem split_pos (l : List Ent) (k : ByteArray) : l = l.take (posOf l k) ++ l.drop (posOf l k) := (List.take_append_drop _ _).symm
theorem mem_rest {l : List Ent} {k : ByteArray} {e : Ent} (hne : e.1 ≠ k) :
    e ∈ l ↔ e ∈ l.take (posOf l k) ∨ e ∈ l.drop (if isAt l k = true then posOf l k + 1 else posOf l k) := by
  cases ha : isAt l k with
  | false => rw [if_neg (by simp), ← List.mem_append, List.take_append_drop]
  | true =>
    obtain ⟨hp, he⟩ := isAt_eq ha
    rw [if_pos rfl]
    conv => lhs; rw [split_pos l k, List.drop_eq_getElem_cons hp]
    simp only [List.mem_append, List.mem_cons]
    constructor
    · rintro (h1 | h1 | h1)
      · exact .inl h1
      · rw [h1] at hne; exact absurd he hne
      · exact .inr h1
    · rintro (h1 | h1)
      · exact .inl h1
      · exact .inr (.inr h1)
theorem mem_put {l : List Ent} {k v : ByteArray} {e : Ent} (hne : e.1 ≠ k) : e ∈ putNow l k v ↔ e ∈ l := by
  rw [putNow_eq, mem_rest (l := l) hne, List.mem_append, List.mem_cons]
  constructor
  · rintro (h1 | h1 | h1)
    · exact .inl h1
    · rw [h1] at hne; exact absurd rfl hne
    · exact .inr h1
  · rintro (h1 | h1)
    · exact .inl h1
    · exact .inr (.inr h1)
theorem mem_put_self (l : List Ent) (k v : ByteArray) : (k, v) ∈ putNow l k v := by
  rw [putNow_eq]; simp
theorem mem_del {l : List Ent} {k : ByteArray} {e : Ent} (hne : e.1 ≠ k) : e ∈ delNow l k ↔ e ∈ l := by
  cases ha : isAt l k with
  | false => rw [delNow_none ha]
  | true => rw [delNow_eq ha, mem_rest (l := l) hne, ha, List.mem_append, if_pos rfl]
theorem not_del {l : List Ent} (h : Sorted l) (k v : ByteArray) : (k, v) ∉ delNow l k := by
  cases ha : isAt l k with
  | false =>
    rw [delNow_none ha]
    intro hm
    have := isAt_getL (l := l) (k := k)
    rw [(getL_iff h).2 hm, ha] at this; cases this
  | true =>
    obtain ⟨hp, he⟩ := isAt_eq ha
    rw [delNow_eq ha]
    intro hm
    rcases List.mem_append.1 hm with hm | hm
    · obtain ⟨j, hj, hje⟩ := List.getElem_of_mem hm
      rw [List.getElem_take] at hje
      have hj' : j < posOf l k := by simp at hj; omega
      exact sorted_ne h (by omega) hp hj' (by rw [hje, he])
    · obtain ⟨j, hj, hje⟩ := List.getElem_of_mem hm
      rw [List.getElem_drop] at hje
      exact sorted_ne h hp (j := posOf l k + 1 + j) (by simp at hj; omega) (by omega) (by rw [hje, he])
/-- A range's entries. -/
def inR (f t : ByteArray) (e : Ent) : Bool := !ltB e.1 f && !ltB t e.1
theorem inR_self (k : ByteArray) (e : Ent) : inR k k e = eqB e.1 k := by
  unfold inR
  cases h : eqB e.1 k with
  | true => have := eqB_iff.1 h; rw [this, ltB_irrefl]; rfl
  | false =>
    cases h1 : ltB e.1 k with
    | true => rfl
    | false =>
      cases h2 : ltB k e.1 with
      | true => rfl
      | false => have := ltB_total h1 h2; rw [this] at h; rw [eqB_iff.2 rfl] at h; cases h
theorem filter_key {l : List Ent} (h : Sorted l) {k v : ByteArray} (hm : (k, v) ∈ l) : l.filter (inR k k) = [(k, v)] := by
  induction l with
  | nil => cases hm
  | cons e l ih =>
    have hs : Sorted l := (List.pairwise_cons.1 h).2
    have hlt := (List.pairwise_cons.1 h).1
    rcases List.mem_cons.1 hm with h1 | h1
    · subst h1
      rw [List.filter_cons, if_pos (by rw [inR_self]; exact eqB_iff.2 rfl)]
      congr 1
      rw [List.filter_eq_nil_iff]
      intro a ha
      rw [inR_self]
      intro hc
      have := hlt a ha
      rw [eqB_iff.1 hc, ltB_irrefl] at this; cases this
    · have hne : inR k k e = false := by
        rw [inR_self]
        cases he : eqB e.1 k with
        | false => rfl
        | true => have := hlt _ h1; rw [eqB_iff.1 he, ltB_irrefl] at this; cases this
      rw [List.filter_cons, hne]
      exact ih hs h1
theorem sorted_put {b : Int} {l : List Ent} (h : Okay b l) (k v : ByteArray) : Sorted (putNow l k v) := by
  unfold putNow
  cases ha : isAt l k with
  | false => exact sorted_ins k v h.1 ha
  | true =>
    obtain ⟨hp, he⟩ := isAt_eq ha
    have := sorted_set hp v h.1
    rw [he] at this; exact this
theorem sorted_del {l : List Ent} (h : Sorted l) (k : ByteArray) : Sorted (delNow l k) := by
  unfold delNow; split
  · exact h.sublist (List.eraseIdx_sublist _ _)
  · exact h
end Go.Proofs.Ytpdchdbkfflgfaa
