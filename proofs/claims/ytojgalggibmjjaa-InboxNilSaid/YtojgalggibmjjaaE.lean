/- Calls in memory; the closures that pick them. -/
import Derived.Test.YtojgalggibmjjaaD
import Derived.MapKept
import Derived.Maps.RangeRun
namespace Go.Proofs.Ytojgalggibmjjaa
open Go.RowKit

structure Cs where
  p : Nat
  r : Nat
  clock : Nat
  room : Int
  base : Int
  most : Int
  tries : Int
  last : Int
  L : List (Cl × Nat)
def ent (x : Cl × Nat) : MapEntry := { key := .int .u64 x.1.id, val := x.1.val, born := x.2 }
def Cs.head (S : Cs) : Array Value := #[.int .i64 S.room, .int .i64 S.base, .int .i64 S.most, .int .i64 S.tries, .int .u64 S.last, .map (some S.r)]
def Cs.es (S : Cs) : Array MapEntry := (S.L.map ent).toArray
structure Cs.Lies (B : Nat) (w : World) (S : Cs) : Prop where
  head : w.heap[S.p]? = some (.cells S.head 74 (0, 0))
  log : w.heap[S.r]? = some (.map S.es S.clock)
  ne : S.p ≠ S.r
  op : B ≤ S.p
  or : B ≤ S.r
  lt : ∀ x ∈ S.L, x.2 < S.clock
  born : (S.L.map (·.2)).Nodup
  ids : (S.L.map (·.1.id)).Nodup
  few : S.L.length ≤ 256
  room : (S.L.length : Int) ≤ S.room
  bnd : ∀ x ∈ S.L, 1 ≤ x.1.id ∧ x.1.id ≤ S.last ∧ 1 ≤ x.1.tries ∧ x.1.tries ≤ S.tries
  set : 1 ≤ S.room ∧ S.room ≤ 256 ∧ fairB S.base S.most = true ∧ 1 ≤ S.tries ∧ S.tries ≤ 16 ∧ 0 ≤ S.last ∧ S.last ≤ 4611686018427387904
theorem Cs.Lies.chg {B : Nat} {S : Cs} {w w' : World} {F : Nat → Prop} (h : S.Lies B w) (hc : Chg F w w') (h1 : ¬ F S.p) (h2 : ¬ F S.r) : S.Lies B w' :=
  ⟨hc.obj h.head h1, hc.obj h.log h2, h.ne, h.op, h.or, h.lt, h.born, h.ids, h.few, h.room, h.bnd, h.set⟩
theorem Cs.Lies.same {B : Nat} {S : Cs} {w w' : World} (h : S.Lies B w) (hc : Chg (fun _ => False) w w') : S.Lies B w' := h.chg hc (fun h => h) (fun h => h)
theorem pickAll (c : Cl) (w : World) : Calls Try.prog 28 #[c.val] w fun e w' => e = .returned (.bool true) ∧ Chg (fun _ => False) w w' := by
  unfold Cl.val
  go_enter Try.func28, Try.ntmps28
  go_wp2
  go_ret
  exact ⟨rfl, by first | exact .refl _ _ | exact (Chg.refl _ w).alloc _⟩
theorem pickDue (c : Cl) (g : Nat) (now : Int) (w : World) (h : w.cell? ⟨g, 0, none⟩ = some (.int .i64 now)) :
    Calls Try.prog 33 #[c.val, .pointer (some ⟨g, 0, none⟩)] w fun e w' => e = .returned (.bool (decide (c.due ≤ now))) ∧ Chg (fun _ => False) w w' := by
  have h' := fun o => cell_alloc h o
  unfold Cl.val
  go_enter Try.func33, Try.ntmps33
  go_wp2
  go_ret
  exact ⟨rfl, (Chg.refl _ w).alloc _⟩
/-- Sorted by due, then by number. -/
def SortedC (l : List Cl) : Prop := l.Pairwise fun x y => ¬ cmpC y x < 0
def flatC (l : List Cl) : List Value := l.flatMap Cl.cells
theorem flatC_length (l : List Cl) : (flatC l).length = l.length * 5 := by
  induction l with
  | nil => rfl
  | cons x l ih => simp only [flatC, List.flatMap_cons, List.length_append, Cl.cells, List.length_cons, List.length_nil] at *; omega
/-- Those that the iterator has handed out, and that are picked. -/
def seenL (L : List (Cl × Nat)) (P : Cl → Bool) (seen : Array Nat) : List Cl := (L.filter fun x => seen.contains x.2 && P x.1).map (·.1)
theorem seen_push (P : Cl → Bool) (seen : Array Nat) (x : Cl × Nat) (hs : seen.contains x.2 = false) : ∀ (L : List (Cl × Nat)), (L.map (·.2)).Nodup → x ∈ L →
    (seenL L P (seen.push x.2)).Perm (if P x.1 = true then seenL L P seen ++ [x.1] else seenL L P seen) := by
  have same : ∀ (L : List (Cl × Nat)), x.2 ∉ L.map (·.2) → seenL L P (seen.push x.2) = seenL L P seen := by
    intro L h
    unfold seenL
    congr 1
    apply List.filter_congr
    intro y hy
    have hne : (y.2 == x.2) = false := by
      rw [beq_eq_false_iff_ne]
      intro e
      exact h (by rw [← e]; exact List.mem_map_of_mem hy)
    rw [contains_push, hne, Bool.or_false]
  intro L
  induction L with
  | nil => intro _ h; cases h
  | cons y l ih =>
    intro hn hx
    have hn' := List.nodup_cons.1 (show (y.2 :: l.map (·.2)).Nodup from hn)
    rcases List.mem_cons.1 hx with rfl | hx'
    · have hsm := same l hn'.1
      unfold seenL at hsm ⊢
      rw [List.filter_cons, List.filter_cons, contains_push, hs]
      cases hp : P x.1 with
      | true =>
        simp only [beq_self_eq_true, Bool.or_true, Bool.true_and, Bool.false_and, if_true, Bool.false_eq_true, if_false, List.map_cons]
        rw [hsm]
        exact (List.perm_append_singleton _ _).symm
      | false =>
        simp only [Bool.and_false, Bool.false_eq_true, if_false]
        rw [hsm]
    · have hne : (y.2 == x.2) = false := by
        rw [beq_eq_false_iff_ne]
        intro e
        exact hn'.1 (by rw [e]; exact List.mem_map_of_mem hx')
      have ih' := ih hn'.2 hx'
      unfold seenL at ih' ⊢
      rw [List.filter_cons, List.filter_cons, contains_push, hne, Bool.or_false]
      cases hy : (seen.contains y.2 && P y.1) with
      | false => simpa using ih'
      | true =>
        simp only [if_true, List.map_cons]
        split
        · rename_i hp
          rw [if_pos hp] at ih'
          exact (ih'.cons _)
        · rename_i hp
          rw [if_neg hp] at ih'
          exact (ih'.cons _)
theorem seen_start (L : List (Cl × Nat)) (P : Cl → Bool) : seenL L P #[] = [] := by
  unfold seenL; simp
theorem left_ent {S : Cs} {seen : Array Nat} {e : MapEntry} (he : e ∈ (leftOf S.es seen).toList) : ∃ x ∈ S.L, e = ent x ∧ seen.contains x.2 = false := by
  obtain ⟨h1, h2⟩ := mem_left he
  obtain ⟨x, hx, rfl⟩ := List.mem_map.1 (show e ∈ S.L.map ent by simpa [Cs.es] using h1)
  exact ⟨x, hx, rfl, h2⟩
theorem seen_all {S : Cs} (P : Cl → Bool) {seen : Array Nat} (h : (leftOf S.es seen).size = 0) : seenL S.L P seen = (S.L.filter fun x => P x.1).map (·.1) := by
  unfold seenL
  congr 1
  apply List.filter_congr
  intro x hx
  have hm : ent x ∈ S.es.toList := by simp only [Cs.es]; exact List.mem_map_of_mem hx
  have : seen.contains x.2 = true := by
    cases hc : seen.contains x.2 with
    | true => rfl
    | false =>
      have : ent x ∈ leftOf S.es seen := Array.mem_filter.2 ⟨Array.mem_toList_iff.1 hm, by show (!seen.contains x.2) = true; rw [hc]; rfl⟩
      have h0 : leftOf S.es seen = #[] := Array.eq_empty_of_size_eq_zero h
      rw [h0] at this; simp at this
  rw [this, Bool.true_and]
end Go.Proofs.Ytojgalggibmjjaa
