/- Words for the session proofs: order of byte strings, entries, what a call leaves alone. No program here. -/
import Derived.WalkKit
import Derived.WalkSpells
import Derived.WalkLawsBesides
import Derived.Lib.Strings
namespace Go.Proofs.Ytpdchdbkfflgfaa
open Go.RowKit

theorem bytesLess_lt : ∀ (x y : List UInt8), Op.bytesLess x y = decide (x < y)
  | [], [] => by simp [Op.bytesLess]
  | _ :: _, [] => by simp [Op.bytesLess]
  | [], _ :: _ => by simp [Op.bytesLess]
  | a :: x, b :: y => by
    simp only [Op.bytesLess, bytesLess_lt x y, List.cons_lt_cons_iff, Bool.decide_or, Bool.decide_and]
    rfl
/-- Two strings in Go's order. -/
def ltB (a b : ByteArray) : Bool := Op.bytesLess a.toList b.toList
/-- Two strings alike. -/
def eqB (a b : ByteArray) : Bool := a.toList == b.toList
theorem toList_inj {a b : ByteArray} (h : a.toList = b.toList) : a = b := by
  rw [Lib.toList_data, Lib.toList_data] at h
  have := congrArg List.toArray h
  simpa [ByteArray.ext_iff] using this
theorem eqB_iff {a b : ByteArray} : eqB a b = true ↔ a = b := by
  unfold eqB; rw [beq_iff_eq]; exact ⟨toList_inj, fun h => by rw [h]⟩
theorem ltB_iff {a b : ByteArray} : ltB a b = true ↔ a.toList < b.toList := by
  unfold ltB; rw [bytesLess_lt]; simp
theorem ltB_irrefl (a : ByteArray) : ltB a a = false := by
  rw [Bool.eq_false_iff]; intro h; rw [ltB_iff] at h; exact List.lt_irrefl _ h
theorem ltB_trans {a b c : ByteArray} (h : ltB a b = true) (k : ltB b c = true) : ltB a c = true := by
  rw [ltB_iff] at *; exact List.lt_trans h k
theorem ltB_asymm {a b : ByteArray} (h : ltB a b = true) : ltB b a = false := by
  rw [Bool.eq_false_iff]; intro k
  have := ltB_trans h k
  rw [ltB_irrefl] at this; cases this
theorem ltB_total {a b : ByteArray} (h : ltB a b = false) (k : ltB b a = false) : a = b := by
  apply toList_inj
  have h1 : ¬ a.toList < b.toList := fun x => by rw [← ltB_iff, h] at x; cases x
  have h2 : ¬ b.toList < a.toList := fun x => by rw [← ltB_iff, k] at x; cases x
  exact List.le_antisymm (List.not_lt.1 h2) (List.not_lt.1 h1)

abbrev Ent := ByteArray × ByteArray
def flat (l : List Ent) : List Value := l.flatMap fun e => [.string e.1, .string e.2]
theorem flat_nil : flat [] = [] := rfl
theorem flat_append (a b : List Ent) : flat (a ++ b) = flat a ++ flat b := by simp [flat]
theorem flat_length (l : List Ent) : (flat l).length = l.length * 2 := by
  induction l with
  | nil => rfl
  | cons x l ih => simp only [flat, List.flatMap_cons, List.length_append, List.length_cons, List.length_nil] at *; omega
theorem flat_key (l : List Ent) (i : Nat) (h : i < l.length) : (flat l)[2 * i]? = some (.string l[i].1) := by
  induction l generalizing i with
  | nil => simp at h
  | cons x l ih =>
    cases i with
    | zero => simp [flat]
    | succ i =>
      have := ih i (by simpa using h)
      show (flat ([x] ++ l))[2 * (i + 1)]? = _
      rw [flat_append, List.getElem?_append_right (by simp [flat_length]; omega)]
      rw [show 2 * (i + 1) - (flat [x]).length = 2 * i from by simp [flat_length]; omega, this]
      simp
theorem flat_val (l : List Ent) (i : Nat) (h : i < l.length) : (flat l)[2 * i + 1]? = some (.string l[i].2) := by
  induction l generalizing i with
  | nil => simp at h
  | cons x l ih =>
    cases i with
    | zero => simp [flat]
    | succ i =>
      have := ih i (by simpa using h)
      show (flat ([x] ++ l))[2 * (i + 1) + 1]? = _
      rw [flat_append, List.getElem?_append_right (by simp [flat_length]; omega)]
      rw [show 2 * (i + 1) + 1 - (flat [x]).length = 2 * i + 1 from by simp [flat_length]; omega, this]
      simp

/-- Only blocks of F, among those that were there, have turned; the streams stand. -/
structure Chg (F : Nat → Prop) (w w' : World) : Prop where
  os : w'.os = w.os
  tape : w'.tape = w.tape
  output : w'.output = w.output
  size : w.heap.size ≤ w'.heap.size
  block : ∀ k, k < w.heap.size → ¬ F k → w'.heap[k]? = w.heap[k]?
theorem Chg.refl (F : Nat → Prop) (w : World) : Chg F w w := ⟨rfl, rfl, rfl, Nat.le_refl _, fun _ _ _ => rfl⟩
theorem Chg.trans {F G : Nat → Prop} {a b c : World} (h : Chg F a b) (k : Chg G b c) (hG : ∀ x, G x → x < a.heap.size → F x) : Chg F a c :=
  ⟨k.os.trans h.os, k.tape.trans h.tape, k.output.trans h.output, Nat.le_trans h.size k.size,
   fun x hx hF => (k.block x (Nat.lt_of_lt_of_le hx h.size) (fun g => hF (hG x g hx))).trans (h.block x hx hF)⟩
theorem Chg.mono {F G : Nat → Prop} {a b : World} (h : Chg F a b) (hG : ∀ x, F x → x < a.heap.size → G x) : Chg G a b :=
  ⟨h.os, h.tape, h.output, h.size, fun x hx hg => h.block x hx (fun f => hg (hG x f hx))⟩
theorem Chg.below {F : Nat → Prop} {a b : World} (h : Chg F a b) {B : Nat} (hB : ∀ x, F x → B ≤ x) (hs : B ≤ a.heap.size) : Below B a b :=
  ⟨h.os, h.tape, h.output, h.size, fun x hx => h.block x (by omega) (fun f => by have := hB x f; omega)⟩
theorem Chg.of_below {w w' : World} (h : Below w.heap.size w w') (F : Nat → Prop) : Chg F w w' :=
  ⟨h.os, h.tape, h.output, h.size, fun k hk _ => h.block k hk⟩
theorem Chg.of_grown {w w' : World} {row : Option Nat} (h : w.grownBy w' row) {F : Nat → Prop} (hF : ∀ k, row = some k → F k) : Chg F w w' :=
  ⟨h.os, h.tape, h.output, h.size, fun k hk hf => h.block k hk (fun e => hf (hF k e.symm))⟩

theorem Chg.alloc {F : Nat → Prop} {a b : World} (h : Chg F a b) (o : Obj) : Chg F a (b.alloc o) :=
  ⟨h.os, h.tape, h.output, by have := h.size; simp; omega, fun k hk hf => (Below.heap_alloc b o k (Nat.lt_of_lt_of_le hk h.size)).trans (h.block k hk hf)⟩
theorem Chg.drewN {F : Nat → Prop} {a b : World} (h : Chg F a b) (n : Nat) : Chg F a (b.drewN n) := ⟨h.os, h.tape, h.output, h.size, h.block⟩
theorem Chg.drew {F : Nat → Prop} {a b : World} (h : Chg F a b) : Chg F a b.drew := ⟨h.os, h.tape, h.output, h.size, h.block⟩
theorem Chg.setCell {F : Nat → Prop} {a b : World} (h : Chg F a b) {p : Addr} (hp : F p.block ∨ a.heap.size ≤ p.block) (u : Value) : Chg F a (b.setCell p u) :=
  ⟨h.os, h.tape, h.output, by have := h.size; simp [World.setCell]; omega, fun k hk hf => (Below.heap_setCell b p u k (by
    rintro rfl; rcases hp with hp | hp
    · exact hf hp
    · omega)).trans (h.block k hk hf)⟩
theorem Chg.cell {F : Nat → Prop} {w w' : World} (h : Chg F w w') {p : Addr} {v : Value} (hv : w.cell? p = some v) (hp : ¬ F p.block) : w'.cell? p = some v :=
  (World.cell?_of_block (h.block p.block (World.block_lt_of_cell? w p hv) hp)).trans hv
theorem Chg.obj {F : Nat → Prop} {w w' : World} (h : Chg F w w') {k : Nat} {o : Obj} (hv : w.heap[k]? = some o) (hp : ¬ F k) : w'.heap[k]? = some o :=
  (h.block k (lt_of_block hv) hp).trans hv
theorem Chg.frozen {F : Nat → Prop} {w w' : World} (h : Chg F w w') {p : Addr} (hb : p.block < w.heap.size) (hp : ¬ F p.block) : w'.frozen? p = w.frozen? p :=
  World.frozen?_of_block (h.block p.block hb hp)
theorem Chg.owns {F : Nat → Prop} {w w' : World} (h : Chg F w w') {B e n : Nat} {size : Nat} {v : Value} {xs : List Value} (ho : w.ownsRow B e size v n xs) (hp : ∀ k, v.ownBlock = some k → ¬ F k) : w'.ownsRow B e size v n xs := by
  refine ⟨ho.1, ?_⟩
  rcases ho.2 with h1 | ⟨g, cap, cur, rfl, hb, hg, r⟩
  · exact .inl h1
  · exact .inr ⟨g, cap, cur, rfl, hb, h.obj hg (hp g rfl), r⟩
theorem Chg.of_drew {F : Nat → Prop} {w w' : World} (h : Chg F w.drew w') : Chg F w w' := ⟨h.os, h.tape, h.output, h.size, h.block⟩
theorem Chg.of_drewN {F : Nat → Prop} {w w' : World} {n : Nat} (h : Chg F (w.drewN n) w') : Chg F w w' := ⟨h.os, h.tape, h.output, h.size, h.block⟩
/-- A slice value that reads as these entries. -/
def Reads (w : World) (v : Value) (l : List Ent) : Prop :=
  ∃ a c, v = .slice a l.length c ∧ l.length ≤ c ∧ c ≤ maxLen ∧ (l = [] ∨ ∃ b o, a = some ⟨b, o, none⟩ ∧ ∀ i (h : i < l.length), w.cell? ⟨b, o + i * 2, none⟩ = some (.string l[i].1) ∧ w.cell? ⟨b, o + i * 2 + 1, none⟩ = some (.string l[i].2))
theorem Chg.reads {F : Nat → Prop} {w w' : World} (h : Chg F w w') {v : Value} {l : List Ent} (hr : Reads w v l) (hp : ∀ k, v.ownBlock = some k → ¬ F k) : Reads w' v l := by
  obtain ⟨a, c, rfl, h1, h2, h3⟩ := hr
  refine ⟨a, c, rfl, h1, h2, ?_⟩
  rcases h3 with h3 | ⟨b, o, rfl, h3⟩
  · exact .inl h3
  · exact .inr ⟨b, o, rfl, fun i hi => ⟨h.cell (h3 i hi).1 (hp b rfl), h.cell (h3 i hi).2 (hp b rfl)⟩⟩
def Sorted (l : List Ent) : Prop := l.Pairwise fun a b => ltB a.1 b.1 = true

end Go.Proofs.Ytpdchdbkfflgfaa
