/- A session in memory: what lies where; looking a bucket up. -/
import Derived.Test.YtpdchdbkfflgfaaC
import Derived.Deep.RegionHeld3
import Derived.Deep.DeepCutAuto
import Derived.MapKept
namespace Go.Proofs.Ytpdchdbkfflgfaa
open Go.RowKit

/-- What was learnt of a bucket: as data. -/
structure Tl where
  b : Int
  ver : Int
  i0 : Int
  i1 : Int
  i2 : Int
  i3 : Int
  was : List Ent
  now : List Ent
/-- .. and where it lies. -/
structure Row where
  d : Tl
  t : Nat
  born : Nat
  wv : Value
  nv : Value
def Row.blocks (x : Row) : List Nat := x.t :: (x.wv.ownBlock.toList ++ x.nv.ownBlock.toList)
def Row.cells (x : Row) : Array Value :=
  #[.int .i64 x.d.b, .int .u32 x.d.ver, .bool false, .slice none 0 0, .int .u32 x.d.i0, .int .u32 x.d.i1, .int .u32 x.d.i2, .int .u32 x.d.i3, x.wv, x.nv]
structure Row.Lies (B : Nat) (w : World) (x : Row) : Prop where
  tl : w.heap[x.t]? = some (.cells x.cells 83 (0, 0))
  was : w.ownsRow B 65 2 x.wv x.d.was.length (flat x.d.was)
  now : w.ownsRow B 65 2 x.nv x.d.now.length (flat x.d.now)
def Row.entry (x : Row) : MapEntry := { key := .int .i64 x.d.b, val := .pointer (some ⟨x.t, 0, none⟩), born := x.born }
structure Ses where
  p : Nat
  r : Nat
  clock : Nat
  id : Int
  client : Int
  m0 : Int
  m1 : Int
  m2 : Int
  com : Bool
  rows : List Row
def Ses.blocks (S : Ses) : List Nat := S.p :: S.r :: S.rows.flatMap Row.blocks
def Ses.cells (S : Ses) : Array Value := #[.int .u64 S.id, .int .i64 S.client, .int .i64 S.m0, .int .i64 S.m1, .int .i64 S.m2, .map (some S.r), .bool S.com]
/-- Entries that may be: a bucket's. -/
def Okay (b : Int) (l : List Ent) : Prop := Sorted l ∧ l.length ≤ 8 ∧ ∀ e ∈ l, 1 ≤ e.1.size ∧ e.1.size ≤ 32 ∧ e.2.size ≤ 64 ∧ (kb e.1 : Int) = b
def cz (x : Int) : Nat := if x = 0 then 1 else 0
def zs (i0 i1 i2 i3 : Int) : Nat := cz i0 + cz i1 + cz i2 + cz i3
structure Tl.Fine (x : Tl) : Prop where
  b0 : 0 ≤ x.b
  b1 : x.b < 64
  v0 : 0 ≤ x.ver
  v1 : x.ver < 2147483647
  r0 : 0 ≤ x.i0 ∧ x.i0 < 4294967296
  r1 : 0 ≤ x.i1 ∧ x.i1 < 4294967296
  r2 : 0 ≤ x.i2 ∧ x.i2 < 4294967296
  r3 : 0 ≤ x.i3 ∧ x.i3 < 4294967296
  was : Okay x.b x.was
  now : Okay x.b x.now
  z : zs x.i0 x.i1 x.i2 x.i3 ≤ 1
structure Ses.Lies (B : Nat) (w : World) (S : Ses) : Prop where
  head : w.heap[S.p]? = some (.cells S.cells 77 (0, 0))
  log : w.heap[S.r]? = some (.map (S.rows.map Row.entry).toArray S.clock)
  rows : ∀ x ∈ S.rows, x.Lies B w
  ne : S.p ≠ S.r
  pr : ∀ x ∈ S.rows, S.p ∉ x.blocks ∧ S.r ∉ x.blocks
  own : ∀ x ∈ S.rows, x.blocks.Nodup
  far : ∀ x ∈ S.rows, ∀ y ∈ S.rows, x.d.b ≠ y.d.b → ∀ k ∈ x.blocks, k ∉ y.blocks
  old : ∀ k ∈ S.blocks, B ≤ k
  dif : S.rows.Pairwise fun x y => x.d.b ≠ y.d.b
  fine : ∀ x ∈ S.rows, x.d.Fine
  few : S.rows.length ≤ 8
  born : (∀ x ∈ S.rows, x.born < S.clock) ∧ (S.rows.map (·.born)).Nodup

theorem findNow_ints (rows : List Row) (b : Int) : ∀ i, Instr.findNow (.int .i64) (.int .i64 b) (rows.map Row.entry) i =
    some ((rows.zipIdx i).findSome? fun x => if x.1.d.b = b then some (x.2, .pointer (some ⟨x.1.t, 0, none⟩)) else none) := by
  induction rows with
  | nil => intro i; rfl
  | cons x l ih =>
    intro i
    simp only [List.map_cons, Instr.findNow, Row.entry, Instr.sameNow, if_true, List.zipIdx_cons, List.findSome?_cons]
    by_cases h : x.d.b = b
    · simp [h]
    · have h1 : (b == x.d.b) = false := by simp; omega
      simp only [h1, h, if_false]
      exact ih (i + 1)
theorem findSome_idx (rows : List Row) (b : Int) : ∀ i, ((rows.zipIdx i).findSome? fun x => if x.1.d.b = b then some (x.2, Value.pointer (some ⟨x.1.t, 0, none⟩)) else none).map (·.2) =
    (rows.find? fun x => x.d.b == b).map fun x => Value.pointer (some ⟨x.t, 0, none⟩) := by
  induction rows with
  | nil => intro i; rfl
  | cons x l ih =>
    intro i
    simp only [List.zipIdx_cons, List.findSome?_cons, List.find?_cons]
    by_cases h : x.d.b = b
    · simp [h]
    · have h1 : (x.d.b == b) = false := by simpa using h
      simp only [h1, h, if_false]
      exact ih (i + 1)
def lookV (rows : List Row) (b : Int) : Value := ((rows.find? fun x => x.d.b == b).map fun x => Value.pointer (some ⟨x.t, 0, none⟩)).getD (.pointer none)
theorem run_look (rows : List Row) (b : Int) (r clock : Nat) (w : World) (h : w.heap[r]? = some (.map (rows.map Row.entry).toArray clock)) :
    (Instr.lookup 75 (.map (some r)) (.int .i64 b) false).run Try.prog w = .ok (lookV rows b) w := by
  have z78 : (zeroValue 78).run Try.prog w = .ok (.pointer none) w := by kernel_rfl
  have h1 := fun e => MapKept.run_checkKey (P := Try.prog) (w := w) (kt := 3) (k := .int .i64 b) Try.underlying3 rfl e 9999
  have h2 := MapKept.run_findKey (P := Try.prog) (w := w) (kt := 3) Try.underlying3 (findNow_ints rows b 0)
  have hs := findSome_idx rows b 0
  unfold Instr.lookup
  rw [Sem.run_bind, run_underlying Try.underlying75]
  simp only [Result.andThen, Sem.run_bind, MapKept.run_getObj_map h, h1, h2, Sem.run_pure]
  unfold lookV
  rw [← hs]
  cases ((rows.zipIdx 0).findSome? fun x => if x.1.d.b = b then some (x.2, Value.pointer (some ⟨x.1.t, 0, none⟩)) else none) with
  | none => simp [z78]
  | some x => simp
end Go.Proofs.Ytpdchdbkfflgfaa
