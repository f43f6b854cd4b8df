/- The closure that orders two calls; sorted. -/
import Derived.Test.YtojgalggibmjjaaC
import Derived.LoopN
namespace Go.Proofs.Ytojgalggibmjjaa
open Go.RowKit Go.Sort

/-- A call, as data. -/
structure Cl where
  id : Int
  to : Int
  since : Int
  tries : Int
  due : Int
def Cl.cells (c : Cl) : List Value := [.int .u64 c.id, .int .i64 c.to, .int .i64 c.since, .int .i64 c.tries, .int .i64 c.due]
def Cl.val (c : Cl) : Value := .agg #[.int .u64 c.id, .int .i64 c.to, .int .i64 c.since, .int .i64 c.tries, .int .i64 c.due]
instance : Inhabited Cl := ⟨⟨0, 0, 0, 0, 0⟩⟩
/-- The first that is not 0. -/
def orI (a b : Int) : Int := if a = 0 then b else a
/-- By due, then by number. -/
def cmpC (x y : Cl) : Int := orI (cmpI x.due y.due) (cmpI x.id y.id)
set_option maxRecDepth 100000 in
set_option maxHeartbeats 1000000 in
theorem or_any (g : Nat) (a b : Int) (w : World) (h : w.heap[g]? = some (.cells #[.int .i64 a, .int .i64 b] 3 (0, 0))) :
    Calls Try.prog 41 #[.slice (some ⟨g, 0, none⟩) 2 2] w fun e w' => e = .returned (.int .i64 (orI a b)) ∧ w = w' := by
  have c0 : w.cell? ⟨g, 0, none⟩ = some (.int .i64 a) := cell_row h rfl
  have c1 : w.cell? ⟨g, 1, none⟩ = some (.int .i64 b) := cell_row h rfl
  clear h
  by_cases ha : a = 0
  · have h0 : (a != 0) = false := by simpa using ha
    have HA := Lib.hid ha
    clear ha
    by_cases hb : b = 0
    · have h1 : (b != 0) = false := by simpa using hb
      have HB := Lib.hid hb
      clear hb
      go_enter Try.func41, Try.ntmps41
      go_wp2
      refine wp_loop_rounds 3 ?_
      rw [rounds_succ]
      go_wp2
      rw [rounds_succ]
      go_wp2
      rw [rounds_succ]
      go_wp2
      go_ret
      exact ⟨ret_i64 (by have ha := HA.out; have hb := HB.out; unfold orI; first | omega | (simp [ha, hb]) | (split <;> omega)), rfl⟩
    · have h1 : (b != 0) = true := by simpa using hb
      have HB := Lib.hid hb
      clear hb
      go_enter Try.func41, Try.ntmps41
      go_wp2
      refine wp_loop_rounds 3 ?_
      rw [rounds_succ]
      go_wp2
      rw [rounds_succ]
      go_wp2
      go_ret
      exact ⟨ret_i64 (by have ha := HA.out; unfold orI; first | omega | (simp [ha]) | (split <;> omega)), rfl⟩
  · have h0 : (a != 0) = true := by simpa using ha
    have HA := Lib.hid ha
    clear ha
    go_enter Try.func41, Try.ntmps41
    go_wp2
    refine wp_loop_rounds 3 ?_
    rw [rounds_succ]
    go_wp2
    go_ret
    exact ⟨ret_i64 (by have ha := HA.out; unfold orI; first | omega | (simp [ha]) | (split <;> omega)), rfl⟩
theorem three_grow (w : World) (a b c : Obj) : (((w.alloc a).alloc b).alloc c).drew = grow (w.drewN 1) #[a, b, c] := by
  show ({ w with heap := ((w.heap.push a).push b).push c, drawn := w.drawn + 1 } : World) = { w with heap := w.heap ++ #[a, b, c], drawn := w.drawn + 1 }
  congr 1
  first | done | (apply Array.toList_inj.1; simp)
set_option maxRecDepth 100000 in
set_option maxHeartbeats 400000 in
theorem order_any (x y : Cl) (w : World) :
    Calls Try.prog 40 #[x.val, y.val] w fun e w' => e = .returned (.int .i64 (cmpC x y)) ∧ ∃ q os, w' = grow (w.drewN q) os := by
  unfold Cl.val
  go_enter Try.func40, Try.ntmps40
  go_wp2
  have hx := heap_alloc_new w (.cells #[.int .u64 x.id, .int .i64 x.to, .int .i64 x.since, .int .i64 x.tries, .int .i64 x.due] 52)
  have hy := heap_alloc_new (w.alloc (.cells #[.int .u64 x.id, .int .i64 x.to, .int .i64 x.since, .int .i64 x.tries, .int .i64 x.due] 52)) (.cells #[.int .u64 y.id, .int .i64 y.to, .int .i64 y.since, .int .i64 y.tries, .int .i64 y.due] 52)
  rw [World.size_alloc] at hy
  have x0 : ((w.alloc (.cells #[.int .u64 x.id, .int .i64 x.to, .int .i64 x.since, .int .i64 x.tries, .int .i64 x.due] 52)).alloc (.cells #[.int .u64 y.id, .int .i64 y.to, .int .i64 y.since, .int .i64 y.tries, .int .i64 y.due] 52)).cell? ⟨w.heap.size, 0, none⟩ = some (.int .u64 x.id) := cell_alloc (cell_row hx rfl) _
  have x4 : ((w.alloc (.cells #[.int .u64 x.id, .int .i64 x.to, .int .i64 x.since, .int .i64 x.tries, .int .i64 x.due] 52)).alloc (.cells #[.int .u64 y.id, .int .i64 y.to, .int .i64 y.since, .int .i64 y.tries, .int .i64 y.due] 52)).cell? ⟨w.heap.size, 4, none⟩ = some (.int .i64 x.due) := cell_alloc (cell_row hx rfl) _
  have y0 : ((w.alloc (.cells #[.int .u64 x.id, .int .i64 x.to, .int .i64 x.since, .int .i64 x.tries, .int .i64 x.due] 52)).alloc (.cells #[.int .u64 y.id, .int .i64 y.to, .int .i64 y.since, .int .i64 y.tries, .int .i64 y.due] 52)).cell? ⟨w.heap.size + 1, 0, none⟩ = some (.int .u64 y.id) := cell_row hy rfl
  have y4 : ((w.alloc (.cells #[.int .u64 x.id, .int .i64 x.to, .int .i64 x.since, .int .i64 x.tries, .int .i64 x.due] 52)).alloc (.cells #[.int .u64 y.id, .int .i64 y.to, .int .i64 y.since, .int .i64 y.tries, .int .i64 y.due] 52)).cell? ⟨w.heap.size + 1, 4, none⟩ = some (.int .i64 y.due) := cell_row hy rfl
  have HZ : Hid (∀ c1 c2 : Int, ((((w.alloc (.cells #[.int .u64 x.id, .int .i64 x.to, .int .i64 x.since, .int .i64 x.tries, .int .i64 x.due] 52)).alloc (.cells #[.int .u64 y.id, .int .i64 y.to, .int .i64 y.since, .int .i64 y.tries, .int .i64 y.due] 52)).alloc (.cells #[.int .i64 c1, .int .i64 c2] 3)).drew).heap[w.heap.size + 1 + 1]? = some (.cells #[.int .i64 c1, .int .i64 c2] 3 (0, 0))) := by
    intro c1 c2
    have h := heap_alloc_new ((w.alloc (.cells #[.int .u64 x.id, .int .i64 x.to, .int .i64 x.since, .int .i64 x.tries, .int .i64 x.due] 52)).alloc (.cells #[.int .u64 y.id, .int .i64 y.to, .int .i64 y.since, .int .i64 y.tries, .int .i64 y.due] 52)) (.cells #[.int .i64 c1, .int .i64 c2] 3)
    rw [World.size_alloc, World.size_alloc] at h
    exact h
  clear hx hy
  go_region_held3 (fun w' => w'.cell? ⟨w.heap.size, 0, none⟩ = some (.int .u64 x.id) ∧ w'.cell? ⟨w.heap.size, 4, none⟩ = some (.int .i64 x.due) ∧ w'.cell? ⟨w.heap.size + 1, 0, none⟩ = some (.int .u64 y.id) ∧ w'.cell? ⟨w.heap.size + 1, 4, none⟩ = some (.int .i64 y.due))
    (go_keep) ((first
      | (go_at_call 42; refine (cmp64_any _ _ _).mono ?_; rintro e w1 ⟨rfl, rfl⟩)
      | (go_at_call 43; refine (cmpU_any _ _ _).mono ?_; rintro e w1 ⟨rfl, rfl⟩)
      | (go_at_call 41; refine (or_any (w.heap.size + 1 + 1) (cmpI x.due y.due) (cmpI x.id y.id) _ (HZ.out _ _)).mono ?_; rintro e w1 ⟨rfl, rfl⟩)))
  all_goals go_wp2
  all_goals go_ret
  all_goals exact ⟨rfl, 1, #[(.cells #[.int .u64 x.id, .int .i64 x.to, .int .i64 x.since, .int .i64 x.tries, .int .i64 x.due] 52), (.cells #[.int .u64 y.id, .int .i64 y.to, .int .i64 y.since, .int .i64 y.tries, .int .i64 y.due] 52), .cells #[.int .i64 (cmpI x.due y.due), .int .i64 (cmpI x.id y.id)] 3], three_grow w _ _ _⟩
end Go.Proofs.Ytojgalggibmjjaa
