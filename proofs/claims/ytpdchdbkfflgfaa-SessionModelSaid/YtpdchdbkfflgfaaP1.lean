/- New, at the managers that the statements use. -/
import Derived.Test.YtpdchdbkfflgfaaP0
import Derived.Handy
namespace Go.Proofs.Ytpdchdbkfflgfaa
open Go.RowKit

/-- A key of an int that is not there. -/
theorem lookup_none {P : Program} {T kT eT : TypeId} {W : World} {r c : Nat} {es : Array MapEntry} {b : Int} {z : Value} (hT : P.underlying T = some (.map kT eT)) (hk : P.underlying kT = some (.int .i64)) (h : W.heap[r]? = some (.map es c))
    (hf : Instr.findNow (.int .i64) (.int .i64 b) es.toList 0 = some none) (hz : (zeroValue eT).run P W = .ok z W) : (Instr.lookup T (.map (some r)) (.int .i64 b) false).run P W = .ok z W := by
  have h1 := fun e => MapKept.run_checkKey (P := P) (w := W) (kt := kT) (k := .int .i64 b) hk rfl e 9999
  have h2 := MapKept.run_findKey (P := P) (w := W) (kt := kT) hk hf
  unfold Instr.lookup
  rw [Sem.run_bind, run_underlying hT]
  simp only [Result.andThen, Sem.run_bind, MapKept.run_getObj_map h, h1, h2, Sem.run_pure]
  simp [hz]
/-- .. is laid into the map. -/
theorem update_push {P : Program} {T kT eT : TypeId} {W : World} {r c : Nat} {es : Array MapEntry} {b : Int} (v : Value) (hT : P.underlying T = some (.map kT eT)) (hk : P.underlying kT = some (.int .i64)) (h : W.heap[r]? = some (.map es c))
    (hf : Instr.findNow (.int .i64) (.int .i64 b) es.toList 0 = some none) : ∃ W' : World, W'.heap[r]? = some (.map (es.push ⟨.int .i64 b, v, c⟩) (c + 1)) ∧ W.grownBy W' (some r) ∧ (Instr.mapUpdate T (.map (some r)) (.int .i64 b) v).run P W = .ok () W' := by
  have h1 := fun e => MapKept.run_checkKey (P := P) (w := W) (kt := kT) (k := .int .i64 b) hk rfl e 9999
  have h2 := MapKept.run_findKey (P := P) (w := W) (kt := kT) hk hf
  refine ⟨{ W with heap := W.heap.setIfInBounds r (.map (es.push ⟨.int .i64 b, v, c⟩) (c + 1)) }, (MapKept.heap_set h).1, ⟨rfl, rfl, rfl, by simp, fun k _ hk2 => (MapKept.heap_set h).2 k (fun e => hk2 (by rw [e]))⟩, ?_⟩
  unfold Instr.mapUpdate
  rw [Sem.run_bind, run_underlying hT]
  simp only [Result.andThen, Sem.run_bind, MapKept.run_getObj_map h, h1, h2]
  exact MapKept.run_setObj_map _ h
theorem len_map {P : Program} {T kT eT : TypeId} {W : World} {r c : Nat} {es : Array MapEntry} (hT : P.underlying T = some (.map kT eT)) (h : W.heap[r]? = some (.map es c)) (ty : TypeId) :
    (Builtin.len_ #[T] ty #[.map (some r)]).run P W = .ok (.int .i64 es.size) W := by
  simp only [Builtin.len_, List.getElem?_toArray, List.getElem?_cons_zero, Sem.run_bind, run_underlying hT, Result.andThen, MapKept.run_getObj_map h, Sem.run_pure]
  rfl
theorem four0 (x0 x1 x2 x3 : Value) (Z : Array Value) : (#[x0, x1, x2, x3] ++ Z)[0]? = some x0 := by rw [Array.getElem?_append_left (by simp)]; rfl
theorem four1 (x0 x1 x2 x3 : Value) (Z : Array Value) : (#[x0, x1, x2, x3] ++ Z)[1]? = some x1 := by rw [Array.getElem?_append_left (by simp)]; rfl
theorem four2 (x0 x1 x2 x3 : Value) (Z : Array Value) : (#[x0, x1, x2, x3] ++ Z)[2]? = some x2 := by rw [Array.getElem?_append_left (by simp)]; rfl
theorem four3 (x0 x1 x2 x3 : Value) (Z : Array Value) : (#[x0, x1, x2, x3] ++ Z)[3]? = some x3 := by rw [Array.getElem?_append_left (by simp)]; rfl
def seenE (m0 m1 m2 : Int) : Nat → Array MapEntry
  | 0 => #[]
  | 1 => #[⟨.int .i64 m0, .int .i64 1, 0⟩]
  | 2 => #[⟨.int .i64 m0, .int .i64 1, 0⟩, ⟨.int .i64 m1, .int .i64 1, 1⟩]
  | _ => #[⟨.int .i64 m0, .int .i64 1, 0⟩, ⟨.int .i64 m1, .int .i64 1, 1⟩, ⟨.int .i64 m2, .int .i64 1, 2⟩]
set_option maxRecDepth 100000 in
set_option maxHeartbeats 2000000 in
theorem new_any (id client m0 m1 m2 : Int) (w : World) (hid : (id == 0) = false) (hc0 : 0 ≤ client) (hc1 : client < 12) (h00 : 0 ≤ m0) (h01 : m0 < 12) (h10 : 0 ≤ m1) (h11 : m1 < 12) (h20 : 0 ≤ m2) (h21 : m2 < 12)
    (d01 : m0 ≠ m1) (d02 : m0 ≠ m2) (d12 : m1 ≠ m2) :
    Calls Try.prog 8 #[.int .u64 id, .int .i64 client, .agg #[.int .i64 m0, .int .i64 m1, .int .i64 m2]] w fun e w' => ∃ S : Ses, e = .returned (.tuple #[.pointer (some ⟨S.p, 0, none⟩), .nilIface]) ∧ S.Lies w.heap.size w' ∧ S.pure = ⟨id, client, m0, m1, m2, false, []⟩ ∧ Chg (fun _ => False) w w' := by
  have hmm := @run_makeMap Try.prog
  have a0 := four0
  have a1 := four1
  have a2 := four2
  have a3 := four3
  have n1 : Instr.findNow (.int .i64) (.int .i64 m1) (seenE m0 m1 m2 1).toList 0 = some none := by
    have : (m1 == m0) = false := by simpa using fun e => d01 e.symm
    simp [seenE, Instr.findNow, Instr.sameNow, this]
  have n2 : Instr.findNow (.int .i64) (.int .i64 m2) (seenE m0 m1 m2 2).toList 0 = some none := by
    have h1 : (m2 == m0) = false := by simpa using fun e => d02 e.symm
    have h2 : (m2 == m1) = false := by simpa using fun e => d12 e.symm
    simp [seenE, Instr.findNow, Instr.sameNow, h1, h2]
  have N1 := Lib.hid n1
  have N2 := Lib.hid n2
  clear n1 n2 d01 d02 d12
  go_enter Try.func8, Try.ntmps8
  go_wp2_with fail
  go_rounds 5
  obtain ⟨W, hW⟩ : ∃ W : World, W = ((((w.alloc (Obj.cells #[Value.int IntKind.i64 m0, Value.int IntKind.i64 m1, Value.int IntKind.i64 m2] 29)).alloc (Obj.map #[] 0)).alloc (Obj.cells #[Value.int IntKind.i64 client] 3)).alloc
       (Obj.cells (#[Value.int IntKind.i64 m0, Value.int IntKind.i64 m1, Value.int IntKind.i64 m2, Value.int IntKind.i64 client] ++ Builtin.zeroCells #[Value.int IntKind.i64 0] ((Question.appendCap 4 3 3).cut (w.tape w.drawn (Question.appendCap 4 3 3)) - 4)) 3)).drew := ⟨_, rfl⟩
  rw [← hW]
  have hWm : W.heap[w.heap.size + 1]? = some (.map #[] 0) := by
    rw [hW]
    refine (Below.heap_alloc _ _ _ (by simp)).trans ((Below.heap_alloc _ _ _ (by simp)).trans ?_)
    have := heap_alloc_new (w.alloc (Obj.cells #[Value.int IntKind.i64 m0, Value.int IntKind.i64 m1, Value.int IntKind.i64 m2] 29)) (Obj.map #[] 0)
    rw [World.size_alloc] at this
    exact this
  have hWb : W.heap[w.heap.size]? = some (.cells #[Value.int IntKind.i64 m0, Value.int IntKind.i64 m1, Value.int IntKind.i64 m2] 29 (0, 0)) := by
    rw [hW]
    refine (Below.heap_alloc _ _ _ (by simp; omega)).trans ((Below.heap_alloc _ _ _ (by simp; omega)).trans ((Below.heap_alloc _ _ _ (by simp)).trans ?_))
    exact (heap_alloc_new w _)
  have hWs : W.heap.size = w.heap.size + 4 := by rw [hW]; simp
  have hWc : Chg (fun _ => False) w W := by rw [hW]; exact ((((Chg.refl _ w).alloc _).alloc _).alloc _).alloc _ |>.drew
  have HWM := Lib.hid hWm
  have HWB := Lib.hid hWb
  have HWS := Lib.hid hWs
  have HWC := Lib.hid hWc
  have hb0 : W.cell? ⟨w.heap.size, 0, none⟩ = some (.int .i64 m0) := cell_row hWb rfl
  have hb1 : W.cell? ⟨w.heap.size, 1, none⟩ = some (.int .i64 m1) := cell_row hWb rfl
  have hb2 : W.cell? ⟨w.heap.size, 2, none⟩ = some (.int .i64 m2) := cell_row hWb rfl
  clear hW hWm hWb hWs hWc a0 a1 a2 a3
  have x0 : ∀ w, (Instr.index 29 (.agg #[.int .i64 m0, .int .i64 m1, .int .i64 m2]) (.int .i64 0)).run Try.prog w = .ok (.int .i64 m0) w := fun _ => by kernel_rfl
  have x1 : ∀ w, (Instr.index 29 (.agg #[.int .i64 m0, .int .i64 m1, .int .i64 m2]) (.int .i64 1)).run Try.prog w = .ok (.int .i64 m1) w := fun _ => by kernel_rfl
  have x2 : ∀ w, (Instr.index 29 (.agg #[.int .i64 m0, .int .i64 m1, .int .i64 m2]) (.int .i64 2)).run Try.prog w = .ok (.int .i64 m2) w := fun _ => by kernel_rfl
  go_wp2
  go_loopw [32] (fun i wr => ∃ k : Nat, k ≤ 3 ∧ i = .int .i64 k ∧ Hid (wr.heap[w.heap.size + 1]? = some (.map (seenE m0 m1 m2 k) k)) ∧ Chg (fun q => q = w.heap.size + 1) W wr) (fun i _ => 3 - (intOf i).toNat)
  case atStart => exact ⟨0, by omega, rfl, HWM.out, .refl _ _⟩
  case round =>
    obtain ⟨k, hk, rfl, HM, hc⟩ := hrel
    by_cases h3 : k = 3
    · subst h3
      have hl := len_map (P := Try.prog) Try.underlying72 HM.out
      have c0 := hc.cell hb0 (fun h => by simp at h)
      have c1 := hc.cell hb1 (fun h => by simp at h)
      have c2 := hc.cell hb2 (fun h => by simp at h)
      have es : (seenE m0 m1 m2 3).size = 3 := rfl
      rw [es] at hl
      clear es hb0 hb1 hb2
      go_wp2
      go_ret2
      have hws : w.heap.size ≤ wr.heap.size := by have h1 := HWS.out; have h2 := hc.size; omega
      refine ⟨⟨wr.heap.size + 1, wr.heap.size, 0, id, client, m0, m1, m2, false, []⟩, rfl, ⟨?_, ?_, ?_, ?_, ?_, ?_, ?_, ?_, ?_, ?_, ?_, ?_⟩, rfl, ?_⟩
      · have := heap_alloc_new (wr.alloc (Obj.map #[] 0)) (.cells #[.int .u64 id, .int .i64 client, .int .i64 m0, .int .i64 m1, .int .i64 m2, .map (some wr.heap.size), .bool false] 77)
        rw [World.size_alloc] at this
        exact this
      · exact (Below.heap_alloc _ _ _ (by simp)).trans (heap_alloc_new wr _)
      · intro x hx; cases hx
      · show wr.heap.size + 1 ≠ wr.heap.size; omega
      · intro x hx; cases hx
      · intro x hx; cases hx
      · intro x hx; cases hx
      · intro k hk
        have : k = wr.heap.size + 1 ∨ k = wr.heap.size := by simpa [Ses.blocks] using hk
        omega
      · exact List.Pairwise.nil
      · intro x hx; cases hx
      · exact Nat.zero_le _
      · exact ⟨fun x hx => (by cases hx), List.nodup_nil⟩
      · exact (HWC.out.trans ((hc.alloc _).alloc _) (fun q h h2 => by have := HWS.out; omega))
    · have hcase : k = 0 ∨ k = 1 ∨ k = 2 := by omega
      have z3 : (zeroValue 3).run Try.prog wr = .ok (.int .i64 0) wr := by kernel_rfl
      rcases hcase with rfl | rfl | rfl
      · have hl := lookup_none (P := Try.prog) (b := m0) Try.underlying72 Try.underlying3 HM.out rfl z3
        obtain ⟨W', hm, hg, hu⟩ := update_push (P := Try.prog) (b := m0) (.int .i64 1) Try.underlying72 Try.underlying3 HM.out rfl
        have HM' := Lib.hid hm
        clear hm
        go_wp2
        go_roundw
        case rel => exact ⟨1, by omega, rfl, HM'.out, hc.trans (Chg.of_grown hg (F := fun q => q = w.heap.size + 1) (fun q h => by injection h with h; exact h.symm)) (fun _ h _ => h)⟩
        case measure => simp [intOf]
      · have hl := lookup_none (P := Try.prog) (b := m1) Try.underlying72 Try.underlying3 HM.out N1.out z3
        obtain ⟨W', hm, hg, hu⟩ := update_push (P := Try.prog) (b := m1) (.int .i64 1) Try.underlying72 Try.underlying3 HM.out N1.out
        have HM' := Lib.hid hm
        clear hm
        go_wp2
        go_roundw
        case rel => exact ⟨2, by omega, rfl, HM'.out, hc.trans (Chg.of_grown hg (F := fun q => q = w.heap.size + 1) (fun q h => by injection h with h; exact h.symm)) (fun _ h _ => h)⟩
        case measure => simp [intOf]
      · have hl := lookup_none (P := Try.prog) (b := m2) Try.underlying72 Try.underlying3 HM.out N2.out z3
        obtain ⟨W', hm, hg, hu⟩ := update_push (P := Try.prog) (b := m2) (.int .i64 1) Try.underlying72 Try.underlying3 HM.out N2.out
        have HM' := Lib.hid hm
        clear hm
        go_wp2
        go_roundw
        case rel => exact ⟨3, by omega, rfl, HM'.out, hc.trans (Chg.of_grown hg (F := fun q => q = w.heap.size + 1) (fun q h => by injection h with h; exact h.symm)) (fun _ h _ => h)⟩
        case measure => simp [intOf]
end Go.Proofs.Ytpdchdbkfflgfaa
