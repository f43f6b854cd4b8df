/- The calls at no inbox and at no calls. -/
import Derived.Test.YtojgalggibmjjaaProg
import Derived.Test.YtojgalggibmjjaaA
import Derived.Deep.QuietTactic
import Derived.BigQuiet
namespace Go.Proofs.Ytojgalggibmjjaa
open Go.RowKit

def zCall : Value := .agg #[.int .u64 0, .int .i64 0, .int .i64 0, .int .i64 0, .int .i64 0]
theorem open_nil (to now : Int) (w : World) :
    Calls Try.prog 15 #[.pointer none, .int .i64 to, .int .i64 now] w fun e w' => e = .returned (.tuple #[.int .u64 0, .int .i64 1]) ∧ w = w' := by
  go_enter Try.func15, Try.ntmps15
  go_wp2
  go_ret2
  exact ⟨rfl, rfl⟩
theorem due_nil (now : Int) (w : World) :
    Calls Try.prog 17 #[.pointer none, .int .i64 now] w fun e w' => e = .returned (.tuple #[.slice none 0 0, .slice none 0 0]) ∧ Chg (fun _ => False) w w' := by
  go_enter Try.func17, Try.ntmps17
  go_wp2
  go_ret2
  exact ⟨rfl, by first | exact .refl _ _ | exact (Chg.refl _ w).alloc _⟩
theorem next_nil (w : World) :
    Calls Try.prog 10 #[.pointer none] w fun e w' => e = .returned (.tuple #[.int .i64 0, .bool false]) ∧ w = w' := by
  go_enter Try.func10, Try.ntmps10
  go_wp2
  go_ret2
  exact ⟨rfl, rfl⟩
theorem list_nil (w : World) :
    Calls Try.prog 13 #[.pointer none] w fun e w' => e = .returned (.slice none 0 0) ∧ w = w' := by
  go_enter Try.func13, Try.ntmps13
  go_wp2
  go_ret
  exact ⟨rfl, rfl⟩
theorem put_nil (p : Value) (hp : ∃ a b c d n k, p = .agg #[.int .u64 a, .int .i64 b, .int .i64 c, .slice d n k]) (w : World) :
    Calls Try.prog 21 #[.pointer none, p] w fun e w' => e = .returned (.int .i64 1) ∧ Chg (fun _ => False) w w' := by
  obtain ⟨a, b, c, d, n, k, rfl⟩ := hp
  go_enter Try.func21, Try.ntmps21
  go_wp2
  go_ret
  exact ⟨rfl, (Chg.refl _ w).alloc _⟩
theorem len_nil (w : World) :
    Calls Try.prog 22 #[.pointer none] w fun e w' => e = .returned (.int .i64 0) ∧ w = w' := by
  go_enter Try.func22, Try.ntmps22
  go_wp2
  go_ret
  exact ⟨rfl, rfl⟩
def sCall : ByteArray := ⟨#[99, 97, 108, 108]⟩
/-- A fault of a number, of a call. -/
def FaultAt (w : World) (v : Value) (n : Int) : Prop := ∃ g : Nat, v = .iface 84 (.pointer (some ⟨g, 0, none⟩)) ∧ w.heap[g]? = some (.cells #[.int .i64 n, .string sCall] 86 (0, 0))
theorem FaultAt.same {w w' : World} {v : Value} {n : Int} {F : Nat → Prop} (h : FaultAt w v n) (hc : Chg F w w') (hF : ∀ g, F g → ∀ cs t fr, w.heap[g]? = some (.cells cs t fr) → t ≠ 86) : FaultAt w' v n := by
  obtain ⟨g, hv, hg⟩ := h
  exact ⟨g, hv, hc.obj hg (fun hf => hF g hf _ _ _ hg rfl)⟩
set_option maxRecDepth 100000 in
theorem close_nil (id : Int) (w : World) :
    Calls Try.prog 16 #[.pointer none, .int .u64 id] w fun e w' => (∃ ev, e = .returned (.tuple #[zCall, ev]) ∧ FaultAt w' ev 1) ∧ Chg (fun _ => False) w w' := by
  have hb := heap_alloc_new (w.alloc (.cells #[.int .u64 0, .int .i64 0, .int .i64 0, .int .i64 0, .int .i64 0] 52)) (.cells #[.int .i64 1, .string sCall] 86)
  rw [World.size_alloc] at hb
  have HB := Lib.hid hb
  clear hb
  go_enter Try.func16, Try.ntmps16
  go_wp2
  exact bodyPost_ret (v := .tuple #[zCall, .iface 84 (.pointer (some ⟨w.heap.size + 1, 0, none⟩))]) (by simp [results, Try.results16, go_sem, zCall]) rfl ⟨⟨_, rfl, w.heap.size + 1, rfl, HB.out⟩, ((Chg.refl _ w).alloc _).alloc _⟩
theorem take_nil (w : World) :
    Calls Try.prog 19 #[.pointer none] w fun e w' => e = .returned (.tuple #[.agg #[.int .u64 0, .int .i64 0, .int .i64 0, .slice none 0 0], .bool false]) ∧ Chg (fun _ => False) w w' := by
  go_enter Try.func19, Try.ntmps19
  go_wp2
  exact bodyPost_ret (v := .tuple #[.agg #[.int .u64 0, .int .i64 0, .int .i64 0, .slice none 0 0], .bool false]) (by simp [results, Try.results19, go_sem]) rfl ⟨rfl, (Chg.refl _ w).alloc _⟩
theorem unwrap_any (g : Nat) (n : Int) (w : World) (h : w.heap[g]? = some (.cells #[.int .i64 n, .string sCall] 86 (0, 0))) :
    Calls Try.prog 35 #[.pointer (some ⟨g, 0, none⟩)] w fun e w' => e = .returned (.iface 27 (.int .i64 n)) ∧ w = w' := by
  have c0 : w.cell? ⟨g, 0, none⟩ = some (.int .i64 n) := cell_row h rfl
  clear h
  go_enter Try.func35, Try.ntmps35
  go_wp2
  go_ret
  exact ⟨rfl, rfl⟩
theorem quiet_eq {P : Program} {f : FuncId} {args : Array Value} {w : World} {n : Nat} {v : Value}
    (h : Calls P f args (w.drewN n) fun e w' => e = .returned v ∧ w.drewN n = w') : Calls P f args (w.drewN n) fun e w'' => e = .returned v ∧ ∃ m, w'' = w.drewN m :=
  h.mono fun _ _ ⟨he, hm⟩ => ⟨he, n, hm.symm⟩
theorem fault_ok (w : World) : Calls Try.prog 20 #[.nilIface] w fun e w' => e = .returned (.tuple #[.int .i64 0, .bool true]) ∧ Chg (fun _ => False) w w' := by
  go_enter Try.func20, Try.ntmps20
  go_wp2
  go_ret2
  exact ⟨rfl, .refl _ _⟩
set_option maxRecDepth 100000 in
set_option maxHeartbeats 1000000 in
/-- fault, of a fault. -/
theorem fault_is (v : Value) (n : Int) (w : World) (h : FaultAt w v n) :
    Calls Try.prog 20 #[v] w fun e w' => e = .returned (.tuple #[.int .i64 n, .bool true]) ∧ Chg (fun _ => False) w w' := by
  obtain ⟨g, rfl, hg⟩ := h
  have c0 : w.cell? ⟨g, 0, none⟩ = some (.int .i64 n) := cell_row hg rfl
  have c1 : w.cell? ⟨g, 1, none⟩ = some (.string ⟨#[99, 97, 108, 108]⟩) := cell_row hg rfl
  have HG := Lib.hid hg
  have ht : ∀ w, (Instr.typeAssert (.iface 84 (.pointer (some ⟨g, 0, none⟩))) 54 84 true).run Try.prog w = .ok (.tuple #[.pointer (some ⟨g, 0, none⟩), .bool true]) w := fun _ => by kernel_rfl
  have hb : ∀ w, (Go.binOp .eql 54 (.iface 27 (.int .i64 n)) (.iface 27 (.int .i64 n))).run Try.prog w = .ok (.bool true) w := fun w => by
    have h1 : (Go.binOp .eql 54 (.iface 27 (.int .i64 n)) (.iface 27 (.int .i64 n))).run Try.prog w = .ok (.bool (n == n)) w := by kernel_rfl
    rw [h1]; simp
  clear hg
  go_enter Try.func20, Try.ntmps20
  go_wp2_with fail
  go_quiet ((go_at_call 35; exact quiet_eq (unwrap_any g n _ HG.out)))
  go_wp2
  go_ret2
  exact ⟨rfl, (Chg.refl _ w).drewN _⟩
end Go.Proofs.Ytojgalggibmjjaa
