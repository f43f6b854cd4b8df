/- told; the calls at no session. -/
import Derived.Test.YtpdchdbkfflgfaaT
namespace Go.Proofs.Ytpdchdbkfflgfaa
open Go.RowKit

theorem unwrap_any (g : Nat) (n : Int) (of : ByteArray) (w : World) (h : w.heap[g]? = some (.cells #[.int .i64 n, .string of] 95 (0, 0))) :
    Calls Try.prog 35 #[.pointer (some ⟨g, 0, none⟩)] w fun e w' => e = .returned (.iface 49 (.int .i64 n)) ∧ w = w' := by
  have c0 : w.cell? ⟨g, 0, none⟩ = some (.int .i64 n) := cell_row h rfl
  clear h
  go_enter Try.func35, Try.ntmps35
  go_wp2
  go_ret
  exact ⟨rfl, rfl⟩
set_option maxRecDepth 100000 in
set_option maxHeartbeats 1000000 in
/-- told, of an error that is of that number and that name. -/
theorem told_any {H : Nat} (v : Value) (n : Int) (of : ByteArray) (w : World) (h : IsErr H w v of n) :
    Calls Try.prog 15 #[v, .int .i64 n, .string of] w fun e w' => e = .returned (.bool true) ∧ w = w' := by
  rcases h with ⟨rfl, rfl⟩ | ⟨hn, g, _, rfl, hg⟩
  · go_enter Try.func15, Try.ntmps15
    go_wp2
    go_ret
    exact ⟨rfl, rfl⟩
  · have c0 : w.cell? ⟨g, 0, none⟩ = some (.int .i64 n) := cell_row hg rfl
    have c1 : w.cell? ⟨g, 1, none⟩ = some (.string of) := cell_row hg rfl
    have h0 : (n == 0) = false := by simpa using hn
    have HG := Lib.hid hg
    clear hg hn
    have ht : ∀ w, (Instr.typeAssert (.iface 92 (.pointer (some ⟨g, 0, none⟩))) 25 92 true).run Try.prog w = .ok (.tuple #[.pointer (some ⟨g, 0, none⟩), .bool true]) w := fun _ => by kernel_rfl
    have hb : ∀ w, (Go.binOp .eql 25 (.iface 49 (.int .i64 n)) (.iface 49 (.int .i64 n))).run Try.prog w = .ok (.bool true) w := fun w => by
      have h1 : (Go.binOp .eql 25 (.iface 49 (.int .i64 n)) (.iface 49 (.int .i64 n))).run Try.prog w = .ok (.bool (n == n)) w := by kernel_rfl
      rw [h1]; simp
    go_enter Try.func15, Try.ntmps15
    go_wp2_with (go_at_call 35; refine (unwrap_any _ _ _ _ HG.out).mono ?_; rintro e w1 ⟨rfl, rfl⟩)
    go_ret
    exact ⟨rfl, rfl⟩
def sScan : ByteArray := ⟨#[83, 99, 97, 110]⟩
set_option maxRecDepth 100000 in
set_option maxHeartbeats 1000000 in
theorem put_nil (k v : ByteArray) (w : World) :
    Calls Try.prog 12 #[.pointer none, .string k, .string v] w fun e w' => ∃ ev, e = .returned ev ∧ IsErr w.heap.size w' ev sPut 1 ∧ Chg (fun _ => False) w w' := by
  go_enter Try.func12, Try.ntmps12
  go_wp2_with fail
  refine (at_nil k v _).mono ?_
  rintro e w1 ⟨rfl, hc⟩
  have HC := Lib.hid hc
  clear hc
  go_wp2_with (go_at_call 25; refine (fault_any _ _ _).mono ?_; rintro e w2 ⟨rfl, rfl⟩)
  go_ret
  exact ⟨_, rfl, (isErr_fault sPut 1 w1).mono HC.out.size (.refl (fun _ => False) _) (fun _ h => h.elim), HC.out.trans (chg_fault _ _ _ (fun _ => False)) (fun _ h => h.elim)⟩
set_option maxRecDepth 100000 in
set_option maxHeartbeats 1000000 in
theorem learn_nil (b ver : Int) (wr : Bool) (a0 : Option Addr) (n0 c0 : Nat) (i0 i1 i2 i3 : Int) (v : Value) (w : World) :
    Calls Try.prog 11 #[.pointer none, .agg #[.int .i64 b, .int .u32 ver, .bool wr, .slice a0 n0 c0, .int .u32 i0, .int .u32 i1, .int .u32 i2, .int .u32 i3], v] w fun e w' => ∃ ev, e = .returned ev ∧ IsErr w.heap.size w' ev sLearn 1 ∧ Chg (fun _ => False) w w' := by
  go_enter Try.func11, Try.ntmps11
  go_wp2_with fail
  refine (open_nil _).mono ?_
  rintro e w1 ⟨rfl, rfl⟩
  go_wp2_with (go_at_call 25; refine (fault_err _ _ _).mono ?_; rintro e w2 ⟨ev, rfl, he, hc⟩; have HE := Lib.hid he; have HC := Lib.hid hc; clear he hc)
  go_ret
  exact ⟨ev, rfl, HE.out.mono (by simp) (.refl (fun _ => False) _) (fun _ h => h.elim), ((Chg.refl _ w).alloc _).trans HC.out (fun _ h => h.elim)⟩
set_option maxRecDepth 100000 in
set_option maxHeartbeats 1000000 in
theorem scan_nil (k t : ByteArray) (w : World) :
    Calls Try.prog 21 #[.pointer none, .string k, .string t] w fun e w' => ∃ ev, e = .returned (.tuple #[.slice none 0 0, ev]) ∧ IsErr w.heap.size w' ev sScan 1 ∧ Chg (fun _ => False) w w' := by
  go_enter Try.func21, Try.ntmps21
  go_wp2_with fail
  refine (open_nil _).mono ?_
  rintro e w1 ⟨rfl, rfl⟩
  go_wp2_with (go_at_call 25; refine (fault_err _ _ _).mono ?_; rintro e w2 ⟨ev, rfl, he, hc⟩; have HE := Lib.hid he; have HC := Lib.hid hc; clear he hc)
  go_ret2
  exact ⟨ev, rfl, HE.out, HC.out⟩
set_option maxRecDepth 100000 in
set_option maxHeartbeats 1000000 in
theorem scan_com {B : Nat} {S : Ses} (k t : ByteArray) (w : World) (h : S.Lies B w) (hc : S.com = true) :
    Calls Try.prog 21 #[.pointer (some ⟨S.p, 0, none⟩), .string k, .string t] w fun e w' => ∃ ev, e = .returned (.tuple #[.slice none 0 0, ev]) ∧ IsErr w.heap.size w' ev sScan 201 ∧ Chg (fun _ => False) w w' := by
  have c6 := h.c6
  clear h
  go_enter Try.func21, Try.ntmps21
  go_wp2_with fail
  refine (open_some _ _ _ c6).mono ?_
  rintro e w1 ⟨rfl, rfl⟩
  rw [hc]
  clear c6 hc
  go_wp2_with (go_at_call 25; refine (fault_err _ _ _).mono ?_; rintro e w2 ⟨ev, rfl, he, hc⟩; have HE := Lib.hid he; have HC := Lib.hid hc; clear he hc)
  go_ret2
  exact ⟨ev, rfl, HE.out, HC.out⟩
end Go.Proofs.Ytpdchdbkfflgfaa
