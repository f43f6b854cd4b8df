/- InboxNil: its walk. -/
import Derived.Test.YtojgalggibmjjaaI
namespace Go.Proofs.Ytojgalggibmjjaa
open Go.RowKit

set_option maxRecDepth 100000 in
set_option maxHeartbeats 1000000 in
theorem inboxNil_any (a b c : Int) (d : Option Addr) (n k : Nat) (id : Int) (w : World) :
    Calls Try.prog 5 #[.agg #[.int .u64 a, .int .i64 b, .int .i64 c, .slice d n k], .int .u64 id] w fun e w' => e = .returned (.bool true) ∧ Chg (fun _ => False) w w' := by
  have hb := heap_alloc_new w (.cells #[.int .u64 a, .int .i64 b, .int .i64 c, .slice d n k] 63)
  have HB := Lib.hid hb
  clear hb
  go_enter Try.func5, Try.ntmps5
  go_wp2_with fail
  refine (awake_any _).mono ?_
  rintro e w1 ⟨rfl, hc1⟩
  have C1 := Lib.hid hc1
  clear hc1
  go_wp2_with fail
  refine (take_nil _).mono ?_
  rintro e w2 ⟨rfl, hc2⟩
  have C2 := Lib.hid (C1.out.trans hc2 (fun _ h => h.elim))
  clear hc2
  go_wp2_with fail
  refine (open_nil _ _ _).mono ?_
  rintro e w3 ⟨rfl, rfl⟩
  go_wp2_with fail
  refine (close_nil _ _).mono ?_
  rintro e w4 ⟨⟨ev, rfl, hf⟩, hc4⟩
  unfold zCall
  have HF := Lib.hid hf
  have C4 := Lib.hid ((C2.out.alloc _).trans hc4 (fun _ h => h.elim))
  clear hc4 hf
  go_wp2_with fail
  refine (fault_is _ 1 _ (HF.out.same ((Chg.refl (fun _ => False) w4).alloc _) (fun _ h => h.elim))).mono ?_
  rintro e w5 ⟨rfl, hc5⟩
  have C5 := Lib.hid ((C4.out.alloc _).trans hc5 (fun _ h => h.elim))
  clear hc5
  go_wp2_with fail
  refine (due_nil _ _).mono ?_
  rintro e w6 ⟨rfl, hc6⟩
  have C6 := Lib.hid (C5.out.trans hc6 (fun _ h => h.elim))
  clear hc6
  go_wp2_with fail
  refine (next_nil _).mono ?_
  rintro e w7 ⟨rfl, rfl⟩
  have b6 := C6.out.obj HB.out (fun h => h)
  have p0 : w6.cell? ⟨w.heap.size, 0, none⟩ = some (.int .u64 a) := cell_row b6 rfl
  have p1 : w6.cell? ⟨w.heap.size, 1, none⟩ = some (.int .i64 b) := cell_row b6 rfl
  have p2 : w6.cell? ⟨w.heap.size, 2, none⟩ = some (.int .i64 c) := cell_row b6 rfl
  have p3 : w6.cell? ⟨w.heap.size, 3, none⟩ = some (.slice d n k) := cell_row b6 rfl
  clear b6
  go_wp2_with (first
    | (go_at_call 21; refine (put_nil _ ⟨a, b, c, d, n, k, rfl⟩ _).mono ?_; rintro e w8 ⟨rfl, hc8⟩; have C8 := Lib.hid (C6.out.trans hc8 (fun _ h => h.elim)); clear hc8)
    | (go_at_call 22; refine (len_nil _).mono ?_; rintro e w9 ⟨rfl, rfl⟩)
    | (go_at_call 13; refine (list_nil _).mono ?_; rintro e w9 ⟨rfl, rfl⟩))
  go_ret
  exact ⟨rfl, ((Chg.refl (fun _ => False) w).alloc _).trans C8.out (fun _ h => h.elim)⟩
end Go.Proofs.Ytojgalggibmjjaa
