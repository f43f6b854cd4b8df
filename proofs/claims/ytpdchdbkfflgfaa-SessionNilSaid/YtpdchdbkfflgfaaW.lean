/- SessionNil. -/
import Derived.Test.YtpdchdbkfflgfaaV
namespace Go.Proofs.Ytpdchdbkfflgfaa
open Go.RowKit

set_option maxRecDepth 100000 in
set_option maxHeartbeats 2000000 in
theorem same_zero (w : World) : Calls Try.prog 23 #[zTx, zTx] w fun e w' => e = .returned (.bool true) ∧ Chg (fun _ => False) w w' := by
  unfold zTx
  have h29 : ∀ w, (Op.equalIn 10000 29 (.agg #[.int .i64 0, .int .i64 0, .int .i64 0]) (.agg #[.int .i64 0, .int .i64 0, .int .i64 0])).run Try.prog w = .ok true w := fun _ => by kernel_rfl
  go_enter Try.func23, Try.ntmps23
  go_wp2
  go_loop [5] (fun i => i = .int .i64 0) (fun _ => 0)
  case atStart => rfl
  case round =>
    subst hrel
    go_wp2
    go_ret
    exact ⟨rfl, ((Chg.refl _ w).alloc _).alloc _⟩
set_option maxRecDepth 100000 in
set_option maxHeartbeats 4000000 in
theorem sessionNil_any (k : ByteArray) (b ver : Int) (wr : Bool) (a0 : Option Addr) (n0 c0 : Nat) (i0 i1 i2 i3 : Int) (w : World) :
    Calls Try.prog 6 #[.string k, .agg #[.int .i64 b, .int .u32 ver, .bool wr, .slice a0 n0 c0, .int .u32 i0, .int .u32 i1, .int .u32 i2, .int .u32 i3]] w fun e w' => e = .returned (.bool true) ∧ Chg (fun _ => False) w w' := by
  go_enter Try.func6, Try.ntmps6
  go_wp2_with fail
  refine (get_nil k _).mono ?_
  rintro e w1 ⟨ev1, rfl, he1, hc1⟩
  have hc := ((Chg.refl (fun _ => False) w).alloc (.cells #[.int .i64 b, .int .u32 ver, .bool wr, .slice a0 n0 c0, .int .u32 i0, .int .u32 i1, .int .u32 i2, .int .u32 i3] 36)).trans hc1 (fun _ h => h.elim)
  have C1 := Lib.hid hc
  have E1 := Lib.hid he1
  have I1 := Lib.hid (hc1.obj (heap_alloc_new w _) (fun h => h))
  clear hc he1 hc1
  go_wp2_with fail
  refine (del_nil k _).mono ?_
  rintro e w2 ⟨ev2, rfl, he2, hc2⟩
  have C2 := Lib.hid (C1.out.trans hc2 (fun _ h => h.elim))
  have I2 := Lib.hid (hc2.obj I1.out (fun h => h))
  have E1b := Lib.hid (E1.out.same hc2)
  have E2 := Lib.hid he2
  clear he2 hc2
  go_wp2_with fail
  refine (scan_nil k k _).mono ?_
  rintro e w3 ⟨ev3, rfl, he3, hc3⟩
  have C3 := Lib.hid (C2.out.trans hc3 (fun _ h => h.elim))
  have I3 := Lib.hid (hc3.obj I2.out (fun h => h))
  have E1c := Lib.hid (E1b.out.same hc3)
  have E2c := Lib.hid (E2.out.same hc3)
  have E3 := Lib.hid he3
  clear he3 hc3
  go_wp2_with fail
  refine (commit_nil _).mono ?_
  rintro e w4 ⟨ev4, rfl, he4, hc4⟩
  have ha := (Chg.refl (fun _ => False) w4).alloc (.cells #[.int .u64 0, .int .i64 0, .int .i64 0, .int .i64 0, .int .i64 0, .slice none 0 0] 45)
  have hc := hc4.trans ha (fun _ h => h.elim)
  have C4 := Lib.hid (C3.out.trans hc (fun _ h => h.elim))
  have I4 := Lib.hid (hc.obj I3.out (fun h => h))
  have E1d := Lib.hid (E1c.out.same hc)
  have E2d := Lib.hid (E2c.out.same hc)
  have E3d := Lib.hid (E3.out.same hc)
  have E4 := Lib.hid (he4.same ha)
  clear he4 hc4 hc ha
  unfold zTx noB
  go_wp2_with fail
  refine (same_zero _).mono ?_
  rintro e w5 ⟨rfl, hc5⟩
  have C5 := Lib.hid (C4.out.trans hc5 (fun _ h => h.elim))
  have I5 := Lib.hid (hc5.obj I4.out (fun h => h))
  have E1e := Lib.hid (E1d.out.same hc5)
  have E2e := Lib.hid (E2d.out.same hc5)
  have E3e := Lib.hid (E3d.out.same hc5)
  have E4e := Lib.hid (E4.out.same hc5)
  obtain ⟨x0, x1, x2, x3, x4, x5, x6, x7⟩ := item_cells I5.out
  clear hc5
  have t0 := True.intro
  go_wp2_with (first
    | (go_at_call 15; clear t0; refine (told_any _ _ _ _ E1e.out).mono ?_; rintro e w6 ⟨rfl, rfl⟩; have t1 := True.intro)
    | (go_at_call 15; clear t1; refine (told_any _ _ _ _ E2e.out).mono ?_; rintro e w6 ⟨rfl, rfl⟩; have t2 := True.intro)
    | (go_at_call 15; clear t2; refine (told_any _ _ _ _ E3e.out).mono ?_; rintro e w6 ⟨rfl, rfl⟩; have t3 := True.intro)
    | (go_at_call 15; clear t3; refine (told_any _ _ _ _ E4e.out).mono ?_; rintro e w6 ⟨rfl, rfl⟩; have t4 := True.intro)
    | (go_at_call 15; clear t4; refine (told_any _ _ _ _ E6.out).mono ?_; rintro e w6 ⟨rfl, rfl⟩; have t5 := True.intro)
    | (go_at_call 15; clear t5; refine (told_any _ _ _ _ E7.out).mono ?_; rintro e w6 ⟨rfl, rfl⟩; have t6 := True.intro)
    | (go_at_call 11; refine (learn_nil _ _ _ _ _ _ _ _ _ _ _ _).mono ?_; rintro e w6 ⟨ev6, rfl, he6, hc6⟩; have C6 := Lib.hid (C5.out.trans hc6 (fun _ h => h.elim)); have I6 := Lib.hid (hc6.obj I5.out (fun h => h)); have E6 := Lib.hid he6; clear he6 hc6)
    | (go_at_call 12; refine (put_nil _ _ _).mono ?_; rintro e w7 ⟨ev7, rfl, he7, hc7⟩; have C7 := Lib.hid (C6.out.trans hc7 (fun _ h => h.elim)); have I7 := Lib.hid (hc7.obj I6.out (fun h => h)); have E7 := Lib.hid he7; clear he7 hc7)
    | (go_at_call 9; refine (alive_any _).mono ?_; rintro e w8 ⟨rfl, hc8⟩; have C8 := Lib.hid (C7.out.trans hc8 (fun _ h => h.elim)); have x9 := (item_cells (hc8.obj I7.out (fun h => h))).1; clear hc8)
    | (go_at_call 10; refine (has_nil _ _).mono ?_; rintro e w9 ⟨rfl, rfl⟩)
    | (go_at_call 17; refine (state_nil _).mono ?_; rintro e w9 ⟨rfl, rfl⟩))
  go_ret
  exact ⟨rfl, C8.out⟩
end Go.Proofs.Ytpdchdbkfflgfaa
