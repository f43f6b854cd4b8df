/- store.Right. -/
import Derived.Test.YtpdchdbkfflgfaaO
namespace Go.Proofs.Ytpdchdbkfflgfaa
open Go.RowKit

def czk (i0 i1 i2 i3 : Int) (k : Nat) : Nat := (if 0 < k then cz i0 else 0) + (if 1 < k then cz i1 else 0) + (if 2 < k then cz i2 else 0) + (if 3 < k then cz i3 else 0)
def itemV (b ver : Int) (wr : Bool) (v : Value) (i0 i1 i2 i3 : Int) : Value := .agg #[.int .i64 b, .int .u32 ver, .bool wr, v, .int .u32 i0, .int .u32 i1, .int .u32 i2, .int .u32 i3]
def itemO (b ver : Int) (wr : Bool) (v : Value) (i0 i1 i2 i3 : Int) : Obj := .cells #[.int .i64 b, .int .u32 ver, .bool wr, v, .int .u32 i0, .int .u32 i1, .int .u32 i2, .int .u32 i3] 36
/-- An item's numbers may be. -/
def Num (b ver i0 i1 i2 i3 : Int) : Prop := 0 ≤ b ∧ b < 64 ∧ ver < 2147483647 ∧ zs i0 i1 i2 i3 ≤ 1
instance (b ver i0 i1 i2 i3 : Int) : Decidable (Num b ver i0 i1 i2 i3) := by unfold Num; infer_instance
theorem cz_eq (x : Int) : cz x = if (x == 0) = true then 1 else 0 := by unfold cz; simp

/-- What Right tells. -/
def RightP (b ver i0 i1 i2 i3 : Int) (wr : Bool) (l : List Ent) (w : World) (e : Ending) (w' : World) : Prop :=
  (∃ r, e = .returned (.bool r) ∧ (r = true → Num b ver i0 i1 i2 i3 ∧ Okay b l ∧ (wr = false → l = [])) ∧ (Num b ver i0 i1 i2 i3 → l = [] → r = true)) ∧ Chg (fun _ => False) w w'
set_option maxRecDepth 100000 in
set_option maxHeartbeats 2000000 in
theorem right_any (b ver i0 i1 i2 i3 : Int) (wr : Bool) (v : Value) (l : List Ent) (w : World) (hr : Reads w v l) :
    Calls Try.prog 27 #[itemV b ver wr v i0 i1 i2 i3] w fun e w' => RightP b ver i0 i1 i2 i3 wr l w e w' := by
  unfold itemV
  have HR := Lib.hid hr
  obtain ⟨a, c, rfl, _⟩ := hr
  have x0 : ∀ w, (Instr.index 34 (.agg #[.int .u32 i0, .int .u32 i1, .int .u32 i2, .int .u32 i3]) (.int .i64 0)).run Try.prog w = .ok (.int .u32 i0) w := fun _ => by kernel_rfl
  have x1 : ∀ w, (Instr.index 34 (.agg #[.int .u32 i0, .int .u32 i1, .int .u32 i2, .int .u32 i3]) (.int .i64 1)).run Try.prog w = .ok (.int .u32 i1) w := fun _ => by kernel_rfl
  have x2 : ∀ w, (Instr.index 34 (.agg #[.int .u32 i0, .int .u32 i1, .int .u32 i2, .int .u32 i3]) (.int .i64 2)).run Try.prog w = .ok (.int .u32 i2) w := fun _ => by kernel_rfl
  have x3 : ∀ w, (Instr.index 34 (.agg #[.int .u32 i0, .int .u32 i1, .int .u32 i2, .int .u32 i3]) (.int .i64 3)).run Try.prog w = .ok (.int .u32 i3) w := fun _ => by kernel_rfl
  go_enter Try.func27, Try.ntmps27
  go_wp2
  go_loop [3, 8] (fun n i => ∃ k : Nat, k ≤ 4 ∧ i = .int .i64 k ∧ n = .int .i64 (czk i0 i1 i2 i3 k)) (fun _ i => 4 - (intOf i).toNat)
  case atStart => exact ⟨0, by omega, rfl, rfl⟩
  case round =>
    obtain ⟨k, hk, rfl, rfl⟩ := hrel
    have hle : czk i0 i1 i2 i3 k ≤ 4 := by unfold czk cz; repeat' split
                                           all_goals omega
    by_cases h4 : k = 4
    · subst h4
      have hz : czk i0 i1 i2 i3 4 = zs i0 i1 i2 i3 := by simp [czk, zs]
      rw [hz] at hle ⊢
      have HRW : Reads (w.alloc (itemO b ver wr (.slice a l.length c) i0 i1 i2 i3)) (.slice a l.length c) l := ((Chg.refl (fun _ => False) w).alloc _).reads HR.out (fun _ _ h => h)
      have HW := Lib.hid HRW
      unfold itemO at HW
      clear HRW
      by_cases hN : Num b ver i0 i1 i2 i3
      · have hN' := hN
        unfold Num at hN'
        obtain ⟨n1, n2, n3, n4⟩ := hN'
        have n4' : ¬ (1 : Int) < zs i0 i1 i2 i3 := by omega
        have HN := Lib.hid hN
        clear hN hz
        cases wr with
        | true =>
          go_wp2_with (go_at_call 40; refine (entries_any b _ l _ HW.out).mono ?_; rintro e w1 ⟨⟨r, rfl, hr1, hr2⟩, hc⟩; have HR1 := Lib.hid hr1; have HR2 := Lib.hid hr2; clear hr1 hr2)
          go_ret
          exact ⟨⟨r, rfl, fun h => ⟨HN.out, HR1.out h, fun h => by cases h⟩, fun _ h => HR2.out h⟩, ((Chg.refl _ w).alloc _).trans hc (fun _ h => h.elim)⟩
        | false =>
          go_wp2
          go_ret
          refine ⟨⟨_, rfl, fun h => ?_, fun _ h => ?_⟩, (Chg.refl _ w).alloc _⟩
          · have : l = [] := by
              have h' : ((l.length : Int) == 0) = true := h
              apply List.eq_nil_of_length_eq_zero
              simpa using h'
            subst this
            exact ⟨HN.out, ⟨List.Pairwise.nil, by simp, by simp⟩, fun _ => rfl⟩
          · subst h; rfl
      · have HN := Lib.hid hN
        have hN' : b < 0 ∨ 64 ≤ b ∨ 2147483647 ≤ ver ∨ (1 : Int) < zs i0 i1 i2 i3 := by unfold Num at hN; omega
        clear hN hz
        have fin : ∀ w', Chg (fun _ => False) w w' → RightP b ver i0 i1 i2 i3 wr l w (.returned (.bool false)) w' :=
          fun w' hc => ⟨⟨false, rfl, fun h => (by cases h), fun h => absurd h HN.out⟩, hc⟩
        have FIN := Lib.hid fin
        clear fin
        by_cases c1 : b < 0
        · clear hN'
          go_wp2
          go_ret
          exact FIN.out _ ((Chg.refl _ w).alloc _)
        by_cases c2 : 64 ≤ b
        · clear hN'
          go_wp2
          go_ret
          exact FIN.out _ ((Chg.refl _ w).alloc _)
        by_cases c3 : 2147483647 ≤ ver
        · clear hN'
          go_wp2
          go_ret
          exact FIN.out _ ((Chg.refl _ w).alloc _)
        have c4 : (1 : Int) < zs i0 i1 i2 i3 := by omega
        clear hN'
        go_wp2
        go_ret
        exact FIN.out _ ((Chg.refl _ w).alloc _)
    · have hcase : k = 0 ∨ k = 1 ∨ k = 2 ∨ k = 3 := by omega
      rcases hcase with rfl | rfl | rfl | rfl
      · have hs : czk i0 i1 i2 i3 1 = czk i0 i1 i2 i3 0 + cz i0 := by simp [czk]
        have HS := Lib.hid hs
        clear hs
        cases hz : (i0 == 0)
        all_goals
          go_wp2
          go_round
          case rel =>
            refine ⟨1, by omega, rfl, ?_⟩
            have := HS.out
            rw [cz_eq, hz] at this
            rw [this]; first | rfl | go_num
          case measure => simp [intOf]
      · have hs : czk i0 i1 i2 i3 2 = czk i0 i1 i2 i3 1 + cz i1 := by simp [czk]
        have HS := Lib.hid hs
        clear hs
        cases hz : (i1 == 0)
        all_goals
          go_wp2
          go_round
          case rel =>
            refine ⟨2, by omega, rfl, ?_⟩
            have := HS.out
            rw [cz_eq, hz] at this
            rw [this]; first | rfl | go_num
          case measure => simp [intOf]
      · have hs : czk i0 i1 i2 i3 3 = czk i0 i1 i2 i3 2 + cz i2 := by simp [czk]
        have HS := Lib.hid hs
        clear hs
        cases hz : (i2 == 0)
        all_goals
          go_wp2
          go_round
          case rel =>
            refine ⟨3, by omega, rfl, ?_⟩
            have := HS.out
            rw [cz_eq, hz] at this
            rw [this]; first | rfl | go_num
          case measure => simp [intOf]
      · have hs : czk i0 i1 i2 i3 4 = czk i0 i1 i2 i3 3 + cz i3 := by simp [czk]
        have HS := Lib.hid hs
        clear hs
        cases hz : (i3 == 0)
        all_goals
          go_wp2
          go_round
          case rel =>
            refine ⟨4, by omega, rfl, ?_⟩
            have := HS.out
            rw [cz_eq, hz] at this
            rw [this]; first | rfl | go_num
          case measure => simp [intOf]
end Go.Proofs.Ytpdchdbkfflgfaa
