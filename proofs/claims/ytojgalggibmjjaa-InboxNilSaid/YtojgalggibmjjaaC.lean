/- Waits; the order of two calls. -/
import Derived.Test.YtojgalggibmjjaaB
import Derived.Deep.RegionHeld3
import Derived.Sort.Grow
namespace Go.Proofs.Ytojgalggibmjjaa
open Go.RowKit

def fairB (b m : Int) : Bool := decide (1 ≤ b) && decide (b ≤ m) && decide (m ≤ 1073741824)
theorem fair_any (b m : Int) (w : World) : Calls Try.prog 23 #[.int .i64 b, .int .i64 m] w fun e w' => e = .returned (.bool (fairB b m)) ∧ w = w' := by
  go_enter Try.func23, Try.ntmps23
  go_wp2
  all_goals
    go_ret
    exact ⟨congrArg (fun b => Ending.returned (.bool b)) (by unfold fairB; rw [Bool.eq_iff_iff]; simp; try omega), rfl⟩
/-- How long one waits behind the k-th try. -/
def waitV (b m k : Int) : Int := if fairB b m = true ∧ 0 ≤ k then min (b * 2 ^ (min k.toNat 30)) m else 0
theorem pow30 (j : Nat) (hj : j ≤ 30) : (1 : Int) ≤ 2 ^ j ∧ (2 : Int) ^ j ≤ 1073741824 := by
  have h1 : 1 ≤ 2 ^ j := Nat.one_le_two_pow
  have h2 : 2 ^ j ≤ 2 ^ 30 := Nat.pow_le_pow_right (by omega) hj
  have e : (2 : Int) ^ j = ((2 ^ j : Nat) : Int) := by push_cast; rfl
  rw [e]
  have e2 : 2 ^ 30 = 1073741824 := by decide
  rw [e2] at h2
  exact ⟨Int.ofNat_le.2 h1, Int.ofNat_le.2 h2⟩
theorem wait_raw {b m k : Int} (hf : fairB b m = true) (hk : ¬ k < 0) : wrap64 (b * 2 ^ (if 30 < k then 30 else k).toNat) = b * 2 ^ (min k.toNat 30) := by
  have hb : 1 ≤ b ∧ b ≤ m ∧ m ≤ 1073741824 := by
    unfold fairB at hf
    rw [Bool.and_eq_true, Bool.and_eq_true] at hf
    exact ⟨of_decide_eq_true hf.1.1, of_decide_eq_true hf.1.2, of_decide_eq_true hf.2⟩
  have e : (if 30 < k then 30 else k).toNat = min k.toNat 30 := by split <;> omega
  rw [e]
  have hp := pow30 (min k.toNat 30) (by omega)
  generalize (2 : Int) ^ (min k.toNat 30) = x at hp
  have h1 : 0 ≤ b * x := Int.mul_nonneg (by omega) (by omega)
  have h2 : b * x ≤ 1073741824 * 1073741824 := Int.mul_le_mul (by omega) hp.2 (by omega) (by omega)
  unfold wrap64
  omega
theorem wait_lt {b m k : Int} (hf : fairB b m = true) (hk : ¬ k < 0) (h : m < wrap64 (b * 2 ^ (if 30 < k then 30 else k).toNat)) : m = waitV b m k := by
  rw [wait_raw hf hk] at h
  unfold waitV
  rw [if_pos ⟨hf, by omega⟩]; omega
theorem wait_ge {b m k : Int} (hf : fairB b m = true) (hk : ¬ k < 0) (h : wrap64 (b * 2 ^ (if 30 < k then 30 else k).toNat) ≤ m) : wrap64 (b * 2 ^ (if 30 < k then 30 else k).toNat) = waitV b m k := by
  rw [wait_raw hf hk] at h ⊢
  unfold waitV
  rw [if_pos ⟨hf, by omega⟩]; omega
theorem ret_i64 {a b : Int} (h : a = b) : Ending.returned (.int .i64 a) = .returned (.int .i64 b) := by rw [h]
theorem wait_any (b m k : Int) (w : World) : Calls Try.prog 18 #[.int .i64 b, .int .i64 m, .int .i64 k] w fun e w' => e = .returned (.int .i64 (waitV b m k)) ∧ w = w' := by
  cases hf : fairB b m with
  | false =>
    have HF := Lib.hid hf
    go_enter Try.func18, Try.ntmps18
    go_wp2_with (go_at_call 23; refine (fair_any _ _ _).mono ?_; rintro e w1 ⟨rfl, rfl⟩; rw [HF.out])
    go_ret
    exact ⟨by unfold waitV; rw [HF.out]; simp, rfl⟩
  | true =>
    have HF := Lib.hid hf
    by_cases hk : k < 0
    · have hd : decide (k < 0) = true := by simpa using hk
      go_enter Try.func18, Try.ntmps18
      go_wp2_with (go_at_call 23; refine (fair_any _ _ _).mono ?_; rintro e w1 ⟨rfl, rfl⟩; rw [HF.out])
      go_ret
      exact ⟨by unfold waitV; rw [if_neg (by omega)]; rfl, rfl⟩
    · have hd : decide (k < 0) = false := by simpa using hk
      clear hf
      go_enter Try.func18, Try.ntmps18
      go_wp2_with (go_at_call 23; refine (fair_any _ _ _).mono ?_; rintro e w1 ⟨rfl, rfl⟩; rw [HF.out])
      · go_ret
        exact ⟨ret_i64 (wait_lt HF.out (by omega) ‹_›), rfl⟩
      · go_ret
        exact ⟨ret_i64 (wait_lt HF.out (by omega) ‹_›), rfl⟩
      · go_ret
        have hq := wait_ge HF.out (show ¬ k < 0 by omega) ‹_›
        rw [if_pos ‹_›] at hq
        exact ⟨ret_i64 hq, rfl⟩
      · go_ret
        have hq := wait_ge HF.out (show ¬ k < 0 by omega) ‹_›
        rw [if_neg (by omega)] at hq
        exact ⟨ret_i64 hq, rfl⟩
/-- How two numbers stand. -/
def cmpI (a b : Int) : Int := if a < b then -1 else if b < a then 1 else 0
theorem cmp64_any (a b : Int) (w : World) : Calls Try.prog 42 #[.int .i64 a, .int .i64 b] w fun e w' => e = .returned (.int .i64 (cmpI a b)) ∧ w = w' := by
  by_cases h1 : a < b
  · go_enter Try.func42, Try.ntmps42
    go_wp2
    go_ret
    exact ⟨ret_i64 (by unfold cmpI; rw [if_pos h1]), rfl⟩
  · by_cases h2 : b < a
    · go_enter Try.func42, Try.ntmps42
      go_wp2
      go_ret
      exact ⟨ret_i64 (by unfold cmpI; rw [if_neg (by omega), if_pos h2]), rfl⟩
    · go_enter Try.func42, Try.ntmps42
      go_wp2
      go_ret
      exact ⟨ret_i64 (by unfold cmpI; rw [if_neg (by omega), if_neg (by omega)]), rfl⟩
theorem cmpU_any (a b : Int) (w : World) : Calls Try.prog 43 #[.int .u64 a, .int .u64 b] w fun e w' => e = .returned (.int .i64 (cmpI a b)) ∧ w = w' := by
  by_cases h1 : a < b
  · go_enter Try.func43, Try.ntmps43
    go_wp2
    go_ret
    exact ⟨ret_i64 (by unfold cmpI; rw [if_pos h1]), rfl⟩
  · by_cases h2 : b < a
    · go_enter Try.func43, Try.ntmps43
      go_wp2
      go_ret
      exact ⟨ret_i64 (by unfold cmpI; rw [if_neg (by omega), if_pos h2]), rfl⟩
    · go_enter Try.func43, Try.ntmps43
      go_wp2
      go_ret
      exact ⟨ret_i64 (by unfold cmpI; rw [if_neg (by omega), if_neg (by omega)]), rfl⟩
end Go.Proofs.Ytojgalggibmjjaa
