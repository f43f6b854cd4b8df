/- Leaf functions of the session. -/
import Derived.Test.YtpdchdbkfflgfaaProg
import Derived.Test.YtpdchdbkfflgfaaA
import Derived.Deep.QuietTactic
import Derived.BigQuiet
import Derived.Lib.Hide
namespace Go.Proofs.Ytpdchdbkfflgfaa
open Go.RowKit

theorem open_nil (w : World) :
    Calls Try.prog 26 #[.pointer none] w fun e w' => e = .returned (.int .i64 1) ∧ w = w' := by
  go_enter Try.func26, Try.ntmps26
  go_wp2
  go_ret
  exact ⟨rfl, rfl⟩
theorem open_some (p : Nat) (c : Bool) (w : World) (h : w.cell? ⟨p, 6, none⟩ = some (.bool c)) :
    Calls Try.prog 26 #[.pointer (some ⟨p, 0, none⟩)] w fun e w' => e = .returned (.int .i64 (if c then 201 else 0)) ∧ w = w' := by
  cases c
  · go_enter Try.func26, Try.ntmps26
    go_wp2
    go_ret
    exact ⟨rfl, rfl⟩
  · go_enter Try.func26, Try.ntmps26
    go_wp2
    go_ret
    exact ⟨rfl, rfl⟩
/-- What fault answers: nil, or a new block. -/
def faultV (n : Int) (w : World) : Value := if n = 0 then .nilIface else .iface 92 (.pointer (some ⟨w.heap.size, 0, none⟩))
def faultW (s : ByteArray) (n : Int) (w : World) : World := if n = 0 then w else w.alloc (.cells #[.int .i64 n, .string s] 95)
theorem fault_any (s : ByteArray) (n : Int) (w : World) :
    Calls Try.prog 25 #[.string s, .int .i64 n] w fun e w' => e = .returned (faultV n w) ∧ faultW s n w = w' := by
  by_cases h : n = 0
  · subst h
    go_enter Try.func25, Try.ntmps25
    go_wp2
    go_ret
    exact ⟨rfl, rfl⟩
  · have h1 : (n == 0) = false := by simpa using h
    go_enter Try.func25, Try.ntmps25
    go_wp2
    go_ret
    exact ⟨by simp [faultV, h], by simp [faultW, h]⟩
def mayK (s : ByteArray) : Bool := decide (1 ≤ s.size) && decide (s.size ≤ 32)
def mayV (s : ByteArray) : Bool := decide (s.size ≤ 64)
theorem mayKey_any (s : ByteArray) (w : World) :
    Calls Try.prog 37 #[.string s] w fun e w' => e = .returned (.bool (mayK s)) ∧ w = w' := by
  go_enter Try.func37, Try.ntmps37
  go_wp2
  all_goals
    go_ret
    exact ⟨congrArg (fun b => Ending.returned (.bool b)) (by unfold mayK; rw [Bool.eq_iff_iff]; simp; omega), rfl⟩
theorem mayValue_any (s : ByteArray) (w : World) :
    Calls Try.prog 41 #[.string s] w fun e w' => e = .returned (.bool (mayV s)) ∧ w = w' := by
  go_enter Try.func41, Try.ntmps41
  go_wp2
  go_ret
  exact ⟨by simp [mayV]; omega, rfl⟩
theorem bucket_any (hi lo : Int) (w : World) (h0 : 0 ≤ hi) (h1 : hi < 18446744073709551616) :
    Calls Try.prog 51 #[.agg #[.int .u64 hi, .int .u64 lo]] w fun e w' => e = .returned (.int .i64 (hi / 288230376151711744)) ∧ Chg (fun _ => False) w w' := by
  go_enter Try.func51, Try.ntmps51
  go_wp2
  go_ret
  exact ⟨rfl, .of_below ((Below.refl _ _).alloc (Nat.le_refl _) _) _⟩
/-- The bucket of a key: the six upper bits of its first byte. -/
def kb (k : ByteArray) : Nat := (k.data.toList.headD 0).toNat / 4
theorem kb_lt (k : ByteArray) : kb k < 64 := by
  unfold kb; have := (k.data.toList.headD 0).toNat_lt; omega
theorem kb_first (k : ByteArray) (h : 0 < k.size) : kb k = (k[0]).toNat / 4 := by
  unfold kb
  have h' : 0 < k.data.toList.length := by rw [← Lib.size_eq]; exact h
  cases hl : k.data.toList with
  | nil => rw [hl] at h'; simp at h'
  | cons x l =>
    have : (k[0] : UInt8) = k.data.toList[0] := rfl
    rw [this]
    simp only [hl, List.getElem_cons_zero, List.headD_cons]
theorem kb_none (k : ByteArray) (h : k.size = 0) : kb k = 0 := by
  unfold kb
  have : k.data.toList = [] := by
    apply List.eq_nil_of_length_eq_zero
    rw [← Lib.size_eq]; exact h
  rw [this]; rfl
def OfInv (k : ByteArray) (j g : Nat) : Prop := g < 2 ^ 64 ∧ (j = 0 → g = 0) ∧ (0 < j → g / 2 ^ 58 = kb k)
theorem or_val (b j g : Nat) (hb : b < 256) (hj : j < 8) (hg : g < 2 ^ 64) :
    bits .or .u64 (g : Int) (IntKind.u64.wrap (IntKind.u64.wrap (b : Int) * 2 ^ (56 - 8 * j))) = ((g ||| b * 2 ^ (56 - 8 * j) : Nat) : Int) ∧ (g ||| b * 2 ^ (56 - 8 * j)) < 2 ^ 64 := by
  have h1 : b * 2 ^ (56 - 8 * j) < 2 ^ 64 := by
    have : 2 ^ (56 - 8 * j) ≤ 2 ^ 56 := Nat.pow_le_pow_right (by omega) (by omega)
    calc b * 2 ^ (56 - 8 * j) ≤ 255 * 2 ^ 56 := Nat.mul_le_mul (by omega) this
      _ < 2 ^ 64 := by decide
  have e1 : IntKind.u64.wrap (b : Int) = b := by rw [IntKind.wrap_u64]; omega
  have e2 : IntKind.u64.wrap ((b : Int) * 2 ^ (56 - 8 * j)) = ((b * 2 ^ (56 - 8 * j) : Nat) : Int) := by
    rw [show ((b : Int) * 2 ^ (56 - 8 * j)) = ((b * 2 ^ (56 - 8 * j) : Nat) : Int) from by push_cast; rfl]
    generalize b * 2 ^ (56 - 8 * j) = m at h1
    rw [IntKind.wrap_u64]; omega
  rw [e1, e2]
  exact ⟨u64_or_nat _ _ hg h1, Nat.or_lt_two_pow hg h1⟩
theorem of_step (k : ByteArray) (j g : Nat) (hj : j < 8) (hk : j < k.size) (h : OfInv k j g) : OfInv k (j + 1) (g ||| k[j].toNat * 2 ^ (56 - 8 * j)) := by
  obtain ⟨h1, h2, h3⟩ := h
  have hb := k[j].toNat_lt
  have hv := (or_val k[j].toNat j g hb hj h1).2
  refine ⟨hv, by omega, fun _ => ?_⟩
  rw [← Nat.shiftRight_eq_div_pow, Nat.shiftRight_or_distrib, Nat.shiftRight_eq_div_pow, Nat.shiftRight_eq_div_pow]
  by_cases h0 : j = 0
  · subst h0
    rw [h2 rfl, kb_first k hk, Nat.zero_div, Nat.zero_or]
    show k[0].toNat * 72057594037927936 / 288230376151711744 = _
    omega
  · rw [h3 (by omega)]
    have : k[j].toNat * 2 ^ (56 - 8 * j) / 2 ^ 58 = 0 := by
      apply Nat.div_eq_of_lt
      have : 2 ^ (56 - 8 * j) ≤ 2 ^ 48 := Nat.pow_le_pow_right (by omega) (by omega)
      calc k[j].toNat * 2 ^ (56 - 8 * j) ≤ 255 * 2 ^ 48 := Nat.mul_le_mul (by omega) this
        _ < 2 ^ 58 := by decide
    rw [this]; simp
theorem of_end (k : ByteArray) (g : Nat) (h : OfInv k (min k.size 8) g ∨ OfInv k 8 g) : (g : Int) < 18446744073709551616 ∧ (g : Int) / 288230376151711744 = kb k := by
  have h1 : g < 2 ^ 64 := by rcases h with h | h <;> exact h.1
  have h2 : g / 2 ^ 58 = kb k := by
    rcases h with h | h
    · by_cases h0 : k.size = 0
      · rw [kb_none k h0, h.2.1 (by omega)]
      · exact h.2.2 (by omega)
    · exact h.2.2 (by omega)
  omega
theorem _root_.Go.RowKit.Below.drewN {B : Nat} {a w : World} (h : Below B a w) (n : Nat) : Below B a (w.drewN n) := h.trans ⟨rfl, rfl, rfl, Nat.le_refl _, fun _ _ => rfl⟩
theorem one_set (w : World) (g0 g1 : Nat) (x : Int) (n : Nat) :
    (((w.alloc (Obj.cells #[Value.int IntKind.u64 0, Value.int IntKind.u64 0] 58)).alloc (Obj.cells #[Value.int IntKind.u64 g0, Value.int IntKind.u64 g1] 112)).drewN n).setCell ⟨w.heap.size + 1, 0, none⟩ (.int .u64 x) =
    ((w.alloc (Obj.cells #[Value.int IntKind.u64 0, Value.int IntKind.u64 0] 58)).alloc (Obj.cells #[Value.int IntKind.u64 x, Value.int IntKind.u64 g1] 112)).drewN n :=
  congrArg (fun z : World => z.drewN n) (World.setCell_alloc_at #[Value.int IntKind.u64 g0, Value.int IntKind.u64 g1] 112 (w.heap.size + 1) 0 (.int .u64 x) (by simp))
theorem two_set (w : World) (g0 g1 : Nat) (x : Int) (n : Nat) :
    (((w.alloc (Obj.cells #[Value.int IntKind.u64 0, Value.int IntKind.u64 0] 58)).alloc (Obj.cells #[Value.int IntKind.u64 g0, Value.int IntKind.u64 g1] 112)).drewN n).setCell ⟨w.heap.size + 1, 1, none⟩ (.int .u64 x) =
    ((w.alloc (Obj.cells #[Value.int IntKind.u64 0, Value.int IntKind.u64 0] 58)).alloc (Obj.cells #[Value.int IntKind.u64 g0, Value.int IntKind.u64 x] 112)).drewN n :=
  congrArg (fun z : World => z.drewN n) (World.setCell_alloc_at #[Value.int IntKind.u64 g0, Value.int IntKind.u64 g1] 112 (w.heap.size + 1) 1 (.int .u64 x) (by simp))
set_option maxHeartbeats 1000000 in
theorem of_any (k : ByteArray) (w : World) (hk : k.size ≤ maxLen) :
    Calls Try.prog 52 #[.string k] w fun e w' => (∃ hi lo : Int, e = .returned (.agg #[.int .u64 hi, .int .u64 lo]) ∧ 0 ≤ hi ∧ hi < 18446744073709551616 ∧ hi / 288230376151711744 = kb k) ∧ Chg (fun _ => False) w w' := by
  unfold maxLen at hk
  go_enter Try.func52, Try.ntmps52
  go_wp2
  go_loopw [4] (fun i wr => ∃ (j h0 h1 : Nat), i = .int .i64 j ∧ j ≤ k.size ∧ j ≤ 16 ∧ OfInv k (min j 8) h0 ∧ h1 < 2 ^ 64 ∧ (k.size ≤ j → OfInv k (min k.size 8) h0) ∧ ∃ n, wr = (((w.alloc (Obj.cells #[Value.int IntKind.u64 0, Value.int IntKind.u64 0] 58)).alloc (Obj.cells #[Value.int IntKind.u64 h0, Value.int IntKind.u64 h1] 112)).drewN n)) (fun i _ => 16 - (intOf i).toNat)
  case atStart => exact ⟨0, 0, 0, rfl, Nat.zero_le _, by omega, ⟨by decide, fun _ => rfl, by omega⟩, by decide, fun h => ⟨by decide, fun _ => rfl, fun h' => by omega⟩, 0, rfl⟩
  case round =>
    obtain ⟨j, h0, h1, rfl, hj, hj2, I1, I2, I3, n, rfl⟩ := hrel
    by_cases c : j < k.size ∧ j < 16
    · obtain ⟨c1, c2⟩ := c
      by_cases c3 : j < 8
      · have e1 : (j : Int) / 8 = 0 := by omega
        have e2 : (j : Int) % 8 = j := by omega
        have hm : min j 8 = j := by omega
        rw [hm] at I1
        have V := or_val k[j].toNat j h0 k[j].toNat_lt c3 I1.1
        have S := of_step k j h0 c3 c1 I1
        have V' := Lib.hid V
        have S' := Lib.hid S
        have I2' := Lib.hid I2
        clear V S I1 I2 I3 hm
        go_wp2
        go_region
        all_goals go_wp2
        all_goals go_roundw
        case rel =>
          refine ⟨j + 1, h0 ||| k[j].toNat * 2 ^ (56 - 8 * j), h1, by go_num, by omega, by omega, ?_, I2'.out, ?_, n + 1, ?_⟩
          · rw [show min (j + 1) 8 = j + 1 from by omega]; exact S'.out
          · intro _; rw [show min k.size 8 = j + 1 from by omega]; exact S'.out
          · rw [V'.out.1]; exact one_set w h0 h1 _ (n + 1)
        case measure => simp [intOf]; omega
      · have e1 : (j : Int) / 8 = 1 := by omega
        have V := or_val k[j].toNat (j - 8) h1 k[j].toNat_lt (by omega) I2
        have e2 : (j : Int) % 8 = (j - 8 : Nat) := by omega
        have I1' := Lib.hid I1
        have V' := Lib.hid V
        clear V I1 I2 I3
        go_wp2
        go_region
        all_goals go_wp2
        all_goals go_roundw
        case rel =>
          refine ⟨j + 1, h0, h1 ||| k[j].toNat * 2 ^ (56 - 8 * (j - 8)), by go_num, by omega, by omega, ?_, V'.out.2, ?_, n + 1, ?_⟩
          · rw [show min (j + 1) 8 = 8 from by omega]; rw [show min j 8 = 8 from by omega] at I1'; exact I1'.out
          · intro _; rw [show min k.size 8 = 8 from by omega]; rw [show min j 8 = 8 from by omega] at I1'; exact I1'.out
          · rw [V'.out.1]; exact two_set w h0 h1 _ (n + 1)
        case measure => simp [intOf]; omega
    · have HI := Lib.hid I1
      have HI3 := Lib.hid I3
      clear I1 I3
      have HF : Hid (OfInv k (min k.size 8) h0 ∨ OfInv k 8 h0) := by
        by_cases hc : j < k.size
        · have : min j 8 = 8 := by omega
          rw [this] at HI; exact .inr HI.out
        · exact .inl (HI3.out (by omega))
      have F := of_end k h0 HF.out
      have F' := Lib.hid F
      clear HI HI3 HF F I2
      go_wp2
      all_goals exact bodyPost_ret (v := .agg #[.int .u64 h0, .int .u64 h1]) (by simp [results, Try.results52, go_sem]) rfl ⟨⟨h0, h1, rfl, by omega, F'.out.1, F'.out.2⟩, .of_below ((((((Below.refl _ w).alloc (Nat.le_refl _) _).alloc (by simp) _).drewN _).setCell (by simp) _).setCell (by simp) _) _⟩
end Go.Proofs.Ytpdchdbkfflgfaa
