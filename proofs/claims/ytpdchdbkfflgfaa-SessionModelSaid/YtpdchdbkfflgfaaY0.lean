/- The document's keys: MayKey, MayValue, Of, Bucket. -/
import Derived.Test.YtpdchdbkfflgfaaB
namespace Go.Proofs.Ytpdchdbkfflgfaa
open Go.RowKit

theorem mayKey2 (s : ByteArray) (w : World) : Calls Try.prog 57 #[.string s] w fun e w' => e = .returned (.bool (mayK s)) ∧ w = w' := by
  go_enter Try.func57, Try.ntmps57
  go_wp2
  all_goals
    go_ret
    exact ⟨congrArg (fun b => Ending.returned (.bool b)) (by unfold mayK; rw [Bool.eq_iff_iff]; simp; omega), rfl⟩
theorem mayValue2 (s : ByteArray) (w : World) : Calls Try.prog 58 #[.string s] w fun e w' => e = .returned (.bool (mayV s)) ∧ w = w' := by
  go_enter Try.func58, Try.ntmps58
  go_wp2
  go_ret
  exact ⟨by simp [mayV]; omega, rfl⟩
theorem bucket2 (hi lo : Int) (w : World) (h0 : 0 ≤ hi) (h1 : hi < 18446744073709551616) :
    Calls Try.prog 18 #[.agg #[.int .u64 hi, .int .u64 lo]] w fun e w' => e = .returned (.int .i64 (hi / 288230376151711744)) ∧ Chg (fun _ => False) w w' := by
  go_enter Try.func18, Try.ntmps18
  go_wp2
  go_ret
  exact ⟨rfl, .of_below ((Below.refl _ _).alloc (Nat.le_refl _) _) _⟩
def fst (k : ByteArray) : Nat := (k.data.toList.headD 0).toNat
def OfM (k : ByteArray) (j g : Nat) : Prop := g < 256 ^ j ∧ (0 < j → g / 256 ^ (j - 1) = fst k)
theorem ofM_step (k : ByteArray) (j g b : Nat) (h : OfM k j g) (hb : b < 256) (h0 : j = 0 → b = fst k) : OfM k (j + 1) (256 * g + b) := by
  obtain ⟨h1, h2⟩ := h
  refine ⟨by rw [Nat.pow_succ]; omega, fun _ => ?_⟩
  cases j with
  | zero =>
    have : g = 0 := by simpa using h1
    subst this
    simpa using h0 rfl
  | succ j =>
    show (256 * g + b) / 256 ^ (j + 1) = fst k
    rw [Nat.pow_succ, Nat.mul_comm (256 ^ j) 256, ← Nat.div_div_eq_div_mul, show (256 * g + b) / 256 = g from by omega]
    exact h2 (by omega)
theorem ofM_end (k : ByteArray) (g : Nat) (h : OfM k 8 g) : (g : Int) < 18446744073709551616 ∧ (g : Int) / 288230376151711744 = kb k := by
  obtain ⟨h1, h2⟩ := h
  have h2 := h2 (by omega)
  have e : (256 : Nat) ^ (8 - 1) = 72057594037927936 := rfl
  have e2 : (256 : Nat) ^ 8 = 18446744073709551616 := rfl
  rw [e] at h2
  rw [e2] at h1
  have : kb k = fst k / 4 := rfl
  rw [this]
  omega
theorem ofM_room (k : ByteArray) (j g b : Nat) (hj : j < 8) (h : OfM k j g) (hb : b < 256) :
    IntKind.u64.wrap (256 * (g : Int)) = 256 * g ∧ IntKind.u64.wrap (256 * (g : Int) + b) = ((256 * g + b : Nat) : Int) := by
  have h1 : (256 : Nat) ^ (j + 1) ≤ 256 ^ 8 := Nat.pow_le_pow_right (by omega) (by omega)
  have h2 : 256 * g + b < 256 ^ (j + 1) := by have := h.1; rw [Nat.pow_succ]; omega
  have e2 : (256 : Nat) ^ 8 = 18446744073709551616 := rfl
  rw [e2] at h1
  generalize (256 : Nat) ^ (j + 1) = m at h1 h2
  constructor
  · rw [IntKind.wrap_u64]; omega
  · rw [IntKind.wrap_u64]; omega
theorem fst_get (k : ByteArray) (h : 0 < k.size) : (k[0]).toNat = fst k := by
  have h1 := kb_first k h
  unfold fst
  have h' : 0 < k.data.toList.length := by rw [← Lib.size_eq]; exact h
  cases hl : k.data.toList with
  | nil => rw [hl] at h'; simp at h'
  | cons x l =>
    have : (k[0] : UInt8) = k.data.toList[0] := rfl
    rw [this]
    simp only [hl, List.getElem_cons_zero, List.headD_cons]
theorem fst_none (k : ByteArray) (h : ¬ 0 < k.size) : 0 = fst k := by
  unfold fst
  have : k.data.toList = [] := by
    apply List.eq_nil_of_length_eq_zero
    rw [← Lib.size_eq]; omega
  rw [this]; rfl
def byteAt (k : ByteArray) (j : Nat) : Nat := if h : j < k.size then k[j].toNat else 0
theorem byteAt_lt (k : ByteArray) (j : Nat) : byteAt k j < 256 := by
  unfold byteAt; split
  · rename_i h; exact k[j].toNat_lt
  · omega
def hiN (k : ByteArray) : Nat → Nat
  | 0 => 0
  | j + 1 => 256 * hiN k j + byteAt k j
def loI (k : ByteArray) : Nat → Int
  | 0 => 0
  | j + 1 => IntKind.u64.wrap (IntKind.u64.wrap (256 * loI k j) + byteAt k (j + 8))
theorem hi_of (k : ByteArray) : ∀ j, OfM k j (hiN k j)
  | 0 => ⟨Nat.zero_lt_one, fun h => by omega⟩
  | j + 1 => ofM_step k j (hiN k j) _ (hi_of k j) (byteAt_lt k j) (fun h => by
      subst h
      unfold byteAt
      by_cases h0 : 0 < k.size
      · rw [dif_pos h0]; exact fst_get k h0
      · rw [dif_neg h0]; exact fst_none k h0)
theorem hi_end (k : ByteArray) : (hiN k 8 : Int) < 18446744073709551616 ∧ (hiN k 8 : Int) / 288230376151711744 = kb k := ofM_end k _ (hi_of k 8)
def ofV (k : ByteArray) : Value := .agg #[.int .u64 (hiN k 8), .int .u64 (loI k 8)]
set_option maxRecDepth 100000 in
set_option maxHeartbeats 1000000 in
theorem of2 (k : ByteArray) (w : World) :
    Calls Try.prog 19 #[.string k] w fun e w' => e = .returned (ofV k) ∧ Chg (fun _ => False) w w' := by
  go_enter Try.func19, Try.ntmps19
  go_wp2
  go_loopw [4] (fun i wr => ∃ (j : Nat), i = .int .i64 j ∧ j ≤ 16 ∧ wr = (w.alloc (Obj.cells #[Value.int IntKind.u64 0, Value.int IntKind.u64 0] 58)).alloc (Obj.cells #[Value.int IntKind.u64 (hiN k (min j 8)), Value.int IntKind.u64 (loI k (j - 8))] 58)) (fun i _ => 16 - (intOf i).toNat)
  case atStart => exact ⟨0, rfl, by omega, rfl⟩
  case round =>
    obtain ⟨j, rfl, hj, rfl⟩ := hrel
    by_cases c2 : j < 16
    · by_cases c3 : j < 8
      · have R := Lib.hid (ofM_room k j (hiN k j) (byteAt k j) c3 (hi_of k j) (byteAt_lt k j))
        have hm : Hid (min j 8 = j) := by show min j 8 = j; omega
        have hm2 : Hid (min (j + 1) 8 = j + 1) := by show min (j + 1) 8 = j + 1; omega
        have hm3 : Hid (j - 8 = 0) := by show j - 8 = 0; omega
        have hm4 : Hid (j + 1 - 8 = 0) := by show j + 1 - 8 = 0; omega
        rw [hm.out, hm3.out]
        by_cases c1 : j < k.size
        · have HB : Hid (byteAt k j = k[j].toNat) := by show byteAt k j = _; unfold byteAt; rw [dif_pos c1]
          have hb := k[j].toNat_lt
          go_wp2
          go_roundw
          case rel =>
            refine ⟨j + 1, rfl, by omega, ?_⟩
            have h1 := R.out.2
            rw [HB.out] at h1
            rw [hm2.out, hm4.out, R.out.1, h1]
            show _ = World.alloc _ (Obj.cells #[Value.int IntKind.u64 ((256 * hiN k j + byteAt k j : Nat) : Int), _] 58)
            rw [HB.out]
          case measure => simp [intOf]; omega
        · have HB : Hid (byteAt k j = 0) := by show byteAt k j = _; unfold byteAt; rw [dif_neg c1]
          go_wp2
          go_roundw
          case rel =>
            refine ⟨j + 1, rfl, by omega, ?_⟩
            have h1 := R.out.2
            rw [HB.out] at h1
            rw [hm2.out, hm4.out, R.out.1]
            show _ = World.alloc _ (Obj.cells #[Value.int IntKind.u64 ((256 * hiN k j + byteAt k j : Nat) : Int), _] 58)
            rw [HB.out, ← h1]; simp
          case measure => simp [intOf]; omega
      · have hm : Hid (min j 8 = 8) := by show min j 8 = 8; omega
        have hm2 : Hid (min (j + 1) 8 = 8) := by show min (j + 1) 8 = 8; omega
        have hm3 : Hid (j + 1 - 8 = (j - 8) + 1) := by show j + 1 - 8 = (j - 8) + 1; omega
        rw [hm.out]
        by_cases c1 : j < k.size
        · have HB : Hid (byteAt k (j - 8 + 8) = k[j].toNat) := by show byteAt k (j - 8 + 8) = _; rw [show j - 8 + 8 = j from by omega]; unfold byteAt; rw [dif_pos c1]
          have hb := k[j].toNat_lt
          go_wp2
          go_roundw
          case rel =>
            refine ⟨j + 1, rfl, by omega, ?_⟩
            rw [hm2.out, hm3.out]
            show _ = World.alloc _ (Obj.cells #[_, Value.int IntKind.u64 (IntKind.u64.wrap (IntKind.u64.wrap (256 * loI k (j - 8)) + byteAt k (j - 8 + 8)))] 58)
            rw [HB.out]
          case measure => simp [intOf]; omega
        · have HB : Hid (byteAt k (j - 8 + 8) = 0) := by show byteAt k (j - 8 + 8) = _; rw [show j - 8 + 8 = j from by omega]; unfold byteAt; rw [dif_neg c1]
          go_wp2
          go_roundw
          case rel =>
            refine ⟨j + 1, rfl, by omega, ?_⟩
            rw [hm2.out, hm3.out]
            show _ = World.alloc _ (Obj.cells #[_, Value.int IntKind.u64 (IntKind.u64.wrap (IntKind.u64.wrap (256 * loI k (j - 8)) + byteAt k (j - 8 + 8)))] 58)
            rw [HB.out]; simp
          case measure => simp [intOf]; omega
    · have hj' : j = 16 := by omega
      subst hj'
      go_wp2
      exact bodyPost_ret (v := ofV k) (by simp [results, Try.results19, go_sem, ofV]) rfl ⟨rfl, ((Chg.refl _ w).alloc _).alloc _⟩
theorem bucketOf (k : ByteArray) (w : World) : Calls Try.prog 18 #[ofV k] w fun e w' => e = .returned (.int .i64 (kb k)) ∧ Chg (fun _ => False) w w' := by
  have h := hi_end k
  refine (bucket2 (hiN k 8) (loI k 8) w (by omega) h.1).mono ?_
  rintro e w' ⟨rfl, hc⟩
  rw [h.2]
  exact ⟨rfl, hc⟩
/-- An entry's place, of two worlds. -/
theorem take_lt {l : List Ent} (h : Sorted l) {j : Nat} (h0 : 0 < j) (hj : j < l.length) : ltB (l[j - 1]'(by omega)).1 l[j].1 = true :=
  List.pairwise_iff_getElem.1 h (j - 1) j (by omega) hj (by omega)
end Go.Proofs.Ytpdchdbkfflgfaa
