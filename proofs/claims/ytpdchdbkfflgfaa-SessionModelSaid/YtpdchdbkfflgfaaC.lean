/- The bucket of a key; the binary search. -/
import Derived.Test.YtpdchdbkfflgfaaB
import Derived.Deep.LoopGhost
namespace Go.Proofs.Ytpdchdbkfflgfaa
open Go.RowKit

theorem keyBucket_any (k : ByteArray) (w : World) (hk : k.size ≤ maxLen) :
    Calls Try.prog 42 #[.string k] w fun e w' => e = .returned (.int .i64 (kb k)) ∧ Chg (fun _ => False) w w' := by
  go_enter Try.func42, Try.ntmps42
  go_wp2_with fail
  refine (of_any k _ hk).mono ?_
  rintro e w1 ⟨⟨hi, lo, rfl, h0, h1, h2⟩, hc⟩
  have H2 := Lib.hid h2
  clear h2
  go_wp2_with fail
  refine (bucket_any hi lo _ h0 h1).mono ?_
  rintro e w2 ⟨rfl, hc2⟩
  rw [H2.out]
  go_wp2
  go_ret
  exact ⟨rfl, hc.trans hc2 (by intro _ h; exact h.elim)⟩

def cmpB (a k : ByteArray) : Int := if ltB a k then -1 else if eqB a k then 0 else 1
theorem cmp_any (a b k : ByteArray) (w : World) :
    Calls Try.prog 44 #[.agg #[.string a, .string b], .string k] w fun e w' => e = .returned (.int .i64 (cmpB a k)) ∧ Chg (fun _ => False) w w' := by
  cases h1 : ltB a k <;> cases h2 : eqB a k
  all_goals
    have h1' : Op.bytesLess a.toList k.toList = _ := h1
    have h2' : (a.toList == k.toList) = _ := h2
    go_enter Try.func44, Try.ntmps44
    go_wp2
    all_goals
      go_ret
      exact ⟨by simp [cmpB, h1, h2], (Chg.refl _ w).alloc _⟩

theorem ret_one {v u : Value} (h : v = u) : Ending.returned v = Ending.returned u := by rw [h]
theorem ret_two {v1 v2 u1 u2 : Value} (h1 : v1 = u1) (h2 : v2 = u2) : Ending.returned (.tuple #[v1, v2]) = Ending.returned (.tuple #[u1, u2]) := by rw [h1, h2]
theorem ret_three {v1 v2 v3 u1 u2 u3 : Value} (h1 : v1 = u1) (h2 : v2 = u2) (h3 : v3 = u3) : Ending.returned (.tuple #[v1, v2, v3]) = Ending.returned (.tuple #[u1, u2, u3]) := by rw [h1, h2, h3]
theorem int_eq {k : IntKind} {a b : Int} (h : a = b) : Value.int k a = Value.int k b := by rw [h]
theorem bool_eq {a b : Bool} (h : a = b) : Value.bool a = Value.bool b := by rw [h]
theorem cmpB_zero (a k : ByteArray) : (cmpB a k == 0) = (!ltB a k && eqB a k) := by
  unfold cmpB; cases ltB a k <;> cases eqB a k <;> rfl
/-- Where a key stands among sorted entries: how many are less. -/
def posOf : List Ent → ByteArray → Nat
  | [], _ => 0
  | e :: l, k => if ltB e.1 k then posOf l k + 1 else 0
def isAt (l : List Ent) (k : ByteArray) : Bool := (l[posOf l k]?).any fun e => eqB e.1 k
theorem pos_le (l : List Ent) (k : ByteArray) : posOf l k ≤ l.length := by
  induction l with
  | nil => simp [posOf]
  | cons e l ih => simp only [posOf]; split <;> simp <;> omega
theorem pos_lt {l : List Ent} {k : ByteArray} {i : Nat} (hi : i < posOf l k) (h : i < l.length) : ltB l[i].1 k = true := by
  induction l generalizing i with
  | nil => simp at h
  | cons e l ih =>
    simp only [posOf] at hi
    split at hi
    · rename_i he
      cases i with
      | zero => exact he
      | succ i => exact ih (by omega) (by simpa using h)
    · omega
theorem pos_at {l : List Ent} {k : ByteArray} (h : posOf l k < l.length) : ltB l[posOf l k].1 k = false := by
  induction l with
  | nil => simp at h
  | cons e l ih =>
    simp only [posOf] at h ⊢
    split
    · rename_i he
      rw [if_pos he] at h
      simpa using ih (by simpa using h)
    · rename_i he
      simpa using he
theorem pos_ge {l : List Ent} {k : ByteArray} (hs : Sorted l) {i : Nat} (hi : posOf l k ≤ i) (h : i < l.length) : ltB l[i].1 k = false := by
  have hp : posOf l k < l.length := by omega
  have h0 := pos_at hp
  by_cases he : posOf l k = i
  · subst he; exact h0
  · have h1 := List.pairwise_iff_getElem.1 hs (posOf l k) i hp h (by omega)
    rw [Bool.eq_false_iff]; intro h2
    rw [ltB_trans h1 h2] at h0; cases h0
theorem pos_eq {l : List Ent} {k : ByteArray} (hs : Sorted l) {i : Nat} (hl : i ≤ l.length) (h1 : ∀ x (h : x < l.length), x < i → ltB l[x].1 k = true) (h2 : ∀ x (h : x < l.length), i ≤ x → ltB l[x].1 k = false) : posOf l k = i := by
  have hp := pos_le l k
  rcases Nat.lt_trichotomy (posOf l k) i with h | h | h
  · have a := h1 (posOf l k) (by omega) h
    have b := pos_ge hs (Nat.le_refl _) (i := posOf l k) (by omega)
    rw [a] at b; cases b
  · exact h
  · have a := pos_lt h (by omega)
    have b := h2 i (by omega) (Nat.le_refl _)
    rw [a] at b; cases b

theorem sorted_up {l : List Ent} {k : ByteArray} (hs : Sorted l) {m z : Nat} (hm : m < l.length) (hz : z < l.length) (h : m ≤ z) (hf : ltB l[m].1 k = false) : ltB l[z].1 k = false := by
  by_cases e : m = z
  · subst e; exact hf
  · have h1 := List.pairwise_iff_getElem.1 hs m z hm hz (by omega)
    rw [Bool.eq_false_iff]; intro h2
    rw [ltB_trans h1 h2] at hf; cases hf
theorem sorted_down {l : List Ent} {k : ByteArray} (hs : Sorted l) {m z : Nat} (hm : m < l.length) (hz : z < l.length) (h : z ≤ m) (hf : ltB l[m].1 k = true) : ltB l[z].1 k = true := by
  by_cases e : m = z
  · subst e; exact hf
  · exact ltB_trans (List.pairwise_iff_getElem.1 hs z m hz hm (by omega)) hf
set_option maxHeartbeats 1000000 in
set_option maxRecDepth 100000 in
theorem search_any (v : Value) (l : List Ent) (k : ByteArray) (w : World) (hr : Reads w v l) (hs : Sorted l) (h8 : l.length ≤ 8) :
    Calls Try.prog 43 #[v, .string k, .func (.func 44) #[] #[]] w fun e w' => e = .returned (.tuple #[.int .i64 (posOf l k), .bool (isAt l k)]) ∧ Chg (fun _ => False) w w' := by
  obtain ⟨a, c, rfl, hlc, hcm, hr⟩ := hr
  unfold maxLen at hcm
  have HR := Lib.hid hr
  have HS := Lib.hid hs
  clear hr hs
  go_enter Try.func43, Try.ntmps43
  go_wp2
  go_loopw [9, 10] (fun i j wr => ∃ (x y : Nat), i = .int .i64 x ∧ j = .int .i64 y ∧ x ≤ y ∧ y ≤ l.length ∧ Hid ((∀ z (h : z < l.length), z < x → ltB l[z].1 k = true) ∧ (∀ z (h : z < l.length), y ≤ z → ltB l[z].1 k = false)) ∧ Chg (fun _ => False) w wr) (fun i j _ => (intOf j).toNat - (intOf i).toNat)
  case atStart => exact ⟨0, l.length, rfl, rfl, by omega, by omega, ⟨fun _ _ h => by omega, fun _ _ h => by omega⟩, .refl _ _⟩
  case round =>
    obtain ⟨x, y, rfl, rfl, hxy, hy, HI, hc⟩ := hrel
    by_cases hlt : x < y
    · obtain ⟨m, hm⟩ : ∃ m : Nat, m = (x + y) / 2 := ⟨_, rfl⟩
      have em : ((x : Int) + y) / 2 = m := by omega
      have hm1 : m < l.length := by omega
      have hm2 : x ≤ m := by omega
      have hm3 : m < y := by omega
      clear hm
      rcases HR.out with hn | ⟨b, o, rfl, hcells⟩
      · subst hn; simp at hm1
      have hk := hc.cell (hcells m hm1).1 (fun h => h)
      have hv := hc.cell (hcells m hm1).2 (fun h => h)
      have HC := Lib.hid hcells
      clear hcells
      have HI' := HI.out
      cases hq : ltB l[m].1 k
      · have hz : 0 ≤ cmpB l[m].1 k := by unfold cmpB; rw [hq]; simp; split <;> omega
        have hz2 : decide (cmpB l[m].1 k < 0) = false := by simp; omega
        have HQ := Lib.hid hq
        clear hq HI'
        go_wp2_with fail
        refine (cmp_any _ _ _ _).mono ?_
        rintro e w1 ⟨rfl, hc1⟩
        have HC1 := hc.trans hc1 (fun _ h => h.elim)
        clear hc1 hk hv hc
        go_wp2
        go_roundw
        case rel => exact ⟨x, m, rfl, rfl, hm2, by omega, ⟨HI.out.1, fun z hz1 hz2 => sorted_up HS.out hm1 hz1 hz2 HQ.out⟩, HC1⟩
        case measure => simp [intOf]; omega
      · have hz : cmpB l[m].1 k < 0 := by unfold cmpB; rw [hq]; simp
        have hz2 : decide (cmpB l[m].1 k < 0) = true := by simp; omega
        have HQ := Lib.hid hq
        clear hq HI'
        go_wp2_with fail
        refine (cmp_any _ _ _ _).mono ?_
        rintro e w1 ⟨rfl, hc1⟩
        have HC1 := hc.trans hc1 (fun _ h => h.elim)
        clear hc1 hk hv hc
        go_wp2
        go_roundw
        case rel => exact ⟨m + 1, y, by go_num, rfl, by omega, by omega, ⟨fun z hz1 hz2 => sorted_down HS.out hm1 hz1 (by omega) HQ.out, HI.out.2⟩, HC1⟩
        case measure => simp [intOf]; omega
    · obtain rfl : x = y := by omega
      have hp := pos_eq HS.out hy HI.out.1 HI.out.2
      have HP := Lib.hid hp
      clear hp
      by_cases hl : x < l.length
      · rcases HR.out with hn | ⟨b, o, rfl, hcells⟩
        · subst hn; simp at hl
        have hk := hc.cell (hcells x hl).1 (fun h => h)
        have hv := hc.cell (hcells x hl).2 (fun h => h)
        clear hcells
        go_wp2_with fail
        refine (cmp_any _ _ _ _).mono ?_
        rintro e w1 ⟨rfl, hc1⟩
        have HC1 := hc.trans hc1 (fun _ h => h.elim)
        clear hc1 hk hv hc
        go_wp2
        go_ret2
        exact ⟨ret_two (int_eq (by rw [HP.out])) (bool_eq (by
          show (cmpB l[x].fst k == 0) = _
          rw [cmpB_zero, HI.out.2 x hl (Nat.le_refl _), isAt, HP.out, List.getElem?_eq_getElem hl]; rfl)), HC1⟩
      · have hl' : l.length = x := by omega
        go_wp2
        go_ret2
        exact ⟨ret_two (int_eq (by rw [HP.out])) (bool_eq (by
          show false = _
          rw [isAt, HP.out, List.getElem?_eq_none (by omega)]; rfl)), hc⟩
end Go.Proofs.Ytpdchdbkfflgfaa
