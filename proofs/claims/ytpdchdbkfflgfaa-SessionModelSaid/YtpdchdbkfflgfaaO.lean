/- store.entries: what it lets through. -/
import Derived.Test.YtpdchdbkfflgfaaN
import Derived.Deep.RegionWith
namespace Go.Proofs.Ytpdchdbkfflgfaa
open Go.RowKit

def EntsOk (b : Int) (l : List Ent) : Prop := Sorted l ∧ ∀ e ∈ l, 1 ≤ e.1.size ∧ e.1.size ≤ 32 ∧ e.2.size ≤ 64 ∧ (kb e.1 : Int) = b
theorem take_ok {b : Int} {l : List Ent} {i : Nat} (hi : i < l.length) (h : EntsOk b (l.take i)) (hk : mayK l[i].1 = true) (hv : mayV l[i].2 = true) (hb : (kb l[i].1 : Int) = b) (hs : i = 0 ∨ ltB (l[i - 1]'(by omega)).1 l[i].1 = true) : EntsOk b (l.take (i + 1)) := by
  have e : l.take (i + 1) = l.take i ++ [l[i]] := by rw [List.take_succ_eq_append_getElem hi]
  rw [e]
  refine ⟨?_, fun x hx => ?_⟩
  · unfold Sorted
    rw [List.pairwise_append]
    refine ⟨h.1, List.pairwise_singleton _ _, fun a ha c hc => ?_⟩
    obtain rfl : c = l[i] := by simpa using hc
    obtain ⟨j, hj, rfl⟩ := List.getElem_of_mem ha
    have hj' : j < i := by simp at hj; omega
    rw [List.getElem_take]
    rcases hs with h0 | h0
    · omega
    · by_cases hje : j = i - 1
      · subst hje; exact h0
      · have h1 := List.pairwise_iff_getElem.1 h.1 j (i - 1) hj (by simp; omega) (by omega)
        rw [List.getElem_take, List.getElem_take] at h1
        exact ltB_trans h1 h0
  · rcases List.mem_append.1 hx with hx | hx
    · exact h.2 x hx
    · obtain rfl : x = l[i] := by simpa using hx
      have hk' : 1 ≤ l[i].1.size ∧ l[i].1.size ≤ 32 := by simpa [mayK] using hk
      have hv' : l[i].2.size ≤ 64 := by simpa [mayV] using hv
      exact ⟨hk'.1, hk'.2, hv', hb⟩

/-- A world in which nothing of w has turned. -/
structure After (w : World) where
  w1 : World
  chg : Chg (fun _ => False) w w1
def IsAfter (w : World) : World → Prop := fun w' => ∃ n : After w, w' = n.w1
instance (w : World) : Nonempty (After w) := ⟨⟨w, .refl _ _⟩⟩
theorem after_calls {P : Program} {f : FuncId} {args : Array Value} {w : World} {n : After w} {v : Value}
    (h : Calls P f args n.w1 fun e w' => e = .returned v ∧ Chg (fun _ => False) n.w1 w') : Calls P f args n.w1 fun e w'' => e = .returned v ∧ ∃ m : After w, w'' = m.w1 :=
  h.mono fun _ w' ⟨he, hm⟩ => ⟨he, ⟨w', n.chg.trans hm (fun _ h => h.elim)⟩, rfl⟩
theorem after_same {P : Program} {f : FuncId} {args : Array Value} {w : World} {n : After w} {v : Value}
    (h : Calls P f args n.w1 fun e w' => e = .returned v ∧ n.w1 = w') : Calls P f args n.w1 fun e w'' => e = .returned v ∧ ∃ m : After w, w'' = m.w1 :=
  h.mono fun _ _ ⟨he, hm⟩ => ⟨he, n, hm.symm⟩
theorem region_after {P : Program} {id : Nat} {Q : Exit → Act → World → Prop} {a : Act} {w : World} {l : List Oper} (hm : P.follows .mixedOrders = true) (hB : Region.lexB .any l.toArray = true)
    (h : wpQuiet P l.toArray (fun w' => ∃ n : After w, w' = n.w1) (fun a' => ∀ w', (∃ n : After w, w' = n.w1) → Q .normal a' w') l a) : (Code.region id l.toArray true).wp P Q a w :=
  wp_region_quiet (C := fun w' => ∃ n : After w, w' = n.w1) hm hB ⟨⟨w.drew, (Chg.refl _ w).drew⟩, rfl⟩ (by simpa using h)
theorem quiet_eq {P : Program} {f : FuncId} {args : Array Value} {w : World} {n : Nat} {v : Value}
    (h : Calls P f args (w.drewN n) fun e w' => e = .returned v ∧ w.drewN n = w') : Calls P f args (w.drewN n) fun e w'' => e = .returned v ∧ ∃ m, w'' = w.drewN m :=
  h.mono fun _ _ ⟨he, hm⟩ => ⟨he, n, hm.symm⟩
set_option maxRecDepth 100000 in
set_option maxHeartbeats 2000000 in
theorem entries_any (b : Int) (v : Value) (l : List Ent) (w : World) (hr : Reads w v l) :
    Calls Try.prog 40 #[.int .i64 b, v] w fun e w' => (∃ r, e = .returned (.bool r) ∧ (r = true → Okay b l) ∧ (l = [] → r = true)) ∧ Chg (fun _ => False) w w' := by
  obtain ⟨a, c, rfl, hlc, hcm, hr⟩ := hr
  unfold maxLen at hcm
  have HR := Lib.hid hr
  clear hr
  go_enter Try.func40, Try.ntmps40
  go_wp2
  go_loopw [9] (fun i wr => ∃ (j : Nat), i = .int .i64 j ∧ j ≤ l.length ∧ Hid (EntsOk b (l.take j)) ∧ Chg (fun _ => False) w wr) (fun i _ => l.length - (intOf i).toNat)
  case atStart => exact ⟨0, rfl, by omega, ⟨List.Pairwise.nil, by simp⟩, .refl _ _⟩
  case round =>
    obtain ⟨j, rfl, hj, HI, hc⟩ := hrel
    by_cases hlt : j < l.length
    · rcases HR.out with hn | ⟨bb, o, rfl, hcells⟩
      · subst hn; simp at hlt
      have ck := hc.cell (hcells j hlt).1 (fun h => h)
      have cv := hc.cell (hcells j hlt).2 (fun h => h)
      have HC := Lib.hid hcells
      have hbl := World.block_lt_of_cell? wr _ ck
      clear hcells
      have hne : l ≠ [] := fun h => by subst h; simp at hlt
      have HNE := Lib.hid hne
      clear hne
      cases hK : mayK l[j].1 with
      | false =>
        go_wp2_with fail
        go_quiet ((first | (go_at_call 37; exact quiet_eq (mayKey_any _ _))))
        go_wp2
        go_ret
        exact ⟨⟨false, rfl, ⟨(fun h => by cases h), fun h => absurd h HNE.out⟩⟩, (hc.alloc _).drewN _⟩
      | true =>
        cases hV : mayV l[j].2 with
        | false =>
          go_wp2_with fail
          go_quiet ((first | (go_at_call 37; exact quiet_eq (mayKey_any _ _)) | (go_at_call 41; exact quiet_eq (mayValue_any _ _))))
          go_wp2
          go_ret
          exact ⟨⟨false, rfl, ⟨(fun h => by cases h), fun h => absurd h HNE.out⟩⟩, (hc.alloc _).drewN _⟩
        | true =>
          have hks : l[j].1.size ≤ maxLen := by
            have : 1 ≤ l[j].1.size ∧ l[j].1.size ≤ 32 := by simpa [mayK] using hK
            unfold maxLen; omega
          cases hB : ((kb l[j].1 : Int) != b) with
          | true =>
            have hB2 : ((kb l[j].1 : Int) == b) = false := by simpa using hB
            go_wp2_with fail
            have f0 : ∀ n : After (wr.alloc (.cells #[.string l[j].1, .string l[j].2] 65)), n.w1.cell? ⟨wr.heap.size, 0, none⟩ = some (.string l[j].1) := fun n => n.chg.cell (by simp [go_sem]) (fun h => h)
            have f1 : ∀ n : After (wr.alloc (.cells #[.string l[j].1, .string l[j].2] 65)), n.w1.cell? ⟨wr.heap.size, 1, none⟩ = some (.string l[j].2) := fun n => n.chg.cell (by simp [go_sem]) (fun h => h)
            refine region_after (by kernel_rfl) (by kernel_rfl) ?_
            repeat (go_big_quiet_step ((first | (go_at_call 37; exact after_same (mayKey_any _ _)) | (go_at_call 41; exact after_same (mayValue_any _ _)) | (go_at_call 42; exact after_calls (keyBucket_any _ _ hks)))))
            refine wpQuiet_nil ?_
            rintro _ ⟨⟨w2, hc2⟩, rfl⟩
            clear f0 f1
            go_wp2
            go_ret
            exact ⟨⟨false, rfl, ⟨(fun h => by cases h), fun h => absurd h HNE.out⟩⟩, (hc.alloc _).trans hc2 (fun _ h => h.elim)⟩
          | false =>
            have hB2 : ((kb l[j].1 : Int) == b) = true := by simpa using hB
            have hBe : (kb l[j].1 : Int) = b := by simpa using hB
            have HBE := Lib.hid hBe
            clear hBe
            have f0 : ∀ n : After (wr.alloc (.cells #[.string l[j].1, .string l[j].2] 65)), n.w1.cell? ⟨wr.heap.size, 0, none⟩ = some (.string l[j].1) := fun n => n.chg.cell (by simp [go_sem]) (fun h => h)
            have f1 : ∀ n : After (wr.alloc (.cells #[.string l[j].1, .string l[j].2] 65)), n.w1.cell? ⟨wr.heap.size, 1, none⟩ = some (.string l[j].2) := fun n => n.chg.cell (by simp [go_sem]) (fun h => h)
            by_cases hz : j = 0
            · subst hz
              simp only [Nat.zero_mul, Nat.add_zero] at ck cv
              go_wp2_with fail
              refine region_after (by kernel_rfl) (by kernel_rfl) ?_
              repeat (go_big_quiet_step ((first | (go_at_call 37; exact after_same (mayKey_any _ _)) | (go_at_call 41; exact after_same (mayValue_any _ _)) | (go_at_call 42; exact after_calls (keyBucket_any _ _ hks)))))
              refine wpQuiet_nil ?_
              rintro _ ⟨⟨w2, hc2⟩, rfl⟩
              clear f0 f1
              go_wp2
              go_roundw
              case rel => exact ⟨1, rfl, by omega, take_ok hlt HI.out hK hV HBE.out (.inl rfl), (hc.alloc _).trans hc2 (fun _ h => h.elim)⟩
              case measure => simp [intOf]; omega
            · have hj1 : j - 1 < l.length := by omega
              have cp := hc.cell (HC.out (j - 1) hj1).1 (fun h => h)
              have f2 : ∀ n : After (wr.alloc (.cells #[.string l[j].1, .string l[j].2] 65)), n.w1.cell? ⟨bb, o + (j - 1) * 2, none⟩ = some (.string l[j - 1].1) := fun n => n.chg.cell (cell_alloc cp _) (fun h => h)
              have g1 : (0 : Int) < j := by omega
              have g1b : 0 < j := by omega
              have g2 : (0 : Int) ≤ (j : Int) - 1 := by omega
              have g3 : (j : Int) - 1 < l.length := by omega
              have g4 : ((j : Int) - 1).toNat = j - 1 := by omega
              have g5 : IntKind.i64.wrap ((j : Int) - 1) = (j : Int) - 1 := by rw [IntKind.wrap_i64]; omega
              cases hS : ltB l[j - 1].1 l[j].1 with
              | true =>
                have hS' : Op.bytesLess l[j - 1].1.toList l[j].1.toList = true := hS
                have HS := Lib.hid hS
                clear hS
                go_wp2_with fail
                refine region_after (by kernel_rfl) (by kernel_rfl) ?_
                repeat (go_big_quiet_step ((first | (go_at_call 37; exact after_same (mayKey_any _ _)) | (go_at_call 41; exact after_same (mayValue_any _ _)) | (go_at_call 42; exact after_calls (keyBucket_any _ _ hks)))))
                refine wpQuiet_nil ?_
                rintro _ ⟨⟨w2, hc2⟩, rfl⟩
                clear f0 f1 f2 g5
                go_wp2
                go_roundw
                case rel => exact ⟨j + 1, by go_num, by omega, take_ok hlt HI.out hK hV HBE.out (.inr HS.out), (hc.alloc _).trans hc2 (fun _ h => h.elim)⟩
                case measure => simp [intOf]; omega
              | false =>
                have hS' : Op.bytesLess l[j - 1].1.toList l[j].1.toList = false := hS
                go_wp2_with fail
                refine region_after (by kernel_rfl) (by kernel_rfl) ?_
                repeat (go_big_quiet_step ((first | (go_at_call 37; exact after_same (mayKey_any _ _)) | (go_at_call 41; exact after_same (mayValue_any _ _)) | (go_at_call 42; exact after_calls (keyBucket_any _ _ hks)))))
                refine wpQuiet_nil ?_
                rintro _ ⟨⟨w2, hc2⟩, rfl⟩
                clear f0 f1 f2 g5
                go_wp2
                go_ret
                exact ⟨⟨false, rfl, ⟨(fun h => by cases h), fun h => absurd h HNE.out⟩⟩, (hc.alloc _).trans hc2 (fun _ h => h.elim)⟩
    · go_wp2
      go_ret
      exact ⟨⟨_, rfl, fun h => ⟨by rw [show j = l.length from by omega, List.take_length] at HI; exact HI.out.1, by simp at h; omega, by rw [show j = l.length from by omega, List.take_length] at HI; exact HI.out.2⟩, fun h => by subst h; simp⟩, hc⟩
end Go.Proofs.Ytpdchdbkfflgfaa
