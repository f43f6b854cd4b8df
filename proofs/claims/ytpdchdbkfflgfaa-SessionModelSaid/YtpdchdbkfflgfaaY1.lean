/- The document's Right, of what is right. -/
import Derived.Test.YtpdchdbkfflgfaaY0
import Derived.Test.YtpdchdbkfflgfaaV
namespace Go.Proofs.Ytpdchdbkfflgfaa
open Go.RowKit

set_option maxRecDepth 100000 in
set_option maxHeartbeats 2000000 in
theorem entsRight (b : Int) (v : Value) (l : List Ent) (w : World) (hr : Reads w v l) (hok : Okay b l) :
    Calls Try.prog 50 #[.int .i64 b, v] w fun e w' => e = .returned (.bool true) ∧ Chg (fun _ => False) w w' := by
  obtain ⟨a, c, rfl, hlc, hcm, hr⟩ := hr
  have HR := Lib.hid hr
  have OK := Lib.hid hok
  have h8 := hok.2.1
  clear hr hok hlc hcm
  go_enter Try.func50, Try.ntmps50
  go_wp2
  go_loopw [5] (fun i wr => ∃ (j : Nat), i = .int .i64 j ∧ j ≤ l.length ∧ Chg (fun _ => False) w wr) (fun i _ => l.length - (intOf i).toNat)
  case atStart => exact ⟨0, rfl, by omega, .refl _ _⟩
  case round =>
    obtain ⟨j, rfl, hj, hc⟩ := hrel
    by_cases hlt : j < l.length
    · rcases HR.out with hn | ⟨bb, o, rfl, hcells⟩
      · subst hn; simp at hlt
      have ck := hc.cell (hcells j hlt).1 (fun h => h)
      have cv := hc.cell (hcells j hlt).2 (fun h => h)
      have HC := Lib.hid hcells
      clear hcells
      obtain ⟨k1, k2, k3, k4⟩ := OK.out.2.2 _ (List.getElem_mem hlt)
      have hK : mayK l[j].1 = true := by simp [mayK, k1, k2]
      have hV : mayV l[j].2 = true := by simp [mayV, k3]
      have hB : ((kb l[j].1 : Int) != b) = false := by simp [k4]
      have HCH := Lib.hid hc
      clear k1 k2 k3 k4
      have f0 : ∀ n : After wr, n.w1.cell? ⟨bb, o + j * 2, none⟩ = some (.string l[j].1) := fun n => n.chg.cell ck (fun h => h)
      by_cases hz : j = 0
      · subst hz
        simp only [Nat.zero_mul, Nat.add_zero] at ck cv f0
        go_wp2_with (first | (go_at_call 57; refine (mayKey2 _ _).mono ?_; rintro e w1 ⟨rfl, rfl⟩; rw [hK]) | (go_at_call 58; refine (mayValue2 _ _).mono ?_; rintro e w1 ⟨rfl, rfl⟩; rw [hV]))
        refine region_after (by kernel_rfl) (by kernel_rfl) ?_
        repeat (go_big_quiet_step ((first | (go_at_call 19; exact after_calls (of2 _ _)) | (go_at_call 18; exact after_calls (bucketOf _ _)))))
        refine wpQuiet_nil ?_
        rintro _ ⟨⟨w2, hc2⟩, rfl⟩
        clear f0
        go_wp2
        go_roundw
        case rel => exact ⟨1, rfl, by omega, HCH.out.trans hc2 (fun _ h => h.elim)⟩
        case measure => simp [intOf]; omega
      · have hj1 : j - 1 < l.length := by omega
        have cp := hc.cell (HC.out (j - 1) hj1).1 (fun h => h)
        have f2 : ∀ n : After wr, n.w1.cell? ⟨bb, o + (j - 1) * 2, none⟩ = some (.string l[j - 1].1) := fun n => n.chg.cell cp (fun h => h)
        have g1 : (0 : Int) < j := by omega
        have g1b : 0 < j := by omega
        have g2 : (0 : Int) ≤ (j : Int) - 1 := by omega
        have g3 : (j : Int) - 1 < l.length := by omega
        have g4 : ((j : Int) - 1).toNat = j - 1 := by omega
        have g5 : IntKind.i64.wrap ((j : Int) - 1) = (j : Int) - 1 := by rw [IntKind.wrap_i64]; omega
        have hS' : Op.bytesLess l[j - 1].1.toList l[j].1.toList = true := take_lt OK.out.1 g1b hlt
        go_wp2_with (first | (go_at_call 57; refine (mayKey2 _ _).mono ?_; rintro e w1 ⟨rfl, rfl⟩; rw [hK]) | (go_at_call 58; refine (mayValue2 _ _).mono ?_; rintro e w1 ⟨rfl, rfl⟩; rw [hV]))
        refine region_after (by kernel_rfl) (by kernel_rfl) ?_
        repeat (go_big_quiet_step ((first | (go_at_call 19; exact after_calls (of2 _ _)) | (go_at_call 18; exact after_calls (bucketOf _ _)))))
        refine wpQuiet_nil ?_
        rintro _ ⟨⟨w2, hc2⟩, rfl⟩
        clear f0 f2 g5
        go_wp2
        go_roundw
        case rel => exact ⟨j + 1, by go_num, by omega, HCH.out.trans hc2 (fun _ h => h.elim)⟩
        case measure => simp [intOf]; omega
    · go_wp2
      go_ret
      exact ⟨rfl, hc⟩
def nz (x : Int) : Nat := if (x != 0) = true then 1 else 0
def nzk (i0 i1 i2 i3 : Int) (k : Nat) : Nat := (if 0 < k then nz i0 else 0) + (if 1 < k then nz i1 else 0) + (if 2 < k then nz i2 else 0) + (if 3 < k then nz i3 else 0)
theorem nz_four (i0 i1 i2 i3 : Int) (h : zs i0 i1 i2 i3 ≤ 1) : 3 ≤ nzk i0 i1 i2 i3 4 := by
  have e : ∀ x : Int, nz x + cz x = 1 := fun x => by unfold nz cz; by_cases h : x = 0 <;> simp [h]
  have := e i0
  have := e i1
  have := e i2
  have := e i3
  unfold zs at h
  simp [nzk]
  omega
set_option maxRecDepth 100000 in
set_option maxHeartbeats 2000000 in
theorem itemRight (b ver i0 i1 i2 i3 : Int) (wr : Bool) (v : Value) (l : List Ent) (w : World) (hr : Reads w v l) (hn : Num b ver i0 i1 i2 i3) (hok : Okay b l) (hw : wr = false → l = []) :
    Calls Try.prog 36 #[.agg #[.int .i64 b, .int .u32 ver, .bool wr, v, .int .u32 i0, .int .u32 i1, .int .u32 i2, .int .u32 i3]] w fun e w' => e = .returned (.bool true) ∧ Chg (fun _ => False) w w' := by
  have HR := Lib.hid hr
  have OK := Lib.hid hok
  have HW := Lib.hid hw
  obtain ⟨a, c, rfl, _⟩ := hr
  obtain ⟨n1, n2, n3, n4⟩ := hn
  have n5 := nz_four i0 i1 i2 i3 n4
  clear hok hw n4
  go_enter Try.func36, Try.ntmps36
  go_wp2
  go_loop [3, 4] (fun n i => ∃ k : Nat, k ≤ 4 ∧ i = .int .i64 k ∧ n = .int .i64 (nzk i0 i1 i2 i3 k)) (fun _ i => 4 - (intOf i).toNat)
  case atStart => exact ⟨0, by omega, rfl, rfl⟩
  case round =>
    obtain ⟨k, hk, rfl, rfl⟩ := hrel
    by_cases h4 : k = 4
    · subst h4
      have n6 : (3 : Int) ≤ nzk i0 i1 i2 i3 4 := by omega
      have rd := ((Chg.refl (fun _ => False) w).alloc (.cells #[.int .i64 b, .int .u32 ver, .bool wr, .slice a l.length c, .int .u32 i0, .int .u32 i1, .int .u32 i2, .int .u32 i3] 36)).reads HR.out (fun _ _ h => h)
      have it := item_cells (heap_alloc_new w (itemO b ver wr (.slice a l.length c) i0 i1 i2 i3))
      have itf : ∀ w2, Chg (fun _ => False) (w.alloc (itemO b ver wr (.slice a l.length c) i0 i1 i2 i3)) w2 → w2.heap[w.heap.size]? = some (itemO b ver wr (.slice a l.length c) i0 i1 i2 i3) := fun w2 hc => hc.obj (heap_alloc_new w _) (fun h => h)
      have IF := Lib.hid itf
      clear it itf n5
      cases wr with
      | true =>
        go_wp2_with (go_at_call 50; refine (entsRight _ _ _ _ rd OK.out).mono ?_; rintro e w2 ⟨rfl, hc2⟩; obtain ⟨x0, x1, x2, x3, x4, x5, x6, x7⟩ := item_cells (IF.out w2 hc2))
        go_ret
        exact ⟨rfl, ((Chg.refl _ w).alloc _).trans hc2 (fun _ h => h.elim)⟩
      | false =>
        have hl : l = [] := HW.out rfl
        subst hl
        go_wp2_with (go_at_call 50; refine (entsRight _ _ _ _ rd OK.out).mono ?_; rintro e w2 ⟨rfl, hc2⟩; obtain ⟨x0, x1, x2, x3, x4, x5, x6, x7⟩ := item_cells (IF.out w2 hc2))
        go_ret
        exact ⟨rfl, ((Chg.refl _ w).alloc _).trans hc2 (fun _ h => h.elim)⟩
    · have hle : nzk i0 i1 i2 i3 k ≤ 4 := by unfold nzk nz; repeat' split
                                             all_goals omega
      have hcase : k = 0 ∨ k = 1 ∨ k = 2 ∨ k = 3 := by omega
      rcases hcase with rfl | rfl | rfl | rfl
      · have hs : nzk i0 i1 i2 i3 1 = nzk i0 i1 i2 i3 0 + nz i0 := by simp [nzk]
        have HS := Lib.hid hs
        clear hs
        cases hz : (i0 != 0)
        all_goals
          go_wp2
          go_round
          case rel =>
            refine ⟨1, by omega, rfl, ?_⟩
            have := HS.out
            rw [nz, hz] at this
            rw [this]; first | rfl | go_num
          case measure => simp [intOf]
      · have hs : nzk i0 i1 i2 i3 2 = nzk i0 i1 i2 i3 1 + nz i1 := by simp [nzk]
        have HS := Lib.hid hs
        clear hs
        cases hz : (i1 != 0)
        all_goals
          go_wp2
          go_round
          case rel =>
            refine ⟨2, by omega, rfl, ?_⟩
            have := HS.out
            rw [nz, hz] at this
            rw [this]; first | rfl | go_num
          case measure => simp [intOf]
      · have hs : nzk i0 i1 i2 i3 3 = nzk i0 i1 i2 i3 2 + nz i2 := by simp [nzk]
        have HS := Lib.hid hs
        clear hs
        cases hz : (i2 != 0)
        all_goals
          go_wp2
          go_round
          case rel =>
            refine ⟨3, by omega, rfl, ?_⟩
            have := HS.out
            rw [nz, hz] at this
            rw [this]; first | rfl | go_num
          case measure => simp [intOf]
      · have hs : nzk i0 i1 i2 i3 4 = nzk i0 i1 i2 i3 3 + nz i3 := by simp [nzk]
        have HS := Lib.hid hs
        clear hs
        cases hz : (i3 != 0)
        all_goals
          go_wp2
          go_round
          case rel =>
            refine ⟨4, by omega, rfl, ?_⟩
            have := HS.out
            rw [nz, hz] at this
            rw [this]; first | rfl | go_num
          case measure => simp [intOf]
end Go.Proofs.Ytpdchdbkfflgfaa
