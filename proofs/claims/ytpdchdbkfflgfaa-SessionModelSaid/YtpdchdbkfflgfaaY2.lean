/- The document's Right of what Commit tells. -/
import Derived.Test.YtpdchdbkfflgfaaY1
namespace Go.Proofs.Ytpdchdbkfflgfaa
open Go.RowKit

theorem flat8 (cs : List CItem) : ∀ k j, j < 8 → (cs.flatMap CItem.cells)[k * 8 + j]? = (cs[k]?).bind fun c => c.cells[j]? := by
  induction cs with
  | nil => intro k j _; simp
  | cons c cs ih =>
    intro k j hj
    rw [List.flatMap_cons]
    have hl : c.cells.length = 8 := rfl
    cases k with
    | zero =>
      rw [List.getElem?_append_left (by omega)]
      simp
    | succ k =>
      rw [List.getElem?_append_right (by omega), hl, show (k + 1) * 8 + j - 8 = k * 8 + j from by omega, ih k j hj]
      simp
theorem items_cells {H n : Nat} {w : World} {v : Value} {cs : List CItem} (h : w.ownsRow H 36 8 v n (cs.flatMap CItem.cells)) (hn : 0 < n) :
    ∃ gc : Nat × Nat, v = .slice (some ⟨gc.1, 0, none⟩) n gc.2 ∧ gc.1 < w.heap.size ∧ H ≤ gc.1 ∧ ∀ k (hk : k < cs.length), w.cell? ⟨gc.1, k * 8, none⟩ = some (.int .i64 cs[k].x.b) ∧ w.cell? ⟨gc.1, k * 8 + 1, none⟩ = some (.int .u32 cs[k].x.ver) ∧ w.cell? ⟨gc.1, k * 8 + 2, none⟩ = some (.bool cs[k].wr) ∧ w.cell? ⟨gc.1, k * 8 + 3, none⟩ = some cs[k].v ∧
      w.cell? ⟨gc.1, k * 8 + 4, none⟩ = some (.int .u32 cs[k].x.i0) ∧ w.cell? ⟨gc.1, k * 8 + 5, none⟩ = some (.int .u32 cs[k].x.i1) ∧ w.cell? ⟨gc.1, k * 8 + 6, none⟩ = some (.int .u32 cs[k].x.i2) ∧ w.cell? ⟨gc.1, k * 8 + 7, none⟩ = some (.int .u32 cs[k].x.i3) := by
  rcases h.2 with ⟨_, h0⟩ | ⟨g, cap, cur, rfl, hb, hg, h1, h2, h3, h4⟩
  · omega
  · refine ⟨(g, cap), rfl, lt_of_block hg, hb, fun k hk => ?_⟩
    have key : ∀ j u, j < 8 → cs[k].cells[j]? = some u → w.cell? ⟨g, k * 8 + j, none⟩ = some u := by
      intro j u hj hu
      have := flat8 cs k j hj
      rw [List.getElem?_eq_getElem hk] at this
      have this : (cs.flatMap CItem.cells)[k * 8 + j]? = some u := this.trans hu
      refine cell_row hg ?_
      rw [← h4, List.getElem?_take] at this
      split at this
      · simpa using this
      · cases this
    exact ⟨key 0 _ (by omega) rfl, key 1 _ (by omega) rfl, key 2 _ (by omega) rfl, key 3 _ (by omega) rfl, key 4 _ (by omega) rfl, key 5 _ (by omega) rfl, key 6 _ (by omega) rfl, key 7 _ (by omega) rfl⟩
/-- Reading an item's entries. -/
theorem citem_reads {H : Nat} {w : World} {c : CItem} (h : c.Ok H w) : Reads w c.v (if c.wr then c.x.now else []) := by
  cases hw : c.wr with
  | true => exact reads_of_owns (h.2.2 hw)
  | false => rw [h.1 hw]; exact reads_nil w
theorem sorted_get {l : List Int} (hd : l.Nodup) {i : Nat} (hi : i + 1 < (sortInts l).length) : (sortInts l)[i]'(by omega) < (sortInts l)[i + 1] := by
  have hs : (sortInts l).Pairwise (fun a b => a ≤ b) := by
    have := List.pairwise_mergeSort (le := fun x y : Int => decide (x ≤ y)) (fun a b c h1 h2 => by simp only [decide_eq_true_eq] at *; omega) (fun a b => by simp only [Bool.or_eq_true, decide_eq_true_eq]; omega) l
    exact this.imp (fun {a b} h => by simpa using h)
  have hn : (sortInts l).Nodup := (List.mergeSort_perm l _).nodup_iff.2 hd
  have h1 := List.pairwise_iff_getElem.1 hs i (i + 1) (by omega) hi (by omega)
  have h2 := List.pairwise_iff_getElem.1 hn i (i + 1) (by omega) hi (by omega)
  omega
theorem cs_lt {rows : List Tl} {cs : List CItem} (hb : cs.map (·.x.b) = sortInts (rows.map (·.b))) (hd : (rows.map (·.b)).Nodup) {j : Nat} (h0 : 0 < j) (hj : j < cs.length) : (cs[j - 1]'(by omega)).x.b < cs[j].x.b := by
  have hl : (sortInts (rows.map (·.b))).length = cs.length := by rw [← hb]; simp
  have h := sorted_get hd (i := j - 1) (by omega)
  have e1 : (sortInts (rows.map (·.b)))[j - 1]'(by omega) = (cs[j - 1]'(by omega)).x.b := by simp only [← hb, List.getElem_map]
  have e2 : (sortInts (rows.map (·.b)))[j - 1 + 1]'(by omega) = cs[j].x.b := by simp only [← hb, List.getElem_map, show j - 1 + 1 = j from by omega]
  rw [e1, e2] at h
  exact h
set_option maxRecDepth 100000 in
set_option maxHeartbeats 2000000 in
theorem txRight {H : Nat} {rows : List Tl} {itv : Value} {cs : List CItem} (w : World) (hi : Items H w rows itv cs) (hf : ∀ x ∈ rows, x.Fine) (hd : (rows.map (·.b)).Nodup) (h1 : 1 ≤ rows.length) (h8 : rows.length ≤ 8) :
    Calls Try.prog 16 #[.agg #[.int .u64 5, .int .i64 1, .int .i64 1, .int .i64 2, .int .i64 3, itv]] w fun e w' => e = .returned (.bool true) ∧ Chg (fun _ => False) w w' := by
  obtain ⟨ho, hb, hc⟩ := hi
  have hlen : cs.length = rows.length := by have := congrArg List.length hb; rw [sortInts_len] at this; simpa using this
  obtain ⟨gc, rfl, hgl, _, hcell⟩ := items_cells ho (by omega)
  have HC := Lib.hid hcell
  have HB := Lib.hid hb
  have HX := Lib.hid hc
  have HF := Lib.hid hf
  have HD := Lib.hid hd
  have a1 : ¬ (cs.length : Int) < 1 := by omega
  have a2 : ¬ (8 : Int) < cs.length := by omega
  have HL := Lib.hid (And.intro hlen (And.intro h1 h8))
  have HG := Lib.hid hgl
  clear hcell hb hc hf hd ho hlen h1 h8 hgl
  go_enter Try.func16, Try.ntmps16
  go_wp2
  go_loop [4] (fun i => ∃ k : Nat, k ≤ 3 ∧ i = .int .i64 k) (fun i => 3 - (intOf i).toNat)
  case atStart => exact ⟨0, by omega, rfl⟩
  case round =>
    obtain ⟨k, hk, rfl⟩ := hrel
    have hcase : k = 0 ∨ k = 1 ∨ k = 2 ∨ k = 3 := by omega
    rcases hcase with rfl | rfl | rfl | rfl
    · go_wp2
      go_round
      case rel => exact ⟨1, by omega, rfl⟩
      case measure => simp [intOf]
    · go_wp2
      go_round
      case rel => exact ⟨2, by omega, rfl⟩
      case measure => simp [intOf]
    · go_wp2
      go_round
      case rel => exact ⟨3, by omega, rfl⟩
      case measure => simp [intOf]
    · go_wp2
      go_loopw [5] (fun i wr => ∃ j : Nat, i = .int .i64 j ∧ j ≤ cs.length ∧ Chg (fun _ => False) ((w.alloc (.cells #[.int .u64 5, .int .i64 1, .int .i64 1, .int .i64 2, .int .i64 3, .slice (some ⟨gc.1, 0, none⟩) cs.length gc.2] 45)).alloc (.cells #[.int .i64 1, .int .i64 2, .int .i64 3] 29)) wr) (fun i _ => cs.length - (intOf i).toNat)
      case atStart => exact ⟨0, rfl, by omega, .refl _ _⟩
      case round =>
        obtain ⟨j, rfl, hj, hch⟩ := hrel
        have tx5 : wr.cell? ⟨w.heap.size, 5, none⟩ = some (.slice (some ⟨gc.1, 0, none⟩) cs.length gc.2) := hch.cell (cell_alloc (cell_row (heap_alloc_new w _) rfl) _) (fun h => h)
        by_cases hlt : j < cs.length
        · have hc0 := ((((Chg.refl (fun _ => False) w).alloc _).alloc _).trans hch (fun _ h => h.elim))
          obtain ⟨q0, q1, q2, q3, q4, q5, q6, q7⟩ := HC.out j hlt
          have r0 := hc0.cell q0 (fun h => h)
          have r1 := hc0.cell q1 (fun h => h)
          have r2 := hc0.cell q2 (fun h => h)
          have r3 := hc0.cell q3 (fun h => h)
          have r4 := hc0.cell q4 (fun h => h)
          have r5 := hc0.cell q5 (fun h => h)
          have r6 := hc0.cell q6 (fun h => h)
          have r7 := hc0.cell q7 (fun h => h)
          have hx := HX.out _ (List.getElem_mem hlt)
          have hrd := hc0.reads (citem_reads hx.2) (fun _ _ h => h)
          clear q0 q1 q2 q3 q4 q5 q6 q7
          have HRD := Lib.hid hrd
          have HX1 := Lib.hid hx
          have HCH := Lib.hid hch
          have HC0 := Lib.hid hc0
          have txf : ∀ w2, Chg (fun _ => False) wr w2 → w2.cell? ⟨w.heap.size, 5, none⟩ = some (.slice (some ⟨gc.1, 0, none⟩) cs.length gc.2) := fun w2 h => h.cell tx5 (fun h => h)
          have TXF := Lib.hid txf
          have hv : ∃ a n c, cs[j].v = .slice a n c := by obtain ⟨a, c, e, _⟩ := hrd; exact ⟨a, _, c, e⟩
          obtain ⟨va, vn, vc, hv⟩ := hv
          rw [hv] at r3
          have HV := Lib.hid hv
          clear hrd hx hch hc0 txf hv
          go_wp2_with fail
          have hfx := HF.out _ HX1.out.1
          have hrd2 := HRD.out
          rw [HV.out] at hrd2
          have hnum : Num cs[j].x.b cs[j].x.ver cs[j].x.i0 cs[j].x.i1 cs[j].x.i2 cs[j].x.i3 := ⟨hfx.b0, hfx.b1, hfx.v1, hfx.z⟩
          have hok2 : Okay cs[j].x.b (if cs[j].wr then cs[j].x.now else []) := by
            split
            · exact hfx.now
            · exact ⟨List.Pairwise.nil, by simp, by simp⟩
          refine (itemRight _ _ _ _ _ _ _ _ _ _ hrd2 hnum hok2 (fun h => by rw [h]; rfl)).mono ?_
          rintro e w2 ⟨rfl, hc2⟩
          have tx2 := TXF.out w2 hc2
          have s0 := hc2.cell r0 (fun h => h)
          have HC2 := Lib.hid hc2
          clear r0 r1 r2 r3 r4 r5 r6 r7 tx5 hfx hrd2 hnum hok2 hc2
          by_cases hz : j = 0
          · subst hz
            simp only [Nat.zero_mul] at s0
            go_wp2_with fail
            go_quiet (fail)
            go_wp2
            go_roundw
            case rel => exact ⟨1, rfl, by omega, (HCH.out.trans HC2.out (fun _ h => h.elim)).drewN _⟩
            case measure => simp [intOf]; omega
          · have g1 : (0 : Int) < j := by omega
            have g1b : 0 < j := by omega
            have g2 : (0 : Int) ≤ (j : Int) - 1 := by omega
            have g3 : (j : Int) - 1 < cs.length := by omega
            have g4 : ((j : Int) - 1).toNat = j - 1 := by omega
            have g5 : IntKind.i64.wrap ((j : Int) - 1) = (j : Int) - 1 := by rw [IntKind.wrap_i64]; omega
            have hj1 : j - 1 < cs.length := by omega
            have p0 := (HC0.out.trans HC2.out (fun _ h => h.elim)).cell (HC.out (j - 1) hj1).1 (fun h => h)
            have hb := cs_lt HB.out HD.out g1b hlt
            have hb2 : ¬ cs[j].x.b ≤ cs[j - 1].x.b := by omega
            clear hb
            go_wp2_with fail
            go_quiet (fail)
            clear g5
            go_wp2
            go_roundw
            case rel => exact ⟨j + 1, by go_num, by omega, (HCH.out.trans HC2.out (fun _ h => h.elim)).drewN _⟩
            case measure => simp [intOf]; omega
        · go_wp2
          go_ret
          exact ⟨rfl, (((Chg.refl (fun _ => False) w).alloc _).alloc _).trans hch (fun _ h => h.elim)⟩
end Go.Proofs.Ytpdchdbkfflgfaa
