/- The document's Same of a transaction and its copy. -/
import Derived.Test.YtpdchdbkfflgfaaK1
namespace Go.Proofs.Ytpdchdbkfflgfaa
open Go.RowKit

theorem citem_slice {H : Nat} {w : World} {c : CItem} (h : c.Ok H w) : ∃ a n k, c.v = .slice a n k := by
  obtain ⟨a, c', e, _⟩ := citem_reads h
  exact ⟨a, _, c', e⟩
set_option maxRecDepth 100000 in
set_option maxHeartbeats 4000000 in
theorem sameTx {H H2 : Nat} {rows : List Tl} {itv iv : Value} {cs ds : List CItem} (w : World) (hi : Items H w rows itv cs) (ho : w.ownsRow H2 36 8 iv cs.length (ds.flatMap CItem.cells)) (hcp : Copy H2 w cs ds) (h8 : cs.length ≤ 8) (h1 : 1 ≤ cs.length) :
    Calls Try.prog 23 #[.agg #[.int .u64 5, .int .i64 1, .int .i64 1, .int .i64 2, .int .i64 3, itv], .agg #[.int .u64 5, .int .i64 1, .int .i64 1, .int .i64 2, .int .i64 3, iv]] w fun e w' => e = .returned (.bool true) ∧ Chg (fun _ => False) w w' := by
  obtain ⟨g1, rfl, _, _, hc1⟩ := items_cells hi.1 (by omega)
  obtain ⟨g2, rfl, _, _, hc2⟩ := items_cells ho (by omega)
  have C1 := Lib.hid hc1
  have C2 := Lib.hid hc2
  have HI := Lib.hid hi
  have CP := Lib.hid hcp
  have h29 : ∀ w, (Op.equalIn 10000 29 (.agg #[.int .i64 1, .int .i64 2, .int .i64 3]) (.agg #[.int .i64 1, .int .i64 2, .int .i64 3])).run Try.prog w = .ok true w := fun _ => by kernel_rfl
  obtain ⟨W, hW⟩ : ∃ W : World, W = (w.alloc (.cells #[.int .u64 5, .int .i64 1, .int .i64 1, .int .i64 2, .int .i64 3, .slice (some ⟨g1.1, 0, none⟩) cs.length g1.2] 45)).alloc (.cells #[.int .u64 5, .int .i64 1, .int .i64 1, .int .i64 2, .int .i64 3, .slice (some ⟨g2.1, 0, none⟩) cs.length g2.2] 45) := ⟨_, rfl⟩
  have cW : Chg (fun _ => False) w W := by rw [hW]; exact ((Chg.refl _ w).alloc _).alloc _
  have o1 : W.heap[w.heap.size]? = some (.cells #[.int .u64 5, .int .i64 1, .int .i64 1, .int .i64 2, .int .i64 3, .slice (some ⟨g1.1, 0, none⟩) cs.length g1.2] 45) := by rw [hW]; exact (Below.heap_alloc _ _ _ (by simp)).trans (heap_alloc_new w _)
  have o2 : W.heap[w.heap.size + 1]? = some (.cells #[.int .u64 5, .int .i64 1, .int .i64 1, .int .i64 2, .int .i64 3, .slice (some ⟨g2.1, 0, none⟩) cs.length g2.2] 45) := by
    rw [hW]
    have := heap_alloc_new (w.alloc (.cells #[.int .u64 5, .int .i64 1, .int .i64 1, .int .i64 2, .int .i64 3, .slice (some ⟨g1.1, 0, none⟩) cs.length g1.2] 45)) (.cells #[.int .u64 5, .int .i64 1, .int .i64 1, .int .i64 2, .int .i64 3, .slice (some ⟨g2.1, 0, none⟩) cs.length g2.2] 45)
    rw [World.size_alloc] at this
    exact this
  have CW := Lib.hid cW
  have O1 := Lib.hid o1
  have O2 := Lib.hid o2
  clear hc1 hc2 hi ho hcp cW o1 o2
  go_enter Try.func23, Try.ntmps23
  go_wp2
  rw [← hW]
  clear hW h29
  go_loopw [5] (fun i wr => ∃ k : Nat, i = .int .i64 k ∧ k ≤ cs.length ∧ Chg (fun _ => False) W wr) (fun i _ => cs.length - (intOf i).toNat)
  case atStart => exact ⟨0, rfl, by omega, .refl _ _⟩
  case round =>
    obtain ⟨k, rfl, hk, hch⟩ := hrel
    have t1 : wr.cell? ⟨w.heap.size, 5, none⟩ = some (.slice (some ⟨g1.1, 0, none⟩) cs.length g1.2) := hch.cell (cell_row O1.out rfl) (fun h => h)
    have t2 : wr.cell? ⟨w.heap.size + 1, 5, none⟩ = some (.slice (some ⟨g2.1, 0, none⟩) cs.length g2.2) := hch.cell (cell_row O2.out rfl) (fun h => h)
    by_cases hlt : k < cs.length
    · have hlt2 : k < ds.length := by rw [CP.out.1]; exact hlt
      have hcw := CW.out.trans hch (fun _ h => h.elim)
      have hcp := CP.out.2 k hlt hlt2
      obtain ⟨q0, q1, q2, q3, q4, q5, q6, q7⟩ := C1.out k hlt
      obtain ⟨p0, p1, p2, p3, p4, p5, p6, p7⟩ := C2.out k hlt2
      rw [hcp.1] at p0 p1 p4 p5 p6 p7
      rw [hcp.2.1] at p2
      have hok := (HI.out.2.2 _ (List.getElem_mem hlt)).2
      have rdA : Reads wr cs[k].v cs[k].list := hcw.reads (citem_reads hok) (fun _ _ h => h)
      have rdB : Reads wr ds[k].v cs[k].list := hcw.reads (reads_of_owns hcp.2.2) (fun _ _ h => h)
      obtain ⟨aA, nA, cA, eA⟩ := citem_slice hok
      obtain ⟨aB, cB, eB⟩ := own_form hcp.2.2
      rw [eA] at q3 rdA
      rw [eB] at p3 rdB
      have u0 : ∀ n : After wr, n.w1.cell? ⟨g1.1, k * 8, none⟩ = some (.int .i64 cs[k].x.b) := fun n => (hcw.trans n.chg (fun _ h => h.elim)).cell q0 (fun h => h)
      have u1 : ∀ n : After wr, n.w1.cell? ⟨g1.1, k * 8 + 1, none⟩ = some (.int .u32 cs[k].x.ver) := fun n => (hcw.trans n.chg (fun _ h => h.elim)).cell q1 (fun h => h)
      have u2 : ∀ n : After wr, n.w1.cell? ⟨g1.1, k * 8 + 2, none⟩ = some (.bool cs[k].wr) := fun n => (hcw.trans n.chg (fun _ h => h.elim)).cell q2 (fun h => h)
      have u3 : ∀ n : After wr, n.w1.cell? ⟨g1.1, k * 8 + 3, none⟩ = some (.slice aA nA cA) := fun n => (hcw.trans n.chg (fun _ h => h.elim)).cell q3 (fun h => h)
      have u4 : ∀ n : After wr, n.w1.cell? ⟨g1.1, k * 8 + 4, none⟩ = some (.int .u32 cs[k].x.i0) := fun n => (hcw.trans n.chg (fun _ h => h.elim)).cell q4 (fun h => h)
      have u5 : ∀ n : After wr, n.w1.cell? ⟨g1.1, k * 8 + 5, none⟩ = some (.int .u32 cs[k].x.i1) := fun n => (hcw.trans n.chg (fun _ h => h.elim)).cell q5 (fun h => h)
      have u6 : ∀ n : After wr, n.w1.cell? ⟨g1.1, k * 8 + 6, none⟩ = some (.int .u32 cs[k].x.i2) := fun n => (hcw.trans n.chg (fun _ h => h.elim)).cell q6 (fun h => h)
      have u7 : ∀ n : After wr, n.w1.cell? ⟨g1.1, k * 8 + 7, none⟩ = some (.int .u32 cs[k].x.i3) := fun n => (hcw.trans n.chg (fun _ h => h.elim)).cell q7 (fun h => h)
      have v0 : ∀ n : After wr, n.w1.cell? ⟨g2.1, k * 8, none⟩ = some (.int .i64 cs[k].x.b) := fun n => (hcw.trans n.chg (fun _ h => h.elim)).cell p0 (fun h => h)
      have v1 : ∀ n : After wr, n.w1.cell? ⟨g2.1, k * 8 + 1, none⟩ = some (.int .u32 cs[k].x.ver) := fun n => (hcw.trans n.chg (fun _ h => h.elim)).cell p1 (fun h => h)
      have v2 : ∀ n : After wr, n.w1.cell? ⟨g2.1, k * 8 + 2, none⟩ = some (.bool cs[k].wr) := fun n => (hcw.trans n.chg (fun _ h => h.elim)).cell p2 (fun h => h)
      have v3 : ∀ n : After wr, n.w1.cell? ⟨g2.1, k * 8 + 3, none⟩ = some (.slice aB cs[k].list.length cB) := fun n => (hcw.trans n.chg (fun _ h => h.elim)).cell p3 (fun h => h)
      have v4 : ∀ n : After wr, n.w1.cell? ⟨g2.1, k * 8 + 4, none⟩ = some (.int .u32 cs[k].x.i0) := fun n => (hcw.trans n.chg (fun _ h => h.elim)).cell p4 (fun h => h)
      have v5 : ∀ n : After wr, n.w1.cell? ⟨g2.1, k * 8 + 5, none⟩ = some (.int .u32 cs[k].x.i1) := fun n => (hcw.trans n.chg (fun _ h => h.elim)).cell p5 (fun h => h)
      have v6 : ∀ n : After wr, n.w1.cell? ⟨g2.1, k * 8 + 6, none⟩ = some (.int .u32 cs[k].x.i2) := fun n => (hcw.trans n.chg (fun _ h => h.elim)).cell p6 (fun h => h)
      have v7 : ∀ n : After wr, n.w1.cell? ⟨g2.1, k * 8 + 7, none⟩ = some (.int .u32 cs[k].x.i3) := fun n => (hcw.trans n.chg (fun _ h => h.elim)).cell p7 (fun h => h)
      have s1 : ∀ n : After wr, n.w1.cell? ⟨w.heap.size, 5, none⟩ = some (.slice (some ⟨g1.1, 0, none⟩) cs.length g1.2) := fun n => n.chg.cell t1 (fun h => h)
      have s2 : ∀ n : After wr, n.w1.cell? ⟨w.heap.size + 1, 5, none⟩ = some (.slice (some ⟨g2.1, 0, none⟩) cs.length g2.2) := fun n => n.chg.cell t2 (fun h => h)
      have HCH := Lib.hid hch
      have RA := Lib.hid rdA
      have RB := Lib.hid rdB
      clear q0 q1 q2 q3 q4 q5 q6 q7 p0 p1 p2 p3 p4 p5 p6 p7 hok hcp eA eB rdA rdB hch hcw
      go_wp2_with fail
      refine region_after (by kernel_rfl) (by kernel_rfl) ?_
      repeat (go_big_quiet_step ((go_at_call 39; exact after_calls (sameItem _ _ _ _ _ _ _ _ _ _ _ (Chg.reads (After.chg _) RA.out (fun _ _ h => h)) (Chg.reads (After.chg _) RB.out (fun _ _ h => h))))))
      refine wpQuiet_nil ?_
      rintro _ ⟨⟨w2, hc2⟩, rfl⟩
      clear u0 u1 u2 u3 u4 u5 u6 u7 v0 v1 v2 v3 v4 v5 v6 v7 s1 s2
      go_wp2
      go_roundw
      case rel => exact ⟨k + 1, rfl, by omega, HCH.out.trans hc2 (fun _ h => h.elim)⟩
      case measure => simp [intOf]; omega
    · go_wp2
      go_ret
      exact ⟨rfl, CW.out.trans hch (fun _ h => h.elim)⟩
end Go.Proofs.Ytpdchdbkfflgfaa
