/- Commit. -/
import Derived.Test.YtpdchdbkfflgfaaS
namespace Go.Proofs.Ytpdchdbkfflgfaa
open Go.RowKit

def zItem : Value := .agg #[.int .i64 0, .int .u32 0, .bool false, .slice none 0 0, .int .u32 0, .int .u32 0, .int .u32 0, .int .u32 0]
theorem info36 : (Try.prog.info? 36).map (fun i => (i.zero, i.size, i.bytes)) = some (some zItem, 8, 56) := by kernel_rfl
def sCommit : ByteArray := ⟨#[67, 111, 109, 109, 105, 116]⟩
def zTx : Value := .agg #[.int .u64 0, .int .i64 0, .int .i64 0, .int .i64 0, .int .i64 0, .slice none 0 0]
def Ses.close (S : Ses) : Ses := { S with com := true }
def Pure.close (P : Pure) : Pure := { P with com := true }
/-- An item that Commit tells. -/
structure CItem where
  x : Tl
  wr : Bool
  v : Value
def CItem.cells (c : CItem) : List Value := [.int .i64 c.x.b, .int .u32 c.x.ver, .bool c.wr, c.v, .int .u32 c.x.i0, .int .u32 c.x.i1, .int .u32 c.x.i2, .int .u32 c.x.i3]
def CItem.Ok (H : Nat) (w : World) (c : CItem) : Prop :=
  (c.wr = false → c.v = .slice none 0 0) ∧ (c.wr = true ↔ c.x.was ≠ c.x.now) ∧ (c.wr = true → w.ownsRow H 65 2 c.v c.x.now.length (flat c.x.now))
def Items (H : Nat) (w : World) (rows : List Tl) (v : Value) (cs : List CItem) : Prop :=
  w.ownsRow H 36 8 v cs.length (cs.flatMap CItem.cells) ∧ cs.map (·.x.b) = sortInts (rows.map (·.b)) ∧ ∀ c ∈ cs, c.x ∈ rows ∧ c.Ok H w
def CommitP (B : Nat) (S : Ses) (w : World) (e : Ending) (w' : World) : Prop :=
  ∃ n P' v ev, e = .returned (.tuple #[v, ev]) ∧ Ran B w S sCommit n P' w' ev ∧
    ((S.com = true ∨ S.rows = []) → n = 201 ∧ P' = S.pure ∧ v = zTx) ∧
    (S.com = false → S.rows ≠ [] → n = 0 ∧ P' = S.pure.close ∧ ∃ itv cs, v = .agg #[.int .u64 S.id, .int .i64 S.client, .int .i64 S.m0, .int .i64 S.m1, .int .i64 S.m2, itv] ∧ Items w.heap.size w' S.pure.rows itv cs) ∧
    (S.com = false → S.rows ≠ [] → ∃ S' : Ses, S'.Lies B w' ∧ S'.pure = S.pure.close ∧ S'.p = S.p ∧ S'.blocks = S.blocks ∧ Chg (· ∈ S.blocks) w w')
theorem Ses.Lies.close {B : Nat} {S : Ses} {w : World} (h : S.Lies B w) : S.close.Lies B (w.setCell ⟨S.p, 6, none⟩ (.bool true)) := by
  have hc : Chg (fun q => q = S.p) w (w.setCell ⟨S.p, 6, none⟩ (.bool true)) := (Chg.refl (fun q => q = S.p) w).setCell (.inl rfl) _
  have hp : ∀ x ∈ S.rows, ∀ k ∈ x.blocks, k ≠ S.p := fun x hx k hk e => (h.pr x hx).1 (e ▸ hk)
  refine ⟨heap_setCell_same h.head _, hc.obj h.log (fun e => h.ne e.symm), fun x hx => ?_, h.ne, h.pr, h.own, h.far, h.old, h.dif, h.fine, h.few, h.born⟩
  have hr := h.rows x hx
  exact ⟨hc.obj hr.tl (hp x hx _ (by simp [Row.blocks])), hc.owns hr.was fun k hk => hp x hx k (by simp [Row.blocks, hk]), hc.owns hr.now fun k hk => hp x hx k (by simp [Row.blocks, hk])⟩

theorem fault_err (of : ByteArray) (n : Int) (w : World) : Calls Try.prog 25 #[.string of, .int .i64 n] w fun e w' => ∃ ev, e = .returned ev ∧ IsErr w.heap.size w' ev of n ∧ Chg (fun _ => False) w w' := by
  refine (fault_any of n w).mono ?_
  rintro e w' ⟨rfl, rfl⟩
  exact ⟨_, rfl, isErr_fault of n w, chg_fault _ _ _ _⟩
theorem tx_cells {w : World} {g : Nat} {a b c d e f : Value} (h : w.heap[g]? = some (.cells #[a, b, c, d, e, f] 45)) :
    w.cell? ⟨g, 0, none⟩ = some a ∧ w.cell? ⟨g, 1, none⟩ = some b ∧ w.cell? ⟨g, 2, none⟩ = some c ∧ w.cell? ⟨g, 3, none⟩ = some d ∧ w.cell? ⟨g, 4, none⟩ = some e ∧ w.cell? ⟨g, 5, none⟩ = some f :=
  ⟨cell_row h rfl, cell_row h rfl, cell_row h rfl, cell_row h rfl, cell_row h rfl, cell_row h rfl⟩
theorem tx_set {w : World} {g : Nat} {a b c d e f : Value} (h : w.heap[g]? = some (.cells #[a, b, c, d, e, f] 45)) (u0 u1 u2 u3 u4 u5 : Value) :
    ((((((w.setCell ⟨g, 0, none⟩ u0).setCell ⟨g, 1, none⟩ u1).setCell ⟨g, 2, none⟩ u2).setCell ⟨g, 3, none⟩ u3).setCell ⟨g, 4, none⟩ u4).setCell ⟨g, 5, none⟩ u5).heap[g]? = some (.cells #[u0, u1, u2, u3, u4, u5] 45) :=
  heap_setCell_same (heap_setCell_same (heap_setCell_same (heap_setCell_same (heap_setCell_same (heap_setCell_same h u0) u1) u2) u3) u4) u5
theorem tx_chg {F : Nat → Prop} {w0 w : World} {g : Nat} (h : Chg F w0 w) (hg : F g ∨ w0.heap.size ≤ g) (u0 u1 u2 u3 u4 u5 : Value) :
    Chg F w0 ((((((w.setCell ⟨g, 0, none⟩ u0).setCell ⟨g, 1, none⟩ u1).setCell ⟨g, 2, none⟩ u2).setCell ⟨g, 3, none⟩ u3).setCell ⟨g, 4, none⟩ u4).setCell ⟨g, 5, none⟩ u5) :=
  (((((h.setCell hg u0).setCell hg u1).setCell hg u2).setCell hg u3).setCell hg u4).setCell hg u5
set_option maxRecDepth 100000 in
set_option maxHeartbeats 2000000 in
theorem commit_nil (w : World) : Calls Try.prog 14 #[.pointer none] w fun e w' => ∃ ev, e = .returned (.tuple #[zTx, ev]) ∧ IsErr w.heap.size w' ev sCommit 1 ∧ Chg (fun _ => False) w w' := by
  go_enter Try.func14, Try.ntmps14
  go_wp2_with fail
  refine (open_nil _).mono ?_
  rintro e w1 ⟨rfl, rfl⟩
  go_wp2_with (go_at_call 25; refine (fault_err _ _ _).mono ?_; rintro e w2 ⟨ev, rfl, he, hc⟩; have ob := hc.obj (heap_alloc_new w _) (fun h => h); obtain ⟨t0, t1, t2, t3, t4, t5⟩ := tx_cells ob; have fr := free_row ob)
  obtain ⟨W, hW⟩ : ∃ W : World, W = ((((((w2.setCell ⟨w.heap.size, 0, none⟩ (.int .u64 0)).setCell ⟨w.heap.size, 1, none⟩ (.int .i64 0)).setCell ⟨w.heap.size, 2, none⟩ (.int .i64 0)).setCell ⟨w.heap.size, 3, none⟩ (.int .i64 0)).setCell ⟨w.heap.size, 4, none⟩ (.int .i64 0)).setCell ⟨w.heap.size, 5, none⟩ (.slice none 0 0)) := ⟨_, rfl⟩
  have o2 := tx_set ob (.int .u64 0) (.int .i64 0) (.int .i64 0) (.int .i64 0) (.int .i64 0) (.slice none 0 0)
  have ch := tx_chg (((Chg.refl (fun _ => False) w).alloc _).trans hc (fun _ h => h.elim)) (.inr (Nat.le_refl _)) (.int .u64 0) (.int .i64 0) (.int .i64 0) (.int .i64 0) (.int .i64 0) (.slice none 0 0)
  have ch2 := tx_chg (Chg.refl (fun q => q = w.heap.size) w2) (.inl rfl) (.int .u64 0) (.int .i64 0) (.int .i64 0) (.int .i64 0) (.int .i64 0) (.slice none 0 0)
  rw [← hW] at o2 ch ch2 ⊢
  clear t0 t1 t2 t3 t4 t5 fr ob hW
  obtain ⟨t0, t1, t2, t3, t4, t5⟩ := tx_cells o2
  refine bodyPost_ret (v := .tuple #[zTx, ev]) (by simp [results, Try.results14, go_sem, t0, t1, t2, t3, t4, t5, zTx]) rfl ⟨ev, rfl, he.mono (by simp) ch2 ?_, ch⟩
  rintro k rfl; simp
theorem commit_fin {B : Nat} {S : Ses} {w w2 : World} {ev : Value} (h : S.Lies B w) (hbad : S.com = true ∨ S.rows = []) (hc : Chg (fun _ => False) w w2) (he : IsErr w.heap.size w2 ev sCommit 201) : CommitP B S w (.returned (.tuple #[zTx, ev])) w2 :=
  ⟨201, S.pure, zTx, ev, rfl, ⟨S, he, h.same hc, rfl, rfl, hc.mono (fun _ h => h.elim), fun _ hq => .inl hq⟩, fun _ => ⟨rfl, rfl, rfl⟩, fun h1 h2 => hbad.elim (fun h => by rw [h1] at h; cases h) (fun h => absurd h h2), fun h1 h2 => hbad.elim (fun h => by rw [h1] at h; cases h) (fun h => absurd h h2)⟩
set_option maxRecDepth 100000 in
set_option maxHeartbeats 2000000 in
theorem commit_bad {B : Nat} {S : Ses} (w : World) (h : S.Lies B w) (hbad : S.com = true ∨ S.rows = []) :
    Calls Try.prog 14 #[.pointer (some ⟨S.p, 0, none⟩)] w fun e w' => CommitP B S w e w' := by
  have hh : Ses.Lies B (w.alloc (.cells #[.int .u64 0, .int .i64 0, .int .i64 0, .int .i64 0, .int .i64 0, .slice none 0 0] 45)) S := h.same ((Chg.refl _ w).alloc _)
  have HH := Lib.hid h
  have c6 := hh.c6
  have c5 := hh.c5
  have hn := fun ty => len_map (P := Try.prog) Try.underlying75 hh.log ty
  have hsz : (((S.rows.map Row.entry).toArray.size : Nat) : Int) = (S.rows.length : Int) := by simp
  rw [hsz] at hn
  have HB := Lib.hid hbad
  clear h hh hsz
  cases hcm : S.com with
  | true =>
    clear hbad
    go_enter Try.func14, Try.ntmps14
    go_wp2_with fail
    refine (open_some _ _ _ c6).mono ?_
    rintro e w1 ⟨rfl, rfl⟩
    rw [hcm]
    clear c6 c5 hn hcm
    go_wp2_with (go_at_call 25; refine (fault_err _ _ _).mono ?_; rintro e w2 ⟨ev, rfl, he, hc⟩; have ob := hc.obj (heap_alloc_new w _) (fun h => h); obtain ⟨t0, t1, t2, t3, t4, t5⟩ := tx_cells ob; have fr := free_row ob)
    obtain ⟨W, hW⟩ : ∃ W : World, W = ((((((w2.setCell ⟨w.heap.size, 0, none⟩ (.int .u64 0)).setCell ⟨w.heap.size, 1, none⟩ (.int .i64 0)).setCell ⟨w.heap.size, 2, none⟩ (.int .i64 0)).setCell ⟨w.heap.size, 3, none⟩ (.int .i64 0)).setCell ⟨w.heap.size, 4, none⟩ (.int .i64 0)).setCell ⟨w.heap.size, 5, none⟩ (.slice none 0 0)) := ⟨_, rfl⟩
    have o2 := tx_set ob (.int .u64 0) (.int .i64 0) (.int .i64 0) (.int .i64 0) (.int .i64 0) (.slice none 0 0)
    have ch := tx_chg (((Chg.refl (fun _ => False) w).alloc _).trans hc (fun _ h => h.elim)) (.inr (Nat.le_refl _)) (.int .u64 0) (.int .i64 0) (.int .i64 0) (.int .i64 0) (.int .i64 0) (.slice none 0 0)
    have ch2 := tx_chg (Chg.refl (fun q => q = w.heap.size) w2) (.inl rfl) (.int .u64 0) (.int .i64 0) (.int .i64 0) (.int .i64 0) (.int .i64 0) (.slice none 0 0)
    rw [← hW] at o2 ch ch2 ⊢
    clear t0 t1 t2 t3 t4 t5 fr ob hW
    obtain ⟨t0, t1, t2, t3, t4, t5⟩ := tx_cells o2
    refine bodyPost_ret (v := .tuple #[zTx, ev]) (by simp [results, Try.results14, go_sem, t0, t1, t2, t3, t4, t5, zTx]) rfl (commit_fin HH.out HB.out ch (he.mono (by simp) ch2 ?_))
    rintro k rfl; simp
  | false =>
    have hr : S.rows = [] := hbad.elim (fun h => by rw [hcm] at h; cases h) (fun h => h)
    rw [hr] at hn
    clear hbad
    go_enter Try.func14, Try.ntmps14
    go_wp2_with fail
    refine (open_some _ _ _ c6).mono ?_
    rintro e w1 ⟨rfl, rfl⟩
    rw [hcm]
    clear c6 hcm
    go_wp2_with (go_at_call 25; refine (fault_err _ _ _).mono ?_; rintro e w2 ⟨ev, rfl, he, hc⟩; have ob := hc.obj (heap_alloc_new w _) (fun h => h); obtain ⟨t0, t1, t2, t3, t4, t5⟩ := tx_cells ob; have fr := free_row ob)
    obtain ⟨W, hW⟩ : ∃ W : World, W = ((((((w2.setCell ⟨w.heap.size, 0, none⟩ (.int .u64 0)).setCell ⟨w.heap.size, 1, none⟩ (.int .i64 0)).setCell ⟨w.heap.size, 2, none⟩ (.int .i64 0)).setCell ⟨w.heap.size, 3, none⟩ (.int .i64 0)).setCell ⟨w.heap.size, 4, none⟩ (.int .i64 0)).setCell ⟨w.heap.size, 5, none⟩ (.slice none 0 0)) := ⟨_, rfl⟩
    have o2 := tx_set ob (.int .u64 0) (.int .i64 0) (.int .i64 0) (.int .i64 0) (.int .i64 0) (.slice none 0 0)
    have ch := tx_chg (((Chg.refl (fun _ => False) w).alloc _).trans hc (fun _ h => h.elim)) (.inr (Nat.le_refl _)) (.int .u64 0) (.int .i64 0) (.int .i64 0) (.int .i64 0) (.int .i64 0) (.slice none 0 0)
    have ch2 := tx_chg (Chg.refl (fun q => q = w.heap.size) w2) (.inl rfl) (.int .u64 0) (.int .i64 0) (.int .i64 0) (.int .i64 0) (.int .i64 0) (.slice none 0 0)
    rw [← hW] at o2 ch ch2 ⊢
    clear t0 t1 t2 t3 t4 t5 fr ob hW
    obtain ⟨t0, t1, t2, t3, t4, t5⟩ := tx_cells o2
    refine bodyPost_ret (v := .tuple #[zTx, ev]) (by simp [results, Try.results14, go_sem, t0, t1, t2, t3, t4, t5, zTx]) rfl (commit_fin HH.out HB.out ch (he.mono (by simp) ch2 ?_))
    rintro k rfl; simp
end Go.Proofs.Ytpdchdbkfflgfaa
