/- The document's Own: a transaction in new memory. -/
import Derived.Test.YtpdchdbkfflgfaaK0
namespace Go.Proofs.Ytpdchdbkfflgfaa
open Go.RowKit

def CItem.list (c : CItem) : List Ent := if c.wr then c.x.now else []
/-- The same items, their entries in memory from H on. -/
def Copy (H : Nat) (w : World) (cs ds : List CItem) : Prop :=
  ds.length = cs.length ∧ ∀ k (h1 : k < cs.length) (h2 : k < ds.length), ds[k].x = cs[k].x ∧ ds[k].wr = cs[k].wr ∧ w.ownsRow H 65 2 ds[k].v cs[k].list.length (flat cs[k].list)
def txO (a b c d e : Int) (v : Value) : Obj := .cells #[.int .u64 a, .int .i64 b, .int .i64 c, .int .i64 d, .int .i64 e, v] 45
theorem list_le {H : Nat} {w : World} {rows : List Tl} {v : Value} {cs : List CItem} (h : Items H w rows v cs) (hf : ∀ x ∈ rows, x.Fine) {k : Nat} (hk : k < cs.length) : cs[k].list.length ≤ 8 := by
  have := h.2.2 _ (List.getElem_mem hk)
  unfold CItem.list
  split
  · exact (hf _ this.1).now.2.1
  · simp
theorem copy_push {H bt n : Nat} {w w4 w5 : World} {cs ds : List CItem} {k : Nat} {itv : Value} {o : Obj} {d : CItem} (hcp : ds.length = k ∧ ∀ j (h1 : j < cs.length) (h2 : j < ds.length), ds[j].x = cs[j].x ∧ ds[j].wr = cs[j].wr ∧ w.ownsRow H 65 2 ds[j].v cs[j].list.length (flat cs[j].list))
    (hown : w.ownsRow H 36 8 itv k (ds.flatMap CItem.cells)) (hk : k < cs.length) (hx : d.x = cs[k].x) (hw : d.wr = cs[k].wr) (c4 : Chg (fun _ => False) w w4) (hd : w4.ownsRow H 65 2 d.v cs[k].list.length (flat cs[k].list))
    (hg : (w4.alloc o).grownBy w5 itv.ownBlock) (hB : bt < H) (hn : n = k + 1) :
    ((ds ++ [d]).length = n ∧ ∀ j (h1 : j < cs.length) (h2 : j < (ds ++ [d]).length), (ds ++ [d])[j].x = cs[j].x ∧ (ds ++ [d])[j].wr = cs[j].wr ∧ w5.ownsRow H 65 2 (ds ++ [d])[j].v cs[j].list.length (flat cs[j].list)) ∧
    Chg (fun q => itv.ownBlock = some q) w w5 ∧ itv.ownBlock ≠ some bt := by
  have hg4 : Chg (fun q => itv.ownBlock = some q) w4 w5 := (((Chg.refl (fun _ => False) w4).alloc o).mono (fun _ h => h.elim)).trans (Chg.of_grown hg (F := fun q => itv.ownBlock = some q) (fun q h => h)) (fun _ h _ => h)
  have c5 : Chg (fun q => itv.ownBlock = some q) w w5 := (c4.mono (fun _ h => h.elim)).trans hg4 (fun _ h _ => h)
  have own4 : w4.ownsRow H 36 8 itv k (ds.flatMap CItem.cells) := c4.owns hown (fun _ _ h => h)
  refine ⟨⟨by simp [hcp.1, hn], fun j h1 h2 => ?_⟩, c5, fun e => by have := (own_lt hown e).1; omega⟩
  by_cases hj : j < ds.length
  · rw [List.getElem_append_left hj]
    have := hcp.2 j h1 hj
    exact ⟨this.1, this.2.1, c5.owns this.2.2 (fun q hq => own_far this.2.2 hown (by decide) q hq)⟩
  · have hjk : j = k := by simp at h2; omega
    subst hjk
    have e : (ds ++ [d])[j] = d := by rw [List.getElem_append_right (by omega)]; simp
    rw [e]
    exact ⟨hx, hw, hg4.owns hd (fun q hq => own_far hd own4 (by decide) q hq)⟩
theorem news_two (w : World) (o : Obj) (l : List Value) (t : TypeId) : ∀ j z, l[j]? = some z → ((w.alloc o).alloc (.cells l.toArray t)).cell? ((⟨w.heap.size + 1, 0, none⟩ : Addr).add j) = some z := by
  have := news_alloc (w.alloc o) l t
  rw [World.size_alloc] at this
  exact this
theorem news_set (w : World) (g : Nat) (v : Value) (l : List Value) (t : TypeId) : ∀ j z, l[j]? = some z → ((w.setCell ⟨g, 3, none⟩ v).alloc (.cells l.toArray t)).cell? ((⟨w.heap.size, 0, none⟩ : Addr).add j) = some z := by
  have hs : (w.setCell ⟨g, 3, none⟩ v).heap.size = w.heap.size := by simp [World.setCell]
  have := news_alloc (w.setCell ⟨g, 3, none⟩ v) l t
  rw [hs] at this
  exact this
theorem own_item {w : World} {B n : Nat} {v : Value} {xs : List Value} (h : w.ownsRow B 65 2 v n xs) {g : Nat} {cs : Array Value} (ht : w.heap[g]? = some (.cells cs 36 (0, 0))) : v.ownBlock ≠ some g := by
  intro hq
  obtain ⟨c, hc⟩ := own_kind h hq
  rw [ht] at hc
  injection hc with hc
  injection hc with _ h2
  revert h2; decide
theorem res24 {tmps : Array Value} {W : World} {g : Nat} {a b c d e f : Value} (h2 : tmps[2]?.getD undef = .pointer (some ⟨g, 0, none⟩)) (h : W.heap[g]? = some (.cells #[a, b, c, d, e, f] 45)) :
    (results Try.f24 tmps).run Try.prog W = .ok (.agg #[a, b, c, d, e, f]) W := by
  obtain ⟨t0, t1, t2, t3, t4, t5⟩ := tx_cells h
  have hr : Try.f24.results = #[.cell 2 45] := rfl
  simp only [results, hr]
  simp [h2, go_sem, t0, t1, t2, t3, t4, t5]
set_option maxRecDepth 100000 in
set_option maxHeartbeats 4000000 in
theorem ownTx {H : Nat} {rows : List Tl} {itv : Value} {cs : List CItem} (a b c d e : Int) (w : World) (hi : Items H w rows itv cs) (hf : ∀ x ∈ rows, x.Fine) (h8 : cs.length ≤ 8) (h1 : 1 ≤ cs.length) :
    Calls Try.prog 24 #[.agg #[.int .u64 a, .int .i64 b, .int .i64 c, .int .i64 d, .int .i64 e, itv]] w fun ed w' =>
      (∃ iv ds, ed = .returned (.agg #[.int .u64 a, .int .i64 b, .int .i64 c, .int .i64 d, .int .i64 e, iv]) ∧ w'.ownsRow w.heap.size 36 8 iv cs.length (ds.flatMap CItem.cells) ∧ Copy w.heap.size w' cs ds) ∧ Chg (fun _ => False) w w' := by
  obtain ⟨gc, rfl, hgl, _, hcell⟩ := items_cells hi.1 (by omega)
  have HC := Lib.hid hcell
  have HI := Lib.hid hi
  have HF := Lib.hid hf
  obtain ⟨W, hW⟩ : ∃ W : World, W = (w.alloc (.cells #[.int .u64 a, .int .i64 b, .int .i64 c, .int .i64 d, .int .i64 e, .slice (some ⟨gc.1, 0, none⟩) cs.length gc.2] 45)).alloc (.cells #[.int .u64 0, .int .i64 0, .int .i64 0, .int .i64 0, .int .i64 0, .slice none 0 0] 45) := ⟨_, rfl⟩
  have cW : Chg (fun _ => False) w W := by rw [hW]; exact ((Chg.refl _ w).alloc _).alloc _
  have oW : W.heap[w.heap.size]? = some (.cells #[.int .u64 a, .int .i64 b, .int .i64 c, .int .i64 d, .int .i64 e, .slice (some ⟨gc.1, 0, none⟩) cs.length gc.2] 45) := by rw [hW]; exact (Below.heap_alloc _ _ _ (by simp)).trans (heap_alloc_new w _)
  have oR : W.heap[w.heap.size + 1]? = some (.cells #[.int .u64 0, .int .i64 0, .int .i64 0, .int .i64 0, .int .i64 0, .slice none 0 0] 45) := by
    rw [hW]
    have := heap_alloc_new (w.alloc (.cells #[.int .u64 a, .int .i64 b, .int .i64 c, .int .i64 d, .int .i64 e, .slice (some ⟨gc.1, 0, none⟩) cs.length gc.2] 45)) (.cells #[.int .u64 0, .int .i64 0, .int .i64 0, .int .i64 0, .int .i64 0, .slice none 0 0] 45)
    rw [World.size_alloc] at this
    exact this
  have sW : W.heap.size = w.heap.size + 2 := by rw [hW]; simp
  have CW := Lib.hid cW
  have OW := Lib.hid oW
  have OR := Lib.hid oR
  have SW := Lib.hid sW
  clear hcell hi hf cW oW oR sW
  go_enter Try.func24, Try.ntmps24
  go_wp2
  rw [← hW]
  clear hW
  go_loopw [3, 4] (fun fv i wr => ∃ (k : Nat) (ds : List CItem), i = .int .i64 k ∧ k ≤ cs.length ∧ Hid (ds.length = k ∧ ∀ j (h1 : j < cs.length) (h2 : j < ds.length), ds[j].x = cs[j].x ∧ ds[j].wr = cs[j].wr ∧ wr.ownsRow W.heap.size 65 2 ds[j].v cs[j].list.length (flat cs[j].list)) ∧
    Hid (wr.ownsRow W.heap.size 36 8 fv k (ds.flatMap CItem.cells)) ∧ Chg (fun _ => False) W wr) (fun _ i _ => cs.length - (intOf i).toNat)
  case atStart => exact ⟨0, [], rfl, by omega, ⟨rfl, fun j _ h => by simp at h⟩, World.ownsRow_nil _ _ _ _, .refl _ _⟩
  case round =>
    obtain ⟨k, ds, rfl, hk, DS, OWN, hch⟩ := hrel
    have t5 : wr.cell? ⟨w.heap.size, 5, none⟩ = some (.slice (some ⟨gc.1, 0, none⟩) cs.length gc.2) := hch.cell (cell_row OW.out rfl) (fun h => h)
    by_cases hlt : k < cs.length
    · have hcw := CW.out.trans hch (fun _ h => h.elim)
      obtain ⟨q0, q1, q2, q3, q4, q5, q6, q7⟩ := HC.out k hlt
      have r0 := hcw.cell q0 (fun h => h)
      have r1 := hcw.cell q1 (fun h => h)
      have r2 := hcw.cell q2 (fun h => h)
      have r3 := hcw.cell q3 (fun h => h)
      have r4 := hcw.cell q4 (fun h => h)
      have r5 := hcw.cell q5 (fun h => h)
      have r6 := hcw.cell q6 (fun h => h)
      have r7 := hcw.cell q7 (fun h => h)
      clear q0 q1 q2 q3 q4 q5 q6 q7
      have hrd : Reads wr cs[k].v cs[k].list := hcw.reads (citem_reads (HI.out.2.2 _ (List.getElem_mem hlt)).2) (fun _ _ h => h)
      have hll := list_le HI.out HF.out hlt
      obtain ⟨ll, hlld⟩ : ∃ ll, ll = cs[k].list := ⟨_, rfl⟩
      rw [← hlld] at hrd hll
      have HLL := Lib.hid hlld
      have HRD := Lib.hid hrd
      have HCH := Lib.hid hch
      obtain ⟨va, vc, hv, hlc, hcm, hr⟩ := hrd
      rw [hv] at r3
      have HV := Lib.hid hv
      obtain ⟨fa, fc, rfl⟩ := own_form OWN.out
      obtain ⟨it0, hit0, hiz0, hiz1, hiz2⟩ := info_parts info36
      obtain ⟨en0, hen0, hez0, hez1, hez2⟩ := info_parts info65
      have hn36 : k + 1 ≤ maxLen := by unfold maxLen; omega
      have hb36 : (k + 1) * 56 ≤ 140737488355328 := by omega
      clear hlld hv hch hcw
      cases va with
      | none =>
        have hl0 : ll = [] := by
          rcases hr with h | ⟨_, _, h, _⟩
          · exact h
          · cases h
        subst hl0
        clear hr
        have co := (Chg.refl (fun _ => False) wr).alloc (itemO cs[k].x.b cs[k].x.ver cs[k].wr (.slice none 0 0) cs[k].x.i0 cs[k].x.i1 cs[k].x.i2 cs[k].x.i3)
        have CO := Lib.hid co
        clear co
        go_wp2_with (first | (at_builtin; refine wpList_append_own _ rfl _ _ 31 rfl W.heap.size 36 it0 zItem 8 56 Try.underlying31 hit0 hiz0 hiz1 hiz2 rfl (by decide) _ _ _ rfl (((CO.out).alloc _).owns OWN.out (fun _ _ h => h)) ⟨wr.heap.size + 1, 0, none⟩ 1 1 (CItem.cells ⟨cs[k].x, cs[k].wr, .slice none 0 0⟩) rfl rfl (news_two wr _ _ 36) (by simp [CItem.cells, Value.oneCell']) hn36 hb36 (by have := HCH.out.size; simp; omega) ?_; intro v5 w5 hown5 hgrow5 _; obtain ⟨va5, vc5, rfl⟩ := own_form hown5; have O5 := Lib.hid hown5; have G5 := Lib.hid hgrow5; clear hown5 hgrow5))
        go_roundw
        case rel =>
          have hd : (wr.alloc (itemO cs[k].x.b cs[k].x.ver cs[k].wr (.slice none 0 0) cs[k].x.i0 cs[k].x.i1 cs[k].x.i2 cs[k].x.i3)).ownsRow W.heap.size 65 2 (.slice none 0 0) cs[k].list.length (flat cs[k].list) := by rw [← HLL.out]; exact World.ownsRow_nil _ _ _ _
          have cp := copy_push (d := ⟨cs[k].x, cs[k].wr, .slice none 0 0⟩) (bt := w.heap.size) DS.out OWN.out hlt rfl rfl CO.out hd G5.out (by have := SW.out; omega) rfl
          refine ⟨k + 1, _, rfl, by omega, cp.1, ?_, HCH.out.trans cp.2.1 (fun q hq hl => by have := (own_lt OWN.out hq).1; omega)⟩
          have e : (ds ++ [(⟨cs[k].x, cs[k].wr, .slice none 0 0⟩ : CItem)]).flatMap CItem.cells = ds.flatMap CItem.cells ++ CItem.cells ⟨cs[k].x, cs[k].wr, .slice none 0 0⟩ := by simp
          show World.ownsRow _ _ _ _ _ _ _
          rw [e]; exact O5.out
        case measure => simp [intOf]; omega
      | some ad =>
        have hn := reads_news hr
        have HN := Lib.hid hn
        clear hn hr
        have oi := heap_alloc_new wr (itemO cs[k].x.b cs[k].x.ver cs[k].wr (.slice (some ad) ll.length vc) cs[k].x.i0 cs[k].x.i1 cs[k].x.i2 cs[k].x.i3)
        have co := (Chg.refl (fun _ => False) wr).alloc (itemO cs[k].x.b cs[k].x.ver cs[k].wr (.slice (some ad) ll.length vc) cs[k].x.i0 cs[k].x.i1 cs[k].x.i2 cs[k].x.i3)
        have CO := Lib.hid co
        have OI := Lib.hid oi
        have hl32 : (0 + ll.length) * 32 ≤ 140737488355328 := by omega
        have hl63 : 0 + ll.length ≤ maxLen := by unfold maxLen; omega
        clear co oi
        go_wp2_with (first
          | (clear hl32; at_builtin; refine wpList_append_own _ rfl _ _ 31 rfl W.heap.size 36 it0 zItem 8 56 Try.underlying31 hit0 hiz0 hiz1 hiz2 rfl (by decide) _ _ _ rfl ((C7.out.alloc _).owns OWN.out (fun _ _ h => h)) ⟨w1.heap.size, 0, none⟩ 1 1 (CItem.cells ⟨cs[k].x, cs[k].wr, .slice na ll.length nc⟩) rfl rfl (news_set w1 _ _ _ 36) (by simp [CItem.cells, Value.oneCell']) hn36 hb36 (by have := HCH.out.size; have := C6.out.size; simp [World.setCell]; omega) ?_; intro v5 w5 hown5 hgrow5 _; obtain ⟨va5, vc5, rfl⟩ := own_form hown5; have O5 := Lib.hid hown5; have G5 := Lib.hid hgrow5; clear hown5 hgrow5)
          | (at_builtin; refine wpList_append_own _ rfl _ _ 33 rfl W.heap.size 65 en0 zEnt 2 32 Try.underlying33 hen0 hez0 hez1 hez2 rfl (by decide) _ _ _ rfl (World.ownsRow_nil _ _ _ _) ad ll.length vc (flat ll) rfl (flat_length ll) (fun j u h => cell_alloc (HN.out j u h) _) (flat_one ll) hl63 hl32 (by have := HCH.out.size; simp; omega) ?_; intro v1 w1 hown1 hgrow1 _; simp only [Nat.zero_add, List.nil_append] at hown1; obtain ⟨na, nc, rfl⟩ := own_form hown1; have N1 := Lib.hid hown1; have hc6 := CO.out.trans (Chg.of_grown hgrow1 (F := fun _ => False) (fun q h => by cases h)) (fun _ h => h.elim); have C6 := Lib.hid hc6; have I1 := Lib.hid ((Chg.of_grown hgrow1 (F := fun _ => False) (fun q h => by cases h)).obj OI.out (fun h => h)); have C7 := Lib.hid (hc6.setCell (p := ⟨wr.heap.size, 3, none⟩) (.inr (Nat.le_refl _)) (.slice na ll.length nc)); obtain ⟨y0, y1, y2, y3, y4, y5, y6, y7⟩ := item_cells I1.out; have fr := free_row I1.out 3; clear hown1 hgrow1 hc6))
        go_roundw
        case rel =>
          have hd : (w1.setCell ⟨wr.heap.size, 3, none⟩ (.slice na ll.length nc)).ownsRow W.heap.size 65 2 (.slice na ll.length nc) cs[k].list.length (flat cs[k].list) := by
            have := ownsRow_setCell_other N1.out (a := ⟨wr.heap.size, 3, none⟩) (own_item N1.out I1.out) (.slice na ll.length nc)
            rw [← HLL.out]; exact this
          have cp := copy_push (d := ⟨cs[k].x, cs[k].wr, .slice na ll.length nc⟩) (bt := w.heap.size) DS.out OWN.out hlt rfl rfl C7.out hd G5.out (by have := SW.out; omega) rfl
          refine ⟨k + 1, _, rfl, by omega, cp.1, ?_, HCH.out.trans cp.2.1 (fun q hq hl => by have := (own_lt OWN.out hq).1; omega)⟩
          have e : (ds ++ [(⟨cs[k].x, cs[k].wr, .slice na ll.length nc⟩ : CItem)]).flatMap CItem.cells = ds.flatMap CItem.cells ++ CItem.cells ⟨cs[k].x, cs[k].wr, .slice na ll.length nc⟩ := by simp
          show World.ownsRow _ _ _ _ _ _ _
          rw [e]; exact O5.out
        case measure => simp [intOf]; omega
    · have hke : k = cs.length := by omega
      subst hke
      obtain ⟨fa, fc, rfl⟩ := own_form OWN.out
      have ob := hch.obj OW.out (fun h => h)
      have orr := hch.obj OR.out (fun h => h)
      have fb := free_row ob
      have fr := free_row orr
      obtain ⟨x0, x1, x2, x3, x4, x5⟩ := tx_cells ob
      obtain ⟨y0, y1, y2, y3, y4, y5⟩ := tx_cells orr
      have OB := Lib.hid ob
      have ORR := Lib.hid orr
      have HCH := Lib.hid hch
      have hne : w.heap.size + 1 ≠ w.heap.size := by omega
      clear ob orr hch
      go_wp2
      have orr1 : (wr.setCell ⟨w.heap.size, 5, none⟩ (.slice fa cs.length fc)).heap[w.heap.size + 1]? = _ := (Below.heap_setCell _ _ _ _ (fun e => by have e : w.heap.size + 1 = w.heap.size := e; omega)).trans ORR.out
      have o9 := tx_set orr1 (.int .u64 a) (.int .i64 b) (.int .i64 c) (.int .i64 d) (.int .i64 e) (.slice fa cs.length fc)
      have ch9 := tx_chg ((Chg.refl (fun q => q = w.heap.size ∨ q = w.heap.size + 1) wr).setCell (p := ⟨w.heap.size, 5, none⟩) (.inl (.inl rfl)) (.slice fa cs.length fc)) (g := w.heap.size + 1) (.inl (.inr rfl)) (.int .u64 a) (.int .i64 b) (.int .i64 c) (.int .i64 d) (.int .i64 e) (.slice fa cs.length fc)
      obtain ⟨w9, hw9⟩ : ∃ W : World, W = (((((((wr.setCell ⟨w.heap.size, 5, none⟩ (.slice fa cs.length fc)).setCell ⟨w.heap.size + 1, 0, none⟩ (.int .u64 a)).setCell ⟨w.heap.size + 1, 1, none⟩ (.int .i64 b)).setCell ⟨w.heap.size + 1, 2, none⟩ (.int .i64 c)).setCell ⟨w.heap.size + 1, 3, none⟩ (.int .i64 d)).setCell ⟨w.heap.size + 1, 4, none⟩ (.int .i64 e)).setCell ⟨w.heap.size + 1, 5, none⟩ (.slice fa cs.length fc)) := ⟨_, rfl⟩
      rw [← hw9] at o9 ch9 ⊢
      clear hw9 orr1
      have hs := SW.out
      have own9 : ∀ {v : Value} {e n : Nat} {size : Nat} {xs : List Value}, wr.ownsRow W.heap.size e size v n xs → w9.ownsRow w.heap.size e size v n xs := fun ho => own_le (ch9.owns ho (fun q hq e => by have := (own_lt ho hq).1; rcases e with e | e <;> omega)) (by omega)
      refine bodyPost_ret (v := .agg #[.int .u64 a, .int .i64 b, .int .i64 c, .int .i64 d, .int .i64 e, .slice fa cs.length fc]) ?_ rfl ⟨⟨_, ds, rfl, own9 OWN.out, DS.out.1, fun j h1 h2 => ?_⟩, ?_⟩
      · exact res24 rfl o9
      · have := DS.out.2 j h1 h2
        exact ⟨this.1, this.2.1, own9 this.2.2⟩
      · exact (CW.out.trans HCH.out (fun _ h => h.elim)).trans ch9 (fun q h hl => by rcases h with h | h <;> omega)
end Go.Proofs.Ytpdchdbkfflgfaa
