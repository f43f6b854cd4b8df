/- Commit: laws for its loop. -/
import Derived.Test.YtpdchdbkfflgfaaT0
namespace Go.Proofs.Ytpdchdbkfflgfaa
open Go.RowKit

def CInv (S : Ses) (H bt : Nat) (bs : List Int) (W wr : World) (k : Nat) : Prop :=
  ∃ (cs : List CItem) (itv : Value), cs.length = k ∧ cs.map (·.x.b) = bs.take k ∧ (∀ c ∈ cs, c.x ∈ S.rows.map (·.d) ∧ c.Ok H wr) ∧ wr.ownsRow H 36 8 itv k (cs.flatMap CItem.cells) ∧
    wr.heap[bt]? = some (.cells #[.int .u64 S.id, .int .i64 S.client, .int .i64 S.m0, .int .i64 S.m1, .int .i64 S.m2, itv] 45) ∧ Chg (fun q => q = bt) W wr
theorem sortInts_len (l : List Int) : (sortInts l).length = l.length := by simp [sortInts]
theorem sortInts_mem (l : List Int) (b : Int) : b ∈ sortInts l ↔ b ∈ l := by simp [sortInts]
theorem ints_row {w : World} {B n : Nat} {v : Value} {bs : List Int} (h : w.ownsRow B 3 1 v n (bs.map encZ)) (hn : 0 < n) (hl : bs.length = n) : ∃ gc : Nat × Nat, v = .slice (some ⟨gc.1, 0, none⟩) n gc.2 ∧ B ≤ gc.1 ∧ ∀ k (hk : k < bs.length), w.cell? ⟨gc.1, k, none⟩ = some (.int .i64 bs[k]) := by
  rcases h.2 with ⟨_, h0⟩ | ⟨g, cap, cur, rfl, hb, hg, h1, h2, h3, h4⟩
  · omega
  · refine ⟨(g, cap), rfl, hb, fun k hk => cell_row hg ?_⟩
    have : (bs.map encZ)[k]? = some (.int .i64 bs[k]) := by simp [hk]
    rw [← h4, List.getElem?_take] at this
    split at this
    · simpa using this
    · cases this
theorem Ses.Lies.all_lt {B : Nat} {S : Ses} {w : World} (h : S.Lies B w) : ∀ k ∈ S.blocks, k < w.heap.size := by
  intro k hk
  simp only [Ses.blocks, List.mem_cons] at hk
  rcases hk with rfl | rfl | hk
  · exact lt_of_block h.head
  · exact lt_of_block h.log
  · obtain ⟨y, hy, hk⟩ := List.mem_flatMap.1 hk
    exact h.blocks_lt y hy k hk
theorem row_cells {w : World} {x : Row} (h : w.heap[x.t]? = some (.cells x.cells 83)) :
    (w.cell? ⟨x.t, 0, none⟩ = some (.int .i64 x.d.b) ∧ w.cell? ⟨x.t, 1, none⟩ = some (.int .u32 x.d.ver) ∧ w.cell? ⟨x.t, 2, none⟩ = some (.bool false) ∧ w.cell? ⟨x.t, 3, none⟩ = some (.slice none 0 0)) ∧
    (w.cell? ⟨x.t, 4, none⟩ = some (.int .u32 x.d.i0) ∧ w.cell? ⟨x.t, 5, none⟩ = some (.int .u32 x.d.i1) ∧ w.cell? ⟨x.t, 6, none⟩ = some (.int .u32 x.d.i2) ∧ w.cell? ⟨x.t, 7, none⟩ = some (.int .u32 x.d.i3)) ∧
    w.cell? ⟨x.t, 8, none⟩ = some x.wv ∧ w.cell? ⟨x.t, 9, none⟩ = some x.nv :=
  ⟨⟨cell_row h rfl, cell_row h rfl, cell_row h rfl, cell_row h rfl⟩, ⟨cell_row h rfl, cell_row h rfl, cell_row h rfl, cell_row h rfl⟩, cell_row h rfl, cell_row h rfl⟩
theorem own_kind {w : World} {B e n : Nat} {size : Nat} {v : Value} {xs : List Value} (h : w.ownsRow B e size v n xs) {g : Nat} (hg : v.ownBlock = some g) : ∃ c, w.heap[g]? = some (.cells c e (0, 0)) := by
  rcases h.2 with ⟨rfl, _⟩ | ⟨g', cap, cur, rfl, _, hgg, _⟩
  · cases hg
  · obtain rfl : g' = g := by simpa [Value.ownBlock] using hg
    exact ⟨cur, hgg⟩
theorem own_far {w : World} {B B' e e' n n' : Nat} {size size' : Nat} {v v' : Value} {xs xs' : List Value} (h : w.ownsRow B e size v n xs) (h' : w.ownsRow B' e' size' v' n' xs') (he : e ≠ e') (q : Nat) (hq : v.ownBlock = some q) : v'.ownBlock ≠ some q := by
  intro hq'
  obtain ⟨c, hc⟩ := own_kind h hq
  obtain ⟨c', hc'⟩ := own_kind h' hq'
  rw [hc] at hc'
  injection hc' with hc'
  injection hc' with _ h2
  exact he h2
theorem own_tx {w : World} {B e n : Nat} {size : Nat} {v : Value} {xs : List Value} (h : w.ownsRow B e size v n xs) {g : Nat} {cs : Array Value} (ht : w.heap[g]? = some (.cells cs 45 (0, 0))) (he : e ≠ 45) : v.ownBlock ≠ some g := by
  intro hq
  obtain ⟨c, hc⟩ := own_kind h hq
  rw [ht] at hc
  injection hc with hc
  injection hc with _ h2
  exact he h2.symm
theorem cinv_step {S : Ses} {bt : Nat} {bs : List Int} {W wr w4 w5 : World} {k : Nat} {cs : List CItem} {itv v5 : Value} {o : Obj} {c : CItem}
    (hcl : cs.length = k) (hcb : cs.map (·.x.b) = bs.take k) (hco : ∀ c ∈ cs, c.x ∈ S.rows.map (·.d) ∧ c.Ok W.heap.size wr) (hown : wr.ownsRow W.heap.size 36 8 itv k (cs.flatMap CItem.cells))
    (htx : wr.heap[bt]? = some (.cells #[.int .u64 S.id, .int .i64 S.client, .int .i64 S.m0, .int .i64 S.m1, .int .i64 S.m2, itv] 45)) (hch : Chg (fun q => q = bt) W wr)
    (hk : k < bs.length) (c4 : Chg (fun _ => False) wr w4) (hcx : c.x ∈ S.rows.map (·.d)) (hcbk : c.x.b = bs[k]) (hok : c.Ok W.heap.size w4)
    (h5 : w5.ownsRow W.heap.size 36 8 v5 (k + 1) (cs.flatMap CItem.cells ++ c.cells)) (hg : (w4.alloc o).grownBy w5 itv.ownBlock) :
    CInv S W.heap.size bt bs W (w5.setCell ⟨bt, 5, none⟩ v5) (k + 1) := by
  have hg4 : Chg (fun q => itv.ownBlock = some q) w4 w5 := (((Chg.refl (fun _ => False) w4).alloc o).mono (fun _ h => h.elim)).trans (Chg.of_grown hg (F := fun q => itv.ownBlock = some q) (fun q h => h)) (fun _ h _ => h)
  have c5 : Chg (fun q => itv.ownBlock = some q) wr w5 := (c4.mono (fun _ h => h.elim)).trans hg4 (fun _ h _ => h)
  have htx5 : w5.heap[bt]? = some (.cells #[.int .u64 S.id, .int .i64 S.client, .int .i64 S.m0, .int .i64 S.m1, .int .i64 S.m2, itv] 45) := c5.obj htx (own_tx hown htx (by decide))
  have own4 : w4.ownsRow W.heap.size 36 8 itv k (cs.flatMap CItem.cells) := c4.owns hown (fun _ _ h => h)
  have hokk : ∀ c' : CItem, c'.Ok W.heap.size w5 → c'.Ok W.heap.size (w5.setCell ⟨bt, 5, none⟩ v5) := fun c' h => ⟨h.1, h.2.1, fun hw => ownsRow_setCell_other (h.2.2 hw) (own_tx (h.2.2 hw) htx5 (by decide)) _⟩
  refine ⟨cs ++ [c], v5, by simp [hcl], ?_, ?_, ?_, heap_setCell_same htx5 v5, ?_⟩
  · rw [List.map_append, hcb, List.take_succ_eq_append_getElem hk]
    simp [hcbk]
  · intro c' hc'
    rcases List.mem_append.1 hc' with h | h
    · have := hco c' h
      refine ⟨this.1, hokk c' ⟨this.2.1, this.2.2.1, fun hw => c5.owns (this.2.2.2 hw) (fun q hq => own_far (this.2.2.2 hw) hown (by decide) q hq)⟩⟩
    · obtain rfl : c' = c := by simpa using h
      exact ⟨hcx, hokk c' ⟨hok.1, hok.2.1, fun hw => hg4.owns (hok.2.2 hw) (fun q hq => own_far (hok.2.2 hw) own4 (by decide) q hq)⟩⟩
  · have e : (cs ++ [c]).flatMap CItem.cells = cs.flatMap CItem.cells ++ c.cells := by simp
    rw [e]
    exact ownsRow_setCell_other h5 (own_tx h5 htx5 (by decide)) _
  · refine (hch.trans (c5.mono (G := fun q => q = bt ∨ itv.ownBlock = some q) (fun _ h _ => .inr h)) (fun q h hl => ?_)).setCell (.inl rfl) _
    rcases h with h | h
    · exact h
    · have := (own_lt hown h).1; omega
theorem item_wrote {wr w4 wB : World} {H bt n : Nat} {b ver : Int} {wf : Bool} {u v : Value} {i0 i1 i2 i3 : Int} {tx : Array Value} {xs : List Value} (c4 : Chg (fun _ => False) wr w4) (cb : Chg (fun _ => False) w4 wB)
    (it : w4.heap[wr.heap.size]? = some (itemO b ver wf u i0 i1 i2 i3)) (tx4 : w4.heap[bt]? = some (.cells tx 45 (0, 0))) (hb : bt < wr.heap.size) (ho : wB.ownsRow w4.heap.size 65 2 v n xs) (hH : H ≤ wr.heap.size) :
    Chg (fun _ => False) wr ((wB.setCell ⟨wr.heap.size, 2, none⟩ (.bool true)).setCell ⟨wr.heap.size, 3, none⟩ v) ∧
    ((wB.setCell ⟨wr.heap.size, 2, none⟩ (.bool true)).setCell ⟨wr.heap.size, 3, none⟩ v).heap[bt]? = some (.cells tx 45 (0, 0)) ∧
    ((wB.setCell ⟨wr.heap.size, 2, none⟩ (.bool true)).setCell ⟨wr.heap.size, 3, none⟩ v).ownsRow H 65 2 v n xs := by
  have hl := lt_of_block it
  have c5 := c4.trans cb (fun _ h => h.elim)
  have hne : v.ownBlock ≠ some wr.heap.size := fun e => by have := (own_lt ho e).1; omega
  refine ⟨(c5.setCell (.inr (Nat.le_refl _)) _).setCell (.inr (Nat.le_refl _)) _, ?_, ?_⟩
  · exact (Below.heap_setCell _ _ _ _ (fun e => by have e : bt = wr.heap.size := e; omega)).trans ((Below.heap_setCell _ _ _ _ (fun e => by have e : bt = wr.heap.size := e; omega)).trans (cb.obj tx4 (fun h => h)))
  · exact own_le (ownsRow_setCell_other (ownsRow_setCell_other ho hne _) hne _) (by have := c4.size; omega)
theorem news_alloc (w : World) (l : List Value) (t : TypeId) : ∀ j u, l[j]? = some u → (w.alloc (.cells l.toArray t)).cell? ((⟨w.heap.size, 0, none⟩ : Addr).add j) = some u := by
  intro j u h
  rw [add_lit]
  exact cell_row (heap_alloc_new w _) (by simpa using h)
theorem commit_done {B : Nat} {S : Ses} {w wA W w3 wr : World} {bs : List Int} {cs : List CItem} {itv : Value} (h : S.Lies B w) (hcm : S.com = false) (hne : S.rows ≠ []) (hA : Chg (fun q => q = S.p) w wA) (hsA : wA.heap.size = w.heap.size + 1)
    (hW : Chg (fun _ => False) wA W) (h3 : Chg (fun _ => False) W w3) (hL3 : S.close.Lies B w3) (hbs : bs = sortInts (S.rows.map (·.d.b))) (hcl : cs.length = S.rows.length) (hcb : cs.map (·.x.b) = bs.take S.rows.length)
    (hco : ∀ c ∈ cs, c.x ∈ S.rows.map (·.d) ∧ c.Ok w3.heap.size wr) (hown : wr.ownsRow w3.heap.size 36 8 itv S.rows.length (cs.flatMap CItem.cells)) (hch : Chg (fun q => q = wA.heap.size) w3 wr) (u0 u1 u2 u3 u4 u5 : Value) :
    CommitP B S w (.returned (.tuple #[.agg #[.int .u64 S.id, .int .i64 S.client, .int .i64 S.m0, .int .i64 S.m1, .int .i64 S.m2, itv], .nilIface]))
      ((((((wr.setCell ⟨w.heap.size, 0, none⟩ u0).setCell ⟨w.heap.size, 1, none⟩ u1).setCell ⟨w.heap.size, 2, none⟩ u2).setCell ⟨w.heap.size, 3, none⟩ u3).setCell ⟨w.heap.size, 4, none⟩ u4).setCell ⟨w.heap.size, 5, none⟩ u5) := by
  have ht := tx_chg (Chg.refl (fun q => q = w.heap.size) wr) (.inl rfl) u0 u1 u2 u3 u4 u5
  generalize ((((((wr.setCell ⟨w.heap.size, 0, none⟩ u0).setCell ⟨w.heap.size, 1, none⟩ u1).setCell ⟨w.heap.size, 2, none⟩ u2).setCell ⟨w.heap.size, 3, none⟩ u3).setCell ⟨w.heap.size, 4, none⟩ u4).setCell ⟨w.heap.size, 5, none⟩ u5) = w9 at ht ⊢
  have hlt := h.all_lt
  have s1 := hW.size
  have s2 := h3.size
  have sA3 : Chg (fun q => q = S.p) w w3 := (hA.trans hW (fun _ h => h.elim)).trans h3 (fun _ h => h.elim)
  have c9 : Chg (fun q => q = w.heap.size ∨ q = wA.heap.size) w3 w9 := (hch.mono (fun _ h _ => .inr h)).trans ht (fun q h _ => .inl h)
  have hall : Chg (· ∈ S.blocks) w w9 := (sA3.mono (fun q e _ => by rw [e]; simp [Ses.blocks])).trans c9 (fun q e hq => by rcases e with e | e <;> omega)
  have hbl : S.close.blocks = S.blocks := rfl
  have hl9 : S.close.Lies B w9 := hL3.chg c9 (fun q hq e => by rw [hbl] at hq; have := hlt q hq; rcases e with e | e <;> omega)
  have own9 : ∀ {v : Value} {e n : Nat} {size : Nat} {xs : List Value}, wr.ownsRow w3.heap.size e size v n xs → w9.ownsRow w.heap.size e size v n xs := fun ho => own_le (ht.owns ho (fun q hq e => by have := (own_lt ho hq).1; omega)) (by omega)
  refine ⟨0, S.pure.close, _, .nilIface, rfl, ⟨S.close, isErr_nil _ _ _, hl9, rfl, rfl, hall, fun q hq => .inl hq⟩, fun hb => ?_, fun _ _ => ⟨rfl, rfl, itv, cs, rfl, ?_, ?_, ?_⟩, fun _ _ => ⟨S.close, hl9, rfl, rfl, rfl, hall⟩⟩
  · rcases hb with hb | hb
    · rw [hcm] at hb; cases hb
    · exact absurd hb hne
  · rw [hcl]; exact own9 hown
  · rw [hcb, List.take_of_length_le (by rw [hbs, sortInts_len]; simp), hbs]
    simp [Ses.pure, Function.comp_def]
  · intro c hc
    have := hco c hc
    exact ⟨this.1, this.2.1, this.2.2.1, fun hw => own9 (this.2.2.2 hw)⟩
theorem res14 {tmps : Array Value} {W : World} {g : Nat} {a b c d e f ev : Value} (h2 : tmps[2]?.getD undef = .pointer (some ⟨g, 0, none⟩)) (h3 : tmps[3]?.getD undef = ev) (h : W.heap[g]? = some (.cells #[a, b, c, d, e, f] 45)) :
    (results Try.f14 tmps).run Try.prog W = .ok (.tuple #[.agg #[a, b, c, d, e, f], ev]) W := by
  obtain ⟨t0, t1, t2, t3, t4, t5⟩ := tx_cells h
  have hr : Try.f14.results = #[.cell 2 45, .tmp 3] := rfl
  simp only [results, hr]
  simp [h2, h3, go_sem, t0, t1, t2, t3, t4, t5]
theorem news_wrote (w : World) (g : Nat) (u v : Value) (l : List Value) (t : TypeId) (H : Nat) (hH : H ≤ w.heap.size) :
    (∀ j z, l[j]? = some z → (((w.setCell ⟨g, 2, none⟩ u).setCell ⟨g, 3, none⟩ v).alloc (.cells l.toArray t)).cell? ((⟨w.heap.size, 0, none⟩ : Addr).add j) = some z) ∧
    H ≤ (((w.setCell ⟨g, 2, none⟩ u).setCell ⟨g, 3, none⟩ v).alloc (.cells l.toArray t)).heap.size := by
  have hs : ((w.setCell ⟨g, 2, none⟩ u).setCell ⟨g, 3, none⟩ v).heap.size = w.heap.size := by simp [World.setCell]
  have := news_alloc ((w.setCell ⟨g, 2, none⟩ u).setCell ⟨g, 3, none⟩ v) l t
  rw [hs] at this
  exact ⟨this, by rw [World.size_alloc, hs]; omega⟩
end Go.Proofs.Ytpdchdbkfflgfaa
