/- SessionRight: laws for its walk. -/
import Derived.Test.YtpdchdbkfflgfaaX2
import Derived.Test.YtpdchdbkfflgfaaY2
import Derived.ChangeKeysEq
namespace Go.Proofs.Ytpdchdbkfflgfaa
open Go.RowKit

theorem Ses.Lies.notT {B : Nat} {S : Ses} {w : World} (h : S.Lies B w) {g t : Nat} {c : Array Value} {f : Nat × Nat} (hg : w.heap[g]? = some (.cells c t f)) (h1 : t ≠ 77) (h2 : t ≠ 83) (h3 : t ≠ 65) : g ∉ S.blocks := by
  have ty : ∀ {c' : Array Value} {t' : TypeId} {f' : Nat × Nat}, w.heap[g]? = some (.cells c' t' f') → t = t' := by
    intro c' t' f' h'
    rw [hg] at h'
    injection h' with h'
    injection h' with _ h2
  intro hk
  simp only [Ses.blocks, List.mem_cons] at hk
  rcases hk with rfl | rfl | hk
  · exact h1 (ty h.head)
  · have := h.log; rw [hg] at this; cases this
  · obtain ⟨y, hy, hk⟩ := List.mem_flatMap.1 hk
    have hr := h.rows y hy
    simp only [Row.blocks, List.mem_cons, List.mem_append, Option.mem_toList] at hk
    rcases hk with rfl | hk | hk
    · exact h2 (ty hr.tl)
    · obtain ⟨c', hc'⟩ := own_kind hr.was hk
      exact h3 (ty hc')
    · obtain ⟨c', hc'⟩ := own_kind hr.now hk
      exact h3 (ty hc')
/-- Items that were learnt first, as data: with the value that stands in the Data cell. -/
def firstCells (l : List (It × Value)) : List Value := l.flatMap fun p => p.1.vals p.2
def keyT (x : Tl) : Int × Int × Int × Int × Int × Int := (x.b, x.ver, x.i0, x.i1, x.i2, x.i3)
def keyI (x : It × Value) : Int × Int × Int × Int × Int × Int := (x.1.b, x.1.ver, x.1.i0, x.1.i1, x.1.i2, x.1.i3)
theorem keys_turn (P : Pure) (b : Int) (f : List Ent → List Ent) : (P.turn b f).rows.map keyT = P.rows.map keyT := by
  unfold Pure.turn
  simp only [List.map_map]
  apply List.map_congr_left
  intro x _
  show keyT (if x.b = b then { x with now := f x.now } else x) = keyT x
  split <;> rfl
structure Same5 (P P' : Pure) : Prop where
  id : P'.id = P.id
  client : P'.client = P.client
  m0 : P'.m0 = P.m0
  m1 : P'.m1 = P.m1
  m2 : P'.m2 = P.m2
  com : P'.com = P.com
theorem same_put (P : Pure) (k v : ByteArray) : Same5 P (P.put k v) ∧ (P.put k v).rows.map keyT = P.rows.map keyT := by
  unfold Pure.put
  split
  · exact ⟨⟨rfl, rfl, rfl, rfl, rfl, rfl⟩, keys_turn _ _ _⟩
  · exact ⟨⟨rfl, rfl, rfl, rfl, rfl, rfl⟩, rfl⟩
theorem same_del (P : Pure) (k : ByteArray) : Same5 P (P.del k) ∧ (P.del k).rows.map keyT = P.rows.map keyT := by
  unfold Pure.del
  split
  · exact ⟨⟨rfl, rfl, rfl, rfl, rfl, rfl⟩, keys_turn _ _ _⟩
  · exact ⟨⟨rfl, rfl, rfl, rfl, rfl, rfl⟩, rfl⟩
def pR0 : Pure := ⟨5, 1, 1, 2, 3, false, []⟩
/-- What stands while the script is gone through. -/
def RInv (w0 w : World) (p : Nat) (fv : Value) (n : Nat) : Prop :=
  ∃ (S : Ses) (l : List (It × Value)), S.Lies w0.heap.size w ∧ S.p = p ∧ Same5 pR0 S.pure ∧ S.pure.rows.map keyT = l.map keyI ∧ l.length = n ∧ w.ownsRow w0.heap.size 36 8 fv n (firstCells l) ∧ Chg (fun _ => False) w0 w
theorem rinv_same {w0 w w' : World} {p n : Nat} {fv : Value} (h : RInv w0 w p fv n) (hc : Chg (fun _ => False) w w') : RInv w0 w' p fv n := by
  obtain ⟨S, l, h1, h2, h3, h4, h5, h6, h7⟩ := h
  exact ⟨S, l, h1.same hc, h2, h3, h4, h5, hc.owns h6 (fun _ _ h => h), h7.trans hc (fun _ h => h.elim)⟩
/-- .. behind a call on the session that leaves its keys alone. -/
theorem rinv_ran {w0 w w' : World} {fv ev : Value} {S : Ses} {l : List (It × Value)} {of : ByteArray} {n : Int} {P' : Pure} (h1 : S.Lies w0.heap.size w) (h3 : Same5 pR0 S.pure) (h4 : S.pure.rows.map keyT = l.map keyI)
    (h6 : w.ownsRow w0.heap.size 36 8 fv l.length (firstCells l)) (h7 : Chg (fun _ => False) w0 w) (hr : Ran w0.heap.size w S of n P' w' ev) (hs : Same5 S.pure P') (hk : P'.rows.map keyT = S.pure.rows.map keyT) : RInv w0 w' S.p fv l.length := by
  obtain ⟨S', he, hl, hp, hpp, hc, hb⟩ := hr
  refine ⟨S', l, hl, hpp, ?_, by rw [hp, hk, h4], rfl, hc.owns h6 (fun q hq => ?_), chg_new h7 h1 (Nat.le_refl _) hc⟩
  · rw [hp]
    exact ⟨hs.id.trans h3.id, hs.client.trans h3.client, hs.m0.trans h3.m0, hs.m1.trans h3.m1, hs.m2.trans h3.m2, hs.com.trans h3.com⟩
  · obtain ⟨c, hc'⟩ := own_kind h6 hq
    exact h1.notT hc' (by decide) (by decide) (by decide)
/-- Behind a Learn that took a bucket, ahead of the append. -/
def RPend (w0 w : World) (p : Nat) (fv : Value) (n : Nat) (i : It) : Prop :=
  ∃ (S : Ses) (l : List (It × Value)), S.Lies w0.heap.size w ∧ S.p = p ∧ Same5 pR0 S.pure ∧ S.pure.rows.map keyT = l.map keyI ++ [(i.b, i.ver, i.i0, i.i1, i.i2, i.i3)] ∧ l.length = n ∧ w.ownsRow w0.heap.size 36 8 fv n (firstCells l) ∧ Chg (fun _ => False) w0 w
theorem rinv_learn {w0 w w' : World} {fv : Value} {S : Ses} {l : List (It × Value)} {i : It} {data : List Ent} {e : Ending} (h1 : S.Lies w0.heap.size w) (h3 : Same5 pR0 S.pure) (h4 : S.pure.rows.map keyT = l.map keyI)
    (h6 : w.ownsRow w0.heap.size 36 8 fv l.length (firstCells l)) (h7 : Chg (fun _ => False) w0 w) (hr : LearnP w0.heap.size S i data w e w') :
    (∃ ev, e = .returned ev ∧ ((∃ g, ev = .iface 92 (.pointer (some ⟨g, 0, none⟩)) ∧ RInv w0 w' S.p fv l.length) ∨ (ev = .nilIface ∧ S.pure.has i.b = true ∧ RInv w0 w' S.p fv l.length) ∨ (ev = .nilIface ∧ S.pure.has i.b = false ∧ RPend w0 w' S.p fv l.length i))) ∧
    ∀ (g : Nat) (c : Array Value), w.heap[g]? = some (.cells c 38 (0, 0)) → w'.heap[g]? = some (.cells c 38 (0, 0)) := by
  obtain ⟨n, P', ev, rfl, hran, hl⟩ := hr
  have hran' := hran
  obtain ⟨S', he, hl', hp, hpp, hc, hb⟩ := hran'
  have hcom : S.pure.com = false := h3.com
  refine ⟨⟨ev, rfl, ?_⟩, fun g c hg => hc.obj hg (h1.notT hg (by decide) (by decide) (by decide))⟩
  have same : P' = S.pure → RInv w0 w' S.p fv l.length := fun e => rinv_ran h1 h3 h4 h6 h7 (e ▸ hran) ⟨rfl, rfl, rfl, rfl, rfl, rfl⟩ rfl
  rcases hl.2.1 hcom with h | h | h | h
  · rcases he with he | ⟨_, g, _, hv, _⟩
    · have := h.1; have := he.1; omega
    · exact .inl ⟨g, hv, same h.2⟩
  · rcases he with he | ⟨hn, _⟩
    · exact .inr (.inl ⟨he.2, h.2.1, same h.2.2⟩)
    · exact absurd h.1 hn
  · rcases he with he | ⟨_, g, _, hv, _⟩
    · have := h.1; have := he.1; omega
    · exact .inl ⟨g, hv, same h.2.2.2⟩
  · rcases he with he | ⟨hn, _⟩
    · refine .inr (.inr ⟨he.2, h.2.1, S', l, hl', hpp, ?_, ?_, rfl, hc.owns h6 (fun q hq => ?_), chg_new h7 h1 (Nat.le_refl _) hc⟩)
      · rw [hp, h.2.2.2.2.2.2]
        exact ⟨h3.id, h3.client, h3.m0, h3.m1, h3.m2, h3.com⟩
      · rw [hp, h.2.2.2.2.2.2, ← h4]
        simp [Pure.add, keyT]
      · obtain ⟨c, hc'⟩ := own_kind h6 hq
        exact h1.notT hc' (by decide) (by decide) (by decide)
    · exact absurd h.1 hn
theorem rpend_done {w0 w o w' : World} {p n : Nat} {fv fv' v0 : Value} {i : It} {ob : Obj} (ho : o = w.alloc ob) {S : Ses} {l : List (It × Value)} (h1 : S.Lies w0.heap.size w) (h2 : S.p = p) (h3 : Same5 pR0 S.pure)
    (h4 : S.pure.rows.map keyT = l.map keyI ++ [(i.b, i.ver, i.i0, i.i1, i.i2, i.i3)]) (h5 : l.length = n) (h6 : w.ownsRow w0.heap.size 36 8 fv n (firstCells l)) (h7 : Chg (fun _ => False) w0 w)
    (hown : w'.ownsRow w0.heap.size 36 8 fv' (n + 1) (firstCells l ++ i.vals v0)) (hg : o.grownBy w' fv.ownBlock) : RInv w0 w' p fv' (n + 1) := by
  subst ho
  have hc : Chg (fun q => fv.ownBlock = some q) w w' := (((Chg.refl (fun _ => False) w).alloc ob).mono (fun _ h => h.elim)).trans (Chg.of_grown hg (F := fun q => fv.ownBlock = some q) (fun q h => h)) (fun _ h _ => h)
  have hf : ∀ q, fv.ownBlock = some q → q ∉ S.blocks := fun q hq => by
    obtain ⟨c, hc'⟩ := own_kind h6 hq
    exact h1.notT hc' (by decide) (by decide) (by decide)
  refine ⟨S, l ++ [(i, v0)], h1.chg hc (fun k hk hq => hf k hq hk), h2, h3, ?_, by simp [h5], ?_, h7.trans hc (fun q hq hl => by have := (own_lt h6 hq).1; omega)⟩
  · rw [h4]; simp [keyI]
  · have : firstCells (l ++ [(i, v0)]) = firstCells l ++ i.vals v0 := by simp [firstCells]
    rw [this]; exact hown
/-- A script's op, as cells. -/
def OpD.arr (o : OpD) (v0 vd : Value) : Array Value := #[.int .i64 o.kind, .int .i64 o.i.b, .int .u32 o.i.ver, .bool o.i.wr, v0, .int .u32 o.i.i0, .int .u32 o.i.i1, .int .u32 o.i.i2, .int .u32 o.i.i3, vd, .string o.key, .string o.till, .string o.value]
theorem op_cells {w : World} {v : Value} {l : List OpD} (h : Ops w v l) : ∃ a c, v = .slice a l.length c ∧ l.length ≤ maxLen ∧ (l = [] ∨ ∃ b o, a = some ⟨b, o, none⟩ ∧ b < w.heap.size ∧ ∀ j (hj : j < l.length), ∃ v0 vd, l[j].Fits w v0 vd ∧
    w.cell? ⟨b, o + j * 13, none⟩ = some (.int .i64 l[j].kind) ∧ w.cell? ⟨b, o + j * 13 + 1, none⟩ = some (.int .i64 l[j].i.b) ∧ w.cell? ⟨b, o + j * 13 + 2, none⟩ = some (.int .u32 l[j].i.ver) ∧ w.cell? ⟨b, o + j * 13 + 3, none⟩ = some (.bool l[j].i.wr) ∧
    w.cell? ⟨b, o + j * 13 + 4, none⟩ = some v0 ∧ w.cell? ⟨b, o + j * 13 + 5, none⟩ = some (.int .u32 l[j].i.i0) ∧ w.cell? ⟨b, o + j * 13 + 6, none⟩ = some (.int .u32 l[j].i.i1) ∧ w.cell? ⟨b, o + j * 13 + 7, none⟩ = some (.int .u32 l[j].i.i2) ∧
    w.cell? ⟨b, o + j * 13 + 8, none⟩ = some (.int .u32 l[j].i.i3) ∧ w.cell? ⟨b, o + j * 13 + 9, none⟩ = some vd ∧ w.cell? ⟨b, o + j * 13 + 10, none⟩ = some (.string l[j].key) ∧ w.cell? ⟨b, o + j * 13 + 11, none⟩ = some (.string l[j].till) ∧ w.cell? ⟨b, o + j * 13 + 12, none⟩ = some (.string l[j].value)) := by
  obtain ⟨a, c, rfl, h1, h2, h3⟩ := h
  refine ⟨a, c, rfl, by omega, h3.imp (fun h => h) ?_⟩
  rintro ⟨b, o, rfl, hb, hc⟩
  refine ⟨b, o, rfl, hb, fun j hj => ?_⟩
  obtain ⟨v0, vd, hfit, hcell⟩ := hc j hj
  exact ⟨v0, vd, hfit, hcell 0 _ rfl, hcell 1 _ rfl, hcell 2 _ rfl, hcell 3 _ rfl, hcell 4 _ rfl, hcell 5 _ rfl, hcell 6 _ rfl, hcell 7 _ rfl, hcell 8 _ rfl, hcell 9 _ rfl, hcell 10 _ rfl, hcell 11 _ rfl, hcell 12 _ rfl⟩
theorem op_loads {w : World} {g : Nat} {o : OpD} {v0 vd : Value} (h : w.heap[g]? = some (.cells (o.arr v0 vd) 38 (0, 0))) :
    w.cell? ⟨g, 0, none⟩ = some (.int .i64 o.kind) ∧ w.cell? ⟨g, 1, none⟩ = some (.int .i64 o.i.b) ∧ w.cell? ⟨g, 2, none⟩ = some (.int .u32 o.i.ver) ∧ w.cell? ⟨g, 3, none⟩ = some (.bool o.i.wr) ∧ w.cell? ⟨g, 4, none⟩ = some v0 ∧
    w.cell? ⟨g, 5, none⟩ = some (.int .u32 o.i.i0) ∧ w.cell? ⟨g, 6, none⟩ = some (.int .u32 o.i.i1) ∧ w.cell? ⟨g, 7, none⟩ = some (.int .u32 o.i.i2) ∧ w.cell? ⟨g, 8, none⟩ = some (.int .u32 o.i.i3) ∧ w.cell? ⟨g, 9, none⟩ = some vd ∧
    w.cell? ⟨g, 10, none⟩ = some (.string o.key) ∧ w.cell? ⟨g, 11, none⟩ = some (.string o.till) ∧ w.cell? ⟨g, 12, none⟩ = some (.string o.value) :=
  ⟨cell_row h rfl, cell_row h rfl, cell_row h rfl, cell_row h rfl, cell_row h rfl, cell_row h rfl, cell_row h rfl, cell_row h rfl, cell_row h rfl, cell_row h rfl, cell_row h rfl, cell_row h rfl, cell_row h rfl⟩
theorem Items.same {H : Nat} {w w' : World} {rows : List Tl} {v : Value} {cs : List CItem} (h : Items H w rows v cs) (hc : Chg (fun _ => False) w w') : Items H w' rows v cs :=
  ⟨hc.owns h.1 (fun _ _ h => h), h.2.1, fun c hm => ⟨(h.2.2 c hm).1, (h.2.2 c hm).2.1, (h.2.2 c hm).2.2.1, fun hw => hc.owns ((h.2.2 c hm).2.2.2 hw) (fun _ _ h => h)⟩⟩
theorem flat8' (l : List (It × Value)) : ∀ k j, j < 8 → (firstCells l)[k * 8 + j]? = (l[k]?).bind fun c => (c.1.vals c.2)[j]? := by
  induction l with
  | nil => intro k j _; simp [firstCells]
  | cons c cs ih =>
    intro k j hj
    have e : firstCells (c :: cs) = c.1.vals c.2 ++ firstCells cs := by simp [firstCells]
    rw [e]
    have hl : (c.1.vals c.2).length = 8 := rfl
    cases k with
    | zero =>
      rw [List.getElem?_append_left (by omega)]
      simp
    | succ k =>
      rw [List.getElem?_append_right (by omega), hl, show (k + 1) * 8 + j - 8 = k * 8 + j from by omega, ih k j hj]
      simp
theorem first_cells {H n : Nat} {w : World} {v : Value} {l : List (It × Value)} (h : w.ownsRow H 36 8 v n (firstCells l)) (hn : 0 < n) :
    ∃ gc : Nat × Nat, v = .slice (some ⟨gc.1, 0, none⟩) n gc.2 ∧ ∀ k (hk : k < l.length), w.cell? ⟨gc.1, k * 8, none⟩ = some (.int .i64 l[k].1.b) ∧ w.cell? ⟨gc.1, k * 8 + 1, none⟩ = some (.int .u32 l[k].1.ver) ∧
      w.cell? ⟨gc.1, k * 8 + 4, none⟩ = some (.int .u32 l[k].1.i0) ∧ w.cell? ⟨gc.1, k * 8 + 5, none⟩ = some (.int .u32 l[k].1.i1) ∧ w.cell? ⟨gc.1, k * 8 + 6, none⟩ = some (.int .u32 l[k].1.i2) ∧ w.cell? ⟨gc.1, k * 8 + 7, none⟩ = some (.int .u32 l[k].1.i3) := by
  rcases h.2 with ⟨_, h0⟩ | ⟨g, cap, cur, rfl, hb, hg, h1, h2, h3, h4⟩
  · omega
  · refine ⟨(g, cap), rfl, fun k hk => ?_⟩
    have key : ∀ j u, j < 8 → (l[k].1.vals l[k].2)[j]? = some u → w.cell? ⟨g, k * 8 + j, none⟩ = some u := by
      intro j u hj hu
      have := flat8' l k j hj
      rw [List.getElem?_eq_getElem hk] at this
      have this : (firstCells l)[k * 8 + j]? = some u := this.trans hu
      refine cell_row hg ?_
      rw [← h4, List.getElem?_take] at this
      split at this
      · simpa using this
      · cases this
    exact ⟨key 0 _ (by omega) rfl, key 1 _ (by omega) rfl, key 4 _ (by omega) rfl, key 5 _ (by omega) rfl, key 6 _ (by omega) rfl, key 7 _ (by omega) rfl⟩
/-- Is this item that one's? -/
def hit (i : It) (c : CItem) : Bool := (c.x.b == i.b) && ((c.x.ver == i.ver) && ((c.x.i0 == i.i0) && ((c.x.i1 == i.i1) && ((c.x.i2 == i.i2) && (c.x.i3 == i.i3)))))
def seen (i : It) (cs : List CItem) (q : Nat) : Bool := (cs.take q).any (hit i)
theorem seen_succ (i : It) (cs : List CItem) (q : Nat) (hq : q < cs.length) : seen i cs (q + 1) = (seen i cs q || hit i cs[q]) := by
  unfold seen
  rw [List.take_succ_eq_append_getElem hq, List.any_append]
  simp
theorem seen_all {S : Ses} {B H : Nat} {w w' : World} (h : S.Lies B w) {v : Value} {cs : List CItem} (hi : Items H w' S.pure.rows v cs) {l : List (It × Value)} (hk : S.pure.rows.map keyT = l.map keyI) {k : Nat} (hkl : k < l.length) : seen l[k].1 cs cs.length = true := by
  unfold seen
  rw [List.take_length, List.any_eq_true]
  have h1 : keyI l[k] ∈ S.pure.rows.map keyT := by rw [hk]; exact List.mem_map_of_mem (List.getElem_mem hkl)
  obtain ⟨x, hx, hxk⟩ := List.mem_map.1 h1
  have h2 : x.b ∈ cs.map (·.x.b) := by rw [hi.2.1, sortInts_mem]; exact List.mem_map_of_mem hx
  obtain ⟨c, hc, hcb⟩ := List.mem_map.1 h2
  have hcx := (hi.2.2 c hc).1
  have he : c.x = x := by
    obtain ⟨y, hy, hye⟩ := List.mem_map.1 hcx
    obtain ⟨z, hz, hze⟩ := List.mem_map.1 hx
    have hb : y.d.b = z.d.b := by
      have e1 : c.x.b = x.b := hcb
      rw [← hye, ← hze] at e1
      exact e1
    have := pairwise_eq h.dif hy hz hb
    rw [← hye, ← hze, this]
  refine ⟨c, hc, ?_⟩
  have hk2 : keyT c.x = keyI l[k] := by rw [he]; exact hxk
  simp only [keyT, keyI, Prod.mk.injEq] at hk2
  obtain ⟨e0, e1, e2, e3, e4, e5⟩ := hk2
  simp [hit, e0, e1, e2, e3, e4, e5]
theorem eq32 (a b : Int) (d : Nat) (w : World) : (Op.equalIn (d + 1) 32 (.int .u32 a) (.int .u32 b)).run Try.prog w = .ok (a == b) w := by kernel_rfl
theorem info32 : (Try.prog.info? 32).map (fun i => (i.zero, i.size, i.bytes)) = some (some (.int .u32 0), 1, 4) := by kernel_rfl
theorem part0 (x0 x1 x2 x3 : Value) (w : World) : (part 32 #[x0, x1, x2, x3] 0).run Try.prog w = .ok x0 w := by kernel_rfl
theorem part1 (x0 x1 x2 x3 : Value) (w : World) : (part 32 #[x0, x1, x2, x3] 1).run Try.prog w = .ok x1 w := by kernel_rfl
theorem part2 (x0 x1 x2 x3 : Value) (w : World) : (part 32 #[x0, x1, x2, x3] 2).run Try.prog w = .ok x2 w := by kernel_rfl
theorem part3 (x0 x1 x2 x3 : Value) (w : World) : (part 32 #[x0, x1, x2, x3] 3).run Try.prog w = .ok x3 w := by kernel_rfl
set_option maxRecDepth 100000 in
theorem eq34 (a0 a1 a2 a3 b0 b1 b2 b3 : Int) (w : World) : (Op.equalIn 10000 34 (.agg #[.int .u32 a0, .int .u32 a1, .int .u32 a2, .int .u32 a3]) (.agg #[.int .u32 b0, .int .u32 b1, .int .u32 b2, .int .u32 b3])).run Try.prog w =
    .ok ((a0 == b0) && ((a1 == b1) && ((a2 == b2) && (a3 == b3)))) w := by
  obtain ⟨i, hi, _, _, _⟩ := info_parts info32
  have hc : Try.prog.cellsOf 32 = 1 := by kernel_rfl
  rw [run_equalIn_array (P := Try.prog) (w := w) 9999 (t := 34) (e := 32) (n := 4) #[Value.int .u32 a0, .int .u32 a1, .int .u32 a2, .int .u32 a3] #[Value.int .u32 b0, .int .u32 b1, .int .u32 b2, .int .u32 b3] Try.underlying34 hi, hc]
  have hr : List.range 4 = [0, 1, 2, 3] := rfl
  rw [hr]
  cases h0 : (a0 == b0) <;> cases h1 : (a1 == b1) <;> cases h2 : (a2 == b2) <;> cases h3 : (a3 == b3) <;> simp [Op.eqItems, Sem.run_bind, part0, part1, part2, part3, eq32, h0, h1, h2, h3]
end Go.Proofs.Ytpdchdbkfflgfaa
