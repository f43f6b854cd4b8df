/- Arguments opened: entries, items, ops. -/
import Derived.Test.YtpdchdbkfflgfaaX0
import Derived.Test.YtpdchdbkfflgfaaV
import Derived.OpenShut
import Derived.Deep.SlicePairs
namespace Go.Proofs.Ytpdchdbkfflgfaa
open Go.ChangeShapes Go.WideShapes Go.ChangeAt Go.RowKit Go.Deep

section
variable {H : Type} {enc : TypeId × Value → H} {w : World} {fuel : Nat} {cs : List Value} {x : DataW H × List MemPlace}
theorem addr_none {a : Addr} {v : Value} (h : w.cell? a = some v) : a = ⟨a.block, a.off, none⟩ := by
  unfold World.cell? at h
  cases hh : w.heap[a.block]? with
  | none => rw [hh] at h; cases h
  | some o =>
    rw [hh] at h
    cases o with
    | cells c t f =>
      simp only at h
      split at h
      · cases h
      · rename_i hs
        obtain ⟨b, o, s⟩ := a
        cases s with
        | none => rfl
        | some s => simp at hs
    | _ => cases h
set_option maxRecDepth 100000 in
theorem ents_trod (h : DataW.trod enc Try.prog w 0 (fun _ => true) true fuel 33 cs = some x) : ∃ v l, cs = [v] ∧ Reads w v l ∧ ∀ e ∈ l, e.1.size ≤ maxLen ∧ e.2.size ≤ maxLen := by
  rcases open_slice_pairs Try.underlying33 Try.underlying65 (by kernel_rfl) rfl rfl (by kernel_rfl) (by kernel_rfl) h with ⟨rfl, _⟩ | ⟨a, len, cap, m, n, V0, V1, D0, D1, P0, P1, rfl, _, hl, hm, hmm, _, hx⟩
  · exact ⟨_, [], rfl, reads_nil w, by simp⟩
  · have hlm : len ≤ m := by rw [hmm]; split <;> omega
    have each : ∀ i, i < len → ∃ q : Ent, w.cell? (a.add (i * 2)) = some (.string q.1) ∧ w.cell? (a.add (i * 2 + 1)) = some (.string q.2) ∧ q.1.size ≤ maxLen ∧ q.2.size ≤ maxLen := by
      intro i hi
      obtain ⟨c0, c1, t0, t1⟩ := hx i (by omega)
      obtain ⟨s, es, _, hs⟩ := DataW.trod_string Try.underlying9 t0
      obtain ⟨s', es', _, hs'⟩ := DataW.trod_string Try.underlying9 t1
      have e0 : V0 i = .string s := by simpa using es
      have e1 : V1 i = .string s' := by simpa using es'
      exact ⟨(s, s'), by rw [c0, e0], by rw [c1, e1], hs, hs'⟩
    obtain ⟨q, hq⟩ := choose_lt each
    refine ⟨_, (List.range len).map q, rfl, ⟨some a, cap, by simp, by simpa using hl, hm, ?_⟩, ?_⟩
    · by_cases h0 : len = 0
      · left; subst h0; rfl
      · right
        have hn := (hq 0 (by omega)).1
        have ha : a = ⟨a.block, a.off, none⟩ := by
          have : a.add (0 * 2) = a := by simp [Addr.add]
          rw [this] at hn
          exact addr_none hn
        refine ⟨a.block, a.off, by rw [← ha], fun i hi => ?_⟩
        have hi' : i < len := by simpa using hi
        have h1 := hq i hi'
        have e : (List.map q (List.range len))[i] = q i := by simp
        rw [e]
        rw [ha] at h1
        rw [add_lit, add_lit] at h1
        exact ⟨h1.1, by rw [Nat.add_assoc]; exact h1.2.1⟩
    · intro e he
      obtain ⟨i, hi, rfl⟩ := List.mem_map.1 he
      exact (hq i (List.mem_range.1 hi)).2.2
theorem list8 {α : Type} {l : List α} (h : l.length = 8) : ∃ a b c d e f g i, l = [a, b, c, d, e, f, g, i] := by
  match l, h with
  | [a, b, c, d, e, f, g, i], _ => exact ⟨a, b, c, d, e, f, g, i, rfl⟩
theorem list13 {α : Type} {l : List α} (h : l.length = 13) : ∃ a b c d e f g i j k m n o, l = [a, b, c, d, e, f, g, i, j, k, m, n, o] := by
  match l, h with
  | [a, b, c, d, e, f, g, i, j, k, m, n, o], _ => exact ⟨a, b, c, d, e, f, g, i, j, k, m, n, o, rfl⟩
theorem some_of {α : Type} {l : List α} {i : Nat} {o : Option α} (h : o = l[i]?) (hi : i < l.length) : ∃ y, o = some y := ⟨l[i], by rw [h, List.getElem?_eq_getElem hi]⟩
theorem cells34 : Try.prog.cellsOf 34 = 4 := by kernel_rfl
theorem cells36 : Try.prog.cellsOf 36 = 8 := by kernel_rfl
theorem cells38 : Try.prog.cellsOf 38 = 13 := by kernel_rfl
theorem cells3 : Try.prog.cellsOf 3 = 1 := by kernel_rfl
theorem cells4 : Try.prog.cellsOf 4 = 1 := by kernel_rfl
theorem cells9 : Try.prog.cellsOf 9 = 1 := by kernel_rfl
theorem cells32 : Try.prog.cellsOf 32 = 1 := by kernel_rfl
theorem cells33 : Try.prog.cellsOf 33 = 1 := by kernel_rfl
theorem u32_has {n : Int} (h : (Lit.int .u32 n).wf = true) : 0 ≤ n ∧ n < 4294967296 := by
  have h' : (decide (IntKind.u32.min ≤ n) && decide (n ≤ IntKind.u32.max)) = true := h
  rw [Bool.and_eq_true, decide_eq_true_eq, decide_eq_true_eq] at h'
  have e1 : IntKind.u32.min = 0 := rfl
  have e2 : IntKind.u32.max = 4294967295 := rfl
  rw [e1, e2] at h'
  omega
def It.vals (i : It) (v0 : Value) : List Value := [.int .i64 i.b, .int .u32 i.ver, .bool i.wr, v0, .int .u32 i.i0, .int .u32 i.i1, .int .u32 i.i2, .int .u32 i.i3]
def Sized (l : List Ent) : Prop := ∀ e ∈ l, e.1.size ≤ maxLen ∧ e.2.size ≤ maxLen
set_option maxRecDepth 100000 in
theorem item_trod (h : DataW.trod enc Try.prog w 0 (fun _ => true) true fuel 36 cs = some x) : ∃ i v0, cs = It.vals i v0 ∧ i.fits ∧ Reads w v0 i.data ∧ Sized i.data := by
  obtain ⟨xs, n, _, _, hlen, hxl, hf⟩ := DataW.trod_struct Try.underlying36 h
  rw [cells36] at hlen
  obtain ⟨c0, c1, c2, c3, c4, c5, c6, c7, rfl⟩ := list8 hlen
  have hxl : xs.length = 5 := hxl
  have g0 := hf 0 _ rfl
  have g1 := hf 1 _ rfl
  have g2 := hf 2 _ rfl
  have g3 := hf 3 _ rfl
  have g4 := hf 4 _ rfl
  clear h hf hlen
  simp only [List.getElem_toArray, List.getElem_cons_zero, List.getElem_cons_succ, cells3, cells32, cells4, cells33, cells34, List.drop_zero, List.take_succ_cons, List.take_zero, List.drop_succ_cons] at g0 g1 g2 g3 g4
  obtain ⟨y0, q0⟩ := some_of g0 (by omega)
  obtain ⟨y1, q1⟩ := some_of g1 (by omega)
  obtain ⟨y2, q2⟩ := some_of g2 (by omega)
  obtain ⟨y3, q3⟩ := some_of g3 (by omega)
  obtain ⟨y4, q4⟩ := some_of g4 (by omega)
  obtain ⟨b, e0, _, _⟩ := DataW.trod_int Try.underlying3 q0
  obtain ⟨ver, e1, _, w1⟩ := DataW.trod_int Try.underlying32 q1
  obtain ⟨wr, e2, _⟩ := DataW.trod_bool Try.underlying4 q2
  obtain ⟨v0, l, e3, hr, hs⟩ := ents_trod q3
  obtain ⟨ys, m, _, _, _, hyl, hg⟩ := DataW.trod_array Try.underlying34 q4
  have k0 := hg 0 (by omega)
  have k1 := hg 1 (by omega)
  have k2 := hg 2 (by omega)
  have k3 := hg 3 (by omega)
  simp only [cells32, Nat.mul_one, List.drop_zero, List.take_succ_cons, List.take_zero, List.drop_succ_cons] at k0 k1 k2 k3
  obtain ⟨z0, p0⟩ := some_of k0 (by omega)
  obtain ⟨z1, p1⟩ := some_of k1 (by omega)
  obtain ⟨z2, p2⟩ := some_of k2 (by omega)
  obtain ⟨z3, p3⟩ := some_of k3 (by omega)
  obtain ⟨i0, f0, _, x0⟩ := DataW.trod_int Try.underlying32 p0
  obtain ⟨i1, f1, _, x1⟩ := DataW.trod_int Try.underlying32 p1
  obtain ⟨i2, f2, _, x2⟩ := DataW.trod_int Try.underlying32 p2
  obtain ⟨i3, f3, _, x3⟩ := DataW.trod_int Try.underlying32 p3
  refine ⟨⟨b, ver, wr, i0, i1, i2, i3, l⟩, v0, ?_, ⟨(u32_has w1).1, u32_has x0, u32_has x1, u32_has x2, u32_has x3⟩, hr, hs⟩
  simp only [List.cons.injEq, and_true] at e0 e1 e2 e3 f0 f1 f2 f3
  rw [e0, e1, e2, e3, f0, f1, f2, f3]; rfl
/-- An op, as data. -/
structure OpD where
  kind : Int
  i : It
  data : List Ent
  key : ByteArray
  till : ByteArray
  value : ByteArray
def OpD.vals (o : OpD) (v0 vd : Value) : List Value := .int .i64 o.kind :: (o.i.vals v0 ++ [vd, .string o.key, .string o.till, .string o.value])
structure OpD.Fits (o : OpD) (w : World) (v0 vd : Value) : Prop where
  i : o.i.fits
  r0 : Reads w v0 o.i.data
  rd : Reads w vd o.data
  z0 : Sized o.i.data
  zd : Sized o.data
  key : o.key.size ≤ maxLen
  till : o.till.size ≤ maxLen
  value : o.value.size ≤ maxLen
set_option maxRecDepth 100000 in
theorem op_trod (h : DataW.trod enc Try.prog w 0 (fun _ => true) true fuel 38 cs = some x) : ∃ o v0 vd, cs = OpD.vals o v0 vd ∧ o.Fits w v0 vd := by
  obtain ⟨xs, n, _, _, hlen, hxl, hf⟩ := DataW.trod_struct Try.underlying38 h
  rw [cells38] at hlen
  obtain ⟨c0, c1, c2, c3, c4, c5, c6, c7, c8, c9, c10, c11, c12, rfl⟩ := list13 hlen
  have hxl : xs.length = 6 := hxl
  have g0 := hf 0 _ rfl
  have g1 := hf 1 _ rfl
  have g2 := hf 2 _ rfl
  have g3 := hf 3 _ rfl
  have g4 := hf 4 _ rfl
  have g5 := hf 5 _ rfl
  clear h hf hlen
  simp only [List.getElem_toArray, List.getElem_cons_zero, List.getElem_cons_succ, cells3, cells36, cells9, cells33, List.drop_zero, List.take_succ_cons, List.take_zero, List.drop_succ_cons] at g0 g1 g2 g3 g4 g5
  obtain ⟨y0, q0⟩ := some_of g0 (by omega)
  obtain ⟨y1, q1⟩ := some_of g1 (by omega)
  obtain ⟨y2, q2⟩ := some_of g2 (by omega)
  obtain ⟨y3, q3⟩ := some_of g3 (by omega)
  obtain ⟨y4, q4⟩ := some_of g4 (by omega)
  obtain ⟨y5, q5⟩ := some_of g5 (by omega)
  obtain ⟨kind, e0, _, _⟩ := DataW.trod_int Try.underlying3 q0
  obtain ⟨i, v0, e1, hi, r0, z0⟩ := item_trod q1
  obtain ⟨vd, l, e2, rd, zd⟩ := ents_trod q2
  obtain ⟨key, e3, _, h3⟩ := DataW.trod_string Try.underlying9 q3
  obtain ⟨till, e4, _, h4⟩ := DataW.trod_string Try.underlying9 q4
  obtain ⟨value, e5, _, h5⟩ := DataW.trod_string Try.underlying9 q5
  refine ⟨⟨kind, i, l, key, till, value⟩, v0, vd, ?_, hi, r0, rd, z0, zd, h3, h4, h5⟩
  simp only [List.cons.injEq, and_true] at e0 e2 e3 e4 e5
  show _ = Value.int .i64 kind :: (i.vals v0 ++ [vd, .string key, .string till, .string value])
  rw [← e1, e0, e2, e3, e4, e5]; rfl
/-- A script lies in memory. -/
def Ops (w : World) (v : Value) (l : List OpD) : Prop :=
  ∃ a c, v = .slice a l.length c ∧ l.length ≤ c ∧ c ≤ maxLen ∧ (l = [] ∨ ∃ b o, a = some ⟨b, o, none⟩ ∧ b < w.heap.size ∧ ∀ i (h : i < l.length), ∃ v0 vd, l[i].Fits w v0 vd ∧ ∀ j u, (l[i].vals v0 vd)[j]? = some u → w.cell? ⟨b, o + i * 13 + j, none⟩ = some u)
set_option maxRecDepth 100000 in
theorem ops_trod (h : DataW.trod enc Try.prog w 0 (fun _ => true) true fuel 22 cs = some x) : ∃ v l, cs = [v] ∧ Ops w v l := by
  rcases open_slice Try.underlying22 h with ⟨rfl, _⟩ | ⟨a, len, cap, m, n, D, Pl, rfl, _, hl, hm, hmm, _, hx⟩
  · exact ⟨_, [], rfl, none, 0, rfl, Nat.le_refl _, by unfold maxLen; omega, .inl rfl⟩
  · rw [cells38] at hx
    have hlm : len ≤ m := by rw [hmm]; split <;> omega
    have each : ∀ i, i < len → ∃ q : OpD, ∃ v0 vd, q.Fits w v0 vd ∧ ∀ j u, (q.vals v0 vd)[j]? = some u → w.cell? ((a.add (i * 13)).add j) = some u := by
      intro i hi
      obtain ⟨cs', h1, h2⟩ := hx i (by omega)
      obtain ⟨o, v0, vd, rfl, hfit⟩ := op_trod h2
      obtain ⟨_, hlen, hc⟩ := World.cells?_some h1
      refine ⟨o, v0, vd, hfit, fun j u hu => ?_⟩
      have hj : j < 13 := by have := (List.getElem?_eq_some_iff.1 hu).1; omega
      rw [hc j hj, hu]
    have : Inhabited OpD := ⟨⟨0, ⟨0, 0, false, 0, 0, 0, 0, []⟩, [], ⟨#[]⟩, ⟨#[]⟩, ⟨#[]⟩⟩⟩
    obtain ⟨q, hq⟩ := choose_lt each
    refine ⟨_, (List.range len).map q, rfl, some a, cap, by simp, by simpa using hl, hm, ?_⟩
    by_cases h0 : len = 0
    · left; subst h0; rfl
    · right
      obtain ⟨v0, vd, _, hc⟩ := hq 0 (by omega)
      have hn := hc 0 _ rfl
      have e0 : (a.add (0 * 13)).add 0 = a := by simp [Addr.add]
      rw [e0] at hn
      have ha := addr_none hn
      refine ⟨a.block, a.off, by rw [← ha], World.block_lt_of_cell? w a hn, fun i hi => ?_⟩
      have hi' : i < len := by simpa using hi
      obtain ⟨v0, vd, hfit, hc⟩ := hq i hi'
      have e : (List.map q (List.range len))[i] = q i := by simp
      rw [e]
      refine ⟨v0, vd, hfit, fun j u hu => ?_⟩
      have := hc j u hu
      rw [ha] at this
      rw [add_lit, add_lit] at this
      exact this
end
end Go.Proofs.Ytpdchdbkfflgfaa
