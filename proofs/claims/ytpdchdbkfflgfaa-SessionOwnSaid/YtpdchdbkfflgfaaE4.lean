/- The argument of SessionOwn, opened. -/
import Derived.Test.YtpdchdbkfflgfaaX2
namespace Go.Proofs.Ytpdchdbkfflgfaa
open Go.ChangeShapes Go.WideShapes Go.ChangeAt Go.RowKit Go.Deep

theorem types54 : Try.prog.cellTypes Try.prog.depth 54 = some [33, 9, 9, 9] := by kernel_rfl
theorem cells54 : Try.prog.cellsOf 54 = 4 := by kernel_rfl
set_option maxRecDepth 100000 in
theorem ok_string {w : World} {r : Reach} {base : Nat} {t : TypeId} {v : Value} (ht : Try.prog.underlying t = some .string) (h : Cell.okWide Try.prog w r base t v) : ∃ s, v = .string s := by
  unfold Cell.okWide at h
  cases v <;> simp_all [Cell.ok]
set_option maxRecDepth 100000 in
theorem own_open {W : World} {r : Reach} {base : Nat} {v : Value} (h : Value.okWide Try.prog W r base 54 v) :
    ∃ a0 n0 c0 k x o, v = .agg #[.slice a0 n0 c0, .string k, .string x, .string o] := by
  simp only [Value.okWide, Try.underlying54] at h
  obtain ⟨cs, rfl, hs, ts, hts, _, hc⟩ := h
  rw [types54] at hts
  obtain rfl := Option.some.inj hts
  have hs8 : cs.size = 4 := hs
  have h0 := hc 0 _ (Array.getElem?_eq_getElem (by omega))
  have h1 := hc 1 _ (Array.getElem?_eq_getElem (by omega))
  have h2 := hc 2 _ (Array.getElem?_eq_getElem (by omega))
  have h3 := hc 3 _ (Array.getElem?_eq_getElem (by omega))
  obtain ⟨u0, e0, k0⟩ := h0
  obtain ⟨u1, e1, k1⟩ := h1
  obtain ⟨u2, e2, k2⟩ := h2
  obtain ⟨u3, e3, k3⟩ := h3
  obtain rfl : u0 = 33 := by simpa using e0.symm
  obtain rfl : u1 = 9 := by simpa using e1.symm
  obtain rfl : u2 = 9 := by simpa using e2.symm
  obtain rfl : u3 = 9 := by simpa using e3.symm
  obtain ⟨a0, n0, c0, q0⟩ := ok_slice Try.underlying33 k0
  obtain ⟨k, q1⟩ := ok_string Try.underlying9 k1
  obtain ⟨x, q2⟩ := ok_string Try.underlying9 k2
  obtain ⟨o, q3⟩ := ok_string Try.underlying9 k3
  refine ⟨a0, n0, c0, k, x, o, ?_⟩
  congr 1
  apply Array.ext (by rw [hs8]; rfl)
  intro j hj1 hj2
  have : j = 0 ∨ j = 1 ∨ j = 2 ∨ j = 3 := by omega
  rcases this with rfl | rfl | rfl | rfl
  · exact q0
  · exact q1
  · exact q2
  · exact q3
theorem list4 {α : Type} {l : List α} (h : l.length = 4) : ∃ a b c d, l = [a, b, c, d] := by
  match l, h with
  | [a, b, c, d], _ => exact ⟨a, b, c, d, rfl⟩
set_option maxRecDepth 100000 in
theorem own_trod {H : Type} {enc : TypeId × Value → H} {w : World} {fuel : Nat} {cs : List Value} {x : DataW H × List MemPlace}
    (h : DataW.trod enc Try.prog w 0 (fun _ => true) true fuel 54 cs = some x) :
    ∃ vd l k y o, cs = [vd, .string k, .string y, .string o] ∧ Reads w vd l ∧ k.size ≤ maxLen ∧ y.size ≤ maxLen ∧ o.size ≤ maxLen := by
  obtain ⟨xs, n, _, _, hlen, hxl, hf⟩ := DataW.trod_struct Try.underlying54 h
  rw [cells54] at hlen
  obtain ⟨c0, c1, c2, c3, rfl⟩ := list4 hlen
  have hxl : xs.length = 4 := hxl
  have g0 := hf 0 _ rfl
  have g1 := hf 1 _ rfl
  have g2 := hf 2 _ rfl
  have g3 := hf 3 _ rfl
  clear h hf hlen
  simp only [List.getElem_toArray, List.getElem_cons_zero, List.getElem_cons_succ, cells9, cells33, List.drop_zero, List.take_succ_cons, List.take_zero, List.drop_succ_cons] at g0 g1 g2 g3
  obtain ⟨y0, q0⟩ := some_of g0 (by omega)
  obtain ⟨y1, q1⟩ := some_of g1 (by omega)
  obtain ⟨y2, q2⟩ := some_of g2 (by omega)
  obtain ⟨y3, q3⟩ := some_of g3 (by omega)
  obtain ⟨vd, l, e0, rd, _⟩ := ents_trod q0
  obtain ⟨k, e1, _, h1⟩ := DataW.trod_string Try.underlying9 q1
  obtain ⟨y, e2, _, h2⟩ := DataW.trod_string Try.underlying9 q2
  obtain ⟨o, e3, _, h3⟩ := DataW.trod_string Try.underlying9 q3
  refine ⟨vd, l, k, y, o, ?_, rd, h1, h2, h3⟩
  simp only [List.cons.injEq, and_true] at e0 e1 e2 e3
  rw [e0, e1, e2, e3]
end Go.Proofs.Ytpdchdbkfflgfaa
