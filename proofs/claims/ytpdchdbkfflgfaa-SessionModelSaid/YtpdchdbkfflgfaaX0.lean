/- An argument that is an item, opened. -/
import Derived.Test.YtpdchdbkfflgfaaRows
import Derived.Test.YtpdchdbkfflgfaaA
import Derived.ProofKit
import Derived.Carry
namespace Go.Proofs.Ytpdchdbkfflgfaa
open Go.ChangeShapes Go.WideShapes Go.ChangeAt Go.RowKit

theorem Try.ownK : ownKnob Try.prog.godebug = none := by kernel_rfl
theorem Try.laid : laidOutB Try.prog = true := by kernel_rfl
theorem types36 : Try.prog.cellTypes Try.prog.depth 36 = some [3, 32, 4, 33, 32, 32, 32, 32] := by kernel_rfl
set_option maxRecDepth 100000 in
theorem ok_int {w : World} {r : Reach} {base : Nat} {t : TypeId} {k : IntKind} {v : Value} (ht : Try.prog.underlying t = some (.int k)) (h : Cell.okWide Try.prog w r base t v) : ∃ n, v = .int k n ∧ k.has n := by
  unfold Cell.okWide at h
  cases v <;> simp_all [Cell.ok]
set_option maxRecDepth 100000 in
theorem ok_bool {w : World} {r : Reach} {base : Nat} {t : TypeId} {v : Value} (ht : Try.prog.underlying t = some .bool) (h : Cell.okWide Try.prog w r base t v) : ∃ b, v = .bool b := by
  unfold Cell.okWide at h
  cases v <;> simp_all [Cell.ok]
set_option maxRecDepth 100000 in
theorem ok_slice {w : World} {r : Reach} {base : Nat} {t e : TypeId} {v : Value} (ht : Try.prog.underlying t = some (.slice e)) (h : Cell.okWide Try.prog w r base t v) : ∃ a n c, v = .slice a n c := by
  unfold Cell.okWide at h
  cases v <;> simp_all [Cell.ok]
set_option maxRecDepth 100000 in
theorem item_open {W : World} {r : Reach} {base : Nat} {v : Value} (h : Value.okWide Try.prog W r base 36 v) :
    ∃ b ver wr a0 n0 c0 i0 i1 i2 i3, v = .agg #[.int .i64 b, .int .u32 ver, .bool wr, .slice a0 n0 c0, .int .u32 i0, .int .u32 i1, .int .u32 i2, .int .u32 i3] := by
  simp only [Value.okWide, Try.underlying36] at h
  obtain ⟨cs, rfl, hs, ts, hts, _, hc⟩ := h
  rw [types36] at hts
  obtain rfl := Option.some.inj hts
  have hs8 : cs.size = 8 := hs
  have h0 := hc 0 _ (Array.getElem?_eq_getElem (by omega))
  have h1 := hc 1 _ (Array.getElem?_eq_getElem (by omega))
  have h2 := hc 2 _ (Array.getElem?_eq_getElem (by omega))
  have h3 := hc 3 _ (Array.getElem?_eq_getElem (by omega))
  have h4 := hc 4 _ (Array.getElem?_eq_getElem (by omega))
  have h5 := hc 5 _ (Array.getElem?_eq_getElem (by omega))
  have h6 := hc 6 _ (Array.getElem?_eq_getElem (by omega))
  have h7 := hc 7 _ (Array.getElem?_eq_getElem (by omega))
  obtain ⟨u0, e0, k0⟩ := h0
  obtain ⟨u1, e1, k1⟩ := h1
  obtain ⟨u2, e2, k2⟩ := h2
  obtain ⟨u3, e3, k3⟩ := h3
  obtain ⟨u4, e4, k4⟩ := h4
  obtain ⟨u5, e5, k5⟩ := h5
  obtain ⟨u6, e6, k6⟩ := h6
  obtain ⟨u7, e7, k7⟩ := h7
  obtain rfl : u0 = 3 := by simpa using e0.symm
  obtain rfl : u1 = 32 := by simpa using e1.symm
  obtain rfl : u2 = 4 := by simpa using e2.symm
  obtain rfl : u3 = 33 := by simpa using e3.symm
  obtain rfl : u4 = 32 := by simpa using e4.symm
  obtain rfl : u5 = 32 := by simpa using e5.symm
  obtain rfl : u6 = 32 := by simpa using e6.symm
  obtain rfl : u7 = 32 := by simpa using e7.symm
  obtain ⟨b, q0, _⟩ := ok_int Try.underlying3 k0
  obtain ⟨ver, q1, _⟩ := ok_int Try.underlying32 k1
  obtain ⟨wr, q2⟩ := ok_bool Try.underlying4 k2
  obtain ⟨a0, n0, c0, q3⟩ := ok_slice Try.underlying33 k3
  obtain ⟨i0, q4, _⟩ := ok_int Try.underlying32 k4
  obtain ⟨i1, q5, _⟩ := ok_int Try.underlying32 k5
  obtain ⟨i2, q6, _⟩ := ok_int Try.underlying32 k6
  obtain ⟨i3, q7, _⟩ := ok_int Try.underlying32 k7
  refine ⟨b, ver, wr, a0, n0, c0, i0, i1, i2, i3, ?_⟩
  congr 1
  apply Array.ext (by rw [hs8]; rfl)
  intro j hj1 hj2
  have : j = 0 ∨ j = 1 ∨ j = 2 ∨ j = 3 ∨ j = 4 ∨ j = 5 ∨ j = 6 ∨ j = 7 := by omega
  rcases this with rfl | rfl | rfl | rfl | rfl | rfl | rfl | rfl
  · exact q0
  · exact q1
  · exact q2
  · exact q3
  · exact q4
  · exact q5
  · exact q6
  · exact q7
end Go.Proofs.Ytpdchdbkfflgfaa
