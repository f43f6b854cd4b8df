/- An argument that is a packet, opened. -/
import Derived.Test.YtojgalggibmjjaaRows
import Derived.Test.YtojgalggibmjjaaA
import Derived.ProofKit
import Derived.Carry
namespace Go.Proofs.Ytojgalggibmjjaa
open Go.ChangeShapes Go.WideShapes Go.ChangeAt Go.RowKit

theorem Try.ownK : ownKnob Try.prog.godebug = none := by kernel_rfl
theorem Try.laid : laidOutB Try.prog = true := by kernel_rfl
theorem types63 : Try.prog.cellTypes Try.prog.depth 63 = some [48, 3, 3, 61] := by kernel_rfl
set_option maxRecDepth 100000 in
theorem ok_int {w : World} {r : Reach} {base : Nat} {t : TypeId} {k : IntKind} {v : Value} (ht : Try.prog.underlying t = some (.int k)) (h : Cell.okWide Try.prog w r base t v) : ∃ n, v = .int k n ∧ k.has n := by
  unfold Cell.okWide at h
  cases v <;> simp_all [Cell.ok]
set_option maxRecDepth 100000 in
theorem ok_slice {w : World} {r : Reach} {base : Nat} {t e : TypeId} {v : Value} (ht : Try.prog.underlying t = some (.slice e)) (h : Cell.okWide Try.prog w r base t v) : ∃ a n c, v = .slice a n c := by
  unfold Cell.okWide at h
  cases v <;> simp_all [Cell.ok]
set_option maxRecDepth 100000 in
theorem packet_open {W : World} {r : Reach} {base : Nat} {v : Value} (h : Value.okWide Try.prog W r base 63 v) :
    ∃ a b c d n k, v = .agg #[.int .u64 a, .int .i64 b, .int .i64 c, .slice d n k] := by
  simp only [Value.okWide, Try.underlying63] at h
  obtain ⟨cs, rfl, hs, ts, hts, _, hc⟩ := h
  rw [types63] at hts
  obtain rfl := Option.some.inj hts
  have hs8 : cs.size = 4 := hs
  have h0 := hc 0 _ (Array.getElem?_eq_getElem (by omega))
  have h1 := hc 1 _ (Array.getElem?_eq_getElem (by omega))
  have h2 := hc 2 _ (Array.getElem?_eq_getElem (by omega))
  have h3 := hc 3 _ (Array.getElem?_eq_getElem (by omega))
  obtain ⟨u0, e0, k0⟩ := h0
  obtain ⟨u1, e1, k1⟩ := h1
  obtain ⟨u2, e2, k2⟩ := h2
  obtain ⟨u3, e3, k3⟩ := h3
  obtain rfl : u0 = 48 := by simpa using e0.symm
  obtain rfl : u1 = 3 := by simpa using e1.symm
  obtain rfl : u2 = 3 := by simpa using e2.symm
  obtain rfl : u3 = 61 := by simpa using e3.symm
  obtain ⟨a, q0, _⟩ := ok_int Try.underlying48 k0
  obtain ⟨b, q1, _⟩ := ok_int Try.underlying3 k1
  obtain ⟨c, q2, _⟩ := ok_int Try.underlying3 k2
  obtain ⟨d, n, k, q3⟩ := ok_slice Try.underlying61 k3
  refine ⟨a, b, c, d, n, k, ?_⟩
  congr 1
  apply Array.ext (by rw [hs8]; rfl)
  intro j hj1 hj2
  have : j = 0 ∨ j = 1 ∨ j = 2 ∨ j = 3 := by omega
  rcases this with rfl | rfl | rfl | rfl
  · exact q0
  · exact q1
  · exact q2
  · exact q3
end Go.Proofs.Ytojgalggibmjjaa
