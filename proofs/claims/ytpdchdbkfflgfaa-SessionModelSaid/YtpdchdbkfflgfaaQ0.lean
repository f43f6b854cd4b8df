/- A row more. -/
import Derived.Test.YtpdchdbkfflgfaaP1
namespace Go.Proofs.Ytpdchdbkfflgfaa
open Go.RowKit

def Ses.plus (S : Ses) (x : Row) : Ses := { S with rows := S.rows ++ [x], clock := S.clock + 1 }
theorem Ses.Lies.blocks_lt {B : Nat} {S : Ses} {w : World} (h : S.Lies B w) : ∀ y ∈ S.rows, ∀ k ∈ y.blocks, k < w.heap.size := by
  intro y hy k hk
  have hr := h.rows y hy
  simp only [Row.blocks, List.mem_cons, List.mem_append, Option.mem_toList] at hk
  have ho : ∀ {v : Value} {n : Nat} {xs : List Value}, w.ownsRow B 65 2 v n xs → v.ownBlock = some k → k < w.heap.size := by
    intro v n xs ho hv
    rcases ho.2 with ⟨rfl, _⟩ | ⟨g, cap, cur, rfl, _, hg, _⟩
    · cases hv
    · obtain rfl : g = k := by simpa [Value.ownBlock] using hv
      exact lt_of_block hg
  rcases hk with rfl | hk | hk
  · exact lt_of_block hr.tl
  · exact ho hr.was hk
  · exact ho hr.now hk
theorem find_none {S : Ses} {b : Int} (h : S.find b = none) : ∀ y ∈ S.rows, y.d.b ≠ b := by
  unfold Ses.find at h
  rw [List.find?_eq_none] at h
  intro y hy e
  exact h y hy (by simpa using e)
theorem Ses.Lies.add {B : Nat} {S : Ses} {w w' : World} (x : Row) (h : S.Lies B w) (hB : B ≤ w.heap.size) (hx : x.blocks.Nodup) (hxl : ∀ k ∈ x.blocks, w.heap.size ≤ k) (hl : x.Lies B w') (hf : x.d.Fine)
    (hno : S.find x.d.b = none) (h8 : S.rows.length < 8) (hbo : x.born = S.clock) (hc : Chg (fun q => q = S.r) w w')
    (hm : w'.heap[S.r]? = some (.map ((S.rows.map Row.entry).toArray.push x.entry) (S.clock + 1))) : (S.plus x).Lies B w' := by
  have hmem : ∀ y ∈ (S.plus x).rows, y ∈ S.rows ∨ y = x := by
    intro y hy
    simpa [Ses.plus] using hy
  have hnb := find_none hno
  have hlt := h.blocks_lt
  have hps : S.p < w.heap.size := lt_of_block h.head
  have hrs : S.r < w.heap.size := lt_of_block h.log
  refine ⟨hc.obj h.head h.ne, ?_, ?_, h.ne, ?_, ?_, ?_, ?_, ?_, ?_, ?_, ?_⟩
  · show w'.heap[S.r]? = some (.map ((S.rows ++ [x]).map Row.entry).toArray (S.clock + 1))
    rw [hm]; simp
  · intro y hy
    rcases hmem y hy with hy | rfl
    · have hr := h.rows y hy
      have hp := (h.pr y hy).2
      exact ⟨hc.obj hr.tl (fun e => hp (by simp [Row.blocks, ← e])), hc.owns hr.was fun k hk e => hp (by simp [Row.blocks, ← e, hk]), hc.owns hr.now fun k hk e => hp (by simp [Row.blocks, ← e, hk])⟩
    · exact hl
  · intro y hy
    rcases hmem y hy with hy | rfl
    · exact h.pr y hy
    · exact ⟨fun hk => by have h1 := hxl _ hk; have h2 : w.heap.size ≤ S.p := h1; omega, fun hk => by have h1 := hxl _ hk; have h2 : w.heap.size ≤ S.r := h1; omega⟩
  · intro y hy
    rcases hmem y hy with hy | rfl
    · exact h.own y hy
    · exact hx
  · intro y hy z hz hne k hk hk2
    rcases hmem y hy with hy1 | rfl <;> rcases hmem z hz with hz1 | rfl
    · exact h.far y hy1 z hz1 hne k hk hk2
    · have := hlt y hy1 k hk; have := hxl k hk2; omega
    · have := hlt z hz1 k hk2; have := hxl k hk; omega
    · exact hne rfl
  · intro k hk
    simp only [Ses.blocks, List.mem_cons] at hk
    rcases hk with rfl | rfl | hk
    · exact h.old _ (by simp [Ses.blocks, Ses.plus])
    · exact h.old _ (by simp [Ses.blocks, Ses.plus])
    · obtain ⟨y, hy, hk'⟩ := List.mem_flatMap.1 hk
      rcases hmem y hy with hy | rfl
      · exact h.old k (by simp only [Ses.blocks, List.mem_cons]; exact .inr (.inr (List.mem_flatMap.2 ⟨y, hy, hk'⟩)))
      · have := hxl k hk'; omega
  · show (S.rows ++ [x]).Pairwise _
    rw [List.pairwise_append]
    refine ⟨h.dif, List.pairwise_singleton _ _, fun a ha b hb => ?_⟩
    obtain rfl : b = x := by simpa using hb
    exact hnb a ha
  · intro y hy
    rcases hmem y hy with hy | rfl
    · exact h.fine y hy
    · exact hf
  · show (S.rows ++ [x]).length ≤ 8
    simp; omega
  · refine ⟨fun y hy => ?_, ?_⟩
    · show y.born < S.clock + 1
      rcases hmem y hy with hy | rfl
      · have := h.born.1 y hy; omega
      · omega
    · show ((S.rows ++ [x]).map (·.born)).Nodup
      rw [List.map_append, List.nodup_append]
      refine ⟨h.born.2, by simp, fun a ha b hb e => ?_⟩
      obtain ⟨y, hy, rfl⟩ := List.mem_map.1 ha
      obtain rfl : b = x.born := by simpa using hb
      have := h.born.1 y hy
      omega
end Go.Proofs.Ytpdchdbkfflgfaa
