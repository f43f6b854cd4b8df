/- slices.Clone, Insert, Delete, Equal at entries. -/
import Derived.Test.YtpdchdbkfflgfaaE
namespace Go.Proofs.Ytpdchdbkfflgfaa
open Go.RowKit

def zEnt : Value := .agg #[.string ⟨#[]⟩, .string ⟨#[]⟩]
theorem info65 : (Try.prog.info? 65).map (fun i => (i.zero, i.size, i.bytes)) = some (some zEnt, 2, 32) := by kernel_rfl
theorem add_lit (b o j : Nat) : (⟨b, o, none⟩ : Addr).add j = ⟨b, o + j, none⟩ := by
  unfold Addr.add; split
  · rename_i h; subst h; rfl
  · rfl
theorem flat_get (l : List Ent) (j : Nat) (u : Value) (h : (flat l)[j]? = some u) : ∃ i, ∃ hi : i < l.length, (j = 2 * i ∧ u = .string l[i].1) ∨ (j = 2 * i + 1 ∧ u = .string l[i].2) := by
  have hj : j < (flat l).length := (List.getElem?_eq_some_iff.1 h).1
  rw [flat_length] at hj
  refine ⟨j / 2, by omega, ?_⟩
  rcases Nat.mod_two_eq_zero_or_one j with h0 | h0
  · left
    have h1 := flat_key l (j / 2) (by omega)
    rw [show 2 * (j / 2) = j from by omega, h] at h1
    exact ⟨by omega, by simpa using h1⟩
  · right
    have h1 := flat_val l (j / 2) (by omega)
    rw [show 2 * (j / 2) + 1 = j from by omega, h] at h1
    exact ⟨by omega, by simpa using h1⟩
theorem reads_news {w : World} {ad : Addr} {l : List Ent} (hr : l = [] ∨ ∃ b o, some ad = some ⟨b, o, none⟩ ∧ ∀ i (h : i < l.length), w.cell? ⟨b, o + i * 2, none⟩ = some (.string l[i].1) ∧ w.cell? ⟨b, o + i * 2 + 1, none⟩ = some (.string l[i].2)) :
    ∀ j u, (flat l)[j]? = some u → w.cell? (ad.add j) = some u := by
  intro j u h
  rcases hr with rfl | ⟨b, o, he, hc⟩
  · simp [flat] at h
  · obtain rfl : ad = ⟨b, o, none⟩ := by simpa using he
    obtain ⟨i, hi, h1⟩ := flat_get l j u h
    rw [add_lit]
    rcases h1 with ⟨rfl, rfl⟩ | ⟨rfl, rfl⟩
    · rw [Nat.mul_comm]; exact (hc i hi).1
    · rw [Nat.mul_comm, ← Nat.add_assoc]; exact (hc i hi).2
theorem cell_alloc {w : World} {p : Addr} {v : Value} (h : w.cell? p = some v) (o : Obj) : (w.alloc o).cell? p = some v := (World.cell?_of_block (Below.heap_alloc w o p.block (World.block_lt_of_cell? w p h))).trans h
theorem flat_one (l : List Ent) : ∀ u ∈ flat l, u.oneCell' = true := by
  intro u hu
  obtain ⟨e, _, h⟩ := List.mem_flatMap.1 hu
  rcases List.mem_cons.1 h with rfl | h
  · rfl
  · rcases List.mem_cons.1 h with rfl | h
    · rfl
    · cases h
set_option maxHeartbeats 400000 in
theorem clone_any (v : Value) (l : List Ent) (w : World) (hr : Reads w v l) (h8 : l.length ≤ 8) :
    Calls Try.prog 28 #[v] w fun e w' => ∃ v', e = .returned v' ∧ w'.ownsRow w.heap.size 65 2 v' l.length (flat l) ∧ Chg (fun _ => False) w w' := by
  obtain ⟨i0, hi, hz0, hz1, hz2⟩ := info_parts info65
  obtain ⟨a, c, rfl, hlc, hcm, hr⟩ := hr
  cases a with
  | none =>
    have hl : l = [] := by
      rcases hr with h | ⟨b, o, h, _⟩
      · exact h
      · cases h
    subst hl
    have he := fun w => Lib.run_eql_slice_nil (P := Try.prog) (w := w)
    go_enter Try.func28, Try.ntmps28
    go_wp2
    go_ret
    exact ⟨_, rfl, World.ownsRow_nil _ _ _ _, .refl _ _⟩
  | some ad =>
    have he := fun w => Lib.run_eql_slice_nil (P := Try.prog) (w := w)
    go_enter Try.func28, Try.ntmps28
    have hn := reads_news hr
    have HN := Lib.hid hn
    clear hn hr
    have hown := World.ownsRow_made (base := w.heap.size) (e := 65) (size := 2) w #[] 0 (Nat.le_refl _) (by unfold maxLen; omega) rfl
    have h32 : (0 + l.length) * 32 ≤ 140737488355328 := by omega
    have h63 : 0 + l.length ≤ maxLen := by unfold maxLen; omega
    have hba : w.heap.size ≤ (w.alloc (Obj.cells #[] 65)).heap.size := by simp
    go_wp2_with ((at_builtin; refine wpList_append_own _ rfl _ _ 33 rfl w.heap.size 65 i0 zEnt 2 32 Try.underlying33 hi hz0 hz1 hz2 rfl (by decide) _ _ _ rfl hown ad l.length c (flat l) rfl (flat_length l) (fun j u h => cell_alloc (HN.out j u h) _) (flat_one l) h63 h32 hba ?_; intro v' w1 hown1 hgrow1 _))
    go_ret
    simp only [Nat.zero_add, List.nil_append] at hown1
    exact ⟨_, rfl, hown1, ((Chg.refl _ w).alloc _).trans (Chg.of_grown hgrow1 (F := fun k => w.heap.size ≤ k) (fun k e => by cases e; exact Nat.le_refl _)) (fun x h1 h2 => by omega)⟩
end Go.Proofs.Ytpdchdbkfflgfaa
