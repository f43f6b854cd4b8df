/- slices.SortFunc at calls. -/
import Derived.Test.YtojgalggibmjjaaE
import Derived.Test.YtojgalggibmjjaaF0
namespace Go.Proofs.Ytojgalggibmjjaa
open Go.RowKit Go.Sort Go.Lib Go.Shelf

theorem cmpC_lt (x y : Cl) : cmpC x y < 0 ↔ x.due < y.due ∨ (x.due = y.due ∧ x.id < y.id) := by
  unfold cmpC orI cmpI
  split <;> split <;> (try split) <;> (try split) <;> (try split) <;> omega
theorem swoC : SWO (ltOf cmpC) where
  irrefl x := by unfold ltOf; rw [decide_eq_false_iff_not, cmpC_lt]; omega
  trans x y z h1 h2 := by
    unfold ltOf at *
    rw [decide_eq_true_eq, cmpC_lt] at *
    omega
  ntrans x y z h1 h2 := by
    unfold ltOf at *
    rw [decide_eq_false_iff_not, cmpC_lt] at *
    omega
theorem flatC_get (K : List Cl) : ∀ i t, t < 5 → (flatC K)[i * 5 + t]? = (K[i]?).bind fun c => c.cells[t]? := by
  induction K with
  | nil => intro i t _; simp [flatC]
  | cons c l ih =>
    intro i t ht
    have e : flatC (c :: l) = c.cells ++ flatC l := by simp [flatC]
    have hl : c.cells.length = 5 := rfl
    rw [e]
    cases i with
    | zero =>
      rw [List.getElem?_append_left (by omega)]
      simp
    | succ i =>
      rw [List.getElem?_append_right (by omega), show (i + 1) * 5 + t - c.cells.length = i * 5 + t from by omega, ih i t ht]
      simp
theorem flatK_get (K : List Cl) (j : Nat) (hj : j < K.length * 5) : (flatC K)[j]? = some ((flatK Cl.cells 5 K.toArray)[j]!) := by
  have h1 := flatC_get K (j / 5) (j % 5) (Nat.mod_lt _ (by omega))
  rw [show j / 5 * 5 + j % 5 = j from by omega] at h1
  have hq : j / 5 < K.length := by omega
  rw [h1, List.getElem?_eq_getElem hq]
  have hm : j % 5 < 5 := Nat.mod_lt _ (by omega)
  have e : (flatK Cl.cells 5 K.toArray)[j]! = (Cl.cells K.toArray[j / 5]!)[j % 5]! := by
    unfold flatK
    rw [getElem!_pos _ j (by simpa using hj)]
    simp
  rw [e, getElem!_pos K.toArray (j / 5) (by simpa using hq)]
  simp only [Option.bind_some, List.getElem_toArray]
  rw [getElem!_pos (K[j / 5].cells) (j % 5) hm, List.getElem?_eq_getElem hm]
theorem flatK_size (K : List Cl) : (flatK Cl.cells 5 K.toArray).size = K.length * 5 := by simp [flatK]
theorem put_take (cur : Array Value) (K : List Cl) (h : K.length * 5 ≤ cur.size) : (putCells id 0 (flatK Cl.cells 5 K.toArray) cur).toList.take (K.length * 5) = flatC K := by
  apply List.ext_getElem?
  intro j
  rw [List.getElem?_take]
  by_cases hj : j < K.length * 5
  · rw [if_pos hj, flatK_get K j hj, Array.getElem?_toList]
    unfold putCells
    rw [Array.getElem?_mapIdx, Array.getElem?_eq_getElem (by omega)]
    simp only [Option.map_some, id_eq, Nat.sub_zero]
    rw [if_pos ⟨Nat.zero_le _, by rw [flatK_size]; omega⟩]
  · rw [if_neg hj, List.getElem?_eq_none (by rw [flatC_length]; omega)]
theorem orderC (blk off size : Nat) (w : World) : CmpLays Try.prog 40 #[] Cl.cells 5 cmpC blk off size w := by
  intro m os dk _ x y
  exact order_any x y _
theorem ins_none (fv : Value) (w : World) : Calls Try.prog 55 #[.slice none 0 0, .int .i64 0, .int .i64 0, fv] w fun e w' => e = .returned (.tuple #[]) ∧ w = w' := by
  go_enter Try.func55, Try.ntmps55
  go_wp2
  refine wp_loop_rounds 1 ?_
  rw [rounds_succ]
  go_wp2
  go_end0
  exact ⟨rfl, rfl⟩
set_option maxRecDepth 100000 in
theorem pdq_none (lim : Int) (fv : Value) (w : World) : Calls Try.prog 49 #[.slice none 0 0, .int .i64 0, .int .i64 0, .int .i64 lim, fv] w fun e w' => e = .returned (.tuple #[]) ∧ w = w' := by
  go_enter Try.func49, Try.ntmps49
  go_wp2
  refine wp_loop_rounds 1 ?_
  rw [rounds_succ]
  go_wp2_with (go_at_call 55; refine (ins_none _ _).mono ?_; rintro e w1 ⟨rfl, rfl⟩)
  (try simp only [Exit.inBlock, Exit.then]); refine bodyPost_ret (results_none rfl _ _ _) rfl ?_
  exact ⟨rfl, rfl⟩
theorem len_zero (w : World) : Calls Try.prog 50 #[.int .u64 0] w fun e w' => e = .returned (.int .i64 (Lib.bitLen 0 : Nat)) ∧ w = w' := by
  have h := Any.bits_Len (SlLaysF0.n15.bits (P := Try.prog) (ρ := Try.sortC_ren) { Try.sortC with }) 0 w (by omega) (by omega)
  change Calls Try.prog 50 _ _ _ at h
  exact h.mono fun _ _ ⟨h1, h2⟩ => ⟨h1, h2.symm⟩
theorem sort_none (fv : Value) (w : World) : Calls Try.prog 39 #[.slice none 0 0, fv] w fun e w' => e = .returned (.tuple #[]) ∧ w = w' := by
  go_enter Try.func39, Try.ntmps39
  go_wp2_with (first
    | (go_at_call 50; refine (len_zero _).mono ?_; rintro e w1 ⟨rfl, rfl⟩)
    | (go_at_call 49; refine (pdq_none _ _ _).mono ?_; rintro e w1 ⟨rfl, rfl⟩))
  go_end0
  exact ⟨rfl, rfl⟩
set_option maxRecDepth 100000 in
theorem sortC_any (B : Nat) (v : Value) (K : List Cl) (w : World) (ho : w.ownsRow B 52 5 v K.length (flatC K)) (h8 : K.length ≤ 256) :
    Calls Try.prog 39 #[v, .func (.func 40) #[] #[]] w fun e w' => e = .returned (.tuple #[]) ∧ (∃ K', K'.Perm K ∧ SortedC K' ∧ w'.ownsRow B 52 5 v K.length (flatC K')) ∧ Chg (fun q => v.ownBlock = some q) w w' := by
  rcases ho.2 with ⟨rfl, h0⟩ | ⟨g, cap, cur, rfl, hb, hg, h1, h2, h3, h4⟩
  · obtain rfl := List.eq_nil_of_length_eq_zero h0
    refine (sort_none _ w).mono ?_
    rintro e w' ⟨rfl, rfl⟩
    exact ⟨rfl, ⟨[], List.Perm.refl _, List.Pairwise.nil, ho⟩, .refl _ _⟩
  · have hH : HoldsK Cl.cells 5 w g 0 K.toArray := by
      intro j hj
      rw [flatK_size] at hj
      have hf := flatK_get K j hj
      rw [← h4, List.getElem?_take, if_pos hj, Array.getElem?_toList] at hf
      refine ⟨?_, free_row hg _⟩
      rw [Nat.zero_add]
      exact cell_row hg hf
    have eg : ∀ args w, (callFunc 40 args).run Try.prog w = .ok (.enter 40 args) w := enters_of Try.func40 (by kernel_rfl) rfl
    have hs := AnyQ.slices_SortFunc (ρ := Try.sortC_ren) Try.sortC 5 Try.isAgg52 Try.sizeOf52 Cl.cells (fun _ => rfl) (fun x v hv => by
      simp only [Cl.cells, List.mem_cons, List.not_mem_nil, or_false] at hv
      rcases hv with rfl | rfl | rfl | rfl | rfl <;> rfl) cmpC swoC 40 #[] g 0 cap K.toArray w eg (orderC g 0 _ w) hH (lt_of_block hg) (by simp; omega)
    change Calls Try.prog 39 _ _ _ at hs
    simp only [List.size_toArray] at hs
    refine hs.mono ?_
    rintro e w' ⟨rfl, d', n, os, hp, hso, rfl⟩
    have hds : d'.size = K.length := by have := hp.1; simpa using this
    have hfull : ∀ (d : Array Cl), d.size = K.length → (d.extract 0 K.length).toList = d.toList := by
      intro d hd
      rw [← hd]; simp
    have hperm : d'.toList.Perm K := by
      have := hp.2.2
      rw [hfull d' hds, hfull K.toArray (by simp)] at this
      simpa using this
    have hgs := lt_of_block hg
    have hheap : (sortWorldK Cl.cells 5 w g 0 n d' os).heap[g]? = some (.cells (putCells id 0 (flatK Cl.cells 5 d') cur) 52 (0, 0)) := by
      show ((mapBlock (Sort.ahead w n) g (putCells id 0 (flatK Cl.cells 5 d'))).heap ++ os)[g]? = _
      rw [Array.getElem?_append_left (by simpa [mapBlock] using hgs)]
      show (w.heap.modify g (onCells (putCells id 0 (flatK Cl.cells 5 d'))))[g]? = _
      rw [Array.getElem?_modify, if_pos rfl, hg]
      rfl
    refine ⟨rfl, ⟨d'.toList, hperm, ?_, ?_⟩, ?_⟩
    · unfold SortedC
      rw [List.pairwise_iff_getElem]
      intro i j hi hj hij
      have hi' : i < d'.size := by simpa using hi
      have hj' : j < d'.size := by simpa using hj
      have := hso i j (Nat.zero_le _) hij (by omega)
      rw [getElem!_pos d' i hi', getElem!_pos d' j hj'] at this
      unfold ltOf at this
      rw [decide_eq_false_iff_not] at this
      simpa using this
    · have hl : d'.toList.length = K.length := by simpa using hds
      have ht := put_take cur d'.toList (by rw [hl, h3]; omega)
      rw [hl] at ht
      refine ⟨by rw [flatC_length, hl], .inr ⟨g, cap, _, rfl, hb, hheap, h1, h2, ?_, by simpa using ht⟩⟩
      unfold putCells
      rw [Array.size_mapIdx]; exact h3
    · refine ⟨rfl, rfl, rfl, ?_, fun k hk hf => ?_⟩
      · have := size_sortWorldK_c Cl.cells 5 w g 0 n d' os
        exact this
      · show ((mapBlock (Sort.ahead w n) g (putCells id 0 (flatK Cl.cells 5 d'))).heap ++ os)[k]? = _
        rw [Array.getElem?_append_left (by simpa [mapBlock] using hk)]
        show (w.heap.modify g (onCells (putCells id 0 (flatK Cl.cells 5 d'))))[k]? = _
        rw [Array.getElem?_modify, if_neg (fun e => hf (by rw [e]; rfl))]
end Go.Proofs.Ytojgalggibmjjaa
