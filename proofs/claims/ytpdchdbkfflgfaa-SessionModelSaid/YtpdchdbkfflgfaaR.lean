/- slices.Sorted(maps.Keys(log)). -/
import Derived.Test.YtpdchdbkfflgfaaQ
import Derived.Test.YtpdchdbkfflgfaaR0
namespace Go.Proofs.Ytpdchdbkfflgfaa
open Go.RowKit Go.Maps Go.Sort Go.Shelf
open Go.WideElems (Fit rg)

def anyR : Value → Option (DataW Unit × List MemPlace) := fun _ => some (.lit (.bool false), [])
theorem rd_row (x : Row) (h : x.d.Fine) : Go.WideElems.rd Try.prog 3 anyR x.entry = some (.int .i64 x.d.b, .lit (.bool false)) := by
  have h0 := h.b0
  have h1 := h.b1
  have hw : (Lit.int .i64 x.d.b).wf = true := by
    simp only [Lit.wf, Bool.and_eq_true, IntKind.min, IntKind.max]
    constructor <;> simp [IntKind.bits, IntKind.signed] <;> omega
  have hk : keyOf Try.prog 3 (.int .i64 x.d.b) = some (.int .i64 x.d.b) := by
    simp [keyOf, Try.underlying3, mapKey, hw]
  show Option.bind (keyOf Try.prog 3 (.int .i64 x.d.b)) _ = _
  rw [hk]; rfl
theorem fit_rows {B : Nat} {S : Ses} {w : World} (h : S.Lies B w) : Fit Try.prog 3 anyR (S.rows.map Row.entry).toArray S.clock := by
  refine ⟨?_, ⟨?_, ?_, ?_⟩, ?_⟩
  · have := h.few; simp; unfold maxLen; omega
  · intro x hx
    obtain ⟨y, hy, rfl⟩ := List.mem_map.1 (by simpa using hx)
    exact h.born.1 y hy
  · have : (S.rows.map Row.entry).toArray.toList.map (·.born) = S.rows.map (·.born) := by simp [Row.entry, Function.comp_def]
    rw [this]; exact h.born.2
  · have : (S.rows.map Row.entry).toArray.toList.map (·.key) = S.rows.map (fun x => Value.int .i64 x.d.b) := by simp [Row.entry, Function.comp_def]
    rw [this]
    exact List.pairwise_map.2 (h.dif.imp (fun {a b} hab e => hab (by injection e)))
  · intro x hx
    obtain ⟨y, hy, rfl⟩ := List.mem_map.1 (by simpa using hx)
    exact ⟨_, rd_row y (h.fine y hy)⟩
theorem own_map {B : Nat} {S : Ses} {w : World} (h : S.Lies B w) : ∃ D : DataW Unit, w.ownsMap Try.prog 3 anyR S.r S.rows.length D ∧ (intKeys D).Perm (S.rows.map (·.d.b)) ∧ Maps.size D = S.rows.length := by
  have hp : (intKeys (H := Unit) (.map (((S.rows.map Row.entry).toArray.toList.map (rg Try.prog 3 anyR)).foldr DataW.insert []))).Perm (S.rows.map (·.d.b)) := by
    show (List.map _ _).Perm _
    refine ((Go.WideShapes.sorted_perm _).map _).trans ?_
    rw [List.toList_toArray, List.map_map, List.map_map]
    refine List.Perm.of_eq ?_
    apply List.map_congr_left
    intro x hx
    simp only [Function.comp]
    rw [Go.WideElems.rg_of (rd_row x (h.fine x hx))]
    rfl
  exact ⟨_, ⟨_, _, h.log, fit_rows h, by simp, rfl⟩, hp, by have := hp.length_eq; simpa [intKeys, Maps.size] using this⟩
theorem sortsA (m : Nat) : AnyZI.SortsIn Try.prog Try.sortedA_ren Fence.wide m :=
  ⟨fun blk off cap ss W hH hblk hsz => callsIn_wide.2 (AnyM.slices_Sort_int Try.sortA blk off cap ss W hH hblk hsz),
   fun p cap W => callsIn_wide.2 (AnyM.slices_Sort_int_none Try.sortA p cap W)⟩
theorem keys_any (mb : Option Nat) (W : World) : Calls Try.prog 33 #[.map mb] W fun e w' => e = .returned (.func (.func 49) #[] #[.pointer (some ⟨W.heap.size, 0, none⟩)]) ∧ w' = W.alloc (.cells #[.map mb] 75) :=
  (callsIn_wide (n := 5)).1 (AnyZI.keys_in Try.keysA Fence.wide 5 trivial rfl mb W)
def sortInts (l : List Int) : List Int := l.mergeSort (fun x y => decide (x ≤ y))
theorem sorted_any {B : Nat} {S : Ses} (w : World) (h : S.Lies B w) : Calls Try.prog 32 #[.func (.func 49) #[] #[.pointer (some ⟨w.heap.size, 0, none⟩)]] (w.alloc (.cells #[.map (some S.r)] 75)) fun e w' => ∃ v, e = .returned v ∧
    w'.ownsRow (w.heap.size + 1) 3 1 v S.rows.length ((sortInts (S.rows.map (·.d.b))).map encZ) ∧ Chg (fun _ => False) w w' := by
  have hf := h.few
  obtain ⟨D, hown, hperm, hsz⟩ := own_map (h.same ((Chg.refl _ w).alloc (.cells #[.map (some S.r)] 75)))
  have hseq : SeqGives Fence.wide 2 Try.prog 49 #[.pointer (some ⟨w.heap.size, 0, none⟩)] encZ (fun ss => ss.Perm (intKeys D)) (Maps.size D) (w.alloc (.cells #[.map (some S.r)] 75)) :=
    AnyZI.keys_gives (ρ := Try.keysA_ren) { Try.keysA with } Fence.wide _ trivial rfl (by omega) w.heap.size S.r S.rows.length D _ (by simp) (by simp) hown
  have cS := AnyZI.sorted_in Try.sortedA Fence.wide 5 trivial trivial trivial trivial rfl (by omega) (sortsA _) (enters_of Try.func48 (by kernel_rfl) rfl) 49 #[.pointer (some ⟨w.heap.size, 0, none⟩)] trivial (enters_of Try.func49 (by kernel_rfl) rfl) _ _ (by rw [hsz]; unfold maxLen; omega) (by rw [hsz]; omega) _ hseq
  change CallsIn _ _ Try.prog 32 _ _ _ at cS
  refine (callsIn_wide.1 cS).mono ?_
  rintro e w' ⟨v, ss, rfl, hS, hrow, _, hb⟩
  have hp := hS.trans hperm
  have hl : ss.length = S.rows.length := by simpa using hp.length_eq
  rw [hl, mergeSort_of_perm_i hp, World.size_alloc] at hrow
  exact ⟨v, rfl, hrow, ((Chg.refl _ w).alloc _).trans (Chg.of_below hb _) (fun _ h => h)⟩
end Go.Proofs.Ytpdchdbkfflgfaa
