/- NewCalls; Open. -/
import Derived.Test.YtojgalggibmjjaaE
namespace Go.Proofs.Ytojgalggibmjjaa
open Go.RowKit

set_option maxRecDepth 100000 in
set_option maxHeartbeats 1000000 in
theorem new_ok (room base most tries : Int) (w : World) (h1 : 1 ≤ room) (h2 : room ≤ 256) (h3 : fairB base most = true) (h4 : 1 ≤ tries) (h5 : tries ≤ 16) :
    Calls Try.prog 7 #[.int .i64 room, .int .i64 base, .int .i64 most, .int .i64 tries] w fun e w' => ∃ S : Cs, e = .returned (.tuple #[.pointer (some ⟨S.p, 0, none⟩), .int .i64 0]) ∧ S.Lies w.heap.size w' ∧ (∃ p r, S = ⟨p, r, 0, room, base, most, tries, 0, []⟩) ∧ Chg (fun _ => False) w w' := by
  have hmm := @run_makeMap Try.prog
  have H3 := Lib.hid h3
  have d1 : decide (room < 1) = false := by simp; omega
  have d2 : decide (256 < room) = false := by simp; omega
  have d3 : decide (tries < 1) = false := by simp; omega
  have d4 : decide (16 < tries) = false := by simp; omega
  clear h3
  have hb1 := heap_alloc_new w (.map #[] 0)
  have hb2 := heap_alloc_new (w.alloc (.map #[] 0)) (.cells #[.int .i64 room, .int .i64 base, .int .i64 most, .int .i64 tries, .int .u64 0, .map (some w.heap.size)] 74)
  have hb3 := heap_alloc_old (w.alloc (.map #[] 0)) (.cells #[.int .i64 room, .int .i64 base, .int .i64 most, .int .i64 tries, .int .u64 0, .map (some w.heap.size)] 74) (r := w.heap.size) (by simp)
  rw [World.size_alloc] at hb2
  have HB := Lib.hid (And.intro hb2 (hb3.trans hb1))
  clear hb1 hb2 hb3
  go_enter Try.func7, Try.ntmps7
  go_wp2_with (go_at_call 23; refine (fair_any _ _ _).mono ?_; rintro e w1 ⟨rfl, rfl⟩; rw [H3.out])
  go_ret2
  refine ⟨⟨w.heap.size + 1, w.heap.size, 0, room, base, most, tries, 0, []⟩, rfl, ⟨HB.out.1, HB.out.2, by simp, by simp, Nat.le_refl _, by simp, by simp, by simp, by simp, by simp; omega, by simp, ⟨h1, h2, H3.out, h4, h5, Int.le_refl 0, show (0 : Int) ≤ 4611686018427387904 by decide⟩⟩, ⟨_, _, rfl⟩, ((Chg.refl _ w).alloc _).alloc _⟩
theorem findNow_u64 (L : List (Cl × Nat)) (b : Int) : ∀ i, Instr.findNow (.int .u64) (.int .u64 b) (L.map ent) i =
    some ((L.zipIdx i).findSome? fun x => if x.1.1.id = b then some (x.2, x.1.1.val) else none) := by
  induction L with
  | nil => intro i; rfl
  | cons x l ih =>
    intro i
    simp only [List.map_cons, Instr.findNow, ent, Instr.sameNow, if_true, List.zipIdx_cons, List.findSome?_cons]
    by_cases h : x.1.id = b
    · simp [h]
    · have h1 : (b == x.1.id) = false := by simp; omega
      simp only [h1, h, if_false]
      exact ih (i + 1)
theorem update_push {P : Program} {T kT eT : TypeId} {W : World} {r c : Nat} {es : Array MapEntry} {b : Int} (v : Value) (hT : P.underlying T = some (.map kT eT)) (hk : P.underlying kT = some (.int .u64)) (h : W.heap[r]? = some (.map es c))
    (hf : Instr.findNow (.int .u64) (.int .u64 b) es.toList 0 = some none) : ∃ W' : World, W'.heap[r]? = some (.map (es.push ⟨.int .u64 b, v, c⟩) (c + 1)) ∧ W.grownBy W' (some r) ∧ (Instr.mapUpdate T (.map (some r)) (.int .u64 b) v).run P W = .ok () W' := by
  have h1 := fun e => MapKept.run_checkKey (P := P) (w := W) (kt := kT) (k := .int .u64 b) hk rfl e 9999
  have h2 := MapKept.run_findKey (P := P) (w := W) (kt := kT) hk hf
  refine ⟨{ W with heap := W.heap.setIfInBounds r (.map (es.push ⟨.int .u64 b, v, c⟩) (c + 1)) }, (MapKept.heap_set h).1, ⟨rfl, rfl, rfl, by simp, fun k _ hk2 => (MapKept.heap_set h).2 k (fun e => hk2 (by rw [e]))⟩, ?_⟩
  unfold Instr.mapUpdate
  rw [Sem.run_bind, run_underlying hT]
  simp only [Result.andThen, Sem.run_bind, MapKept.run_getObj_map h, h1, h2]
  exact MapKept.run_setObj_map _ h
theorem len_map {P : Program} {T kT eT : TypeId} {W : World} {r c : Nat} {es : Array MapEntry} (hT : P.underlying T = some (.map kT eT)) (h : W.heap[r]? = some (.map es c)) (ty : TypeId) :
    (Builtin.len_ #[T] ty #[.map (some r)]).run P W = .ok (.int .i64 es.size) W := by
  simp only [Builtin.len_, List.getElem?_toArray, List.getElem?_cons_zero, Sem.run_bind, run_underlying hT, Result.andThen, MapKept.run_getObj_map h, Sem.run_pure]
  rfl
theorem es_size (S : Cs) : (S.es.size : Int) = (S.L.length : Int) := by simp [Cs.es]
theorem heap_setCell_same {w : World} {g o : Nat} {cur : Array Value} {t : TypeId} {fr : Nat × Nat} (h : w.heap[g]? = some (.cells cur t fr)) (v : Value) : (w.setCell ⟨g, o, none⟩ v).heap[g]? = some (.cells (cur.setIfInBounds o v) t fr) := by
  have hl := lt_of_block h
  have h' : w.heap[g] = .cells cur t fr := by simpa [Array.getElem?_eq_getElem hl] using h
  show (w.heap.modify g _)[g]? = _
  rw [Array.getElem?_eq_getElem (by simpa using hl), Array.getElem_modify_self, h']
  rfl
/-- The call that Open makes. -/
def Cs.opened (S : Cs) (to now : Int) : Cl := ⟨S.last + 1, to, now, 1, now + waitV S.base S.most 0⟩
def Cs.open (S : Cs) (to now : Int) : Cs := { S with clock := S.clock + 1, last := S.last + 1, L := S.L ++ [(S.opened to now, S.clock)] }
theorem wait_bnd (b m k : Int) : 0 ≤ waitV b m k ∧ waitV b m k ≤ 1073741824 := by
  unfold waitV
  split
  · rename_i h
    have hf := h.1
    unfold fairB at hf
    rw [Bool.and_eq_true, Bool.and_eq_true] at hf
    have h1 : 1 ≤ b := of_decide_eq_true hf.1.1
    have h2 : b ≤ m := of_decide_eq_true hf.1.2
    have h3 : m ≤ 1073741824 := of_decide_eq_true hf.2
    have hp := pow30 (min k.toNat 30) (by omega)
    generalize (2 : Int) ^ (min k.toNat 30) = x at hp
    have h4 : 0 ≤ b * x := Int.mul_nonneg (by omega) (by omega)
    omega
  · omega
theorem findNow_none {S : Cs} (b : Int) (hb : ∀ x ∈ S.L, x.1.id ≠ b) : Instr.findNow (.int .u64) (.int .u64 b) S.es.toList 0 = some none := by
  unfold Cs.es
  rw [List.toList_toArray, findNow_u64]
  congr 1
  rw [List.findSome?_eq_none_iff]
  intro x hx
  have := hb x.1 (List.fst_mem_of_mem_zipIdx hx)
  simp [this]
/-- Behind a new call: the state. -/
theorem open_lies {B : Nat} {S : Cs} {w wA W' : World} (h : S.Lies B w) (hl : S.last < 4611686018427387904) (hroom : (S.L.length : Int) < S.room) (to now : Int) (hA : wA = w.setCell ⟨S.p, 4, none⟩ (.int .u64 (S.last + 1)))
    (hm : W'.heap[S.r]? = some (.map (S.es.push ⟨.int .u64 (S.last + 1), (S.opened to now).val, S.clock⟩) (S.clock + 1))) (hg : wA.grownBy W' (some S.r)) : (S.open to now).Lies B W' ∧ Chg (fun q => q = S.p ∨ q = S.r) w W' := by
  have cA : Chg (fun q => q = S.p ∨ q = S.r) w wA := by rw [hA]; exact (Chg.refl _ w).setCell (.inl (.inl rfl)) _
  have cG : Chg (fun q => q = S.r) wA W' := Chg.of_grown hg (F := fun q => q = S.r) (fun q h => by injection h with h; exact h.symm)
  have hhead : wA.heap[S.p]? = some (.cells (S.open to now).head 74 (0, 0)) := by rw [hA]; exact heap_setCell_same h.head _
  have hs := h.set
  refine ⟨⟨cG.obj hhead h.ne, ?_, h.ne, h.op, h.or, ?_, ?_, ?_, ?_, ?_, ?_, ?_⟩, cA.trans cG (fun q hq _ => .inr hq)⟩
  · have e : (S.open to now).es = S.es.push ⟨.int .u64 (S.last + 1), (S.opened to now).val, S.clock⟩ := by
      simp [Cs.es, Cs.open, ent, Cs.opened]
    rw [e]; exact hm
  · intro x hx
    rcases List.mem_append.1 hx with hx | hx
    · have := h.lt x hx
      show x.2 < S.clock + 1
      omega
    · obtain rfl : x = (S.opened to now, S.clock) := by simpa using hx
      exact Nat.lt_succ_self _
  · show ((S.L ++ [(S.opened to now, S.clock)]).map (·.2)).Nodup
    rw [List.map_append, List.nodup_append]
    refine ⟨h.born, by simp, fun a ha b hb e => ?_⟩
    obtain ⟨x, hx, rfl⟩ := List.mem_map.1 ha
    have := h.lt x hx
    have hb' : b = S.clock := by simpa using hb
    omega
  · show ((S.L ++ [(S.opened to now, S.clock)]).map (·.1.id)).Nodup
    rw [List.map_append, List.nodup_append]
    refine ⟨h.ids, by simp, fun a ha b hb e => ?_⟩
    obtain ⟨x, hx, rfl⟩ := List.mem_map.1 ha
    have := (h.bnd x hx).2.1
    have hb' : b = S.last + 1 := by simpa [Cs.opened] using hb
    omega
  · show (S.L ++ [(S.opened to now, S.clock)]).length ≤ 256
    rw [List.length_append]
    simp only [List.length_cons, List.length_nil]
    omega
  · show ((S.L ++ [(S.opened to now, S.clock)]).length : Int) ≤ S.room
    rw [List.length_append]
    simp only [List.length_cons, List.length_nil]
    omega
  · intro x hx
    rcases List.mem_append.1 hx with hx | hx
    · have := h.bnd x hx
      exact ⟨this.1, by show x.1.id ≤ S.last + 1; omega, this.2.2.1, this.2.2.2⟩
    · obtain rfl : x = (S.opened to now, S.clock) := by simpa using hx
      exact ⟨by show 1 ≤ S.last + 1; omega, Int.le_refl _, Int.le_refl _, hs.2.2.2.1⟩
  · exact ⟨hs.1, hs.2.1, hs.2.2.1, hs.2.2.2.1, hs.2.2.2.2.1, by show 0 ≤ S.last + 1; omega, by show S.last + 1 ≤ 4611686018427387904; omega⟩
set_option maxRecDepth 100000 in
set_option maxHeartbeats 1000000 in
theorem open_ok {B : Nat} {S : Cs} (to now : Int) (w : World) (h : S.Lies B w) (hl : S.last < 4611686018427387904) (h0 : 0 ≤ now) (h1 : now ≤ 1099511627776) (hroom : (S.L.length : Int) < S.room) :
    Calls Try.prog 15 #[.pointer (some ⟨S.p, 0, none⟩), .int .i64 to, .int .i64 now] w fun e w' => e = .returned (.tuple #[.int .u64 (S.last + 1), .int .i64 0]) ∧ (S.open to now).Lies B w' ∧ Chg (fun q => q = S.p ∨ q = S.r) w w' := by
  have c0 : w.cell? ⟨S.p, 0, none⟩ = some (.int .i64 S.room) := cell_row h.head rfl
  have c5 : w.cell? ⟨S.p, 5, none⟩ = some (.map (some S.r)) := cell_row h.head rfl
  have c4 : w.cell? ⟨S.p, 4, none⟩ = some (.int .u64 S.last) := cell_row h.head rfl
  have hn := fun n ty => len_map (P := Try.prog) Try.underlying72 (show (w.drewN n).heap[S.r]? = _ from h.log) ty
  rw [es_size] at hn
  have hne : ((S.L.length : Int) == S.room) = false := by simp; omega
  have d1 : decide (now < 0) = false := by simp; omega
  have d2 : decide (1099511627776 < now) = false := by simp; omega
  have hlast : 0 ≤ S.last := h.set.2.2.2.2.2.1
  have HL := Lib.hid h
  have HROOM := Lib.hid hroom
  have ff := free_row h.head 4
  have hw1 : IntKind.u64.wrap (S.last + 1) = S.last + 1 := by rw [IntKind.wrap_u64]; omega
  clear h hroom
  go_enter Try.func15, Try.ntmps15
  go_wp2_with fail
  go_quiet (fail)
  go_wp2_with fail
  obtain ⟨wA, hW⟩ : ∃ W : World, W = (w.drewN nq).setCell ⟨S.p, 4, none⟩ (.int .u64 (S.last + 1)) := ⟨_, rfl⟩
  rw [← hW]
  have hL2 := HL.out.same ((Chg.refl (fun _ => False) w).drewN nq)
  have hlog : wA.heap[S.r]? = some (.map S.es S.clock) := by rw [hW]; exact ((Chg.refl (fun q => q = S.p) (w.drewN nq)).setCell (.inl rfl) _).obj hL2.log (fun e => hL2.ne e.symm)
  have hhd : wA.heap[S.p]? = some (.cells (S.open to now).head 74 (0, 0)) := by rw [hW]; exact heap_setCell_same hL2.head _
  have k1 : wA.cell? ⟨S.p, 5, none⟩ = some (.map (some S.r)) ∧ wA.cell? ⟨S.p, 4, none⟩ = some (.int .u64 (S.last + 1)) ∧ wA.cell? ⟨S.p, 1, none⟩ = some (.int .i64 S.base) ∧ wA.cell? ⟨S.p, 2, none⟩ = some (.int .i64 S.most) :=
    ⟨cell_row hhd rfl, cell_row hhd rfl, cell_row hhd rfl, cell_row hhd rfl⟩
  have hwb := wait_bnd S.base S.most 0
  have hsum : IntKind.i64.wrap (now + waitV S.base S.most 0) = now + waitV S.base S.most 0 := by rw [IntKind.wrap_i64]; omega
  obtain ⟨W', hm, hg, hu⟩ := update_push (P := Try.prog) (S.opened to now).val Try.underlying72 Try.underlying48 (show wA.drew.heap[S.r]? = _ from hlog) (findNow_none (S := S) (S.last + 1) (fun x hx => by have := (hL2.bnd x hx).2.1; omega))
  have k2 : W'.cell? ⟨S.p, 5, none⟩ = some (.map (some S.r)) ∧ W'.cell? ⟨S.p, 4, none⟩ = some (.int .u64 (S.last + 1)) ∧ W'.cell? ⟨S.p, 1, none⟩ = some (.int .i64 S.base) ∧ W'.cell? ⟨S.p, 2, none⟩ = some (.int .i64 S.most) := by
    have cG : Chg (fun q => q = S.r) wA.drew W' := Chg.of_grown hg (F := fun q => q = S.r) (fun q h => by injection h with h; exact h.symm)
    exact ⟨cG.cell k1.1 hL2.ne, cG.cell k1.2.1 hL2.ne, cG.cell k1.2.2.1 hL2.ne, cG.cell k1.2.2.2 hL2.ne⟩
  have hu' : (Instr.mapUpdate 72 (.map (some S.r)) (.int .u64 (S.last + 1)) (.agg #[.int .u64 (S.last + 1), .int .i64 to, .int .i64 now, .int .i64 1, .int .i64 (now + waitV S.base S.most 0)])).run Try.prog wA.drew = .ok () W' := hu
  have FIN := Lib.hid (open_lies (W' := W') hL2 hl (HROOM.out) to now hW hm (show wA.grownBy W' (some S.r) from ⟨hg.os, hg.tape, hg.output, hg.size, hg.block⟩))
  clear hu hm hg hlog hhd hL2 c0 c5 c4 hn hne hwb ff hW
  go_region_held3 (fun w' => w'.cell? ⟨S.p, 5, none⟩ = some (.map (some S.r)) ∧ w'.cell? ⟨S.p, 4, none⟩ = some (.int .u64 (S.last + 1)) ∧ w'.cell? ⟨S.p, 1, none⟩ = some (.int .i64 S.base) ∧ w'.cell? ⟨S.p, 2, none⟩ = some (.int .i64 S.most))
    (first | exact k2 | exact k1) ((go_at_call 18; refine (wait_any _ _ _ _).mono ?_; rintro e w3 ⟨rfl, rfl⟩))
  have kk := k2.2.1
  go_wp2
  go_ret2
  exact ⟨rfl, FIN.out.1, ((Chg.refl (fun q => q = S.p ∨ q = S.r) w).drewN _).trans FIN.out.2 (fun _ h _ => h)⟩
end Go.Proofs.Ytojgalggibmjjaa
