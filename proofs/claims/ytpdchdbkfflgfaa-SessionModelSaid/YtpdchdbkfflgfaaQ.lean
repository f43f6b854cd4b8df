/- Learn. -/
import Derived.Test.YtpdchdbkfflgfaaQ0
namespace Go.Proofs.Ytpdchdbkfflgfaa
open Go.RowKit

def sLearn : ByteArray := ⟨#[76, 101, 97, 114, 110]⟩
/-- What is handed to Learn: an item, and what it reads. -/
structure It where
  b : Int
  ver : Int
  wr : Bool
  i0 : Int
  i1 : Int
  i2 : Int
  i3 : Int
  data : List Ent
def It.fits (i : It) : Prop := 0 ≤ i.ver ∧ (0 ≤ i.i0 ∧ i.i0 < 4294967296) ∧ (0 ≤ i.i1 ∧ i.i1 < 4294967296) ∧ (0 ≤ i.i2 ∧ i.i2 < 4294967296) ∧ (0 ≤ i.i3 ∧ i.i3 < 4294967296)
def It.num (i : It) : Prop := Num i.b i.ver i.i0 i.i1 i.i2 i.i3
def Pure.add (P : Pure) (i : It) (l : List Ent) : Pure := { P with rows := P.rows ++ [⟨i.b, i.ver, i.i0, i.i1, i.i2, i.i3, l, l⟩] }
/-- What Learn does. -/
def Learns (P : Pure) (i : It) (l : List Ent) (n : Int) (P' : Pure) : Prop :=
  (P.com = true → n = 201 ∧ P' = P) ∧
  (P.com = false → (n = 1 ∧ P' = P) ∨ (n = 0 ∧ P.has i.b = true ∧ P' = P) ∨ (n = 203 ∧ P.has i.b = false ∧ 8 ≤ P.rows.length ∧ P' = P) ∨
    (n = 0 ∧ P.has i.b = false ∧ P.rows.length < 8 ∧ i.wr = false ∧ i.num ∧ Okay i.b l ∧ P' = P.add i l)) ∧
  (P.com = false → i.wr = false → i.num → i.data = [] → l = [] → n ≠ 1)
def LearnP (B : Nat) (S : Ses) (i : It) (l : List Ent) (w : World) (e : Ending) (w' : World) : Prop :=
  ∃ n P' ev, e = .returned ev ∧ Ran B w S sLearn n P' w' ev ∧ Learns S.pure i l n P'

set_option maxRecDepth 100000 in
set_option maxHeartbeats 1000000 in
theorem learn_com {B : Nat} {S : Ses} (i : It) (v0 v : Value) (l : List Ent) (w : World) (h : S.Lies B w) (hr0 : Reads w v0 i.data) (hcm : S.com = true) :
    Calls Try.prog 11 #[.pointer (some ⟨S.p, 0, none⟩), .agg #[.int .i64 i.b, .int .u32 i.ver, .bool i.wr, v0, .int .u32 i.i0, .int .u32 i.i1, .int .u32 i.i2, .int .u32 i.i3], v] w fun e w' => LearnP B S i l w e w' := by
  obtain ⟨a0, c0, rfl, _⟩ := hr0
  have hh : Ses.Lies B (w.alloc (.cells #[.int .i64 i.b, .int .u32 i.ver, .bool i.wr, .slice a0 i.data.length c0, .int .u32 i.i0, .int .u32 i.i1, .int .u32 i.i2, .int .u32 i.i3] 36)) S := h.same ((Chg.refl _ w).alloc _)
  have HH := Lib.hid h
  have c6 := hh.c6
  have HC := Lib.hid hcm
  clear h hh hcm
  go_enter Try.func11, Try.ntmps11
  go_wp2_with fail
  refine (open_some _ _ _ c6).mono ?_
  rintro e w1 ⟨rfl, rfl⟩
  rw [HC.out]
  simp only [if_true]
  go_wp2_with (go_at_call 25; refine (fault_any _ _ _).mono ?_; rintro e w2 ⟨rfl, rfl⟩)
  go_ret
  refine ⟨201, S.pure, _, rfl, ran_fault HH.out ((Chg.refl _ w).alloc _) sLearn 201, fun _ => ⟨rfl, rfl⟩, fun h => ?_, fun h => ?_⟩
  · have : S.com = false := h
    rw [HC.out] at this; cases this
  · have : S.com = false := h
    rw [HC.out] at this; cases this

theorem item_cells {w : World} {g : Nat} {b ver : Int} {wr : Bool} {v : Value} {i0 i1 i2 i3 : Int} (h : w.heap[g]? = some (itemO b ver wr v i0 i1 i2 i3)) :
    w.cell? ⟨g, 0, none⟩ = some (.int .i64 b) ∧ w.cell? ⟨g, 1, none⟩ = some (.int .u32 ver) ∧ w.cell? ⟨g, 2, none⟩ = some (.bool wr) ∧ w.cell? ⟨g, 3, none⟩ = some v ∧
    w.cell? ⟨g, 4, none⟩ = some (.int .u32 i0) ∧ w.cell? ⟨g, 5, none⟩ = some (.int .u32 i1) ∧ w.cell? ⟨g, 6, none⟩ = some (.int .u32 i2) ∧ w.cell? ⟨g, 7, none⟩ = some (.int .u32 i3) :=
  ⟨cell_row h rfl, cell_row h rfl, cell_row h rfl, cell_row h rfl, cell_row h rfl, cell_row h rfl, cell_row h rfl, cell_row h rfl⟩
theorem learn_bad {B : Nat} {S : Ses} {i : It} {l : List Ent} {w w' : World} (h : S.Lies B w) (hcm : S.com = false) (hc : Chg (fun _ => False) w w') (hn : ¬ (i.wr = false ∧ i.num ∧ i.data = [] ∧ l = [])) :
    LearnP B S i l w (.returned (faultV 1 w')) (faultW sLearn 1 w') := by
  refine ⟨1, S.pure, _, rfl, ran_fault h hc sLearn 1, fun h => ?_, fun _ => .inl ⟨rfl, rfl⟩, fun _ h1 h2 h3 h4 => absurd ⟨h1, h2, h3, h4⟩ hn⟩
  have h : S.com = true := h
  rw [hcm] at h; cases h
theorem probe_chg (w : World) (b ver : Int) (wr wr' : Bool) (v v' : Value) (i0 i1 i2 i3 : Int) :
    ((w.alloc (itemO b ver wr v i0 i1 i2 i3)).alloc (itemO b ver wr' v' i0 i1 i2 i3)).heap[w.heap.size]? = some (itemO b ver wr v i0 i1 i2 i3) ∧
    ((w.alloc (itemO b ver wr v i0 i1 i2 i3)).alloc (itemO b ver wr' v' i0 i1 i2 i3)).heap[w.heap.size + 1]? = some (itemO b ver wr' v' i0 i1 i2 i3) := by
  refine ⟨(Below.heap_alloc _ _ _ (by simp)).trans (heap_alloc_new w _), ?_⟩
  have := heap_alloc_new (w.alloc (itemO b ver wr v i0 i1 i2 i3)) (itemO b ver wr' v' i0 i1 i2 i3)
  rw [World.size_alloc] at this
  exact this
def rowOf (S : Ses) (i : It) (l : List Ent) (t : Nat) (wv nv : Value) : Row := ⟨⟨i.b, i.ver, i.i0, i.i1, i.i2, i.i3, l, l⟩, t, S.clock, wv, nv⟩
theorem own_lt {w : World} {B e n : Nat} {size : Nat} {v : Value} {xs : List Value} (h : w.ownsRow B e size v n xs) {k : Nat} (hk : v.ownBlock = some k) : B ≤ k ∧ k < w.heap.size := by
  rcases h.2 with ⟨rfl, _⟩ | ⟨g, cap, cur, rfl, hb, hg, _⟩
  · cases hk
  · obtain rfl : g = k := by simpa [Value.ownBlock] using hk
    exact ⟨hb, lt_of_block hg⟩
theorem own_le {w : World} {base base' size n : Nat} {e : TypeId} {v : Value} {xs : List Value} (h : w.ownsRow base e size v n xs) (hb : base' ≤ base) : w.ownsRow base' e size v n xs := by
  refine ⟨h.1, ?_⟩
  rcases h.2 with h1 | ⟨g, cap, cur, h1, h2, h3⟩
  · exact .inl h1
  · exact .inr ⟨g, cap, cur, h1, by omega, h3⟩
theorem own_form {w : World} {B e n : Nat} {size : Nat} {v : Value} {xs : List Value} (h : w.ownsRow B e size v n xs) : ∃ a c, v = .slice a n c := by
  rcases h.2 with ⟨rfl, h0⟩ | ⟨g, cap, cur, rfl, hb, hg, _⟩
  · exact ⟨none, 0, by rw [h0]⟩
  · exact ⟨_, _, rfl⟩
theorem learn_done {B : Nat} {S : Ses} {i : It} {l : List Ent} {w wA w4 W' : World} {wv nv : Value} (h : S.Lies B w) (hB : B ≤ w.heap.size) (hcm : S.com = false) (hno : S.find i.b = none) (h8 : S.rows.length < 8)
    (hwr : i.wr = false) (hnum : i.num) (hfit : i.fits) (hok : Okay i.b l) (hA : Chg (fun _ => False) w wA) (h4 : Chg (fun _ => False) wA w4)
    (ow : w4.ownsRow wA.heap.size 65 2 wv l.length (flat l)) (on : w4.ownsRow wA.heap.size 65 2 nv l.length (flat l)) (dis : ∀ q, wv.ownBlock = some q → nv.ownBlock ≠ some q)
    (hm : W'.heap[S.r]? = some (.map ((S.rows.map Row.entry).toArray.push ⟨.int .i64 i.b, .pointer (some ⟨w4.heap.size, 0, none⟩), S.clock⟩) (S.clock + 1)))
    (hg : (w4.alloc (.cells (rowOf S i l w4.heap.size wv nv).cells 83)).grownBy W' (some S.r)) : LearnP B S i l w (.returned .nilIface) W' := by
  obtain ⟨n1, n2, n3, n4⟩ := hnum
  obtain ⟨f1, f2, f3, f4, f5⟩ := hfit
  have c04 := hA.trans h4 (fun _ h => h.elim)
  have hcW : Chg (fun q => q = S.r) w W' := ((c04.alloc _).mono (G := fun q => q = S.r) (fun _ h => h.elim)).trans (Chg.of_grown hg (F := fun q => q = S.r) (fun q h => by injection h with h; exact h.symm)) (fun _ h _ => h)
  have hws := hA.size
  have hws4 := h4.size
  have hrs : S.r < w.heap.size := lt_of_block h.log
  have hgc : Chg (fun q => q = S.r) (w4.alloc (.cells (rowOf S i l w4.heap.size wv nv).cells 83)) W' := Chg.of_grown hg (F := fun q => q = S.r) (fun q h => by injection h with h; exact h.symm)
  have ofo : ∀ {v : Value}, w4.ownsRow wA.heap.size 65 2 v l.length (flat l) → W'.ownsRow B 65 2 v l.length (flat l) := by
    intro v ho
    have h1 : Chg (fun q => q = S.r) w4 W' := (((Chg.refl (fun _ => False) w4).alloc _).mono (fun _ h => h.elim)).trans hgc (fun _ h _ => h)
    exact own_le (h1.owns ho (fun k hk e => by have := (own_lt ho hk).1; omega)) (by omega)
  have hlies := h.add (rowOf S i l w4.heap.size wv nv) hB (w' := W') (by
      show (w4.heap.size :: (wv.ownBlock.toList ++ nv.ownBlock.toList)).Nodup
      rw [List.nodup_cons, List.nodup_append]
      refine ⟨fun hk => ?_, by cases wv.ownBlock <;> simp, by cases nv.ownBlock <;> simp, fun a ha b hb e => ?_⟩
      · rcases List.mem_append.1 hk with hk | hk
        · have := (own_lt ow (Option.mem_toList.1 hk)).2; omega
        · have := (own_lt on (Option.mem_toList.1 hk)).2; omega
      · subst e
        exact dis a (Option.mem_toList.1 ha) (Option.mem_toList.1 hb))
    (by
      intro k hk
      simp only [Row.blocks, rowOf, List.mem_cons, List.mem_append, Option.mem_toList] at hk
      rcases hk with hk | hk | hk
      · have hk : k = w4.heap.size := hk
        omega
      · have := (own_lt ow hk).1; omega
      · have := (own_lt on hk).1; omega)
    ⟨hgc.obj (heap_alloc_new w4 _) (fun e => by have e : w4.heap.size = S.r := e; omega), ofo ow, ofo on⟩
    ⟨n1, n2, f1, n3, f2, f3, f4, f5, hok, hok, n4⟩ hno h8 rfl hcW hm
  refine ⟨0, S.pure.add i l, .nilIface, rfl, ⟨_, isErr_nil _ _ _, hlies, ?_, rfl, hcW.mono (fun q e _ => by rw [e]; simp [Ses.blocks]), ?_⟩, fun h => ?_, fun _ => .inr (.inr (.inr ⟨rfl, ?_, ?_, hwr, ⟨n1, n2, n3, n4⟩, hok, rfl⟩)), fun _ _ _ _ _ h => by cases h⟩
  · simp [Ses.plus, Ses.pure, Pure.add, rowOf]
  · intro q hq
    simp only [Ses.blocks, Ses.plus, List.mem_cons, List.flatMap_append, List.mem_append] at hq ⊢
    rcases hq with hq | hq | hq | hq
    · exact .inl (.inl hq)
    · exact .inl (.inr (.inl hq))
    · exact .inl (.inr (.inr hq))
    · refine .inr ?_
      simp only [rowOf, List.flatMap_cons, List.flatMap_nil, List.append_nil, Row.blocks, List.mem_cons, List.mem_append, Option.mem_toList] at hq
      rcases hq with hq | hq | hq
      · have hq : q = w4.heap.size := hq
        omega
      · have := (own_lt ow hq).1; omega
      · have := (own_lt on hq).1; omega
  · have h : S.com = true := h
    rw [hcm] at h; cases h
  · rw [has_pure, Ses.has, hno]; rfl
  · simpa [Ses.pure] using h8
theorem heldL_chg {p r g : Nat} {i : It} {w w' : World} {F : Nat → Prop} (h : w.cell? ⟨p, 5, none⟩ = some (.map (some r)) ∧ w.cell? ⟨g, 0, none⟩ = some (.int .i64 i.b) ∧ w.cell? ⟨g, 1, none⟩ = some (.int .u32 i.ver) ∧ w.cell? ⟨g, 2, none⟩ = some (.bool false) ∧ w.cell? ⟨g, 3, none⟩ = some (.slice none 0 0) ∧
    w.cell? ⟨g, 4, none⟩ = some (.int .u32 i.i0) ∧ w.cell? ⟨g, 5, none⟩ = some (.int .u32 i.i1) ∧ w.cell? ⟨g, 6, none⟩ = some (.int .u32 i.i2) ∧ w.cell? ⟨g, 7, none⟩ = some (.int .u32 i.i3)) (hc : Chg F w w') (hp : ¬ F p) (hg : ¬ F g) :
    w'.cell? ⟨p, 5, none⟩ = some (.map (some r)) ∧ w'.cell? ⟨g, 0, none⟩ = some (.int .i64 i.b) ∧ w'.cell? ⟨g, 1, none⟩ = some (.int .u32 i.ver) ∧ w'.cell? ⟨g, 2, none⟩ = some (.bool false) ∧ w'.cell? ⟨g, 3, none⟩ = some (.slice none 0 0) ∧
    w'.cell? ⟨g, 4, none⟩ = some (.int .u32 i.i0) ∧ w'.cell? ⟨g, 5, none⟩ = some (.int .u32 i.i1) ∧ w'.cell? ⟨g, 6, none⟩ = some (.int .u32 i.i2) ∧ w'.cell? ⟨g, 7, none⟩ = some (.int .u32 i.i3) :=
  ⟨hc.cell h.1 hp, hc.cell h.2.1 hg, hc.cell h.2.2.1 hg, hc.cell h.2.2.2.1 hg, hc.cell h.2.2.2.2.1 hg, hc.cell h.2.2.2.2.2.1 hg, hc.cell h.2.2.2.2.2.2.1 hg, hc.cell h.2.2.2.2.2.2.2.1 hg, hc.cell h.2.2.2.2.2.2.2.2 hg⟩
theorem learn_store {B : Nat} {S : Ses} {i : It} {l : List Ent} {w wA w3 w4 : World} (h : S.Lies B w) (hno : S.find i.b = none) (hA : Chg (fun _ => False) w wA) (h3 : Chg (fun _ => False) wA.drew w3) (h4 : Chg (fun _ => False) w3 w4) (v3 v4 : Value) :
    ∃ W' : World, W'.heap[S.r]? = some (.map ((S.rows.map Row.entry).toArray.push ⟨.int .i64 i.b, .pointer (some ⟨w4.heap.size, 0, none⟩), S.clock⟩) (S.clock + 1)) ∧ (w4.alloc (.cells (rowOf S i l w4.heap.size v3 v4).cells 83)).grownBy W' (some S.r) ∧
    (Instr.mapUpdate 75 (.map (some S.r)) (.int .i64 i.b) (.pointer (some ⟨w4.heap.size, 0, none⟩))).run Try.prog (w4.alloc (.cells (rowOf S i l w4.heap.size v3 v4).cells 83)) = .ok () W' := by
  have c := ((hA.trans h3.of_drew (fun _ h => h.elim)).trans h4 (fun _ h => h.elim)).alloc (.cells (rowOf S i l w4.heap.size v3 v4).cells 83)
  refine update_push (b := i.b) _ Try.underlying75 Try.underlying3 (c.obj h.log (fun h => h)) ?_
  rw [List.toList_toArray, findNow_ints]
  congr 1
  rw [List.findSome?_eq_none_iff]
  intro x hx
  have hb := find_none hno x.1 (List.fst_mem_of_mem_zipIdx hx)
  simp [hb]
theorem item_nil {w : World} {g : Nat} {b ver : Int} {wr : Bool} {v : Value} {i0 i1 i2 i3 : Int} (h : w.heap[g]? = some (itemO b ver wr v i0 i1 i2 i3)) :
    (w.setCell ⟨g, 3, none⟩ (.slice none 0 0)).heap[g]? = some (itemO b ver wr (.slice none 0 0) i0 i1 i2 i3) := heap_setCell_same h _
set_option maxRecDepth 100000 in
set_option maxHeartbeats 2000000 in
theorem learn_open {B : Nat} {S : Ses} (i : It) (v0 v : Value) (l : List Ent) (w : World) (h : S.Lies B w) (hB : B ≤ w.heap.size) (hr0 : Reads w v0 i.data) (hr : Reads w v l) (hf : i.fits) (hcm : S.com = false) :
    Calls Try.prog 11 #[.pointer (some ⟨S.p, 0, none⟩), .agg #[.int .i64 i.b, .int .u32 i.ver, .bool i.wr, v0, .int .u32 i.i0, .int .u32 i.i1, .int .u32 i.i2, .int .u32 i.i3], v] w fun e w' => LearnP B S i l w e w' := by
  have R0 := Lib.hid hr0
  have R1 := Lib.hid hr
  obtain ⟨a0, c0, rfl, _⟩ := hr0
  obtain ⟨a1, c1, rfl, _⟩ := hr
  have hh : Ses.Lies B (w.alloc (.cells #[.int .i64 i.b, .int .u32 i.ver, .bool i.wr, .slice a0 i.data.length c0, .int .u32 i.i0, .int .u32 i.i1, .int .u32 i.i2, .int .u32 i.i3] 36)) S := h.same ((Chg.refl _ w).alloc _)
  have HH := Lib.hid h
  have c6 := hh.c6
  have HC := Lib.hid hcm
  clear h hh hcm
  go_enter Try.func11, Try.ntmps11
  go_wp2_with fail
  refine (open_some _ _ _ c6).mono ?_
  rintro e w1 ⟨rfl, rfl⟩
  rw [HC.out]
  clear c6
  cases hwr : i.wr with
  | true =>
    go_wp2_with (go_at_call 25; refine (fault_any _ _ _).mono ?_; rintro e w2 ⟨rfl, rfl⟩)
    go_ret
    exact learn_bad HH.out HC.out (((Chg.refl _ w).alloc _).alloc _) (fun h => by rw [hwr] at h; cases h.1)
  | false =>
    have HW := Lib.hid hwr
    clear hwr
    obtain ⟨p0, p1⟩ := probe_chg w i.b i.ver false true (.slice a0 i.data.length c0) (.slice a1 l.length c1) i.i0 i.i1 i.i2 i.i3
    have P0 := Lib.hid p0
    have P1 := Lib.hid p1
    unfold itemO at P0 P1
    clear p0 p1
    go_wp2_with fail
    have ch0 := (((Chg.refl (fun _ => False) w).alloc (Obj.cells
          #[Value.int IntKind.i64 i.b, Value.int IntKind.u32 i.ver, Value.bool false, Value.slice a0 i.data.length c0,
            Value.int IntKind.u32 i.i0, Value.int IntKind.u32 i.i1, Value.int IntKind.u32 i.i2, Value.int IntKind.u32 i.i3]
          36)).alloc (Obj.cells
      #[Value.int IntKind.i64 i.b, Value.int IntKind.u32 i.ver, Value.bool true, Value.slice a1 l.length c1,
        Value.int IntKind.u32 i.i0, Value.int IntKind.u32 i.i1, Value.int IntKind.u32 i.i2, Value.int IntKind.u32 i.i3]
      36))
    have r0 := ch0.reads R0.out (fun _ _ h => h)
    refine (right_any _ _ _ _ _ _ false _ i.data _ r0).mono ?_
    rintro e w1 ⟨⟨r1, rfl, hr1, hr2⟩, hc1⟩
    have hc := ch0.trans hc1 (fun _ h => h.elim)
    have CH := Lib.hid hc
    have HR1 := Lib.hid hr1
    have HR2 := Lib.hid hr2
    have e0 := item_cells (hc1.obj P0.out (fun h => h))
    have e1 := item_cells (hc1.obj P1.out (fun h => h))
    have PR0 := Lib.hid (hc1.obj P0.out (fun h => h))
    obtain ⟨e00, e01, e02, e03, e04, e05, e06, e07⟩ := e0
    obtain ⟨e10, e11, e12, e13, e14, e15, e16, e17⟩ := e1
    clear ch0 r0 hc hc1 hr1 hr2
    cases r1 with
    | false =>
      go_wp2_with (go_at_call 25; refine (fault_any _ _ _).mono ?_; rintro e w2 ⟨rfl, rfl⟩)
      go_ret
      exact learn_bad HH.out HC.out CH.out (fun h => by have := HR2.out h.2.1 h.2.2.1; cases this)
    | true =>
      have rd := CH.out.reads R1.out (fun _ _ h => h)
      go_wp2_with (go_at_call 27; refine (right_any _ _ _ _ _ _ true _ l _ rd).mono ?_; rintro e w2 ⟨⟨r2, rfl, hs1, hs2⟩, hc2⟩; have HS1 := Lib.hid hs1; have HS2 := Lib.hid hs2; clear hs1 hs2; cases r2)
      · clear e00 e01 e02 e03 e04 e05 e06 e07 e10 e11 e12 e13 e14 e15 e16 e17
        go_wp2_with (go_at_call 25; refine (fault_any _ _ _).mono ?_; rintro e w3 ⟨rfl, rfl⟩)
        go_ret
        exact learn_bad HH.out HC.out (CH.out.trans hc2 (fun _ h => h.elim)) (fun h => by have := HS2.out h.2.1 h.2.2.2; cases this)
      · clear e00 e01 e02 e03 e04 e05 e06 e07 e10 e11 e12 e13 e14 e15 e16 e17
        have C2 := Lib.hid (CH.out.trans hc2 (fun _ h => h.elim))
        have PR2 := Lib.hid (hc2.obj PR0.out (fun h => h))
        have h2 := HH.out.same C2.out
        have H2 := Lib.hid h2
        have c5 := h2.c5
        have e0 := (item_cells PR2.out).1
        clear hc2 h2 rd
        have hN : ∀ n, Ses.Lies B (w2.drewN n) S := fun n => H2.out.same ((Chg.refl _ _).drewN n)
        cases hfd : S.find i.b with
        | some x =>
          have hl := fun n => (hN n).look hfd
          have HF := Lib.hid hfd
          clear hfd hN
          go_wp2_with fail
          go_quiet (fail)
          go_wp2
          go_ret
          refine ⟨0, S.pure, _, rfl, ran_nil HH.out (C2.out.drewN _) sLearn, fun h => ?_, fun _ => .inr (.inl ⟨rfl, ?_, rfl⟩), fun _ _ _ _ _ h => by cases h⟩
          · have h : S.com = true := h
            rw [HC.out] at h; cases h
          · rw [has_pure, Ses.has, HF.out]; rfl
        | none =>
          have hl := fun n => run_look S.rows i.b S.r S.clock _ (hN n).log
          rw [look_no hfd] at hl
          have HF := Lib.hid hfd
          clear hfd
          have hn := fun n ty => len_map (P := Try.prog) Try.underlying75 (hN n).log ty
          have hsz : (((S.rows.map Row.entry).toArray.size : Nat) : Int) = (S.rows.length : Int) := by simp
          rw [hsz] at hn
          clear hsz hN
          by_cases h8 : (8 : Int) ≤ S.rows.length
          · go_wp2_with fail
            go_quiet (fail)
            go_wp2_with (go_at_call 25; refine (fault_any _ _ _).mono ?_; rintro e w3 ⟨rfl, rfl⟩)
            go_ret
            refine ⟨203, S.pure, _, rfl, ran_fault HH.out (C2.out.drewN _) sLearn 203, fun h => ?_, fun _ => .inr (.inr (.inl ⟨rfl, ?_, ?_, rfl⟩)), fun _ _ _ _ _ h => by cases h⟩
            · have h : S.com = true := h
              rw [HC.out] at h; cases h
            · rw [has_pure, Ses.has, HF.out]; rfl
            · have : 8 ≤ S.rows.length := by omega
              simpa [Ses.pure] using this
          · have ff := free_row PR2.out 3
            have e3 := (item_cells PR2.out).2.2.2.1
            go_wp2_with fail
            go_quiet (fail)
            go_wp2_with fail
            clear c5 e0 e3 ff
            obtain ⟨wA, hW⟩ : ∃ W : World, W = (w2.drewN nq).setCell ⟨w.heap.size, 3, none⟩ (.slice none 0 0) := ⟨_, rfl⟩
            rw [← hW]
            have hA : Chg (fun _ => False) w wA := by rw [hW]; exact (C2.out.drewN nq).setCell (.inr (Nat.le_refl _)) _
            have hA2 : Chg (fun q => q = w.heap.size) w2 wA := by rw [hW]; exact ((Chg.refl (fun q => q = w.heap.size) w2).drewN nq).setCell (.inl rfl) _
            have hI : wA.heap[w.heap.size]? = some (itemO i.b i.ver false (.slice none 0 0) i.i0 i.i1 i.i2 i.i3) := by rw [hW]; exact item_nil (w := w2.drewN nq) PR2.out
            have hpw : S.p < w.heap.size := lt_of_block HH.out.head
            have hrw : S.r < w.heap.size := lt_of_block HH.out.log
            have k0 : wA.cell? ⟨S.p, 5, none⟩ = some (.map (some S.r)) := hA.cell HH.out.c5 (fun h => h)
            have k1 := And.intro k0 (item_cells hI)
            clear hW hA2 hI k0
            have HP := Lib.hid hpw
            have HRW := Lib.hid hrw
            have HA := Lib.hid hA
            have HN8 := Lib.hid h8
            clear hpw hrw hA h8
            have hok := (HS1.out trivial).2.1
            have HOK := Lib.hid hok
            have h8l := hok.2.1
            clear hok
            go_region_held3 (fun w' => w'.cell? ⟨S.p, 5, none⟩ = some (.map (some S.r)) ∧ w'.cell? ⟨w.heap.size, 0, none⟩ = some (.int .i64 i.b) ∧ w'.cell? ⟨w.heap.size, 1, none⟩ = some (.int .u32 i.ver) ∧ w'.cell? ⟨w.heap.size, 2, none⟩ = some (.bool false) ∧ w'.cell? ⟨w.heap.size, 3, none⟩ = some (.slice none 0 0) ∧
    w'.cell? ⟨w.heap.size, 4, none⟩ = some (.int .u32 i.i0) ∧ w'.cell? ⟨w.heap.size, 5, none⟩ = some (.int .u32 i.i1) ∧ w'.cell? ⟨w.heap.size, 6, none⟩ = some (.int .u32 i.i2) ∧ w'.cell? ⟨w.heap.size, 7, none⟩ = some (.int .u32 i.i3))
              (first | exact k5 | exact k4 | exact k3 | exact k2 | exact heldL_chg k1 (Chg.refl (fun _ => False) _) (fun h => h) (fun h => h) | exact k1)
              (first
                | (have _t := tok1; go_at_call 28; refine (clone_any _ l _ (((HA.out.trans hc3.of_drew (fun _ h => h.elim)).reads R1.out) (fun _ _ h => h)) h8l).mono ?_; rintro e w4 ⟨v4, rfl, ho4, hc4⟩; obtain ⟨a4, c4, rfl⟩ := own_form ho4; have k3 := heldL_chg k2 hc4 (fun h => h) (fun h => h); 
                   have k4 := heldL_chg k3 ((Chg.refl (fun _ => False) w4).alloc (.cells (rowOf S i l w4.heap.size (.slice a3 l.length c3) (.slice a4 l.length c4)).cells 83)) (fun h => h) (fun h => h);
                   obtain ⟨W', hm, hg, hu⟩ := learn_store (i := i) (l := l) HH.out HF.out HA.out hc3 hc4 (.slice a3 l.length c3) (.slice a4 l.length c4);
                   have k5 := heldL_chg k4 (Chg.of_grown hg (F := fun q => q = S.r) (fun q h => by injection h with h; exact h.symm)) HH.out.ne (fun e => by have e1 : w.heap.size = S.r := e; have e2 := HRW.out; omega);
                   have HM := Lib.hid hm; have HG := Lib.hid hg; clear hm hg; simp only [rowOf, Row.cells] at hu)
                | (go_at_call 28; refine (clone_any _ l _ (HA.out.drew.reads R1.out (fun _ _ h => h)) h8l).mono ?_; rintro e w3 ⟨v3, rfl, ho3, hc3⟩; obtain ⟨a3, c3, rfl⟩ := own_form ho3; have tok1 := True.intro; have k2 := heldL_chg k1 hc3.of_drew (fun h => h) (fun h => h)))
            clear k1 k2 k3 k4 k5 hu
            go_wp2
            go_ret
            refine learn_done HH.out hB HC.out HF.out (by have := HN8.out; omega) HW.out (HS1.out trivial).1 hf HOK.out HA.out (hc3.of_drew.trans hc4 (fun _ h => h.elim)) (hc4.owns ho3 (fun _ _ h => h)) (own_le ho4 hc3.size) (fun q h1 h2 => ?_) HM.out HG.out
            have e1 := (own_lt ho3 h1).2
            have e2 := (own_lt ho4 h2).1
            omega
theorem learn_any {B : Nat} {S : Ses} (i : It) (v0 v : Value) (l : List Ent) (w : World) (h : S.Lies B w) (hB : B ≤ w.heap.size) (hr0 : Reads w v0 i.data) (hr : Reads w v l) (hf : i.fits) :
    Calls Try.prog 11 #[.pointer (some ⟨S.p, 0, none⟩), .agg #[.int .i64 i.b, .int .u32 i.ver, .bool i.wr, v0, .int .u32 i.i0, .int .u32 i.i1, .int .u32 i.i2, .int .u32 i.i3], v] w fun e w' => LearnP B S i l w e w' := by
  cases hc : S.com with
  | true => exact learn_com i v0 v l w h hr0 hc
  | false => exact learn_open i v0 v l w h hB hr0 hr hf hc
end Go.Proofs.Ytpdchdbkfflgfaa
