/- sorted: the calls that something is so of, in order. -/
import Derived.Test.YtojgalggibmjjaaF
namespace Go.Proofs.Ytojgalggibmjjaa
open Go.RowKit
open Go.ChangeMaps (setBlock)

def SortP (S : Cs) (P : Cl → Bool) (w : World) (e : Ending) (w' : World) : Prop :=
  ∃ v K, e = .returned v ∧ K.Perm ((S.L.filter fun x => P x.1).map (·.1)) ∧ SortedC K ∧ w'.ownsRow w.heap.size 52 5 v K.length (flatC K) ∧ Chg (fun _ => False) w w'
def zCallV : Value := .agg #[.int .u64 0, .int .i64 0, .int .i64 0, .int .i64 0, .int .i64 0]
theorem info52 : (Try.prog.info? 52).map (fun i => (i.zero, i.size, i.bytes)) = some (some zCallV, 5, 40) := by kernel_rfl
/-- While the map is gone through. -/
def SInv (S : Cs) (P : Cl → Bool) (w wr : World) (v : Value) : Prop :=
  ∃ (seen : Array Nat) (c0 : Nat) (K : List Cl), wr.heap[w.heap.size]? = some (.mapIter (some S.r) S.clock seen c0) ∧ S.clock ≤ c0 ∧ K.Perm (seenL S.L P seen) ∧ wr.ownsRow (w.heap.size + 1) 52 5 v K.length (flatC K) ∧ Chg (fun _ => False) w wr
def left (S : Cs) (w wr : World) : Nat := (leftOf S.es (wr.iterSeen w.heap.size)).size
theorem set_chg {w w1 : World} {g : Nat} (o : Obj) (h : w1 = w ∨ w1 = w.drew) (hg : g < w.heap.size) : Chg (fun q => q = g) w (setBlock w1 g o) ∧ (setBlock w1 g o).heap[g]? = some o := by
  have hh : w1.heap = w.heap := by rcases h with rfl | rfl <;> rfl
  have ht : w1.os = w.os ∧ w1.tape = w.tape ∧ w1.output = w.output := by rcases h with rfl | rfl <;> exact ⟨rfl, rfl, rfl⟩
  refine ⟨⟨ht.1, ht.2.1, ht.2.2, ?_, fun k hk hf => ?_⟩, ?_⟩
  · simp [setBlock, hh]
  · simp only [setBlock, hh]
    rw [Array.getElem?_setIfInBounds]
    rw [if_neg (fun e => hf e.symm)]
  · simp only [setBlock, hh]
    rw [Array.getElem?_setIfInBounds]
    simp [hg]
theorem sorted_nodup {L : List (Cl × Nat)} (h : (L.map (·.2)).Nodup) {S : Cs} (hS : S.L = L) : (S.es.toList.map (·.born)).Nodup := by
  subst hS
  have : S.es.toList.map (·.born) = S.L.map (·.2) := by simp [Cs.es, ent, Function.comp_def]
  rw [this]; exact h
theorem iterSeen_of {w : World} {g : Nat} {m : Option Nat} {s c : Nat} {seen : Array Nat} (h : w.heap[g]? = some (.mapIter m s seen c)) : w.iterSeen g = seen := by
  unfold World.iterSeen; rw [h]
theorem own_not {w : World} {B e n : Nat} {size : Nat} {v : Value} {xs : List Value} (h : w.ownsRow B e size v n xs) {g : Nat} (hg : g < B) : v.ownBlock ≠ some g := by
  intro hq
  have := (own_lt h hq).1
  omega
theorem Chg.owns' {F : Nat → Prop} {w w' : World} (h : Chg F w w') {B e n : Nat} {size : Nat} {v : Value} {xs : List Value} (ho : w.ownsRow B e size v n xs) (hp : ∀ k, F k → k < B) : w'.ownsRow B e size v n xs :=
  h.owns ho (fun k hk hf => by have := (own_lt ho hk).1; have := hp k hf; omega)
theorem news_alloc (w : World) (l : List Value) (t : TypeId) : ∀ j z, l[j]? = some z → (w.alloc (.cells l.toArray t)).cell? ((⟨w.heap.size, 0, none⟩ : Addr).add j) = some z := by
  intro j z hz
  have := heap_alloc_new w (.cells l.toArray t)
  have hj : (⟨w.heap.size, 0, none⟩ : Addr).add j = ⟨w.heap.size, j, none⟩ := by unfold Addr.add; split <;> simp_all
  rw [hj]
  exact cell_row this (by simpa using hz)
theorem sinv_step {S : Cs} {P : Cl → Bool} {w W2 w3 w4 : World} {v v4 : Value} {seen : Array Nat} {K : List Cl} {x : Cl × Nat} {o : Obj} {n : Nat} {l : List Value} (hx : x ∈ S.L) (hb : (S.L.map (·.2)).Nodup) (hs : seen.contains x.2 = false) (hp : P x.1 = true)
    (hit2 : W2.heap[w.heap.size]? = some (.mapIter (some S.r) S.clock (seen.push x.2) S.clock)) (hK : K.Perm (seenL S.L P seen)) (ho3 : w3.ownsRow (w.heap.size + 1) 52 5 v K.length (flatC K)) (h23 : Chg (fun _ => False) W2 w3)
    (hc3 : Chg (fun _ => False) w w3) (hg : (w3.alloc o).grownBy w4 v.ownBlock) (ho4 : w4.ownsRow (w.heap.size + 1) 52 5 v4 n l) (hn : n = K.length + 1) (hl : l = flatC K ++ x.1.cells) : SInv S P w w4 v4 := by
  have c4 : Chg (fun q => v.ownBlock = some q) w3 w4 := (((Chg.refl (fun _ => False) w3).alloc o).mono (fun _ h => h.elim)).trans (Chg.of_grown hg (F := fun q => v.ownBlock = some q) (fun q h => h)) (fun _ h _ => h)
  refine ⟨seen.push x.2, S.clock, K ++ [x.1], c4.obj (h23.obj hit2 (fun h => h)) (own_not ho3 (by omega)), Nat.le_refl _, ?_, ?_, hc3.trans c4 (fun q hq hlt => by have := (own_lt ho3 hq).1; omega)⟩
  · have h1 := seen_push P seen x hs S.L hb hx
    rw [if_pos hp] at h1
    exact (hK.append_right _).trans h1.symm
  · subst hn; subst hl
    rw [List.length_append, show flatC (K ++ [x.1]) = flatC K ++ x.1.cells from by simp [flatC]]
    exact ho4
theorem sinv_mu {S : Cs} {w W2 w3 w4 : World} {v : Value} {seen : Array Nat} {K : List Cl} {b : Nat} {o : Obj} (hit2 : W2.heap[w.heap.size]? = some (.mapIter (some S.r) S.clock (seen.push b) S.clock)) (ho3 : w3.ownsRow (w.heap.size + 1) 52 5 v K.length (flatC K)) (h23 : Chg (fun _ => False) W2 w3)
    (hg : (w3.alloc o).grownBy w4 v.ownBlock) : left S w w4 = (leftOf S.es (seen.push b)).size := by
  have c4 : Chg (fun q => v.ownBlock = some q) w3 w4 := (((Chg.refl (fun _ => False) w3).alloc o).mono (fun _ h => h.elim)).trans (Chg.of_grown hg (F := fun q => v.ownBlock = some q) (fun q h => h)) (fun _ h _ => h)
  unfold left
  rw [iterSeen_of (c4.obj (h23.obj hit2 (fun h => h)) (own_not ho3 (by omega)))]
theorem sinv_skip {S : Cs} {P : Cl → Bool} {w W2 w3 : World} {v : Value} {seen : Array Nat} {K : List Cl} {x : Cl × Nat} (hx : x ∈ S.L) (hb : (S.L.map (·.2)).Nodup) (hs : seen.contains x.2 = false) (hp : P x.1 = false)
    (hit2 : W2.heap[w.heap.size]? = some (.mapIter (some S.r) S.clock (seen.push x.2) S.clock)) (hK : K.Perm (seenL S.L P seen)) (ho3 : w3.ownsRow (w.heap.size + 1) 52 5 v K.length (flatC K)) (h23 : Chg (fun _ => False) W2 w3)
    (hc3 : Chg (fun _ => False) w w3) : SInv S P w w3 v := by
  refine ⟨seen.push x.2, S.clock, K, h23.obj hit2 (fun h => h), Nat.le_refl _, ?_, ho3, hc3⟩
  have h1 := seen_push P seen x hs S.L hb hx
  rw [hp] at h1
  exact hK.trans h1.symm
theorem sinv_mu2 {S : Cs} {w W2 w3 : World} {seen : Array Nat} {b : Nat} (hit2 : W2.heap[w.heap.size]? = some (.mapIter (some S.r) S.clock (seen.push b) S.clock)) (h23 : Chg (fun _ => False) W2 w3) : left S w w3 = (leftOf S.es (seen.push b)).size := by
  unfold left
  rw [iterSeen_of (h23.obj hit2 (fun h => h))]
set_option maxRecDepth 100000 in
set_option maxHeartbeats 2000000 in
theorem sortedAll {B : Nat} {S : Cs} (w : World) (h : S.Lies B w) :
    Calls Try.prog 27 #[.pointer (some ⟨S.p, 0, none⟩), .func (.func 28) #[] #[]] w fun e w' => SortP S (fun _ => true) w e w' := by
  have c5 : w.cell? ⟨S.p, 5, none⟩ = some (.map (some S.r)) := cell_row h.head rfl
  have hr := run_range_map (P := Try.prog) w 72 48 52 S.r S.es S.clock Try.underlying72 h.log
  have HL := Lib.hid h
  obtain ⟨en0, hen0, hez0, hez1, hez2⟩ := info_parts info52
  clear h
  go_enter Try.func27, Try.ntmps27
  go_wp2
  clear hr c5
  have h0 : SInv S (fun _ => true) w (w.alloc (.mapIter (some S.r) S.clock #[] S.clock)) (.slice none 0 0) :=
    ⟨#[], S.clock, [], heap_alloc_new w _, Nat.le_refl _, by rw [seen_start], World.ownsRow_nil _ _ _ _, (Chg.refl _ w).alloc _⟩
  have H0 := Lib.hid h0
  clear h0
  go_loopw [5] (fun v wr => Hid (SInv S (fun _ => true) w wr v)) (fun _ wr => left S w wr)
  case atStart => exact H0.out
  case round =>
    obtain ⟨seen, c0, K, hit, hc0, hK, hown, hch⟩ := hrel.out
    have hl := HL.out.same hch
    have hnx := run_next_at (P := Try.prog) wr 0 w.heap.size S.r S.clock c0 seen S.es S.clock hit hl.log (fun x hx => by
      obtain ⟨y, hy, rfl⟩ := List.mem_map.1 (show x ∈ S.L.map ent by simpa [Cs.es] using hx)
      exact hl.lt y hy) hc0
    have hlen : K.length ≤ 256 := by
      have h1 := hK.length_eq
      have h2 : (seenL S.L (fun _ => true) seen).length ≤ S.L.length := by unfold seenL; rw [List.length_map]; exact List.length_filter_le _ _
      have h3 := hl.few
      omega
    have hmu : left S w wr = (leftOf S.es seen).size := by unfold left; rw [iterSeen_of hit]
    have HMU := Lib.hid hmu
    have HK := Lib.hid hK
    have HOWN := Lib.hid hown
    have HCH := Lib.hid hch
    have HLR := Lib.hid hl
    have HIT := Lib.hid hit
    obtain ⟨ua, uc, rfl⟩ := own_form hown
    clear hmu hK hown hch hl hrel
    rcases hnx with ⟨hz, hn⟩ | ⟨e, he, w1, hw1, hn⟩
    · have HZ := Lib.hid hz
      clear hz hit hc0
      go_wp2_with (go_at_call 39; refine (sortC_any _ _ K _ HOWN.out hlen).mono ?_; rintro e w4 ⟨rfl, ⟨K', hp, hs, ho⟩, hc4⟩; have HP := Lib.hid hp; have HS := Lib.hid hs; have HO := Lib.hid ho; have HC4 := Lib.hid hc4; clear hp hs ho hc4)
      go_ret
      refine ⟨_, K', rfl, (HP.out.trans HK.out).trans (by rw [seen_all (fun _ => true) HZ.out]), HS.out, ?_, HCH.out.trans HC4.out (fun q hq hlt => by have := (own_lt HOWN.out hq).1; omega)⟩
      rw [HP.out.length_eq]
      exact own_le HO.out (by omega)
    · obtain ⟨x, hx, rfl, hsx⟩ := left_ent he
      have HE := Lib.hid (left_shrinks S.es seen _ he)
      have hsz : w.heap.size < wr.heap.size := lt_of_block hit
      obtain ⟨hc2, hit2⟩ := set_chg (w := wr) (g := w.heap.size) (.mapIter (some S.r) S.clock (seen.push x.2) S.clock) hw1 hsz
      have hn2 : (Instr.next (.pointer (some ⟨w.heap.size, 0, none⟩)) false 0).run Try.prog wr = .ok (.tuple #[.bool true, .int .u64 x.1.id, .agg #[.int .u64 x.1.id, .int .i64 x.1.to, .int .i64 x.1.since, .int .i64 x.1.tries, .int .i64 x.1.due]]) (setBlock w1 w.heap.size (.mapIter (some S.r) S.clock (seen.push x.2) S.clock)) := hn
      obtain ⟨W2, hW2⟩ : ∃ W2, W2 = setBlock w1 w.heap.size (.mapIter (some S.r) S.clock (seen.push x.2) S.clock) := ⟨_, rfl⟩
      rw [← hW2] at hn2 hc2 hit2
      have hcw : Chg (fun _ => False) w W2 := HCH.out.trans hc2 (fun q hq hlt => by have hq : q = w.heap.size := hq; omega)
      have hl2 := HL.out.same hcw
      have hen : (Instr.entry (.pointer (some ⟨w.heap.size, 0, none⟩))).run Try.prog W2 = .ok (.tuple #[.int .u64 x.1.id, .agg #[.int .u64 x.1.id, .int .i64 x.1.to, .int .i64 x.1.since, .int .i64 x.1.tries, .int .i64 x.1.due]]) W2 :=
        run_entry_at W2 w.heap.size S.r S.clock seen S.es S.clock (ent x) hit2 hl2.log (by simp only [Cs.es]; exact List.mem_map_of_mem hx) (sorted_nodup hl2.born rfl)
      have own2 := hc2.owns' HOWN.out (fun q hq => by have hq : q = w.heap.size := hq; omega)
      have HX := Lib.hid hx
      have HSX := Lib.hid hsx
      have HIT2 := Lib.hid hit2
      have HCW := Lib.hid hcw
      have OWN2 := Lib.hid own2
      have hb2 : w.heap.size + 1 ≤ W2.heap.size := by have := hc2.size; omega
      have HB2 := Lib.hid hb2
      have h63 : K.length + 1 ≤ maxLen := by unfold maxLen; omega
      have h40 : (K.length + 1) * 40 ≤ 140737488355328 := by omega
      clear hit hc0 hn hW2 hc2 hit2 hcw hl2 own2 hx hsx he hw1 hsz hb2
      go_wp2_with (first
        | (go_at_call 28; refine (pickAll x.1 _).mono ?_; rintro e w3 ⟨rfl, hc3⟩; have C3 := Lib.hid (((Chg.refl (fun _ => False) W2).alloc _).trans hc3 (fun _ h => h.elim)); have b3 := hc3.obj (heap_alloc_new W2 _) (fun h => h); have y0 := cell_row (i := 0) b3 rfl; have y1 := cell_row (i := 1) b3 rfl; have y2 := cell_row (i := 2) b3 rfl; have y3 := cell_row (i := 3) b3 rfl; have y4 := cell_row (i := 4) b3 rfl; simp only [List.getElem_toArray, List.getElem_cons_zero, List.getElem_cons_succ] at y0 y1 y2 y3 y4; clear hc3 b3)
        | (refine wpList_append_own _ rfl (.tmp 20) (.tmp 22) 33 rfl (w.heap.size + 1) 52 en0 zCallV 5 40 Try.underlying33 hen0 hez0 hez1 hez2 rfl (by decide) _ _ _ rfl (((Chg.refl (fun _ => False) w3).alloc _).owns (C3.out.owns OWN2.out (fun _ _ h => h)) (fun _ _ h => h)) ⟨w3.heap.size, 0, none⟩ 1 1 x.1.cells rfl rfl (news_alloc w3 _ 52) (by simp [Cl.cells, Value.oneCell']) h63 h40 (by have := C3.out.size; have := HB2.out; simp; omega) ?_; intro v4 w4 hown4 hgrow4 _; obtain ⟨a4, c4, rfl⟩ := own_form hown4; have O4 := Lib.hid hown4; have G4 := Lib.hid hgrow4; clear hown4 hgrow4))
      go_roundw
      case rel => exact sinv_step HX.out HLR.out.born HSX.out rfl HIT2.out HK.out (C3.out.owns OWN2.out (fun _ _ h => h)) C3.out (HCW.out.trans C3.out (fun _ h => h.elim)) G4.out O4.out rfl rfl
      case measure =>
        rw [HMU.out]
        exact (sinv_mu HIT2.out (C3.out.owns OWN2.out (fun _ _ h => h)) C3.out G4.out).symm ▸ HE.out

set_option maxRecDepth 100000 in
set_option maxHeartbeats 2000000 in
theorem sortedDue {B : Nat} {S : Cs} (gn : Nat) (now : Int) (w : World) (h : S.Lies B w) (hnow : w.cell? ⟨gn, 0, none⟩ = some (.int .i64 now)) :
    Calls Try.prog 27 #[.pointer (some ⟨S.p, 0, none⟩), .func (.func 33) #[] #[.pointer (some ⟨gn, 0, none⟩)]] w fun e w' => SortP S (fun c => decide (c.due ≤ now)) w e w' := by
  have c5 : w.cell? ⟨S.p, 5, none⟩ = some (.map (some S.r)) := cell_row h.head rfl
  have hr := run_range_map (P := Try.prog) w 72 48 52 S.r S.es S.clock Try.underlying72 h.log
  have HL := Lib.hid h
  obtain ⟨en0, hen0, hez0, hez1, hez2⟩ := info_parts info52
  clear h
  have HN := Lib.hid hnow
  clear hnow
  go_enter Try.func27, Try.ntmps27
  go_wp2
  clear hr c5
  have h0 : SInv S (fun c => decide (c.due ≤ now)) w (w.alloc (.mapIter (some S.r) S.clock #[] S.clock)) (.slice none 0 0) :=
    ⟨#[], S.clock, [], heap_alloc_new w _, Nat.le_refl _, by rw [seen_start], World.ownsRow_nil _ _ _ _, (Chg.refl _ w).alloc _⟩
  have H0 := Lib.hid h0
  clear h0
  go_loopw [5] (fun v wr => Hid (SInv S (fun c => decide (c.due ≤ now)) w wr v)) (fun _ wr => left S w wr)
  case atStart => exact H0.out
  case round =>
    obtain ⟨seen, c0, K, hit, hc0, hK, hown, hch⟩ := hrel.out
    have hl := HL.out.same hch
    have hnx := run_next_at (P := Try.prog) wr 0 w.heap.size S.r S.clock c0 seen S.es S.clock hit hl.log (fun x hx => by
      obtain ⟨y, hy, rfl⟩ := List.mem_map.1 (show x ∈ S.L.map ent by simpa [Cs.es] using hx)
      exact hl.lt y hy) hc0
    have hlen : K.length ≤ 256 := by
      have h1 := hK.length_eq
      have h2 : (seenL S.L (fun c => decide (c.due ≤ now)) seen).length ≤ S.L.length := by unfold seenL; rw [List.length_map]; exact List.length_filter_le _ _
      have h3 := hl.few
      omega
    have hmu : left S w wr = (leftOf S.es seen).size := by unfold left; rw [iterSeen_of hit]
    have HMU := Lib.hid hmu
    have HK := Lib.hid hK
    have HOWN := Lib.hid hown
    have HCH := Lib.hid hch
    have HLR := Lib.hid hl
    have HIT := Lib.hid hit
    obtain ⟨ua, uc, rfl⟩ := own_form hown
    clear hmu hK hown hch hl hrel
    rcases hnx with ⟨hz, hn⟩ | ⟨e, he, w1, hw1, hn⟩
    · have HZ := Lib.hid hz
      clear hz hit hc0
      go_wp2_with (go_at_call 39; refine (sortC_any _ _ K _ HOWN.out hlen).mono ?_; rintro e w4 ⟨rfl, ⟨K', hp, hs, ho⟩, hc4⟩; have HP := Lib.hid hp; have HS := Lib.hid hs; have HO := Lib.hid ho; have HC4 := Lib.hid hc4; clear hp hs ho hc4)
      go_ret
      refine ⟨_, K', rfl, (HP.out.trans HK.out).trans (by rw [seen_all (fun c => decide (c.due ≤ now)) HZ.out]), HS.out, ?_, HCH.out.trans HC4.out (fun q hq hlt => by have := (own_lt HOWN.out hq).1; omega)⟩
      rw [HP.out.length_eq]
      exact own_le HO.out (by omega)
    · obtain ⟨x, hx, rfl, hsx⟩ := left_ent he
      have HE := Lib.hid (left_shrinks S.es seen _ he)
      have hsz : w.heap.size < wr.heap.size := lt_of_block hit
      obtain ⟨hc2, hit2⟩ := set_chg (w := wr) (g := w.heap.size) (.mapIter (some S.r) S.clock (seen.push x.2) S.clock) hw1 hsz
      have hn2 : (Instr.next (.pointer (some ⟨w.heap.size, 0, none⟩)) false 0).run Try.prog wr = .ok (.tuple #[.bool true, .int .u64 x.1.id, .agg #[.int .u64 x.1.id, .int .i64 x.1.to, .int .i64 x.1.since, .int .i64 x.1.tries, .int .i64 x.1.due]]) (setBlock w1 w.heap.size (.mapIter (some S.r) S.clock (seen.push x.2) S.clock)) := hn
      obtain ⟨W2, hW2⟩ : ∃ W2, W2 = setBlock w1 w.heap.size (.mapIter (some S.r) S.clock (seen.push x.2) S.clock) := ⟨_, rfl⟩
      rw [← hW2] at hn2 hc2 hit2
      have hcw : Chg (fun _ => False) w W2 := HCH.out.trans hc2 (fun q hq hlt => by have hq : q = w.heap.size := hq; omega)
      have hl2 := HL.out.same hcw
      have hen : (Instr.entry (.pointer (some ⟨w.heap.size, 0, none⟩))).run Try.prog W2 = .ok (.tuple #[.int .u64 x.1.id, .agg #[.int .u64 x.1.id, .int .i64 x.1.to, .int .i64 x.1.since, .int .i64 x.1.tries, .int .i64 x.1.due]]) W2 :=
        run_entry_at W2 w.heap.size S.r S.clock seen S.es S.clock (ent x) hit2 hl2.log (by simp only [Cs.es]; exact List.mem_map_of_mem hx) (sorted_nodup hl2.born rfl)
      have own2 := hc2.owns' HOWN.out (fun q hq => by have hq : q = w.heap.size := hq; omega)
      have HX := Lib.hid hx
      have HSX := Lib.hid hsx
      have HIT2 := Lib.hid hit2
      have HCW := Lib.hid hcw
      have OWN2 := Lib.hid own2
      have hb2 : w.heap.size + 1 ≤ W2.heap.size := by have := hc2.size; omega
      have HB2 := Lib.hid hb2
      have h63 : K.length + 1 ≤ maxLen := by unfold maxLen; omega
      have h40 : (K.length + 1) * 40 ≤ 140737488355328 := by omega
      clear hit hc0 hn hW2 hc2 hit2 hcw hl2 own2 hx hsx he hw1 hsz hb2
      cases hd : decide (x.1.due ≤ now) with
      | true =>
        have HD := Lib.hid hd
        go_wp2_with (first
          | (go_at_call 33; refine (pickDue x.1 gn now _ ((HCW.out.alloc _).cell HN.out (fun h => h))).mono ?_; rintro e w3 ⟨rfl, hc3⟩; rw [hd]; have C3 := Lib.hid (((Chg.refl (fun _ => False) W2).alloc _).trans hc3 (fun _ h => h.elim)); have b3 := hc3.obj (heap_alloc_new W2 _) (fun h => h); have y0 := cell_row (i := 0) b3 rfl; have y1 := cell_row (i := 1) b3 rfl; have y2 := cell_row (i := 2) b3 rfl; have y3 := cell_row (i := 3) b3 rfl; have y4 := cell_row (i := 4) b3 rfl; simp only [List.getElem_toArray, List.getElem_cons_zero, List.getElem_cons_succ] at y0 y1 y2 y3 y4; clear hc3 b3)
          | (refine wpList_append_own _ rfl (.tmp 20) (.tmp 22) 33 rfl (w.heap.size + 1) 52 en0 zCallV 5 40 Try.underlying33 hen0 hez0 hez1 hez2 rfl (by decide) _ _ _ rfl (((Chg.refl (fun _ => False) w3).alloc _).owns (C3.out.owns OWN2.out (fun _ _ h => h)) (fun _ _ h => h)) ⟨w3.heap.size, 0, none⟩ 1 1 x.1.cells rfl rfl (news_alloc w3 _ 52) (by simp [Cl.cells, Value.oneCell']) h63 h40 (by have := C3.out.size; have := HB2.out; simp; omega) ?_; intro v4 w4 hown4 hgrow4 _; obtain ⟨a4, c4, rfl⟩ := own_form hown4; have O4 := Lib.hid hown4; have G4 := Lib.hid hgrow4; clear hown4 hgrow4))
        go_roundw
        case rel => exact sinv_step HX.out HLR.out.born HSX.out HD.out HIT2.out HK.out (C3.out.owns OWN2.out (fun _ _ h => h)) C3.out (HCW.out.trans C3.out (fun _ h => h.elim)) G4.out O4.out rfl rfl
        case measure =>
          rw [HMU.out]
          exact (sinv_mu HIT2.out (C3.out.owns OWN2.out (fun _ _ h => h)) C3.out G4.out).symm ▸ HE.out
      | false =>
        have HD := Lib.hid hd
        go_wp2_with (go_at_call 33; refine (pickDue x.1 gn now _ ((HCW.out.alloc _).cell HN.out (fun h => h))).mono ?_; rintro e w3 ⟨rfl, hc3⟩; rw [hd]; have C3 := Lib.hid (((Chg.refl (fun _ => False) W2).alloc _).trans hc3 (fun _ h => h.elim)); clear hc3)
        go_roundw
        case rel => exact sinv_skip HX.out HLR.out.born HSX.out HD.out HIT2.out HK.out (C3.out.owns OWN2.out (fun _ _ h => h)) C3.out (HCW.out.trans C3.out (fun _ h => h.elim))
        case measure =>
          rw [HMU.out]
          exact (sinv_mu2 HIT2.out C3.out).symm ▸ HE.out

end Go.Proofs.Ytojgalggibmjjaa
