/- slices.Insert of one entry before the end, in a new row; all roads together. -/
import Derived.Test.YtpdchdbkfflgfaaI
namespace Go.Proofs.Ytpdchdbkfflgfaa
open Go.RowKit

theorem grow_list (a b T cs : List Value) (i m : Nat) (ha : a.length = i * 2) (hb : b.length = m * 2) (hcs : cs.length = 2) :
    (spl (spl (a ++ T) (i * 2) cs) ((i + 1) * 2) b).take ((i + m + 1) * 2) = a ++ (cs ++ b) := by
  unfold spl
  have e0 : (a ++ T).take (i * 2) = a := by rw [List.take_append_of_le_length (by omega), List.take_of_length_le (by omega)]
  rw [e0]
  have e1 : ∀ X : List Value, (a ++ cs ++ X).take ((i + 1) * 2) = a ++ cs := by
    intro X
    rw [List.take_append_of_le_length (by simp; omega), List.take_of_length_le (by simp; omega)]
  rw [e1, List.append_assoc, List.append_assoc, List.take_append, List.take_of_length_le (by omega), List.take_append, List.take_of_length_le (l := cs) (by omega), List.take_append, List.take_of_length_le (l := b) (by omega)]
  rw [show (i + m + 1) * 2 - a.length - cs.length - b.length = 0 from by omega]
  simp
theorem grow_flat (l : List Ent) (T : List Value) (i : Nat) (k x : ByteArray) (hi : i ≤ l.length) :
    (spl (spl (flat (l.take i) ++ T) (i * 2) [.string k, .string x]) ((i + 1) * 2) (flat (l.drop i))).take ((l.length + 1) * 2) = flat (l.take i ++ (k, x) :: l.drop i) := by
  have h := grow_list (flat (l.take i)) (flat (l.drop i)) T [.string k, .string x] i (l.length - i) (by rw [flat_length]; simp; omega) (by rw [flat_length]; simp) rfl
  rw [show i + (l.length - i) + 1 = l.length + 1 from by omega] at h
  rw [h, flat_append]
  rfl
theorem take_news {w : World} {g : Nat} {cur : Array Value} {t : TypeId} {fr : Nat × Nat} {l : List Ent} {i : Nat} (hg : w.heap[g]? = some (.cells cur t fr)) (ht : cur.toList.take (l.length * 2) = flat l) :
    ∀ j u, (flat (l.take i))[j]? = some u → w.cell? ((⟨g, 0, none⟩ : Addr).add j) = some u := by
  intro j u hu
  rw [add_lit, Nat.zero_add]
  refine cell_row hg ?_
  have e : (flat l)[j]? = some u := by
    rw [flat_split l i, List.getElem?_append_left (List.getElem?_eq_some_iff.1 hu).1]
    exact hu
  rw [← ht, List.getElem?_take] at e
  split at e
  · simpa using e
  · cases e
set_option maxRecDepth 100000 in
set_option maxHeartbeats 1000000 in
theorem insert_grow (B g i : Nat) (cur : Array Value) (l : List Ent) (k x : ByteArray) (g1 : Nat) (w : World)
    (hB : B ≤ w.heap.size) (hg : w.heap[g]? = some (.cells cur 65 (0, 0))) (ht : cur.toList.take (l.length * 2) = flat l)
    (hi : i < l.length) (h7 : l.length < 8)
    (hg1 : w.heap[g1]? = some (.cells #[.string k, .string x] 65 (0, 0))) :
    Calls Try.prog 30 #[.slice (some ⟨g, 0, none⟩) l.length l.length, .int .i64 i, .slice (some ⟨g1, 0, none⟩) 1 1] w fun e w' => ∃ v', e = .returned v' ∧
      w'.ownsRow B 65 2 v' (l.length + 1) (flat (l.take i ++ (k, x) :: l.drop i)) ∧ Chg (fun _ => False) w w' ∧ v'.ownBlock = some w.heap.size := by
  obtain ⟨i0, hi0, hz0, hz1, hz2⟩ := info_parts info65
  have hdl : (flat (l.drop i)).length = (l.length - i) * 2 := by rw [flat_length]; simp
  have htl : (flat (l.take i)).length = i * 2 := by rw [flat_length]; simp; omega
  obtain ⟨W1, cap, rest, hcap1, hcap2, hrl, hW1, hgr1, hrun1⟩ := append_zeros_run (P := Try.prog) w 33 3 65 i0 zEnt .i64 .i64 Try.underlying33 Try.underlying3 hi0 hz0 ⟨g, 0, none⟩ i l.length (l.length + 1 - i) (flat (l.take i))
    (by rw [htl, hz1]) (take_news hg ht) (by omega) (by rw [hz1]; rfl) (by omega) (by omega) (by rw [hz2]; omega) (by omega) (by omega)
  rw [show i + (l.length + 1 - i) = l.length + 1 from by omega] at hcap1 hrun1
  rw [show ((l.length + 1 - i : Nat) : Int) = (l.length : Int) + 1 - i from by omega] at hrun1
  rw [hz1] at hrl
  have hgl := lt_of_block hg
  have hg1l := lt_of_block hg1
  have hgW1 : W1.heap[g]? = some (.cells cur 65 (0, 0)) := (hgr1.block g hgl (by simp)).trans hg
  have hg1W1 : W1.heap[g1]? = some (.cells #[.string k, .string x] 65 (0, 0)) := (hgr1.block g1 hg1l (by simp)).trans hg1
  have hl1 : (flat (l.take i) ++ rest).length = cap * 2 := by rw [List.length_append, htl, hrl]; omega
  have hfit1 : i * 2 + [Value.string k, Value.string x].length ≤ (flat (l.take i) ++ rest).length := by rw [hl1]; simp; omega
  obtain ⟨W2, hW2, hgr2, hrun2⟩ := copy_run (P := Try.prog) W1 33 33 65 i0 2 w.heap.size (i * 2) (l.length + 1 - i) ⟨g1, 0, none⟩ 1 _ 65 [.string k, .string x] Try.underlying33 hi0 hz1 hW1
    (by rw [show Nat.min 1 (l.length + 1 - i) = 1 from by simp only [Nat.min_def]; split <;> omega]; rfl)
    (World.news_of_block (cs := #[.string k, .string x]) hg1W1) hfit1 (by simp [Value.oneCell'])
  have hl2 := spl_length hfit1
  have hgW2 : W2.heap[g]? = some (.cells cur 65 (0, 0)) := (hgr2.block g (by have := hgr1.size; omega) (fun e => by injection e; omega)).trans hgW1
  have hfit2 : (i + 1) * 2 + (flat (l.drop i)).length ≤ (spl (flat (l.take i) ++ rest) (i * 2) [Value.string k, Value.string x]).length := by rw [hl2, hl1, hdl]; omega
  obtain ⟨W3, hW3, hgr3, hrun3⟩ := copy_run (P := Try.prog) W2.drew 33 33 65 i0 2 w.heap.size ((i + 1) * 2) (l.length - i) ⟨g, i * 2, none⟩ (l.length - i) _ 65 (flat (l.drop i)) Try.underlying33 hi0 hz1 hW2
    (by rw [hdl, show Nat.min (l.length - i) (l.length - i) = l.length - i from by simp only [Nat.min_def]; split <;> omega])
    (fun j u hu => drop_news (w := W2) hgW2 ht (by omega) j u hu) hfit2 (flat_one _)
  have hl3 := spl_length hfit2
  have e1 : (i : Int) < l.length := by omega
  have e2 : ((i : Int) == l.length) = false := by simp; omega
  have e3 : decide ((l.length : Int) < l.length + 1) = true := by simp; omega
  have e5 : (i : Int) + 1 ≤ l.length + 1 := by omega
  have e6 : ¬ cap = i + 1 := by omega
  have e7 : ¬ cap = i := by omega
  have ex : ¬ l.length = i := by omega
  have e8 : (0 : Int) ≤ (i : Int) + 1 := by omega
  have e9 : (i : Int) ≤ (l.length : Int) + 1 := by omega
  have ea : (0 : Int) ≤ (i : Int) := by omega
  have ed : (i : Int) ≤ (l.length : Int) := by omega
  have eb : IntKind.i64.wrap ((i : Int) + 1) = (i : Int) + 1 := by rw [IntKind.wrap_i64]; omega
  have ec : ((i : Int) + 1).toNat = i + 1 := by omega
  have HF := Lib.hid (grow_flat l rest i k x (by omega))
  have HL := Lib.hid (hl3.trans (hl2.trans hl1))
  clear ht hg hg1 hgW1 hgW2 hg1W1 hl1 hl2 hl3 hfit1 hfit2 hW1 hW2
  go_enter Try.func30, Try.ntmps30
  go_wp2_with (first | (at_builtin; refine Lib.wpList_append_run _ rfl _ _ 33 3 rfl _ _ rfl rfl _ _ (hrun1 _) ?_) | (at_builtin; refine wpList_copy_run _ rfl _ _ 33 33 rfl _ _ rfl rfl (hrun2 _ _ _) ?_))
  go_region_held3 (fun _ => True) (trivial)
    ((refine step_copy_run rfl _ _ 33 33 rfl _ _ (by simp [Act.eval]) (by simp [Act.eval]) (hrun3 _ _ _) ?_))
  go_wp2
  go_ret
  refine ⟨_, rfl, ⟨by rw [flat_length]; simp; omega, .inr ⟨w.heap.size, cap, _, rfl, hB, hW3, hcap1, hcap2, HL.out, HF.out⟩⟩, ?_, rfl⟩
  have c1 : Chg (fun _ => False) w W1 := Chg.of_grown hgr1 (fun q h => by cases h)
  have c2 : Chg (fun q => w.heap.size = q) W1 W2 := Chg.of_grown hgr2 (fun q h => by injection h)
  have c3 : Chg (fun q => w.heap.size = q) W2 W3 := Chg.of_grown (grown_drew hgr3) (fun q h => by injection h)
  exact c1.trans (c2.trans c3 (fun _ h _ => h)) (fun q h h2 => by omega)

theorem insert_any (B i : Nat) (v : Value) (l : List Ent) (k x : ByteArray) (g1 : Nat) (w : World)
    (hB : B ≤ w.heap.size) (ho : w.ownsRow B 65 2 v l.length (flat l)) (hi : i ≤ l.length) (h7 : l.length < 8)
    (hg1 : w.heap[g1]? = some (.cells #[.string k, .string x] 65 (0, 0))) (hne : v.ownBlock ≠ some g1) :
    Calls Try.prog 30 #[v, .int .i64 i, .slice (some ⟨g1, 0, none⟩) 1 1] w fun e w' => ∃ v', e = .returned v' ∧
      w'.ownsRow B 65 2 v' (l.length + 1) (flat (l.take i ++ (k, x) :: l.drop i)) ∧ Chg (fun q => v.ownBlock = some q) w w' ∧ (∀ q, v'.ownBlock = some q → v.ownBlock = some q ∨ w.heap.size ≤ q) := by
  by_cases he : i = l.length
  · subst he
    rw [List.take_length, List.drop_length]
    exact insert_end B v l k x g1 w hB ho h7 hg1
  · rcases ho.2 with ⟨rfl, h0⟩ | ⟨g, cap, cur, rfl, hb, hg, hn, hm, hc, ht⟩
    · omega
    · by_cases hr : l.length + 1 ≤ cap
      · refine (insert_shift B g cap i cur l k x g1 w hb hg hm hc ht (by omega) hr h7 hg1 (fun e => hne (by rw [e]; rfl))).mono ?_
        rintro e w' ⟨v', h1, h2, h3, h4⟩
        exact ⟨v', h1, h2, h3.mono (fun q hq _ => by rw [← hq]; rfl), fun q hq => .inl (by rw [h4] at hq; exact hq)⟩
      · obtain rfl : cap = l.length := by omega
        refine (insert_grow B g i cur l k x g1 w hB hg ht (by omega) h7 hg1).mono ?_
        rintro e w' ⟨v', h1, h2, h3, h4⟩
        exact ⟨v', h1, h2, h3.mono (fun q hq _ => hq.elim), fun q hq => .inr (by rw [h4] at hq; injection hq; omega)⟩
end Go.Proofs.Ytpdchdbkfflgfaa
