/- slices.Insert of one entry before the end: in place; in a new row. -/
import Derived.Test.YtpdchdbkfflgfaaH
namespace Go.Proofs.Ytpdchdbkfflgfaa
open Go.RowKit

theorem size65 : ∀ w, (Go.sizeOf 65).run Try.prog w = .ok 2 w := fun w => by kernel_rfl
theorem overlap_no (g1 g o n : Nat) (w : World) (cs1 cs2 : Array Value) (t1 t2 : TypeId) (lb cb : Nat)
    (h1 : w.heap[g1]? = some (.cells cs1 t1 (0, 0))) (h2 : w.heap[g]? = some (.cells cs2 t2 (0, 0))) (hne : g1 ≠ g) (hn : cs2.size ≠ 0) :
    (callFunc 45 #[.slice (some ⟨g1, 0, none⟩) n n, .slice (some ⟨g, o, none⟩) lb cb]).run Try.prog w = .ok (.value (.bool false)) w := by
  rw [run_callFunc_extern Try.func45 (by kernel_rfl) (by kernel_rfl) (by kernel_rfl) (e := Extern.SlicesOverlaps.overlaps #[33, 33] #[4]) (by kernel_rfl),
      Lib.run_overlaps_apart w 33 4 65 Try.underlying33 2 size65 ⟨g1, 0, none⟩ ⟨g, o, none⟩ n n lb cb hne t1 t2 cs1.size cs2.size (by simp [World.shape?, h1]) (by simp [World.shape?, h2]) hn (by simp [World.frozen?, h1]) (by simp [World.frozen?, h1])]
  rfl
theorem ins_list (cur a b T cs : List Value) (i m : Nat) (hcur : cur = a ++ b ++ T) (ha : a.length = i * 2) (hb : b.length = m * 2) (hT : 2 ≤ T.length) (hcs : cs.length = 2) :
    (spl (spl cur ((i + 1) * 2) b) (i * 2) cs).take ((i + m + 1) * 2) = a ++ (cs ++ b) := by
  subst hcur
  unfold spl
  have e1 : ∀ X : List Value, ((a ++ b ++ T).take ((i + 1) * 2) ++ b ++ X).take (i * 2) = a := by
    intro X
    rw [List.append_assoc, List.take_append_of_le_length (by simp; omega), List.take_take, Nat.min_eq_left (by omega), List.append_assoc, List.take_append_of_le_length (by omega), List.take_of_length_le (by omega)]
  have e2 : ∀ X : List Value, ((a ++ b ++ T).take ((i + 1) * 2) ++ b ++ X).drop (i * 2 + cs.length) = b ++ X := by
    intro X
    rw [List.append_assoc, List.drop_append_of_le_length (by simp; omega), List.drop_of_length_le (by simp; omega)]
    rfl
  rw [e1, e2, List.append_assoc, List.take_append, List.take_of_length_le (by omega), List.take_append, List.take_of_length_le (l := cs) (by omega), List.take_append, List.take_of_length_le (l := b) (by omega)]
  rw [show (i + m + 1) * 2 - a.length - cs.length - b.length = 0 from by omega]
  simp
theorem flat_split (l : List Ent) (i : Nat) : flat l = flat (l.take i) ++ flat (l.drop i) := by rw [← flat_append, List.take_append_drop]
theorem ins_flat (cur : List Value) (l : List Ent) (i cap : Nat) (k x : ByteArray) (hc : cur.length = cap * 2) (ht : cur.take (l.length * 2) = flat l) (hi : i ≤ l.length) (hroom : l.length + 1 ≤ cap) :
    (spl (spl cur ((i + 1) * 2) (flat (l.drop i))) (i * 2) [.string k, .string x]).take ((l.length + 1) * 2) = flat (l.take i ++ (k, x) :: l.drop i) := by
  have h := ins_list cur (flat (l.take i)) (flat (l.drop i)) (cur.drop (l.length * 2)) [.string k, .string x] i (l.length - i)
    (by rw [← flat_split, ← ht, List.take_append_drop]) (by rw [flat_length]; simp; omega) (by rw [flat_length]; simp) (by simp [hc]; omega) rfl
  rw [show i + (l.length - i) + 1 = l.length + 1 from by omega] at h
  rw [h, flat_append]
  rfl
theorem drop_news {w : World} {g : Nat} {cur : Array Value} {t : TypeId} {fr : Nat × Nat} {l : List Ent} {i : Nat} (hg : w.heap[g]? = some (.cells cur t fr)) (ht : cur.toList.take (l.length * 2) = flat l) (hi : i ≤ l.length) :
    ∀ j u, (flat (l.drop i))[j]? = some u → w.cell? ((⟨g, i * 2, none⟩ : Addr).add j) = some u := by
  intro j u hu
  rw [add_lit]
  refine cell_row hg ?_
  have e : (flat l)[i * 2 + j]? = some u := by
    rw [flat_split l i, List.getElem?_append_right (by rw [flat_length]; simp; omega)]
    rw [show i * 2 + j - (flat (l.take i)).length = j from by rw [flat_length]; simp; omega]
    exact hu
  rw [← ht, List.getElem?_take] at e
  split at e
  · simpa using e
  · cases e
set_option maxRecDepth 100000 in
set_option maxHeartbeats 1000000 in
theorem insert_shift (B g cap i : Nat) (cur : Array Value) (l : List Ent) (k x : ByteArray) (g1 : Nat) (w : World)
    (hb : B ≤ g) (hg : w.heap[g]? = some (.cells cur 65 (0, 0))) (hm : cap ≤ maxLen) (hc : cur.size = cap * 2) (ht : cur.toList.take (l.length * 2) = flat l)
    (hi : i < l.length) (hroom : l.length + 1 ≤ cap) (h7 : l.length < 8)
    (hg1 : w.heap[g1]? = some (.cells #[.string k, .string x] 65 (0, 0))) (hne : g1 ≠ g) :
    Calls Try.prog 30 #[.slice (some ⟨g, 0, none⟩) l.length cap, .int .i64 i, .slice (some ⟨g1, 0, none⟩) 1 1] w fun e w' => ∃ v', e = .returned v' ∧
      w'.ownsRow B 65 2 v' (l.length + 1) (flat (l.take i ++ (k, x) :: l.drop i)) ∧ Chg (fun q => g = q) w w' ∧ v'.ownBlock = some g := by
  obtain ⟨i0, hi0, hz0, hz1, hz2⟩ := info_parts info65
  have hdl : (flat (l.drop i)).length = (l.length - i) * 2 := by rw [flat_length]; simp
  have hcl : cur.toList.length = cap * 2 := by simpa using hc
  have hfit1 : (i + 1) * 2 + (flat (l.drop i)).length ≤ cur.toList.length := by rw [hdl, hcl]; omega
  obtain ⟨W1, hW1, hgr1, hrun1⟩ := copy_run (P := Try.prog) w.drew 33 33 65 i0 2 g ((i + 1) * 2) (l.length - i) ⟨g, i * 2, none⟩ (l.length + 1 - i) cur.toList 65 (flat (l.drop i)) Try.underlying33 hi0 hz1 hg
    (by rw [hdl, show Nat.min (l.length + 1 - i) (l.length - i) = l.length - i from by simp only [Nat.min_def]; split <;> omega])
    (fun j u hu => drop_news hg ht (by omega) j u hu) hfit1 (flat_one _)
  have hg1W : W1.heap[g1]? = some (.cells #[.string k, .string x] 65 (0, 0)) := (hgr1.block g1 (lt_of_block hg1) (fun e => hne (by injection e))).trans hg1
  have hsl := spl_length hfit1
  obtain ⟨W2, hW2, hgr2, hrun2⟩ := copy_run (P := Try.prog) W1 33 33 65 i0 2 g (i * 2) (l.length + 1 - i) ⟨g1, 0, none⟩ 1 _ 65 [.string k, .string x] Try.underlying33 hi0 hz1 hW1
    (by rw [show Nat.min 1 (l.length + 1 - i) = 1 from by simp only [Nat.min_def]; split <;> omega]; rfl)
    (World.news_of_block (cs := #[.string k, .string x]) hg1W) (by rw [hsl, hcl]; simp; omega) (by simp [Value.oneCell'])
  have hov := fun lb cb => overlap_no g1 g ((i + 1) * 2) 1 w _ _ 65 65 lb cb hg1 hg hne (by rw [hc]; omega)
  have e1 : (i : Int) < l.length := by omega
  have e2 : ((i : Int) == l.length) = false := by simp; omega
  have e3 : decide ((cap : Int) < l.length + 1) = false := by simp; omega
  have e4 : ((l.length : Int) + 1) ≤ cap := by omega
  have e5 : (i : Int) + 1 ≤ l.length + 1 := by omega
  have e6 : ¬ cap = i + 1 := by omega
  have e7 : ¬ cap = i := by omega
  have e8 : (0 : Int) ≤ (i : Int) + 1 := by omega
  have e9 : (i : Int) ≤ (l.length : Int) + 1 := by omega
  have ea : (0 : Int) ≤ (i : Int) := by omega
  have eb : IntKind.i64.wrap ((i : Int) + 1) = (i : Int) + 1 := by rw [IntKind.wrap_i64]; unfold maxLen at hm; omega
  have ec : ((i : Int) + 1).toNat = i + 1 := by omega
  have HF := Lib.hid (And.intro hm (ins_flat cur.toList l i cap k x hcl ht (by omega) hroom))
  clear hm hc ht hg hg1
  go_enter Try.func30, Try.ntmps30
  go_wp2_with (simp only [hov])
  go_region_held3 (fun _ => True) (trivial)
    ((refine step_copy_run rfl _ _ 33 33 rfl _ _ (by simp [Act.eval]) (by simp [Act.eval]) (hrun1 _ _ _) ?_))
  go_wp2_with (at_builtin; refine wpList_copy_run _ rfl _ _ 33 33 rfl _ _ rfl rfl (hrun2 _ _ _) ?_)
  go_ret
  refine ⟨_, rfl, ⟨by rw [flat_length]; simp; omega, .inr ⟨g, cap, _, rfl, hb, hW2, hroom, HF.out.1, ?_, HF.out.2⟩⟩, (Chg.of_grown (grown_drew hgr1) (fun q h => by injection h)).trans (Chg.of_grown hgr2 (F := fun q => g = q) (fun q h => by injection h)) (fun _ h _ => h), rfl⟩
  show (spl (spl cur.toList ((i + 1) * 2) (flat (l.drop i))) (i * 2) [.string k, .string x]).length = cap * 2
  rw [spl_length (by rw [hsl, hcl]; simp; omega), hsl, hcl]
end Go.Proofs.Ytpdchdbkfflgfaa
