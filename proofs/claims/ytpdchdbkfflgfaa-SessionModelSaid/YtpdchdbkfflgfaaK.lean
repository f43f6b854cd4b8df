/- slices.Delete of one entry. -/
import Derived.Test.YtpdchdbkfflgfaaJ
namespace Go.Proofs.Ytpdchdbkfflgfaa
open Go.RowKit

theorem zeros_one : (Builtin.zeroCells zEnt.cells 1).toList = [.string ⟨#[]⟩, .string ⟨#[]⟩] := by
  simp [Builtin.zeroCells, zEnt, Value.cells, List.range_succ]
/-- append where there is room: what the row holds then. -/
theorem append_room_run {P : Program} (w : World) (t e : TypeId) (i : TypeInfo) (size : Nat) (ht : P.underlying t = some (.slice e)) (hi : P.info? e = some i) (hs : i.size = size)
    (g sLen sCap : Nat) (cur : List Value) (hg : w.heap[g]? = some (.cells cur.toArray e (0, 0)))
    (a : Addr) (m : Nat) (news : List Value) (hl : news.length = m * size) (hnews : ∀ j u, news[j]? = some u → w.cell? (a.add j) = some u) (h1 : ∀ u ∈ news, u.oneCell' = true)
    (hroom : sLen + m ≤ sCap) (hfit : sLen * size + news.length ≤ cur.length) :
    ∃ w' : World, w'.heap[g]? = some (.cells (spl cur (sLen * size) news).toArray e (0, 0)) ∧ w.grownBy w' (some g) ∧ ∀ ty c,
    (Builtin.append_ #[t, t] ty #[.slice (some ⟨g, 0, none⟩) sLen sCap, .slice (some a) m c]).run P w = .ok (.slice (some ⟨g, 0, none⟩) (sLen + m) sCap) w' := by
  subst hs
  exact ⟨w.setRow g (spl cur (sLen * i.size) news).toArray, setRow_heap w g _ _ e _ hg, setRow_grown w g _, fun ty c =>
    run_append_room w t ty e i ht hi g sLen sCap cur.toArray hg a m c news hl hnews h1 hroom (by simpa using hfit)⟩
theorem del_list (cur a b c T zs : List Value) (n : Nat) (hcur : cur = a ++ c ++ b ++ T) (hn : a.length + b.length = n) :
    (spl (spl cur a.length b) n zs).take n = a ++ b := by
  subst hcur
  unfold spl
  have e0 : (a ++ c ++ b ++ T).take a.length = a := by simp
  rw [e0]
  have e1 : ∀ X : List Value, (a ++ b ++ X).take n = a ++ b := by
    intro X
    rw [List.take_append_of_le_length (by simp; omega), List.take_of_length_le (by simp; omega)]
  rw [e1, List.append_assoc, e1]
theorem flat_three (l : List Ent) (i : Nat) (hi : i < l.length) : flat l = flat (l.take i) ++ flat [l[i]] ++ flat (l.drop (i + 1)) := by
  rw [← flat_append, ← flat_append]
  congr 1
  simp
theorem del_flat (cur : List Value) (l : List Ent) (i : Nat) (zs : List Value) (ht : cur.take (l.length * 2) = flat l) (hi : i < l.length) :
    (spl (spl cur (i * 2) (flat (l.drop (i + 1)))) ((l.length - 1) * 2) zs).take ((l.length - 1) * 2) = flat (l.eraseIdx i) := by
  have hla : (flat (l.take i)).length = i * 2 := by rw [flat_length]; simp; omega
  have h := del_list cur (flat (l.take i)) (flat (l.drop (i + 1))) (flat [l[i]]) (cur.drop (l.length * 2)) zs ((l.length - 1) * 2)
    (by rw [← flat_three l i hi, ← ht, List.take_append_drop]) (by rw [flat_length, flat_length]; simp; omega)
  rw [hla] at h
  rw [h, ← flat_append, List.eraseIdx_eq_take_drop_succ]
set_option maxRecDepth 100000 in
set_option maxHeartbeats 1000000 in
theorem delete_any (B i : Nat) (v : Value) (l : List Ent) (w : World) (ho : w.ownsRow B 65 2 v l.length (flat l)) (hi : i < l.length) (h8 : l.length ≤ 8) :
    Calls Try.prog 31 #[v, .int .i64 i, .int .i64 ((i : Int) + 1)] w fun e w' => ∃ v', e = .returned v' ∧
      w'.ownsRow B 65 2 v' (l.length - 1) (flat (l.eraseIdx i)) ∧ Chg (fun q => v.ownBlock = some q) w w' ∧ v'.ownBlock = v.ownBlock := by
  rcases ho.2 with ⟨rfl, h0⟩ | ⟨g, cap, cur, rfl, hb, hg, hn, hm, hc, ht⟩
  · omega
  obtain ⟨i0, hi0, hz0, hz1, hz2⟩ := info_parts info65
  have hdl : (flat (l.drop (i + 1))).length = (l.length - (i + 1)) * 2 := by rw [flat_length]; simp
  have hcl : cur.toList.length = cap * 2 := by simpa using hc
  have hfit1 : i * 2 + (flat (l.drop (i + 1))).length ≤ cur.toList.length := by rw [hdl, hcl]; omega
  have hnews : ∀ j u, (flat (l.drop (i + 1)))[j]? = some u → w.cell? ((if cap = i + 1 then (⟨g, 0, none⟩ : Addr) else ⟨g, (i + 1) * 2, none⟩).add j) = some u := by
    intro j u hu
    split
    · have : (flat (l.drop (i + 1))) = [] := by apply List.eq_nil_of_length_eq_zero; rw [hdl]; omega
      rw [this] at hu; simp at hu
    · exact drop_news hg ht (by omega) j u hu
  obtain ⟨W1, hW1, hgr1, hrun1⟩ := append_room_run (P := Try.prog) w.drew 33 65 i0 2 Try.underlying33 hi0 hz1 g i cap cur.toList hg _ (l.length - (i + 1)) (flat (l.drop (i + 1))) hdl hnews (flat_one _) (by omega) hfit1
  have hl1 := spl_length hfit1
  have hzl : (Builtin.zeroCells zEnt.cells 1).toList.length = 2 := by rw [zeros_one]; rfl
  have hfit2 : (l.length - 1) * 2 + (Builtin.zeroCells zEnt.cells 1).toList.length ≤ (spl cur.toList (i * 2) (flat (l.drop (i + 1)))).length := by rw [hl1, hcl, hzl]; omega
  obtain ⟨W2, hW2, hgr2, hrun2⟩ := clear_run (P := Try.prog) W1 33 65 i0 zEnt g ((l.length - 1) * 2) 1 _ 65 Try.underlying33 hi0 hz0 (by omega) hW1 (by rw [hl1, hcl]; show (l.length - 1) * 2 + 1 * 2 ≤ _; omega) (by rw [zeros_one]; simp [Value.oneCell'])
  have hl2 := spl_length hfit2
  have hrun3 : ∀ ty cap', (Builtin.clear_ #[33] ty #[.slice (some ⟨g, (l.length - 1) * 2, none⟩) (l.length - (l.length - 1)) cap']).run Try.prog W1 = .ok (.tuple #[]) W2 := by
    rw [show l.length - (l.length - 1) = 1 from by omega]; exact hrun2
  rw [show i + (l.length - (i + 1)) = l.length - 1 from by omega] at hrun1
  have HF := Lib.hid (del_flat cur.toList l i (Builtin.zeroCells zEnt.cells 1).toList ht hi)
  have HL := Lib.hid (hl2.trans (hl1.trans hcl))
  have e1 : (i : Int) < l.length := by omega
  have e2 : ((i : Int) == (i : Int) + 1) = false := by simp; omega
  have e5 : (i : Int) + 1 ≤ l.length := by omega
  have e6 : (l.length : Int) ≤ cap := by omega
  have e7 : ¬ cap = l.length - 1 := by omega
  have e8 : (0 : Int) ≤ (i : Int) + 1 := by omega
  have e9 : (i : Int) ≤ (l.length : Int) := by omega
  have ea : (0 : Int) ≤ (i : Int) := by omega
  have ef : (i : Int) ≤ (i : Int) + 1 := by omega
  have ec : ((i : Int) + 1).toNat = i + 1 := by omega
  have eg : (i : Int) ≤ cap := by omega
  have eh : ¬ l.length = i := by omega
  have Hm := Lib.hid hm
  clear ht hg hm ho hW1 hl1 hl2 hnews
  by_cases hcap : cap = i + 1
  · simp only [hcap, if_true] at hrun1
    have el : l.length - (i + 1) = 0 := by omega
    rw [el] at hrun1
    subst hcap
    go_enter Try.func31, Try.ntmps31
    go_wp2
    go_region_held3 (fun _ => True) (trivial)
      ((refine step_append_run (by rfl) _ _ 33 33 (by rfl) _ _ (by rfl) (by rfl) (hrun1 _ _) ?_))
    go_wp2
    go_ret
    exact ⟨_, rfl, ⟨by rw [flat_length, List.length_eraseIdx_of_lt hi], .inr ⟨g, _, _, rfl, hb, hW2, by omega, Hm.out, HL.out, HF.out⟩⟩, (Chg.of_grown (grown_drew hgr1) (fun q h => h)).trans (Chg.of_grown hgr2 (F := fun q => some g = some q) (fun q h => h)) (fun _ h _ => h), rfl⟩
  · simp only [hcap, if_false] at hrun1
    go_enter Try.func31, Try.ntmps31
    go_wp2
    go_region_held3 (fun _ => True) (trivial)
      ((refine step_append_run (by rfl) _ _ 33 33 (by rfl) _ _ (by rfl) (by rfl) (hrun1 _ _) ?_))
    go_wp2
    go_ret
    exact ⟨_, rfl, ⟨by rw [flat_length, List.length_eraseIdx_of_lt hi], .inr ⟨g, _, _, rfl, hb, hW2, by omega, Hm.out, HL.out, HF.out⟩⟩, (Chg.of_grown (grown_drew hgr1) (fun q h => h)).trans (Chg.of_grown hgr2 (F := fun q => some g = some q) (fun q h => h)) (fun _ h _ => h), rfl⟩
end Go.Proofs.Ytpdchdbkfflgfaa
