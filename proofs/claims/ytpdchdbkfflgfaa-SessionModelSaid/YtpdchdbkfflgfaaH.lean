/- slices.Insert of one entry. -/
import Derived.Test.YtpdchdbkfflgfaaF
import Derived.Test.YtpdchdbkfflgfaaG
import Derived.Deep.AppendLies
namespace Go.Proofs.Ytpdchdbkfflgfaa
open Go.RowKit

theorem own_old {v : Value} {g n c H : Nat} (h : v.ownBlock = some g ∨ g = H) : ∀ q, (Value.slice (some ⟨g, 0, none⟩) n c).ownBlock = some q → v.ownBlock = some q ∨ H ≤ q := by
  intro q hq
  obtain rfl : g = q := by simpa [Value.ownBlock] using hq
  exact h.imp id (fun e => by omega)
set_option maxRecDepth 100000 in
set_option maxHeartbeats 1000000 in
theorem insert_end (B : Nat) (v : Value) (l : List Ent) (k x : ByteArray) (g1 : Nat) (w : World)
    (hB : B ≤ w.heap.size) (ho : w.ownsRow B 65 2 v l.length (flat l)) (h7 : l.length < 8)
    (hg1 : w.heap[g1]? = some (.cells #[.string k, .string x] 65 (0, 0))) :
    Calls Try.prog 30 #[v, .int .i64 l.length, .slice (some ⟨g1, 0, none⟩) 1 1] w fun e w' => ∃ v', e = .returned v' ∧
      w'.ownsRow B 65 2 v' (l.length + 1) (flat (l ++ [(k, x)])) ∧ Chg (fun q => v.ownBlock = some q) w w' ∧ (∀ q, v'.ownBlock = some q → v.ownBlock = some q ∨ w.heap.size ≤ q) := by
  obtain ⟨i0, hi, hz0, hz1, hz2⟩ := info_parts info65
  have h32 : (l.length + 1) * 32 ≤ 140737488355328 := by omega
  have h63 : l.length + 1 ≤ maxLen := by unfold maxLen; omega
  have HO := Lib.hid ho
  have HN := Lib.hid (World.news_of_block (cs := #[.string k, .string x]) hg1)
  have hpos : 0 < 1 := by omega
  rcases ho.2 with ⟨rfl, h0⟩ | ⟨g, cap, cur, rfl, hb, hg, hn, hm, hc, ht⟩
  · have hl : l = [] := List.eq_nil_of_length_eq_zero h0
    subst hl
    clear ho h0 hg1
    go_enter Try.func30, Try.ntmps30
    go_wp2_with ((at_builtin; refine wpList_append_lies _ rfl _ _ 33 rfl B 65 i0 zEnt 2 32 Try.underlying33 hi hz0 hz1 hz2 rfl (by decide) (.slice none 0 0) _ _ rfl HO.out ⟨g1, 0, none⟩ 1 1 [.string k, .string x] rfl rfl HN.out (by simp [Value.oneCell']) hpos h63 h32 hB _ rfl ?_; intro g2 cap2 w1 hown1 hgrow1 hlie1 hlt1))
    go_ret
    exact ⟨_, rfl, hown1, Chg.of_grown hgrow1 (fun _ h => h), own_old hlie1⟩
  · clear ho hg hg1
    go_enter Try.func30, Try.ntmps30
    go_wp2_with ((at_builtin; refine wpList_append_lies _ rfl _ _ 33 rfl B 65 i0 zEnt 2 32 Try.underlying33 hi hz0 hz1 hz2 rfl (by decide) (.slice (some ⟨g, 0, none⟩) l.length cap) _ _ rfl HO.out ⟨g1, 0, none⟩ 1 1 [.string k, .string x] rfl rfl HN.out (by simp [Value.oneCell']) hpos h63 h32 hB _ rfl ?_; intro g2 cap2 w1 hown1 hgrow1 hlie1 hlt1))
    all_goals
      go_ret
      exact ⟨_, rfl, by rw [flat_append]; exact hown1, Chg.of_grown hgrow1 (fun _ h => h), own_old hlie1⟩
end Go.Proofs.Ytpdchdbkfflgfaa
