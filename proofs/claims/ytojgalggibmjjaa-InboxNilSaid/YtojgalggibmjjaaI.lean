/- Next; the live question. -/
import Derived.Test.YtojgalggibmjjaaG
import Derived.Test.YtojgalggibmjjaaH
namespace Go.Proofs.Ytojgalggibmjjaa
open Go.RowKit

theorem first_cells {W : World} {B n : Nat} {v : Value} {c : Cl} {l : List Cl} (h : W.ownsRow B 52 5 v n (flatC (c :: l))) (hn : n = l.length + 1) : ∃ g cap, v = .slice (some ⟨g, 0, none⟩) n cap ∧ W.cell? ⟨g, 0, none⟩ = some (.int .u64 c.id) ∧ W.cell? ⟨g, 4, none⟩ = some (.int .i64 c.due) := by
  rcases h.2 with ⟨_, h0⟩ | ⟨g, cap, cur, rfl, hb, hg, q1, q2, q3, q4⟩
  · omega
  · have key : ∀ (j : Nat) (u : Value), (flatC (c :: l))[j]? = some u → W.cell? ⟨g, j, none⟩ = some u := by
      intro j u hu
      rw [← q4, List.getElem?_take] at hu
      split at hu
      · exact cell_row hg (by simpa using hu)
      · cases hu
    exact ⟨g, cap, rfl, key 0 _ rfl, key 4 _ rfl⟩
set_option maxRecDepth 100000 in
set_option maxHeartbeats 1000000 in
theorem next_some {B : Nat} {S : Cs} (w : World) (h : S.Lies B w) (hne : S.L ≠ []) :
    Calls Try.prog 10 #[.pointer (some ⟨S.p, 0, none⟩)] w fun e w' => (∃ c l, e = .returned (.tuple #[.int .i64 c.due, .bool true]) ∧ (c :: l).Perm (S.L.map (·.1)) ∧ SortedC (c :: l)) ∧ Chg (fun _ => False) w w' := by
  have c5 : w.cell? ⟨S.p, 5, none⟩ = some (.map (some S.r)) := cell_row h.head rfl
  have hn := fun ty => len_map (P := Try.prog) Try.underlying72 h.log ty
  rw [es_size] at hn
  have h0 : ((S.L.length : Int) == 0) = false := by cases hr : S.L with
    | nil => exact absurd hr hne
    | cons x l => simp; omega
  have HL := Lib.hid h
  have HNE := Lib.hid hne
  clear h hne
  go_enter Try.func10, Try.ntmps10
  go_wp2_with fail
  refine (sortedAll _ HL.out).mono ?_
  rintro e w1 ⟨v, K, rfl, hp, hs, ho, hc⟩
  have hp2 : K.Perm (S.L.map (·.1)) := by rwa [List.filter_eq_self.2 (fun _ _ => rfl)] at hp
  cases K with
  | nil => exact absurd (List.map_eq_nil_iff.1 (List.nil_perm.1 hp2)) HNE.out
  | cons c l =>
    obtain ⟨g, cap, rfl, k0, k4⟩ := first_cells ho rfl
    have HP := Lib.hid (And.intro hp2 hs)
    have HC := Lib.hid hc
    clear hp hp2 hs ho hc k0
    go_wp2
    go_ret2
    exact ⟨⟨c, l, rfl, HP.out.1, HP.out.2⟩, HC.out⟩
theorem next_none {B : Nat} {S : Cs} (w : World) (h : S.Lies B w) (hne : S.L = []) :
    Calls Try.prog 10 #[.pointer (some ⟨S.p, 0, none⟩)] w fun e w' => e = .returned (.tuple #[.int .i64 0, .bool false]) ∧ w = w' := by
  have c5 : w.cell? ⟨S.p, 5, none⟩ = some (.map (some S.r)) := cell_row h.head rfl
  have hn := fun ty => len_map (P := Try.prog) Try.underlying72 h.log ty
  rw [es_size, hne] at hn
  clear h hne
  go_enter Try.func10, Try.ntmps10
  go_wp2
  go_ret2
  exact ⟨rfl, rfl⟩
set_option maxRecDepth 100000 in
set_option maxHeartbeats 1000000 in
theorem awake_any (w : World) : Calls Try.prog 6 #[] w fun e w' => e = .returned (.bool true) ∧ Chg (fun _ => False) w w' := by
  go_enter Try.func6, Try.ntmps6
  go_wp2_with fail
  refine (new_ok 2 10 35 2 _ (by decide) (by decide) (by decide) (by decide) (by decide)).mono ?_
  rintro e w1 ⟨S, rfl, hl, ⟨p, r, rfl⟩, hc⟩
  have HL := Lib.hid hl
  have HC := Lib.hid hc
  clear hl hc
  go_wp2_with fail
  refine (open_ok 7 100 _ HL.out (show (0 : Int) < 4611686018427387904 by decide) (by decide) (by decide) (show ((0 : Nat) : Int) < 2 by decide)).mono ?_
  rintro e w2 ⟨rfl, hl2, hc2⟩
  have HL2 := Lib.hid hl2
  have HC2 := Lib.hid (HC.out.trans hc2 (fun q hq hlt => by
    have h1 : w.heap.size ≤ p := HL.out.op
    have h2 : w.heap.size ≤ r := HL.out.or
    have hq : q = p ∨ q = r := hq
    omega))
  clear hl2 hc2
  go_wp2_with fail
  refine (next_some _ HL2.out (by simp [Cs.open])).mono ?_
  rintro e w3 ⟨⟨c, l, rfl, hp, _⟩, hc3⟩
  have hcl : c :: l = [⟨1, 7, 100, 1, 110⟩] := by
    have e : (Cs.open ⟨p, r, 0, 2, 10, 35, 2, 0, []⟩ 7 100).L.map (·.1) = [⟨1, 7, 100, 1, 110⟩] := by
      have hw : waitV 10 35 0 = 10 := by decide
      simp [Cs.open, Cs.opened, hw]
    rw [e] at hp
    exact List.perm_singleton.1 hp
  obtain rfl : c = ⟨1, 7, 100, 1, 110⟩ := (List.cons.inj hcl).1
  have HC3 := Lib.hid (HC2.out.trans hc3 (fun _ h => h.elim))
  have hw1 : waitV 10 35 1 = 20 := by decide
  clear hp hc3 hcl
  go_wp2_with (go_at_call 18; refine (wait_any _ _ _ _).mono ?_; rintro e w4 ⟨rfl, rfl⟩; rw [hw1])
  go_ret
  exact ⟨rfl, HC3.out⟩
end Go.Proofs.Ytojgalggibmjjaa
