/- alive. -/
import Derived.Test.YtpdchdbkfflgfaaU
namespace Go.Proofs.Ytpdchdbkfflgfaa
open Go.RowKit

theorem Ses.Lies.not95 {B : Nat} {S : Ses} {w : World} (h : S.Lies B w) {g : Nat} {c : Array Value} {f : Nat × Nat} (hg : w.heap[g]? = some (.cells c 95 f)) : g ∉ S.blocks := by
  have ty : ∀ {c' : Array Value} {t : TypeId} {f' : Nat × Nat}, w.heap[g]? = some (.cells c' t f') → t = 95 := by
    intro c' t f' h'
    rw [hg] at h'
    injection h' with h'
    injection h' with _ h2
    exact h2.symm
  intro hk
  simp only [Ses.blocks, List.mem_cons] at hk
  rcases hk with rfl | rfl | hk
  · have := ty h.head; revert this; decide
  · have := h.log; rw [hg] at this; cases this
  · obtain ⟨y, hy, hk⟩ := List.mem_flatMap.1 hk
    have hr := h.rows y hy
    simp only [Row.blocks, List.mem_cons, List.mem_append, Option.mem_toList] at hk
    rcases hk with rfl | hk | hk
    · have := ty hr.tl; revert this; decide
    · obtain ⟨c', hc'⟩ := own_kind hr.was hk
      have := ty hc'; revert this; decide
    · obtain ⟨c', hc'⟩ := own_kind hr.now hk
      have := ty hc'; revert this; decide
/-- An error stays what it is. -/
theorem IsErr.stay {H : Nat} {w w' : World} {v : Value} {of : ByteArray} {n : Int} {B : Nat} {S : Ses} (h : IsErr H w v of n) (hl : S.Lies B w) (hc : Chg (· ∈ S.blocks) w w') : IsErr 0 w' v of n := by
  rcases h with h | ⟨h, g, hg, hv, hb⟩
  · exact .inl h
  · exact .inr ⟨h, g, by omega, hv, hc.obj hb (hl.not95 hb)⟩
theorem IsErr.same {H : Nat} {w w' : World} {v : Value} {of : ByteArray} {n : Int} (h : IsErr H w v of n) (hc : Chg (fun _ => False) w w') : IsErr H w' v of n := by
  rcases h with h | ⟨h, g, hg, hv, hb⟩
  · exact .inl h
  · exact .inr ⟨h, g, hg, hv, hc.obj hb (fun h => h)⟩
theorem IsErr.nil {H : Nat} {w : World} {v : Value} {of : ByteArray} (h : IsErr H w v of 0) : v = .nilIface := by
  rcases h with h | ⟨h, _⟩
  · exact h.2
  · exact absurd rfl h
theorem reads_nil (w : World) : Reads w (.slice none 0 0) [] := ⟨none, 0, rfl, Nat.le_refl _, by unfold maxLen; omega, .inl rfl⟩

section
variable {B : Nat} {S : Ses} {p : Nat}
theorem get_p (hp : S.p = p) (k : ByteArray) (w : World) (h : S.Lies B w) (hk : k.size ≤ maxLen) :
    Calls Try.prog 20 #[.pointer (some ⟨p, 0, none⟩), .string k] w fun e w' => ∃ ev, e = .returned (.tuple #[optV (S.pure.get k), .bool (S.pure.get k).isSome, ev]) ∧ Ran B w S sGet (S.pure.atE k noB) S.pure w' ev := by
  subst hp; exact get_any k w h hk
theorem del_p (hp : S.p = p) (k : ByteArray) (w : World) (h : S.Lies B w) (hB : B ≤ w.heap.size) (hk : k.size ≤ maxLen) :
    Calls Try.prog 13 #[.pointer (some ⟨p, 0, none⟩), .string k] w fun e w' => ∃ ev, e = .returned (.tuple #[.bool (S.pure.get k).isSome, ev]) ∧ Ran B w S sDelete (S.pure.atE k noB) (S.pure.del k) w' ev := by
  subst hp; exact del_any k w h hB hk
theorem put_p (hp : S.p = p) (k v : ByteArray) (w : World) (h : S.Lies B w) (hB : B ≤ w.heap.size) (hk : k.size ≤ maxLen) :
    Calls Try.prog 12 #[.pointer (some ⟨p, 0, none⟩), .string k, .string v] w fun e w' => ∃ ev, e = .returned ev ∧ Ran B w S sPut (S.pure.putE k v) (S.pure.put k v) w' ev := by
  subst hp; exact put_any k v w h hB hk
theorem learn_p (hp : S.p = p) (i : It) (v0 v : Value) (l : List Ent) (w : World) (h : S.Lies B w) (hB : B ≤ w.heap.size) (hr0 : Reads w v0 i.data) (hr : Reads w v l) (hf : i.fits) :
    Calls Try.prog 11 #[.pointer (some ⟨p, 0, none⟩), .agg #[.int .i64 i.b, .int .u32 i.ver, .bool i.wr, v0, .int .u32 i.i0, .int .u32 i.i1, .int .u32 i.i2, .int .u32 i.i3], v] w fun e w' => LearnP B S i l w e w' := by
  subst hp; exact learn_any i v0 v l w h hB hr0 hr hf
theorem commit_p (hp : S.p = p) (w : World) (h : S.Lies B w) : Calls Try.prog 14 #[.pointer (some ⟨p, 0, none⟩)] w fun e w' => CommitP B S w e w' := by
  subst hp; exact commit_any w h
theorem state_p (hp : S.p = p) (w : World) (h : S.Lies B w) : Calls Try.prog 17 #[.pointer (some ⟨p, 0, none⟩)] w fun e w' => e = .returned (.int .i64 (if S.pure.com then 1 else 0)) ∧ w = w' := by
  subst hp; exact state_any w h
theorem has_p (hp : S.p = p) (b : Int) (w : World) (h : S.Lies B w) : Calls Try.prog 10 #[.pointer (some ⟨p, 0, none⟩), .int .i64 b] w fun e w' => e = .returned (.bool (S.pure.has b)) ∧ w = w' := by
  subst hp; rw [has_pure]; exact has_any b w h
end
theorem chg_new {B : Nat} {S : Ses} {w0 w w' : World} (h0 : Chg (fun _ => False) w0 w) (hl : S.Lies B w) (hB : w0.heap.size ≤ B) (h : Chg (· ∈ S.blocks) w w') : Chg (fun _ => False) w0 w' :=
  h0.trans h (fun x hx hlt => by have := hl.old x hx; omega)
def kA : ByteArray := ⟨#[97]⟩
def vA : ByteArray := ⟨#[49]⟩
def pA0 : Pure := ⟨1, 0, 0, 1, 2, false, []⟩
def iA : It := ⟨24, 0, false, 1, 1, 1, 0, []⟩
def pA1 : Pure := ⟨1, 0, 0, 1, 2, false, [⟨24, 0, 1, 1, 1, 0, [], []⟩]⟩
def pA2 : Pure := ⟨1, 0, 0, 1, 2, false, [⟨24, 0, 1, 1, 1, 0, [], [(kA, vA)]⟩]⟩
theorem aA0 : pA0.atE kA noB = 202 := by decide
theorem aA1 : pA1.putE kA vA = 0 := by decide
theorem aA2 : pA1.put kA vA = pA2 := by rfl
theorem aA3 : pA2.get kA = some vA := by
  have hn : pA2.now kA = [(kA, vA)] := rfl
  have hp : posOf [(kA, vA)] kA = 0 := by simp [posOf, ltB_irrefl]
  have hi : isAt [(kA, vA)] kA = true := by simp [isAt, hp, eqB_iff]
  unfold Pure.get
  rw [hn, hi, hp, if_pos ⟨by decide, rfl⟩]
  rfl
theorem aA4 : pA2.atE kA noB = 0 := by decide
theorem learnA {n : Int} {P' : Pure} (h : Learns pA0 iA [] n P') : n = 0 ∧ P' = pA1 := by
  have hn := h.2.2 rfl rfl (by unfold It.num Num; decide) rfl rfl
  rcases h.2.1 rfl with h1 | h1 | h1 | h1
  · exact absurd h1.1 hn
  · exact absurd h1.2.1 (by decide)
  · exact absurd h1.2.2.1 (by decide)
  · exact ⟨h1.1, h1.2.2.2.2.2.2⟩
theorem a_size : kA.size ≤ maxLen := by unfold maxLen; show 1 ≤ _; omega
/-- What Commit tells of it. -/
theorem itemsA {H : Nat} {w : World} {v : Value} {cs : List CItem} (h : Items H w pA2.rows v cs) : ∃ g c, v = .slice (some ⟨g, 0, none⟩) 1 c ∧ w.cell? ⟨g, 2, none⟩ = some (.bool true) := by
  obtain ⟨h1, h2, h3⟩ := h
  have hs : sortInts (pA2.rows.map (·.b)) = [24] := by simp [sortInts, pA2]
  have hl : cs.length = 1 := by have := congrArg List.length h2; rw [hs] at this; simpa using this
  obtain ⟨c, rfl⟩ : ∃ c, cs = [c] := List.length_eq_one_iff.1 hl
  have hc := h3 c (by simp)
  have hx : c.x = ⟨24, 0, 1, 1, 1, 0, [], [(kA, vA)]⟩ := by simpa [pA2] using hc.1
  have hw : c.wr = true := hc.2.2.1.2 (by rw [hx]; intro h; cases h)
  rcases h1.2 with ⟨_, h0⟩ | ⟨g, cap, cur, rfl, hb, hg, q1, q2, q3, q4⟩
  · cases h0
  · refine ⟨g, cap, rfl, cell_row hg ?_⟩
    have : ([c].flatMap CItem.cells)[2]? = some (.bool true) := by simp [CItem.cells, hw]
    rw [← q4, List.getElem?_take] at this
    split at this
    · simpa using this
    · cases this
set_option maxRecDepth 100000 in
set_option maxHeartbeats 4000000 in
theorem alive_any (w : World) : Calls Try.prog 9 #[] w fun e w' => e = .returned (.bool true) ∧ Chg (fun _ => False) w w' := by
  go_enter Try.func9, Try.ntmps9
  go_wp2_with fail
  refine (new_any 1 0 0 1 2 _ rfl (by decide) (by decide) (by decide) (by decide) (by decide) (by decide) (by decide) (by decide) (by decide) (by decide) (by decide)).mono ?_
  rintro e w1 ⟨S, rfl, hl, hp, hc⟩
  have HL := Lib.hid hl
  have HP := Lib.hid hp
  have HC := Lib.hid hc
  clear hl hp hc
  go_wp2_with fail
  refine (get_p rfl kA _ HL.out a_size).mono ?_
  rintro e w2 ⟨ev, rfl, S1, he, hl, hp, hpp, hc, -⟩
  rw [HP.out] at he hp ⊢
  have HC1 := Lib.hid (chg_new HC.out HL.out (Nat.le_refl _) hc)
  have HE := Lib.hid he
  have HL1 := Lib.hid hl
  have HP1 := Lib.hid hp
  have HQ1 := Lib.hid hpp
  clear he hl hp hpp hc
  have gn : (pA0.get kA) = none := rfl
  have gn' : Pure.get { id := 1, client := 0, m0 := 0, m1 := 1, m2 := 2, com := false, rows := [] } kA = none := rfl
  rw [gn']
  clear gn gn'
  go_wp2_with fail
  refine (learn_p HQ1.out iA (.slice none 0 0) (.slice none 0 0) [] _ HL1.out HC1.out.size (reads_nil _) (reads_nil _) (by unfold It.fits iA; decide)).mono ?_
  rintro e w3 ⟨n3, P3, ev3, rfl, ⟨S2, he, hl, hp, hpp, hc, -⟩, hln⟩
  rw [HP1.out] at hln
  obtain ⟨rfl, rfl⟩ := learnA hln
  obtain rfl := he.nil
  have HC2 := Lib.hid (chg_new HC1.out HL1.out (Nat.le_refl _) hc)
  have HE2 := Lib.hid (HE.out.stay HL1.out hc)
  have HL2 := Lib.hid hl
  have HP2 := Lib.hid hp
  have HQ2 := Lib.hid (hpp.trans HQ1.out)
  clear he hl hp hpp hc hln
  go_wp2_with fail
  refine (put_p HQ2.out kA vA _ HL2.out HC2.out.size a_size).mono ?_
  rintro e w4 ⟨ev4, rfl, S3, he, hl, hp, hpp, hc, -⟩
  rw [HP2.out, aA1] at he
  rw [HP2.out, aA2] at hp
  obtain rfl := he.nil
  have HC3 := Lib.hid (chg_new HC2.out HL2.out (Nat.le_refl _) hc)
  have HE3 := Lib.hid (HE2.out.stay HL2.out hc)
  have HL3 := Lib.hid hl
  have HP3 := Lib.hid hp
  have HQ3 := Lib.hid (hpp.trans HQ2.out)
  clear he hl hp hpp hc
  go_wp2_with fail
  refine (get_p HQ3.out kA _ HL3.out a_size).mono ?_
  rintro e w5 ⟨ev5, rfl, S4, he, hl, hp, hpp, hc, -⟩
  rw [HP3.out] at hp ⊢
  rw [HP3.out, aA4] at he
  rw [aA3, show optV (some vA) = .string ⟨#[49]⟩ from rfl]
  obtain rfl := he.nil
  have HC4 := Lib.hid (chg_new HC3.out HL3.out (Nat.le_refl _) hc)
  have HE4 := Lib.hid (HE3.out.stay HL3.out hc)
  have HL4 := Lib.hid hl
  have HP4 := Lib.hid hp
  have HQ4 := Lib.hid (hpp.trans HQ3.out)
  clear he hl hp hpp hc
  go_wp2_with fail
  refine (commit_p HQ4.out _ HL4.out).mono ?_
  rintro e w6 ⟨n6, P6, v6, ev6, rfl, ⟨S5, he, hl, hp, hpp, hc, -⟩, _, hco, _⟩
  have hcom : S4.com = false := by have := congrArg Pure.com HP4.out; exact this
  have hrows : S4.rows ≠ [] := fun h => by have := congrArg Pure.rows HP4.out; rw [Ses.pure, h] at this; cases this
  obtain ⟨rfl, _, itv, cs, rfl, hit⟩ := hco hcom hrows
  rw [HP4.out] at hit
  obtain ⟨g6, c6, rfl, hg6⟩ := itemsA hit
  obtain rfl := he.nil
  have HC5 := Lib.hid (chg_new HC4.out HL4.out (Nat.le_refl _) hc)
  have HE5 := Lib.hid (HE4.out.stay HL4.out hc)
  clear he hl hp hpp hc hco hit hcom hrows
  have hg7 := fun o => cell_alloc hg6 o
  clear hg6
  go_wp2_with (go_at_call 15; refine (told_any _ _ _ _ (HE5.out.same ((Chg.refl _ w6).alloc _))).mono ?_; rintro e w7 ⟨rfl, rfl⟩)
  go_ret
  exact ⟨rfl, HC5.out.alloc _⟩
end Go.Proofs.Ytpdchdbkfflgfaa
