/- Get, Delete, State. -/
import Derived.Test.YtpdchdbkfflgfaaM
namespace Go.Proofs.Ytpdchdbkfflgfaa
open Go.RowKit
def sGet : ByteArray := ⟨#[71, 101, 116]⟩
def sDelete : ByteArray := ⟨#[68, 101, 108, 101, 116, 101]⟩
def noB : ByteArray := ⟨#[]⟩
theorem noB_size : noB.size ≤ maxLen := by unfold maxLen; show 0 ≤ _; omega
/-- What Get tells. -/
def Pure.get (P : Pure) (k : ByteArray) : Option ByteArray := if P.atE k noB = 0 ∧ isAt (P.now k) k = true then ((P.now k)[posOf (P.now k) k]?).map (·.2) else none
def optV (o : Option ByteArray) : Value := .string (o.getD noB)

theorem state_any {B : Nat} {S : Ses} (w : World) (h : S.Lies B w) :
    Calls Try.prog 17 #[.pointer (some ⟨S.p, 0, none⟩)] w fun e w' => e = .returned (.int .i64 (if S.com then 1 else 0)) ∧ w = w' := by
  have c6 := h.c6
  clear h
  cases hc : S.com
  all_goals
    go_enter Try.func17, Try.ntmps17
    go_wp2
    go_ret
    exact ⟨rfl, rfl⟩
theorem state_nil (w : World) : Calls Try.prog 17 #[.pointer none] w fun e w' => e = .returned (.int .i64 0) ∧ w = w' := by
  go_enter Try.func17, Try.ntmps17
  go_wp2
  go_ret
  exact ⟨rfl, rfl⟩
theorem has_nil (b : Int) (w : World) : Calls Try.prog 10 #[.pointer none, .int .i64 b] w fun e w' => e = .returned (.bool false) ∧ w = w' := by
  go_enter Try.func10, Try.ntmps10
  go_wp2
  go_ret
  exact ⟨rfl, rfl⟩

set_option maxRecDepth 100000 in
set_option maxHeartbeats 1000000 in
theorem get_err {B : Nat} {S : Ses} (k : ByteArray) (w : World) (h : S.Lies B w) (hk : k.size ≤ maxLen) (he : S.pure.atE k noB ≠ 0) :
    Calls Try.prog 20 #[.pointer (some ⟨S.p, 0, none⟩), .string k] w fun e w' => ∃ ev, e = .returned (.tuple #[.string noB, .bool false, ev]) ∧ Ran B w S sGet (S.pure.atE k noB) S.pure w' ev := by
  have he' : (S.pure.atE k noB == 0) = false := by simpa using he
  have he2 : (S.pure.atE k noB != 0) = true := by simpa using he
  rw [← atE_pure] at he
  have HH := Lib.hid h
  have HE := Lib.hid he
  clear h he
  go_enter Try.func20, Try.ntmps20
  go_wp2_with fail
  refine (at_err k noB _ HH.out hk HE.out).mono ?_
  rintro e w1 ⟨rfl, hc⟩
  rw [atE_pure]
  have HC := Lib.hid hc
  clear hc
  go_wp2_with (go_at_call 25; refine (fault_any _ _ _).mono ?_; rintro e w2 ⟨rfl, rfl⟩)
  go_ret3
  exact ⟨_, rfl, ran_fault HH.out HC.out sGet _⟩
set_option maxRecDepth 100000 in
set_option maxHeartbeats 1000000 in
theorem get_ok {B : Nat} {S : Ses} (k : ByteArray) (w : World) (x : Row) (h : S.Lies B w) (hk : k.size ≤ maxLen) (he : S.pure.atE k noB = 0) (hx : S.find (kb k) = some x) :
    Calls Try.prog 20 #[.pointer (some ⟨S.p, 0, none⟩), .string k] w fun e w' => ∃ ev, e = .returned (.tuple #[optV (S.pure.get k), .bool (S.pure.get k).isSome, ev]) ∧ Ran B w S sGet 0 S.pure w' ev := by
  have hnow : S.pure.now k = x.d.now := by unfold Pure.now; rw [find_pure, hx]; rfl
  have hget : S.pure.get k = if isAt x.d.now k = true then (x.d.now[posOf x.d.now k]?).map (·.2) else none := by unfold Pure.get; rw [hnow]; simp [he]
  rw [hget]
  rw [← atE_pure] at he
  have HH := Lib.hid h
  have HE := Lib.hid he
  have HX := Lib.hid hx
  clear hnow hget
  cases ha : isAt x.d.now k with
  | false =>
    have HA := Lib.hid ha
    clear h he hx ha
    go_enter Try.func20, Try.ntmps20
    go_wp2_with fail
    refine (at_ok k noB _ x HH.out hk HE.out HX.out).mono ?_
    rintro e w1 ⟨rfl, hc⟩
    rw [HA.out]
    have HC := Lib.hid hc
    clear hc
    go_wp2_with (go_at_call 25; refine (fault_any _ _ _).mono ?_; rintro e w2 ⟨rfl, rfl⟩)
    go_ret3
    exact ⟨_, rfl, ran_fault HH.out HC.out sGet _⟩
  | true =>
    obtain ⟨hp1, hp2⟩ := isAt_eq ha
    have HA := Lib.hid ha
    have hrow := (h.rows x (find_mem hx).1).now
    obtain ⟨sa, sc, hnv, hlc, hcm, hrd⟩ := reads_of_owns hrow
    rcases hrd with hz | ⟨b, o, rfl, hcells⟩
    · rw [hz] at hp1; simp at hp1
    have HV := Lib.hid (And.intro hnv (hcells _ hp1).2)
    have q1 : (posOf x.d.now k : Int) < x.d.now.length := by omega
    have hget2 : (x.d.now[posOf x.d.now k]?).map (·.2) = some x.d.now[posOf x.d.now k].2 := by rw [List.getElem?_eq_getElem hp1]; rfl
    simp only [if_true]
    rw [hget2]
    clear h he hx ha hrow hnv hcells hget2 hp2 hlc hcm
    go_enter Try.func20, Try.ntmps20
    go_wp2_with fail
    refine (at_ok k noB _ x HH.out hk HE.out HX.out).mono ?_
    rintro e w1 ⟨rfl, hc⟩
    rw [HA.out]
    have ct := (HH.out.same hc).nowCell HX.out
    rw [HV.out.1] at ct
    have cv := hc.cell HV.out.2 (fun h => h)
    have HC := Lib.hid hc
    clear hc
    go_wp2
    go_ret3
    exact ⟨_, rfl, ran_nil HH.out HC.out sGet⟩
set_option maxRecDepth 100000 in
theorem get_nil (k : ByteArray) (w : World) :
    Calls Try.prog 20 #[.pointer none, .string k] w fun e w' => ∃ ev, e = .returned (.tuple #[.string noB, .bool false, ev]) ∧ IsErr w.heap.size w' ev sGet 1 ∧ Chg (fun _ => False) w w' := by
  go_enter Try.func20, Try.ntmps20
  go_wp2_with fail
  refine (at_nil k noB _).mono ?_
  rintro e w1 ⟨rfl, hc⟩
  have HC := Lib.hid hc
  clear hc
  go_wp2_with (go_at_call 25; refine (fault_any _ _ _).mono ?_; rintro e w2 ⟨rfl, rfl⟩)
  go_ret3
  exact ⟨_, rfl, (isErr_fault sGet 1 w1).mono HC.out.size (.refl (fun _ => False) _) (fun _ h => h.elim), HC.out.trans (chg_fault _ _ _ (fun _ => False)) (fun _ h => h.elim)⟩
theorem get_any {B : Nat} {S : Ses} (k : ByteArray) (w : World) (h : S.Lies B w) (hk : k.size ≤ maxLen) :
    Calls Try.prog 20 #[.pointer (some ⟨S.p, 0, none⟩), .string k] w fun e w' => ∃ ev, e = .returned (.tuple #[optV (S.pure.get k), .bool (S.pure.get k).isSome, ev]) ∧ Ran B w S sGet (S.pure.atE k noB) S.pure w' ev := by
  by_cases he : S.pure.atE k noB = 0
  · obtain ⟨x, hx⟩ := has_find he
    rw [he]
    exact get_ok k w x h hk he hx
  · have hg : S.pure.get k = none := by unfold Pure.get; rw [if_neg (fun h => he h.1)]
    rw [hg]
    exact get_err k w h hk he

def Pure.delE (P : Pure) (k : ByteArray) : Int := P.atE k noB
set_option maxRecDepth 100000 in
set_option maxHeartbeats 1000000 in
theorem del_err {B : Nat} {S : Ses} (k : ByteArray) (w : World) (h : S.Lies B w) (hk : k.size ≤ maxLen) (he : S.pure.atE k noB ≠ 0) :
    Calls Try.prog 13 #[.pointer (some ⟨S.p, 0, none⟩), .string k] w fun e w' => ∃ ev, e = .returned (.tuple #[.bool false, ev]) ∧ Ran B w S sDelete (S.pure.atE k noB) S.pure w' ev := by
  have he' : (S.pure.atE k noB == 0) = false := by simpa using he
  have he2 : (S.pure.atE k noB != 0) = true := by simpa using he
  rw [← atE_pure] at he
  have HH := Lib.hid h
  have HE := Lib.hid he
  clear h he
  go_enter Try.func13, Try.ntmps13
  go_wp2_with fail
  refine (at_err k noB _ HH.out hk HE.out).mono ?_
  rintro e w1 ⟨rfl, hc⟩
  rw [atE_pure]
  have HC := Lib.hid hc
  clear hc
  go_wp2_with (go_at_call 25; refine (fault_any _ _ _).mono ?_; rintro e w2 ⟨rfl, rfl⟩)
  go_ret2
  exact ⟨_, rfl, ran_fault HH.out HC.out sDelete _⟩
set_option maxRecDepth 100000 in
theorem del_nil (k : ByteArray) (w : World) :
    Calls Try.prog 13 #[.pointer none, .string k] w fun e w' => ∃ ev, e = .returned (.tuple #[.bool false, ev]) ∧ IsErr w.heap.size w' ev sDelete 1 ∧ Chg (fun _ => False) w w' := by
  go_enter Try.func13, Try.ntmps13
  go_wp2_with fail
  refine (at_nil k noB _).mono ?_
  rintro e w1 ⟨rfl, hc⟩
  have HC := Lib.hid hc
  clear hc
  go_wp2_with (go_at_call 25; refine (fault_any _ _ _).mono ?_; rintro e w2 ⟨rfl, rfl⟩)
  go_ret2
  exact ⟨_, rfl, (isErr_fault sDelete 1 w1).mono HC.out.size (.refl (fun _ => False) _) (fun _ h => h.elim), HC.out.trans (chg_fault _ _ _ (fun _ => False)) (fun _ h => h.elim)⟩
theorem turn_id {P : Pure} {b : Int} {f : List Ent → List Ent} (h : ∀ x ∈ P.rows, x.b = b → f x.now = x.now) : P.turn b f = P := by
  unfold Pure.turn
  have : (P.rows.map fun x => if x.b = b then { x with now := f x.now } else x) = P.rows := by
    conv => rhs; rw [← List.map_id P.rows]
    apply List.map_congr_left
    intro x hx
    split
    · rename_i hb; rw [h x hx hb]; rfl
    · rfl
  rw [this]
set_option maxRecDepth 100000 in
set_option maxHeartbeats 1000000 in
theorem del_no {B : Nat} {S : Ses} (k : ByteArray) (w : World) (x : Row) (h : S.Lies B w) (hk : k.size ≤ maxLen) (he : S.pure.atE k noB = 0) (hx : S.find (kb k) = some x) (ha : isAt x.d.now k = false) :
    Calls Try.prog 13 #[.pointer (some ⟨S.p, 0, none⟩), .string k] w fun e w' => ∃ ev, e = .returned (.tuple #[.bool false, ev]) ∧ Ran B w S sDelete 0 S.pure w' ev := by
  rw [← atE_pure] at he
  have HH := Lib.hid h
  have HE := Lib.hid he
  have HX := Lib.hid hx
  have HA := Lib.hid ha
  clear h he hx ha
  go_enter Try.func13, Try.ntmps13
  go_wp2_with fail
  refine (at_ok k noB _ x HH.out hk HE.out HX.out).mono ?_
  rintro e w1 ⟨rfl, hc⟩
  rw [HA.out]
  have HC := Lib.hid hc
  clear hc
  go_wp2_with (go_at_call 25; refine (fault_any _ _ _).mono ?_; rintro e w2 ⟨rfl, rfl⟩)
  go_ret2
  exact ⟨_, rfl, ran_fault HH.out HC.out sDelete _⟩
set_option maxRecDepth 100000 in
set_option maxHeartbeats 1000000 in
theorem del_is {B : Nat} {S : Ses} (k : ByteArray) (w : World) (x : Row) (h : S.Lies B w) (hB : B ≤ w.heap.size) (hk : k.size ≤ maxLen) (he : S.pure.atE k noB = 0) (hx : S.find (kb k) = some x) (ha : isAt x.d.now k = true) :
    Calls Try.prog 13 #[.pointer (some ⟨S.p, 0, none⟩), .string k] w fun e w' => ∃ ev, e = .returned (.tuple #[.bool true, ev]) ∧ Ran B w S sDelete 0 (S.pure.turn x.d.b (fun l => delNow l k)) w' ev := by
  rw [← atE_pure] at he
  have HH := Lib.hid h
  have HE := Lib.hid he
  have HX := Lib.hid hx
  have HA := Lib.hid ha
  obtain ⟨hp1, _⟩ := isAt_eq ha
  have hrow := (h.rows x (find_mem hx).1).now
  have hl8 := (h.fine x (find_mem hx).1).now.2.1
  rcases hrow.2 with ⟨_, h0⟩ | ⟨g, cap, cur, hnv, hbg, hg, hn, hmx, hc, ht⟩
  · omega
  have HR := Lib.hid hnv
  have q1 : (posOf x.d.now k : Int) < x.d.now.length := by omega
  clear h he hx ha hg hc ht hrow hnv
  go_enter Try.func13, Try.ntmps13
  go_wp2_with fail
  refine (at_ok k noB _ x HH.out hk HE.out HX.out).mono ?_
  rintro e w1 ⟨rfl, hc⟩
  rw [HA.out]
  have ct := (HH.out.same hc).nowCell HX.out
  rw [HR.out] at ct
  have HC := Lib.hid hc
  clear hc
  go_wp2_with fail
  have hx := find_mem HX.out
  have H1 := HH.out.same HC.out
  have hr := H1.rows x hx.1
  have hown := hr.now
  rw [HR.out] at hown
  refine (delete_any B _ _ x.d.now _ hown hp1 hl8).mono ?_
  rintro e w2 ⟨v', rfl, hown2, hc2, hblk⟩
  have hv' : ∃ cap', v' = .slice (some ⟨g, 0, none⟩) (x.d.now.length - 1) cap' := by
    rcases hown2.2 with ⟨h1, _⟩ | ⟨g', cap', cur', h1, _⟩
    · rw [h1] at hblk; cases hblk
    · rw [h1] at hblk
      have : g' = g := by simpa [Value.ownBlock] using hblk
      subst this
      exact ⟨cap', h1⟩
  obtain ⟨cap', rfl⟩ := hv'
  have hnt : (Value.slice (some ⟨g, 0, none⟩) x.d.now.length cap).ownBlock ≠ some x.t := fun e => by
    have := H1.own x hx.1
    simp only [Row.blocks] at this
    rw [HR.out, e] at this
    simp at this
  have htl2 := hc2.obj hr.tl hnt
  have ct2 : w2.cell? ⟨x.t, 9, none⟩ = some x.nv := cell_row htl2 rfl
  rw [HR.out] at ct2
  have cf2 := free_row htl2 9
  have HT := Lib.hid htl2
  have HO := Lib.hid hown2
  have HC2 := Lib.hid hc2
  clear htl2 hown2 hc2 hr hown H1 hnt ct hblk
  go_wp2
  go_ret2
  have H1 := HH.out.same HC.out
  have hr := H1.rows x hx.1
  have hfx := H1.fine x hx.1
  have hpn : delNow x.d.now k = x.d.now.eraseIdx (posOf x.d.now k) := by unfold delNow; rw [HA.out]; rfl
  have hlen : (delNow x.d.now k).length = x.d.now.length - 1 := by rw [hpn, List.length_eraseIdx_of_lt hp1]
  have hc12 : Chg (fun q => q = x.t ∨ x.nv.ownBlock = some q) w1 w2 := HC2.out.mono (fun q h _ => .inr (by rw [HR.out]; exact h))
  have hgt : g ≠ x.t := by
    intro e; subst e
    have := H1.own x hx.1
    simp only [Row.blocks] at this
    rw [HR.out] at this
    simp [Value.ownBlock] at this
  refine ⟨_, rfl, ran_update HH.out HC.out (x' := { x with d := { x.d with now := delNow x.d.now k }, nv := .slice (some ⟨g, 0, none⟩) (x.d.now.length - 1) cap' }) (fun l => delNow l k) hx.1 rfl rfl rfl rfl hB ⟨?_, ?_, ?_⟩ ?_ ?_ ?_ sDelete⟩
  · exact heap_setCell_same HT.out _
  · have hw := hc12.owns hr.was (fun q hq hq2 => by
      have := H1.own x hx.1
      simp only [Row.blocks] at this
      rw [hq] at this
      rcases hq2 with h | h
      · subst h; simp at this
      · rw [h] at this; simp at this)
    exact ownsRow_setCell_other hw (fun e => by
      have := H1.own x hx.1
      simp only [Row.blocks] at this
      rw [e] at this
      simp at this) _
  · show World.ownsRow _ B 65 2 (.slice (some ⟨g, 0, none⟩) (x.d.now.length - 1) cap') (delNow x.d.now k).length (flat (delNow x.d.now k))
    rw [hlen, hpn]
    exact ownsRow_setCell_other HO.out (fun e => hgt (by simpa [Value.ownBlock] using e)) _
  · exact { hfx with now := okay_del hfx.now }
  · exact hc12.setCell (.inl (.inl rfl)) _
  · intro q hq
    exact .inl (by rw [HR.out]; exact hq)
theorem del_any {B : Nat} {S : Ses} (k : ByteArray) (w : World) (h : S.Lies B w) (hB : B ≤ w.heap.size) (hk : k.size ≤ maxLen) :
    Calls Try.prog 13 #[.pointer (some ⟨S.p, 0, none⟩), .string k] w fun e w' => ∃ ev, e = .returned (.tuple #[.bool (S.pure.get k).isSome, ev]) ∧ Ran B w S sDelete (S.pure.atE k noB) (S.pure.del k) w' ev := by
  by_cases he : S.pure.atE k noB = 0
  · obtain ⟨x, hx⟩ := has_find he
    have hnow : S.pure.now k = x.d.now := by unfold Pure.now; rw [find_pure, hx]; rfl
    have hd : S.pure.del k = S.pure.turn x.d.b (fun l => delNow l k) := by unfold Pure.del; rw [(find_mem hx).2]; exact if_pos he
    rw [he, hd]
    cases ha : isAt x.d.now k with
    | false =>
      have hg : S.pure.get k = none := by unfold Pure.get; rw [hnow, ha]; simp
      rw [hg, turn_id]
      · exact del_no k w x h hk he hx ha
      · intro y hy hb
        obtain ⟨z, hz, rfl⟩ := List.mem_map.1 hy
        obtain rfl := pairwise_eq h.dif hz (find_mem hx).1 hb
        unfold delNow; rw [ha]; rfl
    | true =>
      obtain ⟨hp1, _⟩ := isAt_eq ha
      have hg : S.pure.get k = some x.d.now[posOf x.d.now k].2 := by unfold Pure.get; rw [hnow, ha, if_pos ⟨he, rfl⟩, List.getElem?_eq_getElem hp1]; rfl
      rw [hg]
      exact del_is k w x h hB hk he hx ha
  · have hg : S.pure.get k = none := by unfold Pure.get; rw [if_neg (fun h => he h.1)]
    have hd : S.pure.del k = S.pure := by unfold Pure.del; exact if_neg he
    rw [hg, hd]
    exact del_err k w h hk he
end Go.Proofs.Ytpdchdbkfflgfaa
