/- SessionOwn: its walk. -/
import Derived.Test.YtpdchdbkfflgfaaE5
import Derived.Test.YtpdchdbkfflgfaaY0
namespace Go.Proofs.Ytpdchdbkfflgfaa
open Go.RowKit

def pO0 : Pure := ⟨5, 1, 1, 2, 3, false, []⟩
def itO (b : Int) : It := ⟨b, 0, false, 1, 1, 1, 1, []⟩
theorem itO_fits (b : Int) : (itO b).fits := by simp only [It.fits, itO]; decide
def OInv (W0 wr : World) (p g : Nat) (k o : ByteArray) : Prop := ∃ P, At W0 wr W0.heap.size p P (fun q => q = g) ∧ wr.heap[g]? = some (.cells #[.string k, .string o] 9 (0, 0))
theorem At.blk {w0 w : World} {B p : Nat} {P : Pure} {K : Nat → Prop} (h : At w0 w B p P K) (o : Obj) : At w0 (w.alloc o) B p P (fun q => K q ∨ q = w.heap.size) :=
  h.step ((Chg.refl (fun _ => False) w).alloc o) (fun _ h => h.elim) (fun q hq => hq.imp (fun h => h) (fun h => by subst h; exact ⟨Nat.le_refl _, by simp⟩))
theorem one_ent {W : World} {B : Nat} {v : Value} {x : Ent} (h : W.ownsRow B 65 2 v [x].length (flat [x])) : ∃ g c, v = .slice (some ⟨g, 0, none⟩) 1 c ∧ W.cell? ⟨g, 0, none⟩ = some (.string x.1) ∧ W.cell? ⟨g, 1, none⟩ = some (.string x.2) := by
  obtain ⟨a, c, rfl, _, _, hr⟩ := reads_of_owns h
  rcases h.2 with ⟨_, h0⟩ | ⟨g, cap, cur, hv, _⟩
  · cases h0
  · injection hv with h1 h2 h3
    subst h1
    rcases hr with hr | ⟨b, o, hb, hc⟩
    · cases hr
    · injection hb with hb
      injection hb with hb1 hb2
      subst hb1; subst hb2
      have := hc 0 (by simp)
      exact ⟨g, c, rfl, this.1, this.2⟩
set_option maxRecDepth 100000 in
set_option maxHeartbeats 8000000 in
theorem sessionOwn_any (vd : Value) (l : List Ent) (k v o : ByteArray) (w : World) (hr : Reads w vd l) (hk : k.size ≤ maxLen) (ho : o.size ≤ maxLen) :
    Calls Try.prog 4 #[.agg #[vd, .string k, .string v, .string o]] w fun e w' => e = .returned (.bool true) ∧ Chg (fun _ => False) w w' := by
  have HR := Lib.hid hr
  obtain ⟨da, dc, rfl, _⟩ := hr
  have HK := Lib.hid hk
  have HO := Lib.hid ho
  clear hk ho
  go_enter Try.func4, Try.ntmps4
  go_wp2_with fail
  go_quiet (fail)
  go_wp2_with fail
  refine (new_any 5 1 1 2 3 _ rfl (by decide) (by decide) (by decide) (by decide) (by decide) (by decide) (by decide) (by decide) (by decide) (by decide) (by decide)).mono ?_
  rintro e w1 ⟨S0, rfl, hl0, hp0, hc0⟩
  obtain ⟨W0, cw, a0⟩ : ∃ W0, Chg (fun _ => False) w W0 ∧ At W0 w1 W0.heap.size S0.p pO0 (fun _ => False) := ⟨_, ((Chg.refl _ w).alloc _).drewN _, at_new hl0 hp0 hc0⟩
  obtain ⟨p, hpd⟩ : ∃ p, p = S0.p := ⟨_, rfl⟩
  rw [← hpd] at a0 ⊢
  have CW := Lib.hid cw
  have A0 := Lib.hid a0
  clear hl0 hp0 hc0 hpd cw a0
  go_wp2_with (go_at_call 9; refine (alive_any _).mono ?_; rintro e w2 ⟨rfl, hc2⟩; have A1 := Lib.hid (A0.out.same hc2); clear hc2)
  have H0 : Hid (OInv W0 (w2.alloc (.cells #[.string k, .string o] 9)) p w2.heap.size k o) := ⟨pO0, (A1.out.blk _).less (fun q hq => .inr hq), heap_alloc_new w2 _⟩
  obtain ⟨g, hg⟩ : ∃ g, g = w2.heap.size := ⟨_, rfl⟩
  obtain ⟨wl, hwl⟩ : ∃ wl, wl = w2.alloc (.cells #[.string k, .string o] 9) := ⟨_, rfl⟩
  rw [← hg, ← hwl] at H0
  rw [← hg, ← hwl]
  clear hg hwl A0 A1
  go_loopw [10] (fun i wr => ∃ j : Nat, i = .int .i64 j ∧ j ≤ 2 ∧ Hid (OInv W0 wr p g k o)) (fun i _ => 2 - (intOf i).toNat)
  case atStart => exact ⟨0, rfl, by omega, H0.out⟩
  case round =>
    obtain ⟨j, rfl, hj, HI⟩ := hrel
    by_cases hlt : j < 2
    · obtain ⟨b, hb⟩ : ∃ b, b = if j = 0 then k else o := ⟨_, rfl⟩
      have c0 : wr.cell? ⟨g, j, none⟩ = some (.string b) := by
        obtain ⟨P, _, hh⟩ := HI.out
        have hj2 : j = 0 ∨ j = 1 := by omega
        rcases hj2 with rfl | rfl
        · rw [hb]; exact cell_row hh rfl
        · rw [hb]; exact cell_row hh rfl
      clear hb
      obtain ⟨P, hat, hgb⟩ := HI.out
      have AT := Lib.hid hat
      have GB := Lib.hid hgb
      clear hat hgb HI
      go_wp2_with (first
        | (go_at_call 19; refine (of2 _ _).mono ?_; rintro e w3 ⟨rfl, hc3⟩; have C3 := Lib.hid hc3; clear hc3)
        | (go_at_call 18; refine (bucketOf _ _).mono ?_; rintro e w4 ⟨rfl, hc4⟩; have C4 := Lib.hid hc4; clear hc4)
        | (clear c0; have a4 := (AT.out.same (C3.out.trans C4.out (fun _ h => h.elim))).blk (.cells #[.int .i64 (kb b), .int .u32 0, .bool false, .slice none 0 0, .int .u32 1, .int .u32 1, .int .u32 1, .int .u32 1] 36); have A4 := Lib.hid a4; have i4 := heap_alloc_new w4 (.cells #[.int .i64 (kb b), .int .u32 0, .bool false, .slice none 0 0, .int .u32 1, .int .u32 1, .int .u32 1, .int .u32 1] 36); have I4 := Lib.hid i4; clear a4 i4; refine (at_learn A4.out A4.out.old.size (itO (kb b)) _ _ l (reads_nil _) (CW.out.trans A4.out.old (fun _ h => h.elim) |>.reads HR.out (fun _ _ h => h)) (itO_fits _)).mono ?_; rintro e w5 ⟨n, P5, ev, rfl, _, hres⟩; have R5 := Lib.hid hres; clear hres; rcases R5.out.2.1 with ⟨_, rfl⟩ | ⟨_, g5, rfl⟩; rotate_left; obtain ⟨x0, x1, x2, x3, x4, x5, x6, x7⟩ := item_cells (show w5.heap[w4.heap.size]? = some (itemO (kb b) 0 false (.slice none 0 0) 1 1 1 1) from (R5.out.2.2 _ (.inr rfl)).trans I4.out))
        | (clear x0 x1 x2 x3 x4 x5 x6 x7; refine (at_learn R5.out.1 R5.out.1.old.size (itO (kb b)) _ _ [] (reads_nil _) (reads_nil _) (itO_fits _)).mono ?_; rintro e w6 ⟨n6, P6, ev6, rfl, _, hres⟩; have R6 := Lib.hid hres; clear hres))
      · go_roundw
        case rel => exact ⟨j + 1, by go_num, by omega, P6, R6.out.1.less (fun q hq => .inl hq), (R6.out.2.2 g (.inl rfl)).trans ((R5.out.2.2 g (.inl rfl)).trans (((C3.out.trans C4.out (fun _ h => h.elim)).alloc _).obj GB.out (fun h => h)))⟩
        case measure => simp [intOf]; omega
      · go_roundw
        case rel => exact ⟨j + 1, by go_num, by omega, P5, R5.out.1.less (fun q hq => .inl hq), (R5.out.2.2 g (.inl rfl)).trans (((C3.out.trans C4.out (fun _ h => h.elim)).alloc _).obj GB.out (fun h => h))⟩
        case measure => simp [intOf]; omega
    · obtain ⟨P, hat, _⟩ := HI.out
      have AT := Lib.hid (hat.less (K' := fun _ => False) (fun _ h => h.elim))
      have OK := Lib.hid hat.ok
      obtain ⟨sg, hsg⟩ : ∃ sg, Value.string sg = optV (P.get o) := ⟨_, rfl⟩
      obtain ⟨bo, hbo⟩ : ∃ bo, bo = (P.get o).isSome := ⟨_, rfl⟩
      have HSG := Lib.hid hsg
      have HBO := Lib.hid hbo
      clear hat HI hsg hbo
      go_wp2_with fail
      refine (at_get AT.out o HO.out).mono ?_
      rintro e w3 ⟨ev3, rfl, hres⟩
      rw [← HSG.out, ← HBO.out]
      have R3 := Lib.hid hres
      clear hres
      go_wp2_with fail
      refine (at_put R3.out.1 R3.out.1.old.size k v HK.out).mono ?_
      rintro e w4 ⟨ev4, rfl, hres⟩
      have R4 := Lib.hid hres
      clear hres
      by_cases hp : P.putE k v = 0
      · have HP := Lib.hid hp
        have e4 := R4.out.2.1
        rw [hp] at e4
        obtain rfl := e4.nil
        have G1 := Lib.hid (own_get OK.out hp)
        have G2 := Lib.hid (own_scan OK.out hp)
        have G3 := Lib.hid (own_del OK.out hp)
        clear hp e4
        go_wp2_with fail
        refine (at_get R4.out.1 k HK.out).mono ?_
        rintro e w5 ⟨ev5, rfl, hres⟩
        rw [G1.out.2, show optV (some v) = .string v from rfl, show (some v).isSome = true from rfl]
        rw [G1.out.1] at hres
        obtain rfl := hres.2.1.nil
        have R5 := Lib.hid hres
        clear hres
        go_wp2_with fail
        refine (at_scan R5.out.1 k k HK.out HK.out).mono ?_
        rintro e w6 ⟨v6, ev6, rfl, he6, hat6, hc6, hown6⟩
        rw [G2.out.1] at he6 hown6
        rw [G2.out.2] at hown6
        obtain rfl := he6.nil
        obtain ⟨g6, c6, rfl, x0, x1⟩ := one_ent (hown6 rfl)
        have A6 := Lib.hid hat6
        clear he6 hat6 hc6 hown6
        go_wp2_with fail
        refine (at_del A6.out A6.out.old.size k HK.out).mono ?_
        rintro e w7 ⟨ev7, rfl, hres⟩
        rw [G1.out.2, show (some v).isSome = true from rfl]
        rw [G1.out.1] at hres
        obtain rfl := hres.2.1.nil
        have R7 := Lib.hid hres
        clear hres x0 x1
        go_wp2_with fail
        refine (at_get R7.out.1 k HK.out).mono ?_
        rintro e w8 ⟨ev8, rfl, hres⟩
        rw [G3.out.2, show optV none = .string noB from rfl, show (none : Option ByteArray).isSome = false from rfl]
        rw [G3.out.1] at hres
        obtain rfl := hres.2.1.nil
        have R8 := Lib.hid hres
        clear hres
        go_wp2_with fail
        refine (at_get R8.out.1 o HO.out).mono ?_
        rintro e w9 ⟨ev9, rfl, hres⟩
        have R9 := Lib.hid hres
        clear hres
        by_cases hko : k = o
        · have hq : (k.toList == o.toList) = true := by rw [hko]; simp
          clear hko
          obtain ⟨s9, hs9⟩ : ∃ s9, Value.string s9 = optV (Pure.get ((P.put k v).del k) o) := ⟨_, rfl⟩
          obtain ⟨b9, hb9⟩ : ∃ b9, b9 = (Pure.get ((P.put k v).del k) o).isSome := ⟨_, rfl⟩
          rw [← hs9, ← hb9]
          clear hs9 hb9
          go_wp2_with fail
          go_quiet (fail)
          go_wp2
          go_ret
          exact ⟨rfl, (CW.out.trans R9.out.1.old (fun _ h => h.elim)).drewN _⟩
        · have hq : (k.toList == o.toList) = false := by
            rw [Bool.eq_false_iff]; intro hc; exact hko (toList_inj (by simpa using hc))
          have HGA : Hid (Pure.get ((P.put k v).del k) o = P.get o ∧ Pure.atE ((P.put k v).del k) o noB = P.atE o noB) := own_other OK.out HP.out (fun h => hko h.symm)
          rw [HGA.out.1, ← HSG.out, ← HBO.out]
          have E9 := R9.out.2.1
          rw [HGA.out.2] at E9
          have E3 := R3.out.2.1
          by_cases hz : P.atE o noB = 0
          · rw [hz] at E9 E3
            obtain rfl := E9.nil
            obtain rfl := E3.nil
            clear hz hko E9 E3
            go_wp2_with fail
            go_quiet (fail)
            go_wp2
            go_ret
            exact ⟨rfl, (CW.out.trans R9.out.1.old (fun _ h => h.elim)).drewN _⟩
          · obtain ⟨g3, rfl⟩ := E3.not hz
            obtain ⟨g9, rfl⟩ := E9.not hz
            clear hz hko E9 E3
            go_wp2_with fail
            go_quiet (fail)
            go_wp2
            go_ret
            exact ⟨rfl, (CW.out.trans R9.out.1.old (fun _ h => h.elim)).drewN _⟩
      · obtain ⟨g4, rfl⟩ := R4.out.2.1.not hp
        have HPP : Hid (P.put k v = P) := by show P.put k v = P; unfold Pure.put; rw [if_neg hp]
        clear hp
        go_wp2_with fail
        refine (at_get R4.out.1 o HO.out).mono ?_
        rintro e w9 ⟨ev9, rfl, hres⟩
        have R9 := Lib.hid hres
        clear hres
        by_cases hko : k = o
        · have hq : (k.toList == o.toList) = true := by rw [hko]; simp
          clear hko
          obtain ⟨s9, hs9⟩ : ∃ s9, Value.string s9 = optV (Pure.get (P.put k v) o) := ⟨_, rfl⟩
          obtain ⟨b9, hb9⟩ : ∃ b9, b9 = (Pure.get (P.put k v) o).isSome := ⟨_, rfl⟩
          rw [← hs9, ← hb9]
          clear hs9 hb9
          go_wp2_with fail
          go_quiet (fail)
          go_wp2
          go_ret
          exact ⟨rfl, (CW.out.trans R9.out.1.old (fun _ h => h.elim)).drewN _⟩
        · have hq : (k.toList == o.toList) = false := by
            rw [Bool.eq_false_iff]; intro hc; exact hko (toList_inj (by simpa using hc))
          have HGA : Hid (Pure.get (P.put k v) o = P.get o ∧ Pure.atE (P.put k v) o noB = P.atE o noB) := by rw [HPP.out]; exact ⟨rfl, rfl⟩
          rw [HGA.out.1, ← HSG.out, ← HBO.out]
          have E9 := R9.out.2.1
          rw [HGA.out.2] at E9
          have E3 := R3.out.2.1
          by_cases hz : P.atE o noB = 0
          · rw [hz] at E9 E3
            obtain rfl := E9.nil
            obtain rfl := E3.nil
            clear hz hko E9 E3
            go_wp2_with fail
            go_quiet (fail)
            go_wp2
            go_ret
            exact ⟨rfl, (CW.out.trans R9.out.1.old (fun _ h => h.elim)).drewN _⟩
          · obtain ⟨g3, rfl⟩ := E3.not hz
            obtain ⟨g9, rfl⟩ := E9.not hz
            clear hz hko E9 E3
            go_wp2_with fail
            go_quiet (fail)
            go_wp2
            go_ret
            exact ⟨rfl, (CW.out.trans R9.out.1.old (fun _ h => h.elim)).drewN _⟩
end Go.Proofs.Ytpdchdbkfflgfaa
