/- slices.Equal at entries. -/
import Derived.Test.YtpdchdbkfflgfaaR
namespace Go.Proofs.Ytpdchdbkfflgfaa
open Go.RowKit

def EqP (l m : List Ent) (w : World) (e : Ending) (w' : World) : Prop := (∃ r, e = .returned (.bool r) ∧ (r = true ↔ l = m)) ∧ Chg (fun _ => False) w w'
set_option maxRecDepth 100000 in
set_option maxHeartbeats 2000000 in
theorem equal_any (v u : Value) (l m : List Ent) (w : World) (hr : Reads w v l) (hs : Reads w u m) (h8 : l.length ≤ 8) :
    Calls Try.prog 34 #[v, u] w fun e w' => EqP l m w e w' := by
  obtain ⟨a, c, rfl, _, _, hr⟩ := hr
  obtain ⟨a1, c1, rfl, _, _, hs⟩ := hs
  have HR := Lib.hid hr
  have HS := Lib.hid hs
  clear hr hs
  by_cases hlen : l.length = m.length
  · have hli : ((l.length : Int) != m.length) = false := by simp [hlen]
    go_enter Try.func34, Try.ntmps34
    go_wp2
    clear hli
    go_loopw [13] (fun i wr => ∃ k : Nat, i = .int .i64 k ∧ k ≤ l.length ∧ Hid (l.take k = m.take k) ∧ Chg (fun _ => False) w wr) (fun i _ => l.length - (intOf i).toNat)
    case atStart => exact ⟨0, rfl, by omega, (rfl : l.take 0 = m.take 0), .refl _ _⟩
    case round =>
      obtain ⟨k, rfl, hk, HK, hc⟩ := hrel
      by_cases hlt : k < l.length
      · rcases HR.out with hn | ⟨b, o, rfl, hcl⟩
        · subst hn; simp at hlt
        rcases HS.out with hn | ⟨b2, o2, rfl, hcm⟩
        · subst hn; rw [hlen] at hlt; simp at hlt
        have hlt2 : k < m.length := by omega
        have ck := hc.cell (hcl k hlt).1 (fun h => h)
        have cv := hc.cell (hcl k hlt).2 (fun h => h)
        have dk := hc.cell (hcm k hlt2).1 (fun h => h)
        have dv := hc.cell (hcm k hlt2).2 (fun h => h)
        clear hcl hcm
        have HL := Lib.hid hlen
        clear hlen
        have stop : ¬ l[k] = m[k] → EqP l m w (.returned (.bool false)) wr := fun hne => ⟨⟨false, rfl, fun h => (by cases h), fun h => absurd (by simp [h]) hne⟩, hc⟩
        have ST := Lib.hid stop
        clear stop
        cases he1 : (l[k].1.toList == m[k].1.toList) with
        | false =>
          have H1 := Lib.hid he1
          go_wp2_with fail
          go_quiet (fail)
          go_wp2
          go_ret
          have := ST.out (fun h => by have h1 := H1.out; rw [h] at h1; simp at h1)
          exact ⟨this.1, this.2.drewN _⟩
        | true =>
          cases he2 : (l[k].2.toList == m[k].2.toList) with
          | false =>
            have H2 := Lib.hid he2
            go_wp2_with fail
            go_quiet (fail)
            go_wp2
            go_ret
            have := ST.out (fun h => by have h1 := H2.out; rw [h] at h1; simp at h1)
            exact ⟨this.1, this.2.drewN _⟩
          | true =>
            have heq : l[k] = m[k] := Prod.ext (toList_inj (by simpa using he1)) (toList_inj (by simpa using he2))
            have HE := Lib.hid heq
            clear heq
            go_wp2_with fail
            go_quiet (fail)
            go_wp2
            go_roundw
            case rel =>
              refine ⟨k + 1, by go_num, by omega, ?_, hc.drewN _⟩
              show l.take (k + 1) = m.take (k + 1)
              rw [List.take_succ_eq_append_getElem hlt, List.take_succ_eq_append_getElem hlt2, HK.out, HE.out]
            case measure => simp [intOf]; omega
      · have hke : k = l.length := by omega
        have hkm : k = m.length := by omega
        have HKE := Lib.hid (And.intro hke hkm)
        clear hke hkm
        go_wp2
        go_ret
        refine ⟨⟨true, rfl, fun _ => ?_, fun _ => rfl⟩, hc⟩
        have := HK.out
        obtain ⟨e1, e2⟩ := HKE.out
        rw [List.take_of_length_le (by omega), List.take_of_length_le (by omega)] at this
        exact this
  · have hli : ((l.length : Int) != m.length) = true := by simp; omega
    have HL := Lib.hid hlen
    clear hlen
    go_enter Try.func34, Try.ntmps34
    go_wp2
    go_ret
    exact ⟨⟨_, rfl, fun h => (by cases h), fun h => absurd (by rw [h]) HL.out⟩, .refl _ _⟩
end Go.Proofs.Ytpdchdbkfflgfaa
