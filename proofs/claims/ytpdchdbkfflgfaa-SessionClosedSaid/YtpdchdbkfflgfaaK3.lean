/- SessionClosed: its walk. -/
import Derived.Test.YtpdchdbkfflgfaaK2
namespace Go.Proofs.Ytpdchdbkfflgfaa
open Go.RowKit

/-- What stands while the first script is gone through. -/
def SInv (w0 w : World) (p : Nat) : Prop := ∃ S : Ses, S.Lies w0.heap.size w ∧ S.p = p ∧ Same5 pR0 S.pure ∧ Chg (fun _ => False) w0 w
theorem sinv_ran {w0 w w' : World} {S : Ses} {of : ByteArray} {n : Int} {P' : Pure} {ev : Value} (h1 : S.Lies w0.heap.size w) (h3 : Same5 pR0 S.pure) (h7 : Chg (fun _ => False) w0 w) (hr : Ran w0.heap.size w S of n P' w' ev) (hs : Same5 S.pure P') : SInv w0 w' S.p := by
  obtain ⟨S', he, hl, hp, hpp, hc, hb⟩ := hr
  refine ⟨S', hl, hpp, ?_, chg_new h7 h1 (Nat.le_refl _) hc⟩
  rw [hp]
  exact ⟨hs.id.trans h3.id, hs.client.trans h3.client, hs.m0.trans h3.m0, hs.m1.trans h3.m1, hs.m2.trans h3.m2, hs.com.trans h3.com⟩
theorem learns_same {P P' : Pure} {i : It} {l : List Ent} {n : Int} (h : Learns P i l n P') : Same5 P P' := by
  cases hc : P.com with
  | true => obtain ⟨_, rfl⟩ := h.1 hc; exact ⟨rfl, rfl, rfl, rfl, rfl, rfl⟩
  | false =>
    rcases h.2.1 hc with h | h | h | h
    · obtain ⟨_, rfl⟩ := h; exact ⟨rfl, rfl, rfl, rfl, rfl, rfl⟩
    · obtain ⟨_, _, rfl⟩ := h; exact ⟨rfl, rfl, rfl, rfl, rfl, rfl⟩
    · obtain ⟨_, _, _, rfl⟩ := h; exact ⟨rfl, rfl, rfl, rfl, rfl, rfl⟩
    · obtain ⟨_, _, _, _, _, _, rfl⟩ := h; exact ⟨rfl, rfl, rfl, rfl, rfl, rfl⟩
/-- The calls on a committed session. -/
def CRes (w0 wK : World) (H p : Nat) (w : World) (of : ByteArray) (w' : World) (ev : Value) : Prop :=
  ∃ S', Cl w0 wK H p w' S' ∧ IsErr 0 w' ev of 201 ∧ (∀ {v : Value} {of' : ByteArray} {n' : Int}, IsErr 0 w v of' n' → IsErr 0 w' v of' n') ∧ ∀ (g : Nat) (c : Array Value), w.heap[g]? = some (.cells c 38 (0, 0)) → w'.heap[g]? = some (.cells c 38 (0, 0))
section
variable {w0 wK w : World} {H p : Nat} {S : Ses}
theorem cget (h : Cl w0 wK H p w S) (k : ByteArray) (hk : k.size ≤ maxLen) : Calls Try.prog 20 #[.pointer (some ⟨p, 0, none⟩), .string k] w fun e w' => ∃ v b ev, e = .returned (.tuple #[.string v, .bool b, ev]) ∧ CRes w0 wK H p w sGet w' ev := by
  refine (get_p h.ptr k w h.lies hk).mono ?_
  rintro e w' ⟨ev, rfl, hr⟩
  rw [com_atE h.com] at hr
  exact ⟨_, _, ev, rfl, h.ran hr h.com⟩
theorem cdel (h : Cl w0 wK H p w S) (k : ByteArray) (hk : k.size ≤ maxLen) : Calls Try.prog 13 #[.pointer (some ⟨p, 0, none⟩), .string k] w fun e w' => ∃ b ev, e = .returned (.tuple #[.bool b, ev]) ∧ CRes w0 wK H p w sDelete w' ev := by
  refine (del_p h.ptr k w h.lies h.all.size hk).mono ?_
  rintro e w' ⟨ev, rfl, hr⟩
  rw [com_atE h.com, com_del h.com] at hr
  exact ⟨_, ev, rfl, h.ran hr h.com⟩
theorem cput (h : Cl w0 wK H p w S) (k v : ByteArray) (hk : k.size ≤ maxLen) : Calls Try.prog 12 #[.pointer (some ⟨p, 0, none⟩), .string k, .string v] w fun e w' => ∃ ev, e = .returned ev ∧ CRes w0 wK H p w sPut w' ev := by
  refine (put_p h.ptr k v w h.lies h.all.size hk).mono ?_
  rintro e w' ⟨ev, rfl, hr⟩
  rw [com_putE h.com, com_put h.com] at hr
  exact ⟨ev, rfl, h.ran hr h.com⟩
theorem clearn (h : Cl w0 wK H p w S) (i : It) (v0 v : Value) (l : List Ent) (hr0 : Reads w v0 i.data) (hr : Reads w v l) (hf : i.fits) :
    Calls Try.prog 11 #[.pointer (some ⟨p, 0, none⟩), .agg #[.int .i64 i.b, .int .u32 i.ver, .bool i.wr, v0, .int .u32 i.i0, .int .u32 i.i1, .int .u32 i.i2, .int .u32 i.i3], v] w fun e w' => ∃ ev, e = .returned ev ∧ CRes w0 wK H p w sLearn w' ev := by
  refine (learn_p h.ptr i v0 v l w h.lies h.all.size hr0 hr hf).mono ?_
  rintro e w' ⟨n, P', ev, rfl, hran, hl⟩
  obtain ⟨rfl, rfl⟩ := hl.1 h.com
  exact ⟨ev, rfl, h.ran hran h.com⟩
theorem ccommit (h : Cl w0 wK H p w S) : Calls Try.prog 14 #[.pointer (some ⟨p, 0, none⟩)] w fun e w' => ∃ ev, e = .returned (.tuple #[zTx, ev]) ∧ CRes w0 wK H p w sCommit w' ev := by
  refine (commit_p h.ptr w h.lies).mono ?_
  rintro e w' ⟨n, P', v, ev, rfl, hran, hbad, _⟩
  obtain ⟨rfl, rfl, rfl⟩ := hbad (.inl h.com)
  exact ⟨ev, rfl, h.ran hran h.com⟩
theorem cscan (h : Cl w0 wK H p w S) (k t : ByteArray) : Calls Try.prog 21 #[.pointer (some ⟨p, 0, none⟩), .string k, .string t] w fun e w' => ∃ ev, e = .returned (.tuple #[.slice none 0 0, ev]) ∧ CRes w0 wK H p w sScan w' ev := by
  have hc := scan_com k t w h.lies h.com
  rw [h.ptr] at hc
  refine hc.mono ?_
  rintro e w' ⟨ev, rfl, he, hch⟩
  exact ⟨ev, rfl, S, h.same hch, he.mono (Nat.zero_le _) (.refl (fun _ => False) _) (fun _ h => h.elim), fun hv => hv.same hch, fun g c hg => hch.obj hg (fun h => h)⟩
end
theorem Items.keep {H n : Nat} {w w' : World} {rows : List Tl} {v : Value} {cs : List CItem} (h : Items H w rows v cs) (hc : Chg (fun q => q < H ∨ n ≤ q) w w') (hn : w.heap.size = n) : Items H w' rows v cs := by
  have own : ∀ {v : Value} {e k : Nat} {size : Nat} {xs : List Value}, w.ownsRow H e size v k xs → w'.ownsRow H e size v k xs := fun ho => hc.owns ho (fun q hq e => by have := own_lt ho hq; rcases e with e | e <;> omega)
  exact ⟨own h.1, h.2.1, fun c hm => ⟨(h.2.2 c hm).1, (h.2.2 c hm).2.1, (h.2.2 c hm).2.2.1, fun hw => own ((h.2.2 c hm).2.2.2 hw)⟩⟩
theorem own_keep {H H2 n e k : Nat} {size : Nat} {w w' : World} {v : Value} {xs : List Value} (h : w.ownsRow H2 e size v k xs) (hH : H ≤ H2) (hc : Chg (fun q => q < H ∨ n ≤ q) w w') (hn : w.heap.size = n) : w'.ownsRow H2 e size v k xs :=
  hc.owns h (fun q hq e => by have := own_lt h hq; rcases e with e | e <;> omega)
theorem Copy.keep {H H2 n : Nat} {w w' : World} {cs ds : List CItem} (h : Copy H2 w cs ds) (hH : H ≤ H2) (hc : Chg (fun q => q < H ∨ n ≤ q) w w') (hn : w.heap.size = n) : Copy H2 w' cs ds :=
  ⟨h.1, fun k h1 h2 => ⟨(h.2 k h1 h2).1, (h.2 k h1 h2).2.1, own_keep (h.2 k h1 h2).2.2 hH hc hn⟩⟩
theorem Copy.same {H2 : Nat} {w w' : World} {cs ds : List CItem} (h : Copy H2 w cs ds) (hc : Chg (fun _ => False) w w') : Copy H2 w' cs ds :=
  ⟨h.1, fun k h1 h2 => ⟨(h.2 k h1 h2).1, (h.2 k h1 h2).2.1, hc.owns (h.2 k h1 h2).2.2 (fun _ _ h => h)⟩⟩
end Go.Proofs.Ytpdchdbkfflgfaa
