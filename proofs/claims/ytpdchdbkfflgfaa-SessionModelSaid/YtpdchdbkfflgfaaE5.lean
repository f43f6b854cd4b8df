/- The calls on a session, for a walk that keeps memory of its own beside it. -/
import Derived.Test.YtpdchdbkfflgfaaE2
namespace Go.Proofs.Ytpdchdbkfflgfaa
open Go.RowKit

/-- A session of these data lies at p; the blocks K are not its own, and new since w0. -/
def At (w0 w : World) (B p : Nat) (P : Pure) (K : Nat → Prop) : Prop :=
  ∃ S : Ses, S.Lies B w ∧ S.p = p ∧ S.pure = P ∧ Chg (fun _ => False) w0 w ∧ w0.heap.size ≤ B ∧ ∀ q, K q → q ∉ S.blocks ∧ q < w.heap.size ∧ w0.heap.size ≤ q
/-- An error value, nil just at 0. -/
def EvIs (n : Int) (ev : Value) : Prop := (n = 0 ∧ ev = .nilIface) ∨ (n ≠ 0 ∧ ∃ g : Nat, ev = .iface 92 (.pointer (some ⟨g, 0, none⟩)))
theorem IsErr.ev {H : Nat} {w : World} {v : Value} {of : ByteArray} {n : Int} (h : IsErr H w v of n) : EvIs n v := by
  rcases h with h | ⟨h, g, _, hv, _⟩
  · exact .inl h
  · exact .inr ⟨h, g, hv⟩
theorem EvIs.nil {v : Value} (h : EvIs 0 v) : v = .nilIface := by
  rcases h with h | ⟨h, _⟩
  · exact h.2
  · exact absurd rfl h
theorem EvIs.not {n : Int} {v : Value} (h : EvIs n v) (hn : n ≠ 0) : ∃ g : Nat, v = .iface 92 (.pointer (some ⟨g, 0, none⟩)) := by
  rcases h with h | ⟨_, h⟩
  · exact absurd h.1 hn
  · exact h
theorem At.step {w0 w w' : World} {B p : Nat} {P : Pure} {K K' F : Nat → Prop} (h : At w0 w B p P K) (hc : Chg F w w') (hF : ∀ q, F q → K q) (hK : ∀ q, K' q → K q ∨ (w.heap.size ≤ q ∧ q < w'.heap.size)) : At w0 w' B p P K' := by
  obtain ⟨S, h1, h2, h3, h4, h5, h6⟩ := h
  refine ⟨S, h1.chg hc (fun k hk hf => (h6 k (hF k hf)).1 hk), h2, h3, h4.trans hc (fun x hx hl => by have := (h6 x (hF x hx)).2.2; omega), h5, fun q hq => ?_⟩
  rcases hK q hq with hq | hq
  · have := h6 q hq
    exact ⟨this.1, by have := hc.size; omega, this.2.2⟩
  · refine ⟨fun hm => ?_, hq.2, by have := h4.size; omega⟩
    have := h1.all_lt q hm
    omega
theorem At.same {w0 w w' : World} {B p : Nat} {P : Pure} {K : Nat → Prop} (h : At w0 w B p P K) (hc : Chg (fun _ => False) w w') : At w0 w' B p P K :=
  h.step hc (fun _ h => h.elim) (fun _ h => .inl h)
theorem At.less {w0 w : World} {B p : Nat} {P : Pure} {K K' : Nat → Prop} (h : At w0 w B p P K) (hK : ∀ q, K' q → K q) : At w0 w B p P K' :=
  h.step (.refl (fun _ => False) _) (fun _ h => h.elim) (fun _ h => .inl (hK _ h))
theorem At.old {w0 w : World} {B p : Nat} {P : Pure} {K : Nat → Prop} (h : At w0 w B p P K) : Chg (fun _ => False) w0 w := by
  obtain ⟨S, h1, h2, h3, h4, h5, h6⟩ := h; exact h4
theorem At.ok {w0 w : World} {B p : Nat} {P : Pure} {K : Nat → Prop} (h : At w0 w B p P K) : P.Ok := by
  obtain ⟨S, h1, h2, h3, h4, h5, h6⟩ := h; rw [← h3]; exact h1.ok
/-- What a call leaves. -/
def Res (w0 : World) (B p : Nat) (P' : Pure) (n : Int) (K : Nat → Prop) (w w' : World) (ev : Value) : Prop :=
  At w0 w' B p P' K ∧ EvIs n ev ∧ ∀ q, K q → w'.heap[q]? = w.heap[q]?
theorem Ran.res {w0 w w' : World} {B p : Nat} {K : Nat → Prop} {S : Ses} {of : ByteArray} {n : Int} {P' : Pure} {ev : Value} (h1 : S.Lies B w) (h2 : S.p = p) (h4 : Chg (fun _ => False) w0 w) (h5 : w0.heap.size ≤ B)
    (h6 : ∀ q, K q → q ∉ S.blocks ∧ q < w.heap.size ∧ w0.heap.size ≤ q) (hr : Ran B w S of n P' w' ev) : Res w0 B p P' n K w w' ev := by
  obtain ⟨S', he, hl, hp, hpp, hc, hb⟩ := hr
  refine ⟨⟨S', hl, hpp.trans h2, hp, chg_new h4 h1 h5 hc, h5, fun q hq => ?_⟩, he.ev, fun q hq => hc.block q (h6 q hq).2.1 (h6 q hq).1⟩
  have h := h6 q hq
  refine ⟨fun hm => ?_, by have := hc.size; omega, h.2.2⟩
  rcases hb q hm with hm | hm
  · exact h.1 hm
  · omega
theorem Res.cell {w0 w w' : World} {B p : Nat} {P' : Pure} {n : Int} {K : Nat → Prop} {ev : Value} (h : Res w0 B p P' n K w w' ev) {a : Addr} {v : Value} (hk : K a.block) (hv : w.cell? a = some v) : w'.cell? a = some v :=
  (World.cell?_of_block (h.2.2 a.block hk)).trans hv
section
variable {w0 w : World} {B p : Nat} {P : Pure} {K : Nat → Prop}
theorem at_get (h : At w0 w B p P K) (k : ByteArray) (hk : k.size ≤ maxLen) :
    Calls Try.prog 20 #[.pointer (some ⟨p, 0, none⟩), .string k] w fun e w' => ∃ ev, e = .returned (.tuple #[optV (P.get k), .bool (P.get k).isSome, ev]) ∧ Res w0 B p P (P.atE k noB) K w w' ev := by
  obtain ⟨S, h1, h2, rfl, h4, h5, h6⟩ := h
  refine (get_p h2 k w h1 hk).mono ?_
  rintro e w' ⟨ev, rfl, hr⟩
  exact ⟨ev, rfl, hr.res h1 h2 h4 h5 h6⟩
theorem at_del (h : At w0 w B p P K) (hB : B ≤ w.heap.size) (k : ByteArray) (hk : k.size ≤ maxLen) :
    Calls Try.prog 13 #[.pointer (some ⟨p, 0, none⟩), .string k] w fun e w' => ∃ ev, e = .returned (.tuple #[.bool (P.get k).isSome, ev]) ∧ Res w0 B p (P.del k) (P.atE k noB) K w w' ev := by
  obtain ⟨S, h1, h2, rfl, h4, h5, h6⟩ := h
  refine (del_p h2 k w h1 hB hk).mono ?_
  rintro e w' ⟨ev, rfl, hr⟩
  exact ⟨ev, rfl, hr.res h1 h2 h4 h5 h6⟩
theorem at_put (h : At w0 w B p P K) (hB : B ≤ w.heap.size) (k v : ByteArray) (hk : k.size ≤ maxLen) :
    Calls Try.prog 12 #[.pointer (some ⟨p, 0, none⟩), .string k, .string v] w fun e w' => ∃ ev, e = .returned ev ∧ Res w0 B p (P.put k v) (P.putE k v) K w w' ev := by
  obtain ⟨S, h1, h2, rfl, h4, h5, h6⟩ := h
  refine (put_p h2 k v w h1 hB hk).mono ?_
  rintro e w' ⟨ev, rfl, hr⟩
  exact ⟨ev, rfl, hr.res h1 h2 h4 h5 h6⟩
theorem at_learn (h : At w0 w B p P K) (hB : B ≤ w.heap.size) (i : It) (v0 v : Value) (l : List Ent) (hr0 : Reads w v0 i.data) (hr : Reads w v l) (hf : i.fits) :
    Calls Try.prog 11 #[.pointer (some ⟨p, 0, none⟩), .agg #[.int .i64 i.b, .int .u32 i.ver, .bool i.wr, v0, .int .u32 i.i0, .int .u32 i.i1, .int .u32 i.i2, .int .u32 i.i3], v] w fun e w' =>
      ∃ n P' ev, e = .returned ev ∧ Learns P i l n P' ∧ Res w0 B p P' n K w w' ev := by
  obtain ⟨S, h1, h2, rfl, h4, h5, h6⟩ := h
  refine (learn_p h2 i v0 v l w h1 hB hr0 hr hf).mono ?_
  rintro e w' ⟨n, P', ev, rfl, hran, hl⟩
  exact ⟨n, P', ev, rfl, hl, hran.res h1 h2 h4 h5 h6⟩
theorem at_scan (h : At w0 w B p P K) (f t : ByteArray) (hf : f.size ≤ maxLen) (ht : t.size ≤ maxLen) :
    Calls Try.prog 21 #[.pointer (some ⟨p, 0, none⟩), .string f, .string t] w fun e w' =>
      ∃ v ev, e = .returned (.tuple #[v, ev]) ∧ EvIs (P.scanE f t) ev ∧ At w0 w' B p P K ∧ Chg (fun _ => False) w w' ∧ (P.scanE f t = 0 → w'.ownsRow w.heap.size 65 2 v (P.scanL f t).length (flat (P.scanL f t))) := by
  have hat := h
  obtain ⟨S, h1, h2, rfl, h4, h5, h6⟩ := h
  refine (scan_p h2 f t w h1 hf ht).mono ?_
  rintro e w' ⟨v, ev, rfl, he, hc, _, hown⟩
  exact ⟨v, ev, rfl, he.ev, hat.same hc, hc, hown⟩
end
theorem at_new {w w' : World} {S : Ses} {P : Pure} (h : S.Lies w.heap.size w') (hP : S.pure = P) (hc : Chg (fun _ => False) w w') : At w w' w.heap.size S.p P (fun _ => False) :=
  ⟨S, h, rfl, hP, hc, Nat.le_refl _, fun _ h => h.elim⟩
end Go.Proofs.Ytpdchdbkfflgfaa
