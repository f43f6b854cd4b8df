/- A committed session; the document's Same of what is alike. -/
import Derived.Test.YtpdchdbkfflgfaaZ0
namespace Go.Proofs.Ytpdchdbkfflgfaa
open Go.RowKit

/-- A committed session, and memory that stays: blocks from H on that were there in wK. -/
structure Cl (w0 wK : World) (H : Nat) (p : Nat) (w : World) (S : Ses) : Prop where
  lies : S.Lies w0.heap.size w
  ptr : S.p = p
  com : S.pure.com = true
  free : ∀ q ∈ S.blocks, q < H ∨ wK.heap.size ≤ q
  keep : Chg (fun q => q < H ∨ wK.heap.size ≤ q) wK w
  all : Chg (fun _ => False) w0 w
theorem Cl.same {w0 wK w w' : World} {H p : Nat} {S : Ses} (h : Cl w0 wK H p w S) (hc : Chg (fun _ => False) w w') : Cl w0 wK H p w' S :=
  ⟨h.lies.same hc, h.ptr, h.com, h.free, h.keep.trans hc (fun _ h => h.elim), h.all.trans hc (fun _ h => h.elim)⟩
theorem Cl.ran {w0 wK w w' : World} {H p : Nat} {S : Ses} {of : ByteArray} {n : Int} {P' : Pure} {ev : Value} (h : Cl w0 wK H p w S) (hr : Ran w0.heap.size w S of n P' w' ev) (hP : P'.com = true) :
    ∃ S', Cl w0 wK H p w' S' ∧ IsErr 0 w' ev of n ∧ (∀ {v : Value} {of' : ByteArray} {n' : Int}, IsErr 0 w v of' n' → IsErr 0 w' v of' n') ∧ ∀ (g : Nat) (c : Array Value), w.heap[g]? = some (.cells c 38 (0, 0)) → w'.heap[g]? = some (.cells c 38 (0, 0)) := by
  obtain ⟨S', he, hl, hp, hpp, hc, hb⟩ := hr
  have hs := h.keep.size
  refine ⟨S', ⟨hl, hpp.trans h.ptr, by rw [hp]; exact hP, fun q hq => ?_, h.keep.trans hc (fun q hq _ => h.free q hq), chg_new h.all h.lies (Nat.le_refl _) hc⟩, he.mono (Nat.zero_le _) (.refl (fun _ => False) _) (fun _ h => h.elim), fun hv => hv.stay h.lies hc, fun g c hg => hc.obj hg (h.lies.notT hg (by decide) (by decide) (by decide))⟩
  rcases hb q hq with h1 | h1
  · exact h.free q h1
  · exact .inr (by omega)
theorem com_atE {P : Pure} (h : P.com = true) (k v : ByteArray) : P.atE k v = 201 := by unfold Pure.atE; rw [h]; rfl
theorem com_putE {P : Pure} (h : P.com = true) (k v : ByteArray) : P.putE k v = 201 := by unfold Pure.putE; rw [com_atE h]; rfl
theorem com_put {P : Pure} (h : P.com = true) (k v : ByteArray) : P.put k v = P := by unfold Pure.put; rw [com_putE h]; rfl
theorem com_del {P : Pure} (h : P.com = true) (k : ByteArray) : P.del k = P := by unfold Pure.del; rw [com_atE h]; rfl

set_option maxRecDepth 100000 in
set_option maxHeartbeats 2000000 in
theorem sameEnts (v u : Value) (l : List Ent) (w : World) (hr : Reads w v l) (hs : Reads w u l) :
    Calls Try.prog 22 #[v, u] w fun e w' => e = .returned (.bool true) ∧ Chg (fun _ => False) w w' := by
  obtain ⟨a, c, rfl, _, hm, hr⟩ := hr
  obtain ⟨a1, c1, rfl, _, _, hs⟩ := hs
  have HR := Lib.hid hr
  have HS := Lib.hid hs
  unfold maxLen at hm
  clear hr hs
  go_enter Try.func22, Try.ntmps22
  go_wp2
  go_loopw [5] (fun i wr => ∃ k : Nat, i = .int .i64 k ∧ k ≤ l.length ∧ Chg (fun _ => False) w wr) (fun i _ => l.length - (intOf i).toNat)
  case atStart => exact ⟨0, rfl, by omega, .refl _ _⟩
  case round =>
    obtain ⟨k, rfl, hk, hc⟩ := hrel
    by_cases hlt : k < l.length
    · rcases HR.out with hn | ⟨b, o, rfl, hcl⟩
      · subst hn; simp at hlt
      rcases HS.out with hn | ⟨b2, o2, rfl, hcm⟩
      · subst hn; simp at hlt
      have ck := hc.cell (hcl k hlt).1 (fun h => h)
      have cv := hc.cell (hcl k hlt).2 (fun h => h)
      have dk := hc.cell (hcm k hlt).1 (fun h => h)
      have dv := hc.cell (hcm k hlt).2 (fun h => h)
      clear hcl hcm
      go_wp2_with fail
      go_quiet (fail)
      go_wp2
      go_roundw
      case rel => exact ⟨k + 1, by go_num, by omega, hc.drewN _⟩
      case measure => simp [intOf]; omega
    · go_wp2
      go_ret
      exact ⟨rfl, hc⟩
set_option maxRecDepth 100000 in
set_option maxHeartbeats 2000000 in
theorem sameItem (b ver i0 i1 i2 i3 : Int) (wr : Bool) (v u : Value) (l : List Ent) (w : World) (hr : Reads w v l) (hs : Reads w u l) :
    Calls Try.prog 39 #[.agg #[.int .i64 b, .int .u32 ver, .bool wr, v, .int .u32 i0, .int .u32 i1, .int .u32 i2, .int .u32 i3], .agg #[.int .i64 b, .int .u32 ver, .bool wr, u, .int .u32 i0, .int .u32 i1, .int .u32 i2, .int .u32 i3]] w
      fun e w' => e = .returned (.bool true) ∧ Chg (fun _ => False) w w' := by
  have HR := Lib.hid hr
  have HS := Lib.hid hs
  obtain ⟨a, c, rfl, _⟩ := hr
  obtain ⟨a1, c1, rfl, _⟩ := hs
  have he : ∀ w, (Op.equalIn 10000 34 (.agg #[.int .u32 i0, .int .u32 i1, .int .u32 i2, .int .u32 i3]) (.agg #[.int .u32 i0, .int .u32 i1, .int .u32 i2, .int .u32 i3])).run Try.prog w = .ok true w := fun w => by
    have := eq34 i0 i1 i2 i3 i0 i1 i2 i3 w
    simpa using this
  have ch := ((Chg.refl (fun _ => False) w).alloc (itemO b ver wr (.slice a l.length c) i0 i1 i2 i3)).alloc (itemO b ver wr (.slice a1 l.length c1) i0 i1 i2 i3)
  have p0 := (probe_chg w b ver wr wr (.slice a l.length c) (.slice a1 l.length c1) i0 i1 i2 i3)
  have CH := Lib.hid ch
  have rd := ch.reads HR.out (fun _ _ h => h)
  have rd2 := ch.reads HS.out (fun _ _ h => h)
  have P0 := Lib.hid p0.1
  have P1 := Lib.hid p0.2
  unfold itemO at rd rd2
  clear ch p0
  go_enter Try.func39, Try.ntmps39
  go_wp2_with (go_at_call 22; refine (sameEnts _ _ _ _ rd rd2).mono ?_; rintro e w2 ⟨rfl, hc2⟩; obtain ⟨x0, x1, x2, x3, x4, x5, x6, x7⟩ := item_cells (hc2.obj P0.out (fun h => h)); obtain ⟨y0, y1, y2, y3, y4, y5, y6, y7⟩ := item_cells (hc2.obj P1.out (fun h => h)))
  go_ret
  exact ⟨rfl, CH.out.trans hc2 (fun _ h => h.elim)⟩
end Go.Proofs.Ytpdchdbkfflgfaa
