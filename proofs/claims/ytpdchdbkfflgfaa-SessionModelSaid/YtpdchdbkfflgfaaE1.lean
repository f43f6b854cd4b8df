/- A session as data: get and scan behind put and delete. -/
import Derived.Test.YtpdchdbkfflgfaaE0
namespace Go.Proofs.Ytpdchdbkfflgfaa
open Go.RowKit

structure Pure.Ok (P : Pure) : Prop where
  dif : P.rows.Pairwise fun x y => x.b ≠ y.b
  now : ∀ x ∈ P.rows, Okay x.b x.now
theorem Ses.Lies.ok {B : Nat} {S : Ses} {w : World} (h : S.Lies B w) : S.pure.Ok :=
  ⟨List.pairwise_map.2 (h.dif.imp fun {a b} h => h), fun x hx => by
    obtain ⟨y, hy, rfl⟩ := List.mem_map.1 hx
    exact (h.fine y hy).now⟩
def Pure.nowB (P : Pure) (b : Int) : List Ent := ((P.find b).map (·.now)).getD []
theorem now_b (P : Pure) (k : ByteArray) : P.now k = P.nowB (kb k) := rfl
theorem pfind_mem {P : Pure} {b : Int} {x : Tl} (h : P.find b = some x) : x ∈ P.rows ∧ x.b = b := by
  unfold Pure.find at h
  exact ⟨List.mem_of_find?_eq_some h, by simpa using List.find?_some h⟩
theorem nowB_okay {P : Pure} (h : P.Ok) (b : Int) : Okay b (P.nowB b) := by
  unfold Pure.nowB
  cases hf : P.find b with
  | none => exact ⟨List.Pairwise.nil, by simp, by simp⟩
  | some x =>
    obtain ⟨h1, h2⟩ := pfind_mem hf
    have := h.now x h1
    rw [h2] at this; exact this
theorem find_turn (P : Pure) (b : Int) (f : List Ent → List Ent) (c : Int) : (P.turn b f).find c = (P.find c).map fun x => if x.b = b then { x with now := f x.now } else x := by
  unfold Pure.find Pure.turn
  rw [List.find?_map]
  congr 1
  congr 1
  funext x
  show ((if x.b = b then { x with now := f x.now } else x).b == c) = (x.b == c)
  split <;> rfl
theorem has_turn (P : Pure) (b : Int) (f : List Ent → List Ent) (c : Int) : (P.turn b f).has c = P.has c := by
  unfold Pure.has; rw [find_turn]; cases P.find c <;> rfl
theorem atE_turn (P : Pure) (b : Int) (f : List Ent → List Ent) (k v : ByteArray) : (P.turn b f).atE k v = P.atE k v := by
  unfold Pure.atE; rw [has_turn]; rfl
theorem nowB_turn (P : Pure) (b : Int) (f : List Ent → List Ent) (h : P.has b = true) : (P.turn b f).nowB b = f (P.nowB b) := by
  unfold Pure.has at h
  unfold Pure.nowB
  rw [find_turn]
  cases hf : P.find b with
  | none => rw [hf] at h; cases h
  | some x => simp [(pfind_mem hf).2]
theorem nowB_other (P : Pure) (b : Int) (f : List Ent → List Ent) {c : Int} (h : c ≠ b) : (P.turn b f).nowB c = P.nowB c := by
  unfold Pure.nowB
  rw [find_turn]
  cases hf : P.find c with
  | none => rfl
  | some x =>
    have := (pfind_mem hf).2
    have hne : ¬ x.b = b := by omega
    simp [hne]
theorem atE_has {P : Pure} {k v : ByteArray} (h : P.atE k v = 0) : P.has (kb k) = true ∧ mayK k = true ∧ mayV v = true ∧ P.com = false := by
  unfold Pure.atE at h
  split at h
  · cases h
  · rename_i h1
    split at h
    · cases h
    · rename_i h2
      split at h
      · cases h
      · rename_i h3
        split at h
        · rename_i h4
          exact ⟨h4, by simpa using h2, by simpa using h3, by simpa using h1⟩
        · cases h
theorem atE_zero {P : Pure} {k : ByteArray} (h1 : P.has (kb k) = true) (h2 : mayK k = true) (h3 : P.com = false) : P.atE k noB = 0 := by
  unfold Pure.atE
  rw [h3, h2, h1]; rfl
theorem putE_at {P : Pure} {k v : ByteArray} (h : P.putE k v = 0) : P.atE k v = 0 := by
  unfold Pure.putE at h
  split at h
  · rename_i h1; exact absurd h h1
  · rename_i h1; simpa using h1
theorem put_turn {P : Pure} {k v : ByteArray} (h : P.putE k v = 0) : P.put k v = P.turn (kb k) (fun l => putNow l k v) := by unfold Pure.put; rw [if_pos h]
theorem del_turn {P : Pure} {k : ByteArray} (h : P.atE k noB = 0) : P.del k = P.turn (kb k) (fun l => delNow l k) := by unfold Pure.del; exact if_pos h
theorem putE_noB {P : Pure} {k v : ByteArray} (h : P.putE k v = 0) : P.atE k noB = 0 := by
  obtain ⟨h1, h2, _, h4⟩ := atE_has (putE_at h)
  exact atE_zero h1 h2 h4
/-- Scan: why it does not go; else what it tells. -/
def Pure.spanned (P : Pure) (a b : Nat) : Bool := (List.range' a (b + 1 - a)).all fun k : Nat => P.has k
def Pure.scanE (P : Pure) (f t : ByteArray) : Int := if P.com then 201 else if !(mayK f && mayK t) then 11 else if ltB t f then 1 else if P.spanned (kb f) (kb t) then 0 else 202
def Pure.spanL (P : Pure) (f t : ByteArray) (a n : Nat) : List Ent := (List.range' a n).flatMap fun k : Nat => (P.nowB k).filter (inR f t)
def Pure.scanL (P : Pure) (f t : ByteArray) : List Ent := P.spanL f t (kb f) (kb t + 1 - kb f)
section
variable {P : Pure} {k v : ByteArray}
theorem own_now (hp : P.putE k v = 0) : (P.put k v).nowB (kb k) = putNow (P.nowB (kb k)) k v := by
  rw [put_turn hp, nowB_turn _ _ _ (atE_has (putE_at hp)).1]
theorem own_get (h : P.Ok) (hp : P.putE k v = 0) : (P.put k v).atE k noB = 0 ∧ (P.put k v).get k = some v := by
  have h0 : (P.put k v).atE k noB = 0 := by rw [put_turn hp, atE_turn]; exact putE_noB hp
  refine ⟨h0, ?_⟩
  rw [get_eq, if_pos h0, now_b, own_now hp]
  exact (getL_iff (sorted_put (nowB_okay h _) k v)).2 (mem_put_self _ _ _)
theorem own_scan (h : P.Ok) (hp : P.putE k v = 0) : (P.put k v).scanE k k = 0 ∧ (P.put k v).scanL k k = [(k, v)] := by
  obtain ⟨h1, h2, _, h4⟩ := atE_has (own_get h hp).1
  constructor
  · unfold Pure.scanE Pure.spanned
    rw [h4, h2, ltB_irrefl, show kb k + 1 - kb k = 1 from by omega]
    simp [h1]
  · unfold Pure.scanL Pure.spanL
    rw [show kb k + 1 - kb k = 1 from by omega]
    simp only [List.range'_one, List.flatMap_cons, List.flatMap_nil, List.append_nil]
    rw [own_now hp]
    exact filter_key (sorted_put (nowB_okay h _) k v) (mem_put_self _ _ _)
theorem own_del (h : P.Ok) (hp : P.putE k v = 0) : ((P.put k v).del k).atE k noB = 0 ∧ ((P.put k v).del k).get k = none := by
  have h0 := (own_get h hp).1
  have h1 : ((P.put k v).del k).atE k noB = 0 := by rw [del_turn h0, atE_turn]; exact h0
  refine ⟨h1, ?_⟩
  rw [get_eq, if_pos h1, now_b, del_turn h0, nowB_turn _ _ _ (atE_has h0).1, own_now hp]
  have hs := sorted_put (nowB_okay h (kb k)) k v
  exact (getL_none (sorted_del hs k)).2 (fun u => not_del hs k u)
theorem opt_ext {a b : Option ByteArray} (h : ∀ v, a = some v ↔ b = some v) : a = b := by
  cases a with
  | none =>
    cases b with
    | none => rfl
    | some x => exact absurd ((h x).2 rfl) (by simp)
  | some x => exact ((h x).1 rfl).symm
theorem own_other (h : P.Ok) (hp : P.putE k v = 0) {o : ByteArray} (hne : o ≠ k) : ((P.put k v).del k).get o = P.get o ∧ ((P.put k v).del k).atE o noB = P.atE o noB := by
  have h0 := (own_get h hp).1
  have hat : ((P.put k v).del k).atE o noB = P.atE o noB := by rw [del_turn h0, atE_turn, put_turn hp, atE_turn]
  refine ⟨?_, hat⟩
  rw [get_eq, get_eq, hat]
  split
  · rw [now_b, now_b, del_turn h0]
    by_cases hb : (kb o : Int) = kb k
    · rw [hb, nowB_turn _ _ _ (atE_has h0).1, own_now hp]
      have hk := nowB_okay h (kb k : Int)
      have hs := sorted_put hk k v
      refine opt_ext fun u => ?_
      rw [getL_iff (sorted_del hs k), mem_del hne, mem_put hne, getL_iff hk.1]
    · rw [nowB_other _ _ _ hb, put_turn hp, nowB_other _ _ _ hb]
  · rfl
end
end Go.Proofs.Ytpdchdbkfflgfaa
