/- What a session is, as data; a row of it changed. -/
import Derived.Test.YtpdchdbkfflgfaaK
namespace Go.Proofs.Ytpdchdbkfflgfaa
open Go.RowKit

/-- A session as data. -/
structure Pure where
  id : Int
  client : Int
  m0 : Int
  m1 : Int
  m2 : Int
  com : Bool
  rows : List Tl
def Ses.pure (S : Ses) : Pure := ⟨S.id, S.client, S.m0, S.m1, S.m2, S.com, S.rows.map (·.d)⟩
def Pure.find (P : Pure) (b : Int) : Option Tl := P.rows.find? fun x => x.b == b
def Pure.has (P : Pure) (b : Int) : Bool := (P.find b).isSome
theorem find_pure (S : Ses) (b : Int) : S.pure.find b = (S.find b).map (·.d) := by
  simp only [Pure.find, Ses.pure, Ses.find, List.find?_map]; rfl
theorem has_pure (S : Ses) (b : Int) : S.pure.has b = S.has b := by
  simp only [Pure.has, find_pure, Ses.has]; cases S.find b <;> rfl
def Pure.atE (P : Pure) (k v : ByteArray) : Int :=
  if P.com then 201 else if !mayK k then 11 else if !mayV v then 12 else if P.has (kb k) then 0 else 202
theorem atE_pure (S : Ses) (k v : ByteArray) : Go.Proofs.Ytpdchdbkfflgfaa.atE S k v = S.pure.atE k v := by
  simp only [Go.Proofs.Ytpdchdbkfflgfaa.atE, Pure.atE, has_pure]; rfl
/-- What a bucket holds behind a Put that went through. -/
def putNow (l : List Ent) (k v : ByteArray) : List Ent :=
  if isAt l k then l.set (posOf l k) (k, v) else l.take (posOf l k) ++ (k, v) :: l.drop (posOf l k)
def delNow (l : List Ent) (k : ByteArray) : List Ent := if isAt l k then l.eraseIdx (posOf l k) else l
def Pure.turn (P : Pure) (b : Int) (f : List Ent → List Ent) : Pure := { P with rows := P.rows.map fun x => if x.b = b then { x with now := f x.now } else x }
def Pure.now (P : Pure) (k : ByteArray) : List Ent := ((P.find (kb k)).map (·.now)).getD []
def Pure.putE (P : Pure) (k v : ByteArray) : Int :=
  if P.atE k v ≠ 0 then P.atE k v else if isAt (P.now k) k then 0 else if 8 ≤ (P.now k).length then 204 else 0
def Pure.put (P : Pure) (k v : ByteArray) : Pure := if P.putE k v = 0 then P.turn (kb k) (fun l => putNow l k v) else P
def Pure.del (P : Pure) (k : ByteArray) : Pure := if P.atE k ⟨#[]⟩ = 0 then P.turn (kb k) (fun l => delNow l k) else P

theorem isAt_eq {l : List Ent} {k : ByteArray} (h : isAt l k = true) : ∃ hp : posOf l k < l.length, l[posOf l k].1 = k := by
  unfold isAt at h
  cases hq : l[posOf l k]? with
  | none => rw [hq] at h; cases h
  | some e =>
    rw [hq] at h
    obtain ⟨hp, he⟩ := List.getElem?_eq_some_iff.1 hq
    exact ⟨hp, by rw [he]; exact eqB_iff.1 h⟩
theorem sorted_set {l : List Ent} {i : Nat} (hi : i < l.length) (v : ByteArray) (h : Sorted l) : Sorted (l.set i (l[i].1, v)) := by
  unfold Sorted at *
  rw [List.pairwise_iff_getElem] at *
  intro a b ha hb hab
  have ha' : a < l.length := by simpa using ha
  have hb' : b < l.length := by simpa using hb
  have := h a b ha' hb' hab
  rw [List.getElem_set, List.getElem_set]
  split <;> split <;> simp_all
theorem sorted_ins {l : List Ent} (k v : ByteArray) (h : Sorted l) (hn : isAt l k = false) : Sorted (l.take (posOf l k) ++ (k, v) :: l.drop (posOf l k)) := by
  have hp := pos_le l k
  unfold Sorted at *
  rw [List.pairwise_append]
  refine ⟨h.sublist (List.take_sublist _ _), List.pairwise_cons.2 ⟨fun e he => ?_, h.sublist (List.drop_sublist _ _)⟩, fun a ha e he => ?_⟩
  · obtain ⟨j, hj, rfl⟩ := List.getElem_of_mem he
    rw [List.getElem_drop]
    have hj' : posOf l k + j < l.length := by simp at hj; omega
    have h1 := pos_ge h (k := k) (i := posOf l k + j) (by omega) hj'
    cases h2 : ltB k l[posOf l k + j].1 with
    | true => rfl
    | false =>
      have heq := ltB_total h1 h2
      cases j with
      | zero =>
        have : isAt l k = true := by
          unfold isAt
          rw [List.getElem?_eq_getElem (by omega : posOf l k < l.length)]
          exact eqB_iff.2 heq
        rw [hn] at this; cases this
      | succ j =>
        have h3 := List.pairwise_iff_getElem.1 h (posOf l k) (posOf l k + (j + 1)) (by omega) hj' (by omega)
        have h4 := pos_at (l := l) (k := k) (by omega)
        rw [heq] at h3
        rw [h3] at h4; cases h4
  · obtain ⟨j, hj, rfl⟩ := List.getElem_of_mem ha
    rw [List.getElem_take]
    have hj' : j < posOf l k := by simp at hj; omega
    have h1 := pos_lt (l := l) (k := k) hj' (by omega)
    rcases List.mem_cons.1 he with rfl | he
    · exact h1
    · obtain ⟨m, hm, rfl⟩ := List.getElem_of_mem he
      rw [List.getElem_drop]
      exact List.pairwise_iff_getElem.1 h _ _ (by omega) (by simp at hm; omega) (by omega)
theorem okay_put {b : Int} {l : List Ent} {k v : ByteArray} (h : Okay b l) (hk : mayK k = true) (hv : mayV v = true) (hb : (kb k : Int) = b) (h8 : isAt l k = true ∨ l.length < 8) : Okay b (putNow l k v) := by
  obtain ⟨h1, h2, h3⟩ := h
  have hk' : 1 ≤ k.size ∧ k.size ≤ 32 := by simpa [mayK] using hk
  have hv' : v.size ≤ 64 := by simpa [mayV] using hv
  have hp := pos_le l k
  unfold putNow
  cases ha : isAt l k with
  | true =>
    obtain ⟨hp, he⟩ := isAt_eq ha
    simp only [if_true]
    have hs := sorted_set hp v h1
    rw [he] at hs
    refine ⟨hs, by simpa using h2, fun e hm => ?_⟩
    rcases List.mem_or_eq_of_mem_set hm with hm | rfl
    · exact h3 e hm
    · exact ⟨hk'.1, hk'.2, hv', hb⟩
  | false =>
    have h8' : l.length < 8 := by rcases h8 with h | h; rw [ha] at h; cases h; exact h
    refine ⟨sorted_ins k v h1 ha, by simp; omega, fun e hm => ?_⟩
    rcases List.mem_append.1 hm with hm | hm
    · exact h3 e (List.mem_of_mem_take hm)
    · rcases List.mem_cons.1 hm with rfl | hm
      · exact ⟨hk'.1, hk'.2, hv', hb⟩
      · exact h3 e (List.mem_of_mem_drop hm)
theorem okay_del {b : Int} {l : List Ent} {k : ByteArray} (h : Okay b l) : Okay b (delNow l k) := by
  unfold delNow
  split
  · exact ⟨h.1.sublist (List.eraseIdx_sublist _ _), Nat.le_trans (List.length_eraseIdx_le _ _) h.2.1, fun e he => h.2.2 e (List.mem_of_mem_eraseIdx he)⟩
  · exact h

theorem pairwise_eq {l : List Row} (h : l.Pairwise fun x y => x.d.b ≠ y.d.b) {x y : Row} (hx : x ∈ l) (hy : y ∈ l) (he : x.d.b = y.d.b) : x = y := by
  induction l with
  | nil => cases hx
  | cons z l ih =>
    rw [List.pairwise_cons] at h
    rcases List.mem_cons.1 hx with hx1 | hx1 <;> rcases List.mem_cons.1 hy with hy1 | hy1
    · rw [hx1, hy1]
    · subst hx1; exact absurd he (h.1 y hy1)
    · subst hy1; exact absurd he.symm (h.1 x hx1)
    · exact ih h.2 hx1 hy1
def Ses.put (S : Ses) (x' : Row) : Ses := { S with rows := S.rows.map fun y => if y.d.b = x'.d.b then x' else y }
theorem Ses.Lies.update {B : Nat} {S : Ses} {w w' : World} (h : S.Lies B w) {x x' : Row} (hx : x ∈ S.rows)
    (hb : x'.d.b = x.d.b) (ht : x'.t = x.t) (hbo : x'.born = x.born) (hwv : x'.wv = x.wv) (hB : B ≤ w.heap.size)
    (hl : x'.Lies B w') (hf : x'.d.Fine) (hc : Chg (fun q => q = x.t ∨ x.nv.ownBlock = some q) w w')
    (hnew : ∀ q, x'.nv.ownBlock = some q → x.nv.ownBlock = some q ∨ w.heap.size ≤ q) : (S.put x').Lies B w' := by
  have hmem : ∀ y ∈ (S.put x').rows, y = x' ∨ (y ∈ S.rows ∧ y.d.b ≠ x.d.b) := by
    intro y hy
    obtain ⟨z, hz, rfl⟩ := List.mem_map.1 hy
    rw [hb]
    by_cases he : z.d.b = x.d.b
    · rw [if_pos he]; exact .inl rfl
    · rw [if_neg he]; exact .inr ⟨hz, he⟩
  have hlt : ∀ y ∈ S.rows, ∀ k ∈ y.blocks, k < w.heap.size := by
    intro y hy k hk
    have hy' := h.rows y hy
    simp only [Row.blocks, List.mem_cons, List.mem_append, Option.mem_toList] at hk
    rcases hk with rfl | hk | hk
    · exact lt_of_block hy'.tl
    · exact (hy'.was.lt k hk).2
    · exact (hy'.now.lt k hk).2
  have hbx : ∀ k ∈ x'.blocks, k ∈ x.blocks ∨ w.heap.size ≤ k := by
    intro k hk
    simp only [Row.blocks, List.mem_cons, List.mem_append, Option.mem_toList] at hk ⊢
    rcases hk with rfl | hk | hk
    · exact .inl (.inl ht)
    · rw [hwv] at hk; exact .inl (.inr (.inl hk))
    · exact (hnew k hk).imp (fun h => .inr (.inr h)) (fun h => h)
  have hps : S.p < w.heap.size := lt_of_block h.head
  have hrs : S.r < w.heap.size := lt_of_block h.log
  have hnot : ∀ k, (k = x.t ∨ x.nv.ownBlock = some k) → k ∈ x.blocks := by
    intro k hk
    simp only [Row.blocks, List.mem_cons, List.mem_append, Option.mem_toList]
    rcases hk with hk | hk
    · exact .inl hk
    · exact .inr (.inr hk)
  have hent : x'.entry = { key := .int .i64 x.d.b, val := .pointer (some ⟨x.t, 0, none⟩), born := x.born } := by
    unfold Row.entry; rw [hb, ht, hbo]
  refine ⟨?_, ?_, ?_, h.ne, ?_, ?_, ?_, ?_, ?_, ?_, ?_, ?_⟩
  · exact hc.obj h.head (fun hk => (h.pr x hx).1 (hnot _ hk))
  · have hl2 := hc.obj h.log (fun hk => (h.pr x hx).2 (hnot _ hk))
    have e : (S.put x').rows.map Row.entry = S.rows.map Row.entry := by
      simp only [Ses.put, List.map_map]
      apply List.map_congr_left
      intro y hy
      show (if y.d.b = x'.d.b then x' else y).entry = y.entry
      split
      · rename_i he
        have : y = x := by
          rw [hb] at he
          exact pairwise_eq h.dif hy hx he
        rw [this, hent]; rfl
      · rfl
    rw [e]; exact hl2
  · intro y hy
    rcases hmem y hy with rfl | ⟨hy', hne⟩
    · exact hl
    · have hy2 := h.rows y hy'
      have hfar : ∀ k ∈ y.blocks, ¬ (k = x.t ∨ x.nv.ownBlock = some k) := fun k hk hk2 => h.far y hy' x hx hne k hk (hnot k hk2)
      exact ⟨hc.obj hy2.tl (hfar _ (by simp [Row.blocks])), hc.owns hy2.was fun k hk => hfar k (by simp [Row.blocks, hk]), hc.owns hy2.now fun k hk => hfar k (by simp [Row.blocks, hk])⟩
  · intro y hy
    rcases hmem y hy with rfl | ⟨hy', hne⟩
    · exact ⟨fun hk => (hbx _ hk).elim (h.pr x hx).1 (fun h2 => by have : w.heap.size ≤ S.p := h2; omega), fun hk => (hbx _ hk).elim (h.pr x hx).2 (fun h2 => by have : w.heap.size ≤ S.r := h2; omega)⟩
    · exact h.pr y hy'
  · intro y hy
    rcases hmem y hy with rfl | ⟨hy', hne⟩
    · have ho := h.own x hx
      have hxt := hlt x hx
      simp only [Row.blocks] at ho hxt ⊢
      rw [ht, hwv]
      cases hq : y.nv.ownBlock with
      | none =>
        simp only [Option.toList_none, List.append_nil]
        exact ho.sublist (List.cons_sublist_cons.2 (List.sublist_append_left _ _))
      | some q =>
        rcases hnew q hq with h1 | h1
        · rw [h1] at ho; exact ho
        · have ho2 : (x.t :: x.wv.ownBlock.toList).Nodup := ho.sublist (List.cons_sublist_cons.2 (List.sublist_append_left _ _))
          rw [show x.t :: (x.wv.ownBlock.toList ++ (some q).toList) = (x.t :: x.wv.ownBlock.toList) ++ [q] from rfl, List.nodup_append]
          refine ⟨ho2, by simp, fun a ha b hb2 => ?_⟩
          have : b = q := by simpa using hb2
          subst this
          have ha2 : a < w.heap.size := hxt a (by
            rcases List.mem_cons.1 ha with h | h
            · exact List.mem_cons.2 (.inl h)
            · exact List.mem_cons.2 (.inr (List.mem_append.2 (.inl h))))
          omega
    · exact h.own y hy'
  · intro y hy z hz hne k hk hk2
    rcases hmem y hy with rfl | ⟨hy', hy2⟩ <;> rcases hmem z hz with rfl | ⟨hz', hz2⟩
    · exact hne rfl
    · rcases hbx k hk with h1 | h1
      · exact h.far x hx z hz' (fun e => hz2 e.symm) k h1 hk2
      · have := hlt z hz' k hk2; omega
    · rcases hbx k hk2 with h1 | h1
      · exact h.far y hy' x hx hy2 k hk h1
      · have := hlt y hy' k hk; omega
    · exact h.far y hy' z hz' hne k hk hk2
  · intro k hk
    simp only [Ses.blocks, List.mem_cons] at hk
    rcases hk with rfl | rfl | hk
    · exact h.old _ (by simp [Ses.blocks, Ses.put])
    · exact h.old _ (by simp [Ses.blocks, Ses.put])
    · obtain ⟨y, hy, hk'⟩ := List.mem_flatMap.1 hk
      rcases hmem y hy with rfl | ⟨hy', hne⟩
      · rcases hbx k hk' with h1 | h1
        · exact h.old k (by simp only [Ses.blocks, List.mem_cons]; exact .inr (.inr (List.mem_flatMap.2 ⟨x, hx, h1⟩)))
        · omega
      · exact h.old k (by simp only [Ses.blocks, List.mem_cons]; exact .inr (.inr (List.mem_flatMap.2 ⟨y, hy', hk'⟩)))
  · have : ∀ (f : Row → Row), (∀ y, (f y).d.b = y.d.b) → ∀ l : List Row, l.Pairwise (fun a b => a.d.b ≠ b.d.b) → (l.map f).Pairwise (fun a b => a.d.b ≠ b.d.b) := by
      intro f hf l hl
      exact List.pairwise_map.2 (hl.imp (fun {a b} hab => by rw [hf, hf]; exact hab))
    exact this _ (fun y => by split <;> simp_all) _ h.dif
  · intro y hy
    rcases hmem y hy with rfl | ⟨hy', hne⟩
    · exact hf
    · exact h.fine y hy'
  · simpa [Ses.put] using h.few
  · refine ⟨fun y hy => ?_, ?_⟩
    · rcases hmem y hy with rfl | ⟨hy', hne⟩
      · rw [hbo]; exact h.born.1 x hx
      · exact h.born.1 y hy'
    · have e : (S.put x').rows.map (·.born) = S.rows.map (·.born) := by
        simp only [Ses.put, List.map_map]
        apply List.map_congr_left
        intro y hy
        show (if y.d.b = x'.d.b then x' else y).born = y.born
        split
        · rename_i he
          have : y = x := by
            rw [hb] at he
            exact pairwise_eq h.dif hy hx he
          rw [this, hbo]
        · rfl
      rw [e]; exact h.born.2
end Go.Proofs.Ytpdchdbkfflgfaa
