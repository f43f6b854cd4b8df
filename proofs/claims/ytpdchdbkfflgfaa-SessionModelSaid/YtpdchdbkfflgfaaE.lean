/- Has, and at. -/
import Derived.Test.YtpdchdbkfflgfaaD
namespace Go.Proofs.Ytpdchdbkfflgfaa
open Go.RowKit

theorem cell_row {w : World} {g : Nat} {cs : Array Value} {t : TypeId} {fr : Nat × Nat} (h : w.heap[g]? = some (.cells cs t fr)) {i : Nat} {v : Value} (hv : cs[i]? = some v) : w.cell? ⟨g, i, none⟩ = some v := by
  simp [World.cell?, h, hv]
theorem free_row {w : World} {g : Nat} {cs : Array Value} {t : TypeId} (h : w.heap[g]? = some (.cells cs t (0, 0))) (i : Nat) : w.frozen? ⟨g, i, none⟩ = false := by
  simp [World.frozen?, h]
def Ses.find (S : Ses) (b : Int) : Option Row := S.rows.find? fun x => x.d.b == b
def Ses.has (S : Ses) (b : Int) : Bool := (S.find b).isSome
theorem look_of {S : Ses} {b : Int} {x : Row} (h : S.find b = some x) : lookV S.rows b = .pointer (some ⟨x.t, 0, none⟩) := by
  unfold Ses.find at h; simp [lookV, h]
theorem look_no {S : Ses} {b : Int} (h : S.find b = none) : lookV S.rows b = .pointer none := by
  unfold Ses.find at h; simp [lookV, h]
theorem find_mem {S : Ses} {b : Int} {x : Row} (h : S.find b = some x) : x ∈ S.rows ∧ x.d.b = b := by
  unfold Ses.find at h
  exact ⟨List.mem_of_find?_eq_some h, by simpa using List.find?_some h⟩

theorem Ses.Lies.c5 {B : Nat} {S : Ses} {w : World} (h : S.Lies B w) : w.cell? ⟨S.p, 5, none⟩ = some (.map (some S.r)) := cell_row h.head rfl
theorem Ses.Lies.c6 {B : Nat} {S : Ses} {w : World} (h : S.Lies B w) : w.cell? ⟨S.p, 6, none⟩ = some (.bool S.com) := cell_row h.head rfl
theorem has_any {B : Nat} {S : Ses} (b : Int) (w : World) (h : S.Lies B w) :
    Calls Try.prog 10 #[.pointer (some ⟨S.p, 0, none⟩), .int .i64 b] w fun e w' => e = .returned (.bool (S.has b)) ∧ w = w' := by
  have c5 := h.c5
  have hl := run_look S.rows b S.r S.clock w h.log
  cases hf : S.find b with
  | none =>
    rw [look_no hf] at hl
    have HF := Lib.hid hf
    clear hf
    go_enter Try.func10, Try.ntmps10
    go_wp2
    go_ret
    exact ⟨ret_one (bool_eq (by simp [Ses.has, HF.out])), rfl⟩
  | some x =>
    rw [look_of hf] at hl
    have HF := Lib.hid hf
    clear hf
    go_enter Try.func10, Try.ntmps10
    go_wp2
    go_ret
    exact ⟨ret_one (bool_eq (by simp [Ses.has, HF.out])), rfl⟩
theorem Ses.Lies.chg {B : Nat} {S : Ses} {w w' : World} {F : Nat → Prop} (h : S.Lies B w) (hc : Chg F w w') (hF : ∀ k ∈ S.blocks, ¬ F k) : S.Lies B w' := by
  have hb : ∀ x ∈ S.rows, ∀ k ∈ x.blocks, ¬ F k := fun x hx k hk => hF k (by
    unfold Ses.blocks; exact List.mem_cons_of_mem _ (List.mem_cons_of_mem _ (List.mem_flatMap.2 ⟨x, hx, hk⟩)))
  refine ⟨hc.obj h.head (hF _ (by simp [Ses.blocks])), hc.obj h.log (hF _ (by simp [Ses.blocks])), fun x hx => ?_, h.ne, h.pr, h.own, h.far, h.old, h.dif, h.fine, h.few, h.born⟩
  have hx' := h.rows x hx
  refine ⟨hc.obj hx'.tl (hb x hx _ (by simp [Row.blocks])), hc.owns hx'.was fun k hk => hb x hx k (by simp [Row.blocks, hk]), hc.owns hx'.now fun k hk => hb x hx k (by simp [Row.blocks, hk])⟩
theorem Ses.Lies.same {B : Nat} {S : Ses} {w w' : World} (h : S.Lies B w) (hc : Chg (fun _ => False) w w') : S.Lies B w' := h.chg hc fun _ _ h => h

theorem Ses.Lies.look {B : Nat} {S : Ses} {w : World} (h : S.Lies B w) {b : Int} {x : Row} (hf : S.find b = some x) :
    (Instr.lookup 75 (.map (some S.r)) (.int .i64 b) false).run Try.prog w = .ok (.pointer (some ⟨x.t, 0, none⟩)) w := by
  have hl := run_look S.rows b S.r S.clock w h.log
  rw [look_of hf] at hl
  exact hl
theorem Ses.Lies.nowCell {B : Nat} {S : Ses} {w : World} (h : S.Lies B w) {b : Int} {x : Row} (hf : S.find b = some x) : w.cell? ⟨x.t, 9, none⟩ = some x.nv :=
  cell_row (h.rows x (find_mem hf).1).tl rfl
theorem reads_of_owns {B : Nat} {w : World} {v : Value} {l : List Ent} (h : w.ownsRow B 65 2 v l.length (flat l)) : Reads w v l := by
  rcases h.2 with ⟨rfl, h0⟩ | ⟨g, cap, cur, rfl, hb, hg, h1, h2, h3, h4⟩
  · exact ⟨none, 0, by rw [h0], by omega, by unfold maxLen; omega, .inl (List.eq_nil_of_length_eq_zero h0)⟩
  · refine ⟨_, cap, rfl, h1, h2, .inr ⟨g, 0, rfl, fun i hi => ?_⟩⟩
    have hk : ∀ (j : Nat) (v : Value), (flat l)[j]? = some v → cur[j]? = some v := by
      intro j v hv
      rw [← h4, List.getElem?_take] at hv
      split at hv
      · simpa using hv
      · cases hv
    exact ⟨cell_row hg (hk _ _ (by rw [Nat.zero_add, Nat.mul_comm]; exact flat_key l i hi)), cell_row hg (hk _ _ (by rw [Nat.zero_add, Nat.mul_comm]; exact flat_val l i hi))⟩
def atE (S : Ses) (k v : ByteArray) : Int :=
  if S.com then 201 else if !mayK k then 11 else if !mayV v then 12 else if S.has (kb k) then 0 else 202

set_option maxRecDepth 100000 in
theorem at_nil (k v : ByteArray) (w : World) :
    Calls Try.prog 29 #[.pointer none, .string k, .string v] w fun e w' => e = .returned (.tuple #[.pointer none, .int .i64 0, .bool false, .int .i64 1]) ∧ Chg (fun _ => False) w w' := by
  go_enter Try.func29, Try.ntmps29
  go_wp2_with fail
  refine (open_nil _).mono ?_
  rintro e w1 ⟨rfl, rfl⟩
  go_wp2
  exact bodyPost_ret (v := .tuple #[.pointer none, .int .i64 0, .bool false, .int .i64 1]) (by simp [results, Try.results29, go_sem]) rfl ⟨rfl, .refl _ _⟩

set_option maxRecDepth 100000 in
set_option maxHeartbeats 1000000 in
theorem at_err {B : Nat} {S : Ses} (k v : ByteArray) (w : World) (h : S.Lies B w) (hk : k.size ≤ maxLen) (he : atE S k v ≠ 0) :
    Calls Try.prog 29 #[.pointer (some ⟨S.p, 0, none⟩), .string k, .string v] w fun e w' => e = .returned (.tuple #[.pointer none, .int .i64 0, .bool false, .int .i64 (atE S k v)]) ∧ Chg (fun _ => False) w w' := by
  have c6 := h.c6
  have HH := Lib.hid h
  clear h
  by_cases hc : S.com = true
  · have HE : Hid (atE S k v = 201) := by show atE S k v = 201; simp [atE, hc]
    clear he
    go_enter Try.func29, Try.ntmps29
    go_wp2_with fail
    refine (open_some _ _ _ c6).mono ?_
    rintro e w1 ⟨rfl, rfl⟩
    simp only [hc, if_true]
    clear c6 hc
    go_wp2
    exact bodyPost_ret (v := .tuple #[.pointer none, .int .i64 0, .bool false, .int .i64 201]) (by simp [results, Try.results29, go_sem]) rfl ⟨by rw [HE.out], .refl _ _⟩
  have hc' : S.com = false := by simpa using hc
  clear hc
  cases hK : mayK k with
  | false =>
    have HE : Hid (atE S k v = 11) := by show atE S k v = 11; simp [atE, hc', hK]
    clear he
    go_enter Try.func29, Try.ntmps29
    go_wp2_with fail
    refine (open_some _ _ _ c6).mono ?_
    rintro e w1 ⟨rfl, rfl⟩
    simp only [hc']
    clear c6 hc'
    go_wp2_with (go_at_call 37; refine (mayKey_any _ _).mono ?_; rintro e w1 ⟨rfl, rfl⟩)
    exact bodyPost_ret (v := .tuple #[.pointer none, .int .i64 0, .bool false, .int .i64 11]) (by simp [results, Try.results29, go_sem]) rfl ⟨by rw [HE.out], .refl _ _⟩
  | true =>
    cases hV : mayV v with
    | false =>
      have HE : Hid (atE S k v = 12) := by show atE S k v = 12; simp [atE, hc', hK, hV]
      clear he
      go_enter Try.func29, Try.ntmps29
      go_wp2_with fail
      refine (open_some _ _ _ c6).mono ?_
      rintro e w1 ⟨rfl, rfl⟩
      simp only [hc']
      clear c6 hc'
      go_wp2_with (first | (go_at_call 37; refine (mayKey_any _ _).mono ?_; rintro e w1 ⟨rfl, rfl⟩) | (go_at_call 41; refine (mayValue_any _ _).mono ?_; rintro e w1 ⟨rfl, rfl⟩))
      exact bodyPost_ret (v := .tuple #[.pointer none, .int .i64 0, .bool false, .int .i64 12]) (by simp [results, Try.results29, go_sem]) rfl ⟨by rw [HE.out], .refl _ _⟩
    | true =>
      have hh : S.has (kb k) = false := by
        cases hb : S.has (kb k) with
        | false => rfl
        | true => simp [atE, hc', hK, hV, hb] at he
      have HE : Hid (atE S k v = 202) := by show atE S k v = 202; simp [atE, hc', hK, hV, hh]
      clear he
      go_enter Try.func29, Try.ntmps29
      go_wp2_with fail
      refine (open_some _ _ _ c6).mono ?_
      rintro e w1 ⟨rfl, rfl⟩
      simp only [hc']
      clear c6 hc'
      go_wp2_with (first | (go_at_call 37; refine (mayKey_any _ _).mono ?_; rintro e w1 ⟨rfl, rfl⟩) | (go_at_call 41; refine (mayValue_any _ _).mono ?_; rintro e w1 ⟨rfl, rfl⟩) | (go_at_call 42; refine (keyBucket_any _ _ hk).mono ?_; rintro e w1 ⟨rfl, hc1⟩; have H1 := Lib.hid (HH.out.same hc1)) | (go_at_call 10; refine (has_any _ _ H1.out).mono ?_; rintro e w2 ⟨rfl, rfl⟩))
      exact bodyPost_ret (v := .tuple #[.pointer none, .int .i64 0, .bool false, .int .i64 202]) (by simp [results, Try.results29, go_sem]) rfl ⟨by rw [HE.out], hc1⟩

set_option maxRecDepth 100000 in
set_option maxHeartbeats 1000000 in
theorem at_ok {B : Nat} {S : Ses} (k v : ByteArray) (w : World) (x : Row) (h : S.Lies B w) (hk : k.size ≤ maxLen) (he : atE S k v = 0) (hx : S.find (kb k) = some x) :
    Calls Try.prog 29 #[.pointer (some ⟨S.p, 0, none⟩), .string k, .string v] w fun e w' => e = .returned (.tuple #[.pointer (some ⟨x.t, 0, none⟩), .int .i64 (posOf x.d.now k), .bool (isAt x.d.now k), .int .i64 0]) ∧ Chg (fun _ => False) w w' := by
  have c6 := h.c6
  have HH := Lib.hid h
  have HX := Lib.hid hx
  have hc' : S.com = false := by
    cases hb : S.com with
    | false => rfl
    | true => simp [atE, hb] at he
  have hK : mayK k = true := by
    cases hb : mayK k with
    | true => rfl
    | false => simp [atE, hc', hb] at he
  have hV : mayV v = true := by
    cases hb : mayV v with
    | true => rfl
    | false => simp [atE, hc', hK, hb] at he
  have hh : S.has (kb k) = true := by simp [Ses.has, hx]
  clear he h hx
  go_enter Try.func29, Try.ntmps29
  go_wp2_with fail
  refine (open_some _ _ _ c6).mono ?_
  rintro e w1 ⟨rfl, rfl⟩
  simp only [hc']
  clear c6 hc'
  go_wp2_with (first | (go_at_call 37; refine (mayKey_any _ _).mono ?_; rintro e w1 ⟨rfl, rfl⟩) | (go_at_call 41; refine (mayValue_any _ _).mono ?_; rintro e w1 ⟨rfl, rfl⟩) | (go_at_call 42; refine (keyBucket_any _ _ hk).mono ?_; rintro e w1 ⟨rfl, hc1⟩; have H1 := Lib.hid (HH.out.same hc1)) | (go_at_call 10; refine (has_any _ _ H1.out).mono ?_; rintro e w2 ⟨rfl, rfl⟩))
  have c5 := H1.out.c5
  go_region_held3 (fun w' => w'.cell? ⟨S.p, 5, none⟩ = some (.map (some S.r))) (first | exact c5 | exact hc2.cell c5 (fun h => h))
    ((go_at_call 42; refine (keyBucket_any _ _ hk).mono ?_; rintro e w2 ⟨rfl, hc2⟩; have hl := (H1.out.same hc2.of_drew).look HX.out; have ct := (H1.out.same hc2.of_drew).nowCell HX.out; have H2 := Lib.hid (H1.out.same hc2.of_drew)))
  clear hl
  go_wp2_with fail
  have H2x := H2.out.rows x (find_mem HX.out).1
  have HF := H2.out.fine x (find_mem HX.out).1
  refine (search_any _ _ _ _ (reads_of_owns H2x.now) HF.now.1 HF.now.2.1).mono ?_
  rintro e w3 ⟨rfl, hc3⟩
  clear HF H2x
  go_wp2
  exact bodyPost_ret (v := .tuple #[.pointer (some ⟨x.t, 0, none⟩), .int .i64 (posOf x.d.now k), .bool (isAt x.d.now k), .int .i64 0]) (by simp [results, Try.results29, go_sem]) rfl ⟨rfl, (hc1.trans hc2.of_drew (fun _ h => h.elim)).trans hc3 (fun _ h => h.elim)⟩
end Go.Proofs.Ytpdchdbkfflgfaa
