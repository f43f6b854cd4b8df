/- Commit: what is told. -/
import Derived.Test.YtpdchdbkfflgfaaT1
namespace Go.Proofs.Ytpdchdbkfflgfaa
open Go.RowKit

set_option maxRecDepth 100000 in
set_option maxHeartbeats 2000000 in
theorem commit_ok {B : Nat} {S : Ses} (w : World) (h : S.Lies B w) (hcm : S.com = false) (hne : S.rows ≠ []) :
    Calls Try.prog 14 #[.pointer (some ⟨S.p, 0, none⟩)] w fun e w' => CommitP B S w e w' := by
  have hh : Ses.Lies B (w.alloc (.cells #[.int .u64 0, .int .i64 0, .int .i64 0, .int .i64 0, .int .i64 0, .slice none 0 0] 45)) S := h.same ((Chg.refl _ w).alloc _)
  have HH := Lib.hid h
  have HC := Lib.hid hcm
  have hn0 : 0 < S.rows.length := List.length_pos_iff.2 hne
  have HN0 := Lib.hid hn0
  clear hn0
  have c6 := hh.c6
  have c5 := hh.c5
  have hn := fun ty => len_map (P := Try.prog) Try.underlying75 hh.log ty
  have hsz : (((S.rows.map Row.entry).toArray.size : Nat) : Int) = (S.rows.length : Int) := by simp
  rw [hsz] at hn
  have hl0 : ((S.rows.length : Int) == 0) = false := by cases hr : S.rows with
    | nil => exact absurd hr hne
    | cons x l => simp; omega
  have HL := Lib.hid hh
  clear h hcm hh hsz
  go_enter Try.func14, Try.ntmps14
  go_wp2_with fail
  refine (open_some _ _ _ c6).mono ?_
  rintro e w1 ⟨rfl, rfl⟩
  rw [HC.out]
  have ff := free_row HL.out.head 6
  go_wp2_with fail
  clear c6
  obtain ⟨wA, hW⟩ : ∃ W : World, W = (w.alloc (.cells #[.int .u64 0, .int .i64 0, .int .i64 0, .int .i64 0, .int .i64 0, .slice none 0 0] 45)).setCell ⟨S.p, 6, none⟩ (.bool true) := ⟨_, rfl⟩
  rw [← hW]
  have h1 := HL.out.close
  rw [← hW] at h1
  have hcA : Chg (fun q => q = S.p) w wA := by rw [hW]; exact ((Chg.refl (fun q => q = S.p) w).alloc _).setCell (.inl rfl) _
  have hob : wA.heap[w.heap.size]? = some (.cells #[.int .u64 0, .int .i64 0, .int .i64 0, .int .i64 0, .int .i64 0, .slice none 0 0] 45) := by
    rw [hW]
    have hp := lt_of_block HH.out.head
    exact (Below.heap_setCell _ _ _ _ (fun e => by have e : w.heap.size = S.p := e; omega)).trans (heap_alloc_new w _)
  have hsA : wA.heap.size = w.heap.size + 1 := by rw [hW]; simp [World.setCell]
  have H1 := Lib.hid h1
  have CA := Lib.hid hcA
  have OB := Lib.hid hob
  have SA := Lib.hid hsA
  have b0 : wA.cell? ⟨S.p, 0, none⟩ = some (.int .u64 S.id) := cell_row h1.head rfl
  have b1 : wA.cell? ⟨S.p, 1, none⟩ = some (.int .i64 S.client) := cell_row h1.head rfl
  have b2 : wA.cell? ⟨S.p, 2, none⟩ = some (.int .i64 S.m0) := cell_row h1.head rfl
  have b3 : wA.cell? ⟨S.p, 3, none⟩ = some (.int .i64 S.m1) := cell_row h1.head rfl
  have b4 : wA.cell? ⟨S.p, 4, none⟩ = some (.int .i64 S.m2) := cell_row h1.head rfl
  have d0 := World.new_ne wA _ b0
  have d1 := World.new_ne wA _ b1
  have d2 := World.new_ne wA _ b2
  have d3 := World.new_ne wA _ b3
  have d4 := World.new_ne wA _ b4
  clear hW h1 hcA hob hsA ff c5 hn hl0
  go_region_held3 (fun w' => w'.cell? ⟨S.p, 0, none⟩ = some (.int .u64 S.id) ∧ w'.cell? ⟨S.p, 1, none⟩ = some (.int .i64 S.client) ∧ w'.cell? ⟨S.p, 2, none⟩ = some (.int .i64 S.m0) ∧ w'.cell? ⟨S.p, 3, none⟩ = some (.int .i64 S.m1) ∧ w'.cell? ⟨S.p, 4, none⟩ = some (.int .i64 S.m2))
    (go_keep) (fail)
  obtain ⟨W, hW⟩ : ∃ W : World, W = (wA.alloc (.cells #[.int .u64 S.id, .int .i64 S.client, .int .i64 S.m0, .int .i64 S.m1, .int .i64 S.m2, .slice none 0 0] 45)).drew := ⟨_, rfl⟩
  rw [← hW]
  have hcW : Chg (fun _ => False) wA W := by rw [hW]; exact ((Chg.refl _ wA).alloc _).drew
  have htx : W.heap[wA.heap.size]? = some (.cells #[.int .u64 S.id, .int .i64 S.client, .int .i64 S.m0, .int .i64 S.m1, .int .i64 S.m2, .slice none 0 0] 45) := by rw [hW]; exact heap_alloc_new wA _
  have HW := Lib.hid (H1.out.same hcW)
  have CW := Lib.hid hcW
  have TX := Lib.hid htx
  have c5 : W.cell? ⟨S.p, 5, none⟩ = some (.map (some S.r)) := HW.out.c5
  clear hW hcW htx b0 b1 b2 b3 b4 d0 d1 d2 d3 d4
  go_wp2_with (first
    | (go_at_call 33; refine (keys_any _ _).mono ?_; rintro e w3 ⟨rfl, rfl⟩)
    | (go_at_call 32; refine (sorted_any _ HW.out).mono ?_; rintro e w3 ⟨v3, rfl, ho3, hc3⟩; have ho4 : w3.ownsRow (W.heap.size + 1) 3 1 v3 S.rows.length ((sortInts (S.rows.map (·.d.b))).map encZ) := ho3; clear ho3; obtain ⟨gs, rfl, hgl, hgc⟩ := ints_row ho4 HN0.out (by simp [sortInts_len]); have GL := Lib.hid hgl; have GC := Lib.hid hgc; have C3 := Lib.hid hc3; clear ho4 hgl hgc hc3))
  have hbs : (sortInts (S.rows.map (·.d.b))).length = S.rows.length := by rw [sortInts_len]; simp
  have hbe : ∀ b ∈ sortInts (S.rows.map (·.d.b)), ∃ x, S.find b = some x := by
    intro b hb
    rw [sortInts_mem] at hb
    obtain ⟨x, hx, rfl⟩ := List.mem_map.1 hb
    have : (S.find x.d.b).isSome = true := by
      unfold Ses.find
      rw [List.find?_isSome]
      exact ⟨x, hx, by simp⟩
    exact Option.isSome_iff_exists.1 this
  obtain ⟨bs, hbsd⟩ : ∃ bs, bs = sortInts (S.rows.map (·.d.b)) := ⟨_, rfl⟩
  rw [← hbsd] at hbs hbe
  have GC2 : Hid (∀ k (hk : k < bs.length), w3.cell? ⟨gs.1, k, none⟩ = some (.int .i64 bs[k])) := by rw [hbsd]; exact GC.out
  have HBD := Lib.hid hbsd
  have HBS := Lib.hid hbs
  have HBE := Lib.hid hbe
  have hlw : S.close.Lies B w3 := HW.out.same C3.out
  have HL3 := Lib.hid hlw
  have hbtl : wA.heap.size < W.heap.size := lt_of_block TX.out
  have hbtn : ∀ q ∈ S.blocks, q ≠ wA.heap.size := fun q hq e => by have h1 : S.close.blocks = S.blocks := rfl; have h2 := H1.out.all_lt q (by rw [h1]; exact hq); omega
  have HBL := Lib.hid hbtl
  have HBN := Lib.hid hbtn
  clear hbs hbe c5 hbsd GC hlw hbtl hbtn
  go_loopw [50] (fun i wr => ∃ k : Nat, i = .int .i64 k ∧ k ≤ S.rows.length ∧ Hid (CInv S w3.heap.size wA.heap.size bs w3 wr k)) (fun i _ => S.rows.length - (intOf i).toNat)
  case atStart => exact ⟨0, rfl, by omega, [], .slice none 0 0, rfl, by simp, by simp, World.ownsRow_nil _ _ _ _, C3.out.obj TX.out (fun h => h), .refl _ _⟩
  case round =>
    obtain ⟨k, rfl, hk, HI⟩ := hrel
    by_cases hlt : k < S.rows.length
    · obtain ⟨cs, itv, hcl, hcb, hco, hown, htx, hch⟩ := HI.out
      have hkb : k < bs.length := by rw [HBS.out]; exact hlt
      obtain ⟨x, hx⟩ := HBE.out bs[k] (List.getElem_mem hkb)
      have hxm := find_mem hx
      have hlr : S.close.Lies B wr := HL3.out.chg hch (fun q hq => HBN.out q hq)
      have g0 := hch.cell (GC2.out k hkb) (fun e => by have e : gs.1 = wA.heap.size := e; have := GL.out; have := HBL.out; omega)
      have c5 : wr.cell? ⟨S.p, 5, none⟩ = some (.map (some S.r)) := hlr.c5
      have hl : (Instr.lookup 75 (.map (some S.r)) (.int .i64 bs[k]) false).run Try.prog wr = .ok (.pointer (some ⟨x.t, 0, none⟩)) wr := hlr.look (b := bs[k]) (x := x) hx
      have hrl := hlr.rows x hxm.1
      obtain ⟨⟨r0, r1, r2, r3⟩, ⟨r4, r5, r6, r7⟩, r8, r9⟩ := row_cells hrl.tl
      have CO := Lib.hid hco
      have CB := Lib.hid hcb
      have CL := Lib.hid hcl
      have OW := Lib.hid hown
      have TX2 := Lib.hid htx
      have CH := Lib.hid hch
      have LR := Lib.hid hlr
      have HX := Lib.hid hxm
      have RL := Lib.hid hrl
      clear hco hcb hcl hown htx hch hlr hxm hx hrl HI
      go_wp2_with fail
      have wo := (Chg.refl (fun _ => False) wr).alloc (.cells #[.int .i64 x.d.b, .int .u32 x.d.ver, .bool false, .slice none 0 0, .int .u32 x.d.i0, .int .u32 x.d.i1, .int .u32 x.d.i2, .int .u32 x.d.i3] 36)
      have k0 := And.intro (wo.cell r8 (fun h => h)) (wo.cell r9 (fun h => h))
      have rw1 := wo.drew.reads (reads_of_owns RL.out.was) (fun _ _ h => h)
      have rw2 := wo.drew.reads (reads_of_owns RL.out.now) (fun _ _ h => h)
      have h8 := (LR.out.fine x HX.out.1).was.2.1
      have it0 := heap_alloc_new wr (.cells #[.int .i64 x.d.b, .int .u32 x.d.ver, .bool false, .slice none 0 0, .int .u32 x.d.i0, .int .u32 x.d.i1, .int .u32 x.d.i2, .int .u32 x.d.i3] 36)
      have WO := Lib.hid wo
      have IT := Lib.hid it0
      clear g0 c5 hl r0 r1 r2 r3 r4 r5 r6 r7 r8 r9 wo it0
      go_region_held3 (fun w' => w'.cell? ⟨x.t, 8, none⟩ = some x.wv ∧ w'.cell? ⟨x.t, 9, none⟩ = some x.nv)
        (first | exact k1 | exact k0) ((go_at_call 34; refine (equal_any _ _ _ _ _ rw1 rw2 h8).mono ?_; rintro e w4 ⟨⟨r, rfl, hr⟩, hc4⟩; have k1 := And.intro (hc4.cell k0.1 (fun h => h)) (hc4.cell k0.2 (fun h => h))))
      obtain ⟨i0, hi, hz0, hz1, hz2⟩ := info_parts info36
      obtain ⟨ia, ic, rfl⟩ := own_form OW.out
      have c4 : Chg (fun _ => False) wr w4 := WO.out.drew.trans hc4 (fun _ h => h.elim)
      have C4 := Lib.hid c4
      have KK := Lib.hid hkb
      have HRR := Lib.hid hr
      have hfew : S.rows.length ≤ 8 := LR.out.few
      have h63 : k + 1 ≤ maxLen := by unfold maxLen; omega
      have h56 : (k + 1) * 56 ≤ 140737488355328 := by omega
      have it4 := hc4.obj (show (wr.alloc (.cells #[.int .i64 x.d.b, .int .u32 x.d.ver, .bool false, .slice none 0 0, .int .u32 x.d.i0, .int .u32 x.d.i1, .int .u32 x.d.i2, .int .u32 x.d.i3] 36)).drew.heap[wr.heap.size]? = _ from IT.out) (fun h => h)
      have tx4 := c4.obj TX2.out (fun h => h)
      have I4 := Lib.hid it4
      have X4 := Lib.hid tx4
      have hxd : x.d ∈ S.rows.map (·.d) := List.mem_map_of_mem HX.out.1
      have XD := Lib.hid hxd
      have rd4 := hc4.reads rw2 (fun _ _ h => h)
      have k9 := k1.2
      clear k0 rw1 rw2 hr c4 it4 tx4 hc4 hxd k1 hfew
      cases r with
      | true =>
        obtain ⟨e0, e1, e2, e3, e4, e5, e6, e7⟩ := item_cells I4.out
        have e8 := (tx_cells X4.out).2.2.2.2.2
        clear k9 rd4
        have hba : w3.heap.size ≤ (w4.alloc (Obj.cells #[] 36)).heap.size := by have := CH.out.size; have := C4.out.size; simp; omega
        go_wp2_with ((at_builtin; refine wpList_append_own _ rfl _ _ 31 rfl w3.heap.size 36 i0 zItem 8 56 Try.underlying31 hi hz0 hz1 hz2 rfl (by decide) _ _ _ rfl (((Chg.refl (fun _ => False) w4).alloc _).owns (C4.out.owns OW.out (fun _ _ h => h)) (fun _ _ h => h)) ⟨w4.heap.size, 0, none⟩ 1 1 (CItem.cells ⟨x.d, false, .slice none 0 0⟩) rfl rfl (news_alloc w4 _ 36) (by simp [CItem.cells, Value.oneCell']) h63 h56 (by simpa using hba) ?_; intro v5 w5 hown5 hgrow5 _; obtain ⟨va, vc, rfl⟩ := own_form hown5; have O5 := Lib.hid hown5; have G5 := Lib.hid hgrow5; have ox := (Chg.of_grown hgrow5 (F := fun q => Value.ownBlock (.slice ia k ic) = some q) (fun q h => h)).obj ((((Chg.refl (fun _ => False) w4).alloc _)).obj X4.out (fun h => h)) (own_tx OW.out TX2.out (by decide)); have e9 := (tx_cells ox).2.2.2.2.2; have f9 := free_row ox 5; clear hown5 hgrow5))
        go_roundw
        case rel =>
          refine ⟨k + 1, rfl, by omega, ?_⟩
          have hrr := HRR.out.1 rfl
          exact cinv_step CL.out CB.out CO.out OW.out TX2.out CH.out KK.out C4.out XD.out HX.out.2 ⟨fun _ => rfl, ⟨fun h => (by cases h), fun h => absurd hrr h⟩, fun h => (by cases h)⟩ O5.out G5.out
        case measure => simp [intOf]; omega
      | false =>
        have h8n := (LR.out.fine x HX.out.1).now.2.1
        have hbw : wA.heap.size < wr.heap.size := lt_of_block TX2.out
        have HBW := Lib.hid hbw
        clear hbw
        go_wp2_with (first
          | (go_at_call 28; refine (clone_any _ _ _ rd4 h8n).mono ?_; rintro e wB ⟨vB, rfl, hoB, hcB⟩; obtain ⟨aB, cB, rfl⟩ := own_form hoB; obtain ⟨hw1, hw2, hw3⟩ := item_wrote C4.out hcB I4.out X4.out HBW.out hoB CH.out.size; have W1 := Lib.hid hw1; have W2 := Lib.hid hw2; have W3 := Lib.hid hw3; have iB := hcB.obj I4.out (fun h => h); have fB := free_row iB; obtain ⟨e0, e1, e2, e3, e4, e5, e6, e7⟩ := item_cells iB; have e8 := (tx_cells (hcB.obj X4.out (fun h => h))).2.2.2.2.2; have hbtw : wr.heap.size ≠ wA.heap.size := (fun e => by have := HBW.out; omega); have NW := Lib.hid (news_wrote wB wr.heap.size (.bool true) (.slice aB x.d.now.length cB) (CItem.cells ⟨x.d, true, .slice aB x.d.now.length cB⟩) 36 w3.heap.size (Nat.le_trans CH.out.size (Nat.le_trans C4.out.size hcB.size))); clear hw1 hw2 hw3 hoB hcB k9 rd4)
          | (at_builtin; refine wpList_append_own _ rfl _ _ 31 rfl w3.heap.size 36 i0 zItem 8 56 Try.underlying31 hi hz0 hz1 hz2 rfl (by decide) _ _ _ rfl (((Chg.refl (fun _ => False) _).alloc _).owns (W1.out.owns OW.out (fun _ _ h => h)) (fun _ _ h => h)) ⟨wB.heap.size, 0, none⟩ 1 1 (CItem.cells ⟨x.d, true, .slice aB x.d.now.length cB⟩) rfl rfl NW.out.1 (by simp [CItem.cells, Value.oneCell']) h63 h56 NW.out.2 ?_; intro v5 w5 hown5 hgrow5 _; obtain ⟨va, vc, rfl⟩ := own_form hown5; have O5 := Lib.hid hown5; have G5 := Lib.hid hgrow5; have ox := (Chg.of_grown hgrow5 (F := fun q => Value.ownBlock (.slice ia k ic) = some q) (fun q h => h)).obj ((((Chg.refl (fun _ => False) _).alloc _)).obj W2.out (fun h => h)) (own_tx OW.out TX2.out (by decide)); have e9 := (tx_cells ox).2.2.2.2.2; have f9 := free_row ox 5; clear hown5 hgrow5))
        go_roundw
        case rel =>
          refine ⟨k + 1, rfl, by omega, ?_⟩
          have hrr : ¬ x.d.was = x.d.now := fun h => by have := HRR.out.2 h; cases this
          exact cinv_step CL.out CB.out CO.out OW.out TX2.out CH.out KK.out W1.out XD.out HX.out.2 ⟨fun h => (by cases h), ⟨fun _ => hrr, fun _ => rfl⟩, fun _ => W3.out⟩ O5.out G5.out
        case measure => simp [intOf]; omega
    · obtain ⟨cs, itv, hcl, hcb, hco, hown, htx, hch⟩ := HI.out
      have hke : k = S.rows.length := by omega
      have KE := Lib.hid hke
      clear HI
      obtain ⟨t0, t1, t2, t3, t4, t5⟩ := tx_cells htx
      have obr := hch.obj (C3.out.obj (CW.out.obj OB.out (fun h => h)) (fun h => h)) (fun e => by have := SA.out; have e : w.heap.size = wA.heap.size := e; omega)
      obtain ⟨y0, y1, y2, y3, y4, y5⟩ := tx_cells obr
      have fr := free_row obr
      obtain ⟨ia, ic, rfl⟩ := own_form hown
      have CO := Lib.hid hco
      have CB := Lib.hid hcb
      have CL := Lib.hid hcl
      have OW := Lib.hid hown
      have CH := Lib.hid hch
      have OR := Lib.hid obr
      clear hco hcb hcl hown htx hch obr hke
      go_wp2
      have fin := commit_done HH.out HC.out hne CA.out SA.out CW.out C3.out HL3.out HBD.out (by rw [← KE.out]; exact CL.out) (by rw [← KE.out]; exact CB.out) CO.out (by rw [← KE.out]; exact OW.out) CH.out (.int .u64 S.id) (.int .i64 S.client) (.int .i64 S.m0) (.int .i64 S.m1) (.int .i64 S.m2) (.slice ia k ic)
      have o9 := tx_set OR.out (.int .u64 S.id) (.int .i64 S.client) (.int .i64 S.m0) (.int .i64 S.m1) (.int .i64 S.m2) (.slice ia k ic)
      obtain ⟨w9, hw9⟩ : ∃ W : World, W = ((((((wr.setCell ⟨w.heap.size, 0, none⟩ (.int .u64 S.id)).setCell ⟨w.heap.size, 1, none⟩ (.int .i64 S.client)).setCell ⟨w.heap.size, 2, none⟩ (.int .i64 S.m0)).setCell ⟨w.heap.size, 3, none⟩ (.int .i64 S.m1)).setCell ⟨w.heap.size, 4, none⟩ (.int .i64 S.m2)).setCell ⟨w.heap.size, 5, none⟩ (.slice ia k ic)) := ⟨_, rfl⟩
      rw [← hw9] at fin o9 ⊢
      clear hw9 t0 t1 t2 t3 t4 t5 y0 y1 y2 y3 y4 y5 fr
      refine bodyPost_ret (v := .tuple #[.agg #[.int .u64 S.id, .int .i64 S.client, .int .i64 S.m0, .int .i64 S.m1, .int .i64 S.m2, .slice ia k ic], .nilIface]) ?_ rfl ?_
      · exact res14 rfl rfl o9
      · exact fin
theorem commit_any {B : Nat} {S : Ses} (w : World) (h : S.Lies B w) : Calls Try.prog 14 #[.pointer (some ⟨S.p, 0, none⟩)] w fun e w' => CommitP B S w e w' := by
  by_cases hb : S.com = true ∨ S.rows = []
  · exact commit_bad w h hb
  · have hc : S.com = false := by cases hq : S.com with
      | false => rfl
      | true => exact absurd (.inl hq) hb
    exact commit_ok w h hc (fun h => hb (.inr h))
end Go.Proofs.Ytpdchdbkfflgfaa
