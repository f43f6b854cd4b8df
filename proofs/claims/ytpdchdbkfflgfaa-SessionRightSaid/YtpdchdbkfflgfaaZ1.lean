/- SessionRight: its walk. -/
import Derived.Test.YtpdchdbkfflgfaaZ0
namespace Go.Proofs.Ytpdchdbkfflgfaa
open Go.RowKit

set_option maxRecDepth 100000 in
set_option maxHeartbeats 8000000 in
theorem sessionRight_any (v : Value) (l : List OpD) (w : World) (h : Ops w v l) : Calls Try.prog 3 #[v] w fun e w' => e = .returned (.bool true) ∧ Chg (fun _ => False) w w' := by
  obtain ⟨a, c, rfl, hml, hcs⟩ := op_cells h
  have HC := Lib.hid hcs
  clear hcs h
  unfold maxLen at hml
  go_enter Try.func3, Try.ntmps3
  go_wp2_with fail
  refine (new_any 5 1 1 2 3 _ rfl (by decide) (by decide) (by decide) (by decide) (by decide) (by decide) (by decide) (by decide) (by decide) (by decide) (by decide)).mono ?_
  rintro e w1 ⟨S0, rfl, hl0, hp0, hc0⟩
  have HL0 := Lib.hid hl0
  have HP0 := Lib.hid hp0
  have HC0 := Lib.hid hc0
  obtain ⟨p, hpd⟩ : ∃ p, p = S0.p := ⟨_, rfl⟩
  rw [← hpd]
  have HPD := Lib.hid hpd
  clear hl0 hp0 hc0 hpd
  go_wp2_with (go_at_call 9; refine (alive_any _).mono ?_; rintro e w2 ⟨rfl, hc2⟩)
  have hstart : RInv w w2 p (.slice none 0 0) 0 := ⟨S0, [], HL0.out.same hc2, HPD.out.symm, by rw [HP0.out]; exact ⟨rfl, rfl, rfl, rfl, rfl, rfl⟩, by rw [HP0.out]; rfl, rfl, World.ownsRow_nil _ _ _ _, HC0.out.trans hc2 (fun _ h => h.elim)⟩
  have HS := Lib.hid hstart
  clear hstart hc2
  go_loopw [5, 6] (fun fv i wr => ∃ (j n : Nat), i = .int .i64 j ∧ j ≤ l.length ∧ Hid (RInv w wr p fv n)) (fun _ i _ => l.length - (intOf i).toNat)
  case atStart => exact ⟨0, 0, rfl, Nat.zero_le _, HS.out⟩
  case round =>
    obtain ⟨j, n, rfl, hj, HI⟩ := hrel
    by_cases hlt : j < l.length ∧ j < 300
    · obtain ⟨hlt1, hlt2⟩ := hlt
      rcases HC.out with hn | ⟨b, o, rfl, hbl, hop⟩
      · subst hn; simp at hlt1
      obtain ⟨v0, vd, hfit, q0, q1, q2, q3, q4, q5, q6, q7, q8, q9, q10, q11, q12⟩ := hop j hlt1
      have hI := HI.out
      obtain ⟨S, fl, s1, s2, s3, s4, s5, s6, s7⟩ := hI
      have r0 := s7.cell q0 (fun h => h)
      have r1 := s7.cell q1 (fun h => h)
      have r2 := s7.cell q2 (fun h => h)
      have r3 := s7.cell q3 (fun h => h)
      have r4 := s7.cell q4 (fun h => h)
      have r5 := s7.cell q5 (fun h => h)
      have r6 := s7.cell q6 (fun h => h)
      have r7 := s7.cell q7 (fun h => h)
      have r8 := s7.cell q8 (fun h => h)
      have r9 := s7.cell q9 (fun h => h)
      have r10 := s7.cell q10 (fun h => h)
      have r11 := s7.cell q11 (fun h => h)
      have r12 := s7.cell q12 (fun h => h)
      clear q0 q1 q2 q3 q4 q5 q6 q7 q8 q9 q10 q11 q12
      obtain ⟨op, hopd⟩ : ∃ op, op = l[j] := ⟨_, rfl⟩
      rw [← hopd] at hfit r0 r1 r2 r3 r5 r6 r7 r8 r10 r11 r12
      obtain ⟨aa, ca, rfl, _⟩ := hfit.r0
      obtain ⟨ad, cd, rfl, _⟩ := hfit.rd
      have FT := Lib.hid hfit
      have S1 := Lib.hid s1
      have S2 := Lib.hid s2
      have S3 := Lib.hid s3
      have S4 := Lib.hid s4
      have S5 := Lib.hid s5
      have S6 := Lib.hid s6
      have S7 := Lib.hid s7
      clear hfit s1 s2 s3 s4 s5 s6 s7 hop hopd HI
      obtain ⟨fa, fc, rfl⟩ := own_form S6.out
      have CX := Lib.hid (S7.out.alloc (.cells (op.arr (.slice aa op.i.data.length ca) (.slice ad op.data.length cd)) 38))
      have CY := Lib.hid ((Chg.refl (fun _ => False) wr).alloc (.cells (op.arr (.slice aa op.i.data.length ca) (.slice ad op.data.length cd)) 38))
      have OB := Lib.hid (heap_alloc_new wr (.cells (op.arr (.slice aa op.i.data.length ca) (.slice ad op.data.length cd)) 38))
      have S1x := Lib.hid (S1.out.same CY.out)
      have hown6 : wr.ownsRow w.heap.size 36 8 (.slice fa n fc) fl.length (firstCells fl) := by rw [S5.out]; exact S6.out
      have S6x := Lib.hid (CY.out.owns hown6 (fun _ _ h => h))
      have hB := CX.out.size
      have rr0 := CX.out.reads FT.out.r0 (fun _ _ h => h)
      have rrd := CX.out.reads FT.out.rd (fun _ _ h => h)
      have hfi := FT.out.i
      have hkk := FT.out.key
      clear hown6
      unfold OpD.arr at CX CY OB S1x S6x hB rr0 rrd
      cases k1 : (op.kind == 1) with
      | true =>
        go_wp2_with fail
        refine (has_p S2.out _ _ S1x.out).mono ?_
        rintro e w3 ⟨rfl, rfl⟩
        obtain ⟨had, hhd⟩ : ∃ had, had = S.pure.has op.i.b := ⟨_, rfl⟩
        rw [← hhd]
        have HHD := Lib.hid hhd
        clear hhd
        go_wp2_with fail
        refine (learn_p S2.out op.i _ _ op.data _ S1x.out hB rr0 rrd hfi).mono ?_
        rintro e w4 hle
        obtain ⟨⟨ev, rfl, hev⟩, hobj⟩ := rinv_learn S1x.out S3.out S4.out S6x.out CX.out hle
        have O4 := Lib.hid (hobj _ _ OB.out)
        rw [S2.out, S5.out, ← HHD.out] at hev
        clear hle hobj rr0 rrd hfi hkk r0 r1 r2 r3 r4 r5 r6 r7 r8 r9 r10 r11 r12 hB
        rcases hev with ⟨g, rfl, hri⟩ | ⟨rfl, hht, hri⟩ | ⟨rfl, hht, hpe⟩
        · have HRI := Lib.hid hri
          clear hri
          go_wp2
          go_roundw
          case rel => exact ⟨j + 1, n, rfl, by omega, HRI.out⟩
          case measure => simp [intOf]; omega
        · have HRI := Lib.hid hri
          clear hri
          subst hht
          go_wp2
          go_roundw
          case rel => exact ⟨j + 1, n, rfl, by omega, HRI.out⟩
          case measure => simp [intOf]; omega
        · obtain ⟨S', l', t1, t2, t3, t4, t5, t6, t7⟩ := hpe
          subst hht
          obtain ⟨i0, hi, hz0, hz1, hz2⟩ := info_parts info36
          have hl8 : n + 1 ≤ 8 := by
            have h1 := t1.few
            have h2 := congrArg List.length t4
            simp [Ses.pure, t5] at h2
            omega
          have h63 : n + 1 ≤ maxLen := by unfold maxLen; omega
          have h56 : (n + 1) * 56 ≤ 140737488355328 := by omega
          have T1 := Lib.hid t1
          have T2 := Lib.hid t2
          have T3 := Lib.hid t3
          have T4 := Lib.hid t4
          have T5 := Lib.hid t5
          have T6 := Lib.hid t6
          have T7 := Lib.hid t7
          obtain ⟨_, x1, x2, x3, x4, x5, x6, x7, x8, _⟩ := op_loads O4.out
          have hba : w.heap.size ≤ (w4.alloc (Obj.cells #[] 36)).heap.size := by have := T7.out.size; simp; omega
          clear t1 t2 t3 t4 t5 t6 t7 hl8
          go_wp2_with ((at_builtin; refine wpList_append_own _ rfl _ _ 31 rfl w.heap.size 36 i0 zItem 8 56 Try.underlying31 hi hz0 hz1 hz2 rfl (by decide) _ _ _ rfl (((Chg.refl (fun _ => False) w4).alloc _).owns T6.out (fun _ _ h => h)) ⟨w4.heap.size, 0, none⟩ 1 1 (op.i.vals (.slice aa op.i.data.length ca)) rfl rfl (news_alloc w4 _ 36) (by simp [It.vals, Value.oneCell']) h63 h56 (by simpa using hba) ?_; intro v5 w5 hown5 hgrow5 _; obtain ⟨va, vc, rfl⟩ := own_form hown5; have O5 := Lib.hid hown5; have G5 := Lib.hid hgrow5; clear hown5 hgrow5))
          go_roundw
          case rel => exact ⟨j + 1, n + 1, rfl, by omega, rpend_done rfl T1.out T2.out T3.out T4.out T5.out T6.out T7.out O5.out G5.out⟩
          case measure => simp [intOf]; omega
      | false =>
        cases k3 : (op.kind == 3) with
        | true =>
          go_wp2_with fail
          refine (put_p S2.out op.key op.value _ S1x.out hB hkk).mono ?_
          rintro e w4 ⟨ev, rfl, hran⟩
          have hri := rinv_ran S1x.out S3.out S4.out S6x.out CX.out hran (same_put _ _ _).1 (same_put _ _ _).2
          rw [S2.out, S5.out] at hri
          have HRI := Lib.hid hri
          clear hri hran rr0 rrd hfi hkk r0 r1 r2 r3 r4 r5 r6 r7 r8 r9 r10 r11 r12 hB
          go_wp2
          go_roundw
          case rel => exact ⟨j + 1, n, rfl, by omega, HRI.out⟩
          case measure => simp [intOf]; omega
        | false =>
          cases k4 : (op.kind == 4) with
          | true =>
            go_wp2_with fail
            refine (del_p S2.out op.key _ S1x.out hB hkk).mono ?_
            rintro e w4 ⟨ev, rfl, hran⟩
            have hri := rinv_ran S1x.out S3.out S4.out S6x.out CX.out hran (same_del _ _).1 (same_del _ _).2
            rw [S2.out, S5.out] at hri
            have HRI := Lib.hid hri
            clear hri hran rr0 rrd hfi hkk r0 r1 r2 r3 r4 r5 r6 r7 r8 r9 r10 r11 r12 hB
            go_wp2
            go_roundw
            case rel => exact ⟨j + 1, n, rfl, by omega, HRI.out⟩
            case measure => simp [intOf]; omega
          | false =>
            have hri : RInv w (wr.alloc (.cells (op.arr (.slice aa op.i.data.length ca) (.slice ad op.data.length cd)) 38)) p (.slice fa n fc) n := ⟨S, fl, S1x.out, S2.out, S3.out, S4.out, S5.out, S5.out ▸ S6x.out, CX.out⟩
            have HRI := Lib.hid hri
            clear hri hfi hkk hB rr0 rrd
            go_wp2
            go_roundw
            case rel => exact ⟨j + 1, n, rfl, by omega, HRI.out⟩
            case measure => simp [intOf]; omega
    · obtain ⟨S, fl, s1, s2, s3, s4, s5, s6, s7⟩ := HI.out
      have S1 := Lib.hid s1
      have S2 := Lib.hid s2
      have S3 := Lib.hid s3
      have S4 := Lib.hid s4
      have S5 := Lib.hid s5
      have S6 := Lib.hid s6
      have S7 := Lib.hid s7
      clear s1 s2 s3 s4 s5 s6 s7 HI
      have hcase : (¬ j < l.length) ∨ (j < l.length ∧ ¬ j < 300) := by omega
      have hcom : S.com = false := S3.out.com
      have hid5 : S.id = 5 := S3.out.id
      have hcl1 : S.client = 1 := S3.out.client
      have hm0 : S.m0 = 1 := S3.out.m0
      have hm1 : S.m1 = 2 := S3.out.m1
      have hm2 : S.m2 = 3 := S3.out.m2
      have HCM := Lib.hid hcom
      have HID := Lib.hid (And.intro hid5 (And.intro hcl1 (And.intro hm0 (And.intro hm1 hm2))))
      obtain ⟨fa, fc, rfl⟩ := own_form S6.out
      clear hcom hid5 hcl1 hm0 hm1 hm2 hlt
      rcases hcase with hx | ⟨hx, hx2⟩
      all_goals
        go_wp2_with fail
        refine (commit_p S2.out _ S1.out).mono ?_
        rintro e w4 ⟨n6, P6, v6, ev6, rfl, hran, hbad, hgood⟩
        by_cases hrows : S.rows = []
        · obtain ⟨rfl, rfl, rfl⟩ := hbad (.inr hrows)
          obtain ⟨S', he, hl', hp', hpp, hcc, _⟩ := hran
          have hn0 : n = 0 := by
            have := congrArg List.length S4.out
            simp [Ses.pure, hrows] at this
            rw [← S5.out]; exact this.symm
          have C8 := Lib.hid (chg_new S7.out S1.out (Nat.le_refl _) hcc)
          have HE := Lib.hid he
          subst hn0
          clear hbad hgood hl' hp' hcc hrows
          rcases HE.out with ⟨h0, _⟩ | ⟨_, g, _, rfl, _⟩
          · exact absurd h0 (by decide)
          · unfold zTx
            go_wp2_with (go_at_call 15; refine (told_any _ _ _ _ (HE.out.same ((Chg.refl _ w4).alloc _))).mono ?_; rintro e w5 ⟨rfl, rfl⟩)
            go_ret
            exact ⟨rfl, C8.out.alloc _⟩
        · obtain ⟨rfl, rfl, itv, cs, rfl, hit⟩ := hgood HCM.out hrows
          obtain ⟨S', he, hl', hp', hpp, hcc, _⟩ := hran
          obtain rfl := he.nil
          have C8 := Lib.hid (chg_new S7.out S1.out (Nat.le_refl _) hcc)
          have HIT := Lib.hid hit
          have HL' := Lib.hid hl'
          have HP' := Lib.hid hp'
          have HQ' := Lib.hid (hpp.trans S2.out)
          have own4 := hcc.owns S6.out (fun q hq => by
            obtain ⟨c', hc'⟩ := own_kind S6.out hq
            exact S1.out.notT hc' (by decide) (by decide) (by decide))
          have OW4 := Lib.hid own4
          rw [HID.out.1, HID.out.2.1, HID.out.2.2.1, HID.out.2.2.2.1, HID.out.2.2.2.2]
          have hrl : S.pure.rows.length = n := by
            have := congrArg List.length S4.out
            simp only [List.length_map] at this
            rw [this, S5.out]
          have hcsl : cs.length = n := by
            have := congrArg List.length hit.2.1
            rw [sortInts_len] at this
            simp only [List.length_map] at this
            rw [this, hrl]
          have hn1 : 1 ≤ n := by
            rw [← hrl]
            have : 0 < S.rows.length := List.length_pos_iff.2 hrows
            simp only [Ses.pure, List.length_map]; omega
          have hn8 : n ≤ 8 := by
            rw [← hrl]
            have := S1.out.few
            simpa [Ses.pure] using this
          have hfine : ∀ x ∈ S.pure.rows, x.Fine := fun x hx => by
            obtain ⟨y, hy, rfl⟩ := List.mem_map.1 hx
            exact S1.out.fine y hy
          have hnd : (S.pure.rows.map (·.b)).Nodup := by
            show ((S.rows.map (·.d)).map (·.b)).Nodup
            rw [List.map_map]
            exact List.pairwise_map.2 (S1.out.dif.imp (fun {a b} h => h))
          have txr := txRight _ (HIT.out.same ((Chg.refl _ w4).alloc (.cells #[.int .u64 5, .int .i64 1, .int .i64 1, .int .i64 2, .int .i64 3, itv] 45))) hfine hnd (by omega) (by omega)
          have TXR := Lib.hid txr
          obtain ⟨ia, ic, rfl⟩ := own_form HIT.out.1
          have CSL := Lib.hid hcsl
          clear hbad hgood hit hl' hp' hcc hpp own4 hfine hnd txr hrows he hcsl
          rw [CSL.out]
          have TXR2 := TXR.out
          rw [CSL.out] at TXR2
          have TXR3 := Lib.hid TXR2
          clear TXR2 TXR
          go_wp2_with (first
            | (go_at_call 16; refine TXR3.out.mono ?_; rintro e w5 ⟨rfl, hc5⟩; have C5 := Lib.hid hc5; have o5 := tx_cells (hc5.obj (heap_alloc_new w4 _) (fun h => h)); obtain ⟨y0, y1, y2, y3, y4, y5⟩ := o5; clear hc5)
            | (go_at_call 17; refine (state_p HQ'.out _ (HL'.out.same (((Chg.refl (fun _ => False) w4).alloc _).trans C5.out (fun _ h => h.elim)))).mono ?_; rintro e w6 ⟨rfl, rfl⟩; rw [HP'.out]; simp only [Pure.close, if_true]))
          have C5w := Lib.hid ((C8.out.alloc (.cells #[.int .u64 5, .int .i64 1, .int .i64 1, .int .i64 2, .int .i64 3, .slice ia n ic] 45)).trans C5.out (fun _ h => h.elim))
          have C45 := Lib.hid (((Chg.refl (fun _ => False) w4).alloc (.cells #[.int .u64 5, .int .i64 1, .int .i64 1, .int .i64 2, .int .i64 3, .slice ia n ic] 45)).trans C5.out (fun _ h => h.elim))
          have OW5 := Lib.hid (C45.out.owns OW4.out (fun _ _ h => h))
          have IT5 := Lib.hid (HIT.out.same C45.out)
          obtain ⟨gf, hgf, hfc⟩ := first_cells OW5.out (by omega)
          have hit1 : w5.ownsRow wr.heap.size 36 8 (.slice ia n ic) cs.length (cs.flatMap CItem.cells) := by have := IT5.out.1; rw [CSL.out] at this ⊢; exact this
          obtain ⟨gi, hgi, _, _, hic⟩ := items_cells hit1 (by rw [CSL.out]; omega)
          have FC := Lib.hid hfc
          have IC := Lib.hid hic
          injection hgf with hgf1 hgf2 hgf3
          injection hgi with hgi1 hgi2 hgi3
          subst hgf1; subst hgf3; subst hgi1; subst hgi3
          clear hfc hic hit1 y0 y1 y2 y3 y4 hgf2 hgi2
          go_loopw [11] (fun i wq => ∃ k : Nat, i = .int .i64 k ∧ k ≤ n ∧ Chg (fun _ => False) w5 wq) (fun i _ => n - (intOf i).toNat)
          case atStart => exact ⟨0, rfl, by omega, .refl _ _⟩
          case round =>
            obtain ⟨k, rfl, hk, hcq⟩ := hrel
            by_cases hkn : k < n
            · have hkf : k < fl.length := by rw [S5.out]; exact hkn
              obtain ⟨e0, e1, e4, e5, e6, e7⟩ := FC.out k hkf
              have SA := Lib.hid (seen_all S1.out HIT.out S4.out hkf)
              obtain ⟨it, hitd⟩ : ∃ it, it = fl[k].1 := ⟨_, rfl⟩
              rw [← hitd] at e0 e1 e4 e5 e6 e7 SA
              have HCQ := Lib.hid hcq
              clear hitd
              go_wp2
              go_loopw [12, 13] (fun fnd kk wv => ∃ q : Nat, kk = .int .i64 q ∧ q ≤ n ∧ fnd = .bool (seen it cs q) ∧ Chg (fun _ => False) w5 wv) (fun _ kk _ => n - (intOf kk).toNat)
              case atStart => exact ⟨0, rfl, by omega, by simp [seen], HCQ.out⟩
              case round =>
                obtain ⟨q, rfl, hq, rfl, hcv⟩ := hrel
                have ytx := hcv.cell y5 (fun h => h)
                by_cases hqn : q < n
                · have hqc : q < cs.length := by rw [CSL.out]; exact hqn
                  obtain ⟨x0, x1, x2, x3, x4, x5, x6, x7⟩ := IC.out q hqc
                  have SS := Lib.hid (seen_succ it cs q hqc)
                  obtain ⟨ci, hci⟩ : ∃ ci, ci = cs[q] := ⟨_, rfl⟩
                  rw [← hci] at x0 x1 x2 x3 x4 x5 x6 x7 SS
                  have z0 := hcv.cell x0 (fun h => h)
                  have z1 := hcv.cell x1 (fun h => h)
                  have z2 := hcv.cell x2 (fun h => h)
                  have z3 := hcv.cell x3 (fun h => h)
                  have z4 := hcv.cell x4 (fun h => h)
                  have z5 := hcv.cell x5 (fun h => h)
                  have z6 := hcv.cell x6 (fun h => h)
                  have z7 := hcv.cell x7 (fun h => h)
                  have d0 := hcv.cell e0 (fun h => h)
                  have d1 := hcv.cell e1 (fun h => h)
                  have d4 := hcv.cell e4 (fun h => h)
                  have d5 := hcv.cell e5 (fun h => h)
                  have d6 := hcv.cell e6 (fun h => h)
                  have d7 := hcv.cell e7 (fun h => h)
                  have HCV := Lib.hid hcv
                  have cvf : ∃ a n c, ci.v = .slice a n c := by
                    obtain ⟨a', c', e', _⟩ := citem_reads (IT5.out.2.2 ci (by rw [hci]; exact List.getElem_mem hqc)).2
                    exact ⟨a', _, c', e'⟩
                  obtain ⟨va, vn, vc, hvv⟩ := cvf
                  rw [hvv] at z3
                  clear x0 x1 x2 x3 x4 x5 x6 x7 hci hvv
                  have z0' := fun ob => cell_alloc z0 ob
                  have d0' := fun ob => cell_alloc d0 ob
                  have d1' := fun ob => cell_alloc d1 ob
                  have d4' := fun ob => cell_alloc d4 ob
                  have d5' := fun ob => cell_alloc d5 ob
                  have d6' := fun ob => cell_alloc d6 ob
                  have d7' := fun ob => cell_alloc d7 ob
                  clear d0 d1 d4 d5 d6 d7 z0'
                  obtain ⟨fb, hfb⟩ : ∃ fb, fb = seen it cs q := ⟨_, rfl⟩
                  rw [← hfb]
                  rw [← hfb] at SS
                  clear hfb
                  cases fb with
                  | true =>
                    go_wp2_with fail
                    go_quiet (fail)
                    go_wp2
                    go_roundw
                    case rel => exact ⟨q + 1, rfl, by omega, by rw [SS.out]; rfl, (HCV.out.alloc _).drewN _⟩
                    case measure => simp [intOf]; omega
                  | false =>
                    have hhit : Hid (seen it cs (q + 1) = hit it ci) := by show seen it cs (q + 1) = hit it ci; rw [SS.out]; rfl
                    cases hb0 : (ci.x.b == it.b) with
                    | false =>
                      have HH : Hid (seen it cs (q + 1) = false) := by show seen it cs (q + 1) = false; rw [hhit.out, hit, hb0]; rfl
                      go_wp2_with fail
                      go_quiet (fail)
                      go_wp2
                      go_roundw
                      case rel => exact ⟨q + 1, rfl, by omega, by rw [HH.out], (HCV.out.alloc _).drewN _⟩
                      case measure => simp [intOf]; omega
                    | true =>
                      cases hb1 : (ci.x.ver == it.ver) with
                      | false =>
                        have HH : Hid (seen it cs (q + 1) = false) := by show seen it cs (q + 1) = false; rw [hhit.out, hit, hb0, hb1]; rfl
                        go_wp2_with fail
                        go_quiet (fail)
                        go_wp2
                        go_roundw
                        case rel => exact ⟨q + 1, rfl, by omega, by rw [HH.out], (HCV.out.alloc _).drewN _⟩
                        case measure => simp [intOf]; omega
                      | true =>
                        have HH : Hid (seen it cs (q + 1) = ((ci.x.i0 == it.i0) && ((ci.x.i1 == it.i1) && ((ci.x.i2 == it.i2) && (ci.x.i3 == it.i3))))) := by show seen it cs (q + 1) = _; rw [hhit.out, hit, hb0, hb1]; rfl
                        have he := eq34 ci.x.i0 ci.x.i1 ci.x.i2 ci.x.i3 it.i0 it.i1 it.i2 it.i3
                        rw [← HH.out] at he
                        go_wp2_with fail
                        go_quiet (fail)
                        clear he
                        go_wp2
                        go_roundw
                        case rel => exact ⟨q + 1, rfl, by omega, rfl, (HCV.out.alloc _).drewN _⟩
                        case measure => simp [intOf]; omega
                · have hqe : q = cs.length := by rw [CSL.out]; omega
                  have hsn : seen it cs q = true := by rw [hqe]; exact SA.out
                  rw [hsn]
                  have HCV := Lib.hid hcv
                  clear hqe hsn
                  go_wp2
                  go_roundw
                  case rel => exact ⟨k + 1, rfl, by omega, HCV.out⟩
                  case measure => simp [intOf]; omega
            · go_wp2
              go_ret
              exact ⟨rfl, C5w.out.trans hcq (fun _ h => h.elim)⟩
end Go.Proofs.Ytpdchdbkfflgfaa
