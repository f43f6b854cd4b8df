/- SessionClosed: its walk. -/
import Derived.Test.YtpdchdbkfflgfaaK3
namespace Go.Proofs.Ytpdchdbkfflgfaa
open Go.RowKit

set_option maxRecDepth 100000 in
set_option maxHeartbeats 16000000 in
theorem sessionClosed_any (v u : Value) (l m : List OpD) (w : World) (h : Ops w v l) (h' : Ops w u m) : Calls Try.prog 7 #[v, u] w fun e w' => e = .returned (.bool true) ∧ Chg (fun _ => False) w w' := by
  obtain ⟨a, c, rfl, hml, hcs⟩ := op_cells h
  obtain ⟨a2, c2, rfl, hml2, hcs2⟩ := op_cells h'
  have HC := Lib.hid hcs
  have HC2 := Lib.hid hcs2
  clear hcs hcs2 h h'
  unfold maxLen at hml hml2
  go_enter Try.func7, Try.ntmps7
  go_wp2_with fail
  refine (new_any 5 1 1 2 3 _ rfl (by decide) (by decide) (by decide) (by decide) (by decide) (by decide) (by decide) (by decide) (by decide) (by decide) (by decide)).mono ?_
  rintro e w1 ⟨S0, rfl, hl0, hp0, hc0⟩
  have HL0 := Lib.hid hl0
  have HP0 := Lib.hid hp0
  have HC0 := Lib.hid hc0
  obtain ⟨p, hpd⟩ : ∃ p, p = S0.p := ⟨_, rfl⟩
  rw [← hpd]
  have HPD := Lib.hid hpd
  clear hl0 hp0 hc0 hpd
  go_wp2_with (go_at_call 9; refine (alive_any _).mono ?_; rintro e w2 ⟨rfl, hc2⟩)
  have hstart : SInv w w2 p := ⟨S0, HL0.out.same hc2, HPD.out.symm, by rw [HP0.out]; exact ⟨rfl, rfl, rfl, rfl, rfl, rfl⟩, HC0.out.trans hc2 (fun _ h => h.elim)⟩
  have HS := Lib.hid hstart
  clear hstart hc2
  go_loopw [7] (fun i wr => ∃ (j : Nat), i = .int .i64 j ∧ j ≤ l.length ∧ Hid (SInv w wr p)) (fun i _ => l.length - (intOf i).toNat)
  case atStart => exact ⟨0, rfl, Nat.zero_le _, HS.out⟩
  case round =>
    obtain ⟨j, rfl, hj, HI⟩ := hrel
    by_cases hlt : j < l.length ∧ j < 100
    · obtain ⟨hlt1, hlt2⟩ := hlt
      rcases HC.out with hn | ⟨b, o, rfl, hbl, hop⟩
      · subst hn; simp at hlt1
      obtain ⟨v0, vd, hfit, q0, q1, q2, q3, q4, q5, q6, q7, q8, q9, q10, q11, q12⟩ := hop j hlt1
      obtain ⟨S, s1, s2, s3, s7⟩ := HI.out
      have r0 := s7.cell q0 (fun h => h)
      have r1 := s7.cell q1 (fun h => h)
      have r2 := s7.cell q2 (fun h => h)
      have r3 := s7.cell q3 (fun h => h)
      have r4 := s7.cell q4 (fun h => h)
      have r5 := s7.cell q5 (fun h => h)
      have r6 := s7.cell q6 (fun h => h)
      have r7 := s7.cell q7 (fun h => h)
      have r8 := s7.cell q8 (fun h => h)
      have r9 := s7.cell q9 (fun h => h)
      have r10 := s7.cell q10 (fun h => h)
      have r11 := s7.cell q11 (fun h => h)
      have r12 := s7.cell q12 (fun h => h)
      clear q0 q1 q2 q3 q4 q5 q6 q7 q8 q9 q10 q11 q12
      obtain ⟨op, hopd⟩ : ∃ op, op = l[j] := ⟨_, rfl⟩
      rw [← hopd] at hfit r0 r1 r2 r3 r5 r6 r7 r8 r10 r11 r12
      obtain ⟨aa, ca, rfl, _⟩ := hfit.r0
      obtain ⟨ad, cd, rfl, _⟩ := hfit.rd
      have FT := Lib.hid hfit
      have S1 := Lib.hid s1
      have S2 := Lib.hid s2
      have S3 := Lib.hid s3
      have S7 := Lib.hid s7
      clear hfit s1 s2 s3 s7 hop hopd HI
      have CX := Lib.hid (S7.out.alloc (.cells (op.arr (.slice aa op.i.data.length ca) (.slice ad op.data.length cd)) 38))
      have CY := Lib.hid ((Chg.refl (fun _ => False) wr).alloc (.cells (op.arr (.slice aa op.i.data.length ca) (.slice ad op.data.length cd)) 38))
      have S1x := Lib.hid (S1.out.same CY.out)
      have hB := CX.out.size
      have rr0 := CX.out.reads FT.out.r0 (fun _ _ h => h)
      have rrd := CX.out.reads FT.out.rd (fun _ _ h => h)
      have hfi := FT.out.i
      have hkk := FT.out.key
      unfold OpD.arr at CX CY S1x hB rr0 rrd
      cases k1 : (op.kind == 1) with
      | true =>
        go_wp2_with fail
        refine (learn_p S2.out op.i _ _ op.data _ S1x.out hB rr0 rrd hfi).mono ?_
        rintro e w4 ⟨n4, P4, ev, rfl, hran, hln⟩
        have hri := sinv_ran S1x.out S3.out CX.out hran (learns_same hln)
        rw [S2.out] at hri
        have HRI := Lib.hid hri
        clear hri hran hln rr0 rrd hfi hkk r0 r1 r2 r3 r4 r5 r6 r7 r8 r9 r10 r11 r12 hB
        go_wp2
        go_roundw
        case rel => exact ⟨j + 1, rfl, by omega, HRI.out⟩
        case measure => simp [intOf]; omega
      | false =>
        cases k3 : (op.kind == 3) with
        | true =>
          go_wp2_with fail
          refine (put_p S2.out op.key op.value _ S1x.out hB hkk).mono ?_
          rintro e w4 ⟨ev, rfl, hran⟩
          have hri := sinv_ran S1x.out S3.out CX.out hran (same_put _ _ _).1
          rw [S2.out] at hri
          have HRI := Lib.hid hri
          clear hri hran rr0 rrd hfi hkk r0 r1 r2 r3 r4 r5 r6 r7 r8 r9 r10 r11 r12 hB
          go_wp2
          go_roundw
          case rel => exact ⟨j + 1, rfl, by omega, HRI.out⟩
          case measure => simp [intOf]; omega
        | false =>
          have hri : SInv w (wr.alloc (.cells (op.arr (.slice aa op.i.data.length ca) (.slice ad op.data.length cd)) 38)) p := ⟨S, S1x.out, S2.out, S3.out, CX.out⟩
          have HRI := Lib.hid hri
          clear hri hfi hkk hB rr0 rrd
          go_wp2
          go_roundw
          case rel => exact ⟨j + 1, rfl, by omega, HRI.out⟩
          case measure => simp [intOf]; omega
    · obtain ⟨S, s1, s2, s3, s7⟩ := HI.out
      have S1 := Lib.hid s1
      have S2 := Lib.hid s2
      have S3 := Lib.hid s3
      have S7 := Lib.hid s7
      clear s1 s2 s3 s7 HI
      have hcase : (¬ j < l.length) ∨ (j < l.length ∧ ¬ j < 100) := by omega
      have HCM : Hid (S.com = false) := S3.out.com
      have HID : Hid (S.id = 5 ∧ S.client = 1 ∧ S.m0 = 1 ∧ S.m1 = 2 ∧ S.m2 = 3) := And.intro S3.out.id (And.intro S3.out.client (And.intro S3.out.m0 (And.intro S3.out.m1 S3.out.m2)))
      clear hlt
      rcases hcase with hx | ⟨hx, hx2⟩
      all_goals
        go_wp2_with fail
        refine (commit_p S2.out _ S1.out).mono ?_
        rintro e w4 ⟨n6, P6, v6, ev6, rfl, hran, hbad, hgood, hmore⟩
        by_cases hrows : S.rows = []
        · obtain ⟨rfl, rfl, rfl⟩ := hbad (.inr hrows)
          obtain ⟨S', he, hl', hp', hpp, hcc, _⟩ := hran
          have C8 := Lib.hid (chg_new S7.out S1.out (Nat.le_refl _) hcc)
          have HE := Lib.hid he
          clear hbad hgood hl' hp' hcc hrows hmore
          rcases HE.out with ⟨h0, _⟩ | ⟨_, g, _, rfl, _⟩
          · exact absurd h0 (by decide)
          · unfold zTx
            go_wp2_with (go_at_call 15; refine (told_any _ _ _ _ (HE.out.same ((Chg.refl _ w4).alloc _))).mono ?_; rintro e w5 ⟨rfl, rfl⟩)
            go_ret
            exact ⟨rfl, C8.out.alloc _⟩
        · obtain ⟨rfl, rfl, itv, cs, rfl, hit⟩ := hgood HCM.out hrows
          obtain ⟨_, he, _⟩ := hran
          obtain rfl := he.nil
          obtain ⟨S', hl', hp', hpp, hbb, hcc⟩ := hmore HCM.out hrows
          have C8 := Lib.hid (chg_new S7.out S1.out (Nat.le_refl _) hcc)
          have HIT := Lib.hid hit
          have HL' := Lib.hid hl'
          have HP' := Lib.hid hp'
          have HQ' := Lib.hid (hpp.trans S2.out)
          have HBB := Lib.hid hbb
          have hmoreC := Lib.hid hcc
          rw [HID.out.1, HID.out.2.1, HID.out.2.2.1, HID.out.2.2.2.1, HID.out.2.2.2.2]
          have hcsl : cs.length = S.rows.length := by
            have := congrArg List.length hit.2.1
            rw [sortInts_len] at this
            simpa [Ses.pure] using this
          have hn1 : 1 ≤ cs.length := by rw [hcsl]; exact List.length_pos_iff.2 hrows
          have hn8 : cs.length ≤ 8 := by rw [hcsl]; exact S1.out.few
          have hfine : ∀ x ∈ S.pure.rows, x.Fine := fun x hx => by
            obtain ⟨y, hy, rfl⟩ := List.mem_map.1 hx
            exact S1.out.fine y hy
          have HFI := Lib.hid hfine
          clear hbad hgood hit hl' hp' hcc hpp hrows he hcsl hbb hmore hfine
          obtain ⟨ia, ic, rfl⟩ := own_form HIT.out.1
          go_wp2_with fail
          refine (ownTx 5 1 1 2 3 _ (HIT.out.same ((Chg.refl _ w4).alloc _)) HFI.out hn8 hn1).mono ?_
          rintro e w5 ⟨⟨iv, ds, rfl, hown, hcp⟩, hc5⟩
          obtain ⟨ja, jc, rfl⟩ := own_form hown
          go_wp2_with fail
          obtain ⟨wK, hwK⟩ : ∃ W : World, W = w5.alloc (.cells #[.int .u64 5, .int .i64 1, .int .i64 1, .int .i64 2, .int .i64 3, .slice ja cs.length jc] 45) := ⟨_, rfl⟩
          rw [← hwK]
          have c5K : Chg (fun _ => False) w5 wK := by rw [hwK]; exact (Chg.refl _ w5).alloc _
          have c4K := ((Chg.refl (fun _ => False) w4).alloc (.cells #[.int .u64 5, .int .i64 1, .int .i64 1, .int .i64 2, .int .i64 3, .slice ia cs.length ic] 45)).trans (hc5.trans c5K (fun _ h => h.elim)) (fun _ h => h.elim)
          have tx9 : wK.heap[w4.heap.size]? = some (.cells #[.int .u64 5, .int .i64 1, .int .i64 1, .int .i64 2, .int .i64 3, .slice ia cs.length ic] 45) := (hc5.trans c5K (fun _ h => h.elim)).obj (heap_alloc_new w4 _) (fun h => h)
          have tx11 : wK.heap[w5.heap.size]? = some (.cells #[.int .u64 5, .int .i64 1, .int .i64 1, .int .i64 2, .int .i64 3, .slice ja cs.length jc] 45) := by rw [hwK]; exact heap_alloc_new w5 _
          have hitK := HIT.out.same c4K
          have hcpK := hcp.same c5K
          have hownK := c5K.owns hown (fun _ _ h => h)
          have hs45 : wr.heap.size ≤ w4.heap.size := by have := S1.out; exact (hmoreC.out).size
          have hsz5 := hc5.size
          have hclK : Cl w wK wr.heap.size p wK S' := ⟨HL'.out.same c4K, HQ'.out, by rw [HP'.out]; rfl, fun q hq => .inl (S1.out.all_lt q (by rw [← HBB.out]; exact hq)), .refl _ _, C8.out.trans c4K (fun _ h => h.elim)⟩
          have CLK := Lib.hid hclK
          have TX9 := Lib.hid tx9
          have TX11 := Lib.hid tx11
          have ITK := Lib.hid hitK
          have CPK := Lib.hid hcpK
          have OWK := Lib.hid hownK
          have SZ := Lib.hid (And.intro hs45 hsz5)
          clear hwK c5K c4K tx9 tx11 hitK hcpK hownK hs45 hsz5 hclK hown hcp hc5
          go_loopw [12] (fun i wq => ∃ k : Nat, i = .int .i64 k ∧ k ≤ m.length ∧ Hid (∃ Sq, Cl w wK wr.heap.size p wq Sq)) (fun i _ => m.length - (intOf i).toNat)
          case atStart => exact ⟨0, rfl, Nat.zero_le _, S', CLK.out⟩
          case round =>
            obtain ⟨k, rfl, hk, HQ⟩ := hrel
            obtain ⟨Sq, hcl⟩ := HQ.out
            have CL := Lib.hid hcl
            clear hcl HQ
            by_cases hlt2 : k < m.length ∧ k < 50
            · obtain ⟨hl1, hl2⟩ := hlt2
              rcases HC2.out with hn | ⟨b, o, rfl, hbl, hop⟩
              · subst hn; simp at hl1
              obtain ⟨v0, vd, hfit, q0, q1, q2, q3, q4, q5, q6, q7, q8, q9, q10, q11, q12⟩ := hop k hl1
              have s7 := CL.out.all
              have r0 := s7.cell q0 (fun h => h)
              have r1 := s7.cell q1 (fun h => h)
              have r2 := s7.cell q2 (fun h => h)
              have r3 := s7.cell q3 (fun h => h)
              have r4 := s7.cell q4 (fun h => h)
              have r5 := s7.cell q5 (fun h => h)
              have r6 := s7.cell q6 (fun h => h)
              have r7 := s7.cell q7 (fun h => h)
              have r8 := s7.cell q8 (fun h => h)
              have r9 := s7.cell q9 (fun h => h)
              have r10 := s7.cell q10 (fun h => h)
              have r11 := s7.cell q11 (fun h => h)
              have r12 := s7.cell q12 (fun h => h)
              clear q0 q1 q2 q3 q4 q5 q6 q7 q8 q9 q10 q11 q12 s7
              obtain ⟨op, hopd⟩ : ∃ op, op = m[k] := ⟨_, rfl⟩
              rw [← hopd] at hfit r0 r1 r2 r3 r5 r6 r7 r8 r10 r11 r12
              obtain ⟨aa, ca, rfl, _⟩ := hfit.r0
              obtain ⟨ad, cd, rfl, _⟩ := hfit.rd
              have FT := Lib.hid hfit
              clear hfit hop hopd
              have OB0 := Lib.hid (heap_alloc_new wr (.cells (op.arr (.slice aa op.i.data.length ca) (.slice ad op.data.length cd)) 38))
              have CL0 := Lib.hid (CL.out.same ((Chg.refl (fun _ => False) wr).alloc (.cells (op.arr (.slice aa op.i.data.length ca) (.slice ad op.data.length cd)) 38)))
              unfold OpD.arr at OB0 CL0
              go_wp2_with fail
              refine (cget CL0.out _ FT.out.key).mono ?_
              rintro e x1 ⟨b1, d1, ev1, rfl, T1, c1, e1, k1, o1⟩
              have C1 := Lib.hid c1
              have E1 := Lib.hid e1
              have OB1 := Lib.hid (o1 _ _ OB0.out)
              clear c1 e1 k1 o1 r0 r1 r2 r3 r4 r5 r6 r7 r8 r9 r10 r11 r12
              obtain ⟨_, y1, y2, y3, y4, y5, y6, y7, y8, y9, y10, y11, y12⟩ := op_loads OB1.out
              go_wp2_with fail
              refine (cdel C1.out _ FT.out.key).mono ?_
              rintro e x2 ⟨d2, ev2, rfl, T2, c2', e2, k2, o2⟩
              have C2 := Lib.hid c2'
              have E2 := Lib.hid e2
              have E1b := Lib.hid (k2 E1.out)
              have OB2 := Lib.hid (o2 _ _ OB1.out)
              clear c2' e2 k2 o2 y1 y2 y3 y4 y5 y6 y7 y8 y9 y10 y11 y12
              obtain ⟨_, y1, y2, y3, y4, y5, y6, y7, y8, y9, y10, y11, y12⟩ := op_loads OB2.out
              go_wp2_with fail
              refine (cscan C2.out _ _).mono ?_
              rintro e x3 ⟨ev3, rfl, T3, c3', e3, k3, o3⟩
              have C3 := Lib.hid c3'
              have E3 := Lib.hid e3
              have E1c := Lib.hid (k3 E1b.out)
              have E2c := Lib.hid (k3 E2.out)
              have OB3 := Lib.hid (o3 _ _ OB2.out)
              clear c3' e3 k3 o3 y1 y2 y3 y4 y5 y6 y7 y8 y9 y10 y11 y12
              go_wp2_with fail
              refine (ccommit C3.out).mono ?_
              rintro e x4 ⟨ev4, rfl, T4, c4', e4, k4, o4⟩
              have al := (Chg.refl (fun _ => False) x4).alloc (.cells #[.int .u64 0, .int .i64 0, .int .i64 0, .int .i64 0, .int .i64 0, .slice none 0 0] 45)
              have C4 := Lib.hid (c4'.same al)
              have E4 := Lib.hid (e4.same al)
              have E1d := Lib.hid ((k4 E1c.out).same al)
              have E2d := Lib.hid ((k4 E2c.out).same al)
              have E3d := Lib.hid ((k4 E3.out).same al)
              have OB4 := Lib.hid (al.obj (o4 _ _ OB3.out) (fun h => h))
              clear c4' e4 k4 o4 al
              obtain ⟨_, y1, y2, y3, y4, y5, y6, y7, y8, y9, y10, y11, y12⟩ := op_loads OB4.out
              unfold zTx
              go_wp2_with fail
              refine (cput C4.out _ _ FT.out.key).mono ?_
              rintro e x5 ⟨ev5, rfl, T5, c5', e5, k5, o5⟩
              have C5 := Lib.hid c5'
              have E5 := Lib.hid e5
              have E1e := Lib.hid (k5 E1d.out)
              have E2e := Lib.hid (k5 E2d.out)
              have E3e := Lib.hid (k5 E3d.out)
              have E4e := Lib.hid (k5 E4.out)
              have OB5 := Lib.hid (o5 _ _ OB4.out)
              clear c5' e5 k5 o5 y1 y2 y3 y4 y5 y6 y7 y8 y9 y10 y11 y12
              go_wp2_with fail
              refine (told_any _ _ _ _ E5.out).mono ?_
              rintro e x5b ⟨rfl, rfl⟩
              obtain ⟨_, y1, y2, y3, y4, y5, y6, y7, y8, y9, y10, y11, y12⟩ := op_loads OB5.out
              have rr0 := C5.out.all.reads FT.out.r0 (fun _ _ h => h)
              have rrd := C5.out.all.reads FT.out.rd (fun _ _ h => h)
              go_wp2_with fail
              refine (clearn C5.out op.i _ _ op.data rr0 rrd FT.out.i).mono ?_
              rintro e x6 ⟨ev6, rfl, T6, c6', e6, k6, o6⟩
              have C6 := Lib.hid c6'
              have E6 := Lib.hid e6
              have E1f := Lib.hid (k6 E1e.out)
              have E2f := Lib.hid (k6 E2e.out)
              have E3f := Lib.hid (k6 E3e.out)
              have E4f := Lib.hid (k6 E4e.out)
              clear c6' e6 k6 o6 rr0 rrd y1 y2 y3 y4 y5 y6 y7 y8 y9 y10 y11 y12
              have tk0 := True.intro
              go_wp2_with (first
                | (go_at_call 15; clear tk0; refine (told_any _ _ _ _ E6.out).mono ?_; rintro e x7 ⟨rfl, rfl⟩; have tk1 := True.intro)
                | (go_at_call 15; clear tk1; refine (told_any _ _ _ _ E1f.out).mono ?_; rintro e x7 ⟨rfl, rfl⟩; have tk2 := True.intro)
                | (go_at_call 15; clear tk2; refine (told_any _ _ _ _ E2f.out).mono ?_; rintro e x7 ⟨rfl, rfl⟩; have tk3 := True.intro)
                | (go_at_call 15; clear tk3; refine (told_any _ _ _ _ E3f.out).mono ?_; rintro e x7 ⟨rfl, rfl⟩; have tk4 := True.intro)
                | (go_at_call 15; clear tk4; refine (told_any _ _ _ _ E4f.out).mono ?_; rintro e x7 ⟨rfl, rfl⟩))
              go_roundw
              case rel => exact ⟨k + 1, rfl, by omega, T6, C6.out⟩
              case measure => simp [intOf]; omega
            · have hcase2 : (¬ k < m.length) ∨ (k < m.length ∧ ¬ k < 50) := by omega
              have kp := CL.out.keep
              have hz := SZ.out
              have hz1 : w4.heap.size < wK.heap.size := lt_of_block TX9.out
              have hz2 : w5.heap.size < wK.heap.size := lt_of_block TX11.out
              have hz3 : w4.heap.size ≤ w5.heap.size := by have := hz.2; simp at this; omega
              have ob9 := kp.obj TX9.out (fun e => by rcases e with e | e <;> omega)
              have ob11 := kp.obj TX11.out (fun e => by rcases e with e | e <;> omega)
              obtain ⟨x0, x1, x2, x3, x4, x5⟩ := tx_cells ob9
              obtain ⟨y0, y1, y2, y3, y4, y5⟩ := tx_cells ob11
              have itq := ITK.out.keep kp rfl
              have cpq := CPK.out.keep (by simp; omega) kp rfl
              have owq := own_keep OWK.out (by simp; omega) kp rfl
              have SM := Lib.hid (sameTx _ itq owq cpq hn8 hn1)
              clear kp hz hz1 hz2 hz3 ob9 ob11 itq cpq owq hlt2
              rcases hcase2 with hy | ⟨hy, hy2⟩
              all_goals
                go_wp2_with (first
                  | (go_at_call 23; refine SM.out.mono ?_; rintro e w8 ⟨rfl, hc8⟩; have C8q := Lib.hid hc8; clear hc8)
                  | (go_at_call 17; refine (state_p CL.out.ptr _ (CL.out.lies.same C8q.out)).mono ?_; rintro e w9 ⟨rfl, rfl⟩; rw [CL.out.com]; simp only [if_true]))
                go_ret
                exact ⟨rfl, CL.out.all.trans C8q.out (fun _ h => h.elim)⟩
end Go.Proofs.Ytpdchdbkfflgfaa
