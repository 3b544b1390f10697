/-
Transducers trimmed, by the program.
-/
import Derived.Test.YtkmlmkbpdldjgaaW27
namespace Go.Proofs.Ytkmlmkbpdldjgaa.W
set_option linter.unusedVariables false
set_option linter.unusedSimpArgs false
open Go.B
variable {base : Nat}
attribute [local simp] wpC_skip wpC_region wpC_seq wpC_true wpC_false wpC_block wpC_exit wpC_ret wpO_nil wpO_n wpO_tt wpO_ff wpO_tf wpO_ft wpO_u wpS_mov wpS_pick wpS_build wpS_load wpS_store wpS_nilck wpS_bin wpS_beq wpS_isnil wpS_eqs wpS_not wpS_neg wpS_conv wpS_lea wpS_fld wpS_idx wpS_idxs wpS_slice wpS_sslice wpS_mkfn wpS_mset wpS_look wpS_ext wpS_len wpS_new wpS_box wpS_mk wpS_mkmap wpS_mksl wpS_app wpS_fn wpS_call after_some Post.then Post.inBlock BExit.outOf puto_some puto_none put_eq put_ne Opd.ev argEnv op1_mov op1_pick op1_new op1_box op1_load op1_nilck op1_bin op1_beq op1_not op1_neg op1_conv op1_lea op1_fld op1_len0 op1_len1 op1_idx op1_ext op1_build op1_mk op1_stw op1_mksl op1_eqs pureBin isShift resOf resVals val_tmp val_cell oneOf one_int cells_int one_bool cells_bool one_str cells_str one_nilp cells_nilp one_ptr cells_ptr one_nils cells_nils one_sl cells_sl one_sle cells_sle one_nilm cells_nilm one_mp cells_mp one_nilf cells_nilf one_fn cells_fn one_nili cells_nili cells_agg isSl_sl slen_sl sat_sl make_of asm rtOk wpS_b2s op1_b2s op1_isnil Option.map_some gam_base op1_app

theorem c71 (s : Int) (bs : List Bool) (es : List E4) (u v : BV) (b c : Nat) (H : BH) (ou : OwnS base H 4 1 u (bs.map encB) b) (ov : OwnS base H 54 4 v (es.map E4.enc) c) (hv : validB s bs.length es = true) :
    ∃ x H', Runs (gam base) 71 [.agg [.int .i64 s, u, v]] H x H' ∧ H.Keeps H' ∧ ∃ u' v' bo co, x = .agg [.int .i64 (numS (selT s bs es) s.toNat), u', v'] ∧ OwnN base H' 4 1 u' ((accS (selT s bs es) bs bs.length).map encB) bo ∧
      OwnN base H' 54 4 v' ((es.flatMap (selE (selT s bs es))).map E4.enc) co ∧ Fr H bo ∧ Fr H co := by
  refine call_of_wp (fn := ir71) (R := fun x H' => H.Keeps H' ∧ ∃ u' v' bo co, x = .agg [.int .i64 (numS (selT s bs es) s.toNat), u', v'] ∧ OwnN base H' 4 1 u' ((accS (selT s bs es) bs bs.length).map encB) bo ∧
      OwnN base H' 54 4 v' ((es.flatMap (selE (selT s bs es))).map E4.enc) co ∧ Fr H bo ∧ Fr H co) rfl ?_
  have hu1 := one_of_isSl ou.isSl
  have hv1 := one_of_isSl ov.isSl
  have hlu : u.slen = bs.length := by rw [ou.sls.len]; simp
  have hlv : v.slen = es.length := by rw [ov.sls.len]; simp
  obtain ⟨hsm, hs0, hs1⟩ := validB_small hv
  obtain ⟨hl1, hl2⟩ := validB_len hv
  have hin := validB_inR hv
  have hst : s.toNat < bs.length := by omega
  simp [ir71, hu1, hv1]
  intro n1 b1 f1
  simp [make_of f1 b1]
  intro n2 b2 f2
  obtain ⟨d21, g2⟩ := fresh_set (by simp) f2
  simp [make_of f2 b2]
  obtain ⟨A0, hA0⟩ : ∃ A0, A0 = (H.set n1 (.arr 34 [.int .i64 s, u, v])).set n2 (.arr 34 [.int .i64 0, .nils, .nils]) := ⟨_, rfl⟩
  have kA0 : H.Keeps A0 := by rw [hA0]; exact (BH.keeps_set _ f1).set g2 _
  have a10 : A0.row n1 = .arr 34 [.int .i64 s, u, v] := by rw [hA0]; simp [BH.row_set, Ne.symm d21]
  have a20 : A0.row n2 = .arr 34 [.int .i64 0, .nils, .nils] := by rw [hA0]; simp [BH.row_set]
  rw [← hA0]
  obtain ⟨_, _, _, l4⟩ := rows3 a10 (rt := none) rfl
  obtain ⟨_, l5, _, _⟩ := rows3 a10 (rt := some 34) rfl
  obtain ⟨A1, r1, k1⟩ := c65 (base := base) s bs u v A0 (ou.sls.keeps kA0) hv1
  simp [l4, l5]
  refine ⟨_, A1, r1, k1.tys _, ?_⟩
  have kA1 := kA0.trans k1
  obtain ⟨lw, A, r2, k2, lo, ownL0, frL⟩ := c79 (base := base) bs u b A1 (ou.keeps kA1) (by omega)
  obtain ⟨l2, rfl⟩ := own_some ownL0 (by simp; omega)
  have fl2 : H.row l2 = .fresh := kA1.fresh (frL l2 rfl)
  simp
  refine ⟨_, A, r2, BH.KeepsTys.nil _ _, ?_⟩
  have kA := kA1.trans k2
  have a1 : A.row n1 = .arr 34 [.int .i64 s, u, v] := by rw [(k1.trans k2) n1 (by rw [a10]; simp), a10]
  have a2 : A.row n2 = .arr 34 [.int .i64 0, .nils, .nils] := by rw [(k1.trans k2) n2 (by rw [a20]; simp), a20]
  have hc1 : (bs.length : Int) ≤ 140737488355328 := by omega
  simp [hc1]
  intro n3 b3 f3
  simp [make_of f3 b3]
  obtain ⟨rp, hrp⟩ : ∃ rp, rp = List.replicate bs.length (BV.bool false) := ⟨_, rfl⟩
  rw [← hrp]
  obtain ⟨A2, hA2⟩ : ∃ A2, A2 = A.set n3 (.arr 4 rp) := ⟨_, rfl⟩
  have kA2 : A.Keeps A2 := by rw [hA2]; exact BH.keeps_set _ f3
  have own1 : OwnN base A2 4 1 (.sl n3 0 bs.length) ((List.replicate bs.length false).map encB) (some n3) := ⟨by simp, by rw [hA2, BH.row_set_eq, hrp]; simp [encB], b3, encBs_all _⟩
  rw [← hA2]
  have a12 : A2.row n1 = .arr 34 [.int .i64 s, u, v] := by rw [kA2 n1 (by rw [a1]; simp), a1]
  obtain ⟨q0, _, _, _⟩ := rows3 a12 (rt := none) rfl
  obtain ⟨hsat1, A3, hw1, own3, hk3⟩ := own_setB (x := true) own1 (t := s.toNat) (by simpa using hst)
  have f3H : H.row n3 = .fresh := kA.fresh f3
  have kHA3 := keeps_num (kA.trans kA2) f3H hk3
  have n13 : n1 ≠ n3 := by rintro rfl; rw [f3] at a1; cases a1
  have n23 : n2 ≠ n3 := by rintro rfl; rw [f3] at a2; cases a2
  have nl3 : l2 ≠ n3 := by rintro rfl; have := ownL0.live rfl; rw [f3] at this; cases this
  have n1l : n1 ≠ l2 := by rintro rfl; have := ownL0.live rfl; rw [a1] at this; cases this
  have n2l : n2 ≠ l2 := by rintro rfl; have := ownL0.live rfl; rw [a2] at this; cases this
  have a13 : A3.row n1 = .arr 34 [.int .i64 s, u, v] := by rw [hk3 n1 n13, a12]
  have a23 : A3.row n2 = .arr 34 [.int .i64 0, .nils, .nils] := by rw [hk3 n2 n23, kA2 n2 (by rw [a2]; simp), a2]
  have ownL3 : OwnN base A3 4 1 lw (bs.map encB) (some l2) := (ownL0.keeps kA2).stay fun d hd => by cases hd; exact hk3 l2 nl3
  have hstl : (startB bs.length s).length = bs.length := by simp [startB]
  have hs1' : s < bs.length := hs1
  simp only [sat_sl, Nat.zero_add, Nat.mul_one] at hsat1
  obtain ⟨_, q1, _, _⟩ := rows3 a13 (rt := none) rfl
  simp [q0, hs0, hs1', hw1, q1, ou.isSl, hlu]
  -- as many passes as there are states
  refine wpC_count bs.length (fun k e K => e 1 = .ptr n1 0 ∧ e 2 = .ptr n2 0 ∧ e 3 = .sl n3 0 bs.length ∧ e 4 = lw ∧ e 24 = .int .i64 bs.length ∧ e 25 = .int .i64 k ∧ H.Keeps K ∧ K.row n1 = .arr 34 [.int .i64 s, u, v] ∧ K.row n2 = .arr 34 [.int .i64 0, .nils, .nils] ∧
    OwnN base K 4 1 (.sl n3 0 bs.length) ((iter (passL false es) k (startB bs.length s)).map encB) (some n3) ∧ OwnN base K 4 1 lw ((iter (passL true es) k bs).map encB) (some l2)) (i0 := 0) ?_ (Nat.zero_le _) ?_
  · exact ⟨rfl, rfl, rfl, rfl, rfl, rfl, kHA3, a13, a23, own3, ownL3⟩
  rintro k e K hkk ⟨e1, e2, e3, e4, e24, e25, hk, rK1, rK2, ownF, ownL⟩
  by_cases hlt : k < bs.length
  · obtain ⟨_, _, x2, _⟩ := rows3 rK1 (rt := none) rfl
    have wk1 : IntKind.i64.wrap ((k : Int) + 1) = (k : Int) + 1 := w64 (by omega) (by omega)
    obtain ⟨X, hX⟩ : ∃ X, X = iter (passL false es) k (startB bs.length s) := ⟨_, rfl⟩
    obtain ⟨Z, hZ⟩ : ∃ Z, Z = iter (passL true es) k bs := ⟨_, rfl⟩
    have hXl : X.length = bs.length := by rw [hX, iter_len, hstl]
    have hZl : Z.length = bs.length := by rw [hZ, iter_len]
    rw [← hX] at ownF
    rw [← hZ] at ownL
    simp [e1, e2, e3, e4, e24, e25, hlt, x2, ov.isSl, hlv]
    refine wpC_count es.length (fun i e M => e 1 = .ptr n1 0 ∧ e 2 = .ptr n2 0 ∧ e 3 = .sl n3 0 bs.length ∧ e 4 = lw ∧ e 24 = .int .i64 bs.length ∧ e 25 = .int .i64 k ∧ e 28 = v ∧ e 29 = .int .i64 es.length ∧ e 30 = .int .i64 i ∧ H.Keeps M ∧ M.row n1 = .arr 34 [.int .i64 s, u, v] ∧ M.row n2 = .arr 34 [.int .i64 0, .nils, .nils] ∧
      OwnN base M 4 1 (.sl n3 0 bs.length) ((passL false (es.take i) X).map encB) (some n3) ∧ OwnN base M 4 1 lw ((passL true (es.take i) Z).map encB) (some l2)) (i0 := 0) ?_ (Nat.zero_le _) ?_
    · exact ⟨by simp [e1], by simp [e2], by simp [e3], by simp [e4], by simp [e24], by simp [e25], by simp, by simp, by simp, hk, rK1, rK2, ownF, ownL⟩
    clear e1 e2 e3 e4 e24 e25
    rintro i e M hi ⟨e1, e2, e3, e4, e24, e25, e28, e29, e30, hkM, rM1, rM2, oF, oL⟩
    by_cases hlti : i < es.length
    · have hrd : M.rd none (some 4) (v.sat i 4) = some (.agg (E4.enc es[i])) := (ov.sls.keeps hkM).rd (by simp [hlti]) rfl
      have wi1 : IntKind.i64.wrap ((i : Int) + 1) = (i : Int) + 1 := w64 (by omega) (by omega)
      have hin' := hin es[i] (List.getElem_mem hlti)
      obtain ⟨Y, hY⟩ : ∃ Y, Y = passL false (es.take i) X := ⟨_, rfl⟩
      obtain ⟨V, hV⟩ : ∃ V, V = passL true (es.take i) Z := ⟨_, rfl⟩
      have hYl : Y.length = bs.length := by rw [hY, pass_len, hXl]
      have hVl : V.length = bs.length := by rw [hV, pass_len, hZl]
      have hsY : passL false (es.take (i + 1)) X = stepE false Y es[i] := by
        rw [List.take_add_one, List.getElem?_eq_getElem hlti]
        show passL false (es.take i ++ [es[i]]) X = _
        rw [pass_snoc, ← hY]
      have hsV : passL true (es.take (i + 1)) Z = stepE true V es[i] := by
        rw [List.take_add_one, List.getElem?_eq_getElem hlti]
        show passL true (es.take i ++ [es[i]]) Z = _
        rw [pass_snoc, ← hV]
      rw [← hY] at oF
      rw [← hV] at oL
      obtain ⟨el, hel⟩ : ∃ el, el = es[i] := ⟨_, rfl⟩
      rw [← hel] at hrd hin' hsY hsV
      have t1 : el.f < bs.length := by omega
      have t2 : el.t < bs.length := by omega
      have t1' : el.f.toNat < bs.length := by omega
      have t2' : el.t.toNat < bs.length := by omega
      have llw : lw.slen = bs.length := by rw [oL.len]; simp [hVl]
      simp [e1, e2, e3, e4, e24, e25, e28, e29, e30, ov.isSl, hlv, hlti, hrd]
      intro n6 b6 f6
      simp [make_of f6 b6, new4 (base := base) (K := M) (nb := n6) (z := [.int .i64 0, .int .i64 0, .str ⟨#[]⟩, .str ⟨#[]⟩]) (e := el) rfl b6]
      obtain ⟨N1, hN1⟩ : ∃ N1, N1 = M.set n6 (.arr 54 el.enc) := ⟨_, rfl⟩
      have kN1 : M.Keeps N1 := by rw [hN1]; exact BH.keeps_set _ f6
      have r6 : N1.row n6 = .arr 54 el.enc := by rw [hN1, BH.row_set_eq]
      rw [← hN1]
      have oF1 := oF.keeps kN1
      have oL1 := oL.keeps kN1
      have hkN1 := hkM.trans kN1
      have rN1 : N1.row n1 = .arr 34 [.int .i64 s, u, v] := by rw [kN1 n1 (by rw [rM1]; simp), rM1]
      have rN2 : N1.row n2 = .arr 34 [.int .i64 0, .nils, .nils] := by rw [kN1 n2 (by rw [rM2]; simp), rM2]
      obtain ⟨z0, z1, _, _⟩ := edge_rd r6
      have n63 : n6 ≠ n3 := by rintro rfl; have := oF1.live rfl; rw [r6] at this; cases this
      have n6l : n6 ≠ l2 := by rintro rfl; have := oL1.live rfl; rw [r6] at this; cases this
      have rdF : ∀ q : Nat, q < bs.length → N1.rd none none (.ptr n3 q) = some (.bool (Y.getD q false)) := fun q hq => by
        have := oF1.sls.rd1 (i := q) (c := .bool (Y.getD q false)) (by simp [encB, hYl, hq]) (rt := none) rfl
        simpa [sat_sl] using this
      have fF := rdF el.f.toNat t1'
      have tF := rdF el.t.toNat t2'
      -- forward
      obtain ⟨_, N2, hwF, oF2, hkF⟩ := own_setB (x := (Y.getD el.t.toNat false || Y.getD el.f.toNat false)) oF1 (t := el.t.toNat) (by omega)
      have oF2' : OwnN base N2 4 1 (.sl n3 0 bs.length) ((passL false (es.take (i + 1)) X).map encB) (some n3) := by rw [hsY]; exact oF2
      have oL2 : OwnN base N2 4 1 lw (V.map encB) (some l2) := oL1.stay fun d hd => by cases hd; exact hkF l2 nl3
      have hkN2 := keeps_num hkN1 f3H hkF
      have rN12 : N2.row n1 = .arr 34 [.int .i64 s, u, v] := by rw [hkF n1 n13, rN1]
      have rN22 : N2.row n2 = .arr 34 [.int .i64 0, .nils, .nils] := by rw [hkF n2 n23, rN2]
      have r62 : N2.row n6 = .arr 54 el.enc := by rw [hkF n6 n63, r6]
      obtain ⟨y0, y1, _, _⟩ := edge_rd r62
      -- backward
      have rdL : ∀ q : Nat, q < bs.length → N2.rd none none (lw.sat q 1) = some (.bool (V.getD q false)) := fun q hq => oL2.sls.rd1 (i := q) (by simp [encB, hVl, hq]) rfl
      have fL := rdL el.f.toNat t1'
      have tL := rdL el.t.toNat t2'
      obtain ⟨hsatL, N3, hwL, oL3, hkL⟩ := own_setB (x := (V.getD el.f.toNat false || V.getD el.t.toNat false)) oL2 (t := el.f.toNat) (by omega)
      have oL3' : OwnN base N3 4 1 lw ((passL true (es.take (i + 1)) Z).map encB) (some l2) := by rw [hsV]; exact oL3
      have oF3 : OwnN base N3 4 1 (.sl n3 0 bs.length) ((passL false (es.take (i + 1)) X).map encB) (some n3) := oF2'.stay fun d hd => by cases hd; exact hkL n3 (Ne.symm nl3)
      have hkN3 := keeps_num hkN2 fl2 hkL
      have rN13 : N3.row n1 = .arr 34 [.int .i64 s, u, v] := by rw [hkL n1 n1l, rN12]
      have rN23 : N3.row n2 = .arr 34 [.int .i64 0, .nils, .nils] := by rw [hkL n2 n2l, rN22]
      obtain ⟨yf, hyf⟩ : ∃ x, x = Y.getD el.f.toNat false := ⟨_, rfl⟩
      obtain ⟨yt, hyt⟩ : ∃ x, x = Y.getD el.t.toNat false := ⟨_, rfl⟩
      obtain ⟨vf, hvf⟩ : ∃ x, x = V.getD el.f.toNat false := ⟨_, rfl⟩
      obtain ⟨vt, hvt⟩ : ∃ x, x = V.getD el.t.toNat false := ⟨_, rfl⟩
      rw [← hyf] at fF
      rw [← hyt] at tF
      rw [← hyf, ← hyt] at hwF
      rw [← hvf] at fL
      rw [← hvt] at tL
      rw [← hvf, ← hvt] at hwL
      simp [e1, e2, e3, e4, e24, e25, e28, e29, e30, z0, z1, hin'.1, hin'.2.2.1, t1, t2]
      rw [tF]
      simp only [Option.map_some, after_some, puto_some]
      refine wpO_cut (fun e M => e 1 = .ptr n1 0 ∧ e 2 = .ptr n2 0 ∧ e 3 = .sl n3 0 bs.length ∧ e 4 = lw ∧ e 24 = .int .i64 bs.length ∧ e 25 = .int .i64 k ∧ e 28 = v ∧ e 29 = .int .i64 es.length ∧ e 30 = .int .i64 i ∧ e 6 = .ptr n6 0 ∧ M = N2) ?_ ?_
      · cases yt
        · rw [Bool.false_or] at hwF
          simp [e1, e2, e3, e4, e24, e25, e28, e29, e30, z0, z1, hin'.1, hin'.2.2.1, t1, t2, fF, hwF]
        · rw [Bool.true_or] at hwF
          simp [e1, e2, e3, e4, e24, e25, e28, e29, e30, z0, z1, hin'.1, hin'.2.2.1, t1, t2, hwF]
      clear e1 e2 e3 e4 e24 e25 e28 e29 e30
      rintro e M ⟨e1, e2, e3, e4, e24, e25, e28, e29, e30, e6, rfl⟩
      simp [e1, e2, e3, e4, e24, e25, e28, e29, e30, e6, y0, y1, hin'.1, hin'.2.2.1, t1, t2, oL2.isSl, llw]
      rw [fL]
      simp only [Option.map_some, after_some, puto_some]
      refine wpO_cut (fun e M => e 1 = .ptr n1 0 ∧ e 2 = .ptr n2 0 ∧ e 3 = .sl n3 0 bs.length ∧ e 4 = lw ∧ e 24 = .int .i64 bs.length ∧ e 25 = .int .i64 k ∧ e 28 = v ∧ e 29 = .int .i64 es.length ∧ e 30 = .int .i64 i ∧ M = N3) ?_ ?_
      · cases vf
        · rw [Bool.false_or] at hwL
          simp [e1, e2, e3, e4, e24, e25, e28, e29, e30, e6, y0, y1, hin'.1, hin'.2.2.1, t1, t2, oL2.isSl, llw, tL, hsatL, hwL]
        · rw [Bool.true_or] at hwL
          simp [e1, e2, e3, e4, e24, e25, e28, e29, e30, e6, y0, y1, hin'.1, hin'.2.2.1, t1, t2, oL2.isSl, llw, hsatL, hwL]
      clear e1 e2 e3 e4 e24 e25 e28 e29 e30 e6
      rintro e M' ⟨e1, e2, e3, e4, e24, e25, e28, e29, e30, rfl⟩
      simp [e1, e2, e3, e4, e24, e25, e28, e29, e30, wi1, hlti]
      exact ⟨hkN3, rN13, rN23, oF3, oL3'⟩
    · have hie : i = es.length := by omega
      subst hie
      rw [List.take_length] at oF oL
      simp [e1, e2, e3, e4, e24, e25, e28, e29, e30, wk1, hlt]
      refine ⟨hkM, rM1, rM2, ?_, ?_⟩
      · have : iter (passL false es) (k + 1) (startB bs.length s) = passL false es X := by rw [hX]; rfl
        rw [this]
        exact oF
      · have : iter (passL true es) (k + 1) bs = passL true es Z := by rw [hZ]; rfl
        rw [this]
        exact oL
  have hke : k = bs.length := by omega
  subst hke
  obtain ⟨F, hF⟩ : ∃ F, F = iter (passL false es) bs.length (startB bs.length s) := ⟨_, rfl⟩
  obtain ⟨L, hL⟩ : ∃ L, L = iter (passL true es) bs.length bs := ⟨_, rfl⟩
  rw [← hF] at ownF
  rw [← hL] at ownL
  obtain ⟨_, _, _, x3⟩ := rows3 rK1 (rt := none) rfl
  obtain ⟨A5, r5, k5⟩ := c65 (base := base) s bs u v K (ou.sls.keeps hk) hv1
  simp [e1, e2, e3, e4, e24, e25, x3]
  refine ⟨_, A5, r5, BH.KeepsTys.nil _ _, ?_⟩
  have kHA5 := hk.trans k5
  have own3A5 := ownF.keeps k5
  have own5 := ownL.keeps k5
  have a15 : A5.row n1 = .arr 34 [.int .i64 s, u, v] := by rw [k5 n1 (by rw [rK1]; simp), rK1]
  have a25 : A5.row n2 = .arr 34 [.int .i64 0, .nils, .nils] := by rw [k5 n2 (by rw [rK2]; simp), rK2]
  -- the numbers
  have hc8 : 8 * (bs.length : Int) ≤ 140737488355328 := by omega
  simp [hc1, hc8]
  intro n6 b6 f6
  simp [make_of f6 b6, fillB]
  obtain ⟨rq, hrq⟩ : ∃ rq, rq = List.replicate bs.length (BV.int .i64 0) := ⟨_, rfl⟩
  rw [← hrq]
  obtain ⟨A6, hA6⟩ : ∃ A6, A6 = A5.set n6 (.arr 2 rq) := ⟨_, rfl⟩
  have kA6 : A5.Keeps A6 := by rw [hA6]; exact BH.keeps_set _ f6
  have own6 : OwnN base A6 2 1 (.sl n6 0 bs.length) (List.replicate bs.length (encI 0)) (some n6) := ⟨by simp, by rw [hA6, BH.row_set_eq, hrq]; simp [encI], b6, by
    intro x hx
    rw [List.mem_replicate] at hx
    rw [hx.2]
    rfl⟩
  rw [← hA6]
  intro n7 b7 f7
  simp [make_of f7 b7]
  obtain ⟨B, hB⟩ : ∃ B, B = A6.set n7 (.arr 34 [.int .i64 0, .nils, .nils]) := ⟨_, rfl⟩
  have kB6 : A6.Keeps B := by rw [hB]; exact BH.keeps_set _ f7
  have kB5 := kA6.trans kB6
  have kHB := kHA5.trans kB5
  have rB : B.row n7 = .arr 34 [.int .i64 0, .nils, .nils] := by rw [hB, BH.row_set_eq]
  rw [← hB]
  have f6H : H.row n6 = .fresh := kHA5.fresh f6
  have bl : Bld base H B n7 0 .nils .nils [] [] none none := ⟨rB, ⟨rfl, rfl⟩, ⟨rfl, rfl⟩, Fr.none, Fr.none, (kHA5.trans kA6).fresh f7, b7⟩
  have onB := own6.keeps kB6
  have ofB : OwnN base B 4 1 (.sl n3 0 bs.length) (F.map encB) (some n3) := own3A5.keeps kB5
  have olB : OwnN base B 4 1 lw (L.map encB) (some l2) := own5.keeps kB5
  have rB1 : B.row n1 = .arr 34 [.int .i64 s, u, v] := by rw [kB5 n1 (by rw [a15]; simp), a15]
  have rB2 : B.row n2 = .arr 34 [.int .i64 0, .nils, .nils] := by rw [kB5 n2 (by rw [a25]; simp), a25]
  have frF : ∀ d, some n3 = some d → d ≠ n7 ∧ d ≠ n6 ∧ (none : Option Nat) ≠ some d ∧ (none : Option Nat) ≠ some d := fun d hd => by
    cases hd
    refine ⟨?_, ?_, by simp, by simp⟩
    · rintro rfl
      have := ofB.live rfl
      rw [rB] at this
      cases this
    · rintro rfl
      have := own3A5.live rfl
      rw [f6] at this
      cases this
  have frL : ∀ d, some l2 = some d → d ≠ n7 ∧ d ≠ n6 ∧ (none : Option Nat) ≠ some d ∧ (none : Option Nat) ≠ some d := fun d hd => by
    cases hd
    refine ⟨?_, ?_, by simp, by simp⟩
    · rintro rfl
      have := olB.live rfl
      rw [rB] at this
      cases this
    · rintro rfl
      have := own5.live rfl
      rw [f6] at this
      cases this
  have n17 : n1 ≠ n7 := by rintro rfl; rw [kA6 n1 (by rw [a15]; simp), a15] at f7; cases f7
  have n16 : n1 ≠ n6 := by rintro rfl; rw [f6] at a15; cases a15
  have n27 : n2 ≠ n7 := by rintro rfl; rw [kA6 n2 (by rw [a25]; simp), a25] at f7; cases f7
  have n26 : n2 ≠ n6 := by rintro rfl; rw [f6] at a25; cases a25
  have lF : F.length = bs.length := by rw [hF, iter_len, hstl]
  have lL : L.length = bs.length := by rw [hL, iter_len]
  obtain ⟨sel, hsel⟩ : ∃ sel, sel = selT s bs es := ⟨_, rfl⟩
  have selq : ∀ q, sel q = ((F.getD q false && L.getD q false) || ((q : Int) == s)) := fun q => by rw [hsel, hF, hL]; rfl
  rw [← hsel]
  obtain ⟨zs, hzs⟩ : ∃ zs, zs = List.replicate bs.length (encI 0) := ⟨_, rfl⟩
  have hzl : zs.length = bs.length := by rw [hzs]; simp
  rw [← hzs] at onB
  clear e24 e25
  refine wpC_count bs.length (fun q e K => e 1 = .ptr n1 0 ∧ e 2 = .ptr n2 0 ∧ e 3 = .sl n3 0 bs.length ∧ e 4 = lw ∧ e 7 = .sl n6 0 bs.length ∧ e 8 = .ptr n7 0 ∧ e 72 = .int .i64 bs.length ∧ e 73 = .int .i64 q ∧ H.Keeps K ∧
    OwnN base K 2 1 (.sl n6 0 bs.length) (mixOf (fun q => encI (numS sel q)) zs q) (some n6) ∧ ∃ w bo, Bld base H K n7 0 w .nils (accS sel bs q) [] bo none ∧ Sx n7 n6 none none B K bo none) (i0 := 0) ?_ (Nat.zero_le _) ?_
  · exact ⟨by simp [e1], by simp [e2], by simp [e3], by simp [e4], by simp, by simp, by simp, by simp, kHB, by rw [mix_zero]; exact onB, .nils, none, by simpa [accS] using bl, Sx.refl⟩
  clear e1 e2 e3 e4 rK1 rK2 ownF ownL
  rintro q e K hq ⟨e1, e2, e3, e4, e7, e8, e72, e73, hk, own, w, bo, bld, sx⟩
  by_cases hlt : q < bs.length
  · have hmq : q < (mixOf (fun q => encI (numS sel q)) zs q).length := by rw [mix_len (by omega)]; omega
    have hset := mix_set (f := fun q => encI (numS sel q)) (xs := zs) (i := q) (by omega)
    have wq1 : IntKind.i64.wrap ((q : Int) + 1) = (q : Int) + 1 := w64 (by omega) (by omega)
    obtain ⟨hsn, K1, hwn, ownN1, hkn1⟩ := own_setI (x := -1) own hmq
    simp only [sat_sl, Nat.zero_add, Nat.mul_one] at hsn
    have hkK1 := keeps_num hk f6H hkn1
    have bld1 := bld.num (own.live rfl) hkn1
    have sx1 := sx.num hkn1
    have ofK := sx1.own ofB frF
    have olK := sx1.own olB frL
    have rK11 : K1.row n1 = .arr 34 [.int .i64 s, u, v] := by rw [(sx1 n1 (by rw [rB1]; simp) n17 n16 (by simp) (by simp)).1, rB1]
    obtain ⟨x0, x1, _, _⟩ := rows3 rK11 (rt := none) rfl
    have rdF : K1.rd none none (.ptr n3 q) = some (.bool (F.getD q false)) := by
      have := ofK.sls.rd1 (i := q) (c := .bool (F.getD q false)) (by simp [encB, lF, hlt]) (rt := none) rfl
      simpa [sat_sl] using this
    have rdL : K1.rd none none (lw.sat q 1) = some (.bool (L.getD q false)) := olK.sls.rd1 (i := q) (by simp [encB, lL, hlt]) rfl
    have lw2 : lw.slen = bs.length := by rw [olK.len]; simp [lL]
    simp [e1, e2, e3, e4, e7, e8, e72, e73, hlt, hwn]
    rw [rdF]
    simp only [Option.map_some, after_some, puto_some]
    refine wpO_cut (fun e M => e 1 = .ptr n1 0 ∧ e 2 = .ptr n2 0 ∧ e 3 = .sl n3 0 bs.length ∧ e 4 = lw ∧ e 7 = .sl n6 0 bs.length ∧ e 8 = .ptr n7 0 ∧ e 72 = .int .i64 bs.length ∧ e 73 = .int .i64 q ∧ e 9 = .int .i64 q ∧ e 94 = .bool (sel q) ∧ M = K1) ?_ ?_
    · rw [selq]
      cases c1 : F.getD q false
      · simp [e1, e2, e3, e4, e7, e8, e72, e73, x0]
      · cases c2 : L.getD q false
        · rw [c2] at rdL
          simp [e1, e2, e3, e4, e7, e8, e72, e73, olK.isSl, lw2, hlt, rdL, x0]
        · rw [c2] at rdL
          simp [e1, e2, e3, e4, e7, e8, e72, e73, olK.isSl, lw2, hlt, rdL, x0]
    clear e1 e2 e3 e4 e7 e8 e72 e73
    rintro e M ⟨e1, e2, e3, e4, e7, e8, e72, e73, e9, e94, rfl⟩
    cases hs : sel q
    · rw [hs] at e94
      simp [e1, e2, e3, e4, e7, e8, e72, e73, e9, e94, wq1]
      have hnum : numS sel q = -1 := by simp [numS, hs]
      have hacc := accS_succ (sel := sel) (bs := bs) (i := q)
      rw [hs] at hacc
      simp only [Bool.false_eq_true, if_false, List.append_nil] at hacc
      refine ⟨hkK1, ?_, w, bo, by rw [hacc]; exact bld1, sx1⟩
      rw [← hset, hnum]
      exact ownN1
    · rw [hs] at e94
      have hnum : numS sel q = cntS sel q := by simp [numS, hs]
      have hacc := accS_succ (sel := sel) (bs := bs) (i := q)
      rw [hs] at hacc
      simp only [if_true] at hacc
      have hcn := cntS_le (sel := sel) (i := q)
      obtain ⟨_, _, _, y3⟩ := bld1.rd (rt := none) rfl
      obtain ⟨K1c, rc, kc⟩ := c65 (base := base) 0 (accS sel bs q) w .nils M bld1.fl.sls rfl
      rw [accS_len] at rc
      have bld1c := bld1.keeps kc
      have ownN1c := ownN1.keeps kc
      have sx1c := sx1.keeps kc
      have hkK1c := hkK1.trans kc
      obtain ⟨hsn2, K2, hwn2, ownN2, hkn2⟩ := own_setI (t := q) (x := (cntS sel q : Int)) ownN1c (by rw [List.length_set]; exact hmq)
      rw [List.set_set] at ownN2
      have ownN2' : OwnN base K2 2 1 (.sl n6 0 bs.length) (mixOf (fun q => encI (numS sel q)) zs (q + 1)) (some n6) := by rw [← hset, hnum]; exact ownN2
      have hkK2 := keeps_num hkK1c f6H hkn2
      have bld2 := bld1c.num (ownN1c.live rfl) hkn2
      have sx2 := sx1c.num hkn2
      have rK21 : K2.row n1 = .arr 34 [.int .i64 s, u, v] := by rw [(sx2 n1 (by rw [rB1]; simp) n17 n16 (by simp) (by simp)).1, rB1]
      obtain ⟨_, z1, _, _⟩ := rows3 rK21 (rt := none) rfl
      obtain ⟨_, y21, _, _⟩ := bld2.rd (rt := none) rfl
      have rdb : K2.rd none none (u.sat q 1) = some (.bool bs[q]) := (ou.sls.keeps hkK2).rd1 (by simp [hlt, encB]) rfl
      simp [e1, e2, e3, e4, e7, e8, e72, e73, e9, e94, y3]
      refine ⟨_, K1c, rc, BH.KeepsTys.nil _ _, ?_⟩
      simp [e1, e2, e3, e4, e7, e8, e72, e73, e9, hlt, hwn2, y21, z1, ou.isSl, hlu, rdb, fillB]
      intro na hna fna
      simp [make_of fna hna]
      intro nb hnb fnb
      obtain ⟨w', K', K3, bo', i1, i2, i3, i4, i5⟩ := bld2.push1B hkK2 bs[q] (by rw [accS_len]; omega) fna fnb hnb
      simp [i1, i2, e1, e2, e3, e4, e7, e8, e72, e73, e9, wq1, hlt]
      refine ⟨i4, num_keep ownN2' bld2 i5, w', bo', ?_, sx2.sf i5⟩
      rw [hacc]
      have : bs.getD q false = bs[q] := by simp [List.getD, List.getElem?_eq_getElem hlt]
      rw [this]
      exact i3
  have hqe : q = bs.length := by omega
  subst hqe
  have numAt : ∀ (rt : Option Nat) (K : BH), rtOk rt 2 = true → OwnN base K 2 1 (.sl n6 0 bs.length) (mixOf (fun q => encI (numS sel q)) zs bs.length) (some n6) → ∀ i : Nat, i < bs.length → K.rd rt none (.ptr n6 i) = some (.int .i64 (numS sel i)) := fun rt K hrt own i hi => by
    have := own.sls.rd1 (i := i) (c := .int .i64 (numS sel i)) (by rw [mix_at hi (by omega)]; rfl) (rt := rt) hrt
    simpa [sat_sl] using this
  have rK11 : K.row n1 = .arr 34 [.int .i64 s, u, v] := by rw [(sx n1 (by rw [rB1]; simp) n17 n16 (by simp) (by simp)).1, rB1]
  obtain ⟨x0, _, _, _⟩ := rows3 rK11 (rt := none) rfl
  have rdS := numAt none K rfl own s.toNat hst
  obtain ⟨K2, hwS, bldS, hkS, sfS⟩ := bld.start (s' := numS sel s.toNat) hk
  have ownS := num_keep own bld sfS
  have sxS := sx.sf sfS
  have rS1 : K2.row n1 = .arr 34 [.int .i64 s, u, v] := by rw [(sxS n1 (by rw [rB1]; simp) n17 n16 (by simp) (by simp)).1, rB1]
  obtain ⟨_, _, x2, _⟩ := rows3 rS1 (rt := none) rfl
  simp [e1, e2, e3, e4, e7, e8, e72, e73, x0, hs0, hs1', rdS, hwS, x2, ov.isSl, hlv]
  refine wpC_count es.length (fun i e N => e 2 = .ptr n2 0 ∧ e 7 = .sl n6 0 bs.length ∧ e 8 = .ptr n7 0 ∧ e 118 = v ∧ e 119 = .int .i64 es.length ∧ e 120 = .int .i64 i ∧ H.Keeps N ∧
    OwnN base N 2 1 (.sl n6 0 bs.length) (mixOf (fun q => encI (numS sel q)) zs bs.length) (some n6) ∧ ∃ x co, Bld base H N n7 (numS sel s.toNat) w x (accS sel bs bs.length) ((es.take i).flatMap (selE sel)) bo co ∧ Sx n7 n6 none none B N bo co) (i0 := 0) ?_ (Nat.zero_le _) ?_
  · exact ⟨by simp [e2], by simp [e7], by simp [e8], by simp, by simp, by simp, hkS, ownS, .nils, none, by simpa using bldS, sxS⟩
  clear e1 e2 e3 e4 e7 e8 e72 e73
  rintro i e N hi ⟨e2, e7, e8, e118, e119, e120, hkN, ownN, xN, coN, bldN, sxN⟩
  by_cases hlt : i < es.length
  · have hrd : N.rd none (some 4) (v.sat i 4) = some (.agg (E4.enc es[i])) := (ov.sls.keeps hkN).rd (by simp [hlt]) rfl
    have wi1 : IntKind.i64.wrap ((i : Int) + 1) = (i : Int) + 1 := w64 (by omega) (by omega)
    have htk := take_flatMap_succ (f := selE sel) hlt
    have hin' := hin es[i] (List.getElem_mem hlt)
    obtain ⟨el, hel⟩ : ∃ el, el = es[i] := ⟨_, rfl⟩
    rw [← hel] at hrd htk hin'
    have hp := flatMap_len (l := es.take i) (f := selE sel) (B := 1) fun _ _ => selE_len
    simp [e2, e7, e8, e118, e119, e120, ov.isSl, hlv, hlt, hrd]
    intro n10 b10 f10
    simp [make_of f10 b10, new4 (base := base) (K := N) (nb := n10) (z := [.int .i64 0, .int .i64 0, .str ⟨#[]⟩, .str ⟨#[]⟩]) (e := el) rfl b10]
    obtain ⟨N1, hN1⟩ : ∃ N1, N1 = N.set n10 (.arr 54 el.enc) := ⟨_, rfl⟩
    have kN1 : N.Keeps N1 := by rw [hN1]; exact BH.keeps_set _ f10
    have r10 : N1.row n10 = .arr 54 el.enc := by rw [hN1, BH.row_set_eq]
    rw [← hN1]
    have bldN1 := bldN.keeps kN1
    have hkN1 := hkN.trans kN1
    have sxN1 := sxN.keeps kN1
    have ownN1 := ownN.keeps kN1
    obtain ⟨z0, z1, z2, z3⟩ := edge_rd r10
    have g1 := numAt none N1 rfl ownN1 el.f.toNat (by omega)
    have g2 := numAt none N1 rfl ownN1 el.t.toNat (by omega)
    have g3 := numAt (some 2) N1 rfl ownN1 el.t.toNat (by omega)
    have t1 : el.f < bs.length := by omega
    have t2 : el.t < bs.length := by omega
    by_cases c1 : 0 ≤ numS sel el.f.toNat
    · by_cases c2 : 0 ≤ numS sel el.t.toNat
      · have hse : selE sel el = [⟨numS sel el.f.toNat, numS sel el.t.toNat, el.i, el.o⟩] := by simp [selE, c1, c2]
        rw [hse] at htk
        obtain ⟨nf, hnf⟩ : ∃ nf, nf = numS sel el.f.toNat := ⟨_, rfl⟩
        obtain ⟨nt, hnt⟩ : ∃ nt, nt = numS sel el.t.toNat := ⟨_, rfl⟩
        rw [← hnf] at g1 c1 htk
        rw [← hnt] at g2 g3 c2 htk
        have w0 : N1.wr base (some 54) 1 (.ptr n10 0) (.int .i64 nf) = some (N1.set n10 (.arr 54 (E4.mk nf el.t el.i el.o).enc)) := by
          rw [wr_row (ty := 54) (n := 1) (o := 0) (v := .int .i64 nf) r10 rfl b10 rfl (by simp [encE_len]) rfl]
          rfl
        obtain ⟨N2, hN2⟩ : ∃ N2, N2 = N1.set n10 (.arr 54 (E4.mk nf el.t el.i el.o).enc) := ⟨_, rfl⟩
        rw [← hN2] at w0
        have r102 : N2.row n10 = .arr 54 (E4.mk nf el.t el.i el.o).enc := by rw [hN2, BH.row_set_eq]
        have w1 := edge_wr1 (base := base) (x := nt) r102 b10
        obtain ⟨N3, hN3⟩ : ∃ N3, N3 = N2.set n10 (.arr 54 (E4.mk nf nt el.i el.o).enc) := ⟨_, rfl⟩
        have w1' : N2.wr base none 1 (.ptr n10 1) (.int .i64 nt) = some N3 := by rw [w1, hN3]
        have r103 : N3.row n10 = .arr 54 (E4.mk nf nt el.i el.o).enc := by rw [hN3, BH.row_set_eq]
        have kN3 : N.Keeps N3 := by rw [hN3, hN2]; exact (kN1.set f10 _).set f10 _
        have bldN3 := bldN.keeps kN3
        have hkN3 := hkN.trans kN3
        have sxN3 := sxN.keeps kN3
        have ownN3 := ownN.keeps kN3
        obtain ⟨_, _, y2, _⟩ := bldN3.rd (rt := none) rfl
        have z4 := edge_rd4 r103
        have hfill : fillB [.int .i64 0, .int .i64 0, .str ⟨#[]⟩, .str ⟨#[]⟩] [(0, 4, .agg (E4.mk nf nt el.i el.o).enc)] = some (E4.mk nf nt el.i el.o).enc := rfl
        simp [e2, e7, e8, e118, e119, e120, z0, z1, hin'.1, hin'.2.2.1, t1, t2, g1, g2, g3, c1, c2, w0, w1', y2, z4, hfill]
        intro na hna fna
        simp [make_of fna hna]
        intro nb hnb fnb
        obtain ⟨v'', K5, K6, co', i1, i2, i3, i4, i5⟩ := bldN3.push1S hkN3 ⟨nf, nt, el.i, el.o⟩ (by simp only [List.length_take] at hp; omega) fna (nb := nb) fnb hnb
        simp [i1, i2, e2, e7, e8, e118, e119, e120, hlt, wi1]
        refine ⟨i4, num_keep ownN3 bldN3 i5, v'', co', ?_, sxN3.sf i5⟩
        rw [htk]
        exact i3
      · have hse : selE sel el = [] := by simp [selE, c2]
        rw [hse, List.append_nil] at htk
        simp [e2, e7, e8, e118, e119, e120, z0, z1, hin'.1, hin'.2.2.1, t1, t2, g1, g2, c1, c2, wi1]
        exact ⟨hkN1, ownN1, xN, coN, by rw [htk]; exact bldN1, sxN1⟩
    · have hse : selE sel el = [] := by simp [selE, c1]
      rw [hse, List.append_nil] at htk
      simp [e2, e7, e8, e118, e119, e120, z0, hin'.1, t1, g1, c1, wi1]
      exact ⟨hkN1, ownN1, xN, coN, by rw [htk]; exact bldN1, sxN1⟩
  · have hie : i = es.length := by omega
    subst hie
    rw [List.take_length] at bldN
    have rN2 : N.row n2 = .arr 34 [.int .i64 0, .nils, .nils] := by rw [(sxN n2 (by rw [rB2]; simp) n27 n26 (by simp) (by simp)).1, rB2]
    obtain ⟨_, _, _, y3⟩ := bldN.rd (rt := none) rfl
    have hw := set3 (base := base) rN2 b2 (one_int (k := .i64) (n := numS sel s.toNat)) bldN.fl.one bldN.ed.one
    obtain ⟨_, _, _, z4⟩ := rows3 (K := N.set n2 (.arr 34 [.int .i64 (numS sel s.toNat), w, xN])) (n := n2) (BH.row_set_eq _ _ _) (rt := none) rfl
    simp [e2, e7, e8, e118, e119, e120, y3, hw, z4]
    refine ⟨hkN.set g2 _, w, xN, ⟨rfl, rfl⟩, bo, bldN.fl.stay fun d hd => BH.row_set_ne _ _ ?_, coN, bldN.ed.stay fun d hd => BH.row_set_ne _ _ ?_, bldN.fb, bldN.fc⟩
    · rintro rfl
      exact ne_row bldN.fl rN2 (by omega) hd
    · rintro rfl
      exact ne_row bldN.ed rN2 (by omega) hd

/-- TrimTransducer, by the program. -/
theorem c38 : Fun1 base 38 trimF := by
  intro s bs es u v b c H ou ov hn hn'
  refine call_of_wp (fn := ir38) (R := fun x H' => H.Keeps H' ∧ ResT base H H' x (trimF s bs es)) rfl ?_
  have hu1 := one_of_isSl ou.isSl
  have hv1 := one_of_isSl ov.isSl
  simp [ir38, hu1, hv1]
  intro n1 b1 f1
  simp [make_of f1 b1]
  intro n2 b2 f2
  obtain ⟨d21, g2⟩ := fresh_set (by simp) f2
  simp [make_of f2 b2]
  obtain ⟨A, hA⟩ : ∃ A, A = (H.set n1 (.arr 34 [.int .i64 s, u, v])).set n2 (.arr 34 [.int .i64 0, .nils, .nils]) := ⟨_, rfl⟩
  have kA : H.Keeps A := by rw [hA]; exact (BH.keeps_set _ f1).set g2 _
  have a1 : A.row n1 = .arr 34 [.int .i64 s, u, v] := by rw [hA]; simp [BH.row_set, Ne.symm d21]
  have a2 : A.row n2 = .arr 34 [.int .i64 0, .nils, .nils] := by rw [hA]; simp [BH.row_set]
  rw [← hA]
  obtain ⟨q1, q2, q3, q4⟩ := rows3 a1 (rt := none) rfl
  obtain ⟨A1, r1, k1⟩ := c21 (base := base) s bs es u v A (ou.sls.keeps kA) (ov.sls.keeps kA) (by omega) (by omega)
  simp [q4]
  refine ⟨_, A1, r1, BH.KeepsTys.nil _ _, ?_⟩
  have a2' : A1.row n2 = .arr 34 [.int .i64 0, .nils, .nils] := by rw [k1 n2 (by rw [a2]; simp), a2]
  have kA1 := kA.trans k1
  cases q : validB s bs.length es
  · have hq : trimF s bs es = errT 1 := by simp [trimF, q]
    rw [hq]
    have hw := set3 (base := base) a2' b2 (one_int (k := .i64) (n := 0)) one_nils one_nils
    obtain ⟨z1, z2, z3, z4⟩ := rows3 (K := A1.set n2 (.arr 34 [.int .i64 0, .nils, .nils])) (n := n2) (BH.row_set_eq _ _ _) (rt := none) rfl
    simp [fillB, hw, z4]
    exact ⟨kA1.set g2 _, .nils, .nils, none, none, rfl, ⟨rfl, rfl⟩, ⟨rfl, rfl⟩, Fr.none, Fr.none⟩
  · have hq : trimF s bs es = ⟨numS (selT s bs es) s.toNat, accS (selT s bs es) bs bs.length, es.flatMap (selE (selT s bs es)), 0⟩ := by simp [trimF, q]
    rw [hq]
    have a1' : A1.row n1 = .arr 34 [.int .i64 s, u, v] := by rw [k1 n1 (by rw [a1]; simp), a1]
    obtain ⟨w1, w2, w3, w4⟩ := rows3 a1' (rt := none) rfl
    obtain ⟨x, A2, r2, k2, u', v', bo, co, rfl, ob, oc, fb, fc⟩ := c71 (base := base) s bs es u v b c A1 ((ou.keeps kA).keeps k1) ((ov.keeps kA).keeps k1) q
    simp [w4]
    refine ⟨_, A2, r2, BH.KeepsTys.nil _ _, ?_⟩
    have a2'' : A2.row n2 = .arr 34 [.int .i64 0, .nils, .nils] := by rw [k2 n2 (by rw [a2']; simp), a2']
    have hw := set3 (base := base) a2'' b2 (one_int (k := .i64) (n := numS (selT s bs es) s.toNat)) ob.one oc.one
    obtain ⟨z1, z2, z3, z4⟩ := rows3 (K := A2.set n2 (.arr 34 [.int .i64 (numS (selT s bs es) s.toNat), u', v'])) (n := n2) (BH.row_set_eq _ _ _) (rt := none) rfl
    simp [hw, z4]
    refine ⟨(kA1.trans k2).set g2 _, u', v', bo, co, rfl, ob.stay fun d hd => BH.row_set_ne _ _ ?_, oc.stay fun d hd => BH.row_set_ne _ _ ?_, fun d hd => kA1.fresh (fb d hd), fun d hd => kA1.fresh (fc d hd)⟩
    · rintro rfl
      exact ne_row ob a2'' (by omega) hd
    · rintro rfl
      exact ne_row oc a2'' (by omega) hd

/-- TrimTransducer, by the book. -/
theorem c37 : Fun1 base 37 trimF := by
  intro s bs es u v b c H ou ov hn hn'
  refine call_of_wp (fn := ir37) (R := fun x H' => H.Keeps H' ∧ ResT base H H' x (trimF s bs es)) rfl ?_
  have hu1 := one_of_isSl ou.isSl
  have hv1 := one_of_isSl ov.isSl
  simp [ir37, hu1, hv1]
  intro n1 b1 f1
  simp [make_of f1 b1]
  intro n2 b2 f2
  obtain ⟨d21, g2⟩ := fresh_set (by simp) f2
  simp [make_of f2 b2]
  obtain ⟨A, hA⟩ : ∃ A, A = (H.set n1 (.arr 34 [.int .i64 s, u, v])).set n2 (.arr 34 [.int .i64 0, .nils, .nils]) := ⟨_, rfl⟩
  have kA : H.Keeps A := by rw [hA]; exact (BH.keeps_set _ f1).set g2 _
  have a1 : A.row n1 = .arr 34 [.int .i64 s, u, v] := by rw [hA]; simp [BH.row_set, Ne.symm d21]
  have a2 : A.row n2 = .arr 34 [.int .i64 0, .nils, .nils] := by rw [hA]; simp [BH.row_set]
  rw [← hA]
  have r1 := c48 (base := base) s bs es u v n1 A a1 (ou.sls.keeps kA) (ov.sls.keeps kA) (by omega) (by omega)
  rw [← valid_ok] at r1
  refine ⟨_, A, r1, BH.KeepsTys.nil _ _, ?_⟩
  cases q : validB s bs.length es
  · have hq : trimF s bs es = errT 1 := by simp [trimF, q]
    rw [hq]
    have hw := set3 (base := base) a2 b2 (one_int (k := .i64) (n := 0)) one_nils one_nils
    obtain ⟨z1, z2, z3, z4⟩ := rows3 (K := A.set n2 (.arr 34 [.int .i64 0, .nils, .nils])) (n := n2) (BH.row_set_eq _ _ _) (rt := none) rfl
    simp [fillB, hw, z4]
    exact ⟨kA.set g2 _, .nils, .nils, none, none, rfl, ⟨rfl, rfl⟩, ⟨rfl, rfl⟩, Fr.none, Fr.none⟩
  · have hq : trimF s bs es = ⟨numS (selT s bs es) s.toNat, accS (selT s bs es) bs bs.length, es.flatMap (selE (selT s bs es)), 0⟩ := by simp [trimF, q]
    rw [hq]
    obtain ⟨x, A2, r2, k2, u', v', bo, co, rfl, ob, oc, fb, fc⟩ := c69 (base := base) s bs es u v b c n1 A a1 (ou.keeps kA) (ov.keeps kA) q
    simp
    refine ⟨_, A2, r2, BH.KeepsTys.nil _ _, ?_⟩
    have a2'' : A2.row n2 = .arr 34 [.int .i64 0, .nils, .nils] := by rw [k2 n2 (by rw [a2]; simp), a2]
    have hw := set3 (base := base) a2'' b2 (one_int (k := .i64) (n := numS (selT s bs es) s.toNat)) ob.one oc.one
    obtain ⟨z1, z2, z3, z4⟩ := rows3 (K := A2.set n2 (.arr 34 [.int .i64 (numS (selT s bs es) s.toNat), u', v'])) (n := n2) (BH.row_set_eq _ _ _) (rt := none) rfl
    simp [hw, z4]
    refine ⟨(kA.trans k2).set g2 _, u', v', bo, co, rfl, ob.stay fun d hd => BH.row_set_ne _ _ ?_, oc.stay fun d hd => BH.row_set_ne _ _ ?_, fun d hd => kA.fresh (fb d hd), fun d hd => kA.fresh (fc d hd)⟩
    · rintro rfl
      exact ne_row ob a2'' (by omega) hd
    · rintro rfl
      exact ne_row oc a2'' (by omega) hd

/-- The law, over the machine. -/
theorem c12 {ty tz : Nat} (s : Int) (bs : List Bool) (es : List E4) (u v : BV) (H : BH) (hu : Sls H tz 1 u (bs.map encB)) (hv : Sls H ty 4 v (es.map E4.enc))
    (hn : bs.length ≤ 9223372036854775807) (hn' : es.length ≤ 9223372036854775807) (hz : ∀ e ∈ es, e.i.size ≤ 9223372036854775807 ∧ e.o.size ≤ 9223372036854775807) : Gives (gam base) 12 [.agg [.int .i64 s, u, v]] H (.bool true) :=
  law1 (fs := 37) (fi := 38) (n := 12) rfl c37 c38 trimF_len s bs es u v H hu hv hn hn' hz
end Go.Proofs.Ytkmlmkbpdldjgaa.W
