/-
Copies, and comparisons.
-/
import Derived.Test.YtkmlmkbpdldjgaaW2
namespace Go.Proofs.Ytkmlmkbpdldjgaa.W
set_option linter.unusedSimpArgs false
set_option linter.unusedVariables false
open Go.B
variable {base : Nat}

/-- A transducer of one's own. -/
def CopyT (base : Nat) (H H' : BH) (u v : BV) (bs : List Bool) (es : List E4) : Prop :=
  ∃ b c, OwnS base H' 4 1 u (bs.map encB) b ∧ OwnS base H' 54 4 v (es.map E4.enc) c ∧ H.row b = .fresh ∧ H.row c = .fresh ∧ b ≠ c

theorem c20 {ty : Nat} {tz : Nat} (s : Int) (bs : List Bool) (es : List E4) (u v : BV) (H : BH) (hu : Sls H tz 1 u (bs.map encB)) (hv : Sls H ty 4 v (es.map E4.enc)) (hn : bs.length ≤ 1048576) (hn' : es.length ≤ 1048576) :
    ∃ x H', Runs (gam base) 20 [.agg [.int .i64 s, u, v]] H x H' ∧ H.Keeps H' ∧ ∃ u' v', x = .agg [.int .i64 s, u', v'] ∧ CopyT base H H' u' v' bs es := by
  refine call_of_wp (fn := ir20) (R := fun x H' => H.Keeps H' ∧ ∃ u' v', x = .agg [.int .i64 s, u', v'] ∧ CopyT base H H' u' v' bs es) rfl ?_
  have hu1 := one_of_isSl hu.isSl
  have hv1 := one_of_isSl hv.isSl
  simp [ir20, wpC_skip, wpC_region, wpC_seq, wpC_cond, wpC_block, wpC_exit, wpC_ret, wpO, wpStep, wantB, BOp.makes, after, Post.then, Post.inBlock, BExit.outOf, Env.puto, Env.put, Opd.ev, argEnv, op1_mov, op1_pick, op1_new, op1_box, op1_load, op1_nilck, op1_bin, op1_beq, op1_not, op1_neg, op1_conv, op1_lea, op1_fld, op1_len0, op1_len1, op1_idx, op1_ext, op1_build, op1_mk, op1_store, op1_mksl, op1_eqs, pureBin, isShift, resOf, resVals, BRes.val, oneOf, one_int, cells_int, one_bool, cells_bool, one_str, cells_str, one_nilp, cells_nilp, one_ptr, cells_ptr, one_nils, cells_nils, one_sl, cells_sl, one_sle, cells_sle, one_nilm, cells_nilm, one_mp, cells_mp, one_nilf, cells_nilf, one_fn, cells_fn, one_nili, cells_nili, cells_agg, isSl_sl, slen_sl, sat_sl, make_of, asm, rtOk, hu1, hv1]
  intro n1 b1 f1
  simp [wpC_skip, wpC_region, wpC_seq, wpC_cond, wpC_block, wpC_exit, wpC_ret, wpO, wpStep, wantB, BOp.makes, after, Post.then, Post.inBlock, BExit.outOf, Env.puto, Env.put, Opd.ev, argEnv, op1_mov, op1_pick, op1_new, op1_box, op1_load, op1_nilck, op1_bin, op1_beq, op1_not, op1_neg, op1_conv, op1_lea, op1_fld, op1_len0, op1_len1, op1_idx, op1_ext, op1_build, op1_mk, op1_store, op1_mksl, op1_eqs, pureBin, isShift, resOf, resVals, BRes.val, oneOf, one_int, cells_int, one_bool, cells_bool, one_str, cells_str, one_nilp, cells_nilp, one_ptr, cells_ptr, one_nils, cells_nils, one_sl, cells_sl, one_sle, cells_sle, one_nilm, cells_nilm, one_mp, cells_mp, one_nilf, cells_nilf, one_fn, cells_fn, one_nili, cells_nili, cells_agg, isSl_sl, slen_sl, sat_sl, make_of, asm, rtOk, make_of f1 b1]
  intro n2 b2 f2
  simp [wpC_skip, wpC_region, wpC_seq, wpC_cond, wpC_block, wpC_exit, wpC_ret, wpO, wpStep, wantB, BOp.makes, after, Post.then, Post.inBlock, BExit.outOf, Env.puto, Env.put, Opd.ev, argEnv, op1_mov, op1_pick, op1_new, op1_box, op1_load, op1_nilck, op1_bin, op1_beq, op1_not, op1_neg, op1_conv, op1_lea, op1_fld, op1_len0, op1_len1, op1_idx, op1_ext, op1_build, op1_mk, op1_store, op1_mksl, op1_eqs, pureBin, isShift, resOf, resVals, BRes.val, oneOf, one_int, cells_int, one_bool, cells_bool, one_str, cells_str, one_nilp, cells_nilp, one_ptr, cells_ptr, one_nils, cells_nils, one_sl, cells_sl, one_sle, cells_sle, one_nilm, cells_nilm, one_mp, cells_mp, one_nilf, cells_nilf, one_fn, cells_fn, one_nili, cells_nili, cells_agg, isSl_sl, slen_sl, sat_sl, make_of, asm, rtOk, make_of f2 b2]
  intro n3 b3 f3
  obtain ⟨d21, g2⟩ := fresh_set (by simp) f2
  obtain ⟨d32, g3'⟩ := fresh_set (by simp) f3
  obtain ⟨d31, g3⟩ := fresh_set (by simp) g3'
  simp [wpC_skip, wpC_region, wpC_seq, wpC_cond, wpC_block, wpC_exit, wpC_ret, wpO, wpStep, wantB, BOp.makes, after, Post.then, Post.inBlock, BExit.outOf, Env.puto, Env.put, Opd.ev, argEnv, op1_mov, op1_pick, op1_new, op1_box, op1_load, op1_nilck, op1_bin, op1_beq, op1_not, op1_neg, op1_conv, op1_lea, op1_fld, op1_len0, op1_len1, op1_idx, op1_ext, op1_build, op1_mk, op1_store, op1_mksl, op1_eqs, pureBin, isShift, resOf, resVals, BRes.val, oneOf, one_int, cells_int, one_bool, cells_bool, one_str, cells_str, one_nilp, cells_nilp, one_ptr, cells_ptr, one_nils, cells_nils, one_sl, cells_sl, one_sle, cells_sle, one_nilm, cells_nilm, one_mp, cells_mp, one_nilf, cells_nilf, one_fn, cells_fn, one_nili, cells_nili, cells_agg, isSl_sl, slen_sl, sat_sl, make_of, asm, rtOk, make_of f3 b3, BH.rd, BH.row_set, b1, b2, b3, d21, d32, d31, Ne.symm d21, Ne.symm d32, Ne.symm d31]
  obtain ⟨G, hG⟩ : ∃ G, G = (((H.set n1 (.arr 29 [.int .i64 s, u, v])).set n2 (.arr 34 [.int .i64 0, .nils, .nils])).set n3 (.arr 34 [.int .i64 0, .nils, .nils])).set n3 (.arr 34 [.int .i64 s, .nils, .nils]) := ⟨_, rfl⟩
  have kG : H.Keeps G := by rw [hG]; exact (((BH.keeps_set _ f1).set g2 _).set g3 _).set g3 _
  have a1 : G.row n1 = .arr 29 [.int .i64 s, u, v] := by rw [hG]; simp [BH.row_set, Ne.symm d21, Ne.symm d31]
  have a2 : G.row n2 = .arr 34 [.int .i64 0, .nils, .nils] := by rw [hG]; simp [BH.row_set, Ne.symm d32]
  have a3 : G.row n3 = .arr 34 [.int .i64 s, .nils, .nils] := by rw [hG]; simp [BH.row_set]
  rw [← hG]
  obtain ⟨u', G1, r1, k1, b, ob, fb⟩ := c49 (base := base) bs u G (hu.keeps kG) hn
  refine ⟨u', G1, r1, BH.KeepsTys.nil _ _, ?_⟩
  have a1' : G1.row n1 = .arr 29 [.int .i64 s, u, v] := by rw [k1 n1 (by rw [a1]; simp), a1]
  have a2' : G1.row n2 = .arr 34 [.int .i64 0, .nils, .nils] := by rw [k1 n2 (by rw [a2]; simp), a2]
  have a3' : G1.row n3 = .arr 34 [.int .i64 s, .nils, .nils] := by rw [k1 n3 (by rw [a3]; simp), a3]
  have hu1' := one_of_isSl ob.isSl
  have b3' : b ≠ n3 := by rintro rfl; rw [a3] at fb; cases fb
  have b2' : b ≠ n2 := by rintro rfl; rw [a2] at fb; cases fb
  simp [wpC_skip, wpC_region, wpC_seq, wpC_cond, wpC_block, wpC_exit, wpC_ret, wpO, wpStep, wantB, BOp.makes, after, Post.then, Post.inBlock, BExit.outOf, Env.puto, Env.put, Opd.ev, argEnv, op1_mov, op1_pick, op1_new, op1_box, op1_load, op1_nilck, op1_bin, op1_beq, op1_not, op1_neg, op1_conv, op1_lea, op1_fld, op1_len0, op1_len1, op1_idx, op1_ext, op1_build, op1_mk, op1_store, op1_mksl, op1_eqs, pureBin, isShift, resOf, resVals, BRes.val, oneOf, one_int, cells_int, one_bool, cells_bool, one_str, cells_str, one_nilp, cells_nilp, one_ptr, cells_ptr, one_nils, cells_nils, one_sl, cells_sl, one_sle, cells_sle, one_nilm, cells_nilm, one_mp, cells_mp, one_nilf, cells_nilf, one_fn, cells_fn, one_nili, cells_nili, cells_agg, isSl_sl, slen_sl, sat_sl, make_of, asm, rtOk, a1', a2', a3', hu1', cells_one hu1', BH.row_set, Ne.symm d31]
  obtain ⟨G2, hG2⟩ : ∃ G2, G2 = G1.set n3 (.arr 34 [.int .i64 s, u', .nils]) := ⟨_, rfl⟩
  have kG2 : H.Keeps G2 := by rw [hG2]; exact (kG.trans k1).set g3 _
  obtain ⟨v', G3, r3, k3, c, oc, fc⟩ := c50 (base := base) es v G2 (hv.keeps kG2) hn'
  rw [← hG2]
  refine ⟨v', G3, r3, BH.KeepsTys.nil _ _, ?_⟩
  have e2 : G2.row n2 = .arr 34 [.int .i64 0, .nils, .nils] := by rw [hG2, BH.row_set_ne _ _ (Ne.symm d32), a2']
  have e3 : G2.row n3 = .arr 34 [.int .i64 s, u', .nils] := by rw [hG2, BH.row_set_eq]
  have e2' : G3.row n2 = .arr 34 [.int .i64 0, .nils, .nils] := by rw [k3 n2 (by rw [e2]; simp), e2]
  have e3' : G3.row n3 = .arr 34 [.int .i64 s, u', .nils] := by rw [k3 n3 (by rw [e3]; simp), e3]
  have hv1' := one_of_isSl oc.isSl
  have eb : G2.row b = G1.row b := by rw [hG2, BH.row_set_ne _ _ b3']
  have ob2 : OwnS base G3 4 1 u' (bs.map encB) b := (ob.stay eb).keeps k3
  have c3' : c ≠ n3 := by rintro rfl; rw [e3] at fc; cases fc
  have c2' : c ≠ n2 := by rintro rfl; rw [e2] at fc; cases fc
  have hbc : b ≠ c := by
    rintro rfl
    rw [eb, ob.row] at fc
    cases fc
  simp [wpC_skip, wpC_region, wpC_seq, wpC_cond, wpC_block, wpC_exit, wpC_ret, wpO, wpStep, wantB, BOp.makes, after, Post.then, Post.inBlock, BExit.outOf, Env.puto, Env.put, Opd.ev, argEnv, op1_mov, op1_pick, op1_new, op1_box, op1_load, op1_nilck, op1_bin, op1_beq, op1_not, op1_neg, op1_conv, op1_lea, op1_fld, op1_len0, op1_len1, op1_idx, op1_ext, op1_build, op1_mk, op1_store, op1_mksl, op1_eqs, pureBin, isShift, resOf, resVals, BRes.val, oneOf, one_int, cells_int, one_bool, cells_bool, one_str, cells_str, one_nilp, cells_nilp, one_ptr, cells_ptr, one_nils, cells_nils, one_sl, cells_sl, one_sle, cells_sle, one_nilm, cells_nilm, one_mp, cells_mp, one_nilf, cells_nilf, one_fn, cells_fn, one_nili, cells_nili, cells_agg, isSl_sl, slen_sl, sat_sl, make_of, asm, rtOk, e2', e3', hv1', hu1', cells_one hv1', BH.row_set, Ne.symm d32]
  refine ⟨((kG2.trans k3).set g3 _).set g2 _, _, _, ⟨rfl, rfl⟩, b, c, ob2.stay ?_, oc.stay ?_, kG.fresh fb, kG2.fresh fc, hbc⟩
  · simp [BH.row_set, b3', b2']
  · simp [BH.row_set, c3', c2']

def eqE (d e : E4) : Bool := !(d.f != e.f) && (!(d.t != e.t) && (d.i.toList == e.i.toList && d.o.toList == e.o.toList))

theorem c77 (d e : E4) (H : BH) : Gives (gam base) 77 [.agg d.enc, .agg e.enc] H (.bool (eqE d e)) := by
  refine gives_of (fn := ir77) rfl ?_
  simp [ir77, wpC_skip, wpC_region, wpC_seq, wpC_cond, wpC_block, wpC_exit, wpC_ret, wpO, wpStep, wantB, BOp.makes, after, Post.then, Post.inBlock, BExit.outOf, Env.puto, Env.put, Opd.ev, argEnv, op1_mov, op1_pick, op1_new, op1_box, op1_load, op1_nilck, op1_bin, op1_beq, op1_not, op1_neg, op1_conv, op1_lea, op1_fld, op1_len0, op1_len1, op1_idx, op1_ext, op1_build, op1_mk, op1_store, op1_mksl, op1_eqs, pureBin, isShift, resOf, resVals, BRes.val, oneOf, one_int, cells_int, one_bool, cells_bool, one_str, cells_str, one_nilp, cells_nilp, one_ptr, cells_ptr, one_nils, cells_nils, one_sl, cells_sl, one_sle, cells_sle, one_nilm, cells_nilm, one_mp, cells_mp, one_nilf, cells_nilf, one_fn, cells_fn, one_nili, cells_nili, cells_agg, isSl_sl, slen_sl, sat_sl, make_of, asm, rtOk, E4.enc]
  intro n1 b1 f1
  simp [wpC_skip, wpC_region, wpC_seq, wpC_cond, wpC_block, wpC_exit, wpC_ret, wpO, wpStep, wantB, BOp.makes, after, Post.then, Post.inBlock, BExit.outOf, Env.puto, Env.put, Opd.ev, argEnv, op1_mov, op1_pick, op1_new, op1_box, op1_load, op1_nilck, op1_bin, op1_beq, op1_not, op1_neg, op1_conv, op1_lea, op1_fld, op1_len0, op1_len1, op1_idx, op1_ext, op1_build, op1_mk, op1_store, op1_mksl, op1_eqs, pureBin, isShift, resOf, resVals, BRes.val, oneOf, one_int, cells_int, one_bool, cells_bool, one_str, cells_str, one_nilp, cells_nilp, one_ptr, cells_ptr, one_nils, cells_nils, one_sl, cells_sl, one_sle, cells_sle, one_nilm, cells_nilm, one_mp, cells_mp, one_nilf, cells_nilf, one_fn, cells_fn, one_nili, cells_nili, cells_agg, isSl_sl, slen_sl, sat_sl, make_of, asm, rtOk, make_of f1 b1]
  intro n2 b2 f2
  obtain ⟨d21, g2⟩ := fresh_set (by simp) f2
  have hk : H.Keeps ((H.set n1 (.arr 54 [.int .i64 d.f, .int .i64 d.t, .str d.i, .str d.o])).set n2 (.arr 54 [.int .i64 e.f, .int .i64 e.t, .str e.i, .str e.o])) := (BH.keeps_set _ f1).set g2 _
  simp [wpC_skip, wpC_region, wpC_seq, wpC_cond, wpC_block, wpC_exit, wpC_ret, wpO, wpStep, wantB, BOp.makes, after, Post.then, Post.inBlock, BExit.outOf, Env.puto, Env.put, Opd.ev, argEnv, op1_mov, op1_pick, op1_new, op1_box, op1_load, op1_nilck, op1_bin, op1_beq, op1_not, op1_neg, op1_conv, op1_lea, op1_fld, op1_len0, op1_len1, op1_idx, op1_ext, op1_build, op1_mk, op1_store, op1_mksl, op1_eqs, pureBin, isShift, resOf, resVals, BRes.val, oneOf, one_int, cells_int, one_bool, cells_bool, one_str, cells_str, one_nilp, cells_nilp, one_ptr, cells_ptr, one_nils, cells_nils, one_sl, cells_sl, one_sle, cells_sle, one_nilm, cells_nilm, one_mp, cells_mp, one_nilf, cells_nilf, one_fn, cells_fn, one_nili, cells_nili, cells_agg, isSl_sl, slen_sl, sat_sl, make_of, asm, rtOk, make_of f2 b2, BH.rd, BH.row_set, d21, Ne.symm d21]
  cases q1 : (d.f != e.f)
  · cases q2 : (d.t != e.t)
    · cases q3 : (d.i.toList == e.i.toList)
      · have hq : eqE d e = false := by simp [eqE, q1, q2, q3]
        simp [wpC_skip, wpC_region, wpC_seq, wpC_cond, wpC_block, wpC_exit, wpC_ret, wpO, wpStep, wantB, BOp.makes, after, Post.then, Post.inBlock, BExit.outOf, Env.puto, Env.put, Opd.ev, argEnv, op1_mov, op1_pick, op1_new, op1_box, op1_load, op1_nilck, op1_bin, op1_beq, op1_not, op1_neg, op1_conv, op1_lea, op1_fld, op1_len0, op1_len1, op1_idx, op1_ext, op1_build, op1_mk, op1_store, op1_mksl, op1_eqs, pureBin, isShift, resOf, resVals, BRes.val, oneOf, one_int, cells_int, one_bool, cells_bool, one_str, cells_str, one_nilp, cells_nilp, one_ptr, cells_ptr, one_nils, cells_nils, one_sl, cells_sl, one_sle, cells_sle, one_nilm, cells_nilm, one_mp, cells_mp, one_nilf, cells_nilf, one_fn, cells_fn, one_nili, cells_nili, cells_agg, isSl_sl, slen_sl, sat_sl, make_of, asm, rtOk, BH.rd, BH.row_set, d21, Ne.symm d21, q2, q3, hq]
        exact hk
      · cases q4 : (d.o.toList == e.o.toList)
        · have hq : eqE d e = false := by simp [eqE, q1, q2, q3, q4]
          simp [wpC_skip, wpC_region, wpC_seq, wpC_cond, wpC_block, wpC_exit, wpC_ret, wpO, wpStep, wantB, BOp.makes, after, Post.then, Post.inBlock, BExit.outOf, Env.puto, Env.put, Opd.ev, argEnv, op1_mov, op1_pick, op1_new, op1_box, op1_load, op1_nilck, op1_bin, op1_beq, op1_not, op1_neg, op1_conv, op1_lea, op1_fld, op1_len0, op1_len1, op1_idx, op1_ext, op1_build, op1_mk, op1_store, op1_mksl, op1_eqs, pureBin, isShift, resOf, resVals, BRes.val, oneOf, one_int, cells_int, one_bool, cells_bool, one_str, cells_str, one_nilp, cells_nilp, one_ptr, cells_ptr, one_nils, cells_nils, one_sl, cells_sl, one_sle, cells_sle, one_nilm, cells_nilm, one_mp, cells_mp, one_nilf, cells_nilf, one_fn, cells_fn, one_nili, cells_nili, cells_agg, isSl_sl, slen_sl, sat_sl, make_of, asm, rtOk, BH.rd, BH.row_set, d21, Ne.symm d21, q2, q3, q4, hq]
          exact hk
        · have hq : eqE d e = true := by simp [eqE, q1, q2, q3, q4]
          simp [wpC_skip, wpC_region, wpC_seq, wpC_cond, wpC_block, wpC_exit, wpC_ret, wpO, wpStep, wantB, BOp.makes, after, Post.then, Post.inBlock, BExit.outOf, Env.puto, Env.put, Opd.ev, argEnv, op1_mov, op1_pick, op1_new, op1_box, op1_load, op1_nilck, op1_bin, op1_beq, op1_not, op1_neg, op1_conv, op1_lea, op1_fld, op1_len0, op1_len1, op1_idx, op1_ext, op1_build, op1_mk, op1_store, op1_mksl, op1_eqs, pureBin, isShift, resOf, resVals, BRes.val, oneOf, one_int, cells_int, one_bool, cells_bool, one_str, cells_str, one_nilp, cells_nilp, one_ptr, cells_ptr, one_nils, cells_nils, one_sl, cells_sl, one_sle, cells_sle, one_nilm, cells_nilm, one_mp, cells_mp, one_nilf, cells_nilf, one_fn, cells_fn, one_nili, cells_nili, cells_agg, isSl_sl, slen_sl, sat_sl, make_of, asm, rtOk, BH.rd, BH.row_set, d21, Ne.symm d21, q2, q3, q4, hq]
          exact hk
    · have hq : eqE d e = false := by simp [eqE, q1, q2]
      simp [wpC_skip, wpC_region, wpC_seq, wpC_cond, wpC_block, wpC_exit, wpC_ret, wpO, wpStep, wantB, BOp.makes, after, Post.then, Post.inBlock, BExit.outOf, Env.puto, Env.put, Opd.ev, argEnv, op1_mov, op1_pick, op1_new, op1_box, op1_load, op1_nilck, op1_bin, op1_beq, op1_not, op1_neg, op1_conv, op1_lea, op1_fld, op1_len0, op1_len1, op1_idx, op1_ext, op1_build, op1_mk, op1_store, op1_mksl, op1_eqs, pureBin, isShift, resOf, resVals, BRes.val, oneOf, one_int, cells_int, one_bool, cells_bool, one_str, cells_str, one_nilp, cells_nilp, one_ptr, cells_ptr, one_nils, cells_nils, one_sl, cells_sl, one_sle, cells_sle, one_nilm, cells_nilm, one_mp, cells_mp, one_nilf, cells_nilf, one_fn, cells_fn, one_nili, cells_nili, cells_agg, isSl_sl, slen_sl, sat_sl, make_of, asm, rtOk, BH.rd, BH.row_set, d21, Ne.symm d21, q2, hq]
      exact hk
  · have hq : eqE d e = false := by simp [eqE, q1]
    simp [wpC_skip, wpC_region, wpC_seq, wpC_cond, wpC_block, wpC_exit, wpC_ret, wpO, wpStep, wantB, BOp.makes, after, Post.then, Post.inBlock, BExit.outOf, Env.puto, Env.put, Opd.ev, argEnv, op1_mov, op1_pick, op1_new, op1_box, op1_load, op1_nilck, op1_bin, op1_beq, op1_not, op1_neg, op1_conv, op1_lea, op1_fld, op1_len0, op1_len1, op1_idx, op1_ext, op1_build, op1_mk, op1_store, op1_mksl, op1_eqs, pureBin, isShift, resOf, resVals, BRes.val, oneOf, one_int, cells_int, one_bool, cells_bool, one_str, cells_str, one_nilp, cells_nilp, one_ptr, cells_ptr, one_nils, cells_nils, one_sl, cells_sl, one_sle, cells_sle, one_nilm, cells_nilm, one_mp, cells_mp, one_nilf, cells_nilf, one_fn, cells_fn, one_nili, cells_nili, cells_agg, isSl_sl, slen_sl, sat_sl, make_of, asm, rtOk, BH.rd, BH.row_set, d21, Ne.symm d21, hq]
    exact hk

end Go.Proofs.Ytkmlmkbpdldjgaa.W
