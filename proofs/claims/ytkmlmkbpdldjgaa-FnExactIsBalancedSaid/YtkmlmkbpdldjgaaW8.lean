/-
The law of valid transducers.
-/
import Derived.Test.YtkmlmkbpdldjgaaW7
namespace Go.Proofs.Ytkmlmkbpdldjgaa.W
set_option linter.unusedSimpArgs false
set_option linter.unusedVariables false
open Go.B
variable {base : Nat}

theorem szT_bound {bs : List Bool} {es : List E4} {left : Int} (h : ¬ szT bs es left < 0) (hl : left ≤ 1048576) : bs.length ≤ 1048576 ∧ es.length ≤ 1048576 := by
  unfold szT at h
  split at h
  · omega
  · rename_i h1
    split at h
    · omega
    · rename_i h2
      have g1 : ¬ left - (bs.length : Int) < 0 := by
        intro hh
        apply h1
        simp [szB, hh]
      have e1 : szB bs.length left = left - bs.length := by simp only [szB]; rw [if_neg g1]
      have g2 : ¬ szB bs.length left - (es.length : Int) < 0 := by
        intro hh
        apply h2
        simp [szEdges, hh]
      rw [e1] at g2
      omega

theorem Copy.sls {H H' : BH} {u v : BV} {bs : List Bool} {es : List E4} (h : CopyT base H H' u v bs es) : Sls H' 4 1 u (bs.map encB) ∧ Sls H' 54 4 v (es.map E4.enc) := by
  obtain ⟨b, c, h1, h2, _⟩ := h
  exact ⟨h1.sls, h2.sls⟩

theorem c5 {ty : Nat} {tz : Nat} (s : Int) (bs : List Bool) (es : List E4) (u v : BV) (H : BH) (hu : Sls H tz 1 u (bs.map encB)) (hv : Sls H ty 4 v (es.map E4.enc))
    (hn : bs.length ≤ 9223372036854775807) (hn' : es.length ≤ 9223372036854775807) (hz : ∀ e ∈ es, e.i.size ≤ 9223372036854775807 ∧ e.o.size ≤ 9223372036854775807) : Gives (gam base) 5 [.agg [.int .i64 s, u, v]] H (.bool true) := by
  refine gives_of (fn := ir5) rfl ?_
  have hu1 := one_of_isSl hu.isSl
  have hv1 := one_of_isSl hv.isSl
  simp [ir5, wpC_skip, wpC_region, wpC_seq, wpC_true, wpC_false, wpC_block, wpC_exit, wpC_ret, wpO_nil, wpO_n, wpO_tt, wpO_ff, wpO_tf, wpO_ft, wpO_u, wpS_mov, wpS_pick, wpS_build, wpS_load, wpS_store, wpS_nilck, wpS_bin, wpS_beq, wpS_isnil, wpS_eqs, wpS_not, wpS_neg, wpS_conv, wpS_lea, wpS_fld, wpS_idx, wpS_idxs, wpS_slice, wpS_sslice, wpS_mkfn, wpS_mset, wpS_look, wpS_ext, wpS_len, wpS_new, wpS_box, wpS_mk, wpS_mkmap, wpS_mksl, wpS_app, wpS_fn, wpS_call, after_some, Post.then, Post.inBlock, BExit.outOf, puto_some, puto_none, put_eq, put_ne, Opd.ev, argEnv, op1_mov, op1_pick, op1_new, op1_box, op1_load, op1_nilck, op1_bin, op1_beq, op1_not, op1_neg, op1_conv, op1_lea, op1_fld, op1_len0, op1_len1, op1_idx, op1_ext, op1_build, op1_mk, op1_store, op1_mksl, op1_eqs, pureBin, isShift, resOf, resVals, BRes.val, oneOf, one_int, cells_int, one_bool, cells_bool, one_str, cells_str, one_nilp, cells_nilp, one_ptr, cells_ptr, one_nils, cells_nils, one_sl, cells_sl, one_sle, cells_sle, one_nilm, cells_nilm, one_mp, cells_mp, one_nilf, cells_nilf, one_fn, cells_fn, one_nili, cells_nili, cells_agg, isSl_sl, slen_sl, sat_sl, make_of, asm, rtOk, hu1, hv1]
  intro nb hb hf
  simp [wpC_skip, wpC_region, wpC_seq, wpC_true, wpC_false, wpC_block, wpC_exit, wpC_ret, wpO_nil, wpO_n, wpO_tt, wpO_ff, wpO_tf, wpO_ft, wpO_u, wpS_mov, wpS_pick, wpS_build, wpS_load, wpS_store, wpS_nilck, wpS_bin, wpS_beq, wpS_isnil, wpS_eqs, wpS_not, wpS_neg, wpS_conv, wpS_lea, wpS_fld, wpS_idx, wpS_idxs, wpS_slice, wpS_sslice, wpS_mkfn, wpS_mset, wpS_look, wpS_ext, wpS_len, wpS_new, wpS_box, wpS_mk, wpS_mkmap, wpS_mksl, wpS_app, wpS_fn, wpS_call, after_some, Post.then, Post.inBlock, BExit.outOf, puto_some, puto_none, put_eq, put_ne, Opd.ev, argEnv, op1_mov, op1_pick, op1_new, op1_box, op1_load, op1_nilck, op1_bin, op1_beq, op1_not, op1_neg, op1_conv, op1_lea, op1_fld, op1_len0, op1_len1, op1_idx, op1_ext, op1_build, op1_mk, op1_store, op1_mksl, op1_eqs, pureBin, isShift, resOf, resVals, BRes.val, oneOf, one_int, cells_int, one_bool, cells_bool, one_str, cells_str, one_nilp, cells_nilp, one_ptr, cells_ptr, one_nils, cells_nils, one_sl, cells_sl, one_sle, cells_sle, one_nilm, cells_nilm, one_mp, cells_mp, one_nilf, cells_nilf, one_fn, cells_fn, one_nili, cells_nili, cells_agg, isSl_sl, slen_sl, sat_sl, make_of, asm, rtOk, make_of hf hb]
  obtain ⟨G, hG⟩ : ∃ G, G = H.set nb (.arr 29 [.int .i64 s, u, v]) := ⟨_, rfl⟩
  have hk : H.Keeps G := by rw [hG]; exact BH.keeps_set _ hf
  have hrow : G.row nb = .arr 29 [.int .i64 s, u, v] := by rw [hG, BH.row_set_eq]
  rw [← hG]
  have rt : G.rd none (some 3) (.ptr nb 0) = some (.agg [.int .i64 s, u, v]) := by simp [BH.rd, hrow, rtOk, asm]
  obtain ⟨G1, r1, k1⟩ := c18 (base := base) s bs es u v 1048576 G (hu.keeps hk) (hv.keeps hk) (by omega) (by omega) (by omega) (by omega) hz
  simp [wpC_skip, wpC_region, wpC_seq, wpC_true, wpC_false, wpC_block, wpC_exit, wpC_ret, wpO_nil, wpO_n, wpO_tt, wpO_ff, wpO_tf, wpO_ft, wpO_u, wpS_mov, wpS_pick, wpS_build, wpS_load, wpS_store, wpS_nilck, wpS_bin, wpS_beq, wpS_isnil, wpS_eqs, wpS_not, wpS_neg, wpS_conv, wpS_lea, wpS_fld, wpS_idx, wpS_idxs, wpS_slice, wpS_sslice, wpS_mkfn, wpS_mset, wpS_look, wpS_ext, wpS_len, wpS_new, wpS_box, wpS_mk, wpS_mkmap, wpS_mksl, wpS_app, wpS_fn, wpS_call, after_some, Post.then, Post.inBlock, BExit.outOf, puto_some, puto_none, put_eq, put_ne, Opd.ev, argEnv, op1_mov, op1_pick, op1_new, op1_box, op1_load, op1_nilck, op1_bin, op1_beq, op1_not, op1_neg, op1_conv, op1_lea, op1_fld, op1_len0, op1_len1, op1_idx, op1_ext, op1_build, op1_mk, op1_store, op1_mksl, op1_eqs, pureBin, isShift, resOf, resVals, BRes.val, oneOf, one_int, cells_int, one_bool, cells_bool, one_str, cells_str, one_nilp, cells_nilp, one_ptr, cells_ptr, one_nils, cells_nils, one_sl, cells_sl, one_sle, cells_sle, one_nilm, cells_nilm, one_mp, cells_mp, one_nilf, cells_nilf, one_fn, cells_fn, one_nili, cells_nili, cells_agg, isSl_sl, slen_sl, sat_sl, make_of, asm, rtOk, rt]
  refine ⟨_, G1, r1, BH.KeepsTys.nil _ _, ?_⟩
  by_cases q : szT bs es 1048576 < 0
  · simp [wpC_skip, wpC_region, wpC_seq, wpC_true, wpC_false, wpC_block, wpC_exit, wpC_ret, wpO_nil, wpO_n, wpO_tt, wpO_ff, wpO_tf, wpO_ft, wpO_u, wpS_mov, wpS_pick, wpS_build, wpS_load, wpS_store, wpS_nilck, wpS_bin, wpS_beq, wpS_isnil, wpS_eqs, wpS_not, wpS_neg, wpS_conv, wpS_lea, wpS_fld, wpS_idx, wpS_idxs, wpS_slice, wpS_sslice, wpS_mkfn, wpS_mset, wpS_look, wpS_ext, wpS_len, wpS_new, wpS_box, wpS_mk, wpS_mkmap, wpS_mksl, wpS_app, wpS_fn, wpS_call, after_some, Post.then, Post.inBlock, BExit.outOf, puto_some, puto_none, put_eq, put_ne, Opd.ev, argEnv, op1_mov, op1_pick, op1_new, op1_box, op1_load, op1_nilck, op1_bin, op1_beq, op1_not, op1_neg, op1_conv, op1_lea, op1_fld, op1_len0, op1_len1, op1_idx, op1_ext, op1_build, op1_mk, op1_store, op1_mksl, op1_eqs, pureBin, isShift, resOf, resVals, BRes.val, oneOf, one_int, cells_int, one_bool, cells_bool, one_str, cells_str, one_nilp, cells_nilp, one_ptr, cells_ptr, one_nils, cells_nils, one_sl, cells_sl, one_sle, cells_sle, one_nilm, cells_nilm, one_mp, cells_mp, one_nilf, cells_nilf, one_fn, cells_fn, one_nili, cells_nili, cells_agg, isSl_sl, slen_sl, sat_sl, make_of, asm, rtOk, q]
    exact hk.trans k1
  obtain ⟨m1, m2⟩ := szT_bound q (by omega)
  have rt1 : G1.rd none (some 3) (.ptr nb 0) = some (.agg [.int .i64 s, u, v]) := rd_keeps k1 rt
  have kG1 := hk.trans k1
  obtain ⟨x1, G2, r2, k2, u1, v1, rfl, cp1⟩ := c20 (base := base) s bs es u v G1 (hu.keeps kG1) (hv.keeps kG1) m1 m2
  obtain ⟨su1, sv1⟩ := Copy.sls cp1
  obtain ⟨G3, r3, k3⟩ := c19 (base := base) s bs es u1 v1 G2 su1 sv1 (by omega) (by omega)
  simp [wpC_skip, wpC_region, wpC_seq, wpC_true, wpC_false, wpC_block, wpC_exit, wpC_ret, wpO_nil, wpO_n, wpO_tt, wpO_ff, wpO_tf, wpO_ft, wpO_u, wpS_mov, wpS_pick, wpS_build, wpS_load, wpS_store, wpS_nilck, wpS_bin, wpS_beq, wpS_isnil, wpS_eqs, wpS_not, wpS_neg, wpS_conv, wpS_lea, wpS_fld, wpS_idx, wpS_idxs, wpS_slice, wpS_sslice, wpS_mkfn, wpS_mset, wpS_look, wpS_ext, wpS_len, wpS_new, wpS_box, wpS_mk, wpS_mkmap, wpS_mksl, wpS_app, wpS_fn, wpS_call, after_some, Post.then, Post.inBlock, BExit.outOf, puto_some, puto_none, put_eq, put_ne, Opd.ev, argEnv, op1_mov, op1_pick, op1_new, op1_box, op1_load, op1_nilck, op1_bin, op1_beq, op1_not, op1_neg, op1_conv, op1_lea, op1_fld, op1_len0, op1_len1, op1_idx, op1_ext, op1_build, op1_mk, op1_store, op1_mksl, op1_eqs, pureBin, isShift, resOf, resVals, BRes.val, oneOf, one_int, cells_int, one_bool, cells_bool, one_str, cells_str, one_nilp, cells_nilp, one_ptr, cells_ptr, one_nils, cells_nils, one_sl, cells_sl, one_sle, cells_sle, one_nilm, cells_nilm, one_mp, cells_mp, one_nilf, cells_nilf, one_fn, cells_fn, one_nili, cells_nili, cells_agg, isSl_sl, slen_sl, sat_sl, make_of, asm, rtOk, q, rt1]
  refine ⟨_, G2, r2, BH.KeepsTys.nil _ _, ?_⟩
  simp [wpC_skip, wpC_region, wpC_seq, wpC_true, wpC_false, wpC_block, wpC_exit, wpC_ret, wpO_nil, wpO_n, wpO_tt, wpO_ff, wpO_tf, wpO_ft, wpO_u, wpS_mov, wpS_pick, wpS_build, wpS_load, wpS_store, wpS_nilck, wpS_bin, wpS_beq, wpS_isnil, wpS_eqs, wpS_not, wpS_neg, wpS_conv, wpS_lea, wpS_fld, wpS_idx, wpS_idxs, wpS_slice, wpS_sslice, wpS_mkfn, wpS_mset, wpS_look, wpS_ext, wpS_len, wpS_new, wpS_box, wpS_mk, wpS_mkmap, wpS_mksl, wpS_app, wpS_fn, wpS_call, after_some, Post.then, Post.inBlock, BExit.outOf, puto_some, puto_none, put_eq, put_ne, Opd.ev, argEnv, op1_mov, op1_pick, op1_new, op1_box, op1_load, op1_nilck, op1_bin, op1_beq, op1_not, op1_neg, op1_conv, op1_lea, op1_fld, op1_len0, op1_len1, op1_idx, op1_ext, op1_build, op1_mk, op1_store, op1_mksl, op1_eqs, pureBin, isShift, resOf, resVals, BRes.val, oneOf, one_int, cells_int, one_bool, cells_bool, one_str, cells_str, one_nilp, cells_nilp, one_ptr, cells_ptr, one_nils, cells_nils, one_sl, cells_sl, one_sle, cells_sle, one_nilm, cells_nilm, one_mp, cells_mp, one_nilf, cells_nilf, one_fn, cells_fn, one_nili, cells_nili, cells_agg, isSl_sl, slen_sl, sat_sl, make_of, asm, rtOk]
  refine ⟨_, G3, r3, BH.KeepsTys.nil _ _, ?_⟩
  have kG3 := (kG1.trans k2).trans k3
  have rt3 : G3.rd none (some 3) (.ptr nb 0) = some (.agg [.int .i64 s, u, v]) := rd_keeps (k2.trans k3) rt1
  obtain ⟨x2, G4, r4, k4, u2, v2, rfl, cp2⟩ := c20 (base := base) s bs es u v G3 (hu.keeps kG3) (hv.keeps kG3) m1 m2
  simp [wpC_skip, wpC_region, wpC_seq, wpC_true, wpC_false, wpC_block, wpC_exit, wpC_ret, wpO_nil, wpO_n, wpO_tt, wpO_ff, wpO_tf, wpO_ft, wpO_u, wpS_mov, wpS_pick, wpS_build, wpS_load, wpS_store, wpS_nilck, wpS_bin, wpS_beq, wpS_isnil, wpS_eqs, wpS_not, wpS_neg, wpS_conv, wpS_lea, wpS_fld, wpS_idx, wpS_idxs, wpS_slice, wpS_sslice, wpS_mkfn, wpS_mset, wpS_look, wpS_ext, wpS_len, wpS_new, wpS_box, wpS_mk, wpS_mkmap, wpS_mksl, wpS_app, wpS_fn, wpS_call, after_some, Post.then, Post.inBlock, BExit.outOf, puto_some, puto_none, put_eq, put_ne, Opd.ev, argEnv, op1_mov, op1_pick, op1_new, op1_box, op1_load, op1_nilck, op1_bin, op1_beq, op1_not, op1_neg, op1_conv, op1_lea, op1_fld, op1_len0, op1_len1, op1_idx, op1_ext, op1_build, op1_mk, op1_store, op1_mksl, op1_eqs, pureBin, isShift, resOf, resVals, BRes.val, oneOf, one_int, cells_int, one_bool, cells_bool, one_str, cells_str, one_nilp, cells_nilp, one_ptr, cells_ptr, one_nils, cells_nils, one_sl, cells_sl, one_sle, cells_sle, one_nilm, cells_nilm, one_mp, cells_mp, one_nilf, cells_nilf, one_fn, cells_fn, one_nili, cells_nili, cells_agg, isSl_sl, slen_sl, sat_sl, make_of, asm, rtOk, rt3]
  refine ⟨_, G4, r4, BH.KeepsTys.nil _ _, ?_⟩
  simp [wpC_skip, wpC_region, wpC_seq, wpC_true, wpC_false, wpC_block, wpC_exit, wpC_ret, wpO_nil, wpO_n, wpO_tt, wpO_ff, wpO_tf, wpO_ft, wpO_u, wpS_mov, wpS_pick, wpS_build, wpS_load, wpS_store, wpS_nilck, wpS_bin, wpS_beq, wpS_isnil, wpS_eqs, wpS_not, wpS_neg, wpS_conv, wpS_lea, wpS_fld, wpS_idx, wpS_idxs, wpS_slice, wpS_sslice, wpS_mkfn, wpS_mset, wpS_look, wpS_ext, wpS_len, wpS_new, wpS_box, wpS_mk, wpS_mkmap, wpS_mksl, wpS_app, wpS_fn, wpS_call, after_some, Post.then, Post.inBlock, BExit.outOf, puto_some, puto_none, put_eq, put_ne, Opd.ev, argEnv, op1_mov, op1_pick, op1_new, op1_box, op1_load, op1_nilck, op1_bin, op1_beq, op1_not, op1_neg, op1_conv, op1_lea, op1_fld, op1_len0, op1_len1, op1_idx, op1_ext, op1_build, op1_mk, op1_store, op1_mksl, op1_eqs, pureBin, isShift, resOf, resVals, BRes.val, oneOf, one_int, cells_int, one_bool, cells_bool, one_str, cells_str, one_nilp, cells_nilp, one_ptr, cells_ptr, one_nils, cells_nils, one_sl, cells_sl, one_sle, cells_sle, one_nilm, cells_nilm, one_mp, cells_mp, one_nilf, cells_nilf, one_fn, cells_fn, one_nili, cells_nili, cells_agg, isSl_sl, slen_sl, sat_sl, make_of, asm, rtOk]
  intro n2 b2 f2
  have kG4 := kG3.trans k4
  obtain ⟨su2, sv2⟩ := Copy.sls cp2
  have o3 := one_of_isSl su2.isSl
  have o4 := one_of_isSl sv2.isSl
  simp [wpC_skip, wpC_region, wpC_seq, wpC_true, wpC_false, wpC_block, wpC_exit, wpC_ret, wpO_nil, wpO_n, wpO_tt, wpO_ff, wpO_tf, wpO_ft, wpO_u, wpS_mov, wpS_pick, wpS_build, wpS_load, wpS_store, wpS_nilck, wpS_bin, wpS_beq, wpS_isnil, wpS_eqs, wpS_not, wpS_neg, wpS_conv, wpS_lea, wpS_fld, wpS_idx, wpS_idxs, wpS_slice, wpS_sslice, wpS_mkfn, wpS_mset, wpS_look, wpS_ext, wpS_len, wpS_new, wpS_box, wpS_mk, wpS_mkmap, wpS_mksl, wpS_app, wpS_fn, wpS_call, after_some, Post.then, Post.inBlock, BExit.outOf, puto_some, puto_none, put_eq, put_ne, Opd.ev, argEnv, op1_mov, op1_pick, op1_new, op1_box, op1_load, op1_nilck, op1_bin, op1_beq, op1_not, op1_neg, op1_conv, op1_lea, op1_fld, op1_len0, op1_len1, op1_idx, op1_ext, op1_build, op1_mk, op1_store, op1_mksl, op1_eqs, pureBin, isShift, resOf, resVals, BRes.val, oneOf, one_int, cells_int, one_bool, cells_bool, one_str, cells_str, one_nilp, cells_nilp, one_ptr, cells_ptr, one_nils, cells_nils, one_sl, cells_sl, one_sle, cells_sle, one_nilm, cells_nilm, one_mp, cells_mp, one_nilf, cells_nilf, one_fn, cells_fn, one_nili, cells_nili, cells_agg, isSl_sl, slen_sl, sat_sl, make_of, asm, rtOk, make_of f2 b2, BH.row_set_eq, o3, o4]
  rw [if_pos b2]
  obtain ⟨G5, hG5⟩ : ∃ G5, G5 = (G4.set n2 (.arr 34 [.int .i64 0, .nils, .nils])).set n2 (.arr 34 [.int .i64 s, u2, v2]) := ⟨_, rfl⟩
  have k5 : G4.Keeps G5 := by rw [hG5]; exact (BH.keeps_set _ f2).set f2 _
  have hrow5 : G5.row n2 = .arr 34 [.int .i64 s, u2, v2] := by rw [hG5, BH.row_set_eq]
  rw [← hG5]
  have rx : G5.rd none (some 3) (.ptr n2 0) = some (.agg [.int .i64 s, u2, v2]) := by simp [BH.rd, hrow5, rtOk, asm]
  obtain ⟨G6, r6, k6⟩ := c21 (base := base) s bs es u2 v2 G5 (su2.keeps k5) (sv2.keeps k5) (by omega) (by omega)
  rw [valid_ok] at r6
  simp [wpC_skip, wpC_region, wpC_seq, wpC_true, wpC_false, wpC_block, wpC_exit, wpC_ret, wpO_nil, wpO_n, wpO_tt, wpO_ff, wpO_tf, wpO_ft, wpO_u, wpS_mov, wpS_pick, wpS_build, wpS_load, wpS_store, wpS_nilck, wpS_bin, wpS_beq, wpS_isnil, wpS_eqs, wpS_not, wpS_neg, wpS_conv, wpS_lea, wpS_fld, wpS_idx, wpS_idxs, wpS_slice, wpS_sslice, wpS_mkfn, wpS_mset, wpS_look, wpS_ext, wpS_len, wpS_new, wpS_box, wpS_mk, wpS_mkmap, wpS_mksl, wpS_app, wpS_fn, wpS_call, after_some, Post.then, Post.inBlock, BExit.outOf, puto_some, puto_none, put_eq, put_ne, Opd.ev, argEnv, op1_mov, op1_pick, op1_new, op1_box, op1_load, op1_nilck, op1_bin, op1_beq, op1_not, op1_neg, op1_conv, op1_lea, op1_fld, op1_len0, op1_len1, op1_idx, op1_ext, op1_build, op1_mk, op1_store, op1_mksl, op1_eqs, pureBin, isShift, resOf, resVals, BRes.val, oneOf, one_int, cells_int, one_bool, cells_bool, one_str, cells_str, one_nilp, cells_nilp, one_ptr, cells_ptr, one_nils, cells_nils, one_sl, cells_sl, one_sle, cells_sle, one_nilm, cells_nilm, one_mp, cells_mp, one_nilf, cells_nilf, one_fn, cells_fn, one_nili, cells_nili, cells_agg, isSl_sl, slen_sl, sat_sl, make_of, asm, rtOk, rx]
  refine ⟨_, G6, r6, BH.KeepsTys.nil _ _, ?_⟩
  have kG6 := (kG4.trans k5).trans k6
  have rx6 : G6.rd (some 34) (some 3) (.ptr n2 0) = some (.agg [.int .i64 s, u2, v2]) := by
    have h6 : G6.row n2 = .arr 34 [.int .i64 s, u2, v2] := by rw [k6 n2 (by rw [hrow5]; simp), hrow5]
    simp [BH.rd, h6, rtOk, asm]
  have rt6 : G6.rd none (some 3) (.ptr nb 0) = some (.agg [.int .i64 s, u, v]) := rd_keeps ((k4.trans k5).trans k6) rt3
  obtain ⟨x3, G7, r7, k7, u3, v3, rfl, cp3⟩ := c20 (base := base) s bs es u v G6 (hu.keeps kG6) (hv.keeps kG6) m1 m2
  obtain ⟨su3, sv3⟩ := Copy.sls cp3
  have kk := (k5.trans k6).trans k7
  obtain ⟨G8, r8, k8⟩ := c22 (base := base) s s bs bs es es u2 v2 u3 v3 G7 (su2.keeps kk) (sv2.keeps kk) su3 sv3 (by omega) (by omega)
  rw [eqT_self] at r8
  simp [wpC_skip, wpC_region, wpC_seq, wpC_true, wpC_false, wpC_block, wpC_exit, wpC_ret, wpO_nil, wpO_n, wpO_tt, wpO_ff, wpO_tf, wpO_ft, wpO_u, wpS_mov, wpS_pick, wpS_build, wpS_load, wpS_store, wpS_nilck, wpS_bin, wpS_beq, wpS_isnil, wpS_eqs, wpS_not, wpS_neg, wpS_conv, wpS_lea, wpS_fld, wpS_idx, wpS_idxs, wpS_slice, wpS_sslice, wpS_mkfn, wpS_mset, wpS_look, wpS_ext, wpS_len, wpS_new, wpS_box, wpS_mk, wpS_mkmap, wpS_mksl, wpS_app, wpS_fn, wpS_call, after_some, Post.then, Post.inBlock, BExit.outOf, puto_some, puto_none, put_eq, put_ne, Opd.ev, argEnv, op1_mov, op1_pick, op1_new, op1_box, op1_load, op1_nilck, op1_bin, op1_beq, op1_not, op1_neg, op1_conv, op1_lea, op1_fld, op1_len0, op1_len1, op1_idx, op1_ext, op1_build, op1_mk, op1_store, op1_mksl, op1_eqs, pureBin, isShift, resOf, resVals, BRes.val, oneOf, one_int, cells_int, one_bool, cells_bool, one_str, cells_str, one_nilp, cells_nilp, one_ptr, cells_ptr, one_nils, cells_nils, one_sl, cells_sl, one_sle, cells_sle, one_nilm, cells_nilm, one_mp, cells_mp, one_nilf, cells_nilf, one_fn, cells_fn, one_nili, cells_nili, cells_agg, isSl_sl, slen_sl, sat_sl, make_of, asm, rtOk, rx6, rt6]
  refine ⟨_, G7, r7, k7.tys _, ?_⟩
  simp [wpC_skip, wpC_region, wpC_seq, wpC_true, wpC_false, wpC_block, wpC_exit, wpC_ret, wpO_nil, wpO_n, wpO_tt, wpO_ff, wpO_tf, wpO_ft, wpO_u, wpS_mov, wpS_pick, wpS_build, wpS_load, wpS_store, wpS_nilck, wpS_bin, wpS_beq, wpS_isnil, wpS_eqs, wpS_not, wpS_neg, wpS_conv, wpS_lea, wpS_fld, wpS_idx, wpS_idxs, wpS_slice, wpS_sslice, wpS_mkfn, wpS_mset, wpS_look, wpS_ext, wpS_len, wpS_new, wpS_box, wpS_mk, wpS_mkmap, wpS_mksl, wpS_app, wpS_fn, wpS_call, after_some, Post.then, Post.inBlock, BExit.outOf, puto_some, puto_none, put_eq, put_ne, Opd.ev, argEnv, op1_mov, op1_pick, op1_new, op1_box, op1_load, op1_nilck, op1_bin, op1_beq, op1_not, op1_neg, op1_conv, op1_lea, op1_fld, op1_len0, op1_len1, op1_idx, op1_ext, op1_build, op1_mk, op1_store, op1_mksl, op1_eqs, pureBin, isShift, resOf, resVals, BRes.val, oneOf, one_int, cells_int, one_bool, cells_bool, one_str, cells_str, one_nilp, cells_nilp, one_ptr, cells_ptr, one_nils, cells_nils, one_sl, cells_sl, one_sle, cells_sle, one_nilm, cells_nilm, one_mp, cells_mp, one_nilf, cells_nilf, one_fn, cells_fn, one_nili, cells_nili, cells_agg, isSl_sl, slen_sl, sat_sl, make_of, asm, rtOk]
  refine ⟨_, G8, r8, BH.KeepsTys.nil _ _, ?_⟩
  simp [wpC_skip, wpC_region, wpC_seq, wpC_true, wpC_false, wpC_block, wpC_exit, wpC_ret, wpO_nil, wpO_n, wpO_tt, wpO_ff, wpO_tf, wpO_ft, wpO_u, wpS_mov, wpS_pick, wpS_build, wpS_load, wpS_store, wpS_nilck, wpS_bin, wpS_beq, wpS_isnil, wpS_eqs, wpS_not, wpS_neg, wpS_conv, wpS_lea, wpS_fld, wpS_idx, wpS_idxs, wpS_slice, wpS_sslice, wpS_mkfn, wpS_mset, wpS_look, wpS_ext, wpS_len, wpS_new, wpS_box, wpS_mk, wpS_mkmap, wpS_mksl, wpS_app, wpS_fn, wpS_call, after_some, Post.then, Post.inBlock, BExit.outOf, puto_some, puto_none, put_eq, put_ne, Opd.ev, argEnv, op1_mov, op1_pick, op1_new, op1_box, op1_load, op1_nilck, op1_bin, op1_beq, op1_not, op1_neg, op1_conv, op1_lea, op1_fld, op1_len0, op1_len1, op1_idx, op1_ext, op1_build, op1_mk, op1_store, op1_mksl, op1_eqs, pureBin, isShift, resOf, resVals, BRes.val, oneOf, one_int, cells_int, one_bool, cells_bool, one_str, cells_str, one_nilp, cells_nilp, one_ptr, cells_ptr, one_nils, cells_nils, one_sl, cells_sl, one_sle, cells_sle, one_nilm, cells_nilm, one_mp, cells_mp, one_nilf, cells_nilf, one_fn, cells_fn, one_nili, cells_nili, cells_agg, isSl_sl, slen_sl, sat_sl, make_of, asm, rtOk]
  exact (kG6.trans k7).trans k8

end Go.Proofs.Ytkmlmkbpdldjgaa.W
