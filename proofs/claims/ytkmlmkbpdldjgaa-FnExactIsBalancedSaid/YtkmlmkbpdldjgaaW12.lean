/-
What holds marks, and transducers that are marked.
-/
import Derived.Test.YtkmlmkbpdldjgaaW11
namespace Go.Proofs.Ytkmlmkbpdldjgaa.W
set_option linter.unusedSimpArgs false
set_option linter.unusedVariables false
open Go.B
variable {base : Nat}

theorem c62 (k n : Nat) (v : BV) (H : BH) (hs : Sls H 54 4 v (((List.range n).map (mkE k)).map E4.enc)) (hk : k + 4 * n ≤ 1099511627776) :
    Gives (gam base) 62 [v, .int .i64 k] H (.int .i64 (k + 4 * n : Nat)) := by
  refine gives_of (fn := ir62) rfl ?_
  have hl : v.slen = n := by rw [hs.len]; simp
  simp [ir62, wpC_skip, wpC_region, wpC_seq, wpC_true, wpC_false, wpC_block, wpC_exit, wpC_ret, wpO_nil, wpO_n, wpO_tt, wpO_ff, wpO_tf, wpO_ft, wpO_u, wpS_mov, wpS_pick, wpS_build, wpS_load, wpS_store, wpS_nilck, wpS_bin, wpS_beq, wpS_isnil, wpS_eqs, wpS_not, wpS_neg, wpS_conv, wpS_lea, wpS_fld, wpS_idx, wpS_idxs, wpS_slice, wpS_sslice, wpS_mkfn, wpS_mset, wpS_look, wpS_ext, wpS_len, wpS_new, wpS_box, wpS_mk, wpS_mkmap, wpS_mksl, wpS_app, wpS_fn, wpS_call, after_some, Post.then, Post.inBlock, BExit.outOf, puto_some, puto_none, put_eq, put_ne, Opd.ev, argEnv, op1_mov, op1_pick, op1_new, op1_box, op1_load, op1_nilck, op1_bin, op1_beq, op1_not, op1_neg, op1_conv, op1_lea, op1_fld, op1_len0, op1_len1, op1_idx, op1_ext, op1_build, op1_mk, op1_stw, op1_mksl, op1_eqs, pureBin, isShift, resOf, resVals, BRes.val, oneOf, one_int, cells_int, one_bool, cells_bool, one_str, cells_str, one_nilp, cells_nilp, one_ptr, cells_ptr, one_nils, cells_nils, one_sl, cells_sl, one_sle, cells_sle, one_nilm, cells_nilm, one_mp, cells_mp, one_nilf, cells_nilf, one_fn, cells_fn, one_nili, cells_nili, cells_agg, isSl_sl, slen_sl, sat_sl, make_of, asm, rtOk, wpS_b2s, op1_b2s, op1_isnil, Option.map_some]
  refine wpC_count n (fun i e K => e 0 = v ∧ e 1 = .int .i64 (k + 4 * i : Nat) ∧ e 5 = .int .i64 i ∧ H.Keeps K) (i0 := 0) ?_ (Nat.zero_le _) ?_
  · exact ⟨rfl, by simp [wpC_skip, wpC_region, wpC_seq, wpC_true, wpC_false, wpC_block, wpC_exit, wpC_ret, wpO_nil, wpO_n, wpO_tt, wpO_ff, wpO_tf, wpO_ft, wpO_u, wpS_mov, wpS_pick, wpS_build, wpS_load, wpS_store, wpS_nilck, wpS_bin, wpS_beq, wpS_isnil, wpS_eqs, wpS_not, wpS_neg, wpS_conv, wpS_lea, wpS_fld, wpS_idx, wpS_idxs, wpS_slice, wpS_sslice, wpS_mkfn, wpS_mset, wpS_look, wpS_ext, wpS_len, wpS_new, wpS_box, wpS_mk, wpS_mkmap, wpS_mksl, wpS_app, wpS_fn, wpS_call, after_some, Post.then, Post.inBlock, BExit.outOf, puto_some, puto_none, put_eq, put_ne, Opd.ev, argEnv, op1_mov, op1_pick, op1_new, op1_box, op1_load, op1_nilck, op1_bin, op1_beq, op1_not, op1_neg, op1_conv, op1_lea, op1_fld, op1_len0, op1_len1, op1_idx, op1_ext, op1_build, op1_mk, op1_stw, op1_mksl, op1_eqs, pureBin, isShift, resOf, resVals, BRes.val, oneOf, one_int, cells_int, one_bool, cells_bool, one_str, cells_str, one_nilp, cells_nilp, one_ptr, cells_ptr, one_nils, cells_nils, one_sl, cells_sl, one_sle, cells_sle, one_nilm, cells_nilm, one_mp, cells_mp, one_nilf, cells_nilf, one_fn, cells_fn, one_nili, cells_nili, cells_agg, isSl_sl, slen_sl, sat_sl, make_of, asm, rtOk, wpS_b2s, op1_b2s, op1_isnil, Option.map_some], rfl, BH.Keeps.refl H⟩
  · rintro i e K hi ⟨e0, e1, e5, hkk⟩
    by_cases hlt : i < n
    · obtain ⟨b, o, hsat, hf⟩ := (hs.keeps hkk).fldt (i := i) (x := (mkE k i).enc) (by simp [hlt])
      have f0 := hf none 0 (.int .i64 (k + 4 * i : Nat)) rfl rfl
      have f1 := hf none 1 (.int .i64 (k + 4 * i + 1 : Nat)) rfl rfl
      have f2 := hf (some 54) 2 (.str (mtext (k + 4 * i + 2))) rfl rfl
      obtain ⟨K1, r1, k1⟩ := c80 (base := base) (k + 4 * i + 2) K (by omega)
      have f3 := rd_keeps k1 (hf (some 54) 3 (.str (mtext (k + 4 * i + 3))) rfl rfl)
      obtain ⟨K2, r2, k2⟩ := c80 (base := base) (k + 4 * i + 3) K1 (by omega)
      have a1 : IntKind.i64.wrap ((k + 4 * i : Nat) + 1) = ((k + 4 * i + 1 : Nat) : Int) := w64 (by omega) (by omega)
      have a2 : IntKind.i64.wrap ((k + 4 * i + 1 : Nat) + 1) = ((k + 4 * i + 2 : Nat) : Int) := w64 (by omega) (by omega)
      have a3 : IntKind.i64.wrap ((k + 4 * i + 2 : Nat) + 1) = ((k + 4 * i + 3 : Nat) : Int) := w64 (by omega) (by omega)
      have a4 : IntKind.i64.wrap ((k + 4 * i + 3 : Nat) + 1) = ((k + 4 * (i + 1) : Nat) : Int) := w64 (by omega) (by omega)
      have a5 : IntKind.i64.wrap ((i : Int) + 1) = ((i + 1 : Nat) : Int) := w64 (by omega) (by omega)
      obtain ⟨k_0, e_0⟩ : ∃ m : Nat, m = k + 4 * i := ⟨_, rfl⟩
      obtain ⟨k_1, e_1⟩ : ∃ m : Nat, m = k + 4 * i + 1 := ⟨_, rfl⟩
      obtain ⟨k_2, e_2⟩ : ∃ m : Nat, m = k + 4 * i + 2 := ⟨_, rfl⟩
      obtain ⟨k_3, e_3⟩ : ∃ m : Nat, m = k + 4 * i + 3 := ⟨_, rfl⟩
      obtain ⟨k_4, e_4⟩ : ∃ m : Nat, m = k + 4 * (i + 1) := ⟨_, rfl⟩
      rw [← e_4] at a4
      rw [← e_3] at a3 a4 r2 f3
      rw [← e_2] at a2 a3 r1 f2
      rw [← e_1] at a1 a2 f1
      rw [← e_0] at e1 a1 f0
      simp only [Nat.add_zero] at f0
      have hl2 : (e 0).slen = n := by rw [e0]; exact hl
      simp [wpC_skip, wpC_region, wpC_seq, wpC_true, wpC_false, wpC_block, wpC_exit, wpC_ret, wpO_nil, wpO_n, wpO_tt, wpO_ff, wpO_tf, wpO_ft, wpO_u, wpS_mov, wpS_pick, wpS_build, wpS_load, wpS_store, wpS_nilck, wpS_bin, wpS_beq, wpS_isnil, wpS_eqs, wpS_not, wpS_neg, wpS_conv, wpS_lea, wpS_fld, wpS_idx, wpS_idxs, wpS_slice, wpS_sslice, wpS_mkfn, wpS_mset, wpS_look, wpS_ext, wpS_len, wpS_new, wpS_box, wpS_mk, wpS_mkmap, wpS_mksl, wpS_app, wpS_fn, wpS_call, after_some, Post.then, Post.inBlock, BExit.outOf, puto_some, puto_none, put_eq, put_ne, Opd.ev, argEnv, op1_mov, op1_pick, op1_new, op1_box, op1_load, op1_nilck, op1_bin, op1_beq, op1_not, op1_neg, op1_conv, op1_lea, op1_fld, op1_len0, op1_len1, op1_idx, op1_ext, op1_build, op1_mk, op1_stw, op1_mksl, op1_eqs, pureBin, isShift, resOf, resVals, BRes.val, oneOf, one_int, cells_int, one_bool, cells_bool, one_str, cells_str, one_nilp, cells_nilp, one_ptr, cells_ptr, one_nils, cells_nils, one_sl, cells_sl, one_sle, cells_sle, one_nilm, cells_nilm, one_mp, cells_mp, one_nilf, cells_nilf, one_fn, cells_fn, one_nili, cells_nili, cells_agg, isSl_sl, slen_sl, sat_sl, make_of, asm, rtOk, wpS_b2s, op1_b2s, op1_isnil, Option.map_some, gam_base, e0, e1, e5, hs.isSl, hl, hlt, hsat, f0, f1, f2, a1, a2]
      refine ⟨_, K1, r1, k1.tys _, ?_⟩
      simp [wpC_skip, wpC_region, wpC_seq, wpC_true, wpC_false, wpC_block, wpC_exit, wpC_ret, wpO_nil, wpO_n, wpO_tt, wpO_ff, wpO_tf, wpO_ft, wpO_u, wpS_mov, wpS_pick, wpS_build, wpS_load, wpS_store, wpS_nilck, wpS_bin, wpS_beq, wpS_isnil, wpS_eqs, wpS_not, wpS_neg, wpS_conv, wpS_lea, wpS_fld, wpS_idx, wpS_idxs, wpS_slice, wpS_sslice, wpS_mkfn, wpS_mset, wpS_look, wpS_ext, wpS_len, wpS_new, wpS_box, wpS_mk, wpS_mkmap, wpS_mksl, wpS_app, wpS_fn, wpS_call, after_some, Post.then, Post.inBlock, BExit.outOf, puto_some, puto_none, put_eq, put_ne, Opd.ev, argEnv, op1_mov, op1_pick, op1_new, op1_box, op1_load, op1_nilck, op1_bin, op1_beq, op1_not, op1_neg, op1_conv, op1_lea, op1_fld, op1_len0, op1_len1, op1_idx, op1_ext, op1_build, op1_mk, op1_stw, op1_mksl, op1_eqs, pureBin, isShift, resOf, resVals, BRes.val, oneOf, one_int, cells_int, one_bool, cells_bool, one_str, cells_str, one_nilp, cells_nilp, one_ptr, cells_ptr, one_nils, cells_nils, one_sl, cells_sl, one_sle, cells_sle, one_nilm, cells_nilm, one_mp, cells_mp, one_nilf, cells_nilf, one_fn, cells_fn, one_nili, cells_nili, cells_agg, isSl_sl, slen_sl, sat_sl, make_of, asm, rtOk, wpS_b2s, op1_b2s, op1_isnil, Option.map_some, gam_base, e0, e1, e5, hs.isSl, hl, hlt, hsat, a3, f3]
      refine ⟨_, K2, r2, k2.tys _, ?_⟩
      simp [wpC_skip, wpC_region, wpC_seq, wpC_true, wpC_false, wpC_block, wpC_exit, wpC_ret, wpO_nil, wpO_n, wpO_tt, wpO_ff, wpO_tf, wpO_ft, wpO_u, wpS_mov, wpS_pick, wpS_build, wpS_load, wpS_store, wpS_nilck, wpS_bin, wpS_beq, wpS_isnil, wpS_eqs, wpS_not, wpS_neg, wpS_conv, wpS_lea, wpS_fld, wpS_idx, wpS_idxs, wpS_slice, wpS_sslice, wpS_mkfn, wpS_mset, wpS_look, wpS_ext, wpS_len, wpS_new, wpS_box, wpS_mk, wpS_mkmap, wpS_mksl, wpS_app, wpS_fn, wpS_call, after_some, Post.then, Post.inBlock, BExit.outOf, puto_some, puto_none, put_eq, put_ne, Opd.ev, argEnv, op1_mov, op1_pick, op1_new, op1_box, op1_load, op1_nilck, op1_bin, op1_beq, op1_not, op1_neg, op1_conv, op1_lea, op1_fld, op1_len0, op1_len1, op1_idx, op1_ext, op1_build, op1_mk, op1_stw, op1_mksl, op1_eqs, pureBin, isShift, resOf, resVals, BRes.val, oneOf, one_int, cells_int, one_bool, cells_bool, one_str, cells_str, one_nilp, cells_nilp, one_ptr, cells_ptr, one_nils, cells_nils, one_sl, cells_sl, one_sle, cells_sle, one_nilm, cells_nilm, one_mp, cells_mp, one_nilf, cells_nilf, one_fn, cells_fn, one_nili, cells_nili, cells_agg, isSl_sl, slen_sl, sat_sl, make_of, asm, rtOk, wpS_b2s, op1_b2s, op1_isnil, Option.map_some, gam_base, e0, e1, e5, hs.isSl, hl, hlt, hsat, a4, a5]
      exact ⟨by rw [e_4]; simp, (hkk.trans k1).trans k2⟩
    · simp [wpC_skip, wpC_region, wpC_seq, wpC_true, wpC_false, wpC_block, wpC_exit, wpC_ret, wpO_nil, wpO_n, wpO_tt, wpO_ff, wpO_tf, wpO_ft, wpO_u, wpS_mov, wpS_pick, wpS_build, wpS_load, wpS_store, wpS_nilck, wpS_bin, wpS_beq, wpS_isnil, wpS_eqs, wpS_not, wpS_neg, wpS_conv, wpS_lea, wpS_fld, wpS_idx, wpS_idxs, wpS_slice, wpS_sslice, wpS_mkfn, wpS_mset, wpS_look, wpS_ext, wpS_len, wpS_new, wpS_box, wpS_mk, wpS_mkmap, wpS_mksl, wpS_app, wpS_fn, wpS_call, after_some, Post.then, Post.inBlock, BExit.outOf, puto_some, puto_none, put_eq, put_ne, Opd.ev, argEnv, op1_mov, op1_pick, op1_new, op1_box, op1_load, op1_nilck, op1_bin, op1_beq, op1_not, op1_neg, op1_conv, op1_lea, op1_fld, op1_len0, op1_len1, op1_idx, op1_ext, op1_build, op1_mk, op1_stw, op1_mksl, op1_eqs, pureBin, isShift, resOf, resVals, BRes.val, oneOf, one_int, cells_int, one_bool, cells_bool, one_str, cells_str, one_nilp, cells_nilp, one_ptr, cells_ptr, one_nils, cells_nils, one_sl, cells_sl, one_sle, cells_sle, one_nilm, cells_nilm, one_mp, cells_mp, one_nilf, cells_nilf, one_fn, cells_fn, one_nili, cells_nili, cells_agg, isSl_sl, slen_sl, sat_sl, make_of, asm, rtOk, wpS_b2s, op1_b2s, op1_isnil, Option.map_some, e0, e1, e5, hs.isSl, hl, hlt]
      have : i = n := by omega
      subst this
      exact ⟨rfl, hkk⟩

/-- The marks of a transducer. -/
theorem c27 (k : Nat) (s : Int) (bs : List Bool) (es : List E4) (u v : BV) (H : BH) (bo co : Option Nat) (ou : OwnN base H 4 1 u (bs.map encB) bo) (ov : OwnN base H 54 4 v (es.map E4.enc) co) (hk : k + bs.length + 4 * es.length ≤ 1099511627776) :
    ∃ H', Runs (gam base) 27 [.agg [.int .i64 s, u, v], .int .i64 k] H (.int .i64 (k + bs.length + 4 * es.length : Nat)) H' ∧ OwnN base H' 4 1 u (((List.range bs.length).map (mkB k)).map encB) bo ∧
      OwnN base H' 54 4 v (((List.range es.length).map (mkE (k + bs.length))).map E4.enc) co ∧ ∀ c, bo ≠ some c → co ≠ some c → H.row c ≠ .fresh → H'.row c = H.row c := by
  have hbc : ∀ c, bo = some c → co ≠ some c := by
    intro c h1 h2
    have q1 := ou.live h1
    have q2 := ov.live h2
    rw [q1] at q2
    cases q2
  obtain ⟨x, H', h1, h2, h3, h4, h5⟩ : ∃ x H', Runs (gam base) 27 [.agg [.int .i64 s, u, v], .int .i64 k] H x H' ∧ x = .int .i64 (k + bs.length + 4 * es.length : Nat) ∧ OwnN base H' 4 1 u (((List.range bs.length).map (mkB k)).map encB) bo ∧
      OwnN base H' 54 4 v (((List.range es.length).map (mkE (k + bs.length))).map E4.enc) co ∧ ∀ c, bo ≠ some c → co ≠ some c → H.row c ≠ .fresh → H'.row c = H.row c := by
    refine call_of_wp (fn := ir27) (R := fun x H' => x = .int .i64 (k + bs.length + 4 * es.length : Nat) ∧ OwnN base H' 4 1 u (((List.range bs.length).map (mkB k)).map encB) bo ∧
      OwnN base H' 54 4 v (((List.range es.length).map (mkE (k + bs.length))).map E4.enc) co ∧ ∀ c, bo ≠ some c → co ≠ some c → H.row c ≠ .fresh → H'.row c = H.row c) rfl ?_
    simp [ir27, wpC_skip, wpC_region, wpC_seq, wpC_true, wpC_false, wpC_block, wpC_exit, wpC_ret, wpO_nil, wpO_n, wpO_tt, wpO_ff, wpO_tf, wpO_ft, wpO_u, wpS_mov, wpS_pick, wpS_build, wpS_load, wpS_store, wpS_nilck, wpS_bin, wpS_beq, wpS_isnil, wpS_eqs, wpS_not, wpS_neg, wpS_conv, wpS_lea, wpS_fld, wpS_idx, wpS_idxs, wpS_slice, wpS_sslice, wpS_mkfn, wpS_mset, wpS_look, wpS_ext, wpS_len, wpS_new, wpS_box, wpS_mk, wpS_mkmap, wpS_mksl, wpS_app, wpS_fn, wpS_call, after_some, Post.then, Post.inBlock, BExit.outOf, puto_some, puto_none, put_eq, put_ne, Opd.ev, argEnv, op1_mov, op1_pick, op1_new, op1_box, op1_load, op1_nilck, op1_bin, op1_beq, op1_not, op1_neg, op1_conv, op1_lea, op1_fld, op1_len0, op1_len1, op1_idx, op1_ext, op1_build, op1_mk, op1_stw, op1_mksl, op1_eqs, pureBin, isShift, resOf, resVals, BRes.val, oneOf, one_int, cells_int, one_bool, cells_bool, one_str, cells_str, one_nilp, cells_nilp, one_ptr, cells_ptr, one_nils, cells_nils, one_sl, cells_sl, one_sle, cells_sle, one_nilm, cells_nilm, one_mp, cells_mp, one_nilf, cells_nilf, one_fn, cells_fn, one_nili, cells_nili, cells_agg, isSl_sl, slen_sl, sat_sl, make_of, asm, rtOk, wpS_b2s, op1_b2s, op1_isnil, Option.map_some, ou.one, ov.one]
    intro nb hb hf
    simp [wpC_skip, wpC_region, wpC_seq, wpC_true, wpC_false, wpC_block, wpC_exit, wpC_ret, wpO_nil, wpO_n, wpO_tt, wpO_ff, wpO_tf, wpO_ft, wpO_u, wpS_mov, wpS_pick, wpS_build, wpS_load, wpS_store, wpS_nilck, wpS_bin, wpS_beq, wpS_isnil, wpS_eqs, wpS_not, wpS_neg, wpS_conv, wpS_lea, wpS_fld, wpS_idx, wpS_idxs, wpS_slice, wpS_sslice, wpS_mkfn, wpS_mset, wpS_look, wpS_ext, wpS_len, wpS_new, wpS_box, wpS_mk, wpS_mkmap, wpS_mksl, wpS_app, wpS_fn, wpS_call, after_some, Post.then, Post.inBlock, BExit.outOf, puto_some, puto_none, put_eq, put_ne, Opd.ev, argEnv, op1_mov, op1_pick, op1_new, op1_box, op1_load, op1_nilck, op1_bin, op1_beq, op1_not, op1_neg, op1_conv, op1_lea, op1_fld, op1_len0, op1_len1, op1_idx, op1_ext, op1_build, op1_mk, op1_stw, op1_mksl, op1_eqs, pureBin, isShift, resOf, resVals, BRes.val, oneOf, one_int, cells_int, one_bool, cells_bool, one_str, cells_str, one_nilp, cells_nilp, one_ptr, cells_ptr, one_nils, cells_nils, one_sl, cells_sl, one_sle, cells_sle, one_nilm, cells_nilm, one_mp, cells_mp, one_nilf, cells_nilf, one_fn, cells_fn, one_nili, cells_nili, cells_agg, isSl_sl, slen_sl, sat_sl, make_of, asm, rtOk, wpS_b2s, op1_b2s, op1_isnil, Option.map_some, make_of hf hb]
    obtain ⟨G, hG⟩ : ∃ G, G = H.set nb (.arr 34 [.int .i64 s, u, v]) := ⟨_, rfl⟩
    have hkG : H.Keeps G := by rw [hG]; exact BH.keeps_set _ hf
    have hrow : G.row nb = .arr 34 [.int .i64 s, u, v] := by rw [hG, BH.row_set_eq]
    rw [← hG]
    have rt1 : G.rd none none (.ptr nb 1) = some u := by simp [BH.rd, hrow, rtOk, asm]
    obtain ⟨G1, r1, o1, k1⟩ := c59 (base := base) k bs u G bo (ou.keeps hkG) (by omega) (by omega)
    have nbb : bo ≠ some nb := by
      intro h
      have := ou.live h
      rw [hf] at this
      cases this
    have nbc : co ≠ some nb := by
      intro h
      have := ov.live h
      rw [hf] at this
      cases this
    have rt2 : G1.rd none none (.ptr nb 2) = some v := by simp [BH.rd, k1 nb nbb, hrow, rtOk, asm]
    have ov1 : OwnN base G1 54 4 v (es.map E4.enc) co := (ov.keeps hkG).stay fun c hc => k1 c fun h => hbc c h hc
    obtain ⟨G2, r2, o2, k2⟩ := c60 (base := base) (k + bs.length) es v G1 co ov1 (by omega)
    have e1 : (k : Int) + (bs.length : Int) = ((k + bs.length : Nat) : Int) := by omega
    rw [e1] at r1
    simp [wpC_skip, wpC_region, wpC_seq, wpC_true, wpC_false, wpC_block, wpC_exit, wpC_ret, wpO_nil, wpO_n, wpO_tt, wpO_ff, wpO_tf, wpO_ft, wpO_u, wpS_mov, wpS_pick, wpS_build, wpS_load, wpS_store, wpS_nilck, wpS_bin, wpS_beq, wpS_isnil, wpS_eqs, wpS_not, wpS_neg, wpS_conv, wpS_lea, wpS_fld, wpS_idx, wpS_idxs, wpS_slice, wpS_sslice, wpS_mkfn, wpS_mset, wpS_look, wpS_ext, wpS_len, wpS_new, wpS_box, wpS_mk, wpS_mkmap, wpS_mksl, wpS_app, wpS_fn, wpS_call, after_some, Post.then, Post.inBlock, BExit.outOf, puto_some, puto_none, put_eq, put_ne, Opd.ev, argEnv, op1_mov, op1_pick, op1_new, op1_box, op1_load, op1_nilck, op1_bin, op1_beq, op1_not, op1_neg, op1_conv, op1_lea, op1_fld, op1_len0, op1_len1, op1_idx, op1_ext, op1_build, op1_mk, op1_stw, op1_mksl, op1_eqs, pureBin, isShift, resOf, resVals, BRes.val, oneOf, one_int, cells_int, one_bool, cells_bool, one_str, cells_str, one_nilp, cells_nilp, one_ptr, cells_ptr, one_nils, cells_nils, one_sl, cells_sl, one_sle, cells_sle, one_nilm, cells_nilm, one_mp, cells_mp, one_nilf, cells_nilf, one_fn, cells_fn, one_nili, cells_nili, cells_agg, isSl_sl, slen_sl, sat_sl, make_of, asm, rtOk, wpS_b2s, op1_b2s, op1_isnil, Option.map_some, rt1]
    refine ⟨_, G1, r1, BH.KeepsTys.nil _ _, ?_⟩
    simp [wpC_skip, wpC_region, wpC_seq, wpC_true, wpC_false, wpC_block, wpC_exit, wpC_ret, wpO_nil, wpO_n, wpO_tt, wpO_ff, wpO_tf, wpO_ft, wpO_u, wpS_mov, wpS_pick, wpS_build, wpS_load, wpS_store, wpS_nilck, wpS_bin, wpS_beq, wpS_isnil, wpS_eqs, wpS_not, wpS_neg, wpS_conv, wpS_lea, wpS_fld, wpS_idx, wpS_idxs, wpS_slice, wpS_sslice, wpS_mkfn, wpS_mset, wpS_look, wpS_ext, wpS_len, wpS_new, wpS_box, wpS_mk, wpS_mkmap, wpS_mksl, wpS_app, wpS_fn, wpS_call, after_some, Post.then, Post.inBlock, BExit.outOf, puto_some, puto_none, put_eq, put_ne, Opd.ev, argEnv, op1_mov, op1_pick, op1_new, op1_box, op1_load, op1_nilck, op1_bin, op1_beq, op1_not, op1_neg, op1_conv, op1_lea, op1_fld, op1_len0, op1_len1, op1_idx, op1_ext, op1_build, op1_mk, op1_stw, op1_mksl, op1_eqs, pureBin, isShift, resOf, resVals, BRes.val, oneOf, one_int, cells_int, one_bool, cells_bool, one_str, cells_str, one_nilp, cells_nilp, one_ptr, cells_ptr, one_nils, cells_nils, one_sl, cells_sl, one_sle, cells_sle, one_nilm, cells_nilm, one_mp, cells_mp, one_nilf, cells_nilf, one_fn, cells_fn, one_nili, cells_nili, cells_agg, isSl_sl, slen_sl, sat_sl, make_of, asm, rtOk, wpS_b2s, op1_b2s, op1_isnil, Option.map_some, rt2]
    refine ⟨_, G2, by simpa using r2, BH.KeepsTys.nil _ _, ?_⟩
    simp [wpC_skip, wpC_region, wpC_seq, wpC_true, wpC_false, wpC_block, wpC_exit, wpC_ret, wpO_nil, wpO_n, wpO_tt, wpO_ff, wpO_tf, wpO_ft, wpO_u, wpS_mov, wpS_pick, wpS_build, wpS_load, wpS_store, wpS_nilck, wpS_bin, wpS_beq, wpS_isnil, wpS_eqs, wpS_not, wpS_neg, wpS_conv, wpS_lea, wpS_fld, wpS_idx, wpS_idxs, wpS_slice, wpS_sslice, wpS_mkfn, wpS_mset, wpS_look, wpS_ext, wpS_len, wpS_new, wpS_box, wpS_mk, wpS_mkmap, wpS_mksl, wpS_app, wpS_fn, wpS_call, after_some, Post.then, Post.inBlock, BExit.outOf, puto_some, puto_none, put_eq, put_ne, Opd.ev, argEnv, op1_mov, op1_pick, op1_new, op1_box, op1_load, op1_nilck, op1_bin, op1_beq, op1_not, op1_neg, op1_conv, op1_lea, op1_fld, op1_len0, op1_len1, op1_idx, op1_ext, op1_build, op1_mk, op1_stw, op1_mksl, op1_eqs, pureBin, isShift, resOf, resVals, BRes.val, oneOf, one_int, cells_int, one_bool, cells_bool, one_str, cells_str, one_nilp, cells_nilp, one_ptr, cells_ptr, one_nils, cells_nils, one_sl, cells_sl, one_sle, cells_sle, one_nilm, cells_nilm, one_mp, cells_mp, one_nilf, cells_nilf, one_fn, cells_fn, one_nili, cells_nili, cells_agg, isSl_sl, slen_sl, sat_sl, make_of, asm, rtOk, wpS_b2s, op1_b2s, op1_isnil, Option.map_some]
    refine ⟨?_, by simpa using o2, ?_⟩
    · have := o1.stay (K := G2) fun b hb' => k2 b (fun h => hbc b hb' h) (by rw [o1.live hb']; simp)
      simpa using this
    · intro c hc1 hc2 hcf
      have q1 : G.row c = H.row c := hkG c hcf
      have q2 := k1 c (by simpa using hc1)
      rw [k2 c (by simpa using hc2) (by rw [q2, q1]; exact hcf), q2, q1]
  subst h2
  exact ⟨H', h1, h3, h4, h5⟩

theorem c28 (k n m : Nat) (s : Int) (u v : BV) (H : BH) (hu : Sls H 4 1 u (((List.range n).map (mkB k)).map encB)) (hv : Sls H 54 4 v (((List.range m).map (mkE (k + n))).map E4.enc)) (hk : k + n + 4 * m ≤ 1099511627776) :
    Gives (gam base) 28 [.agg [.int .i64 s, u, v], .int .i64 k] H (.int .i64 (k + n + 4 * m : Nat)) := by
  obtain ⟨a', ha'⟩ : ∃ a : Nat, a = k + n + 4 * m := ⟨_, rfl⟩
  rw [← ha']
  refine gives_of (fn := ir28) rfl ?_
  have o1 := one_of_isSl hu.isSl
  have o2 := one_of_isSl hv.isSl
  simp [ir28, wpC_skip, wpC_region, wpC_seq, wpC_true, wpC_false, wpC_block, wpC_exit, wpC_ret, wpO_nil, wpO_n, wpO_tt, wpO_ff, wpO_tf, wpO_ft, wpO_u, wpS_mov, wpS_pick, wpS_build, wpS_load, wpS_store, wpS_nilck, wpS_bin, wpS_beq, wpS_isnil, wpS_eqs, wpS_not, wpS_neg, wpS_conv, wpS_lea, wpS_fld, wpS_idx, wpS_idxs, wpS_slice, wpS_sslice, wpS_mkfn, wpS_mset, wpS_look, wpS_ext, wpS_len, wpS_new, wpS_box, wpS_mk, wpS_mkmap, wpS_mksl, wpS_app, wpS_fn, wpS_call, after_some, Post.then, Post.inBlock, BExit.outOf, puto_some, puto_none, put_eq, put_ne, Opd.ev, argEnv, op1_mov, op1_pick, op1_new, op1_box, op1_load, op1_nilck, op1_bin, op1_beq, op1_not, op1_neg, op1_conv, op1_lea, op1_fld, op1_len0, op1_len1, op1_idx, op1_ext, op1_build, op1_mk, op1_stw, op1_mksl, op1_eqs, pureBin, isShift, resOf, resVals, BRes.val, oneOf, one_int, cells_int, one_bool, cells_bool, one_str, cells_str, one_nilp, cells_nilp, one_ptr, cells_ptr, one_nils, cells_nils, one_sl, cells_sl, one_sle, cells_sle, one_nilm, cells_nilm, one_mp, cells_mp, one_nilf, cells_nilf, one_fn, cells_fn, one_nili, cells_nili, cells_agg, isSl_sl, slen_sl, sat_sl, make_of, asm, rtOk, wpS_b2s, op1_b2s, op1_isnil, Option.map_some, o1, o2]
  intro nb hb hf
  simp [wpC_skip, wpC_region, wpC_seq, wpC_true, wpC_false, wpC_block, wpC_exit, wpC_ret, wpO_nil, wpO_n, wpO_tt, wpO_ff, wpO_tf, wpO_ft, wpO_u, wpS_mov, wpS_pick, wpS_build, wpS_load, wpS_store, wpS_nilck, wpS_bin, wpS_beq, wpS_isnil, wpS_eqs, wpS_not, wpS_neg, wpS_conv, wpS_lea, wpS_fld, wpS_idx, wpS_idxs, wpS_slice, wpS_sslice, wpS_mkfn, wpS_mset, wpS_look, wpS_ext, wpS_len, wpS_new, wpS_box, wpS_mk, wpS_mkmap, wpS_mksl, wpS_app, wpS_fn, wpS_call, after_some, Post.then, Post.inBlock, BExit.outOf, puto_some, puto_none, put_eq, put_ne, Opd.ev, argEnv, op1_mov, op1_pick, op1_new, op1_box, op1_load, op1_nilck, op1_bin, op1_beq, op1_not, op1_neg, op1_conv, op1_lea, op1_fld, op1_len0, op1_len1, op1_idx, op1_ext, op1_build, op1_mk, op1_stw, op1_mksl, op1_eqs, pureBin, isShift, resOf, resVals, BRes.val, oneOf, one_int, cells_int, one_bool, cells_bool, one_str, cells_str, one_nilp, cells_nilp, one_ptr, cells_ptr, one_nils, cells_nils, one_sl, cells_sl, one_sle, cells_sle, one_nilm, cells_nilm, one_mp, cells_mp, one_nilf, cells_nilf, one_fn, cells_fn, one_nili, cells_nili, cells_agg, isSl_sl, slen_sl, sat_sl, make_of, asm, rtOk, wpS_b2s, op1_b2s, op1_isnil, Option.map_some, make_of hf hb]
  obtain ⟨G, hG⟩ : ∃ G, G = H.set nb (.arr 34 [.int .i64 s, u, v]) := ⟨_, rfl⟩
  have hkG : H.Keeps G := by rw [hG]; exact BH.keeps_set _ hf
  have hrow : G.row nb = .arr 34 [.int .i64 s, u, v] := by rw [hG, BH.row_set_eq]
  rw [← hG]
  have rt1 : G.rd none none (.ptr nb 1) = some u := by simp [BH.rd, hrow, rtOk, asm]
  have rt2 : G.rd none none (.ptr nb 2) = some v := by simp [BH.rd, hrow, rtOk, asm]
  have r1 := c61 (base := base) k n u G (hu.keeps hkG) (by omega) (by omega)
  have e1 : (k : Int) + (n : Int) = ((k + n : Nat) : Int) := by omega
  rw [e1] at r1
  obtain ⟨G2, r2, k2⟩ := c62 (base := base) (k + n) m v G (hv.keeps hkG) (by omega)
  obtain ⟨a, ha⟩ : ∃ a : Nat, a = k + n := ⟨_, rfl⟩
  rw [← ha'] at r2
  rw [← ha] at r1 r2
  simp [wpC_skip, wpC_region, wpC_seq, wpC_true, wpC_false, wpC_block, wpC_exit, wpC_ret, wpO_nil, wpO_n, wpO_tt, wpO_ff, wpO_tf, wpO_ft, wpO_u, wpS_mov, wpS_pick, wpS_build, wpS_load, wpS_store, wpS_nilck, wpS_bin, wpS_beq, wpS_isnil, wpS_eqs, wpS_not, wpS_neg, wpS_conv, wpS_lea, wpS_fld, wpS_idx, wpS_idxs, wpS_slice, wpS_sslice, wpS_mkfn, wpS_mset, wpS_look, wpS_ext, wpS_len, wpS_new, wpS_box, wpS_mk, wpS_mkmap, wpS_mksl, wpS_app, wpS_fn, wpS_call, after_some, Post.then, Post.inBlock, BExit.outOf, puto_some, puto_none, put_eq, put_ne, Opd.ev, argEnv, op1_mov, op1_pick, op1_new, op1_box, op1_load, op1_nilck, op1_bin, op1_beq, op1_not, op1_neg, op1_conv, op1_lea, op1_fld, op1_len0, op1_len1, op1_idx, op1_ext, op1_build, op1_mk, op1_stw, op1_mksl, op1_eqs, pureBin, isShift, resOf, resVals, BRes.val, oneOf, one_int, cells_int, one_bool, cells_bool, one_str, cells_str, one_nilp, cells_nilp, one_ptr, cells_ptr, one_nils, cells_nils, one_sl, cells_sl, one_sle, cells_sle, one_nilm, cells_nilm, one_mp, cells_mp, one_nilf, cells_nilf, one_fn, cells_fn, one_nili, cells_nili, cells_agg, isSl_sl, slen_sl, sat_sl, make_of, asm, rtOk, wpS_b2s, op1_b2s, op1_isnil, Option.map_some, rt1]
  refine ⟨_, G, r1, BH.KeepsTys.nil _ _, ?_⟩
  have q1 : ¬ (a : Int) < 0 := by omega
  have q2 : ¬ (a' : Int) < 0 := by omega
  simp [wpC_skip, wpC_region, wpC_seq, wpC_true, wpC_false, wpC_block, wpC_exit, wpC_ret, wpO_nil, wpO_n, wpO_tt, wpO_ff, wpO_tf, wpO_ft, wpO_u, wpS_mov, wpS_pick, wpS_build, wpS_load, wpS_store, wpS_nilck, wpS_bin, wpS_beq, wpS_isnil, wpS_eqs, wpS_not, wpS_neg, wpS_conv, wpS_lea, wpS_fld, wpS_idx, wpS_idxs, wpS_slice, wpS_sslice, wpS_mkfn, wpS_mset, wpS_look, wpS_ext, wpS_len, wpS_new, wpS_box, wpS_mk, wpS_mkmap, wpS_mksl, wpS_app, wpS_fn, wpS_call, after_some, Post.then, Post.inBlock, BExit.outOf, puto_some, puto_none, put_eq, put_ne, Opd.ev, argEnv, op1_mov, op1_pick, op1_new, op1_box, op1_load, op1_nilck, op1_bin, op1_beq, op1_not, op1_neg, op1_conv, op1_lea, op1_fld, op1_len0, op1_len1, op1_idx, op1_ext, op1_build, op1_mk, op1_stw, op1_mksl, op1_eqs, pureBin, isShift, resOf, resVals, BRes.val, oneOf, one_int, cells_int, one_bool, cells_bool, one_str, cells_str, one_nilp, cells_nilp, one_ptr, cells_ptr, one_nils, cells_nils, one_sl, cells_sl, one_sle, cells_sle, one_nilm, cells_nilm, one_mp, cells_mp, one_nilf, cells_nilf, one_fn, cells_fn, one_nili, cells_nili, cells_agg, isSl_sl, slen_sl, sat_sl, make_of, asm, rtOk, wpS_b2s, op1_b2s, op1_isnil, Option.map_some, rt2, q1]
  refine ⟨_, G2, r2, BH.KeepsTys.nil _ _, ?_⟩
  simp [wpC_skip, wpC_region, wpC_seq, wpC_true, wpC_false, wpC_block, wpC_exit, wpC_ret, wpO_nil, wpO_n, wpO_tt, wpO_ff, wpO_tf, wpO_ft, wpO_u, wpS_mov, wpS_pick, wpS_build, wpS_load, wpS_store, wpS_nilck, wpS_bin, wpS_beq, wpS_isnil, wpS_eqs, wpS_not, wpS_neg, wpS_conv, wpS_lea, wpS_fld, wpS_idx, wpS_idxs, wpS_slice, wpS_sslice, wpS_mkfn, wpS_mset, wpS_look, wpS_ext, wpS_len, wpS_new, wpS_box, wpS_mk, wpS_mkmap, wpS_mksl, wpS_app, wpS_fn, wpS_call, after_some, Post.then, Post.inBlock, BExit.outOf, puto_some, puto_none, put_eq, put_ne, Opd.ev, argEnv, op1_mov, op1_pick, op1_new, op1_box, op1_load, op1_nilck, op1_bin, op1_beq, op1_not, op1_neg, op1_conv, op1_lea, op1_fld, op1_len0, op1_len1, op1_idx, op1_ext, op1_build, op1_mk, op1_stw, op1_mksl, op1_eqs, pureBin, isShift, resOf, resVals, BRes.val, oneOf, one_int, cells_int, one_bool, cells_bool, one_str, cells_str, one_nilp, cells_nilp, one_ptr, cells_ptr, one_nils, cells_nils, one_sl, cells_sl, one_sle, cells_sle, one_nilm, cells_nilm, one_mp, cells_mp, one_nilf, cells_nilf, one_fn, cells_fn, one_nili, cells_nili, cells_agg, isSl_sl, slen_sl, sat_sl, make_of, asm, rtOk, wpS_b2s, op1_b2s, op1_isnil, Option.map_some, q2]
  exact hkG.trans k2
end Go.Proofs.Ytkmlmkbpdldjgaa.W
