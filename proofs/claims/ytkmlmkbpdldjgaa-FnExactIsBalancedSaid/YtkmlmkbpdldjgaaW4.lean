/-
Comparisons.
-/
import Derived.Test.YtkmlmkbpdldjgaaW3
namespace Go.Proofs.Ytkmlmkbpdldjgaa.W
set_option linter.unusedSimpArgs false
set_option linter.unusedVariables false
open Go.B
variable {base : Nat}

def eqL {α : Type} (f : α → α → Bool) : List α → List α → Bool
  | [], [] => true
  | x :: xs, y :: ys => f x y && eqL f xs ys
  | _, _ => false
theorem eqL_len {α : Type} {f : α → α → Bool} : ∀ {xs ys : List α}, eqL f xs ys = true → xs.length = ys.length
  | [], [], _ => rfl
  | x :: xs, y :: ys, h => by
    simp only [eqL, Bool.and_eq_true] at h
    simp [eqL_len h.2]
  | [], _ :: _, h => by cases h
  | _ :: _, [], h => by cases h
theorem eqL_self {α : Type} {f : α → α → Bool} (h : ∀ x, f x x = true) : ∀ xs : List α, eqL f xs xs = true
  | [] => rfl
  | x :: xs => by simp [eqL, h x, eqL_self h xs]
theorem eqE_self (e : E4) : eqE e e = true := by simp [eqE]

theorem c53 (ds es : List E4) (u v : BV) (H : BH) (hu : Sls H 54 4 u (ds.map E4.enc)) (hv : Sls H 54 4 v (es.map E4.enc)) (hn : ds.length ≤ 9223372036854775806) : Gives (gam base) 53 [u, v] H (.bool (eqL eqE ds es)) := by
  refine gives_of (fn := ir53) rfl ?_
  have hlu : u.slen = ds.length := by rw [hu.len]; simp
  have hlv : v.slen = es.length := by rw [hv.len]; simp
  by_cases hlen : ds.length = es.length
  · have hne : ((ds.length : Int) != (es.length : Int)) = false := by simp [hlen]
    simp [ir53, wpC_skip, wpC_region, wpC_seq, wpC_cond, wpC_block, wpC_exit, wpC_ret, wpO, wpStep, wantB, BOp.makes, after, Post.then, Post.inBlock, BExit.outOf, Env.puto, Env.put, Opd.ev, argEnv, op1_mov, op1_pick, op1_new, op1_box, op1_load, op1_nilck, op1_bin, op1_beq, op1_not, op1_neg, op1_conv, op1_lea, op1_fld, op1_len0, op1_len1, op1_idx, op1_ext, op1_build, op1_mk, op1_store, op1_mksl, op1_eqs, pureBin, isShift, resOf, resVals, BRes.val, oneOf, one_int, cells_int, one_bool, cells_bool, one_str, cells_str, one_nilp, cells_nilp, one_ptr, cells_ptr, one_nils, cells_nils, one_sl, cells_sl, one_sle, cells_sle, one_nilm, cells_nilm, one_mp, cells_mp, one_nilf, cells_nilf, one_fn, cells_fn, one_nili, cells_nili, cells_agg, isSl_sl, slen_sl, sat_sl, make_of, asm, rtOk, hu.isSl, hv.isSl, hlu, hlv, hne]
    refine wpC_count ds.length (fun i e K => e 0 = u ∧ e 1 = v ∧ e 5 = .int .i64 i ∧ H.Keeps K ∧ eqL eqE ds es = eqL eqE (ds.drop i) (es.drop i)) (i0 := 0) ?_ (Nat.zero_le _) ?_
    · exact ⟨rfl, rfl, rfl, BH.Keeps.refl H, rfl⟩
    · rintro i e K hi ⟨e0, e1, e5, hk, heq⟩
      by_cases hlt : i < ds.length
      · have hlt2 : i < es.length := by omega
        have hd : ds.drop i = ds[i] :: ds.drop (i + 1) := List.drop_eq_getElem_cons hlt
        have he : es.drop i = es[i] :: es.drop (i + 1) := List.drop_eq_getElem_cons hlt2
        have r1 : K.rd none (some 4) (u.sat i 4) = some (.agg (E4.enc ds[i])) := (hu.keeps hk).rd (by simp [hlt]) rfl
        have r2 : K.rd none (some 4) (v.sat i 4) = some (.agg (E4.enc es[i])) := (hv.keeps hk).rd (by simp [hlt2]) rfl
        obtain ⟨K1, hr, hk1⟩ := c77 (base := base) ds[i] es[i] K
        have w2 : IntKind.i64.wrap ((i : Int) + 1) = (i : Int) + 1 := w64 (by omega) (by omega)
        rw [hd, he] at heq
        simp only [eqL] at heq
        simp [wpC_skip, wpC_region, wpC_seq, wpC_cond, wpC_block, wpC_exit, wpC_ret, wpO, wpStep, wantB, BOp.makes, after, Post.then, Post.inBlock, BExit.outOf, Env.puto, Env.put, Opd.ev, argEnv, op1_mov, op1_pick, op1_new, op1_box, op1_load, op1_nilck, op1_bin, op1_beq, op1_not, op1_neg, op1_conv, op1_lea, op1_fld, op1_len0, op1_len1, op1_idx, op1_ext, op1_build, op1_mk, op1_store, op1_mksl, op1_eqs, pureBin, isShift, resOf, resVals, BRes.val, oneOf, one_int, cells_int, one_bool, cells_bool, one_str, cells_str, one_nilp, cells_nilp, one_ptr, cells_ptr, one_nils, cells_nils, one_sl, cells_sl, one_sle, cells_sle, one_nilm, cells_nilm, one_mp, cells_mp, one_nilf, cells_nilf, one_fn, cells_fn, one_nili, cells_nili, cells_agg, isSl_sl, slen_sl, sat_sl, make_of, asm, rtOk, e0, e1, e5, hu.isSl, hv.isSl, hlu, hlv, hlt, hlt2, r1, r2]
        refine ⟨_, K1, hr, BH.KeepsTys.nil _ _, ?_⟩
        cases q : eqE ds[i] es[i]
        · rw [q] at heq
          simp [wpC_skip, wpC_region, wpC_seq, wpC_cond, wpC_block, wpC_exit, wpC_ret, wpO, wpStep, wantB, BOp.makes, after, Post.then, Post.inBlock, BExit.outOf, Env.puto, Env.put, Opd.ev, argEnv, op1_mov, op1_pick, op1_new, op1_box, op1_load, op1_nilck, op1_bin, op1_beq, op1_not, op1_neg, op1_conv, op1_lea, op1_fld, op1_len0, op1_len1, op1_idx, op1_ext, op1_build, op1_mk, op1_store, op1_mksl, op1_eqs, pureBin, isShift, resOf, resVals, BRes.val, oneOf, one_int, cells_int, one_bool, cells_bool, one_str, cells_str, one_nilp, cells_nilp, one_ptr, cells_ptr, one_nils, cells_nils, one_sl, cells_sl, one_sle, cells_sle, one_nilm, cells_nilm, one_mp, cells_mp, one_nilf, cells_nilf, one_fn, cells_fn, one_nili, cells_nili, cells_agg, isSl_sl, slen_sl, sat_sl, make_of, asm, rtOk, e0, e1, e5, heq]
          exact hk.trans hk1
        · rw [q] at heq
          simp only [Bool.true_and] at heq
          simp [wpC_skip, wpC_region, wpC_seq, wpC_cond, wpC_block, wpC_exit, wpC_ret, wpO, wpStep, wantB, BOp.makes, after, Post.then, Post.inBlock, BExit.outOf, Env.puto, Env.put, Opd.ev, argEnv, op1_mov, op1_pick, op1_new, op1_box, op1_load, op1_nilck, op1_bin, op1_beq, op1_not, op1_neg, op1_conv, op1_lea, op1_fld, op1_len0, op1_len1, op1_idx, op1_ext, op1_build, op1_mk, op1_store, op1_mksl, op1_eqs, pureBin, isShift, resOf, resVals, BRes.val, oneOf, one_int, cells_int, one_bool, cells_bool, one_str, cells_str, one_nilp, cells_nilp, one_ptr, cells_ptr, one_nils, cells_nils, one_sl, cells_sl, one_sle, cells_sle, one_nilm, cells_nilm, one_mp, cells_mp, one_nilf, cells_nilf, one_fn, cells_fn, one_nili, cells_nili, cells_agg, isSl_sl, slen_sl, sat_sl, make_of, asm, rtOk, e0, e1, e5, w2, hlt]
          exact ⟨hk.trans hk1, heq⟩
      · have hd : ds.drop i = [] := List.drop_eq_nil_of_le (by omega)
        have he : es.drop i = [] := List.drop_eq_nil_of_le (by omega)
        rw [hd, he] at heq
        simp [wpC_skip, wpC_region, wpC_seq, wpC_cond, wpC_block, wpC_exit, wpC_ret, wpO, wpStep, wantB, BOp.makes, after, Post.then, Post.inBlock, BExit.outOf, Env.puto, Env.put, Opd.ev, argEnv, op1_mov, op1_pick, op1_new, op1_box, op1_load, op1_nilck, op1_bin, op1_beq, op1_not, op1_neg, op1_conv, op1_lea, op1_fld, op1_len0, op1_len1, op1_idx, op1_ext, op1_build, op1_mk, op1_store, op1_mksl, op1_eqs, pureBin, isShift, resOf, resVals, BRes.val, oneOf, one_int, cells_int, one_bool, cells_bool, one_str, cells_str, one_nilp, cells_nilp, one_ptr, cells_ptr, one_nils, cells_nils, one_sl, cells_sl, one_sle, cells_sle, one_nilm, cells_nilm, one_mp, cells_mp, one_nilf, cells_nilf, one_fn, cells_fn, one_nili, cells_nili, cells_agg, isSl_sl, slen_sl, sat_sl, make_of, asm, rtOk, e0, e1, e5, hu.isSl, hv.isSl, hlu, hlv, hlt, heq, eqL]
        exact hk
  · have hne : ((ds.length : Int) != (es.length : Int)) = true := by
      simp
      omega
    have hq : eqL eqE ds es = false := by
      cases h : eqL eqE ds es
      · rfl
      · exact absurd (eqL_len h) hlen
    simp [ir53, wpC_skip, wpC_region, wpC_seq, wpC_cond, wpC_block, wpC_exit, wpC_ret, wpO, wpStep, wantB, BOp.makes, after, Post.then, Post.inBlock, BExit.outOf, Env.puto, Env.put, Opd.ev, argEnv, op1_mov, op1_pick, op1_new, op1_box, op1_load, op1_nilck, op1_bin, op1_beq, op1_not, op1_neg, op1_conv, op1_lea, op1_fld, op1_len0, op1_len1, op1_idx, op1_ext, op1_build, op1_mk, op1_store, op1_mksl, op1_eqs, pureBin, isShift, resOf, resVals, BRes.val, oneOf, one_int, cells_int, one_bool, cells_bool, one_str, cells_str, one_nilp, cells_nilp, one_ptr, cells_ptr, one_nils, cells_nils, one_sl, cells_sl, one_sle, cells_sle, one_nilm, cells_nilm, one_mp, cells_mp, one_nilf, cells_nilf, one_fn, cells_fn, one_nili, cells_nili, cells_agg, isSl_sl, slen_sl, sat_sl, make_of, asm, rtOk, hu.isSl, hv.isSl, hlu, hlv, hne, hq]
    exact BH.Keeps.refl H

theorem c52 (ds es : List Bool) (u v : BV) (H : BH) (hu : Sls H 4 1 u (ds.map encB)) (hv : Sls H 4 1 v (es.map encB)) (hn : ds.length ≤ 9223372036854775806) : Runs (gam base) 52 [u, v] H (.bool (eqL (· == ·) ds es)) H := by
  refine runs_of (fn := ir52) rfl ?_
  have hlu : u.slen = ds.length := by rw [hu.len]; simp
  have hlv : v.slen = es.length := by rw [hv.len]; simp
  by_cases hlen : ds.length = es.length
  · have hne : ((ds.length : Int) != (es.length : Int)) = false := by simp [hlen]
    simp [ir52, wpC_skip, wpC_region, wpC_seq, wpC_cond, wpC_block, wpC_exit, wpC_ret, wpO, wpStep, wantB, BOp.makes, after, Post.then, Post.inBlock, BExit.outOf, Env.puto, Env.put, Opd.ev, argEnv, op1_mov, op1_pick, op1_new, op1_box, op1_load, op1_nilck, op1_bin, op1_beq, op1_not, op1_neg, op1_conv, op1_lea, op1_fld, op1_len0, op1_len1, op1_idx, op1_ext, op1_build, op1_mk, op1_store, op1_mksl, op1_eqs, pureBin, isShift, resOf, resVals, BRes.val, oneOf, one_int, cells_int, one_bool, cells_bool, one_str, cells_str, one_nilp, cells_nilp, one_ptr, cells_ptr, one_nils, cells_nils, one_sl, cells_sl, one_sle, cells_sle, one_nilm, cells_nilm, one_mp, cells_mp, one_nilf, cells_nilf, one_fn, cells_fn, one_nili, cells_nili, cells_agg, isSl_sl, slen_sl, sat_sl, make_of, asm, rtOk, hu.isSl, hv.isSl, hlu, hlv, hne]
    refine wpC_count ds.length (fun i e K => e 0 = u ∧ e 1 = v ∧ e 5 = .int .i64 i ∧ K = H ∧ eqL (· == ·) ds es = eqL (· == ·) (ds.drop i) (es.drop i)) (i0 := 0) ?_ (Nat.zero_le _) ?_
    · exact ⟨rfl, rfl, rfl, rfl, rfl⟩
    · rintro i e K hi ⟨e0, e1, e5, rfl, heq⟩
      by_cases hlt : i < ds.length
      · have hlt2 : i < es.length := by omega
        have hd : ds.drop i = ds[i] :: ds.drop (i + 1) := List.drop_eq_getElem_cons hlt
        have he : es.drop i = es[i] :: es.drop (i + 1) := List.drop_eq_getElem_cons hlt2
        have r1 : K.rd none none (u.sat i 1) = some (.bool ds[i]) := hu.rd1 (by simp [hlt, encB]) rfl
        have r2 : K.rd none none (v.sat i 1) = some (.bool es[i]) := hv.rd1 (by simp [hlt2, encB]) rfl
        have w2 : IntKind.i64.wrap ((i : Int) + 1) = (i : Int) + 1 := w64 (by omega) (by omega)
        rw [hd, he] at heq
        simp only [eqL] at heq
        cases q : (ds[i] == es[i])
        · rw [q] at heq
          simp [wpC_skip, wpC_region, wpC_seq, wpC_cond, wpC_block, wpC_exit, wpC_ret, wpO, wpStep, wantB, BOp.makes, after, Post.then, Post.inBlock, BExit.outOf, Env.puto, Env.put, Opd.ev, argEnv, op1_mov, op1_pick, op1_new, op1_box, op1_load, op1_nilck, op1_bin, op1_beq, op1_not, op1_neg, op1_conv, op1_lea, op1_fld, op1_len0, op1_len1, op1_idx, op1_ext, op1_build, op1_mk, op1_store, op1_mksl, op1_eqs, pureBin, isShift, resOf, resVals, BRes.val, oneOf, one_int, cells_int, one_bool, cells_bool, one_str, cells_str, one_nilp, cells_nilp, one_ptr, cells_ptr, one_nils, cells_nils, one_sl, cells_sl, one_sle, cells_sle, one_nilm, cells_nilm, one_mp, cells_mp, one_nilf, cells_nilf, one_fn, cells_fn, one_nili, cells_nili, cells_agg, isSl_sl, slen_sl, sat_sl, make_of, asm, rtOk, e0, e1, e5, hu.isSl, hv.isSl, hlu, hlv, hlt, hlt2, r1, r2, q, heq]
        · rw [q] at heq
          simp only [Bool.true_and] at heq
          simp [wpC_skip, wpC_region, wpC_seq, wpC_cond, wpC_block, wpC_exit, wpC_ret, wpO, wpStep, wantB, BOp.makes, after, Post.then, Post.inBlock, BExit.outOf, Env.puto, Env.put, Opd.ev, argEnv, op1_mov, op1_pick, op1_new, op1_box, op1_load, op1_nilck, op1_bin, op1_beq, op1_not, op1_neg, op1_conv, op1_lea, op1_fld, op1_len0, op1_len1, op1_idx, op1_ext, op1_build, op1_mk, op1_store, op1_mksl, op1_eqs, pureBin, isShift, resOf, resVals, BRes.val, oneOf, one_int, cells_int, one_bool, cells_bool, one_str, cells_str, one_nilp, cells_nilp, one_ptr, cells_ptr, one_nils, cells_nils, one_sl, cells_sl, one_sle, cells_sle, one_nilm, cells_nilm, one_mp, cells_mp, one_nilf, cells_nilf, one_fn, cells_fn, one_nili, cells_nili, cells_agg, isSl_sl, slen_sl, sat_sl, make_of, asm, rtOk, e0, e1, e5, hu.isSl, hv.isSl, hlu, hlv, hlt, hlt2, r1, r2, q, w2]
          exact heq
      · have hd : ds.drop i = [] := List.drop_eq_nil_of_le (by omega)
        have he : es.drop i = [] := List.drop_eq_nil_of_le (by omega)
        rw [hd, he] at heq
        simp [wpC_skip, wpC_region, wpC_seq, wpC_cond, wpC_block, wpC_exit, wpC_ret, wpO, wpStep, wantB, BOp.makes, after, Post.then, Post.inBlock, BExit.outOf, Env.puto, Env.put, Opd.ev, argEnv, op1_mov, op1_pick, op1_new, op1_box, op1_load, op1_nilck, op1_bin, op1_beq, op1_not, op1_neg, op1_conv, op1_lea, op1_fld, op1_len0, op1_len1, op1_idx, op1_ext, op1_build, op1_mk, op1_store, op1_mksl, op1_eqs, pureBin, isShift, resOf, resVals, BRes.val, oneOf, one_int, cells_int, one_bool, cells_bool, one_str, cells_str, one_nilp, cells_nilp, one_ptr, cells_ptr, one_nils, cells_nils, one_sl, cells_sl, one_sle, cells_sle, one_nilm, cells_nilm, one_mp, cells_mp, one_nilf, cells_nilf, one_fn, cells_fn, one_nili, cells_nili, cells_agg, isSl_sl, slen_sl, sat_sl, make_of, asm, rtOk, e0, e1, e5, hu.isSl, hv.isSl, hlu, hlv, hlt, heq, eqL]
  · have hne : ((ds.length : Int) != (es.length : Int)) = true := by
      simp
      omega
    have hq : eqL (· == ·) ds es = false := by
      cases h : eqL (· == ·) ds es
      · rfl
      · exact absurd (eqL_len h) hlen
    simp [ir52, wpC_skip, wpC_region, wpC_seq, wpC_cond, wpC_block, wpC_exit, wpC_ret, wpO, wpStep, wantB, BOp.makes, after, Post.then, Post.inBlock, BExit.outOf, Env.puto, Env.put, Opd.ev, argEnv, op1_mov, op1_pick, op1_new, op1_box, op1_load, op1_nilck, op1_bin, op1_beq, op1_not, op1_neg, op1_conv, op1_lea, op1_fld, op1_len0, op1_len1, op1_idx, op1_ext, op1_build, op1_mk, op1_store, op1_mksl, op1_eqs, pureBin, isShift, resOf, resVals, BRes.val, oneOf, one_int, cells_int, one_bool, cells_bool, one_str, cells_str, one_nilp, cells_nilp, one_ptr, cells_ptr, one_nils, cells_nils, one_sl, cells_sl, one_sle, cells_sle, one_nilm, cells_nilm, one_mp, cells_mp, one_nilf, cells_nilf, one_fn, cells_fn, one_nili, cells_nili, cells_agg, isSl_sl, slen_sl, sat_sl, make_of, asm, rtOk, hu.isSl, hv.isSl, hlu, hlv, hne, hq]

def eqT (s1 s2 : Int) (bs1 bs2 : List Bool) (es1 es2 : List E4) : Bool := !(s1 != s2) && (eqL (· == ·) bs1 bs2 && eqL eqE es1 es2)
theorem eqT_self (s : Int) (bs : List Bool) (es : List E4) : eqT s s bs bs es es = true := by
  simp [eqT, eqL_self eqE_self, eqL_self]

theorem c22 (s1 s2 : Int) (bs1 bs2 : List Bool) (es1 es2 : List E4) (u1 v1 u2 v2 : BV) (H : BH) (hu1 : Sls H 4 1 u1 (bs1.map encB)) (hv1 : Sls H 54 4 v1 (es1.map E4.enc)) (hu2 : Sls H 4 1 u2 (bs2.map encB)) (hv2 : Sls H 54 4 v2 (es2.map E4.enc))
    (hn : bs1.length ≤ 9223372036854775806) (hn' : es1.length ≤ 9223372036854775806) : Gives (gam base) 22 [.agg [.int .i64 s1, u1, v1], .agg [.int .i64 s2, u2, v2]] H (.bool (eqT s1 s2 bs1 bs2 es1 es2)) := by
  refine gives_of (fn := ir22) rfl ?_
  have o1 := one_of_isSl hu1.isSl
  have o2 := one_of_isSl hv1.isSl
  have o3 := one_of_isSl hu2.isSl
  have o4 := one_of_isSl hv2.isSl
  simp [ir22, wpC_skip, wpC_region, wpC_seq, wpC_cond, wpC_block, wpC_exit, wpC_ret, wpO, wpStep, wantB, BOp.makes, after, Post.then, Post.inBlock, BExit.outOf, Env.puto, Env.put, Opd.ev, argEnv, op1_mov, op1_pick, op1_new, op1_box, op1_load, op1_nilck, op1_bin, op1_beq, op1_not, op1_neg, op1_conv, op1_lea, op1_fld, op1_len0, op1_len1, op1_idx, op1_ext, op1_build, op1_mk, op1_store, op1_mksl, op1_eqs, pureBin, isShift, resOf, resVals, BRes.val, oneOf, one_int, cells_int, one_bool, cells_bool, one_str, cells_str, one_nilp, cells_nilp, one_ptr, cells_ptr, one_nils, cells_nils, one_sl, cells_sl, one_sle, cells_sle, one_nilm, cells_nilm, one_mp, cells_mp, one_nilf, cells_nilf, one_fn, cells_fn, one_nili, cells_nili, cells_agg, isSl_sl, slen_sl, sat_sl, make_of, asm, rtOk, o1, o2, o3, o4]
  intro n1 b1 f1
  simp [wpC_skip, wpC_region, wpC_seq, wpC_cond, wpC_block, wpC_exit, wpC_ret, wpO, wpStep, wantB, BOp.makes, after, Post.then, Post.inBlock, BExit.outOf, Env.puto, Env.put, Opd.ev, argEnv, op1_mov, op1_pick, op1_new, op1_box, op1_load, op1_nilck, op1_bin, op1_beq, op1_not, op1_neg, op1_conv, op1_lea, op1_fld, op1_len0, op1_len1, op1_idx, op1_ext, op1_build, op1_mk, op1_store, op1_mksl, op1_eqs, pureBin, isShift, resOf, resVals, BRes.val, oneOf, one_int, cells_int, one_bool, cells_bool, one_str, cells_str, one_nilp, cells_nilp, one_ptr, cells_ptr, one_nils, cells_nils, one_sl, cells_sl, one_sle, cells_sle, one_nilm, cells_nilm, one_mp, cells_mp, one_nilf, cells_nilf, one_fn, cells_fn, one_nili, cells_nili, cells_agg, isSl_sl, slen_sl, sat_sl, make_of, asm, rtOk, make_of f1 b1]
  intro n2 b2 f2
  obtain ⟨d21, g2⟩ := fresh_set (by simp) f2
  have hk : H.Keeps ((H.set n1 (.arr 34 [.int .i64 s1, u1, v1])).set n2 (.arr 34 [.int .i64 s2, u2, v2])) := (BH.keeps_set _ f1).set g2 _
  have r1 := c52 (base := base) bs1 bs2 u1 u2 _ (hu1.keeps hk) (hu2.keeps hk) hn
  obtain ⟨K, r2, k2⟩ := c53 (base := base) es1 es2 v1 v2 _ (hv1.keeps hk) (hv2.keeps hk) hn'
  simp [wpC_skip, wpC_region, wpC_seq, wpC_cond, wpC_block, wpC_exit, wpC_ret, wpO, wpStep, wantB, BOp.makes, after, Post.then, Post.inBlock, BExit.outOf, Env.puto, Env.put, Opd.ev, argEnv, op1_mov, op1_pick, op1_new, op1_box, op1_load, op1_nilck, op1_bin, op1_beq, op1_not, op1_neg, op1_conv, op1_lea, op1_fld, op1_len0, op1_len1, op1_idx, op1_ext, op1_build, op1_mk, op1_store, op1_mksl, op1_eqs, pureBin, isShift, resOf, resVals, BRes.val, oneOf, one_int, cells_int, one_bool, cells_bool, one_str, cells_str, one_nilp, cells_nilp, one_ptr, cells_ptr, one_nils, cells_nils, one_sl, cells_sl, one_sle, cells_sle, one_nilm, cells_nilm, one_mp, cells_mp, one_nilf, cells_nilf, one_fn, cells_fn, one_nili, cells_nili, cells_agg, isSl_sl, slen_sl, sat_sl, make_of, asm, rtOk, make_of f2 b2, BH.rd, BH.row_set, d21, Ne.symm d21]
  cases q1 : (s1 != s2)
  · simp [wpC_skip, wpC_region, wpC_seq, wpC_cond, wpC_block, wpC_exit, wpC_ret, wpO, wpStep, wantB, BOp.makes, after, Post.then, Post.inBlock, BExit.outOf, Env.puto, Env.put, Opd.ev, argEnv, op1_mov, op1_pick, op1_new, op1_box, op1_load, op1_nilck, op1_bin, op1_beq, op1_not, op1_neg, op1_conv, op1_lea, op1_fld, op1_len0, op1_len1, op1_idx, op1_ext, op1_build, op1_mk, op1_store, op1_mksl, op1_eqs, pureBin, isShift, resOf, resVals, BRes.val, oneOf, one_int, cells_int, one_bool, cells_bool, one_str, cells_str, one_nilp, cells_nilp, one_ptr, cells_ptr, one_nils, cells_nils, one_sl, cells_sl, one_sle, cells_sle, one_nilm, cells_nilm, one_mp, cells_mp, one_nilf, cells_nilf, one_fn, cells_fn, one_nili, cells_nili, cells_agg, isSl_sl, slen_sl, sat_sl, make_of, asm, rtOk, BH.rd, BH.row_set, d21, Ne.symm d21]
    refine ⟨_, _, r1, BH.KeepsTys.nil _ _, ?_⟩
    cases q2 : eqL (· == ·) bs1 bs2
    · have hq : eqT s1 s2 bs1 bs2 es1 es2 = false := by simp [eqT, q1, q2]
      simp [wpC_skip, wpC_region, wpC_seq, wpC_cond, wpC_block, wpC_exit, wpC_ret, wpO, wpStep, wantB, BOp.makes, after, Post.then, Post.inBlock, BExit.outOf, Env.puto, Env.put, Opd.ev, argEnv, op1_mov, op1_pick, op1_new, op1_box, op1_load, op1_nilck, op1_bin, op1_beq, op1_not, op1_neg, op1_conv, op1_lea, op1_fld, op1_len0, op1_len1, op1_idx, op1_ext, op1_build, op1_mk, op1_store, op1_mksl, op1_eqs, pureBin, isShift, resOf, resVals, BRes.val, oneOf, one_int, cells_int, one_bool, cells_bool, one_str, cells_str, one_nilp, cells_nilp, one_ptr, cells_ptr, one_nils, cells_nils, one_sl, cells_sl, one_sle, cells_sle, one_nilm, cells_nilm, one_mp, cells_mp, one_nilf, cells_nilf, one_fn, cells_fn, one_nili, cells_nili, cells_agg, isSl_sl, slen_sl, sat_sl, make_of, asm, rtOk, BH.rd, BH.row_set, d21, Ne.symm d21, hq]
      exact hk
    · simp [wpC_skip, wpC_region, wpC_seq, wpC_cond, wpC_block, wpC_exit, wpC_ret, wpO, wpStep, wantB, BOp.makes, after, Post.then, Post.inBlock, BExit.outOf, Env.puto, Env.put, Opd.ev, argEnv, op1_mov, op1_pick, op1_new, op1_box, op1_load, op1_nilck, op1_bin, op1_beq, op1_not, op1_neg, op1_conv, op1_lea, op1_fld, op1_len0, op1_len1, op1_idx, op1_ext, op1_build, op1_mk, op1_store, op1_mksl, op1_eqs, pureBin, isShift, resOf, resVals, BRes.val, oneOf, one_int, cells_int, one_bool, cells_bool, one_str, cells_str, one_nilp, cells_nilp, one_ptr, cells_ptr, one_nils, cells_nils, one_sl, cells_sl, one_sle, cells_sle, one_nilm, cells_nilm, one_mp, cells_mp, one_nilf, cells_nilf, one_fn, cells_fn, one_nili, cells_nili, cells_agg, isSl_sl, slen_sl, sat_sl, make_of, asm, rtOk, BH.rd, BH.row_set, d21, Ne.symm d21]
      refine ⟨_, K, r2, BH.KeepsTys.nil _ _, ?_⟩
      cases q3 : eqL eqE es1 es2
      · have hq : eqT s1 s2 bs1 bs2 es1 es2 = false := by simp [eqT, q1, q2, q3]
        simp [wpC_skip, wpC_region, wpC_seq, wpC_cond, wpC_block, wpC_exit, wpC_ret, wpO, wpStep, wantB, BOp.makes, after, Post.then, Post.inBlock, BExit.outOf, Env.puto, Env.put, Opd.ev, argEnv, op1_mov, op1_pick, op1_new, op1_box, op1_load, op1_nilck, op1_bin, op1_beq, op1_not, op1_neg, op1_conv, op1_lea, op1_fld, op1_len0, op1_len1, op1_idx, op1_ext, op1_build, op1_mk, op1_store, op1_mksl, op1_eqs, pureBin, isShift, resOf, resVals, BRes.val, oneOf, one_int, cells_int, one_bool, cells_bool, one_str, cells_str, one_nilp, cells_nilp, one_ptr, cells_ptr, one_nils, cells_nils, one_sl, cells_sl, one_sle, cells_sle, one_nilm, cells_nilm, one_mp, cells_mp, one_nilf, cells_nilf, one_fn, cells_fn, one_nili, cells_nili, cells_agg, isSl_sl, slen_sl, sat_sl, make_of, asm, rtOk, hq]
        exact hk.trans k2
      · have hq : eqT s1 s2 bs1 bs2 es1 es2 = true := by simp only [eqT, q1, q2, q3]; rfl
        simp [wpC_skip, wpC_region, wpC_seq, wpC_cond, wpC_block, wpC_exit, wpC_ret, wpO, wpStep, wantB, BOp.makes, after, Post.then, Post.inBlock, BExit.outOf, Env.puto, Env.put, Opd.ev, argEnv, op1_mov, op1_pick, op1_new, op1_box, op1_load, op1_nilck, op1_bin, op1_beq, op1_not, op1_neg, op1_conv, op1_lea, op1_fld, op1_len0, op1_len1, op1_idx, op1_ext, op1_build, op1_mk, op1_store, op1_mksl, op1_eqs, pureBin, isShift, resOf, resVals, BRes.val, oneOf, one_int, cells_int, one_bool, cells_bool, one_str, cells_str, one_nilp, cells_nilp, one_ptr, cells_ptr, one_nils, cells_nils, one_sl, cells_sl, one_sle, cells_sle, one_nilm, cells_nilm, one_mp, cells_mp, one_nilf, cells_nilf, one_fn, cells_fn, one_nili, cells_nili, cells_agg, isSl_sl, slen_sl, sat_sl, make_of, asm, rtOk, hq]
        exact hk.trans k2
  · have hq : eqT s1 s2 bs1 bs2 es1 es2 = false := by simp [eqT, q1]
    simp [wpC_skip, wpC_region, wpC_seq, wpC_cond, wpC_block, wpC_exit, wpC_ret, wpO, wpStep, wantB, BOp.makes, after, Post.then, Post.inBlock, BExit.outOf, Env.puto, Env.put, Opd.ev, argEnv, op1_mov, op1_pick, op1_new, op1_box, op1_load, op1_nilck, op1_bin, op1_beq, op1_not, op1_neg, op1_conv, op1_lea, op1_fld, op1_len0, op1_len1, op1_idx, op1_ext, op1_build, op1_mk, op1_store, op1_mksl, op1_eqs, pureBin, isShift, resOf, resVals, BRes.val, oneOf, one_int, cells_int, one_bool, cells_bool, one_str, cells_str, one_nilp, cells_nilp, one_ptr, cells_ptr, one_nils, cells_nils, one_sl, cells_sl, one_sle, cells_sle, one_nilm, cells_nilm, one_mp, cells_mp, one_nilf, cells_nilf, one_fn, cells_fn, one_nili, cells_nili, cells_agg, isSl_sl, slen_sl, sat_sl, make_of, asm, rtOk, hq]
    exact hk

end Go.Proofs.Ytkmlmkbpdldjgaa.W
