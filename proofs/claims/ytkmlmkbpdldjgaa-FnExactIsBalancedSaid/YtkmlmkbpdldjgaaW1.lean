/-
What the small functions do.
-/
import Derived.Test.YtkmlmkbpdldjgaaIr
namespace Go.Proofs.Ytkmlmkbpdldjgaa.W
set_option linter.unusedSimpArgs false
set_option linter.unusedVariables false
open Go.B
variable {base : Nat}

def letB (s : ByteArray) : Bool := s.toList.isEmpty || (s.toList == [97] || s.toList == [98])
def inB (a lo hi : Int) : Bool := decide (lo ≤ a) && decide (a ≤ hi)

theorem c41 (a lo hi : Int) (H : BH) : Runs (gam base) 41 [.int .i64 a, .int .i64 lo, .int .i64 hi] H (.bool (inB a lo hi)) H := by
  refine runs_of (fn := ir41) rfl ?_
  simp [ir41, wpC_skip, wpC_region, wpC_seq, wpC_cond, wpC_block, wpC_exit, wpC_ret, wpO, wpStep, wantB, BOp.makes, after, Post.then, Post.inBlock, BExit.outOf, Env.puto, Env.put, Opd.ev, argEnv, op1_mov, op1_pick, op1_new, op1_box, op1_load, op1_nilck, op1_bin, op1_beq, op1_not, op1_neg, op1_conv, op1_lea, op1_fld, op1_len0, op1_len1, op1_idx, op1_ext, op1_build, op1_mk, op1_store, op1_mksl, op1_eqs, pureBin, isShift, resOf, resVals, BRes.val, oneOf, one_int, cells_int, one_bool, cells_bool, one_str, cells_str, one_nilp, cells_nilp, one_ptr, cells_ptr, one_nils, cells_nils, one_sl, cells_sl, one_sle, cells_sle, one_nilm, cells_nilm, one_mp, cells_mp, one_nilf, cells_nilf, one_fn, cells_fn, one_nili, cells_nili, cells_agg, isSl_sl, slen_sl, sat_sl, make_of, asm, rtOk, inB]
  by_cases h : lo ≤ a <;> simp [h]

theorem c42 (a lo hi : Int) (H : BH) : Runs (gam base) 42 [.int .i64 a, .int .i64 lo, .int .i64 hi] H (.bool (inB a lo hi)) H := by
  refine runs_of (fn := ir42) rfl ?_
  simp [ir42, wpC_skip, wpC_region, wpC_seq, wpC_cond, wpC_block, wpC_exit, wpC_ret, wpO, wpStep, wantB, BOp.makes, after, Post.then, Post.inBlock, BExit.outOf, Env.puto, Env.put, Opd.ev, argEnv, op1_mov, op1_pick, op1_new, op1_box, op1_load, op1_nilck, op1_bin, op1_beq, op1_not, op1_neg, op1_conv, op1_lea, op1_fld, op1_len0, op1_len1, op1_idx, op1_ext, op1_build, op1_mk, op1_store, op1_mksl, op1_eqs, pureBin, isShift, resOf, resVals, BRes.val, oneOf, one_int, cells_int, one_bool, cells_bool, one_str, cells_str, one_nilp, cells_nilp, one_ptr, cells_ptr, one_nils, cells_nils, one_sl, cells_sl, one_sle, cells_sle, one_nilm, cells_nilm, one_mp, cells_mp, one_nilf, cells_nilf, one_fn, cells_fn, one_nili, cells_nili, cells_agg, isSl_sl, slen_sl, sat_sl, make_of, asm, rtOk, inB]
  by_cases h : lo ≤ a <;> simp [h]

theorem c84 (s : ByteArray) (H : BH) : Runs (gam base) 84 [.str s] H (.bool (letB s)) H := by
  refine runs_of (fn := ir84) rfl ?_
  simp only [letB]
  cases h1 : s.toList.isEmpty <;> cases h2 : (s.toList == [97]) <;> simp [ir84, wpC_skip, wpC_region, wpC_seq, wpC_cond, wpC_block, wpC_exit, wpC_ret, wpO, wpStep, wantB, BOp.makes, after, Post.then, Post.inBlock, BExit.outOf, Env.puto, Env.put, Opd.ev, argEnv, op1_mov, op1_pick, op1_new, op1_box, op1_load, op1_nilck, op1_bin, op1_beq, op1_not, op1_neg, op1_conv, op1_lea, op1_fld, op1_len0, op1_len1, op1_idx, op1_ext, op1_build, op1_mk, op1_store, op1_mksl, op1_eqs, pureBin, isShift, resOf, resVals, BRes.val, oneOf, one_int, cells_int, one_bool, cells_bool, one_str, cells_str, one_nilp, cells_nilp, one_ptr, cells_ptr, one_nils, cells_nils, one_sl, cells_sl, one_sle, cells_sle, one_nilm, cells_nilm, one_mp, cells_mp, one_nilf, cells_nilf, one_fn, cells_fn, one_nili, cells_nili, cells_agg, isSl_sl, slen_sl, sat_sl, make_of, asm, rtOk, h1, h2]

theorem c51 (s : ByteArray) (H : BH) : Runs (gam base) 51 [.str s] H (.bool (letB s)) H := by
  refine runs_of (fn := ir51) rfl ?_
  simp only [letB]
  cases h1 : s.toList.isEmpty <;> cases h2 : (s.toList == [97]) <;> simp [ir51, wpC_skip, wpC_region, wpC_seq, wpC_cond, wpC_block, wpC_exit, wpC_ret, wpO, wpStep, wantB, BOp.makes, after, Post.then, Post.inBlock, BExit.outOf, Env.puto, Env.put, Opd.ev, argEnv, op1_mov, op1_pick, op1_new, op1_box, op1_load, op1_nilck, op1_bin, op1_beq, op1_not, op1_neg, op1_conv, op1_lea, op1_fld, op1_len0, op1_len1, op1_idx, op1_ext, op1_build, op1_mk, op1_store, op1_mksl, op1_eqs, pureBin, isShift, resOf, resVals, BRes.val, oneOf, one_int, cells_int, one_bool, cells_bool, one_str, cells_str, one_nilp, cells_nilp, one_ptr, cells_ptr, one_nils, cells_nils, one_sl, cells_sl, one_sle, cells_sle, one_nilm, cells_nilm, one_mp, cells_mp, one_nilf, cells_nilf, one_fn, cells_fn, one_nili, cells_nili, cells_agg, isSl_sl, slen_sl, sat_sl, make_of, asm, rtOk, h1, h2]

/-! ### sizes -/
structure E4 where
  f : Int
  t : Int
  i : ByteArray
  o : ByteArray
def E4.enc (e : E4) : List BV := [.int .i64 e.f, .int .i64 e.t, .str e.i, .str e.o]
def szE (e : E4) (left : Int) : Int := if left - e.i.size < 0 then -1 else if left - e.i.size - e.o.size < 0 then -1 else left - e.i.size - e.o.size

theorem c74 (e : E4) (left : Int) (H : BH) (h0 : 0 ≤ left) (h1 : left ≤ 1048576) (hi : e.i.size ≤ 9223372036854775807) (ho : e.o.size ≤ 9223372036854775807) : Gives (gam base) 74 [.agg e.enc, .int .i64 left] H (.int .i64 (szE e left)) := by
  refine gives_of (fn := ir74) rfl ?_
  have w1 : IntKind.i64.wrap (left - (e.i.size : Int)) = left - e.i.size := w64 (by omega) (by omega)
  simp only [szE]
  by_cases c1 : left - (e.i.size : Int) < 0
  · simp [ir74, wpC_skip, wpC_region, wpC_seq, wpC_cond, wpC_block, wpC_exit, wpC_ret, wpO, wpStep, wantB, BOp.makes, after, Post.then, Post.inBlock, BExit.outOf, Env.puto, Env.put, Opd.ev, argEnv, op1_mov, op1_pick, op1_new, op1_box, op1_load, op1_nilck, op1_bin, op1_beq, op1_not, op1_neg, op1_conv, op1_lea, op1_fld, op1_len0, op1_len1, op1_idx, op1_ext, op1_build, op1_mk, op1_store, op1_mksl, op1_eqs, pureBin, isShift, resOf, resVals, BRes.val, oneOf, one_int, cells_int, one_bool, cells_bool, one_str, cells_str, one_nilp, cells_nilp, one_ptr, cells_ptr, one_nils, cells_nils, one_sl, cells_sl, one_sle, cells_sle, one_nilm, cells_nilm, one_mp, cells_mp, one_nilf, cells_nilf, one_fn, cells_fn, one_nili, cells_nili, cells_agg, isSl_sl, slen_sl, sat_sl, make_of, asm, rtOk, E4.enc]
    intro nb hb hf
    simp [wpC_skip, wpC_region, wpC_seq, wpC_cond, wpC_block, wpC_exit, wpC_ret, wpO, wpStep, wantB, BOp.makes, after, Post.then, Post.inBlock, BExit.outOf, Env.puto, Env.put, Opd.ev, argEnv, op1_mov, op1_pick, op1_new, op1_box, op1_load, op1_nilck, op1_bin, op1_beq, op1_not, op1_neg, op1_conv, op1_lea, op1_fld, op1_len0, op1_len1, op1_idx, op1_ext, op1_build, op1_mk, op1_store, op1_mksl, op1_eqs, pureBin, isShift, resOf, resVals, BRes.val, oneOf, one_int, cells_int, one_bool, cells_bool, one_str, cells_str, one_nilp, cells_nilp, one_ptr, cells_ptr, one_nils, cells_nils, one_sl, cells_sl, one_sle, cells_sle, one_nilm, cells_nilm, one_mp, cells_mp, one_nilf, cells_nilf, one_fn, cells_fn, one_nili, cells_nili, cells_agg, isSl_sl, slen_sl, sat_sl, make_of, asm, rtOk, make_of hf hb, BH.rd, BH.row_set_eq, w1, c1]
    exact ⟨by omega, BH.keeps_set _ hf⟩
  · have w2 : IntKind.i64.wrap (left - (e.i.size : Int) - (e.o.size : Int)) = left - e.i.size - e.o.size := w64 (by omega) (by omega)
    simp [ir74, wpC_skip, wpC_region, wpC_seq, wpC_cond, wpC_block, wpC_exit, wpC_ret, wpO, wpStep, wantB, BOp.makes, after, Post.then, Post.inBlock, BExit.outOf, Env.puto, Env.put, Opd.ev, argEnv, op1_mov, op1_pick, op1_new, op1_box, op1_load, op1_nilck, op1_bin, op1_beq, op1_not, op1_neg, op1_conv, op1_lea, op1_fld, op1_len0, op1_len1, op1_idx, op1_ext, op1_build, op1_mk, op1_store, op1_mksl, op1_eqs, pureBin, isShift, resOf, resVals, BRes.val, oneOf, one_int, cells_int, one_bool, cells_bool, one_str, cells_str, one_nilp, cells_nilp, one_ptr, cells_ptr, one_nils, cells_nils, one_sl, cells_sl, one_sle, cells_sle, one_nilm, cells_nilm, one_mp, cells_mp, one_nilf, cells_nilf, one_fn, cells_fn, one_nili, cells_nili, cells_agg, isSl_sl, slen_sl, sat_sl, make_of, asm, rtOk, E4.enc]
    intro nb hb hf
    by_cases c2 : left - (e.i.size : Int) - e.o.size < 0 <;> simp [wpC_skip, wpC_region, wpC_seq, wpC_cond, wpC_block, wpC_exit, wpC_ret, wpO, wpStep, wantB, BOp.makes, after, Post.then, Post.inBlock, BExit.outOf, Env.puto, Env.put, Opd.ev, argEnv, op1_mov, op1_pick, op1_new, op1_box, op1_load, op1_nilck, op1_bin, op1_beq, op1_not, op1_neg, op1_conv, op1_lea, op1_fld, op1_len0, op1_len1, op1_idx, op1_ext, op1_build, op1_mk, op1_store, op1_mksl, op1_eqs, pureBin, isShift, resOf, resVals, BRes.val, oneOf, one_int, cells_int, one_bool, cells_bool, one_str, cells_str, one_nilp, cells_nilp, one_ptr, cells_ptr, one_nils, cells_nils, one_sl, cells_sl, one_sle, cells_sle, one_nilm, cells_nilm, one_mp, cells_mp, one_nilf, cells_nilf, one_fn, cells_fn, one_nili, cells_nili, cells_agg, isSl_sl, slen_sl, sat_sl, make_of, asm, rtOk, make_of hf hb, BH.rd, BH.row_set_eq, w1, c1, w2, c2] <;> first | exact BH.keeps_set _ hf | exact ⟨by omega, BH.keeps_set _ hf⟩

/-- The room that edges take. -/
def szEs : List E4 → Int → Int
  | [], left => left
  | e :: es, left => if szE e left < 0 then -1 else szEs es (szE e left)
def szEdges (es : List E4) (left : Int) : Int := if left - es.length < 0 then -1 else szEs es (left - es.length)
theorem szE_le {e : E4} {left : Int} (h : 0 ≤ left) : szE e left ≤ left := by
  unfold szE
  split
  · omega
  · split <;> omega

theorem c47 {ty : Nat} (es : List E4) (v : BV) (left : Int) (H : BH) (hs : Sls H ty 4 v (es.map E4.enc)) (h0 : 0 ≤ left) (h1 : left ≤ 1048576) (hn : es.length ≤ 9223372036854775807)
    (hz : ∀ e ∈ es, e.i.size ≤ 9223372036854775807 ∧ e.o.size ≤ 9223372036854775807) : Gives (gam base) 47 [v, .int .i64 left] H (.int .i64 (szEdges es left)) := by
  refine gives_of (fn := ir47) rfl ?_
  have hl : v.slen = es.length := by rw [hs.len]; simp
  have w1 : IntKind.i64.wrap (left - (es.length : Int)) = left - es.length := w64 (by omega) (by omega)
  simp only [szEdges]
  by_cases c1 : left - (es.length : Int) < 0
  · simp [ir47, wpC_skip, wpC_region, wpC_seq, wpC_cond, wpC_block, wpC_exit, wpC_ret, wpO, wpStep, wantB, BOp.makes, after, Post.then, Post.inBlock, BExit.outOf, Env.puto, Env.put, Opd.ev, argEnv, op1_mov, op1_pick, op1_new, op1_box, op1_load, op1_nilck, op1_bin, op1_beq, op1_not, op1_neg, op1_conv, op1_lea, op1_fld, op1_len0, op1_len1, op1_idx, op1_ext, op1_build, op1_mk, op1_store, op1_mksl, op1_eqs, pureBin, isShift, resOf, resVals, BRes.val, oneOf, one_int, cells_int, one_bool, cells_bool, one_str, cells_str, one_nilp, cells_nilp, one_ptr, cells_ptr, one_nils, cells_nils, one_sl, cells_sl, one_sle, cells_sle, one_nilm, cells_nilm, one_mp, cells_mp, one_nilf, cells_nilf, one_fn, cells_fn, one_nili, cells_nili, cells_agg, isSl_sl, slen_sl, sat_sl, make_of, asm, rtOk, hs.isSl, hl, w1, c1]
    exact BH.Keeps.refl H
  · simp [ir47, wpC_skip, wpC_region, wpC_seq, wpC_cond, wpC_block, wpC_exit, wpC_ret, wpO, wpStep, wantB, BOp.makes, after, Post.then, Post.inBlock, BExit.outOf, Env.puto, Env.put, Opd.ev, argEnv, op1_mov, op1_pick, op1_new, op1_box, op1_load, op1_nilck, op1_bin, op1_beq, op1_not, op1_neg, op1_conv, op1_lea, op1_fld, op1_len0, op1_len1, op1_idx, op1_ext, op1_build, op1_mk, op1_store, op1_mksl, op1_eqs, pureBin, isShift, resOf, resVals, BRes.val, oneOf, one_int, cells_int, one_bool, cells_bool, one_str, cells_str, one_nilp, cells_nilp, one_ptr, cells_ptr, one_nils, cells_nils, one_sl, cells_sl, one_sle, cells_sle, one_nilm, cells_nilm, one_mp, cells_mp, one_nilf, cells_nilf, one_fn, cells_fn, one_nili, cells_nili, cells_agg, isSl_sl, slen_sl, sat_sl, make_of, asm, rtOk, hs.isSl, hl, w1, c1]
    refine wpC_count es.length (fun i e K => e 0 = v ∧ e 5 = .int .i64 i ∧ H.Keeps K ∧ ∃ l, e 1 = .int .i64 l ∧ 0 ≤ l ∧ l ≤ 1048576 ∧ szEs es (left - es.length) = szEs (es.drop i) l) (i0 := 0) ?_ (Nat.zero_le _) ?_
    · exact ⟨rfl, rfl, BH.Keeps.refl H, _, rfl, by omega, by omega, rfl⟩
    · rintro i e K hi ⟨e0, e5, hk, l, e1, l0, l1, heq⟩
      by_cases hlt : i < es.length
      · have hd : es.drop i = es[i] :: es.drop (i + 1) := List.drop_eq_getElem_cons hlt
        have hz' := hz es[i] (List.getElem_mem hlt)
        have hrd : K.rd none (some 4) (v.sat i 4) = some (.agg (E4.enc es[i])) := (hs.keeps hk).rd (by simp [hlt]) rfl
        obtain ⟨K1, hr, hk1⟩ := c74 es[i] l K l0 l1 hz'.1 hz'.2
        have hle := szE_le (e := es[i]) l0
        have w2 : IntKind.i64.wrap ((i : Int) + 1) = (i : Int) + 1 := w64 (by omega) (by omega)
        simp [wpC_skip, wpC_region, wpC_seq, wpC_cond, wpC_block, wpC_exit, wpC_ret, wpO, wpStep, wantB, BOp.makes, after, Post.then, Post.inBlock, BExit.outOf, Env.puto, Env.put, Opd.ev, argEnv, op1_mov, op1_pick, op1_new, op1_box, op1_load, op1_nilck, op1_bin, op1_beq, op1_not, op1_neg, op1_conv, op1_lea, op1_fld, op1_len0, op1_len1, op1_idx, op1_ext, op1_build, op1_mk, op1_store, op1_mksl, op1_eqs, pureBin, isShift, resOf, resVals, BRes.val, oneOf, one_int, cells_int, one_bool, cells_bool, one_str, cells_str, one_nilp, cells_nilp, one_ptr, cells_ptr, one_nils, cells_nils, one_sl, cells_sl, one_sle, cells_sle, one_nilm, cells_nilm, one_mp, cells_mp, one_nilf, cells_nilf, one_fn, cells_fn, one_nili, cells_nili, cells_agg, isSl_sl, slen_sl, sat_sl, make_of, asm, rtOk, e0, e5, e1, hs.isSl, hl, hlt, hrd]
        refine ⟨_, K1, hr, BH.KeepsTys.nil _ _, ?_⟩
        rw [hd] at heq
        simp only [szEs] at heq
        by_cases c2 : szE es[i] l < 0
        · rw [if_pos c2] at heq
          simp [wpC_skip, wpC_region, wpC_seq, wpC_cond, wpC_block, wpC_exit, wpC_ret, wpO, wpStep, wantB, BOp.makes, after, Post.then, Post.inBlock, BExit.outOf, Env.puto, Env.put, Opd.ev, argEnv, op1_mov, op1_pick, op1_new, op1_box, op1_load, op1_nilck, op1_bin, op1_beq, op1_not, op1_neg, op1_conv, op1_lea, op1_fld, op1_len0, op1_len1, op1_idx, op1_ext, op1_build, op1_mk, op1_store, op1_mksl, op1_eqs, pureBin, isShift, resOf, resVals, BRes.val, oneOf, one_int, cells_int, one_bool, cells_bool, one_str, cells_str, one_nilp, cells_nilp, one_ptr, cells_ptr, one_nils, cells_nils, one_sl, cells_sl, one_sle, cells_sle, one_nilm, cells_nilm, one_mp, cells_mp, one_nilf, cells_nilf, one_fn, cells_fn, one_nili, cells_nili, cells_agg, isSl_sl, slen_sl, sat_sl, make_of, asm, rtOk, e0, e5, e1, c2, heq]
          exact hk.trans hk1
        · rw [if_neg c2] at heq
          simp [wpC_skip, wpC_region, wpC_seq, wpC_cond, wpC_block, wpC_exit, wpC_ret, wpO, wpStep, wantB, BOp.makes, after, Post.then, Post.inBlock, BExit.outOf, Env.puto, Env.put, Opd.ev, argEnv, op1_mov, op1_pick, op1_new, op1_box, op1_load, op1_nilck, op1_bin, op1_beq, op1_not, op1_neg, op1_conv, op1_lea, op1_fld, op1_len0, op1_len1, op1_idx, op1_ext, op1_build, op1_mk, op1_store, op1_mksl, op1_eqs, pureBin, isShift, resOf, resVals, BRes.val, oneOf, one_int, cells_int, one_bool, cells_bool, one_str, cells_str, one_nilp, cells_nilp, one_ptr, cells_ptr, one_nils, cells_nils, one_sl, cells_sl, one_sle, cells_sle, one_nilm, cells_nilm, one_mp, cells_mp, one_nilf, cells_nilf, one_fn, cells_fn, one_nili, cells_nili, cells_agg, isSl_sl, slen_sl, sat_sl, make_of, asm, rtOk, e0, e5, e1, c2, w2]
          exact ⟨hk.trans hk1, by omega, by omega, heq⟩
      · have hd : es.drop i = [] := List.drop_eq_nil_of_le (by omega)
        rw [hd] at heq
        simp [wpC_skip, wpC_region, wpC_seq, wpC_cond, wpC_block, wpC_exit, wpC_ret, wpO, wpStep, wantB, BOp.makes, after, Post.then, Post.inBlock, BExit.outOf, Env.puto, Env.put, Opd.ev, argEnv, op1_mov, op1_pick, op1_new, op1_box, op1_load, op1_nilck, op1_bin, op1_beq, op1_not, op1_neg, op1_conv, op1_lea, op1_fld, op1_len0, op1_len1, op1_idx, op1_ext, op1_build, op1_mk, op1_store, op1_mksl, op1_eqs, pureBin, isShift, resOf, resVals, BRes.val, oneOf, one_int, cells_int, one_bool, cells_bool, one_str, cells_str, one_nilp, cells_nilp, one_ptr, cells_ptr, one_nils, cells_nils, one_sl, cells_sl, one_sle, cells_sle, one_nilm, cells_nilm, one_mp, cells_mp, one_nilf, cells_nilf, one_fn, cells_fn, one_nili, cells_nili, cells_agg, isSl_sl, slen_sl, sat_sl, make_of, asm, rtOk, e0, e5, e1, hs.isSl, hl, hlt, heq, szEs]
        exact hk
end Go.Proofs.Ytkmlmkbpdldjgaa.W
