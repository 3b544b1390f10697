/-
Sizes, and copies.
-/
import Derived.Test.YtkmlmkbpdldjgaaW1
namespace Go.Proofs.Ytkmlmkbpdldjgaa.W
set_option linter.unusedSimpArgs false
set_option linter.unusedVariables false
open Go.B
variable {base : Nat}

def encB (b : Bool) : List BV := [.bool b]
def szB (n : Nat) (left : Int) : Int := if left - n < 0 then -1 else left - n

theorem c46 {tz : Nat} (bs : List Bool) (v : BV) (left : Int) (H : BH) (hs : Sls H tz 1 v (bs.map encB)) (h0 : 0 ≤ left) (h1 : left ≤ 1048576) (hn : bs.length ≤ 9223372036854775807) :
    Runs (gam base) 46 [v, .int .i64 left] H (.int .i64 (szB bs.length left)) H := by
  refine runs_of (fn := ir46) rfl ?_
  have hl : v.slen = bs.length := by rw [hs.len]; simp
  have w1 : IntKind.i64.wrap (left - (bs.length : Int)) = left - bs.length := w64 (by omega) (by omega)
  simp only [szB]
  by_cases c1 : left - (bs.length : Int) < 0 <;> simp [ir46, wpC_skip, wpC_region, wpC_seq, wpC_cond, wpC_block, wpC_exit, wpC_ret, wpO, wpStep, wantB, BOp.makes, after, Post.then, Post.inBlock, BExit.outOf, Env.puto, Env.put, Opd.ev, argEnv, op1_mov, op1_pick, op1_new, op1_box, op1_load, op1_nilck, op1_bin, op1_beq, op1_not, op1_neg, op1_conv, op1_lea, op1_fld, op1_len0, op1_len1, op1_idx, op1_ext, op1_build, op1_mk, op1_store, op1_mksl, op1_eqs, pureBin, isShift, resOf, resVals, BRes.val, oneOf, one_int, cells_int, one_bool, cells_bool, one_str, cells_str, one_nilp, cells_nilp, one_ptr, cells_ptr, one_nils, cells_nils, one_sl, cells_sl, one_sle, cells_sle, one_nilm, cells_nilm, one_mp, cells_mp, one_nilf, cells_nilf, one_fn, cells_fn, one_nili, cells_nili, cells_agg, isSl_sl, slen_sl, sat_sl, make_of, asm, rtOk, hs.isSl, hl, w1, c1]

def szT (bs : List Bool) (es : List E4) (left : Int) : Int := if szB bs.length left < 0 then -1 else if szEdges es (szB bs.length left) < 0 then -1 else szEdges es (szB bs.length left)

theorem c18 {ty : Nat} {tz : Nat} (s : Int) (bs : List Bool) (es : List E4) (u v : BV) (left : Int) (H : BH) (hu : Sls H tz 1 u (bs.map encB)) (hv : Sls H ty 4 v (es.map E4.enc))
    (h0 : 0 ≤ left) (h1 : left ≤ 1048576) (hn : bs.length ≤ 9223372036854775807) (hn' : es.length ≤ 9223372036854775807) (hz : ∀ e ∈ es, e.i.size ≤ 9223372036854775807 ∧ e.o.size ≤ 9223372036854775807) :
    Gives (gam base) 18 [.agg [.int .i64 s, u, v], .int .i64 left] H (.int .i64 (szT bs es left)) := by
  refine gives_of (fn := ir18) rfl ?_
  have hu1 := one_of_isSl hu.isSl
  have hv1 := one_of_isSl hv.isSl
  simp [ir18, wpC_skip, wpC_region, wpC_seq, wpC_cond, wpC_block, wpC_exit, wpC_ret, wpO, wpStep, wantB, BOp.makes, after, Post.then, Post.inBlock, BExit.outOf, Env.puto, Env.put, Opd.ev, argEnv, op1_mov, op1_pick, op1_new, op1_box, op1_load, op1_nilck, op1_bin, op1_beq, op1_not, op1_neg, op1_conv, op1_lea, op1_fld, op1_len0, op1_len1, op1_idx, op1_ext, op1_build, op1_mk, op1_store, op1_mksl, op1_eqs, pureBin, isShift, resOf, resVals, BRes.val, oneOf, one_int, cells_int, one_bool, cells_bool, one_str, cells_str, one_nilp, cells_nilp, one_ptr, cells_ptr, one_nils, cells_nils, one_sl, cells_sl, one_sle, cells_sle, one_nilm, cells_nilm, one_mp, cells_mp, one_nilf, cells_nilf, one_fn, cells_fn, one_nili, cells_nili, cells_agg, isSl_sl, slen_sl, sat_sl, make_of, asm, rtOk, hu1, hv1]
  intro nb hb hf
  have hk : H.Keeps (H.set nb (.arr 29 [.int .i64 s, u, v])) := BH.keeps_set _ hf
  have r1 := c46 (base := base) bs u left _ (hu.keeps hk) h0 h1 hn
  simp [wpC_skip, wpC_region, wpC_seq, wpC_cond, wpC_block, wpC_exit, wpC_ret, wpO, wpStep, wantB, BOp.makes, after, Post.then, Post.inBlock, BExit.outOf, Env.puto, Env.put, Opd.ev, argEnv, op1_mov, op1_pick, op1_new, op1_box, op1_load, op1_nilck, op1_bin, op1_beq, op1_not, op1_neg, op1_conv, op1_lea, op1_fld, op1_len0, op1_len1, op1_idx, op1_ext, op1_build, op1_mk, op1_store, op1_mksl, op1_eqs, pureBin, isShift, resOf, resVals, BRes.val, oneOf, one_int, cells_int, one_bool, cells_bool, one_str, cells_str, one_nilp, cells_nilp, one_ptr, cells_ptr, one_nils, cells_nils, one_sl, cells_sl, one_sle, cells_sle, one_nilm, cells_nilm, one_mp, cells_mp, one_nilf, cells_nilf, one_fn, cells_fn, one_nili, cells_nili, cells_agg, isSl_sl, slen_sl, sat_sl, make_of, asm, rtOk, make_of hf hb, BH.rd, BH.row_set_eq]
  refine ⟨_, _, r1, BH.KeepsTys.nil _ _, ?_⟩
  by_cases c1 : szB bs.length left < 0
  · have hT : szT bs es left = -1 := if_pos c1
    simp [wpC_skip, wpC_region, wpC_seq, wpC_cond, wpC_block, wpC_exit, wpC_ret, wpO, wpStep, wantB, BOp.makes, after, Post.then, Post.inBlock, BExit.outOf, Env.puto, Env.put, Opd.ev, argEnv, op1_mov, op1_pick, op1_new, op1_box, op1_load, op1_nilck, op1_bin, op1_beq, op1_not, op1_neg, op1_conv, op1_lea, op1_fld, op1_len0, op1_len1, op1_idx, op1_ext, op1_build, op1_mk, op1_store, op1_mksl, op1_eqs, pureBin, isShift, resOf, resVals, BRes.val, oneOf, one_int, cells_int, one_bool, cells_bool, one_str, cells_str, one_nilp, cells_nilp, one_ptr, cells_ptr, one_nils, cells_nils, one_sl, cells_sl, one_sle, cells_sle, one_nilm, cells_nilm, one_mp, cells_mp, one_nilf, cells_nilf, one_fn, cells_fn, one_nili, cells_nili, cells_agg, isSl_sl, slen_sl, sat_sl, make_of, asm, rtOk, c1, hT]
    exact hk
  · have hle : szB bs.length left ≤ 1048576 := by unfold szB; split <;> omega
    obtain ⟨K1, r2, k2⟩ := c47 (base := base) es v (szB bs.length left) _ (hv.keeps hk) (by omega) hle hn' hz
    simp [wpC_skip, wpC_region, wpC_seq, wpC_cond, wpC_block, wpC_exit, wpC_ret, wpO, wpStep, wantB, BOp.makes, after, Post.then, Post.inBlock, BExit.outOf, Env.puto, Env.put, Opd.ev, argEnv, op1_mov, op1_pick, op1_new, op1_box, op1_load, op1_nilck, op1_bin, op1_beq, op1_not, op1_neg, op1_conv, op1_lea, op1_fld, op1_len0, op1_len1, op1_idx, op1_ext, op1_build, op1_mk, op1_store, op1_mksl, op1_eqs, pureBin, isShift, resOf, resVals, BRes.val, oneOf, one_int, cells_int, one_bool, cells_bool, one_str, cells_str, one_nilp, cells_nilp, one_ptr, cells_ptr, one_nils, cells_nils, one_sl, cells_sl, one_sle, cells_sle, one_nilm, cells_nilm, one_mp, cells_mp, one_nilf, cells_nilf, one_fn, cells_fn, one_nili, cells_nili, cells_agg, isSl_sl, slen_sl, sat_sl, make_of, asm, rtOk, c1, BH.rd, BH.row_set_eq]
    refine ⟨_, K1, r2, BH.KeepsTys.nil _ _, ?_⟩
    by_cases c2 : szEdges es (szB bs.length left) < 0
    · have hT : szT bs es left = -1 := by unfold szT; rw [if_neg c1, if_pos c2]
      simp [wpC_skip, wpC_region, wpC_seq, wpC_cond, wpC_block, wpC_exit, wpC_ret, wpO, wpStep, wantB, BOp.makes, after, Post.then, Post.inBlock, BExit.outOf, Env.puto, Env.put, Opd.ev, argEnv, op1_mov, op1_pick, op1_new, op1_box, op1_load, op1_nilck, op1_bin, op1_beq, op1_not, op1_neg, op1_conv, op1_lea, op1_fld, op1_len0, op1_len1, op1_idx, op1_ext, op1_build, op1_mk, op1_store, op1_mksl, op1_eqs, pureBin, isShift, resOf, resVals, BRes.val, oneOf, one_int, cells_int, one_bool, cells_bool, one_str, cells_str, one_nilp, cells_nilp, one_ptr, cells_ptr, one_nils, cells_nils, one_sl, cells_sl, one_sle, cells_sle, one_nilm, cells_nilm, one_mp, cells_mp, one_nilf, cells_nilf, one_fn, cells_fn, one_nili, cells_nili, cells_agg, isSl_sl, slen_sl, sat_sl, make_of, asm, rtOk, c2, hT]
      exact hk.trans k2
    · have hT : szT bs es left = szEdges es (szB bs.length left) := by unfold szT; rw [if_neg c1, if_neg c2]
      simp [wpC_skip, wpC_region, wpC_seq, wpC_cond, wpC_block, wpC_exit, wpC_ret, wpO, wpStep, wantB, BOp.makes, after, Post.then, Post.inBlock, BExit.outOf, Env.puto, Env.put, Opd.ev, argEnv, op1_mov, op1_pick, op1_new, op1_box, op1_load, op1_nilck, op1_bin, op1_beq, op1_not, op1_neg, op1_conv, op1_lea, op1_fld, op1_len0, op1_len1, op1_idx, op1_ext, op1_build, op1_mk, op1_store, op1_mksl, op1_eqs, pureBin, isShift, resOf, resVals, BRes.val, oneOf, one_int, cells_int, one_bool, cells_bool, one_str, cells_str, one_nilp, cells_nilp, one_ptr, cells_ptr, one_nils, cells_nils, one_sl, cells_sl, one_sle, cells_sle, one_nilm, cells_nilm, one_mp, cells_mp, one_nilf, cells_nilf, one_fn, cells_fn, one_nili, cells_nili, cells_agg, isSl_sl, slen_sl, sat_sl, make_of, asm, rtOk, c2, hT]
      exact hk.trans k2

theorem c76 (e : E4) (H : BH) : Gives (gam base) 76 [.agg e.enc] H (.agg e.enc) := by
  refine gives_of (fn := ir76) rfl ?_
  simp [ir76, wpC_skip, wpC_region, wpC_seq, wpC_cond, wpC_block, wpC_exit, wpC_ret, wpO, wpStep, wantB, BOp.makes, after, Post.then, Post.inBlock, BExit.outOf, Env.puto, Env.put, Opd.ev, argEnv, op1_mov, op1_pick, op1_new, op1_box, op1_load, op1_nilck, op1_bin, op1_beq, op1_not, op1_neg, op1_conv, op1_lea, op1_fld, op1_len0, op1_len1, op1_idx, op1_ext, op1_build, op1_mk, op1_store, op1_mksl, op1_eqs, pureBin, isShift, resOf, resVals, BRes.val, oneOf, one_int, cells_int, one_bool, cells_bool, one_str, cells_str, one_nilp, cells_nilp, one_ptr, cells_ptr, one_nils, cells_nils, one_sl, cells_sl, one_sle, cells_sle, one_nilm, cells_nilm, one_mp, cells_mp, one_nilf, cells_nilf, one_fn, cells_fn, one_nili, cells_nili, cells_agg, isSl_sl, slen_sl, sat_sl, make_of, asm, rtOk, E4.enc]
  intro n1 b1 f1
  simp [wpC_skip, wpC_region, wpC_seq, wpC_cond, wpC_block, wpC_exit, wpC_ret, wpO, wpStep, wantB, BOp.makes, after, Post.then, Post.inBlock, BExit.outOf, Env.puto, Env.put, Opd.ev, argEnv, op1_mov, op1_pick, op1_new, op1_box, op1_load, op1_nilck, op1_bin, op1_beq, op1_not, op1_neg, op1_conv, op1_lea, op1_fld, op1_len0, op1_len1, op1_idx, op1_ext, op1_build, op1_mk, op1_store, op1_mksl, op1_eqs, pureBin, isShift, resOf, resVals, BRes.val, oneOf, one_int, cells_int, one_bool, cells_bool, one_str, cells_str, one_nilp, cells_nilp, one_ptr, cells_ptr, one_nils, cells_nils, one_sl, cells_sl, one_sle, cells_sle, one_nilm, cells_nilm, one_mp, cells_mp, one_nilf, cells_nilf, one_fn, cells_fn, one_nili, cells_nili, cells_agg, isSl_sl, slen_sl, sat_sl, make_of, asm, rtOk, make_of f1 b1]
  intro n2 b2 f2
  simp [wpC_skip, wpC_region, wpC_seq, wpC_cond, wpC_block, wpC_exit, wpC_ret, wpO, wpStep, wantB, BOp.makes, after, Post.then, Post.inBlock, BExit.outOf, Env.puto, Env.put, Opd.ev, argEnv, op1_mov, op1_pick, op1_new, op1_box, op1_load, op1_nilck, op1_bin, op1_beq, op1_not, op1_neg, op1_conv, op1_lea, op1_fld, op1_len0, op1_len1, op1_idx, op1_ext, op1_build, op1_mk, op1_store, op1_mksl, op1_eqs, pureBin, isShift, resOf, resVals, BRes.val, oneOf, one_int, cells_int, one_bool, cells_bool, one_str, cells_str, one_nilp, cells_nilp, one_ptr, cells_ptr, one_nils, cells_nils, one_sl, cells_sl, one_sle, cells_sle, one_nilm, cells_nilm, one_mp, cells_mp, one_nilf, cells_nilf, one_fn, cells_fn, one_nili, cells_nili, cells_agg, isSl_sl, slen_sl, sat_sl, make_of, asm, rtOk, make_of f2 b2]
  intro n3 b3 f3
  obtain ⟨d21, g2⟩ := fresh_set (by simp) f2
  obtain ⟨d32, g3⟩ := fresh_set (by simp) f3
  obtain ⟨d31, g3⟩ := fresh_set (by simp) g3
  simp [wpC_skip, wpC_region, wpC_seq, wpC_cond, wpC_block, wpC_exit, wpC_ret, wpO, wpStep, wantB, BOp.makes, after, Post.then, Post.inBlock, BExit.outOf, Env.puto, Env.put, Opd.ev, argEnv, op1_mov, op1_pick, op1_new, op1_box, op1_load, op1_nilck, op1_bin, op1_beq, op1_not, op1_neg, op1_conv, op1_lea, op1_fld, op1_len0, op1_len1, op1_idx, op1_ext, op1_build, op1_mk, op1_store, op1_mksl, op1_eqs, pureBin, isShift, resOf, resVals, BRes.val, oneOf, one_int, cells_int, one_bool, cells_bool, one_str, cells_str, one_nilp, cells_nilp, one_ptr, cells_ptr, one_nils, cells_nils, one_sl, cells_sl, one_sle, cells_sle, one_nilm, cells_nilm, one_mp, cells_mp, one_nilf, cells_nilf, one_fn, cells_fn, one_nili, cells_nili, cells_agg, isSl_sl, slen_sl, sat_sl, make_of, asm, rtOk, make_of f3 b3, BH.rd, BH.row_set, b1, b2, b3, d21, d32, d31, Ne.symm d21, Ne.symm d32, Ne.symm d31]
  repeat' first | exact BH.Keeps.refl _ | refine BH.Keeps.set ?_ (by assumption) _

def z4 : List BV := [.int .i64 0, .int .i64 0, .str ⟨#[]⟩, .str ⟨#[]⟩]
theorem encE_one (e : E4) : ∀ x ∈ e.enc, x.one = true := by
  intro x hx
  simp only [E4.enc, List.mem_cons, List.not_mem_nil, or_false] at hx
  rcases hx with rfl | rfl | rfl | rfl <;> rfl
theorem encE_len (e : E4) : e.enc.length = 4 := rfl

/-- What a copy is: a row of one's own, made by the call. -/
def CopyOf (base : Nat) (H H' : BH) (ty sz : Nat) (v : BV) (xs : List (List BV)) : Prop := ∃ b, OwnS base H' ty sz v xs b ∧ H.row b = .fresh

theorem c50 {ty : Nat} (es : List E4) (v : BV) (H : BH) (hs : Sls H ty 4 v (es.map E4.enc)) (hn : es.length ≤ 1048576) :
    ∃ u H', Runs (gam base) 50 [v] H u H' ∧ H.Keeps H' ∧ CopyOf base H H' 54 4 u (es.map E4.enc) := by
  refine call_of_wp (fn := ir50) (R := fun u H' => H.Keeps H' ∧ CopyOf base H H' 54 4 u (es.map E4.enc)) rfl ?_
  have hl : v.slen = es.length := by rw [hs.len]; simp
  simp [ir50, wpC_skip, wpC_region, wpC_seq, wpC_cond, wpC_block, wpC_exit, wpC_ret, wpO, wpStep, wantB, BOp.makes, after, Post.then, Post.inBlock, BExit.outOf, Env.puto, Env.put, Opd.ev, argEnv, op1_mov, op1_pick, op1_new, op1_box, op1_load, op1_nilck, op1_bin, op1_beq, op1_not, op1_neg, op1_conv, op1_lea, op1_fld, op1_len0, op1_len1, op1_idx, op1_ext, op1_build, op1_mk, op1_store, op1_mksl, op1_eqs, pureBin, isShift, resOf, resVals, BRes.val, oneOf, one_int, cells_int, one_bool, cells_bool, one_str, cells_str, one_nilp, cells_nilp, one_ptr, cells_ptr, one_nils, cells_nils, one_sl, cells_sl, one_sle, cells_sle, one_nilm, cells_nilm, one_mp, cells_mp, one_nilf, cells_nilf, one_fn, cells_fn, one_nili, cells_nili, cells_agg, isSl_sl, slen_sl, sat_sl, make_of, asm, rtOk, hs.isSl, hl]
  intro nb hb hf
  have hlt : (48 : Int) * es.length ≤ 140737488355328 := by omega
  have hlt2 : (es.length : Int) ≤ 140737488355328 := by omega
  simp [wpC_skip, wpC_region, wpC_seq, wpC_cond, wpC_block, wpC_exit, wpC_ret, wpO, wpStep, wantB, BOp.makes, after, Post.then, Post.inBlock, BExit.outOf, Env.puto, Env.put, Opd.ev, argEnv, op1_mov, op1_pick, op1_new, op1_box, op1_load, op1_nilck, op1_bin, op1_beq, op1_not, op1_neg, op1_conv, op1_lea, op1_fld, op1_len0, op1_len1, op1_idx, op1_ext, op1_build, op1_mk, op1_store, op1_mksl, op1_eqs, pureBin, isShift, resOf, resVals, BRes.val, oneOf, one_int, cells_int, one_bool, cells_bool, one_str, cells_str, one_nilp, cells_nilp, one_ptr, cells_ptr, one_nils, cells_nils, one_sl, cells_sl, one_sle, cells_sle, one_nilm, cells_nilm, one_mp, cells_mp, one_nilf, cells_nilf, one_fn, cells_fn, one_nili, cells_nili, cells_agg, isSl_sl, slen_sl, sat_sl, make_of, asm, rtOk, make_of hf hb, hlt, hlt2]
  refine wpC_count es.length (fun i e K => e 0 = v ∧ e 3 = .sl nb 0 es.length ∧ e 4 = .int .i64 i ∧ H.Keeps K ∧ K.row nb = .arr 54 (partOf E4.enc z4 es i).flatten) (i0 := 0) ?_ (Nat.zero_le _) ?_
  · refine ⟨rfl, rfl, rfl, BH.keeps_set _ hf, ?_⟩
    rw [BH.row_set_eq, part_zero]
    rfl
  · rintro i e K hi ⟨e0, e3, e4, hk, hrow⟩
    by_cases hlt : i < es.length
    · have hrd : K.rd none (some 4) (v.sat i 4) = some (.agg (E4.enc es[i])) := (hs.keeps hk).rd (by simp [hlt]) rfl
      obtain ⟨K1, hr, hk1⟩ := c76 (base := base) es[i] K
      have hrow1 : K1.row nb = .arr 54 (partOf E4.enc z4 es i).flatten := by rw [hk1 nb (by rw [hrow]; simp), hrow]
      have hall := part_all (xs := es) (i := i) encE_len (z := z4) rfl
      have hfl := flatten_len hall
      rw [part_len hi] at hfl
      have hset := flatten_set hall (encE_len es[i]) (i := i) (by rw [part_len hi]; exact hlt)
      rw [part_set hlt] at hset
      have w2 : IntKind.i64.wrap ((i : Int) + 1) = (i : Int) + 1 := w64 (by omega) (by omega)
      have hb' : base ≤ nb := hb
      have hle : i * 4 + 4 ≤ es.length * 4 := by omega
      simp [wpC_skip, wpC_region, wpC_seq, wpC_cond, wpC_block, wpC_exit, wpC_ret, wpO, wpStep, wantB, BOp.makes, after, Post.then, Post.inBlock, BExit.outOf, Env.puto, Env.put, Opd.ev, argEnv, op1_mov, op1_pick, op1_new, op1_box, op1_load, op1_nilck, op1_bin, op1_beq, op1_not, op1_neg, op1_conv, op1_lea, op1_fld, op1_len0, op1_len1, op1_idx, op1_ext, op1_build, op1_mk, op1_store, op1_mksl, op1_eqs, pureBin, isShift, resOf, resVals, BRes.val, oneOf, one_int, cells_int, one_bool, cells_bool, one_str, cells_str, one_nilp, cells_nilp, one_ptr, cells_ptr, one_nils, cells_nils, one_sl, cells_sl, one_sle, cells_sle, one_nilm, cells_nilm, one_mp, cells_mp, one_nilf, cells_nilf, one_fn, cells_fn, one_nili, cells_nili, cells_agg, isSl_sl, slen_sl, sat_sl, make_of, asm, rtOk, e0, e3, e4, hs.isSl, hl, hlt, hrd]
      refine ⟨_, K1, hr, BH.KeepsTys.nil _ _, ?_⟩
      simp [wpC_skip, wpC_region, wpC_seq, wpC_cond, wpC_block, wpC_exit, wpC_ret, wpO, wpStep, wantB, BOp.makes, after, Post.then, Post.inBlock, BExit.outOf, Env.puto, Env.put, Opd.ev, argEnv, op1_mov, op1_pick, op1_new, op1_box, op1_load, op1_nilck, op1_bin, op1_beq, op1_not, op1_neg, op1_conv, op1_lea, op1_fld, op1_len0, op1_len1, op1_idx, op1_ext, op1_build, op1_mk, op1_store, op1_mksl, op1_eqs, pureBin, isShift, resOf, resVals, BRes.val, oneOf, one_int, cells_int, one_bool, cells_bool, one_str, cells_str, one_nilp, cells_nilp, one_ptr, cells_ptr, one_nils, cells_nils, one_sl, cells_sl, one_sle, cells_sle, one_nilm, cells_nilm, one_mp, cells_mp, one_nilf, cells_nilf, one_fn, cells_fn, one_nili, cells_nili, cells_agg, isSl_sl, slen_sl, sat_sl, make_of, asm, rtOk, e0, e3, e4, hlt, hrow1, hfl, encE_len]
      rw [if_pos ⟨hb, hle, encE_one es[i]⟩, ← List.append_assoc, hset]
      exact ⟨w2, (hk.trans hk1).set hf _, BH.row_set_eq _ _ _⟩
    · simp [wpC_skip, wpC_region, wpC_seq, wpC_cond, wpC_block, wpC_exit, wpC_ret, wpO, wpStep, wantB, BOp.makes, after, Post.then, Post.inBlock, BExit.outOf, Env.puto, Env.put, Opd.ev, argEnv, op1_mov, op1_pick, op1_new, op1_box, op1_load, op1_nilck, op1_bin, op1_beq, op1_not, op1_neg, op1_conv, op1_lea, op1_fld, op1_len0, op1_len1, op1_idx, op1_ext, op1_build, op1_mk, op1_store, op1_mksl, op1_eqs, pureBin, isShift, resOf, resVals, BRes.val, oneOf, one_int, cells_int, one_bool, cells_bool, one_str, cells_str, one_nilp, cells_nilp, one_ptr, cells_ptr, one_nils, cells_nils, one_sl, cells_sl, one_sle, cells_sle, one_nilm, cells_nilm, one_mp, cells_mp, one_nilf, cells_nilf, one_fn, cells_fn, one_nili, cells_nili, cells_agg, isSl_sl, slen_sl, sat_sl, make_of, asm, rtOk, e0, e3, e4, hs.isSl, hl, hlt]
      rw [part_end (by omega)] at hrow
      exact ⟨hk, nb, ⟨by simp, hrow, hb, fun x hx => by obtain ⟨y, _, rfl⟩ := List.mem_map.1 hx; rfl⟩, hf⟩

theorem c49 {tz : Nat} (bs : List Bool) (v : BV) (H : BH) (hs : Sls H tz 1 v (bs.map encB)) (hn : bs.length ≤ 1048576) :
    ∃ u H', Runs (gam base) 49 [v] H u H' ∧ H.Keeps H' ∧ CopyOf base H H' 4 1 u (bs.map encB) := by
  refine call_of_wp (fn := ir49) (R := fun u H' => H.Keeps H' ∧ CopyOf base H H' 4 1 u (bs.map encB)) rfl ?_
  have hl : v.slen = bs.length := by rw [hs.len]; simp
  simp [ir49, wpC_skip, wpC_region, wpC_seq, wpC_cond, wpC_block, wpC_exit, wpC_ret, wpO, wpStep, wantB, BOp.makes, after, Post.then, Post.inBlock, BExit.outOf, Env.puto, Env.put, Opd.ev, argEnv, op1_mov, op1_pick, op1_new, op1_box, op1_load, op1_nilck, op1_bin, op1_beq, op1_not, op1_neg, op1_conv, op1_lea, op1_fld, op1_len0, op1_len1, op1_idx, op1_ext, op1_build, op1_mk, op1_store, op1_mksl, op1_eqs, pureBin, isShift, resOf, resVals, BRes.val, oneOf, one_int, cells_int, one_bool, cells_bool, one_str, cells_str, one_nilp, cells_nilp, one_ptr, cells_ptr, one_nils, cells_nils, one_sl, cells_sl, one_sle, cells_sle, one_nilm, cells_nilm, one_mp, cells_mp, one_nilf, cells_nilf, one_fn, cells_fn, one_nili, cells_nili, cells_agg, isSl_sl, slen_sl, sat_sl, make_of, asm, rtOk, hs.isSl, hl]
  intro nb hb hf
  have hlt2 : (bs.length : Int) ≤ 140737488355328 := by omega
  simp [wpC_skip, wpC_region, wpC_seq, wpC_cond, wpC_block, wpC_exit, wpC_ret, wpO, wpStep, wantB, BOp.makes, after, Post.then, Post.inBlock, BExit.outOf, Env.puto, Env.put, Opd.ev, argEnv, op1_mov, op1_pick, op1_new, op1_box, op1_load, op1_nilck, op1_bin, op1_beq, op1_not, op1_neg, op1_conv, op1_lea, op1_fld, op1_len0, op1_len1, op1_idx, op1_ext, op1_build, op1_mk, op1_store, op1_mksl, op1_eqs, pureBin, isShift, resOf, resVals, BRes.val, oneOf, one_int, cells_int, one_bool, cells_bool, one_str, cells_str, one_nilp, cells_nilp, one_ptr, cells_ptr, one_nils, cells_nils, one_sl, cells_sl, one_sle, cells_sle, one_nilm, cells_nilm, one_mp, cells_mp, one_nilf, cells_nilf, one_fn, cells_fn, one_nili, cells_nili, cells_agg, isSl_sl, slen_sl, sat_sl, make_of, asm, rtOk, make_of hf hb, hlt2]
  refine wpC_count bs.length (fun i e K => e 0 = v ∧ e 3 = .sl nb 0 bs.length ∧ e 4 = .int .i64 i ∧ H.Keeps K ∧ K.row nb = .arr 4 (partOf encB [.bool false] bs i).flatten) (i0 := 0) ?_ (Nat.zero_le _) ?_
  · refine ⟨rfl, rfl, rfl, BH.keeps_set _ hf, ?_⟩
    rw [BH.row_set_eq, part_zero]
    simp
  · rintro i e K hi ⟨e0, e3, e4, hk, hrow⟩
    by_cases hlt : i < bs.length
    · have hrd : K.rd none none (v.sat i 1) = some (.bool bs[i]) := (hs.keeps hk).rd1 (by simp [hlt, encB]) rfl
      have hall := part_all (xs := bs) (i := i) (enc := encB) (sz := 1) (fun _ => rfl) (z := [.bool false]) rfl
      have hfl := flatten_len hall
      rw [part_len hi] at hfl
      have hset := flatten_set hall (y := encB bs[i]) rfl (i := i) (by rw [part_len hi]; exact hlt)
      rw [part_set hlt] at hset
      have w2 : IntKind.i64.wrap ((i : Int) + 1) = (i : Int) + 1 := w64 (by omega) (by omega)
      have hle : i + 1 ≤ bs.length := by omega
      simp only [Nat.mul_one] at hfl hset
      simp [wpC_skip, wpC_region, wpC_seq, wpC_cond, wpC_block, wpC_exit, wpC_ret, wpO, wpStep, wantB, BOp.makes, after, Post.then, Post.inBlock, BExit.outOf, Env.puto, Env.put, Opd.ev, argEnv, op1_mov, op1_pick, op1_new, op1_box, op1_load, op1_nilck, op1_bin, op1_beq, op1_not, op1_neg, op1_conv, op1_lea, op1_fld, op1_len0, op1_len1, op1_idx, op1_ext, op1_build, op1_mk, op1_store, op1_mksl, op1_eqs, pureBin, isShift, resOf, resVals, BRes.val, oneOf, one_int, cells_int, one_bool, cells_bool, one_str, cells_str, one_nilp, cells_nilp, one_ptr, cells_ptr, one_nils, cells_nils, one_sl, cells_sl, one_sle, cells_sle, one_nilm, cells_nilm, one_mp, cells_mp, one_nilf, cells_nilf, one_fn, cells_fn, one_nili, cells_nili, cells_agg, isSl_sl, slen_sl, sat_sl, make_of, asm, rtOk, e0, e3, e4, hs.isSl, hl, hlt, hrd, hrow, hfl]
      rw [if_pos ⟨hb, hle⟩]
      refine ⟨w2, hk.set hf _, ?_⟩
      rw [BH.row_set_eq, ← hset]
      simp [encB]
    · simp [wpC_skip, wpC_region, wpC_seq, wpC_cond, wpC_block, wpC_exit, wpC_ret, wpO, wpStep, wantB, BOp.makes, after, Post.then, Post.inBlock, BExit.outOf, Env.puto, Env.put, Opd.ev, argEnv, op1_mov, op1_pick, op1_new, op1_box, op1_load, op1_nilck, op1_bin, op1_beq, op1_not, op1_neg, op1_conv, op1_lea, op1_fld, op1_len0, op1_len1, op1_idx, op1_ext, op1_build, op1_mk, op1_store, op1_mksl, op1_eqs, pureBin, isShift, resOf, resVals, BRes.val, oneOf, one_int, cells_int, one_bool, cells_bool, one_str, cells_str, one_nilp, cells_nilp, one_ptr, cells_ptr, one_nils, cells_nils, one_sl, cells_sl, one_sle, cells_sle, one_nilm, cells_nilm, one_mp, cells_mp, one_nilf, cells_nilf, one_fn, cells_fn, one_nili, cells_nili, cells_agg, isSl_sl, slen_sl, sat_sl, make_of, asm, rtOk, e0, e3, e4, hs.isSl, hl, hlt]
      rw [part_end (by omega)] at hrow
      exact ⟨hk, nb, ⟨by simp, hrow, hb, fun x hx => by obtain ⟨y, _, rfl⟩ := List.mem_map.1 hx; rfl⟩, hf⟩

end Go.Proofs.Ytkmlmkbpdldjgaa.W
