/-
A transducer that is being built.
-/
import Derived.Test.YtkmlmkbpdldjgaaW13
namespace Go.Proofs.Ytkmlmkbpdldjgaa.W
set_option linter.unusedSimpArgs false
set_option linter.unusedVariables false
open Go.B
variable {base : Nat}

def _root_.Go.B.BH.appd (base nb : Nat) (H : BH) (ty sz bytes : Nat) (vx vy : BV) : Option (BV × BH) := op1 base nb (fun o => match o with | .t 0 => vx | _ => vy) H (.app ty sz bytes (.t 0) (.t 1))
theorem op1_app {nb : Nat} {σ : Opd → BV} {H : BH} {ty sz bytes : Nat} {x y : Opd} : op1 base nb σ H (.app ty sz bytes x y) = H.appd base nb ty sz bytes (σ x) (σ y) := rfl
theorem appd_own {H K : BH} {ty sz bytes nb : Nat} {vx vy : BV} {xs new : List (List BV)} {bo : Option Nat} (hk : H.Keeps K) (hb : Fr H bo) (own : OwnN base K ty sz vx xs bo) (hc : K.cells sz vy = some new.flatten)
    (hl : ∀ z ∈ new, z.length = sz) (h1 : ∀ z ∈ new, ∀ c ∈ z, c.one = true) (hsz : 0 < sz) (hsm : (xs.length + new.length) * sz ≤ 35184372088832) (hsm2 : (xs.length + new.length) * bytes ≤ 35184372088832)
    (hn : K.row nb = .fresh) (hnb : base ≤ nb) :
    ∃ v' K' bo', K.appd base nb ty sz bytes vx vy = some (v', K') ∧ OwnN base K' ty sz v' (xs ++ new) bo' ∧ H.Keeps K' ∧ Fr H bo' ∧ (∀ c, bo ≠ some c → K.row c ≠ .fresh → K'.row c = K.row c) ∧ (∀ c, bo' = some c → K.row c = .fresh) :=
  app_own (σ := fun o => match o with | .t 0 => vx | _ => vy) (x := .t 0) (y := .t 1) hk hb own hc hl h1 hsz hsm hsm2 hn hnb
theorem mk_cells {K : BH} {n1 ty sz n : Nat} {cs : List BV} (h : cs.length = n * sz) : (K.set n1 (.arr ty cs)).cells sz (.sl n1 0 n) = some cs := by
  simp only [BH.cells, BH.row_set_eq, Nat.zero_add, ← h, Nat.le_refl, if_true, List.drop_zero, List.take_length]

theorem ne_row {K : BH} {ty ty' sz c : Nat} {v : BV} {xs : List (List BV)} {bo : Option Nat} {cs : List BV} (own : OwnN base K ty sz v xs bo) (h : K.row c = .arr ty' cs) (hn : ty ≠ ty') : bo ≠ some c := by
  intro e
  have := own.live e
  rw [h] at this
  cases this
  exact hn rfl
theorem ne_fresh {K : BH} {ty sz c : Nat} {v : BV} {xs : List (List BV)} {bo : Option Nat} (own : OwnN base K ty sz v xs bo) (h : K.row c = .fresh) : bo ≠ some c := by
  intro e
  have := own.live e
  rw [h] at this
  cases this
theorem encEs_all (es : List E4) : ∀ z ∈ es.map E4.enc, z.length = 4 := by
  intro z hz
  obtain ⟨e, _, rfl⟩ := List.mem_map.1 hz
  rfl
theorem encEs_one (es : List E4) : ∀ z ∈ es.map E4.enc, ∀ c ∈ z, c.one = true := by
  intro z hz
  obtain ⟨e, _, rfl⟩ := List.mem_map.1 hz
  exact encE_one e
theorem encBs_all (bs : List Bool) : ∀ z ∈ bs.map encB, z.length = 1 := by
  intro z hz
  obtain ⟨e, _, rfl⟩ := List.mem_map.1 hz
  rfl
theorem encBs_one (bs : List Bool) : ∀ z ∈ bs.map encB, ∀ c ∈ z, c.one = true := by
  intro z hz
  obtain ⟨e, _, rfl⟩ := List.mem_map.1 hz
  simp [encB, one_bool]

/-- All rows but the one of the transducer, and but rows of edges. -/
def Oth (n : Nat) (K K' : BH) : Prop := ∀ c ty cs, K.row c = .arr ty cs → ty ≠ 54 → c ≠ n → K'.row c = K.row c
theorem Oth.trans {n : Nat} {K L M : BH} (h : Oth n K L) (k : Oth n L M) : Oth n K M := fun c ty cs hr h1 h2 => by
  have e := h c ty cs hr h1 h2
  rw [k c ty cs (by rw [e, hr]) h1 h2, e]
theorem _root_.Go.B.BH.Keeps.oth {n : Nat} {K L : BH} (h : K.Keeps L) : Oth n K L := fun c ty cs hr _ _ => h c (by rw [hr]; simp)

/-- A transducer that is being built in a variable. -/
structure Bld (base : Nat) (H K : BH) (n : Nat) (s : Int) (u v : BV) (bs : List Bool) (es : List E4) (bo co : Option Nat) : Prop where
  row : K.row n = .arr 34 [.int .i64 s, u, v]
  fl : OwnN base K 4 1 u (bs.map encB) bo
  ed : OwnN base K 54 4 v (es.map E4.enc) co
  fb : Fr H bo
  fc : Fr H co
  fn : H.row n = .fresh
  own : base ≤ n
theorem Bld.keeps {H K L : BH} {n : Nat} {s : Int} {u v : BV} {bs : List Bool} {es : List E4} {bo co : Option Nat} (h : Bld base H K n s u v bs es bo co) (k : K.Keeps L) : Bld base H L n s u v bs es bo co :=
  ⟨by rw [k n (by rw [h.row]; simp), h.row], h.fl.keeps k, h.ed.keeps k, h.fb, h.fc, h.fn, h.own⟩

/-- Edges are appended to it. -/
theorem Bld.push {H K : BH} {n : Nat} {s : Int} {u v : BV} {bs : List Bool} {es : List E4} {bo co : Option Nat} (h : Bld base H K n s u v bs es bo co) (hk : H.Keeps K) {vy : BV} {new : List E4} (hc : K.cells 4 vy = some (new.map E4.enc).flatten)
    (hsm : es.length + new.length ≤ 500000000) {nb : Nat} (hn : K.row nb = .fresh) (hnb : base ≤ nb) :
    ∃ v' K' K2 co', K.appd base nb 54 4 48 v vy = some (v', K') ∧ K'.wr base none 1 (.ptr n 2) v' = some K2 ∧ Bld base H K2 n s u v' bs (es ++ new) bo co' ∧ H.Keeps K2 ∧ Oth n K K2 := by
  obtain ⟨v', K', co', h1, h2, h3, h4, h5, h6⟩ := appd_own (base := base) (bytes := 48) (nb := nb) hk h.fc h.ed hc (encEs_all new) (encEs_one new) (by omega) (by simp; omega) (by simp; omega) hn hnb
  have hrow' : K'.row n = .arr 34 [.int .i64 s, u, v] := by rw [h5 n (ne_row h.ed h.row (by omega)) (by rw [h.row]; simp), h.row]
  have hw := wr_row (base := base) (o := 2) (n := 1) (v := v') (rt := none) hrow' rfl h.own (by rw [cells_one h2.one]; rfl) (by simp) (by rw [cells_one h2.one]; simp [h2.one])
  rw [cells_one h2.one] at hw
  refine ⟨v', K', _, co', h1, hw, ⟨BH.row_set_eq _ _ _, ?_, ?_, h.fb, h4, h.fn, h.own⟩, ?_, ?_⟩
  · refine h.fl.stay fun b hb => ?_
    have hbr := h.fl.live hb
    rw [BH.row_set_ne _ _ (by rintro rfl; rw [h.row] at hbr; cases hbr), h5 b (ne_row h.ed hbr (by omega)) (by rw [hbr]; simp)]
  · rw [List.map_append]
    refine h2.stay fun b hb => BH.row_set_ne _ _ ?_
    rintro rfl
    have := h2.live hb
    rw [hrow'] at this
    cases this
  · exact h3.set h.fn _
  · intro c ty cs hr ht hcn
    rw [BH.row_set_ne _ _ hcn, h5 c (ne_row h.ed hr (Ne.symm ht)) (by rw [hr]; simp)]

/-- One edge is appended to it. -/
theorem Bld.push1 {H K : BH} {n : Nat} {s : Int} {u v : BV} {bs : List Bool} {es : List E4} {bo co : Option Nat} (h : Bld base H K n s u v bs es bo co) (hk : H.Keeps K) (e : E4) (hsm : es.length + 1 ≤ 500000000)
    {n1 : Nat} (hf1 : K.row n1 = .fresh) {nb : Nat} (hn : (K.set n1 (.arr 54 e.enc)).row nb = .fresh) (hnb : base ≤ nb) :
    ∃ v' K' K2 co', (K.set n1 (.arr 54 e.enc)).appd base nb 54 4 48 v (.sl n1 0 1) = some (v', K') ∧ K'.wr base none 1 (.ptr n 2) v' = some K2 ∧ Bld base H K2 n s u v' bs (es ++ [e]) bo co' ∧ H.Keeps K2 ∧ Oth n K K2 := by
  have hks := BH.keeps_set (.arr 54 e.enc) hf1
  obtain ⟨v', K', K2, co', h1, h2, h3, h4, h5⟩ := (h.keeps hks).push (hk.trans hks) (vy := .sl n1 0 1) (new := [e]) (by simpa using mk_cells (K := K) (n1 := n1) (ty := 54) (sz := 4) (n := 1) (encE_len e)) (by simpa using hsm) hn hnb
  exact ⟨v', K', K2, co', h1, h2, h3, h4, (BH.Keeps.oth hks).trans h5⟩

theorem Bld.rd {H K : BH} {n : Nat} {s : Int} {u v : BV} {bs : List Bool} {es : List E4} {bo co : Option Nat} (h : Bld base H K n s u v bs es bo co) {rt : Option Nat} (hrt : rtOk rt 34 = true) :
    K.rd rt none (.ptr n 0) = some (.int .i64 s) ∧ K.rd rt none (.ptr n 1) = some u ∧ K.rd rt none (.ptr n 2) = some v ∧ K.rd rt (some 3) (.ptr n 0) = some (.agg [.int .i64 s, u, v]) := by
  simp [BH.rd, h.row, hrt, asm]
theorem rows3 {K : BH} {n : Nat} {a b c : BV} (h : K.row n = .arr 34 [a, b, c]) {rt : Option Nat} (hrt : rtOk rt 34 = true) :
    K.rd rt none (.ptr n 0) = some a ∧ K.rd rt none (.ptr n 1) = some b ∧ K.rd rt none (.ptr n 2) = some c ∧ K.rd rt (some 3) (.ptr n 0) = some (.agg [a, b, c]) := by
  simp [BH.rd, h, hrt, asm]
theorem edge_rd {K : BH} {n : Nat} {e : E4} (h : K.row n = .arr 54 e.enc) :
    K.rd none none (.ptr n 0) = some (.int .i64 e.f) ∧ K.rd none none (.ptr n 1) = some (.int .i64 e.t) ∧ K.rd none none (.ptr n 2) = some (.str e.i) ∧ K.rd none none (.ptr n 3) = some (.str e.o) := by
  simp [BH.rd, h, rtOk, asm, E4.enc]
theorem new4 {K : BH} {nb : Nat} {z : List BV} {e : E4} (hz : z.length = 4) (hb : base ≤ nb) : (K.set nb (.arr 54 z)).wr base none 4 (.ptr nb 0) (.agg e.enc) = some (K.set nb (.arr 54 e.enc)) := by
  rw [wr_row (ty := 54) (cs := z) (n := 4) (o := 0) (v := .agg e.enc) (BH.row_set_eq _ _ _) rfl hb rfl (by omega) (by rw [List.all_eq_true]; exact encE_one e)]
  congr 1
  refine BH.ext fun d => ?_
  simp only [BH.row_set]
  split
  · simp [cells_agg, hz, encE_len, List.drop_eq_nil_of_le]
  · rfl

/-- What a variable for the answer holds in the end. -/
theorem set3 {K : BH} {n : Nat} {a b c x y z : BV} (h : K.row n = .arr 34 [x, y, z]) (hb : base ≤ n) (ha : a.one = true) (hb1 : b.one = true) (hc : c.one = true) :
    K.wr base none 3 (.ptr n 0) (.agg [a, b, c]) = some (K.set n (.arr 34 [a, b, c])) := by
  rw [wr_row (ty := 34) (n := 3) (o := 0) (v := .agg [a, b, c]) h rfl hb rfl (by simp) (by simp [cells_agg, ha, hb1, hc])]
  simp [cells_agg]

/-! ### copies by slices.Clone -/
theorem c79 (bs : List Bool) (u : BV) (b : Nat) (H : BH) (ou : OwnS base H 4 1 u (bs.map encB) b) (hn : bs.length ≤ 1048576) :
    ∃ v H', Runs (gam base) 79 [u] H v H' ∧ H.Keeps H' ∧ ∃ bo, OwnN base H' 4 1 v (bs.map encB) bo ∧ Fr H bo := by
  refine call_of_wp (fn := ir79) (R := fun v H' => H.Keeps H' ∧ ∃ bo, OwnN base H' 4 1 v (bs.map encB) bo ∧ Fr H bo) rfl ?_
  have hv := ou.val
  simp [ir79, wpC_skip, wpC_region, wpC_seq, wpC_true, wpC_false, wpC_block, wpC_exit, wpC_ret, wpO_nil, wpO_n, wpO_tt, wpO_ff, wpO_tf, wpO_ft, wpO_u, wpS_mov, wpS_pick, wpS_build, wpS_load, wpS_store, wpS_nilck, wpS_bin, wpS_beq, wpS_isnil, wpS_eqs, wpS_not, wpS_neg, wpS_conv, wpS_lea, wpS_fld, wpS_idx, wpS_idxs, wpS_slice, wpS_sslice, wpS_mkfn, wpS_mset, wpS_look, wpS_ext, wpS_len, wpS_new, wpS_box, wpS_mk, wpS_mkmap, wpS_mksl, wpS_app, wpS_fn, wpS_call, after_some, Post.then, Post.inBlock, BExit.outOf, puto_some, puto_none, put_eq, put_ne, Opd.ev, argEnv, op1_mov, op1_pick, op1_new, op1_box, op1_load, op1_nilck, op1_bin, op1_beq, op1_not, op1_neg, op1_conv, op1_lea, op1_fld, op1_len0, op1_len1, op1_idx, op1_ext, op1_build, op1_mk, op1_stw, op1_mksl, op1_eqs, pureBin, isShift, resOf, resVals, val_tmp, val_cell, oneOf, one_int, cells_int, one_bool, cells_bool, one_str, cells_str, one_nilp, cells_nilp, one_ptr, cells_ptr, one_nils, cells_nils, one_sl, cells_sl, one_sle, cells_sle, one_nilm, cells_nilm, one_mp, cells_mp, one_nilf, cells_nilf, one_fn, cells_fn, one_nili, cells_nili, cells_agg, isSl_sl, slen_sl, sat_sl, make_of, asm, rtOk, wpS_b2s, op1_b2s, op1_isnil, Option.map_some, gam_base, op1_app, hv, fillB]
  intro n1 b1 f1
  simp [wpC_skip, wpC_region, wpC_seq, wpC_true, wpC_false, wpC_block, wpC_exit, wpC_ret, wpO_nil, wpO_n, wpO_tt, wpO_ff, wpO_tf, wpO_ft, wpO_u, wpS_mov, wpS_pick, wpS_build, wpS_load, wpS_store, wpS_nilck, wpS_bin, wpS_beq, wpS_isnil, wpS_eqs, wpS_not, wpS_neg, wpS_conv, wpS_lea, wpS_fld, wpS_idx, wpS_idxs, wpS_slice, wpS_sslice, wpS_mkfn, wpS_mset, wpS_look, wpS_ext, wpS_len, wpS_new, wpS_box, wpS_mk, wpS_mkmap, wpS_mksl, wpS_app, wpS_fn, wpS_call, after_some, Post.then, Post.inBlock, BExit.outOf, puto_some, puto_none, put_eq, put_ne, Opd.ev, argEnv, op1_mov, op1_pick, op1_new, op1_box, op1_load, op1_nilck, op1_bin, op1_beq, op1_not, op1_neg, op1_conv, op1_lea, op1_fld, op1_len0, op1_len1, op1_idx, op1_ext, op1_build, op1_mk, op1_stw, op1_mksl, op1_eqs, pureBin, isShift, resOf, resVals, val_tmp, val_cell, oneOf, one_int, cells_int, one_bool, cells_bool, one_str, cells_str, one_nilp, cells_nilp, one_ptr, cells_ptr, one_nils, cells_nils, one_sl, cells_sl, one_sle, cells_sle, one_nilm, cells_nilm, one_mp, cells_mp, one_nilf, cells_nilf, one_fn, cells_fn, one_nili, cells_nili, cells_agg, isSl_sl, slen_sl, sat_sl, make_of, asm, rtOk, wpS_b2s, op1_b2s, op1_isnil, Option.map_some, gam_base, op1_app, make_of f1 b1]
  intro n2 b2 f2
  have ks := BH.keeps_set (H := H) (.arr 4 []) f1
  have ou' := OwnN.cells (bo := some b) (ou.keeps ks)
  rw [hv] at ou'
  have on1 : OwnN base (H.set n1 (.arr 4 [])) 4 1 (.sl n1 0 0) [] (some n1) := ⟨rfl, by rw [BH.row_set_eq]; rfl, b1, fun _ h => by cases h⟩
  obtain ⟨v', K', bo', h1, h2, h3, h4, h5, h6⟩ := appd_own (base := base) (bytes := 1) (nb := n2) ks (Fr.some f1) on1 ou' (encBs_all bs) (encBs_one bs) (by omega) (by simp; omega) (by simp; omega) f2 b2
  simp only [List.length_map] at h1
  simp [wpC_skip, wpC_region, wpC_seq, wpC_true, wpC_false, wpC_block, wpC_exit, wpC_ret, wpO_nil, wpO_n, wpO_tt, wpO_ff, wpO_tf, wpO_ft, wpO_u, wpS_mov, wpS_pick, wpS_build, wpS_load, wpS_store, wpS_nilck, wpS_bin, wpS_beq, wpS_isnil, wpS_eqs, wpS_not, wpS_neg, wpS_conv, wpS_lea, wpS_fld, wpS_idx, wpS_idxs, wpS_slice, wpS_sslice, wpS_mkfn, wpS_mset, wpS_look, wpS_ext, wpS_len, wpS_new, wpS_box, wpS_mk, wpS_mkmap, wpS_mksl, wpS_app, wpS_fn, wpS_call, after_some, Post.then, Post.inBlock, BExit.outOf, puto_some, puto_none, put_eq, put_ne, Opd.ev, argEnv, op1_mov, op1_pick, op1_new, op1_box, op1_load, op1_nilck, op1_bin, op1_beq, op1_not, op1_neg, op1_conv, op1_lea, op1_fld, op1_len0, op1_len1, op1_idx, op1_ext, op1_build, op1_mk, op1_stw, op1_mksl, op1_eqs, pureBin, isShift, resOf, resVals, val_tmp, val_cell, oneOf, one_int, cells_int, one_bool, cells_bool, one_str, cells_str, one_nilp, cells_nilp, one_ptr, cells_ptr, one_nils, cells_nils, one_sl, cells_sl, one_sle, cells_sle, one_nilm, cells_nilm, one_mp, cells_mp, one_nilf, cells_nilf, one_fn, cells_fn, one_nili, cells_nili, cells_agg, isSl_sl, slen_sl, sat_sl, make_of, asm, rtOk, wpS_b2s, op1_b2s, op1_isnil, Option.map_some, gam_base, op1_app, h1]
  exact ⟨h3, bo', by simpa using h2, h4⟩
theorem c68 (es : List E4) (v : BV) (b : Nat) (H : BH) (ov : OwnS base H 54 4 v (es.map E4.enc) b) (hn : es.length ≤ 1048576) :
    ∃ w H', Runs (gam base) 68 [v] H w H' ∧ H.Keeps H' ∧ ∃ bo, OwnN base H' 54 4 w (es.map E4.enc) bo ∧ Fr H bo := by
  refine call_of_wp (fn := ir68) (R := fun v H' => H.Keeps H' ∧ ∃ bo, OwnN base H' 54 4 v (es.map E4.enc) bo ∧ Fr H bo) rfl ?_
  have hv := ov.val
  simp [ir68, wpC_skip, wpC_region, wpC_seq, wpC_true, wpC_false, wpC_block, wpC_exit, wpC_ret, wpO_nil, wpO_n, wpO_tt, wpO_ff, wpO_tf, wpO_ft, wpO_u, wpS_mov, wpS_pick, wpS_build, wpS_load, wpS_store, wpS_nilck, wpS_bin, wpS_beq, wpS_isnil, wpS_eqs, wpS_not, wpS_neg, wpS_conv, wpS_lea, wpS_fld, wpS_idx, wpS_idxs, wpS_slice, wpS_sslice, wpS_mkfn, wpS_mset, wpS_look, wpS_ext, wpS_len, wpS_new, wpS_box, wpS_mk, wpS_mkmap, wpS_mksl, wpS_app, wpS_fn, wpS_call, after_some, Post.then, Post.inBlock, BExit.outOf, puto_some, puto_none, put_eq, put_ne, Opd.ev, argEnv, op1_mov, op1_pick, op1_new, op1_box, op1_load, op1_nilck, op1_bin, op1_beq, op1_not, op1_neg, op1_conv, op1_lea, op1_fld, op1_len0, op1_len1, op1_idx, op1_ext, op1_build, op1_mk, op1_stw, op1_mksl, op1_eqs, pureBin, isShift, resOf, resVals, val_tmp, val_cell, oneOf, one_int, cells_int, one_bool, cells_bool, one_str, cells_str, one_nilp, cells_nilp, one_ptr, cells_ptr, one_nils, cells_nils, one_sl, cells_sl, one_sle, cells_sle, one_nilm, cells_nilm, one_mp, cells_mp, one_nilf, cells_nilf, one_fn, cells_fn, one_nili, cells_nili, cells_agg, isSl_sl, slen_sl, sat_sl, make_of, asm, rtOk, wpS_b2s, op1_b2s, op1_isnil, Option.map_some, gam_base, op1_app, hv, fillB]
  intro n1 b1 f1
  simp [wpC_skip, wpC_region, wpC_seq, wpC_true, wpC_false, wpC_block, wpC_exit, wpC_ret, wpO_nil, wpO_n, wpO_tt, wpO_ff, wpO_tf, wpO_ft, wpO_u, wpS_mov, wpS_pick, wpS_build, wpS_load, wpS_store, wpS_nilck, wpS_bin, wpS_beq, wpS_isnil, wpS_eqs, wpS_not, wpS_neg, wpS_conv, wpS_lea, wpS_fld, wpS_idx, wpS_idxs, wpS_slice, wpS_sslice, wpS_mkfn, wpS_mset, wpS_look, wpS_ext, wpS_len, wpS_new, wpS_box, wpS_mk, wpS_mkmap, wpS_mksl, wpS_app, wpS_fn, wpS_call, after_some, Post.then, Post.inBlock, BExit.outOf, puto_some, puto_none, put_eq, put_ne, Opd.ev, argEnv, op1_mov, op1_pick, op1_new, op1_box, op1_load, op1_nilck, op1_bin, op1_beq, op1_not, op1_neg, op1_conv, op1_lea, op1_fld, op1_len0, op1_len1, op1_idx, op1_ext, op1_build, op1_mk, op1_stw, op1_mksl, op1_eqs, pureBin, isShift, resOf, resVals, val_tmp, val_cell, oneOf, one_int, cells_int, one_bool, cells_bool, one_str, cells_str, one_nilp, cells_nilp, one_ptr, cells_ptr, one_nils, cells_nils, one_sl, cells_sl, one_sle, cells_sle, one_nilm, cells_nilm, one_mp, cells_mp, one_nilf, cells_nilf, one_fn, cells_fn, one_nili, cells_nili, cells_agg, isSl_sl, slen_sl, sat_sl, make_of, asm, rtOk, wpS_b2s, op1_b2s, op1_isnil, Option.map_some, gam_base, op1_app, make_of f1 b1]
  intro n2 b2 f2
  have ks := BH.keeps_set (H := H) (.arr 54 []) f1
  have ou' := OwnN.cells (bo := some b) (ov.keeps ks)
  rw [hv] at ou'
  have on1 : OwnN base (H.set n1 (.arr 54 [])) 54 4 (.sl n1 0 0) [] (some n1) := ⟨rfl, by rw [BH.row_set_eq]; rfl, b1, fun _ h => by cases h⟩
  obtain ⟨v', K', bo', h1, h2, h3, h4, h5, h6⟩ := appd_own (base := base) (bytes := 48) (nb := n2) ks (Fr.some f1) on1 ou' (encEs_all es) (encEs_one es) (by omega) (by simp; omega) (by simp; omega) f2 b2
  simp only [List.length_map] at h1
  simp [wpC_skip, wpC_region, wpC_seq, wpC_true, wpC_false, wpC_block, wpC_exit, wpC_ret, wpO_nil, wpO_n, wpO_tt, wpO_ff, wpO_tf, wpO_ft, wpO_u, wpS_mov, wpS_pick, wpS_build, wpS_load, wpS_store, wpS_nilck, wpS_bin, wpS_beq, wpS_isnil, wpS_eqs, wpS_not, wpS_neg, wpS_conv, wpS_lea, wpS_fld, wpS_idx, wpS_idxs, wpS_slice, wpS_sslice, wpS_mkfn, wpS_mset, wpS_look, wpS_ext, wpS_len, wpS_new, wpS_box, wpS_mk, wpS_mkmap, wpS_mksl, wpS_app, wpS_fn, wpS_call, after_some, Post.then, Post.inBlock, BExit.outOf, puto_some, puto_none, put_eq, put_ne, Opd.ev, argEnv, op1_mov, op1_pick, op1_new, op1_box, op1_load, op1_nilck, op1_bin, op1_beq, op1_not, op1_neg, op1_conv, op1_lea, op1_fld, op1_len0, op1_len1, op1_idx, op1_ext, op1_build, op1_mk, op1_stw, op1_mksl, op1_eqs, pureBin, isShift, resOf, resVals, val_tmp, val_cell, oneOf, one_int, cells_int, one_bool, cells_bool, one_str, cells_str, one_nilp, cells_nilp, one_ptr, cells_ptr, one_nils, cells_nils, one_sl, cells_sl, one_sle, cells_sle, one_nilm, cells_nilm, one_mp, cells_mp, one_nilf, cells_nilf, one_fn, cells_fn, one_nili, cells_nili, cells_agg, isSl_sl, slen_sl, sat_sl, make_of, asm, rtOk, wpS_b2s, op1_b2s, op1_isnil, Option.map_some, gam_base, op1_app, h1]
  exact ⟨h3, bo', by simpa using h2, h4⟩
end Go.Proofs.Ytkmlmkbpdldjgaa.W
