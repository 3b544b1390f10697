/-
Texts of our own, put together: L1, L2, L3, O1, M1, M2, M3, M4, M5, M6, M7, M8, M9.
-/
import Derived.Test.YtcnkhkmapgbodaaDoorK5
import Derived.Lib.SmallJoins
import Derived.Deep.Grids
import Derived.Deep.Matrix
import Derived.ChangeArms
import Derived.KernelRfl
section
namespace Go.Proofs.YtcnkhkmapgbodaaDoor.W
set_option linter.unusedVariables false
set_option linter.unusedSimpArgs false
open Go.B
variable {base : Nat}
attribute [local simp] wpC_skip wpC_region wpC_seq wpC_true wpC_false wpC_block wpC_exit wpC_ret wpO_nil wpO_n wpO_tt wpO_ff wpO_tf wpO_ft wpO_u wpS_mov wpS_pick wpS_build wpS_load wpS_store wpS_nilck wpS_bin wpS_beq wpS_isnil wpS_eqs wpS_not wpS_neg wpS_conv wpS_lea wpS_fld wpS_idx wpS_idxs wpS_slice wpS_sslice wpS_mkfn wpS_mset wpS_look wpS_ext wpS_len wpS_new wpS_box wpS_mk wpS_mkmap wpS_mksl wpS_app wpS_fn wpS_call after_some pthen_n pthen_x pthen_r pin BExit.outOf puto_some puto_none put_eq put_ne Opd.ev argEnv op1_mov op1_pick op1_new op1_box op1_load op1_nilck op1_bin op1_beq op1_not op1_neg op1_conv op1_lea op1_fld op1_len0 op1_len1 op1_idx op1_ext op1_build op1_mk op1_stw op1_mksl op1_eqs pureBin isShift resOf resVals val_tmp val_cell oneOf one_int cells_int one_bool cells_bool one_str cells_str one_nilp cells_nilp one_ptr cells_ptr one_nils cells_nils one_sl cells_sl one_sle cells_sle one_nilm cells_nilm one_mp cells_mp one_nilf cells_nilf one_fn cells_fn one_nili cells_nili cells_agg isSl_sl slen_sl sat_sl make_of asm rtOk wpS_b2s op1_b2s wpS_imax op1_imax op1_isnil Option.map_some gam_base op1_app op1_idxs wpS_idxa op1_idxa op1_sslice bound_none bound_some nat_of op1_mkmap op1_mset op1_look op1_len2 op1_mkfn fillB Has
open Go.Au
theorem z_bools {ty : Nat} (cs : List BV) (left : Int) (v : BV) (H : BH) (h : Rd H ty v cs) (h0 : 0 ≤ left) (h1 : left ≤ 1048576) (hn : cs.length ≤ 9223372036854775807) :
    ∃ z : Int, Runs (gam base) 23 [v, encI left] H (encI z) H ∧ z ≤ left ∧ -1 ≤ z ∧ (0 ≤ z → (cs.length : Int) ≤ left) := by
  have hw : IntKind.i64.wrap (left - (cs.length : Int)) = left - (cs.length : Int) := w64 (by omega) (by omega)
  by_cases hz : left - (cs.length : Int) < 0
  · refine ⟨-1, ?_, by omega, by omega, by omega⟩
    refine runs_of (fn := ir23) rfl ?_
    simp [ir23, h.isSl, h.len, hw, hz]
  · refine ⟨left - (cs.length : Int), ?_, by omega, by omega, by omega⟩
    refine runs_of (fn := ir23) rfl ?_
    simp [ir23, h.isSl, h.len, hw, hz]

theorem z_longs {ty : Nat} (cs : List BV) (left : Int) (v : BV) (H : BH) (h : Rd H ty v cs) (h0 : 0 ≤ left) (h1 : left ≤ 1048576) (hn : cs.length ≤ 9223372036854775807) :
    ∃ z : Int, Runs (gam base) 55 [v, encI left] H (encI z) H ∧ z ≤ left ∧ -1 ≤ z ∧ (0 ≤ z → (cs.length : Int) ≤ left) := by
  have hw : IntKind.i64.wrap (left - (cs.length : Int)) = left - (cs.length : Int) := w64 (by omega) (by omega)
  by_cases hz : left - (cs.length : Int) < 0
  · refine ⟨-1, ?_, by omega, by omega, by omega⟩
    refine runs_of (fn := ir55) rfl ?_
    simp [ir55, h.isSl, h.len, hw, hz]
  · refine ⟨left - (cs.length : Int), ?_, by omega, by omega, by omega⟩
    refine runs_of (fn := ir55) rfl ?_
    simp [ir55, h.isSl, h.len, hw, hz]

/-- Rows that are read, of any kind each. -/
def RdQ {α : Type} (H : BH) (ty : Nat) (v : BV) (f : α → BV) (xss : List (List α)) : Prop := ∃ vs : List BV, Rd H ty v vs ∧ vs.length = xss.length ∧ ∀ (i : Nat) (u : BV) (xs : List α), vs[i]? = some u → xss[i]? = some xs → ∃ ty2, Rd H ty2 u (xs.map f)
section
variable {α : Type} {H K : BH} {ty : Nat} {v : BV} {f : α → BV} {xss : List (List α)}
theorem RdQ.keeps (h : RdQ H ty v f xss) (k : H.Keeps K) : RdQ K ty v f xss := by
  obtain ⟨vs, h1, h2, h3⟩ := h
  exact ⟨vs, h1.keeps k, h2, fun i u xs hu hx => (h3 i u xs hu hx).imp fun _ g => g.keeps k⟩
theorem RdQ.isSl (h : RdQ H ty v f xss) : v.isSl = true := by
  obtain ⟨vs, h1, h2, h3⟩ := h
  exact h1.isSl
theorem RdQ.len (h : RdQ H ty v f xss) : v.slen = xss.length := by
  obtain ⟨vs, h1, h2, h3⟩ := h
  rw [Rd.len h1, h2]
theorem RdQ.at (h : RdQ H ty v f xss) {i : Nat} (hi : i < xss.length) : ∃ u, (∃ ty2, Rd H ty2 u (xss[i].map f)) ∧ ∀ (rt : Option Nat), rtOk rt ty = true → H.rd rt none (v.sat i 1) = some u := by
  obtain ⟨vs, h1, h2, h3⟩ := h
  have hi' : i < vs.length := by omega
  refine ⟨vs[i], h3 i _ _ (List.getElem?_eq_getElem hi') (List.getElem?_eq_getElem hi), fun rt hrt => ?_⟩
  refine Sls.rd1 h1 (i := i) (c := vs[i]) ?_ hrt
  simp [hi']
theorem RdQ.cells (h : RdQ H ty v f xss) : RdQ H ty v (fun c => c) (xss.map (·.map f)) := by
  obtain ⟨vs, h1, h2, h3⟩ := h
  refine ⟨vs, h1, by simpa using h2, fun i u xs hu hx => ?_⟩
  rw [List.getElem?_map, Option.map_eq_some_iff] at hx
  obtain ⟨ys, hys, rfl⟩ := hx
  rw [List.map_id']
  exact h3 i u ys hu hys
end
theorem z_rows (xss : List (List BV)) (left : Int) (v : BV) (H : BH) {ty : Nat} (h : RdQ H ty v (fun c => c) xss) (h0 : 0 ≤ left) (h1 : left ≤ 1048576) (hn : xss.length ≤ 9223372036854775807) (hr : ∀ xs ∈ xss, xs.length ≤ 9223372036854775807) :
    ∃ z : Int, Runs (gam base) 24 [v, encI left] H (encI z) H ∧ z ≤ left ∧ (0 ≤ z → (xss.length : Int) ≤ left ∧ ∀ xs ∈ xss, (xs.length : Int) ≤ left) := by
  obtain ⟨R, hR⟩ : ∃ R : Int → Prop, R = fun z => z ≤ left ∧ (0 ≤ z → (xss.length : Int) ≤ left ∧ ∀ xs ∈ xss, (xs.length : Int) ≤ left) := ⟨_, rfl⟩
  suffices hh : FnDoes (gam base) 24 [v, encI left] H fun u K => K = H ∧ ∃ z, u = encI z ∧ R z by
    obtain ⟨u, K, r1, r2, rfl, z, rfl, r3⟩ := hh
    rw [hR] at r3
    exact ⟨z, r1, r3⟩
  refine FnDoes.of (fn := ir24) rfl ?_
  have hw : IntKind.i64.wrap (left - (xss.length : Int)) = left - (xss.length : Int) := w64 (by omega) (by omega)
  have hl := h.len
  by_cases hz : left - (xss.length : Int) < 0
  · simp [ir24, h.isSl, hl, hw, hz]
    rw [hR]
    exact ⟨BH.Keeps.refl _, by omega, fun h => by omega⟩
  · simp [ir24, h.isSl, hl, hw, hz]
    obtain ⟨I, hI⟩ : ∃ I : Nat → Env → BH → Prop, I = (fun i e K => e 5 = encN i ∧ K = H ∧ ∃ l : Int, e 1 = encI l ∧ 0 ≤ l ∧ l ≤ left ∧ ∀ j xs, j < i → xss[j]? = some xs → (xs.length : Int) ≤ left) := ⟨_, rfl⟩
    refine wpC_countK xss.length [(0, v)] I (i0 := 0) ?_ ?_ ?_ (Nat.zero_le _) ?_
    · rfl
    · simp
    · rw [hI]
      exact ⟨by simp, rfl, left - (xss.length : Int), by simp, by omega, by omega, fun j xs hj => by omega⟩
    rintro i e K hi ⟨e0, -⟩ hh
    rw [hI] at hh
    obtain ⟨e5, rfl, l, e1, hl0, hl1, hrs⟩ := hh
    simp only [] at e0
    have wi := wS (n := i) (by omega)
    by_cases hlt : i < xss.length
    · obtain ⟨ri, ⟨tq, hri⟩, hrr⟩ := h.at hlt
      have hrr := hrr none rfl
      rw [List.map_id'] at hri
      obtain ⟨z, c1, c2, c3, c4⟩ := z_longs (base := base) xss[i] l ri K hri hl0 (by omega) (hr _ (List.getElem_mem hlt))
      simp [e0, e5, h.isSl, hl, hlt, hrr, e1]
      refine callP c1 ?_
      by_cases hz2 : z < 0
      · simp [hz2]
        rw [hR]
        exact ⟨BH.Keeps.refl _, by omega, fun h => by omega⟩
      · simp [hz2, e5, wi, hlt]
        rw [hI]
        refine ⟨by simp, rfl, z, by simp, by omega, by omega, fun j xs hj hg => ?_⟩
        by_cases hji : j = i
        · subst hji
          rw [List.getElem?_eq_getElem hlt] at hg
          simp at hg
          subst hg
          have := c4 (by omega)
          omega
        · exact hrs j xs (by omega) hg
    · have hie : i = xss.length := by omega
      simp [e0, e5, h.isSl, hl, hlt, e1]
      rw [hR]
      refine ⟨BH.Keeps.refl _, hl1, fun _ => ⟨by omega, fun xs hxs => ?_⟩⟩
      obtain ⟨j, hj⟩ := List.getElem?_of_mem hxs
      exact hrs j xs (by have := (List.getElem?_eq_some_iff.1 hj).1; omega) hj
/-- A relation of the laws. -/
def RdL (H : BH) (T S : Int) (acc : List Bool) (rows : List (List Int)) (m : BV) : Prop := ∃ u w tb tw, m = .agg [.int .i64 T, .int .i64 S, u, w] ∧ Rd H tb u (acc.map encB) ∧ RdQ H tw w encI rows
theorem RdL.keeps {H K : BH} {T S : Int} {acc : List Bool} {rows : List (List Int)} {m : BV} (h : RdL H T S acc rows m) (k : H.Keeps K) : RdL K T S acc rows m := by
  obtain ⟨u, w, tb, tw, h1, h2, h3⟩ := h
  exact ⟨u, w, tb, tw, h1, h2.keeps k, h3.keeps k⟩
theorem z_rel (T S : Int) (acc : List Bool) (rows : List (List Int)) (m : BV) (H : BH) (h : RdL H T S acc rows m) (hn1 : acc.length ≤ 9223372036854775807) (hn : rows.length ≤ 9223372036854775807) (hr : ∀ xs ∈ rows, xs.length ≤ 9223372036854775807) :
    FnDoes (gam base) 7 [m, encI 1048576] H fun v _ => ∃ z : Int, v = encI z ∧ (0 ≤ z → acc.length ≤ 1048576 ∧ rows.length ≤ 1048576 ∧ ∀ xs ∈ rows, xs.length ≤ 1048576) := by
  refine FnDoes.of (fn := ir7) rfl ?_
  obtain ⟨u, x, tb, tw, rfl, hu, hx⟩ := h
  have u1 := hu.one
  have x1 := one_of_isSl hx.isSl
  simp [ir7, u1, x1]
  intro n1 b1 f1
  have o1 := Own.start (base := base) (H := H) |>.new f1 b1 (s := .arr 25 [.int .i64 T, .int .i64 S, u, x])
  have r2 := rd_ptr (o1.at 0 (b := n1) rfl) (rt := none) (j := 2) (c := u) rfl rfl
  have r3 := rd_ptr (o1.at 0 (b := n1) rfl) (rt := none) (j := 3) (c := x) rfl rfl
  obtain ⟨z, c1, c2, c3, c4⟩ := z_bools (base := base) (acc.map encB) 1048576 u _ (hu.keeps o1.keeps) (by omega) (by omega) (by simpa using hn1)
  simp [make_of f1 b1, r2]
  refine callP c1 ?_
  by_cases hz : z < 0
  · simp [hz]
    exact o1.keeps
  · obtain ⟨z2, d1, d2, d3⟩ := z_rows (base := base) (rows.map (·.map encI)) z x _ (RdQ.cells (hx.keeps o1.keeps)) (by omega) (by omega) (by simpa using hn) (fun xs hxs => by
      obtain ⟨r, hr', rfl⟩ := List.mem_map.1 hxs
      rw [List.length_map]
      exact hr r hr')
    simp [hz, r3]
    refine callP d1 ?_
    by_cases hz2 : z2 < 0
    · simp [hz2]
      exact o1.keeps
    · simp [hz2]
      refine ⟨o1.keeps, fun h0 => ?_⟩
      obtain ⟨k1, k2⟩ := d3 h0
      have k3 := c4 (by omega)
      rw [List.length_map] at k1 k3
      refine ⟨by omega, by omega, fun xs hxs => ?_⟩
      have := k2 (xs.map encI) (List.mem_map.2 ⟨xs, hxs, rfl⟩)
      rw [List.length_map] at this
      omega
end Go.Proofs.YtcnkhkmapgbodaaDoor.W
end

section
namespace Go.Proofs.YtcnkhkmapgbodaaDoor.W
set_option linter.unusedVariables false
set_option linter.unusedSimpArgs false
open Go.B
variable {base : Nat}
attribute [local simp] wpC_skip wpC_region wpC_seq wpC_true wpC_false wpC_block wpC_exit wpC_ret wpO_nil wpO_n wpO_tt wpO_ff wpO_tf wpO_ft wpO_u wpS_mov wpS_pick wpS_build wpS_load wpS_store wpS_nilck wpS_bin wpS_beq wpS_isnil wpS_eqs wpS_not wpS_neg wpS_conv wpS_lea wpS_fld wpS_idx wpS_idxs wpS_slice wpS_sslice wpS_mkfn wpS_mset wpS_look wpS_ext wpS_len wpS_new wpS_box wpS_mk wpS_mkmap wpS_mksl wpS_app wpS_fn wpS_call after_some pthen_n pthen_x pthen_r pin BExit.outOf puto_some puto_none put_eq put_ne Opd.ev argEnv op1_mov op1_pick op1_new op1_box op1_load op1_nilck op1_bin op1_beq op1_not op1_neg op1_conv op1_lea op1_fld op1_len0 op1_len1 op1_idx op1_ext op1_build op1_mk op1_stw op1_mksl op1_eqs pureBin isShift resOf resVals val_tmp val_cell oneOf one_int cells_int one_bool cells_bool one_str cells_str one_nilp cells_nilp one_ptr cells_ptr one_nils cells_nils one_sl cells_sl one_sle cells_sle one_nilm cells_nilm one_mp cells_mp one_nilf cells_nilf one_fn cells_fn one_nili cells_nili cells_agg isSl_sl slen_sl sat_sl make_of asm rtOk wpS_b2s op1_b2s wpS_imax op1_imax op1_isnil Option.map_some gam_base op1_app op1_idxs wpS_idxa op1_idxa op1_sslice bound_none bound_some nat_of op1_mkmap op1_mset op1_look op1_len2 op1_mkfn fillB Has
open Go.Au
/-- A row that is filled. -/
def fillB (cs : List BV) (z : BV) (i : Nat) : List BV := cs.take i ++ List.replicate (cs.length - i) z
theorem fillB_len {cs : List BV} {z : BV} {i : Nat} (h : i ≤ cs.length) : (fillB cs z i).length = cs.length := by simp [fillB]; omega
theorem fillB_zero (cs : List BV) (z : BV) : fillB cs z 0 = List.replicate cs.length z := by simp [fillB]
theorem fillB_all (cs : List BV) (z : BV) : fillB cs z cs.length = cs := by simp [fillB]
theorem fillB_set {cs : List BV} {z : BV} {i : Nat} (h : i < cs.length) : (fillB cs z i).set i cs[i] = fillB cs z (i + 1) := by
  unfold fillB
  rw [List.set_append_right _ _ (by simp; omega), show cs.length - i = (cs.length - (i + 1)) + 1 by omega, List.replicate_succ]
  have : i - (cs.take i).length = 0 := by simp; omega
  have e : cs.take (i + 1) = cs.take i ++ [cs[i]] := by rw [List.take_add_one, List.getElem?_eq_getElem h]; rfl
  rw [this, e, List.append_assoc]
  rfl
theorem t_bools {ty : Nat} (cs : List BV) (v : BV) (H : BH) (h : Rd H ty v cs) (hone : ∀ c ∈ cs, c.one = true) (hn : cs.length ≤ 1048576) :
    FnDoes (gam base) 27 [v] H fun v' K => ∃ b, v' = .sl b 0 cs.length ∧ Own base H K [(some b, .arr 4 cs)] := by
  obtain ⟨R, hR⟩ : ∃ R : BV → BH → Prop, R = fun v' K => ∃ b, v' = .sl b 0 cs.length ∧ Own base H K [(some b, .arr 4 cs)] := ⟨_, rfl⟩
  rw [← hR]
  refine FnDoes.of (fn := ir27) rfl ?_
  obtain ⟨n, hnn⟩ : ∃ n, n = cs.length := ⟨_, rfl⟩
  have hl := h.len
  rw [← hnn] at hl
  have c1 : (n : Int) ≤ 140737488355328 := by omega
  have c8 : 8 * (n : Int) ≤ 140737488355328 := by omega
  simp [ir27, h.isSl, hl, c1, c8]
  intro n3 b3 f3
  have o0 := Own.start (base := base) (H := H) |>.new f3 b3 (s := .arr 4 (List.replicate n (BV.bool false)))
  simp [make_of f3 b3]
  obtain ⟨I, hI⟩ : ∃ I : Nat → Env → BH → Prop, I = (fun i e K => e 4 = encN i ∧ Own base H K [(some n3, .arr 4 (fillB cs (BV.bool false) i))]) := ⟨_, rfl⟩
  refine wpC_countK n [(0, v), (3, .sl n3 0 n)] I (i0 := 0) ?_ ?_ ?_ (Nat.zero_le _) ?_
  · rfl
  · simp
  · rw [hI]
    refine ⟨by simp, ?_⟩
    rw [fillB_zero, ← hnn]
    exact o0
  clear o0
  rintro i e K hi ⟨e0, e3, -⟩ hh
  rw [hI] at hh
  obtain ⟨e4, o⟩ := hh
  simp only [] at e0 e3
  have wi := wS (n := i) (by omega)
  by_cases hlt : i < n
  · have hic : i < cs.length := by omega
    have hg := (h.keeps o.keeps).get hic (rt := none) rfl
    obtain ⟨K5, g5, o5⟩ := o.put 0 (b := n3) rfl (j := i) (u := cs[i]) (by rw [fillB_len (by omega)]; exact hic) (hone _ (List.getElem_mem hic)) (rt := none) rfl
    simp [e0, e3, e4, h.isSl, hl, hlt, hg, g5, wi]
    rw [hI]
    refine ⟨by simp, ?_⟩
    rw [← fillB_set hic]
    exact o5
  · have hie : i = n := by omega
    simp [e0, e3, e4, h.isSl, hl, hlt]
    rw [hR]
    rw [hie, hnn, fillB_all] at o
    exact ⟨o.keeps, n3, by rw [hnn], o⟩

theorem t_longs {ty : Nat} (cs : List BV) (v : BV) (H : BH) (h : Rd H ty v cs) (hone : ∀ c ∈ cs, c.one = true) (hn : cs.length ≤ 1048576) :
    FnDoes (gam base) 17 [v] H fun v' K => ∃ b, v' = .sl b 0 cs.length ∧ Own base H K [(some b, .arr 2 cs)] := by
  obtain ⟨R, hR⟩ : ∃ R : BV → BH → Prop, R = fun v' K => ∃ b, v' = .sl b 0 cs.length ∧ Own base H K [(some b, .arr 2 cs)] := ⟨_, rfl⟩
  rw [← hR]
  refine FnDoes.of (fn := ir17) rfl ?_
  obtain ⟨n, hnn⟩ : ∃ n, n = cs.length := ⟨_, rfl⟩
  have hl := h.len
  rw [← hnn] at hl
  have c1 : (n : Int) ≤ 140737488355328 := by omega
  have c8 : 8 * (n : Int) ≤ 140737488355328 := by omega
  simp [ir17, h.isSl, hl, c1, c8]
  intro n3 b3 f3
  have o0 := Own.start (base := base) (H := H) |>.new f3 b3 (s := .arr 2 (List.replicate n (BV.int .i64 0)))
  simp [make_of f3 b3]
  obtain ⟨I, hI⟩ : ∃ I : Nat → Env → BH → Prop, I = (fun i e K => e 4 = encN i ∧ Own base H K [(some n3, .arr 2 (fillB cs (BV.int .i64 0) i))]) := ⟨_, rfl⟩
  refine wpC_countK n [(0, v), (3, .sl n3 0 n)] I (i0 := 0) ?_ ?_ ?_ (Nat.zero_le _) ?_
  · rfl
  · simp
  · rw [hI]
    refine ⟨by simp, ?_⟩
    rw [fillB_zero, ← hnn]
    exact o0
  clear o0
  rintro i e K hi ⟨e0, e3, -⟩ hh
  rw [hI] at hh
  obtain ⟨e4, o⟩ := hh
  simp only [] at e0 e3
  have wi := wS (n := i) (by omega)
  by_cases hlt : i < n
  · have hic : i < cs.length := by omega
    have hg := (h.keeps o.keeps).get hic (rt := none) rfl
    obtain ⟨K5, g5, o5⟩ := o.put 0 (b := n3) rfl (j := i) (u := cs[i]) (by rw [fillB_len (by omega)]; exact hic) (hone _ (List.getElem_mem hic)) (rt := none) rfl
    simp [e0, e3, e4, h.isSl, hl, hlt, hg, g5, wi]
    rw [hI]
    refine ⟨by simp, ?_⟩
    rw [← fillB_set hic]
    exact o5
  · have hie : i = n := by omega
    simp [e0, e3, e4, h.isSl, hl, hlt]
    rw [hR]
    rw [hie, hnn, fillB_all] at o
    exact ⟨o.keeps, n3, by rw [hnn], o⟩

def fillV (vs : List BV) (n : Nat) : List BV := vs ++ List.replicate (n - vs.length) .nils
theorem fillV_set {vs : List BV} {n : Nat} {v : BV} (h : vs.length < n) : (fillV vs n).set vs.length v = fillV (vs ++ [v]) n := by
  unfold fillV
  rw [List.set_append_right _ _ (by omega), Nat.sub_self, show n - vs.length = (n - (vs.length + 1)) + 1 by omega, List.replicate_succ]
  simp
theorem t_rows {ty : Nat} (xss : List (List BV)) (v : BV) (H : BH) (h : RdQ H ty v (fun c => c) xss) (hone : ∀ xs ∈ xss, ∀ c ∈ xs, c.one = true) (hn : xss.length ≤ 1048576) (hr : ∀ xs ∈ xss, xs.length ≤ 1048576) :
    FnDoes (gam base) 28 [v] H fun v' K => ∃ b vs fr, v' = .sl b 0 vs.length ∧ Own base H K ((some b, .arr 37 vs) :: fr) ∧ RowsOf 2 vs fr xss := by
  obtain ⟨R, hR⟩ : ∃ R : BV → BH → Prop, R = fun v' K => ∃ b vs fr, v' = .sl b 0 vs.length ∧ Own base H K ((some b, .arr 37 vs) :: fr) ∧ RowsOf 2 vs fr xss := ⟨_, rfl⟩
  rw [← hR]
  refine FnDoes.of (fn := ir28) rfl ?_
  obtain ⟨n, hnn⟩ : ∃ n, n = xss.length := ⟨_, rfl⟩
  have hl := h.len
  rw [← hnn] at hl
  have c1 : (n : Int) ≤ 140737488355328 := by omega
  have c8 : 24 * (n : Int) ≤ 140737488355328 := by omega
  simp [ir28, h.isSl, hl, c1, c8]
  intro n3 b3 f3
  have o0 := Own.start (base := base) (H := H) |>.new f3 b3 (s := .arr 37 (List.replicate n .nils))
  simp [make_of f3 b3]
  obtain ⟨I, hI⟩ : ∃ I : Nat → Env → BH → Prop, I = (fun i e K => e 4 = encN i ∧ ∃ vs fr, vs.length = i ∧ Own base H K ([(some n3, .arr 37 (fillV vs n))] ++ fr) ∧ RowsOf 2 vs fr (xss.take i)) := ⟨_, rfl⟩
  refine wpC_countK n [(0, v), (3, .sl n3 0 n)] I (i0 := 0) ?_ ?_ ?_ (Nat.zero_le _) ?_
  · rfl
  · simp
  · rw [hI]
    refine ⟨by simp, [], [], rfl, ?_, by simp [RowsOf]⟩
    simpa [fillV] using o0
  clear o0
  rintro i e K hi ⟨e0, e3, -⟩ hh
  rw [hI] at hh
  obtain ⟨e4, vs, fr, hvs, o, hrows⟩ := hh
  simp only [] at e0 e3
  have wi := wS (n := i) (by omega)
  by_cases hlt : i < n
  · have hic : i < xss.length := by omega
    obtain ⟨ri, ⟨tq, hri⟩, hrr⟩ := (h.keeps o.keeps).at hic
    have hrr := hrr none rfl
    rw [List.map_id'] at hri
    simp [e0, e4, h.isSl, hl, hlt, hrr]
    refine (t_longs (base := base) xss[i] ri K hri (hone _ (List.getElem_mem hic)) (hr _ (List.getElem_mem hic))).step fun v' K1 k1 hv => ?_
    obtain ⟨b, rfl, o2⟩ := hv
    have oj := Own.join o k1 o2
    obtain ⟨K5, g5, o5⟩ := oj.put 0 (b := n3) rfl (j := i) (u := .sl b 0 xss[i].length) (by unfold fillV; simp; omega) rfl (rt := none) rfl
    simp [e3, hlt, g5, e4, wi]
    rw [hI]
    refine ⟨by simp, vs ++ [.sl b 0 xss[i].length], fr ++ [(some b, .arr 2 xss[i])], by simp [hvs], ?_, ?_⟩
    · rw [← fillV_set (by omega), hvs]
      simpa using o5
    · rw [List.take_add_one, List.getElem?_eq_getElem hic]
      exact hrows.snoc (bo := some b) (v := .sl b 0 xss[i].length) (xs := xss[i]) rfl
  · have hie : i = n := by omega
    simp [e0, e3, e4, h.isSl, hl, hlt]
    rw [hR]
    refine ⟨o.keeps, n3, vs, fr, by rw [hvs, hie], ?_, ?_⟩
    · have : fillV vs n = vs := by unfold fillV; simp; omega
      rw [this] at o
      exact o
    · rw [hie, hnn, List.take_length] at hrows
      exact hrows
theorem t_rel (T S : Int) (acc : List Bool) (rows : List (List Int)) (m : BV) (H : BH) (h : RdL H T S acc rows m) (hn1 : acc.length ≤ 1048576) (hn : rows.length ≤ 1048576) (hr : ∀ xs ∈ rows, xs.length ≤ 1048576) :
    FnDoes (gam base) 9 [m] H fun v K => RdRaw K T S acc rows v := by
  refine FnDoes.of (fn := ir9) rfl ?_
  obtain ⟨u, x, tb, tw, rfl, hu, hx⟩ := h
  have u1 := hu.one
  have x1 := one_of_isSl hx.isSl
  simp [ir9, u1, x1]
  intro n1 b1 f1
  simp [make_of f1 b1]
  intro n2 b2 f2
  simp [make_of f2 b2]
  intro n3 b3 f3
  have o1 := Own.start (base := base) (H := H) |>.new f1 b1 (s := .arr 25 [.int .i64 T, .int .i64 S, u, x]) |>.new f2 b2 (s := .arr 29 [.int .i64 0, .int .i64 0, .nils, .nils]) |>.new f3 b3 (s := .arr 29 [.int .i64 0, .int .i64 0, .nils, .nils])
  have r0 := rd_ptr (o1.at 2 (b := n1) rfl) (rt := none) (j := 0) (c := encI T) rfl rfl
  obtain ⟨K1, g1, o2⟩ := o1.put 0 (b := n3) rfl (j := 0) (u := encI T) (by simp) rfl (rt := none) rfl
  have r1 := rd_ptr (o2.at 2 (b := n1) rfl) (rt := none) (j := 1) (c := encI S) rfl rfl
  obtain ⟨K2, g2, o3⟩ := o2.put 0 (b := n3) rfl (j := 1) (u := encI S) (by simp) rfl (rt := none) rfl
  have r2 := rd_ptr (o3.at 2 (b := n1) rfl) (rt := none) (j := 2) (c := u) rfl rfl
  simp [make_of f3 b3, r0, g1, r1, g2, r2]
  refine (t_bools (base := base) (acc.map encB) u _ (hu.keeps o3.keeps) (fun c hc => by
      obtain ⟨q, _, rfl⟩ := List.mem_map.1 hc
      rfl) (by simpa using hn1)).step fun v K3 k3 hv => ?_
  obtain ⟨b, rfl, o4⟩ := hv
  have oj := Own.join o3 k3 o4
  obtain ⟨K4, g4, o5⟩ := oj.put 0 (b := n3) rfl (j := 2) (u := .sl b 0 (acc.map encB).length) (by simp) rfl (rt := none) rfl
  have r3 := rd_ptr (o5.at 2 (b := n1) rfl) (rt := none) (j := 3) (c := x) rfl rfl
  simp only [List.length_map] at g4
  simp [g4, r3]
  refine (t_rows (base := base) (rows.map (·.map encI)) x _ (RdQ.cells (hx.keeps o5.keeps)) (fun xs hxs c hc => by
      obtain ⟨r, _, rfl⟩ := List.mem_map.1 hxs
      obtain ⟨q, _, rfl⟩ := List.mem_map.1 hc
      rfl) (by simpa using hn) (fun xs hxs => by
      obtain ⟨r, hr', rfl⟩ := List.mem_map.1 hxs
      rw [List.length_map]
      exact hr r hr')).step fun v K5 k5 hv => ?_
  obtain ⟨c, vs, fr, rfl, o6, hrows⟩ := hv
  have oj2 := Own.join o5 k5 o6
  obtain ⟨K6, g6, o7⟩ := oj2.put 0 (b := n3) rfl (j := 3) (u := .sl c 0 vs.length) (by simp) rfl (rt := none) rfl
  have r9 := rd_all (o7.at 0 (b := n3) rfl) (n := 4) (rt := none) rfl rfl
  obtain ⟨K7, g7, o8⟩ := o7.putAll 1 (b := n2) (n := 4) (ds := [encI T, encI S, .sl b 0 acc.length, .sl c 0 vs.length]) rfl rfl rfl rfl (rt := none) rfl
  have r10 := rd_all (o8.at 1 (b := n2) rfl) (n := 4) (rt := none) rfl rfl
  simp [g6, r9, g7, r10]
  refine ⟨o8.keeps, _, _, rfl, o8.rd 3 (bo := some b) rfl (by simp [Vec]), ?_⟩
  have o9 := o8.drop 4
  exact RowsOf.rdR (bo := some c) (F := [(some c, .arr 37 vs)]) o9 hrows (o9.rd 0 rfl rfl)
end Go.Proofs.YtcnkhkmapgbodaaDoor.W
end

section
namespace Go.Proofs.YtcnkhkmapgbodaaDoor.W
set_option linter.unusedVariables false
set_option linter.unusedSimpArgs false
open Go.B
variable {base : Nat}
attribute [local simp] wpC_skip wpC_region wpC_seq wpC_true wpC_false wpC_block wpC_exit wpC_ret wpO_nil wpO_n wpO_tt wpO_ff wpO_tf wpO_ft wpO_u wpS_mov wpS_pick wpS_build wpS_load wpS_store wpS_nilck wpS_bin wpS_beq wpS_isnil wpS_eqs wpS_not wpS_neg wpS_conv wpS_lea wpS_fld wpS_idx wpS_idxs wpS_slice wpS_sslice wpS_mkfn wpS_mset wpS_look wpS_ext wpS_len wpS_new wpS_box wpS_mk wpS_mkmap wpS_mksl wpS_app wpS_fn wpS_call after_some pthen_n pthen_x pthen_r pin BExit.outOf puto_some puto_none put_eq put_ne Opd.ev argEnv op1_mov op1_pick op1_new op1_box op1_load op1_nilck op1_bin op1_beq op1_not op1_neg op1_conv op1_lea op1_fld op1_len0 op1_len1 op1_idx op1_ext op1_build op1_mk op1_stw op1_mksl op1_eqs pureBin isShift resOf resVals val_tmp val_cell oneOf one_int cells_int one_bool cells_bool one_str cells_str one_nilp cells_nilp one_ptr cells_ptr one_nils cells_nils one_sl cells_sl one_sle cells_sle one_nilm cells_nilm one_mp cells_mp one_nilf cells_nilf one_fn cells_fn one_nili cells_nili cells_agg isSl_sl slen_sl sat_sl make_of asm rtOk wpS_b2s op1_b2s wpS_imax op1_imax op1_isnil Option.map_some gam_base op1_app op1_idxs wpS_idxa op1_idxa op1_sslice bound_none bound_some nat_of op1_mkmap op1_mset op1_look op1_len2 op1_mkfn fillB Has
open Go.Au
theorem q_bools (bs : List Bool) (v w : BV) (H : BH) {ty ty2 : Nat} (h : Rd H ty v (bs.map encB)) (k : Rd H ty2 w (bs.map encB)) (hn : bs.length ≤ 4611686018427387904) :
    Runs (gam base) 31 [v, w] H (.bool true) H := by
  refine runs_of (fn := ir31) rfl ?_
  simp [ir31, h.isSl, h.lenM, k.isSl, k.lenM]
  refine wpC_countK bs.length [(0, v), (1, w)] (fun i e K => e 5 = encN i ∧ K = H) (i0 := 0) ?_ ?_ ?_ (Nat.zero_le _) ?_
  · rfl
  · simp
  · exact ⟨by simp, rfl⟩
  rintro i e K hi ⟨e0, e1, -⟩ ⟨e5, rfl⟩
  simp only [] at e0 e1
  have wi := wS (n := i) (by omega)
  by_cases hlt : i < bs.length
  · have g1 := h.at hlt (rt := none) rfl
    have g2 := k.at hlt (rt := none) rfl
    simp [e0, e1, e5, h.isSl, h.lenM, k.isSl, k.lenM, hlt, g1, g2, wi]
  · simp [e0, e1, e5, h.isSl, h.lenM, k.isSl, k.lenM, hlt]
theorem q_longs (bs : List Int) (v w : BV) (H : BH) {ty ty2 : Nat} (h : Rd H ty v (bs.map encI)) (k : Rd H ty2 w (bs.map encI)) (hn : bs.length ≤ 4611686018427387904) :
    Runs (gam base) 19 [v, w] H (.bool true) H := by
  refine runs_of (fn := ir19) rfl ?_
  simp [ir19, h.isSl, h.lenM, k.isSl, k.lenM]
  refine wpC_countK bs.length [(0, v), (1, w)] (fun i e K => e 5 = encN i ∧ K = H) (i0 := 0) ?_ ?_ ?_ (Nat.zero_le _) ?_
  · rfl
  · simp
  · exact ⟨by simp, rfl⟩
  rintro i e K hi ⟨e0, e1, -⟩ ⟨e5, rfl⟩
  simp only [] at e0 e1
  have wi := wS (n := i) (by omega)
  by_cases hlt : i < bs.length
  · have g1 := h.at hlt (rt := none) rfl
    have g2 := k.at hlt (rt := none) rfl
    simp [e0, e1, e5, h.isSl, h.lenM, k.isSl, k.lenM, hlt, g1, g2, wi]
  · simp [e0, e1, e5, h.isSl, h.lenM, k.isSl, k.lenM, hlt]
theorem q_rows (rows : List (List Int)) (v w : BV) (H : BH) {ty ty2 tz tz2 : Nat} (h : RdR H ty ty2 v encI rows) (k : RdR H tz tz2 w encI rows) (hn : rows.length ≤ 4611686018427387904) (hr : ∀ r ∈ rows, r.length ≤ 4611686018427387904) :
    Runs (gam base) 32 [v, w] H (.bool true) H := by
  refine runs_of (fn := ir32) rfl ?_
  simp [ir32, h.isSl, h.len, k.isSl, k.len]
  refine wpC_countK rows.length [(0, v), (1, w)] (fun i e K => e 5 = encN i ∧ K = H) (i0 := 0) ?_ ?_ ?_ (Nat.zero_le _) ?_
  · rfl
  · simp
  · exact ⟨by simp, rfl⟩
  rintro i e K hi ⟨e0, e1, -⟩ ⟨e5, rfl⟩
  simp only [] at e0 e1
  have wi := wS (n := i) (by omega)
  by_cases hlt : i < rows.length
  · obtain ⟨ri, hri, hrr⟩ := h.at hlt
    obtain ⟨rj, hrj, hrk⟩ := k.at hlt
    have hrr := hrr none rfl
    have hrk := hrk none rfl
    simp [e0, e1, e5, h.isSl, h.len, k.isSl, k.len, hlt, hrr, hrk]
    refine callP (q_longs (base := base) rows[i] ri rj K hri hrj (hr _ (List.getElem_mem hlt))) ?_
    simp [e5, wi, hlt]
  · simp [e0, e1, e5, h.isSl, h.len, k.isSl, k.len, hlt]
theorem q_rel (T S : Int) (acc : List Bool) (rows : List (List Int)) (m m2 : BV) (H : BH) (h : RdRaw H T S acc rows m) (k : RdRaw H T S acc rows m2) (hn1 : acc.length ≤ 4611686018427387904) (hn : rows.length ≤ 4611686018427387904) (hr : ∀ r ∈ rows, r.length ≤ 4611686018427387904) :
    FnDoes (gam base) 11 [m, m2] H fun v _ => v = .bool true := by
  refine FnDoes.of (fn := ir11) rfl ?_
  obtain ⟨u, x, rfl, hu, hx⟩ := h
  obtain ⟨u', x', rfl, hu', hx'⟩ := k
  have u1 := hu.one
  have x1 := one_of_isSl hx.isSl
  have u1' := hu'.one
  have x1' := one_of_isSl hx'.isSl
  simp [ir11, u1, x1, u1', x1']
  intro n2 b2 f2
  simp [make_of f2 b2, u1', x1']
  intro n3 b3 f3
  have o1 := Own.start (base := base) (H := H) |>.new f2 b2 (s := .arr 29 [.int .i64 T, .int .i64 S, u, x]) |>.new f3 b3 (s := .arr 29 [.int .i64 T, .int .i64 S, u', x'])
  have p0 := rd_ptr (o1.at 1 (b := n2) rfl) (rt := none) (j := 0) (c := encI T) rfl rfl
  have p1 := rd_ptr (o1.at 1 (b := n2) rfl) (rt := none) (j := 1) (c := encI S) rfl rfl
  have p2 := rd_ptr (o1.at 1 (b := n2) rfl) (rt := none) (j := 2) (c := u) rfl rfl
  have p3 := rd_ptr (o1.at 1 (b := n2) rfl) (rt := none) (j := 3) (c := x) rfl rfl
  have q0 := rd_ptr (o1.at 0 (b := n3) rfl) (rt := none) (j := 0) (c := encI T) rfl rfl
  have q1 := rd_ptr (o1.at 0 (b := n3) rfl) (rt := none) (j := 1) (c := encI S) rfl rfl
  have q2 := rd_ptr (o1.at 0 (b := n3) rfl) (rt := none) (j := 2) (c := u') rfl rfl
  have q3 := rd_ptr (o1.at 0 (b := n3) rfl) (rt := none) (j := 3) (c := x') rfl rfl
  simp [make_of f3 b3, p0, p1, p2, q0, q1, q2]
  refine callP (q_bools (base := base) acc u u' _ (hu.keeps o1.keeps) (hu'.keeps o1.keeps) hn1) ?_
  simp [p3, q3]
  refine callP (q_rows (base := base) rows x x' _ (hx.keeps o1.keeps) (hx'.keeps o1.keeps) hn hr) ?_
  simp
  exact o1.keeps
/-- The law. -/
theorem law_IsNS (T S : Int) (acc : List Bool) (rows : List (List Int)) (m : BV) (H : BH) (h : RdL H T S acc rows m) (hn1 : acc.length ≤ 9223372036854775807) (hn : rows.length ≤ 9223372036854775807) (hr : ∀ xs ∈ rows, xs.length ≤ 9223372036854775807) :
    FnDoes (gam base) 3 [m] H fun v _ => v = .bool true := by
  refine FnDoes.of (fn := ir3) rfl ?_
  have g := h
  obtain ⟨u, x, tb, tw, rfl, hu, hx⟩ := h
  have u1 := hu.one
  have x1 := one_of_isSl hx.isSl
  simp [ir3, u1, x1]
  intro n1 b1 f1
  have o1 := Own.start (base := base) (H := H) |>.new f1 b1 (s := .arr 25 [.int .i64 T, .int .i64 S, u, x])
  have r1 := rd_all (o1.at 0 (b := n1) rfl) (n := 4) (rt := none) rfl rfl
  simp [make_of f1 b1, r1]
  refine (z_rel (base := base) T S acc rows _ _ (g.keeps o1.keeps) hn1 hn hr).step fun v K1 k1 hv => ?_
  obtain ⟨z, rfl, hz⟩ := hv
  have o2 := o1.call k1
  by_cases hz0 : z < 0
  · simp [hz0]
    exact o2.keeps
  obtain ⟨m1, m2, m3⟩ := hz (by omega)
  have r1 := rd_all (o2.at 0 (b := n1) rfl) (n := 4) (rt := none) rfl rfl
  simp [hz0, r1]
  refine (t_rel (base := base) T S acc rows _ _ (g.keeps o2.keeps) m1 m2 m3).step fun v K2 k2 hv => ?_
  have o3 := o2.call k2
  simp
  refine (s_IsNS (base := base) T S acc rows v K2 hv (by omega)).step fun v' K3 k3 hv' => ?_
  subst hv'
  have o4 := o3.call k3
  have r1 := rd_all (o4.at 0 (b := n1) rfl) (n := 4) (rt := none) rfl rfl
  simp [r1]
  refine (t_rel (base := base) T S acc rows _ _ (g.keeps o4.keeps) m1 m2 m3).step fun w K4 k4 hw => ?_
  have o5 := o4.call k4
  obtain ⟨uu, ww, rfl, hu2, hx2⟩ := id hw
  have u2 := hu2.one
  have x2 := one_of_isSl hx2.isSl
  simp [u2, x2]
  intro n6 b6 f6
  obtain ⟨K5, g5, o6⟩ := (o5.new f6 b6 (s := .arr 29 [.int .i64 0, .int .i64 0, .nils, .nils])).putAll 0 (b := n6) (n := 4) (ds := [encI T, encI S, uu, ww]) rfl rfl rfl (by simp [u2, x2]) (rt := none) rfl
  obtain ⟨K5', g5', o6'⟩ := (Own.start (base := base) (H := K4) |>.new f6 b6 (s := .arr 29 [.int .i64 0, .int .i64 0, .nils, .nils])).putAll 0 (b := n6) (n := 4) (ds := [encI T, encI S, uu, ww]) rfl rfl rfl (by simp [u2, x2]) (rt := none) rfl
  rw [g5] at g5'
  cases g5'
  have k5 := o6'.keeps
  have r6 := rd_all (o6.at 0 (b := n6) rfl) (n := 4) (rt := none) rfl rfl
  simp [make_of f6 b6, g5, r6]
  refine (i_IsNS (base := base) T S acc rows _ K5 (hw.keeps k5) (by omega)).step fun v' K6 k6 hv' => ?_
  subst hv'
  have o7 := o6.call k6
  have r6 := rd_all (o7.at 0 (b := n6) rfl) (n := 4) (rt := some 29) rfl rfl
  have r1 := rd_all (o7.at 1 (b := n1) rfl) (n := 4) (rt := none) rfl rfl
  simp [r6, r1]
  refine (t_rel (base := base) T S acc rows _ _ (g.keeps o7.keeps) m1 m2 m3).step fun w K7 k7 hw2 => ?_
  simp
  refine (q_rel (base := base) T S acc rows _ w K7 ((hw.keeps (k5.trans k6)).keeps k7) hw2 (by omega) (by omega) (fun r hr' => by have := m3 r hr'; omega)).step fun v' K8 k8 hv' => ?_
  subst hv'
  simp
  exact (o7.keeps.trans k7).trans k8
end Go.Proofs.YtcnkhkmapgbodaaDoor.W
end

section
namespace Go.Proofs.YtcnkhkmapgbodaaDoor.W
set_option linter.unusedVariables false
set_option linter.unusedSimpArgs false
open Go.B
variable {base : Nat}
attribute [local simp] wpC_skip wpC_region wpC_seq wpC_true wpC_false wpC_block wpC_exit wpC_ret wpO_nil wpO_n wpO_tt wpO_ff wpO_tf wpO_ft wpO_u wpS_mov wpS_pick wpS_build wpS_load wpS_store wpS_nilck wpS_bin wpS_beq wpS_isnil wpS_eqs wpS_not wpS_neg wpS_conv wpS_lea wpS_fld wpS_idx wpS_idxs wpS_slice wpS_sslice wpS_mkfn wpS_mset wpS_look wpS_ext wpS_len wpS_new wpS_box wpS_mk wpS_mkmap wpS_mksl wpS_app wpS_fn wpS_call after_some pthen_n pthen_x pthen_r pin BExit.outOf puto_some puto_none put_eq put_ne Opd.ev argEnv op1_mov op1_pick op1_new op1_box op1_load op1_nilck op1_bin op1_beq op1_not op1_neg op1_conv op1_lea op1_fld op1_len0 op1_len1 op1_idx op1_ext op1_build op1_mk op1_stw op1_mksl op1_eqs pureBin isShift resOf resVals val_tmp val_cell oneOf one_int cells_int one_bool cells_bool one_str cells_str one_nilp cells_nilp one_ptr cells_ptr one_nils cells_nils one_sl cells_sl one_sle cells_sle one_nilm cells_nilm one_mp cells_mp one_nilf cells_nilf one_fn cells_fn one_nili cells_nili cells_agg isSl_sl slen_sl sat_sl make_of asm rtOk wpS_b2s op1_b2s wpS_imax op1_imax wpS_imin op1_imin wpS_i2s op1_i2s op1_isnil Option.map_some gam_base op1_app op1_idxs wpS_idxa op1_idxa op1_sslice bound_none bound_some nat_of op1_mkmap op1_mset op1_look op1_len2 op1_mkfn fillB Has
section
variable {H : Type} {enc : TypeId × Value → H} {W : World} {held : Bool}
theorem sls_nil (w : World) (ty sz : Nat) : Sls (heap0 w) ty sz (absV w (.slice none 0 0)) [] := ⟨rfl, rfl, fun i x hi => by simp at hi⟩
def fs25 : Array Field := #[⟨"Tapes", 2, 0, false, "", "", 0⟩, ⟨"Start", 2, 1, false, "", "", 8⟩, ⟨"Accept", 22, 2, false, "", "", 16⟩, ⟨"Next", 23, 3, false, "", "", 40⟩]
theorem u25 : Tryd.prog.underlying 25 = some (.struct fs25) := by kernel_rfl
theorem u2 : Tryd.prog.underlying 2 = some (.int .i64) := by kernel_rfl
theorem u4 : Tryd.prog.underlying 4 = some .bool := by kernel_rfl
theorem u22 : Tryd.prog.underlying 22 = some (.slice 4) := by kernel_rfl
theorem u23 : Tryd.prog.underlying 23 = some (.slice 37) := by kernel_rfl
theorem u37 : Tryd.prog.underlying 37 = some (.slice 2) := by kernel_rfl
theorem open_flags {fuel : Nat} {c : Value} {x : DataW H × List MemPlace} (h : DataW.trod enc Tryd.prog W 0 (fun _ => true) held fuel 22 [c] = some x) :
    ∃ (bs : List Bool) (ty : Nat), Rd (heap0 W) ty (absV W c) (bs.map encB) ∧ bs.length ≤ 9223372036854775807 := by
  rcases Deep.open_bools u22 u4 (by kernel_rfl) h with ⟨e, _⟩ | ⟨a, len, cap, B, e, _, hl, hm, _, hcell⟩
  · simp at e
    subst e
    exact ⟨[], 0, sls_nil W 0 1, by simp⟩
  · simp at e
    subst e
    obtain ⟨ty, hs⟩ := Sls.start (w := W) (a := a) (n := len) (c := cap) (sz := 1) (xs := (List.range len).map fun i => [Value.bool (B i)]) (by simp) hl (by omega) (by simp) (by
      intro i x hi j v hj
      rw [List.getElem?_map] at hi
      simp only [Option.map_eq_some_iff] at hi
      obtain ⟨k, hk, rfl⟩ := hi
      obtain ⟨hlt, hkv⟩ := List.getElem?_eq_some_iff.1 hk
      simp at hlt hkv
      subst hkv
      cases j with
      | zero =>
        simp at hj
        subst hj
        simpa using hcell i (by omega)
      | succ j => simp at hj)
    refine ⟨(List.range len).map B, ty, ?_, ?_⟩
    · unfold Rd
      simpa [List.map_map, Function.comp_def, absV, toB1, one1, encB] using hs
    · simp [maxLen] at hm ⊢
      omega
theorem open_longs {a : Addr} {L C : Nat} {Z : List Int} (hl : L ≤ C) (hz : Z.length = C) (hcell : ∀ c, c < C → W.cell? (a.add c) = some (.int .i64 (Z.getD c 0))) :
    ∃ ty, Rd (heap0 W) ty (absV W (.slice (some a) L C)) ((Z.take L).map encI) := by
  obtain ⟨ty, hs⟩ := Sls.start (w := W) (a := a) (n := L) (c := C) (sz := 1) (xs := (Z.take L).map fun z => [Value.int .i64 z]) (by simp; omega) hl (by omega) (fun x hx => by
    obtain ⟨z, _, rfl⟩ := List.mem_map.1 hx
    rfl) (by
    intro i x hi j v hj
    rw [List.getElem?_map] at hi
    simp only [Option.map_eq_some_iff] at hi
    obtain ⟨k, hk, rfl⟩ := hi
    obtain ⟨hlt, hkv⟩ := List.getElem?_eq_some_iff.1 hk
    rw [List.length_take] at hlt
    rw [List.getElem_take] at hkv
    cases j with
    | zero =>
      simp at hj
      subst hj
      have := hcell i (by omega)
      rw [List.getD_eq_getElem?_getD, List.getElem?_eq_getElem (by omega)] at this
      rw [← hkv]
      simpa using this
    | succ j => simp at hj)
  refine ⟨ty, ?_⟩
  unfold Rd
  simpa [List.map_map, Function.comp_def, absV, toB1, one1, encI] using hs
theorem open_rows {fuel : Nat} {c : Value} {x : DataW H × List MemPlace} (h : DataW.trod enc Tryd.prog W 0 (fun _ => true) held fuel 23 [c] = some x) :
    ∃ (rows : List (List Int)) (ty : Nat), RdQ (heap0 W) ty (absV W c) encI rows ∧ rows.length ≤ 9223372036854775807 ∧ ∀ xs ∈ rows, xs.length ≤ 9223372036854775807 := by
  rcases Deep.open_int_rows u23 u37 u2 (by kernel_rfl) (by kernel_rfl) h with ⟨e, _⟩ | ⟨a, len, cap, A, L, C, Z, e, _, hl, hm, _, hr⟩
  · simp at e
    subst e
    exact ⟨[], 0, ⟨[], sls_nil W 0 1, rfl, fun i u xs hu => by simp at hu⟩, by simp, by simp⟩
  · simp at e
    subst e
    obtain ⟨ty, hs⟩ := Sls.start (w := W) (a := a) (n := len) (c := cap) (sz := 1) (xs := (List.range len).map fun r => [Value.slice (A r) (L r) (C r)]) (by simp) hl (by omega) (by simp) (by
      intro i x hi j v hj
      rw [List.getElem?_map] at hi
      simp only [Option.map_eq_some_iff] at hi
      obtain ⟨k, hk, rfl⟩ := hi
      obtain ⟨hlt, hkv⟩ := List.getElem?_eq_some_iff.1 hk
      simp at hlt hkv
      subst hkv
      cases j with
      | zero =>
        simp at hj
        subst hj
        simpa using (hr i (by omega)).1
      | succ j => simp at hj)
    refine ⟨(List.range len).map fun r => (Z r).take (L r), ty, ⟨(List.range len).map fun r => absV W (.slice (A r) (L r) (C r)), ?_, by simp, ?_⟩, ?_, ?_⟩
    · unfold Rd
      simpa [List.map_map, Function.comp_def, one1] using hs
    · intro i u xs hu hx
      have hil : i < len := by have := (List.getElem?_eq_some_iff.1 hu).1; simpa using this
      rw [List.getElem?_map, List.getElem?_range hil] at hu hx
      simp at hu hx
      subst hu hx
      obtain ⟨_, g2, g3, g4, _, g6, g7⟩ := hr i (by omega)
      cases hA : A i with
      | none =>
        have hc := g6 hA
        have hL : L i = 0 := by omega
        rw [hc, hL]
        exact ⟨0, sls_nil W 0 1⟩
      | some a' => exact open_longs g2 g4 (g7 a' hA).2
    · simp [maxLen] at hm ⊢
      omega
    · intro xs hxs
      obtain ⟨r, hr', rfl⟩ := List.mem_map.1 hxs
      obtain ⟨_, g2, g3, g4, _⟩ := hr r (by have := List.mem_range.1 hr'; omega)
      simp [maxLen] at g3 ⊢
      omega
end
end Go.Proofs.YtcnkhkmapgbodaaDoor.W
end

section
namespace Go.Proofs.YtcnkhkmapgbodaaDoor.W
set_option linter.unusedVariables false
set_option linter.unusedSimpArgs false
open Go.B
variable {base : Nat}
attribute [local simp] wpC_skip wpC_region wpC_seq wpC_true wpC_false wpC_block wpC_exit wpC_ret wpO_nil wpO_n wpO_tt wpO_ff wpO_tf wpO_ft wpO_u wpS_mov wpS_pick wpS_build wpS_load wpS_store wpS_nilck wpS_bin wpS_beq wpS_isnil wpS_eqs wpS_not wpS_neg wpS_conv wpS_lea wpS_fld wpS_idx wpS_idxs wpS_slice wpS_sslice wpS_mkfn wpS_mset wpS_look wpS_ext wpS_len wpS_new wpS_box wpS_mk wpS_mkmap wpS_mksl wpS_app wpS_fn wpS_call after_some pthen_n pthen_x pthen_r pin BExit.outOf puto_some puto_none put_eq put_ne Opd.ev argEnv op1_mov op1_pick op1_new op1_box op1_load op1_nilck op1_bin op1_beq op1_not op1_neg op1_conv op1_lea op1_fld op1_len0 op1_len1 op1_idx op1_ext op1_build op1_mk op1_stw op1_mksl op1_eqs pureBin isShift resOf resVals val_tmp val_cell oneOf one_int cells_int one_bool cells_bool one_str cells_str one_nilp cells_nilp one_ptr cells_ptr one_nils cells_nils one_sl cells_sl one_sle cells_sle one_nilm cells_nilm one_mp cells_mp one_nilf cells_nilf one_fn cells_fn one_nili cells_nili cells_agg isSl_sl slen_sl sat_sl make_of asm rtOk wpS_b2s op1_b2s wpS_imax op1_imax op1_isnil Option.map_some gam_base op1_app op1_idxs wpS_idxa op1_idxa op1_sslice bound_none bound_some nat_of op1_mkmap op1_mset op1_look op1_len2 op1_mkfn fillB Has
open Go.Au
/-- A relation of any kind: tapes, start, what accepts, the rows. -/
abbrev Raw4 := Int × Int × List Bool × List (List Int)
def valR (r : Raw4) : Bool := validB r.1 r.2.1 r.2.2.1 r.2.2.2
noncomputable def nsR (r : Raw4) : Bool := decide (r.1 = 1) && nsB ((⟨r.2.2.1, r.2.2.2.map (·.map Int.toNat)⟩ : Aut).lang r.2.1.toNat)
noncomputable def setsN (l : List Raw4) : Nat := if l.all valR = true then (if l.all nsR = true then 0 else 4) else 1
/-- A list of relations. -/
def RdRs (H : BH) (v : BV) (l : List Raw4) : Prop := ∃ cs : List (List BV), Sls H 29 4 v cs ∧ cs.length = l.length ∧ ∀ (i : Nat) (c : List BV) (r : Raw4), cs[i]? = some c → l[i]? = some r → RdRaw H r.1 r.2.1 r.2.2.1 r.2.2.2 (.agg c)
theorem i_isNSr (r : Raw4) (m : BV) (H : BH) (hv : valR r = true) (h : RdRaw H r.1 r.2.1 r.2.2.1 r.2.2.2 m) : FnDoes (gam base) 30 [m] H fun v _ => v = .bool (nsR r) := by
  obtain ⟨T, S, acc, rows⟩ := r
  obtain ⟨t, s, A, hT, hS, ht1, ht, ha, hr, hok, hs, hlen⟩ := valid_elim hv
  simp only at ha hr h
  subst hT hS ha hr
  refine (i_isNS (base := base) t s ht1 ht A m H h.rel hok hs hlen).mono fun v K _ hv => ?_
  rw [hv]
  unfold nsR
  have e1 := aut_back A
  simp only [e1, Int.toNat_natCast]
  congr 2
  rw [Bool.eq_iff_iff]
  simp
  omega
theorem s_isNSr (r : Raw4) (rb : Nat) (H : BH) (hv : valR r = true) (h : RdRawP H rb r.1 r.2.1 r.2.2.1 r.2.2.2) : FnDoes (gam base) 26 [.ptr rb 0] H fun v _ => v = .bool (nsR r) := by
  obtain ⟨T, S, acc, rows⟩ := r
  obtain ⟨t, s, A, hT, hS, ht1, ht, ha, hr, hok, hs, hlen⟩ := valid_elim hv
  simp only at ha hr h
  subst hT hS ha hr
  refine (s_isNS (base := base) t s rb ht1 ht A H h.rel hok hs hlen).mono fun v K _ hv => ?_
  rw [hv]
  unfold nsR
  have e1 := aut_back A
  simp only [e1, Int.toNat_natCast]
  congr 2
  rw [Bool.eq_iff_iff]
  simp
  omega
theorem s_set (r : Raw4) (rb : Nat) (H : BH) (h : RdRawP H rb r.1 r.2.1 r.2.2.1 r.2.2.2) (hn : r.2.2.1.length ≤ 4611686018427387904) : FnDoes (gam base) 33 [.ptr rb 0] H fun v _ => v = encN (setsN [r]) := by
  refine FnDoes.of (fn := ir33) rfl ?_
  simp [ir33]
  have c1 := s_ok (base := base) rb r.1 r.2.1 r.2.2.1 r.2.2.2 H h hn
  refine callP c1 ?_
  have hvr : valR r = validB r.1 r.2.1 r.2.2.1 r.2.2.2 := rfl
  rw [← hvr]
  cases hv : valR r
  · simp [setsN, hv]
    exact BH.Keeps.refl H
  simp
  refine (s_isNSr (base := base) r rb H hv h).step fun v K k1 hv2 => ?_
  subst hv2
  cases hs : nsR r
  · simp [setsN, hv, hs]
    exact k1
  · simp [setsN, hv, hs]
    exact k1
theorem RdRs.keeps {H K : BH} {v : BV} {l : List Raw4} (h : RdRs H v l) (k : H.Keeps K) : RdRs K v l := by
  obtain ⟨cs, h1, h2, h3⟩ := h
  exact ⟨cs, h1.keeps k, h2, fun i c r hc hr => (h3 i c r hc hr).keeps k⟩
theorem RdRs.get {H : BH} {v : BV} {l : List Raw4} (h : RdRs H v l) {i : Nat} (hi : i < l.length) : ∃ u w, H.rd none (some 4) (v.sat i 4) = some (.agg [.int .i64 l[i].1, .int .i64 l[i].2.1, u, w]) ∧ RdRaw H l[i].1 l[i].2.1 l[i].2.2.1 l[i].2.2.2 (.agg [.int .i64 l[i].1, .int .i64 l[i].2.1, u, w]) := by
  obtain ⟨cs, h1, h2, h3⟩ := h
  have hc : cs[i]? = some cs[i] := List.getElem?_eq_getElem (by omega)
  have hr := h3 i _ _ hc (List.getElem?_eq_getElem hi)
  obtain ⟨u, w, e, -⟩ := id hr
  rw [e] at hr
  refine ⟨u, w, ?_, hr⟩
  rw [← e]
  exact h1.rd hc rfl
theorem i_checkSets (l : List Raw4) (v : BV) (H : BH) (h : RdRs H v l) (hl : l.length ≤ 1000000) (hn : ∀ r ∈ l, r.2.2.1.length ≤ 4611686018427387904) : FnDoes (gam base) 37 [v] H fun u _ => u = encN (setsN l) := by
  obtain ⟨R, hR⟩ : ∃ R : BV → BH → Prop, R = fun u _ => u = encN (setsN l) := ⟨_, rfl⟩
  rw [← hR]
  refine FnDoes.of (fn := ir37) rfl ?_
  have hsl : v.isSl = true := by obtain ⟨cs, h1, _⟩ := h; exact h1.isSl
  have hsn : v.slen = l.length := by obtain ⟨cs, h1, h2, _⟩ := h; rw [h1.len, h2]
  simp [ir37, hsl, hsn]
  obtain ⟨I, hI⟩ : ∃ I : Nat → Env → BH → Prop, I = (fun i e K => e 9 = encN i ∧ H.Keeps K ∧ ∀ r ∈ l.take i, valR r = true) := ⟨_, rfl⟩
  refine wpC_countK l.length [(0, v), (7, v), (8, encN l.length)] I (i0 := 0) ?_ ?_ ?_ (Nat.zero_le _) ?_
  · rfl
  · simp
  · rw [hI]
    exact ⟨by simp, BH.Keeps.refl H, by simp⟩
  rintro i e K hi ⟨e0, e7, e8, -⟩ hh
  rw [hI] at hh
  obtain ⟨e9, hk, hall⟩ := hh
  simp only [] at e0 e7 e8
  have wi := wS (n := i) (by omega)
  by_cases hlt : i < l.length
  · obtain ⟨u, w, hrd, hrw⟩ := (h.keeps hk).get hlt
    obtain ⟨u', w', e1, hu, hw⟩ := id hrw
    simp only [BV.agg.injEq, List.cons.injEq, and_true, true_and] at e1
    obtain ⟨eu, ew⟩ := e1
    rw [← eu] at hu
    rw [← ew] at hw
    have u1 := hu.one
    have w1 := one_of_isSl hw.isSl
    simp [e7, e8, e9, hlt, hsl, hsn, hrd, u1, w1]
    intro n4 b4 f4
    obtain ⟨K4, g4, o4⟩ := (Own.start (base := base) (H := K) |>.new f4 b4 (s := .arr 29 [.int .i64 0, .int .i64 0, .nils, .nils])).putAll 0 (b := n4) (n := 4) (ds := [.int .i64 l[i].1, .int .i64 l[i].2.1, u, w]) rfl rfl rfl (by simp [u1, w1]) (rt := none) rfl
    have r4 := rd_all (o4.at 0 (b := n4) rfl) (n := 4) (rt := none) rfl rfl
    simp [make_of f4 b4, g4, r4]
    refine (i_valid (base := base) _ _ _ _ _ K4 (hrw.keeps o4.keeps) (hn _ (List.getElem_mem hlt))).step fun v' K5 k5 hv => ?_
    subst hv
    have hvr : valR l[i] = validB l[i].1 l[i].2.1 l[i].2.2.1 l[i].2.2.2 := rfl
    rw [← hvr]
    cases hv : valR l[i]
    · simp
      rw [hR]
      refine ⟨hk.trans (o4.keeps.trans k5), ?_⟩
      have : l.all valR ≠ true := by
        intro ha
        rw [List.all_eq_true.1 ha _ (List.getElem_mem hlt)] at hv
        cases hv
      simp [setsN, if_neg this]
    · simp [e9, wi, hlt]
      rw [hI]
      refine ⟨by simp, hk.trans (o4.keeps.trans k5), fun r hr => ?_⟩
      rw [List.take_add_one, List.getElem?_eq_getElem hlt] at hr
      rcases List.mem_append.1 hr with hr | hr
      · exact hall r hr
      · simp at hr
        subst hr
        exact hv
  · have hie : i = l.length := by omega
    subst hie
    rw [List.take_length] at hall
    have hva : l.all valR = true := List.all_eq_true.2 hall
    simp [e7, e8, e9, e0, hsl, hsn]
    obtain ⟨J, hJ⟩ : ∃ J : Nat → Env → BH → Prop, J = (fun i e K => e 19 = encN i ∧ H.Keeps K ∧ ∀ r ∈ l.take i, nsR r = true) := ⟨_, rfl⟩
    refine wpC_countK l.length [(17, v), (18, encN l.length)] J (i0 := 0) ?_ ?_ ?_ (Nat.zero_le _) ?_
    · rfl
    · simp
    · rw [hJ]
      exact ⟨by simp, hk, by simp⟩
    clear e0 e7 e8 e9 wi hk
    rintro i e K hi ⟨e17, e18, -⟩ hh
    rw [hJ] at hh
    obtain ⟨e19, hk, halln⟩ := hh
    simp only [] at e17 e18
    have wi := wS (n := i) (by omega)
    by_cases hlt : i < l.length
    · obtain ⟨u, w, hrd, hrw⟩ := (h.keeps hk).get hlt
      obtain ⟨u', w', e1, hu, hw⟩ := id hrw
      simp only [BV.agg.injEq, List.cons.injEq, and_true, true_and] at e1
      obtain ⟨eu, ew⟩ := e1
      rw [← eu] at hu
      rw [← ew] at hw
      have u1 := hu.one
      have w1 := one_of_isSl hw.isSl
      simp [e17, e18, e19, hlt, hsl, hsn, hrd, u1, w1]
      intro n4 b4 f4
      obtain ⟨K4, g4, o4⟩ := (Own.start (base := base) (H := K) |>.new f4 b4 (s := .arr 29 [.int .i64 0, .int .i64 0, .nils, .nils])).putAll 0 (b := n4) (n := 4) (ds := [.int .i64 l[i].1, .int .i64 l[i].2.1, u, w]) rfl rfl rfl (by simp [u1, w1]) (rt := none) rfl
      have r4 := rd_all (o4.at 0 (b := n4) rfl) (n := 4) (rt := none) rfl rfl
      simp [make_of f4 b4, g4, r4]
      refine (i_isNSr (base := base) l[i] _ K4 (hall _ (List.getElem_mem hlt)) (hrw.keeps o4.keeps)).step fun v' K5 k5 hv => ?_
      subst hv
      cases hv : nsR l[i]
      · simp
        rw [hR]
        refine ⟨hk.trans (o4.keeps.trans k5), ?_⟩
        have : l.all nsR ≠ true := by
          intro ha
          rw [List.all_eq_true.1 ha _ (List.getElem_mem hlt)] at hv
          cases hv
        simp only [setsN]
        rw [if_pos hva, if_neg this]
        rfl
      · simp [e19, wi, hlt]
        rw [hJ]
        refine ⟨by simp, hk.trans (o4.keeps.trans k5), fun r hr => ?_⟩
        rw [List.take_add_one, List.getElem?_eq_getElem hlt] at hr
        rcases List.mem_append.1 hr with hr | hr
        · exact halln r hr
        · simp at hr
          subst hr
          exact hv
    · have hie : i = l.length := by omega
      subst hie
      rw [List.take_length] at halln
      simp [e17, e18, e19]
      rw [hR]
      refine ⟨hk, ?_⟩
      simp only [setsN]
      rw [if_pos hva, if_pos (List.all_eq_true.2 halln)]
      rfl
end Go.Proofs.YtcnkhkmapgbodaaDoor.W
end

section
namespace Go.Proofs.YtcnkhkmapgbodaaDoor.W
set_option linter.unusedVariables false
set_option linter.unusedSimpArgs false
open Go.B
variable {base : Nat}
attribute [local simp] wpC_skip wpC_region wpC_seq wpC_true wpC_false wpC_block wpC_exit wpC_ret wpO_nil wpO_n wpO_tt wpO_ff wpO_tf wpO_ft wpO_u wpS_mov wpS_pick wpS_build wpS_load wpS_store wpS_nilck wpS_bin wpS_beq wpS_isnil wpS_eqs wpS_not wpS_neg wpS_conv wpS_lea wpS_fld wpS_idx wpS_idxs wpS_slice wpS_sslice wpS_mkfn wpS_mset wpS_look wpS_ext wpS_len wpS_new wpS_box wpS_mk wpS_mkmap wpS_mksl wpS_app wpS_fn wpS_call after_some pthen_n pthen_x pthen_r pin BExit.outOf puto_some puto_none put_eq put_ne Opd.ev argEnv op1_mov op1_pick op1_new op1_box op1_load op1_nilck op1_bin op1_beq op1_not op1_neg op1_conv op1_lea op1_fld op1_len0 op1_len1 op1_idx op1_ext op1_build op1_mk op1_stw op1_mksl op1_eqs pureBin isShift resOf resVals val_tmp val_cell oneOf one_int cells_int one_bool cells_bool one_str cells_str one_nilp cells_nilp one_ptr cells_ptr one_nils cells_nils one_sl cells_sl one_sle cells_sle one_nilm cells_nilm one_mp cells_mp one_nilf cells_nilf one_fn cells_fn one_nili cells_nili cells_agg isSl_sl slen_sl sat_sl make_of asm rtOk wpS_b2s op1_b2s wpS_imax op1_imax op1_isnil Option.map_some gam_base op1_app op1_idxs wpS_idxa op1_idxa op1_sslice bound_none bound_some nat_of op1_mkmap op1_mset op1_look op1_len2 op1_mkfn fillB Has
open Go.Au
/-- The letter of a digit, and the word of a number. -/
def ltr (n i : Nat) : Nat := 97 + n / 2 ^ i % 2
def bl (n : Nat) : Nat := if n = 0 then 0 else n.log2 + 1
def wordL (n r : Nat) : List Nat := (List.range r).map (ltr n)
def wordB (n : Nat) : ByteArray := ⟨((wordL n (bl n)).map UInt8.ofNat).toArray⟩
theorem bl_pos {n r : Nat} : 0 < n / 2 ^ r ↔ r < bl n := by
  unfold bl
  by_cases h : n = 0
  · subst h; simp
  · rw [if_neg h, Nat.lt_succ_iff, Nat.le_log2 h]
    constructor
    · intro h1
      have := Nat.div_mul_le_self n (2 ^ r)
      have h2 : 1 * 2 ^ r ≤ n / 2 ^ r * 2 ^ r := Nat.mul_le_mul_right _ h1
      omega
    · intro h1
      exact Nat.div_pos h1 (Nat.two_pow_pos r)
theorem bl_le {n : Nat} (h : n ≤ 1000) : bl n ≤ 10 := by
  unfold bl
  split
  · omega
  · have : n.log2 < 10 := (Nat.log2_lt (by omega)).2 (by omega)
    omega
theorem half (n r : Nat) : n / 2 ^ r / 2 = n / 2 ^ (r + 1) := by rw [Nat.div_div_eq_div_mul, Nat.pow_succ]
theorem wordL_succ (n r : Nat) : wordL n (r + 1) = wordL n r ++ [ltr n r] := by simp [wordL, List.range_succ]
theorem wordL_len (n r : Nat) : (wordL n r).length = r := by simp [wordL]
/-- A row of bytes as a string. -/
theorem bytes_of : ∀ xs : List Nat, bytesB (xs.map fun (b : Nat) => BV.int .u8 (b : Int)) = some (xs.map fun (b : Nat) => (b : Int))
  | [] => rfl
  | x :: xs => by
    show (bytesB (xs.map fun (b : Nat) => BV.int .u8 (b : Int))).map ((x : Int) :: ·) = _
    rw [bytes_of xs]
    rfl
theorem u8str {H K : BH} {wo : Option Nat} {xs : List Nat} {v : BV} {base nb : Nat} {σ : Opd → BV} {x : Opd} {L : List Sl} (o : Own base H K ((wo, .arr 5 (xs.map fun (b : Nat) => BV.int .u8 (b : Int))) :: L)) (hv : Vec wo v xs.length) (hx : σ x = v) :
    op1 base nb σ K (.b2s 5 x) = some (.str ⟨(xs.map UInt8.ofNat).toArray⟩, K) := by
  rw [op1_b2s, hx]
  cases wo with
  | none =>
    obtain ⟨rfl, hl⟩ := hv
    have : xs = [] := List.eq_nil_of_length_eq_zero hl
    subst this
    rfl
  | some b =>
    have hv : v = .sl b 0 xs.length := hv
    subst hv
    have hr := o.at 0 (b := b) rfl
    simp only [hr]
    rw [if_pos ⟨trivial, by simp⟩, List.drop_zero, List.take_of_length_le (by simp), bytes_of]
    simp only [Option.map_some, strB, List.map_map]
    rfl
theorem s_word (n : Nat) (hn : n ≤ 1000) (H : BH) : FnDoes (gam base) 36 [encN n] H fun v _ => v = .str (wordB n) := by
  refine FnDoes.of (fn := ir36) rfl ?_
  have hbl := bl_le hn
  simp [ir36]
  intro n4 b4 f4
  have o0 := Own.start (base := base) (H := H) |>.new f4 b4 (s := .arr 5 [])
  simp [make_of f4 b4]
  obtain ⟨I, hI⟩ : ∃ I : Nat → Env → BH → Prop, I = (fun r e K => e 0 = encN (n / 2 ^ r) ∧ ∃ v3 wo, e 3 = v3 ∧ Own base H K [(wo, .arr 5 ((wordL n r).map fun (b : Nat) => BV.int .u8 (b : Int)))] ∧ Vec wo v3 r) := ⟨_, rfl⟩
  refine wpC_countK (bl n) [] I (i0 := 0) ?_ ?_ ?_ (Nat.zero_le _) ?_
  · rfl
  · trivial
  · rw [hI]
    exact ⟨by simp, .sl n4 0 0, some n4, by simp, by simpa [wordL] using o0, rfl⟩
  clear o0
  rintro r e K hr - hh
  rw [hI] at hh
  obtain ⟨e0, v3, wo, e3, o, hv3⟩ := hh
  obtain ⟨m, hm⟩ : ∃ m, m = n / 2 ^ r := ⟨_, rfl⟩
  have hp := bl_pos (n := n) (r := r)
  have hh2 := half n r
  have hmn : m ≤ 1000 := by rw [hm]; exact Nat.le_trans (Nat.div_le_self _ _) hn
  rw [← hm] at e0 hp hh2
  by_cases hlt : r < bl n
  · have h0 : 0 < m := hp.2 hlt
    have hb : ltr n r = 97 + m % 2 := by unfold ltr; rw [← hm]
    have w12 : IntKind.u8.wrap (IntKind.i64.wrap (97 + (m : Int) % 2)) = ((97 + m % 2 : Nat) : Int) := by
      have e : (m : Int) % 2 = ((m % 2 : Nat) : Int) := by omega
      rw [e]
      rcases Nat.mod_two_eq_zero_or_one m with h | h <;> rw [h] <;> rfl
    have w12' : IntKind.u8.wrap (IntKind.i64.wrap (97 + (m : Int).tmod 2)) = ((97 + m % 2 : Nat) : Int) := by
      rw [show (m : Int).tmod 2 = ((m % 2 : Nat) : Int) from tmodN m 2]
      rcases Nat.mod_two_eq_zero_or_one m with h | h <;> rw [h] <;> rfl
    have w3' : IntKind.i64.wrap ((m : Int).tdiv 2) = ((m / 2 : Nat) : Int) := by
      rw [show (m : Int).tdiv 2 = ((m / 2 : Nat) : Int) from tdivN m 2]; exact wN (by omega)
    have w3 : IntKind.i64.wrap ((m : Int) / 2) = ((m / 2 : Nat) : Int) := by
      have e : (m : Int) / 2 = ((m / 2 : Nat) : Int) := by omega
      rw [e]; exact wN (by omega)
    have h0' : (0 : Int) < (m : Int) := by omega
    simp [e0, e3, h0', h0, w12, w3]
    intro n1 b1 f1
    simp [make_of f1 b1]
    intro n2 b2 f2
    obtain ⟨v', K', b', q1, q2, q3⟩ := o.push 0 rfl (v := v3) (by simpa [wordL_len] using hv3) (x := .int .u8 (IntKind.u8.wrap (IntKind.i64.wrap (97 + (m : Int).tmod 2)))) (bytes := 1) rfl (by simp [wordL_len]; omega) (by simp [wordL_len]; omega) f1 b1 f2 b2
    simp [q1, e0, w3, w3', hlt]
    rw [hI]
    refine ⟨by simp; exact_mod_cast hh2, v', some b', by simp, ?_, by simpa [wordL_len] using q3⟩
    rw [wordL_succ, List.map_append, hb]
    rw [w12'] at q2
    simpa using q2
  · have h0 : m = 0 := by omega
    have hre : r = bl n := by omega
    subst h0
    simp [-op1_b2s, e0, e3]
    rw [u8str (xs := wordL n r) (v := v3) o (by rw [wordL_len]; exact hv3) (by simp [e3])]
    simp
    refine ⟨o.keeps, ?_⟩
    rw [hre]
    rfl
end Go.Proofs.YtcnkhkmapgbodaaDoor.W
end

section
namespace Go.Proofs.YtcnkhkmapgbodaaDoor.W
set_option linter.unusedVariables false
set_option linter.unusedSimpArgs false
open Go.B
variable {base : Nat}
attribute [local simp] wpC_skip wpC_region wpC_seq wpC_true wpC_false wpC_block wpC_exit wpC_ret wpO_nil wpO_n wpO_tt wpO_ff wpO_tf wpO_ft wpO_u wpS_mov wpS_pick wpS_build wpS_load wpS_store wpS_nilck wpS_bin wpS_beq wpS_isnil wpS_eqs wpS_not wpS_neg wpS_conv wpS_lea wpS_fld wpS_idx wpS_idxs wpS_slice wpS_sslice wpS_mkfn wpS_mset wpS_look wpS_ext wpS_len wpS_new wpS_box wpS_mk wpS_mkmap wpS_mksl wpS_app wpS_fn wpS_call after_some pthen_n pthen_x pthen_r pin BExit.outOf puto_some puto_none put_eq put_ne Opd.ev argEnv op1_mov op1_pick op1_new op1_box op1_load op1_nilck op1_bin op1_beq op1_not op1_neg op1_conv op1_lea op1_fld op1_len0 op1_len1 op1_idx op1_ext op1_build op1_mk op1_stw op1_mksl op1_eqs pureBin isShift resOf resVals val_tmp val_cell oneOf one_int cells_int one_bool cells_bool one_str cells_str one_nilp cells_nilp one_ptr cells_ptr one_nils cells_nils one_sl cells_sl one_sle cells_sle one_nilm cells_nilm one_mp cells_mp one_nilf cells_nilf one_fn cells_fn one_nili cells_nili cells_agg isSl_sl slen_sl sat_sl make_of asm rtOk wpS_b2s op1_b2s wpS_imax op1_imax op1_isnil Option.map_some gam_base op1_app op1_idxs wpS_idxa op1_idxa op1_sslice bound_none bound_some nat_of op1_mkmap op1_mset op1_look op1_len2 op1_mkfn fillB Has
open Go.Au
def strL (xs : List Nat) : ByteArray := ⟨(xs.map UInt8.ofNat).toArray⟩
theorem strL_snoc (xs : List Nat) (b : Nat) : strL xs ++ strL [b] = strL (xs ++ [b]) := by
  apply ByteArray.ext
  rw [ByteArray.data_append]
  simp [strL]
theorem strL_size (xs : List Nat) : (strL xs).size = xs.length := by simp [strL, ByteArray.size]
theorem ab_letter (d : Nat) (h : d < 2) : (⟨#[97, 98]⟩ : ByteArray).extract d (d + 1) = strL [97 + d] := by
  have : d = 0 ∨ d = 1 := by omega
  rcases this with rfl | rfl <;> decide
theorem i_word (n : Nat) (hn : n ≤ 1000) (H : BH) : FnDoes (gam base) 42 [encN n] H fun v _ => v = .str (wordB n) := by
  refine FnDoes.of (fn := ir42) rfl ?_
  have hbl := bl_le hn
  simp [ir42]
  obtain ⟨I, hI⟩ : ∃ I : Nat → Env → BH → Prop, I = (fun r e K => e 0 = encN (n / 2 ^ r) ∧ e 3 = .str (strL (wordL n r)) ∧ K = H) := ⟨_, rfl⟩
  refine wpC_countK (bl n) [] I (i0 := 0) ?_ ?_ ?_ (Nat.zero_le _) ?_
  · rfl
  · trivial
  · rw [hI]
    exact ⟨by simp, by simp [strL, wordL], rfl⟩
  rintro r e K hr - hh
  rw [hI] at hh
  obtain ⟨e0, e3, rfl⟩ := hh
  obtain ⟨m, hm⟩ : ∃ m, m = n / 2 ^ r := ⟨_, rfl⟩
  have hp := bl_pos (n := n) (r := r)
  have hh2 := half n r
  have hmn : m ≤ 1000 := by rw [hm]; exact Nat.le_trans (Nat.div_le_self _ _) hn
  rw [← hm] at e0 hp hh2
  by_cases hlt : r < bl n
  · have h0 : 0 < m := hp.2 hlt
    have hb : ltr n r = 97 + m % 2 := by unfold ltr; rw [← hm]
    obtain ⟨d, hd⟩ : ∃ d, d = m % 2 := ⟨_, rfl⟩
    have hd2 : d < 2 := by omega
    rw [← hd] at hb
    have t1 : (m : Int) % 2 = (d : Int) := by omega
    have t1' : (m : Int).tmod 2 = (d : Int) := by rw [hd]; exact tmodN m 2
    have w1 : IntKind.i64.wrap ((d : Int) + 1) = ((d + 1 : Nat) : Int) := wS (by omega)
    have w3' : IntKind.i64.wrap ((m : Int).tdiv 2) = ((m / 2 : Nat) : Int) := by
      rw [show (m : Int).tdiv 2 = ((m / 2 : Nat) : Int) from tdivN m 2]; exact wN (by omega)
    have w3 : IntKind.i64.wrap ((m : Int) / 2) = ((m / 2 : Nat) : Int) := by
      have e : (m : Int) / 2 = ((m / 2 : Nat) : Int) := by omega
      rw [e]; exact wN (by omega)
    have h0' : (0 : Int) < (m : Int) := by omega
    have hsz : (⟨#[97, 98]⟩ : ByteArray).size = 2 := rfl
    have hext := ab_letter d hd2
    simp [e0, e3, h0', h0, t1, t1', w1, w3, w3', hsz, hext, hlt]
    rw [if_pos (show (0 : Int) ≤ (d : Int) + 1 by omega)]
    have hno : ¬ (9223372036854775807 : Int) < ((strL (wordL n r)).size : Int) + ((strL [97 + d]).size : Int) := by
      rw [strL_size, strL_size, wordL_len]
      simp
      omega
    simp [show d + 1 ≤ 2 by omega, hext, hno, e0, e3, w3, w3', hlt]
    rw [hI]
    refine ⟨by simp; exact_mod_cast hh2, ?_, rfl⟩
    simp [wordL_succ, hb, strL_snoc]
  · have h0 : m = 0 := by omega
    have hre : r = bl n := by omega
    subst h0
    simp [e0, e3]
    rw [hre]
    exact ⟨BH.Keeps.refl K, rfl⟩
end Go.Proofs.YtcnkhkmapgbodaaDoor.W
end

section
namespace Go.Proofs.YtcnkhkmapgbodaaDoor.W
set_option linter.unusedVariables false
set_option linter.unusedSimpArgs false
open Go.B
variable {base : Nat}
attribute [local simp] wpC_skip wpC_region wpC_seq wpC_true wpC_false wpC_block wpC_exit wpC_ret wpO_nil wpO_n wpO_tt wpO_ff wpO_tf wpO_ft wpO_u wpS_mov wpS_pick wpS_build wpS_load wpS_store wpS_nilck wpS_bin wpS_beq wpS_isnil wpS_eqs wpS_not wpS_neg wpS_conv wpS_lea wpS_fld wpS_idx wpS_idxs wpS_slice wpS_sslice wpS_mkfn wpS_mset wpS_look wpS_ext wpS_len wpS_new wpS_box wpS_mk wpS_mkmap wpS_mksl wpS_app wpS_fn wpS_call after_some pthen_n pthen_x pthen_r pin BExit.outOf puto_some puto_none put_eq put_ne Opd.ev argEnv op1_mov op1_pick op1_new op1_box op1_load op1_nilck op1_bin op1_beq op1_not op1_neg op1_conv op1_lea op1_fld op1_len0 op1_len1 op1_idx op1_ext op1_build op1_mk op1_stw op1_mksl op1_eqs pureBin isShift resOf resVals val_tmp val_cell oneOf one_int cells_int one_bool cells_bool one_str cells_str one_nilp cells_nilp one_ptr cells_ptr one_nils cells_nils one_sl cells_sl one_sle cells_sle one_nilm cells_nilm one_mp cells_mp one_nilf cells_nilf one_fn cells_fn one_nili cells_nili cells_agg isSl_sl slen_sl sat_sl make_of asm rtOk wpS_b2s op1_b2s wpS_imax op1_imax wpS_imin op1_imin wpS_i2s op1_i2s op1_isnil Option.map_some gam_base op1_app op1_idxs wpS_idxa op1_idxa op1_sslice bound_none bound_some nat_of op1_mkmap op1_mset op1_look op1_len2 op1_mkfn fillB Has
open Go.Au
/-- A column with these digits. -/
def colD (ds : List Nat) : Nat := ds.foldr (fun d a => 3 * a + d) 0
def Dig3 (ds : List Nat) : Prop := ∀ d ∈ ds, d < 3
theorem colD_lt : ∀ {ds : List Nat}, Dig3 ds → colD ds < p3 ds.length
  | [], _ => by simp [colD, p3]
  | d :: ds, h => by
    have h1 := colD_lt (ds := ds) fun x hx => h x (List.mem_cons_of_mem _ hx)
    have h2 := h d List.mem_cons_self
    simp only [List.length_cons, p3_succ]
    show 3 * colD ds + d < _
    omega
theorem colD_wd : ∀ {ds : List Nat}, Dig3 ds → (∃ d ∈ ds, d < 2) → colD ds < wd ds.length
  | [], _, h => by obtain ⟨d, hd, _⟩ := h; cases hd
  | d :: ds, h, hs => by
    have hd : Dig3 ds := fun x hx => h x (List.mem_cons_of_mem _ hx)
    have h1 := colD_lt hd
    have h2 := h d List.mem_cons_self
    have h3 := p3_pos ds.length
    unfold wd
    simp only [List.length_cons, p3_succ]
    show 3 * colD ds + d < _
    obtain ⟨x, hx, hx2⟩ := hs
    rcases List.mem_cons.1 hx with rfl | hx
    · omega
    · have h4 := colD_wd hd ⟨x, hx, hx2⟩
      unfold wd at h4
      omega
theorem colD_snoc (ds : List Nat) (d : Nat) : colD (ds ++ [d]) = colD ds + d * p3 ds.length := by
  induction ds with
  | nil => simp [colD, p3]
  | cons x ds ih =>
    show 3 * colD (ds ++ [d]) + x = 3 * colD ds + x + d * p3 (ds.length + 1)
    rw [ih, p3_succ, Nat.mul_add, ← Nat.mul_assoc d, Nat.mul_comm (d * p3 ds.length)]
    omega
theorem colD_drop {ds : List Nat} {i : Nat} (h : i < ds.length) : colD (ds.drop i) = 3 * colD (ds.drop (i + 1)) + ds[i] := by
  rw [List.drop_eq_getElem_cons h]
  rfl
/-- A word: its letters. -/
def IsW (w : List Nat) : Prop := ∀ b ∈ w, b = 97 ∨ b = 98
/-- What a word has in a column. -/
def dgW (i : Nat) (w : List Nat) : Nat := if i < w.length then w.getD i 97 - 97 else 2
def colW (ws : List (List Nat)) (i : Nat) : Nat := colD (ws.map (dgW i))
def lngW (ws : List (List Nat)) : Nat := ws.foldl (fun a w => max a w.length) 0
def colsW (ws : List (List Nat)) : List Nat := (List.range (lngW ws)).map (colW ws)
theorem lng_snoc (ws : List (List Nat)) (w : List Nat) : lngW (ws ++ [w]) = max (lngW ws) w.length := by simp [lngW, List.foldl_append]
theorem lng_le {ws : List (List Nat)} {N : Nat} : (∀ w ∈ ws, w.length ≤ N) → lngW ws ≤ N := by
  have key : ∀ (ws : List (List Nat)) (a : Nat), a ≤ N → (∀ w ∈ ws, w.length ≤ N) → ws.foldl (fun a w => max a w.length) a ≤ N := by
    intro ws
    induction ws with
    | nil => intro a ha _; exact ha
    | cons w ws ih =>
      intro a ha h
      have := h w List.mem_cons_self
      exact ih _ (Nat.max_le.2 ⟨ha, this⟩) fun x hx => h x (List.mem_cons_of_mem _ hx)
  exact key ws 0 (Nat.zero_le _)
theorem lng_lt {ws : List (List Nat)} {i : Nat} : i < lngW ws ↔ ∃ w ∈ ws, i < w.length := by
  have key : ∀ (ws : List (List Nat)) (a : Nat), i < ws.foldl (fun a w => max a w.length) a ↔ (i < a ∨ ∃ w ∈ ws, i < w.length) := by
    intro ws
    induction ws with
    | nil => intro a; simp
    | cons w ws ih =>
      intro a
      have hm : i < max a w.length ↔ i < a ∨ i < w.length := by omega
      rw [List.foldl_cons, ih, hm]
      simp only [List.mem_cons, exists_eq_or_imp]
      exact or_assoc
  rw [lngW, key]
  simp
theorem IsW.get {w : List Nat} (h : IsW w) {i : Nat} (hi : i < w.length) : w[i] = 97 ∨ w[i] = 98 := h _ (List.getElem_mem hi)
theorem dgW_lt {w : List Nat} (h : IsW w) (i : Nat) : dgW i w < 3 := by
  unfold dgW
  split
  · rename_i hi
    have := h.get hi
    simp [hi]
    omega
  · omega
theorem dgW_let {w : List Nat} (h : IsW w) {i : Nat} (hi : i < w.length) : dgW i w = w[i] - 97 ∧ dgW i w < 2 := by
  have := h.get hi
  simp only [dgW, hi, if_true]
  simp [hi]
  omega
theorem col_dig {ws : List (List Nat)} (h : ∀ w ∈ ws, IsW w) (i : Nat) : Dig3 (ws.map (dgW i)) := fun d hd => by
  obtain ⟨w, hw, rfl⟩ := List.mem_map.1 hd
  exact dgW_lt (h w hw) i
theorem cols_in {ws : List (List Nat)} (h : ∀ w ∈ ws, IsW w) : In (wd ws.length) (colsW ws) := fun c hc => by
  obtain ⟨i, hi, rfl⟩ := List.mem_map.1 hc
  rw [List.mem_range, lng_lt] at hi
  obtain ⟨w, hw, hl⟩ := hi
  have := colD_wd (col_dig h i) ⟨dgW i w, List.mem_map.2 ⟨w, hw, rfl⟩, (dgW_let (h w hw) hl).2⟩
  rwa [List.length_map] at this
theorem colsW_len (ws : List (List Nat)) : (colsW ws).length = lngW ws := by simp [colsW]
/-- A byte of a word. -/
theorem str_at {w : List Nat} {i : Nat} (hi : i < w.length) (h : IsW w) : ((strL w)[i]?).map (fun b => (BV.int .u8 b.toNat, (0 : Nat))) = some (BV.int .u8 (w[i] : Nat), 0) := by
  have h1 : (strL w)[i]? = some (UInt8.ofNat w[i]) := by
    rw [getElem?_pos (strL w) i (by rw [show (strL w).size = w.length from strL_size w]; exact hi)]
    simp [strL, ByteArray.getElem_eq_getElem_data]
  rw [h1]
  have := h.get hi
  have h2 : (UInt8.ofNat w[i]).toNat = w[i] := by rw [UInt8.toNat_ofNat']; omega
  simp [h2]
theorem str_get {w : List Nat} {i : Nat} (hi : i < w.length) (h : IsW w) : (strL w)[i]? = some (UInt8.ofNat w[i]) := by
  rw [getElem?_pos (strL w) i (by rw [show (strL w).size = w.length from strL_size w]; exact hi)]
  simp [strL, ByteArray.getElem_eq_getElem_data]
theorem u8_let {b : Nat} (h : b = 97 ∨ b = 98) : (UInt8.ofNat b).toNat = b := by rw [UInt8.toNat_ofNat']; omega
theorem let_sub {b : Nat} (h : b = 97 ∨ b = 98) : IntKind.i64.wrap (IntKind.u8.wrap ((b : Int) - 97)) = ((b - 97 : Nat) : Int) := by rcases h with rfl | rfl <;> rfl
theorem i_columnOf (ds : List Nat) (v : BV) (H : BH) (h : Rd H 3 v (ds.map encN)) (h3 : Dig3 ds) (hl : ds.length ≤ 30) : FnDoes (gam base) 65 [v] H fun u K => u = encN (colD ds) := by
  refine FnDoes.of (fn := ir65) rfl ?_
  have w0 := wsub1 (n := ds.length) (by omega)
  simp [ir65, h.isSl, h.lenM, w0]
  refine wpC_countK ds.length [(0, v)] (fun i e K => e 3 = encN (colD (ds.drop (ds.length - i))) ∧ e 4 = .int .i64 ((ds.length : Int) - 1 - i) ∧ K = H) (i0 := 0) rfl ?_ ?_ (Nat.zero_le _) ?_
  · simp
  · simp [colD]
  rintro i e K hi ⟨e0, -⟩ ⟨e3, e4, rfl⟩
  simp only [] at e0
  by_cases hlt : i < ds.length
  · have hj : ds.length - i = ds.length - (i + 1) + 1 := by omega
    obtain ⟨j, hjj⟩ : ∃ j, j = ds.length - (i + 1) := ⟨_, rfl⟩
    have e4' : ((ds.length : Int) - 1 - i) = (j : Int) := by omega
    have hjl : j < ds.length := by omega
    have c1 := colD_drop hjl
    have c2 := colD_lt (ds := ds.drop (j + 1)) fun x hx => h3 x (List.mem_of_mem_drop hx)
    have c3 := p3_le (show (ds.drop (j + 1)).length ≤ 30 by simp; omega)
    rw [p3_30] at c3
    have hd := h3 _ (List.getElem_mem hjl)
    have g1 := h.at (i := j) hjl (rt := none) rfl
    rw [hj, ← hjj] at e3
    rw [e4'] at e4
    have m1 := pb_mul (a := 3) (b := colD (ds.drop (j + 1))) (by omega)
    have w1 : IntKind.i64.wrap (3 * ((colD (ds.drop (j + 1)) : Nat) : Int)) = ((3 * colD (ds.drop (j + 1)) : Nat) : Int) := by rw [w64 (by omega) (by omega)]; simp
    have w2 : IntKind.i64.wrap (((3 * colD (ds.drop (j + 1)) : Nat) : Int) + (ds[j] : Nat)) = ((colD (ds.drop j) : Nat) : Int) := by rw [w64 (by omega) (by omega), c1]; simp
    have w4 := wsub1 (n := j) (by omega)
    simp [e0, e3, e4, hjl, h.isSl, h.lenM, g1, w1, w4, hlt]
    refine ⟨?_, by omega⟩
    have : IntKind.i64.wrap (3 * ((colD (ds.drop (j + 1)) : Nat) : Int) + ((ds[j] : Nat) : Int)) = ((colD (ds.drop j) : Nat) : Int) := by rw [w64 (by omega) (by omega), c1]; simp
    subst hjj
    exact this
  · have hie : i = ds.length := by omega
    subst hie
    rw [show ((ds.length : Int) - 1 - (ds.length : Nat)) = -1 by omega] at e4
    simp [e3, e4]
    exact BH.Keeps.refl K
end Go.Proofs.YtcnkhkmapgbodaaDoor.W
end

section
namespace Go.Proofs.YtcnkhkmapgbodaaDoor.W
set_option linter.unusedVariables false
set_option linter.unusedSimpArgs false
open Go.B
variable {base : Nat}
attribute [local simp] wpC_skip wpC_region wpC_seq wpC_true wpC_false wpC_block wpC_exit wpC_ret wpO_nil wpO_n wpO_tt wpO_ff wpO_tf wpO_ft wpO_u wpS_mov wpS_pick wpS_build wpS_load wpS_store wpS_nilck wpS_bin wpS_beq wpS_isnil wpS_eqs wpS_not wpS_neg wpS_conv wpS_lea wpS_fld wpS_idx wpS_idxs wpS_slice wpS_sslice wpS_mkfn wpS_mset wpS_look wpS_ext wpS_len wpS_new wpS_box wpS_mk wpS_mkmap wpS_mksl wpS_app wpS_fn wpS_call after_some pthen_n pthen_x pthen_r pin BExit.outOf puto_some puto_none put_eq put_ne Opd.ev argEnv op1_mov op1_pick op1_new op1_box op1_load op1_nilck op1_bin op1_beq op1_not op1_neg op1_conv op1_lea op1_fld op1_len0 op1_len1 op1_idx op1_ext op1_build op1_mk op1_stw op1_mksl op1_eqs pureBin isShift resOf resVals val_tmp val_cell oneOf one_int cells_int one_bool cells_bool one_str cells_str one_nilp cells_nilp one_ptr cells_ptr one_nils cells_nils one_sl cells_sl one_sle cells_sle one_nilm cells_nilm one_mp cells_mp one_nilf cells_nilf one_fn cells_fn one_nili cells_nili cells_agg isSl_sl slen_sl sat_sl make_of asm rtOk wpS_b2s op1_b2s wpS_imax op1_imax wpS_imin op1_imin wpS_i2s op1_i2s op1_isnil Option.map_some gam_base op1_app op1_idxs wpS_idxa op1_idxa op1_sslice bound_none bound_some nat_of op1_mkmap op1_mset op1_look op1_len2 op1_mkfn fillB Has
open Go.Au
abbrev encW (w : List Nat) : BV := .str (strL w)
theorem lng_take {ws : List (List Nat)} {i : Nat} (h : i < ws.length) : lngW (ws.take (i + 1)) = max (lngW (ws.take i)) ws[i].length := by
  rw [List.take_add_one, List.getElem?_eq_getElem h]
  exact lng_snoc _ _
theorem max_int (a b : Nat) : (if (a : Int) < (b : Int) then (b : Int) else (a : Int)) = ((max a b : Nat) : Int) := by split <;> omega
theorem max_nat (a b : Nat) : (if a < b then (b : Int) else (a : Int)) = ((max a b : Nat) : Int) := by split <;> omega
theorem str_getE (w : List Nat) (i : Nat) (hi : i < (strL w).size) : (strL w)[i] = UInt8.ofNat (w[i]'(by rwa [strL_size] at hi)) := by simp [strL, ByteArray.getElem_eq_getElem_data]
theorem let_mod {b : Nat} (h : b = 97 ∨ b = 98) : b % 256 = b := by omega
/-- The digits in a column. -/
def dgsW (ws : List (List Nat)) (i j : Nat) : List Nat := (ws.take j).map (dgW i)
theorem dgsW_len {ws : List (List Nat)} {i j : Nat} (h : j ≤ ws.length) : (dgsW ws i j).length = j := by simp [dgsW]; omega
theorem dgsW_succ {ws : List (List Nat)} {i j : Nat} (h : j < ws.length) : dgsW ws i (j + 1) = dgsW ws i j ++ [dgW i ws[j]] := by
  unfold dgsW
  rw [List.take_add_one, List.getElem?_eq_getElem h, List.map_append]
  rfl
theorem i_columnsOf (ws : List (List Nat)) (v : BV) (H : BH) (h : Rd H 9 v (ws.map encW)) (hw : ∀ w ∈ ws, IsW w) (hn : ws.length ≤ 30) (hl : ∀ w ∈ ws, w.length ≤ 1000000) :
    FnDoes (gam base) 41 [v] H fun u K => ∃ bo, OwnV base K 3 u ((colsW ws).map encN) bo ∧ Fr H bo := by
  obtain ⟨R, hR⟩ : ∃ R : BV → BH → Prop, R = fun u K => ∃ bo, OwnV base K 3 u ((colsW ws).map encN) bo ∧ Fr H bo := ⟨_, rfl⟩
  rw [← hR]
  refine FnDoes.of (fn := ir41) rfl ?_
  have hlm := lng_le hl
  simp [ir41, h.isSl, h.lenM]
  obtain ⟨I, hI⟩ : ∃ I : Nat → Env → BH → Prop, I = (fun i e K => e 14 = encN i ∧ e 3 = encN (lngW (ws.take i)) ∧ K = H) := ⟨_, rfl⟩
  refine wpC_countK ws.length [(0, v), (12, v), (13, encN ws.length)] I (i0 := 0) rfl ?_ ?_ (Nat.zero_le _) ?_
  · simp
  · rw [hI]; exact ⟨by simp, by simp [lngW], rfl⟩
  rintro i e K hi ⟨e0, e12, e13, -⟩ hh
  rw [hI] at hh
  obtain ⟨e14, e3, rfl⟩ := hh
  simp only [] at e0 e12 e13
  by_cases hlt : i < ws.length
  · have g1 := h.at (i := i) hlt (rt := none) rfl
    have wi := wS (n := i) (by omega)
    simp [e12, e13, e14, e3, hlt, h.isSl, h.lenM, g1, wi, strL_size, max_nat]
    rw [hI]
    refine ⟨by simp, ?_, rfl⟩
    rw [lng_take hlt]
    simp
  have hie : i = ws.length := by omega
  subst hie
  rw [List.take_length] at e3
  simp [e13, e14]
  obtain ⟨J, hJ⟩ : ∃ J : Nat → Env → BH → Prop, J = (fun i e K' => e 7 = encN i ∧ ∃ u bo, e 6 = u ∧ Own base K K' [(bo, .arr 3 (((List.range i).map (colW ws)).map encN))] ∧ Vec bo u i) := ⟨_, rfl⟩
  refine wpC_countK (lngW ws) [(0, v), (3, encN (lngW ws))] J (i0 := 0) rfl ?_ ?_ (Nat.zero_le _) ?_
  · simp [e0, e3]
  · rw [hJ]; exact ⟨by simp, .nils, none, by simp, Own.start.nil _, Vec.none⟩
  clear e0 e12 e13 e14 e3
  rintro i e M hi' ⟨e0, e3, -⟩ hh
  rw [hJ] at hh
  obtain ⟨e7, u, bo, e6, o, hu⟩ := hh
  simp only [] at e0 e3
  have hm := h.keeps o.keeps
  by_cases hlt : i < lngW ws
  · have wi := wS (n := i) (by omega)
    simp [e7, e3, hlt, e0, hm.isSl, hm.lenM]
    obtain ⟨G, hG⟩ : ∃ G : Nat → Env → BH → Prop, G = (fun j e K' => e 30 = encN j ∧ ∃ u2 bo2, e 8 = u2 ∧ Own base K K' [(bo2, .arr 3 ((dgsW ws i j).map encN)), (bo, .arr 3 (((List.range i).map (colW ws)).map encN))] ∧ Vec bo2 u2 j) := ⟨_, rfl⟩
    refine wpC_countK ws.length [(0, v), (3, encN (lngW ws)), (7, encN i), (6, u), (28, v), (29, encN ws.length)] G (i0 := 0) rfl ?_ ?_ (Nat.zero_le _) ?_
    · simp [e0, e3, e7, e6]
    · rw [hG]
      exact ⟨by simp, .nils, none, by simp, by simpa [dgsW] using o.nil _, Vec.none⟩
    clear e0 e3 e7 e6
    rintro j e N hj ⟨e0, e3, e7, e6, e28, e29, -⟩ hh
    rw [hG] at hh
    obtain ⟨e30, u2, bo2, e8, o2, hu2⟩ := hh
    simp only [] at e0 e3 e7 e6 e28 e29
    have hm2 := h.keeps o2.keeps
    by_cases hlt2 : j < ws.length
    · have g1 := hm2.at (i := j) hlt2 (rt := none) rfl
      have wj := wS (n := j) (by omega)
      have hwj := hw _ (List.getElem_mem hlt2)
      have hlj := hl _ (List.getElem_mem hlt2)
      obtain ⟨w, hwe⟩ : ∃ w, w = ws[j] := ⟨_, rfl⟩
      have hs := dgsW_succ (i := i) hlt2
      rw [← hwe] at hwj hlj g1 hs
      by_cases hil : i < w.length
      · have g2 := str_get hil hwj
        have g3 := u8_let (hwj.get hil)
        have g4 := let_sub (hwj.get hil)
        have g5 := (dgW_let hwj hil).1
        simp [e28, e29, e30, hlt2, hm2.isSl, hm2.lenM, g1, e7, strL_size, hil, str_getE, g3, g4, e8]
        intro n1 b1 f1
        simp [make_of f1 b1]
        intro n2 b2 f2
        obtain ⟨v', K', b', q1, q2, q3⟩ := o2.push 0 rfl (by simpa [dgsW_len hj] using hu2) (x := encN (w[i] - 97)) (bytes := 8) rfl (by simp [dgsW_len hj]; omega) (by simp [dgsW_len hj]; omega) f1 b1 f2 b2
        simp [q1, e30, wj, hlt2]
        rw [hG]
        refine ⟨by simp, v', some b', by simp, ?_, by simpa [dgsW_len hj] using q3⟩
        rw [hs, g5]
        simpa using q2
      · have g5 : dgW i w = 2 := by simp [dgW, hil]
        simp [e28, e29, e30, hlt2, hm2.isSl, hm2.lenM, g1, e7, strL_size, hil, e8]
        intro n1 b1 f1
        simp [make_of f1 b1]
        intro n2 b2 f2
        obtain ⟨v', K', b', q1, q2, q3⟩ := o2.push 0 rfl (by simpa [dgsW_len hj] using hu2) (x := .int .i64 2) (bytes := 8) rfl (by simp [dgsW_len hj]; omega) (by simp [dgsW_len hj]; omega) f1 b1 f2 b2
        simp [q1, e30, wj, hlt2]
        rw [hG]
        refine ⟨by simp, v', some b', by simp, ?_, by simpa [dgsW_len hj] using q3⟩
        rw [hs, g5]
        simpa [show encN 2 = BV.int .i64 2 from rfl] using q2
    · have hje : j = ws.length := by omega
      subst hje
      have hcol : colD (dgsW ws i ws.length) = colW ws i := by unfold dgsW colW; rw [List.take_length]
      have hd3 : Dig3 (dgsW ws i ws.length) := by unfold dgsW; rw [List.take_length]; exact col_dig hw i
      simp [e29, e30, e8, e6]
      refine (i_columnOf (base := base) (dgsW ws i ws.length) u2 N (o2.rd 0 rfl (by simpa [dgsW_len] using hu2)) hd3 (by rw [dgsW_len (Nat.le_refl _)]; omega)).step fun v5 K5 k5 hv => ?_
      subst hv
      rw [hcol]
      simp [e6]
      intro n1 b1 f1
      simp [make_of f1 b1]
      intro n2 b2 f2
      obtain ⟨v', K', b', q1, q2, q3⟩ := (o2.call k5).tail.push 0 rfl (by simpa using hu) (x := encN (colW ws i)) (bytes := 8) rfl (by simp; omega) (by simp; omega) f1 b1 f2 b2
      simp [q1, e7, wi, hlt]
      rw [hJ]
      refine ⟨by simp, v', some b', by simp, ?_, by simpa using q3⟩
      rw [List.range_succ, List.map_append, List.map_append]
      simpa using q2
  · have hie : i = lngW ws := by omega
    subst hie
    simp [e7, e3, e6]
    rw [hR]
    exact ⟨o.keeps, bo, o.vec 0 rfl (by simpa [colsW] using hu), fun b hb => by subst hb; exact o.fr 0 rfl⟩
end Go.Proofs.YtcnkhkmapgbodaaDoor.W
end

section
namespace Go.Proofs.YtcnkhkmapgbodaaDoor.W
set_option linter.unusedVariables false
set_option linter.unusedSimpArgs false
open Go.B
variable {base : Nat}
attribute [local simp] wpC_skip wpC_region wpC_seq wpC_true wpC_false wpC_block wpC_exit wpC_ret wpO_nil wpO_n wpO_tt wpO_ff wpO_tf wpO_ft wpO_u wpS_mov wpS_pick wpS_build wpS_load wpS_store wpS_nilck wpS_bin wpS_beq wpS_isnil wpS_eqs wpS_not wpS_neg wpS_conv wpS_lea wpS_fld wpS_idx wpS_idxs wpS_slice wpS_sslice wpS_mkfn wpS_mset wpS_look wpS_ext wpS_len wpS_new wpS_box wpS_mk wpS_mkmap wpS_mksl wpS_app wpS_fn wpS_call after_some pthen_n pthen_x pthen_r pin BExit.outOf puto_some puto_none put_eq put_ne Opd.ev argEnv op1_mov op1_pick op1_new op1_box op1_load op1_nilck op1_bin op1_beq op1_not op1_neg op1_conv op1_lea op1_fld op1_len0 op1_len1 op1_idx op1_ext op1_build op1_mk op1_stw op1_mksl op1_eqs pureBin isShift resOf resVals val_tmp val_cell oneOf one_int cells_int one_bool cells_bool one_str cells_str one_nilp cells_nilp one_ptr cells_ptr one_nils cells_nils one_sl cells_sl one_sle cells_sle one_nilm cells_nilm one_mp cells_mp one_nilf cells_nilf one_fn cells_fn one_nili cells_nili cells_agg isSl_sl slen_sl sat_sl make_of asm rtOk wpS_b2s op1_b2s wpS_imax op1_imax wpS_imin op1_imin wpS_i2s op1_i2s op1_isnil Option.map_some gam_base op1_app op1_idxs wpS_idxa op1_idxa op1_sslice bound_none bound_some nat_of op1_mkmap op1_mset op1_look op1_len2 op1_mkfn fillB Has
open Go.Au
def smW (ws : List (List Nat)) (i j : Nat) : Bool := (ws.take j).any fun w => decide (i < w.length)
theorem smW_succ {ws : List (List Nat)} {i j : Nat} (h : j < ws.length) : smW ws i (j + 1) = (smW ws i j || decide (i < ws[j].length)) := by
  unfold smW
  rw [List.take_add_one, List.getElem?_eq_getElem h, List.any_append]
  simp
theorem smW_all (ws : List (List Nat)) (i : Nat) : smW ws i ws.length = decide (i < lngW ws) := by
  unfold smW
  rw [List.take_length, Bool.eq_iff_iff, decide_eq_true_eq, lng_lt, List.any_eq_true]
  simp
theorem s_columns (ws : List (List Nat)) (v : BV) (H : BH) (h : Rd H 9 v (ws.map encW)) (hw : ∀ w ∈ ws, IsW w) (hn : ws.length ≤ 20) (hl : ∀ w ∈ ws, w.length ≤ 1000000) :
    FnDoes (gam base) 63 [v] H fun u K => ∃ bo, OwnV base K 2 u ((colsW ws).map encN) bo ∧ Fr H bo := by
  obtain ⟨R, hR⟩ : ∃ R : BV → BH → Prop, R = fun u K => ∃ bo, OwnV base K 2 u ((colsW ws).map encN) bo ∧ Fr H bo := ⟨_, rfl⟩
  rw [← hR]
  refine FnDoes.of (fn := ir63) rfl ?_
  have hlm := lng_le hl
  simp [ir63]
  intro n4 b4 f4
  have o0 := Own.start (base := base) (H := H) |>.new f4 b4 (s := .arr 2 [])
  simp [make_of f4 b4]
  obtain ⟨J, hJ⟩ : ∃ J : Nat → Env → BH → Prop, J = (fun i e K' => e 4 = encN i ∧ ∃ u bo, e 3 = u ∧ Own base H K' [(bo, .arr 2 (((List.range i).map (colW ws)).map encN))] ∧ Vec bo u i) := ⟨_, rfl⟩
  refine wpC_countK (lngW ws) [(0, v)] J (i0 := 0) rfl ?_ ?_ (Nat.zero_le _) ?_
  · simp
  · rw [hJ]; exact ⟨by simp, .sl n4 0 0, some n4, by simp, by simpa using o0, rfl⟩
  clear o0
  rintro i e M hi' ⟨e0, -⟩ hh
  rw [hJ] at hh
  obtain ⟨e4, u, bo, e3, o, hu⟩ := hh
  simp only [] at e0
  have hm := h.keeps o.keeps
  have wi := wS (n := i) (by omega)
  simp
  obtain ⟨G, hG⟩ : ∃ G : Nat → Env → BH → Prop, G = (fun j e K' => e 7 = encN j ∧ e 5 = encN (colD (dgsW ws i j)) ∧ e 6 = .bool (smW ws i j) ∧ K' = M) := ⟨_, rfl⟩
  refine wpC_countK ws.length [(0, v), (3, u), (4, encN i)] G (i0 := 0) rfl ?_ ?_ (Nat.zero_le _) ?_
  · simp [e0, e3, e4]
  · rw [hG]
    exact ⟨by simp, by simp [dgsW, colD], by simp [smW], rfl⟩
  clear e0 e3 e4
  rintro j e N hj ⟨e0, e3, e4, -⟩ hh
  rw [hG] at hh
  obtain ⟨e7, e5, e6, rfl⟩ := hh
  simp only [] at e0 e3 e4
  by_cases hlt2 : j < ws.length
  · have g1 := hm.at (i := j) hlt2 (rt := none) rfl
    have wj := wS (n := j) (by omega)
    have hwj := hw _ (List.getElem_mem hlt2)
    obtain ⟨w, hwe⟩ : ∃ w, w = ws[j] := ⟨_, rfl⟩
    have hs := dgsW_succ (i := i) hlt2
    have hsm := smW_succ (i := i) hlt2
    have hc := colD_snoc (dgsW ws i j) (dgW i ws[j])
    have hd3 : Dig3 (dgsW ws i j) := fun d hd => by
      obtain ⟨x, hx, rfl⟩ := List.mem_map.1 hd
      exact dgW_lt (hw x (List.mem_of_mem_take hx)) i
    have hcl := colD_lt hd3
    rw [dgsW_len hj] at hcl hc
    have hp := p3_le (show j ≤ 20 by omega)
    have hp20 : p3 20 = 3486784401 := by decide
    have hdl := dgW_lt hwj i
    rw [hp20] at hp
    rw [← hs] at hc
    rw [← hwe] at hwj g1 hs hsm hc hdl
    have hmul : dgW i w * p3 j ≤ 3 * 3486784401 := Nat.mul_le_mul (by omega) hp
    have w1 : IntKind.i64.wrap (((dgW i w : Nat) : Int) * ((p3 j : Nat) : Int)) = ((dgW i w * p3 j : Nat) : Int) := by
      rw [← Int.natCast_mul]; exact wN (by omega)
    have w2 : IntKind.i64.wrap (((colD (dgsW ws i j) : Nat) : Int) + ((dgW i w * p3 j : Nat) : Int)) = ((colD (dgsW ws i (j + 1)) : Nat) : Int) := by
      rw [← Int.natCast_add, hc]; exact wN (by omega)
    by_cases hil : i < w.length
    · have g3 := let_mod (hwj.get hil)
      have g4 := let_sub (hwj.get hil)
      have g5 := (dgW_let hwj hil).1
      rw [g5] at w1 w2
      simp [e0, e7, hlt2, hm.isSl, hm.lenM, g1, e4, strL_size, hil, str_getE, g3, g4, e5]
      refine callP (s_power j N (by omega)) ?_
      simp [w1, w2, e7, wj, hlt2]
      have w2' := w2
      rw [Int.natCast_mul] at w2'
      simp only [w2', true_and]
      rw [hG]
      refine ⟨by simp, by simp, by simp [hsm, hil], rfl⟩
    · have g5 : dgW i w = 2 := by simp [dgW, hil]
      rw [g5] at w1 w2
      have w1' : IntKind.i64.wrap (2 * ((p3 j : Nat) : Int)) = ((2 * p3 j : Nat) : Int) := w1
      simp [e0, e7, hlt2, hm.isSl, hm.lenM, g1, e4, strL_size, hil, e5]
      refine callP (s_power j N (by omega)) ?_
      simp [w1', e7, wj, hlt2]
      have w2' := w2
      rw [Int.natCast_mul] at w2'
      have w2'' : IntKind.i64.wrap (((colD (dgsW ws i j) : Nat) : Int) + 2 * ((p3 j : Nat) : Int)) = ((colD (dgsW ws i (j + 1)) : Nat) : Int) := w2'
      simp only [w2'', true_and]
      rw [hG]
      refine ⟨by simp, by simp, by simp [hsm, hil, e6], rfl⟩
  · have hje : j = ws.length := by omega
    subst hje
    have hcol : colD (dgsW ws i ws.length) = colW ws i := by unfold dgsW colW; rw [List.take_length]
    rw [smW_all] at e6
    rw [hcol] at e5
    by_cases hlt : i < lngW ws
    · simp only [hlt, decide_true] at e6
      simp [e0, e7, e6, e5, e3, hm.isSl, hm.lenM]
      intro n1 b1 f1
      simp [make_of f1 b1]
      intro n2 b2 f2
      obtain ⟨v', K', b', q1, q2, q3⟩ := o.push 0 rfl (by simpa using hu) (x := encN (colW ws i)) (bytes := 8) rfl (by simp; omega) (by simp; omega) f1 b1 f2 b2
      simp [q1, e4, wi, hlt]
      rw [hJ]
      refine ⟨by simp, v', some b', by simp, ?_, by simpa using q3⟩
      rw [List.range_succ, List.map_append, List.map_append]
      simpa using q2
    · have hie : i = lngW ws := by omega
      subst hie
      simp only [Nat.lt_irrefl, decide_false] at e6
      simp [e0, e7, e6, e3, hm.isSl, hm.lenM]
      rw [hR]
      exact ⟨o.keeps, bo, o.vec 0 rfl (by simpa [colsW] using hu), fun b hb => by subst hb; exact o.fr 0 rfl⟩
end Go.Proofs.YtcnkhkmapgbodaaDoor.W
end

section
namespace Go.Proofs.YtcnkhkmapgbodaaDoor.W
set_option linter.unusedVariables false
set_option linter.unusedSimpArgs false
open Go.B
variable {base : Nat}
attribute [local simp] wpC_skip wpC_region wpC_seq wpC_true wpC_false wpC_block wpC_exit wpC_ret wpO_nil wpO_n wpO_tt wpO_ff wpO_tf wpO_ft wpO_u wpS_mov wpS_pick wpS_build wpS_load wpS_store wpS_nilck wpS_bin wpS_beq wpS_isnil wpS_eqs wpS_not wpS_neg wpS_conv wpS_lea wpS_fld wpS_idx wpS_idxs wpS_slice wpS_sslice wpS_mkfn wpS_mset wpS_look wpS_ext wpS_len wpS_new wpS_box wpS_mk wpS_mkmap wpS_mksl wpS_app wpS_fn wpS_call after_some pthen_n pthen_x pthen_r pin BExit.outOf puto_some puto_none put_eq put_ne Opd.ev argEnv op1_mov op1_pick op1_new op1_box op1_load op1_nilck op1_bin op1_beq op1_not op1_neg op1_conv op1_lea op1_fld op1_len0 op1_len1 op1_idx op1_ext op1_build op1_mk op1_stw op1_mksl op1_eqs pureBin isShift resOf resVals val_tmp val_cell oneOf one_int cells_int one_bool cells_bool one_str cells_str one_nilp cells_nilp one_ptr cells_ptr one_nils cells_nils one_sl cells_sl one_sle cells_sle one_nilm cells_nilm one_mp cells_mp one_nilf cells_nilf one_fn cells_fn one_nili cells_nili cells_agg isSl_sl slen_sl sat_sl make_of asm rtOk wpS_b2s op1_b2s wpS_imax op1_imax wpS_imin op1_imin wpS_i2s op1_i2s op1_isnil Option.map_some gam_base op1_app op1_idxs wpS_idxa op1_idxa op1_sslice bound_none bound_some nat_of op1_mkmap op1_mset op1_look op1_len2 op1_mkfn fillB Has
open Go.Au
/-- A cell of an automaton, as it is read. -/
theorem cellR {H : BH} {ty ty2 : Nat} {x : BV} {A : Aut} {w : Nat} (hx : RdR H ty ty2 x encN A.nxt) (hok : A.Ok w) {q c : Nat} (hq : q < A.acc.length) (hc : c < w) :
    ∃ r, (∀ rt, rtOk rt ty = true → H.rd rt none (x.sat q 1) = some r) ∧ r.isSl = true ∧ r.slen = w ∧ (∀ rt, rtOk rt ty2 = true → H.rd rt none (r.sat c 1) = some (encN (A.to q c))) := by
  have hq' : q < A.nxt.length := by rw [hok.len]; exact hq
  obtain ⟨r, h1, h2⟩ := hx.at hq'
  have hl := (hok.row _ (List.getElem_mem hq')).1
  have hc' : c < A.nxt[q].length := by omega
  have e : A.to q c = A.nxt[q][c] := by simp [Aut.to, hq', hc']
  exact ⟨r, h2, h1.isSl, by rw [h1.lenM, hl], fun rt hrt => by rw [h1.at hc' hrt, e]⟩
theorem run_take (A : Aut) (s : Nat) {cs : List Nat} {i : Nat} (h : i < cs.length) : A.run s (cs.take (i + 1)) = A.to (A.run s (cs.take i)) cs[i] := by
  rw [List.take_add_one, List.getElem?_eq_getElem h]
  simp only [Aut.run, Option.toList, List.foldl_append, List.foldl_cons, List.foldl_nil]
theorem _root_.Go.Au.In.take {w : Nat} {cs : List Nat} (h : In w cs) (i : Nat) : In w (cs.take i) := fun c hc => h c (List.mem_of_mem_take hc)
theorem acc_getD {A : Aut} {q : Nat} (h : q < A.acc.length) : A.acc[q] = A.acc.getD q false := by simp [h]
theorem i_takes (t s w : Nat) (A : Aut) (m cv : BV) (cs : List Nat) (H : BH) (h : RdM H t s A m) (hok : A.Ok w) (hs : s < A.acc.length) (hc : Rd H 3 cv (cs.map encN)) (hin : In w cs) (hn : cs.length ≤ 1000000) :
    FnDoes (gam base) 40 [m, cv] H fun v _ => v = .bool (A.lang s cs) := by
  obtain ⟨R, hR⟩ : ∃ R : BV → BH → Prop, R = fun v _ => v = .bool (A.lang s cs) := ⟨_, rfl⟩
  rw [← hR]
  refine FnDoes.of (fn := ir40) rfl ?_
  obtain ⟨u, x, rfl, hu, hx⟩ := h
  have u1 := hu.one
  have x1 := one_of_isSl hx.isSl
  simp [ir40, u1, x1]
  intro n1 b1 f1
  have o1 := Own.start (base := base) (H := H) |>.new f1 b1 (s := .arr 62 [encN t, encN s, u, x])
  have r1 := rd_ptr (o1.at 0 (b := n1) rfl) (rt := none) (j := 1) (c := encN s) rfl rfl
  have r2 := rd_ptr (o1.at 0 (b := n1) rfl) (rt := none) (j := 2) (c := u) rfl rfl
  have r3 := rd_ptr (o1.at 0 (b := n1) rfl) (rt := none) (j := 3) (c := x) rfl rfl
  have hx' := hx.keeps o1.keeps
  have hu' := hu.keeps o1.keeps
  have hc' := hc.keeps o1.keeps
  simp [make_of f1 b1, r1, hc'.isSl, hc'.lenM]
  obtain ⟨K1, hK1⟩ : ∃ K1, K1 = H.set n1 (.arr 62 [encN t, encN s, u, x]) := ⟨_, rfl⟩
  rw [← hK1] at r2 r3 hx' hu' hc' o1 ⊢
  obtain ⟨I, hI⟩ : ∃ I : Nat → Env → BH → Prop, I = (fun i e K => e 12 = encN i ∧ e 5 = encN (A.run s (cs.take i)) ∧ K = K1) := ⟨_, rfl⟩
  refine wpC_countK cs.length [(2, .ptr n1 0), (10, cv), (11, encN cs.length)] I (i0 := 0) rfl ?_ ?_ (Nat.zero_le _) ?_
  · simp
  · rw [hI]; exact ⟨by simp, by simp [Aut.run], rfl⟩
  rintro i e K hi ⟨e2, e10, e11, -⟩ hh
  rw [hI] at hh
  obtain ⟨e12, e5, rfl⟩ := hh
  simp only [] at e2 e10 e11
  have hq := hok.run hs (hin.take i)
  by_cases hlt : i < cs.length
  · have g1 := hc'.at (i := i) hlt (rt := none) rfl
    have wi := wS (n := i) (by omega)
    obtain ⟨r, q1, q2, q3, q4⟩ := cellR hx' hok hq (hin _ (List.getElem_mem hlt))
    have q1 := q1 none rfl
    have q4 := q4 none rfl
    have hci := hin _ (List.getElem_mem hlt)
    simp [e2, e10, e11, e12, e5, hlt, hc'.isSl, hc'.lenM, g1, r3, hx'.isSl, hx'.len, hok.len, hq, q1, q2, q3, hci, q4, wi]
    rw [hI]
    exact ⟨by simp, by simp [run_take A s hlt], rfl⟩
  · have hie : i = cs.length := by omega
    subst hie
    rw [List.take_length] at e5 hq
    have g2 := hu'.at (i := A.run s cs) hq (rt := none) rfl
    simp [e2, e11, e12, e5, r2, hu'.isSl, hu'.lenM, hq, g2]
    rw [hR]
    refine ⟨o1.keeps, ?_⟩
    unfold Aut.lang
    rw [← acc_getD hq]
theorem s_takes (t s rb : Nat) (A : Aut) (ws : List (List Nat)) (wv : BV) (H : BH) (h : RdP H rb t s A) (hok : A.Ok (wd ws.length)) (hs : s < A.acc.length) (hc : Rd H 9 wv (ws.map encW)) (hw : ∀ w ∈ ws, IsW w) (hn : ws.length ≤ 20) (hl : ∀ w ∈ ws, w.length ≤ 1000000) :
    FnDoes (gam base) 35 [.ptr rb 0, wv] H fun v _ => v = .bool (A.lang s (colsW ws)) := by
  obtain ⟨R, hR⟩ : ∃ R : BV → BH → Prop, R = fun v _ => v = .bool (A.lang s (colsW ws)) := ⟨_, rfl⟩
  rw [← hR]
  refine FnDoes.of (fn := ir35) rfl ?_
  have hin := cols_in hw
  have hcl := lng_le hl
  rw [← colsW_len] at hcl
  simp [ir35]
  refine (s_columns (base := base) ws wv H hc hw hn hl).step fun cv K1 k1 hv => ?_
  obtain ⟨bo, hv, -⟩ := hv
  have hc' : Rd K1 2 cv ((colsW ws).map encN) := hv.rd
  obtain ⟨u, x, hr, hu', hx'⟩ := h.keeps k1
  have r1 := rd_ptr hr (rt := none) (j := 1) (c := encN s) rfl rfl
  have r2 := rd_ptr hr (rt := none) (j := 2) (c := u) rfl rfl
  have r3 := rd_ptr hr (rt := none) (j := 3) (c := x) rfl rfl
  obtain ⟨cs, hcs⟩ : ∃ cs, cs = colsW ws := ⟨_, rfl⟩
  rw [← hcs] at hin hcl hc' hR
  simp [r1]
  obtain ⟨I, hI⟩ : ∃ I : Nat → Env → BH → Prop, I = (fun i e K => e 7 = encN i ∧ e 6 = encN (A.run s (cs.take i)) ∧ K = K1) := ⟨_, rfl⟩
  refine wpC_countK cs.length [(0, .ptr rb 0), (5, cv)] I (i0 := 0) rfl ?_ ?_ (Nat.zero_le _) ?_
  · simp
  · rw [hI]; exact ⟨by simp, by simp [Aut.run], rfl⟩
  rintro i e K hi ⟨e0, e5, -⟩ hh
  rw [hI] at hh
  obtain ⟨e7, e6, rfl⟩ := hh
  simp only [] at e0 e5
  have hq := hok.run hs (hin.take i)
  by_cases hlt : i < cs.length
  · have g1 := hc'.at (i := i) hlt (rt := none) rfl
    have wi := wS (n := i) (by omega)
    obtain ⟨r, q1, q2, q3, q4⟩ := cellR hx' hok hq (hin _ (List.getElem_mem hlt))
    have q1 := q1 none rfl
    have q4 := q4 none rfl
    have hci := hin _ (List.getElem_mem hlt)
    simp [e0, e5, e7, e6, hlt, hc'.isSl, hc'.lenM, g1, r3, hx'.isSl, hx'.len, hok.len, hq, q1, q2, q3, hci, q4, wi]
    rw [hI]
    exact ⟨by simp, by simp [run_take A s hlt], rfl⟩
  · have hie : i = cs.length := by omega
    subst hie
    rw [List.take_length] at e6 hq
    have g2 := hu'.at (i := A.run s cs) hq (rt := none) rfl
    simp [e0, e5, e7, e6, hc'.isSl, hc'.lenM, r2, hu'.isSl, hu'.lenM, hq, g2]
    rw [hR]
    refine ⟨k1, ?_⟩
    unfold Aut.lang
    rw [← acc_getD hq]
end Go.Proofs.YtcnkhkmapgbodaaDoor.W
end

section
namespace Go.Proofs.YtcnkhkmapgbodaaDoor.W
set_option linter.unusedVariables false
set_option linter.unusedSimpArgs false
open Go.B
variable {base : Nat}
attribute [local simp] wpC_skip wpC_region wpC_seq wpC_true wpC_false wpC_block wpC_exit wpC_ret wpO_nil wpO_n wpO_tt wpO_ff wpO_tf wpO_ft wpO_u wpS_mov wpS_pick wpS_build wpS_load wpS_store wpS_nilck wpS_bin wpS_beq wpS_isnil wpS_eqs wpS_not wpS_neg wpS_conv wpS_lea wpS_fld wpS_idx wpS_idxs wpS_slice wpS_sslice wpS_mkfn wpS_mset wpS_look wpS_ext wpS_len wpS_new wpS_box wpS_mk wpS_mkmap wpS_mksl wpS_app wpS_fn wpS_call after_some pthen_n pthen_x pthen_r pin BExit.outOf puto_some puto_none put_eq put_ne Opd.ev argEnv op1_mov op1_pick op1_new op1_box op1_load op1_nilck op1_bin op1_beq op1_not op1_neg op1_conv op1_lea op1_fld op1_len0 op1_len1 op1_idx op1_ext op1_build op1_mk op1_stw op1_mksl op1_eqs pureBin isShift resOf resVals val_tmp val_cell oneOf one_int cells_int one_bool cells_bool one_str cells_str one_nilp cells_nilp one_ptr cells_ptr one_nils cells_nils one_sl cells_sl one_sle cells_sle one_nilm cells_nilm one_mp cells_mp one_nilf cells_nilf one_fn cells_fn one_nili cells_nili cells_agg isSl_sl slen_sl sat_sl make_of asm rtOk wpS_b2s op1_b2s wpS_imax op1_imax wpS_imin op1_imin wpS_i2s op1_i2s op1_isnil Option.map_some gam_base op1_app op1_idxs wpS_idxa op1_idxa op1_sslice bound_none bound_some nat_of op1_mkmap op1_mset op1_look op1_len2 op1_mkfn Go.B.fillB Has
open Go.Au
def wdN (n : Nat) : List Nat := wordL n (bl n)
theorem wdN_w (n : Nat) : IsW (wdN n) := fun b hb => by
  unfold wdN wordL at hb
  obtain ⟨i, _, rfl⟩ := List.mem_map.1 hb
  unfold ltr
  omega
theorem wdN_len {n : Nat} (h : n ≤ 1000) : (wdN n).length ≤ 1000 := by
  have := bl_le h
  unfold wdN
  rw [wordL_len]
  omega
theorem wordB_eq (n : Nat) : (BV.str (wordB n)) = encW (wdN n) := rfl
/-- The automaton of a relation of any kind. -/
def autR (r : Raw4) : Aut := ⟨r.2.2.1, r.2.2.2.map (·.map Int.toNat)⟩
def takesN (r : Raw4) (x : Nat) : Bool := (autR r).lang r.2.1.toNat (colsW [wdN x])
def cntTo (r : Raw4) (n : Nat) : Nat := ((List.range n).filter (takesN r)).length
theorem cntTo_succ (r : Raw4) (n : Nat) : cntTo r (n + 1) = cntTo r n + (if takesN r n = true then 1 else 0) := by
  unfold cntTo
  rw [List.range_succ, List.filter_append, List.length_append]
  by_cases h : takesN r n = true <;> simp [h]
theorem cntTo_le (r : Raw4) (n : Nat) : cntTo r n ≤ n := by
  have := List.length_filter_le (takesN r) (List.range n)
  simpa [cntTo] using this
noncomputable def cntN (r : Raw4) (n : Int) : Nat × Nat := if setsN [r] ≠ 0 then (0, setsN [r]) else if inB n 0 1000 = true then (cntTo r n.toNat, 0) else (0, 2)
theorem sets_one {r : Raw4} (h : setsN [r] = 0) : valR r = true ∧ nsR r = true := by
  unfold setsN at h
  simp at h
  split at h
  · rename_i h1
    split at h
    · rename_i h2; exact ⟨h1, h2⟩
    · cases h
  · cases h
/-- A set of numbers, opened. -/
theorem ns_elim {r : Raw4} (h : setsN [r] = 0) : ∃ (s : Nat) (A : Aut), r.1 = (1 : Nat) ∧ r.2.1 = s ∧ r.2.2.1 = A.acc ∧ r.2.2.2 = A.nxt.map (·.map fun (q : Nat) => (q : Int)) ∧ A.Ok (wd 1) ∧ s < A.acc.length ∧ A.acc.length ≤ 150 ∧ autR r = A ∧ nsB (A.lang s) = true := by
  obtain ⟨hv, hns⟩ := sets_one h
  obtain ⟨T, S, acc, rows⟩ := r
  obtain ⟨t, s, A, hT, hS, ht1, ht, ha, hr, hok, hs, hlen⟩ := valid_elim hv
  simp only at ha hr
  subst hT hS ha hr
  unfold nsR at hns
  simp only [Bool.and_eq_true, decide_eq_true_eq] at hns
  have ht' : t = 1 := by omega
  subst ht'
  have e := aut_back A
  rw [e] at hns
  exact ⟨s, A, rfl, rfl, rfl, rfl, hok, hs, hlen, e, hns.2⟩
theorem bool_one (w : List Nat) (H : BH) {ty n1 : Nat} : Rd (H.set n1 (.arr ty [encW w])) ty (.sl n1 0 1) ([w].map encW) := by
  refine ⟨rfl, rfl, fun i x hi => ?_⟩
  have : i = 0 := by
    have := (List.getElem?_eq_some_iff.1 hi).1
    simpa using this
  subst this
  simp at hi
  subst hi
  exact ⟨n1, 0, [encW w], rfl, BH.row_set_eq _ _ _, by simp [one1], rfl⟩
theorem s_CountBelow (r : Raw4) (n : Int) (m : BV) (H : BH) (h : RdRaw H r.1 r.2.1 r.2.2.1 r.2.2.2 m) (hn : r.2.2.1.length ≤ 4611686018427387904) :
    FnDoes (gam base) 12 [m, .int .i64 n] H fun v _ => v = .tup [encN (cntN r n).1, encN (cntN r n).2] := by
  obtain ⟨R, hR⟩ : ∃ R : BV → BH → Prop, R = fun v _ => v = .tup [encN (cntN r n).1, encN (cntN r n).2] := ⟨_, rfl⟩
  rw [← hR]
  refine FnDoes.of (fn := ir12) rfl ?_
  obtain ⟨u, x, rfl, hu, hx⟩ := h
  have u1 := hu.one
  have x1 := one_of_isSl hx.isSl
  simp [ir12, u1, x1]
  intro n1 b1 f1
  have o1 := Own.start (base := base) (H := H) |>.new f1 b1 (s := .arr 29 [.int .i64 r.1, .int .i64 r.2.1, u, x])
  have hp : RdRawP _ n1 r.1 r.2.1 r.2.2.1 r.2.2.2 := ⟨u, x, o1.at 0 rfl, hu.keeps o1.keeps, hx.keeps o1.keeps⟩
  simp [make_of f1 b1]
  refine (s_set (base := base) r n1 _ hp hn).step fun v K1 k1 hv => ?_
  subst hv
  have o2 := o1.call k1
  have hp2 := hp.keeps k1
  by_cases h0 : setsN [r] = 0
  case neg =>
    have hb : (((setsN [r] : Nat) : Int) != 0) = true := by simp; omega
    simp [hb]
    rw [hR]
    refine ⟨o2.keeps, ?_⟩
    simp [cntN, h0]
  simp [h0]
  refine callP (s_in n 0 1000 _) ?_
  cases hin : inB n 0 1000
  · simp
    rw [hR]
    refine ⟨o2.keeps, ?_⟩
    simp [cntN, h0, hin]
  have hN : 0 ≤ n ∧ n ≤ 1000 := by simpa [inB] using hin
  obtain ⟨N, rfl⟩ : ∃ N : Nat, n = N := ⟨n.toNat, by omega⟩
  obtain ⟨s, A, e1, e2, e3, e4, hok, hs, hlen, hA, -⟩ := ns_elim h0
  have hrel : RdP K1 n1 1 s A := by
    rw [e1, e2, e3, e4] at hp2
    exact hp2.rel
  simp
  obtain ⟨I, hI⟩ : ∃ I : Nat → Env → BH → Prop, I = (fun i e K => e 8 = encN i ∧ e 7 = encN (cntTo r i) ∧ Own base H K []) := ⟨_, rfl⟩
  obtain ⟨Z, hZ⟩ : ∃ Z : BH → Prop, Z = fun K => RdP K n1 1 s A := ⟨_, rfl⟩
  refine wpC_countK N [(1, encN N), (2, .ptr n1 0)] (fun i e K => I i e K ∧ Z K) (i0 := 0) rfl ?_ ?_ (Nat.zero_le _) ?_
  · simp
  · rw [hI, hZ]; exact ⟨⟨by simp, by simp [cntTo], Own.of o2.keeps⟩, hrel⟩
  rintro i e K hi ⟨q1, q2, -⟩ ⟨hh, hz⟩
  rw [hI] at hh
  rw [hZ] at hz
  obtain ⟨e8, e7, o⟩ := hh
  simp only [] at q1 q2
  have wi := wS (n := i) (by omega)
  have wc := wS (n := cntTo r i) (by have := cntTo_le r i; omega)
  by_cases hlt : i < N
  · have hi1 : i ≤ 1000 := by omega
    simp [q1, q2, e8, hlt]
    refine (s_word (base := base) i hi1 K).step fun v K2 k2 hv => ?_
    subst hv
    rw [wordB_eq]
    simp [q2]
    intro n6 b6 f6
    have o6 := Own.start (base := base) (H := K2) |>.new f6 b6 (s := .arr 9 [encW (wdN i)])
    simp [make_of f6 b6, q2]
    refine (s_takes (base := base) 1 s n1 A [wdN i] _ _ (hz.keeps (k2.trans o6.keeps)) hok hs (bool_one _ _) (by simpa using wdN_w i) (by simp) (by simpa using (show (wdN i).length ≤ 1000000 by have := wdN_len hi1; omega))).step fun v K3 k3 hv => ?_
    have ht : A.lang s (colsW [wdN i]) = takesN r i := by unfold takesN; rw [hA, e2]; simp
    rw [ht] at hv
    subst hv
    have hsu := cntTo_succ r i
    cases hb : takesN r i
    · rw [if_neg (by simp [hb])] at hsu
      simp [e8, wi, hlt]
      rw [hI, hZ]
      exact ⟨⟨by simp, by simp [hsu, e7], Own.of (((o.keeps.trans k2).trans o6.keeps).trans k3)⟩, hz.keeps ((k2.trans o6.keeps).trans k3)⟩
    · rw [if_pos hb] at hsu
      simp [e8, e7, wi, wc, hlt]
      rw [hI, hZ]
      exact ⟨⟨by simp, by simp [hsu], Own.of (((o.keeps.trans k2).trans o6.keeps).trans k3)⟩, hz.keeps ((k2.trans o6.keeps).trans k3)⟩
  · have hie : i = N := by omega
    subst hie
    simp [q1, e8, e7]
    rw [hR]
    exact ⟨o.keeps, by simp [cntN, h0, hin]⟩
theorem sets_ne {n : Nat} (h : n ≠ 0) : (((n : Nat) : Int) != 0) = true := by simpa using h
theorem i_CountBelow (r : Raw4) (n : Int) (m : BV) (H : BH) (h : RdRaw H r.1 r.2.1 r.2.2.1 r.2.2.2 m) (hn : r.2.2.1.length ≤ 4611686018427387904) :
    FnDoes (gam base) 13 [m, .int .i64 n] H fun v _ => v = .tup [encN (cntN r n).1, encN (cntN r n).2] := by
  obtain ⟨R, hR⟩ : ∃ R : BV → BH → Prop, R = fun v _ => v = .tup [encN (cntN r n).1, encN (cntN r n).2] := ⟨_, rfl⟩
  rw [← hR]
  refine FnDoes.of (fn := ir13) rfl ?_
  have h' := h
  obtain ⟨u, x, rfl, hu, hx⟩ := h
  have u1 := hu.one
  have x1 := one_of_isSl hx.isSl
  simp [ir13, u1, x1]
  intro n1 b1 f1
  have o1 := Own.start (base := base) (H := H) |>.new f1 b1 (s := .arr 29 [.int .i64 r.1, .int .i64 r.2.1, u, x])
  have r1 := rd_all (o1.at 0 (b := n1) rfl) (n := 4) (rt := none) rfl rfl
  simp [make_of f1 b1, r1, u1, x1]
  intro n2 b2 f2
  have o2 := o1.new f2 b2 (s := .arr 29 [.int .i64 r.1, .int .i64 r.2.1, u, x])
  simp [make_of f2 b2]
  have hrs : RdRs ((H.set n1 (.arr 29 [.int .i64 r.1, .int .i64 r.2.1, u, x])).set n2 (.arr 29 [.int .i64 r.1, .int .i64 r.2.1, u, x])) (.sl n2 0 1) [r] := by
    refine ⟨[[.int .i64 r.1, .int .i64 r.2.1, u, x]], ⟨rfl, rfl, fun i y hi => ?_⟩, rfl, fun i c q hi hq => ?_⟩
    · have : i = 0 := by have := (List.getElem?_eq_some_iff.1 hi).1; simpa using this
      subst this
      simp at hi
      subst hi
      exact ⟨n2, 0, _, rfl, BH.row_set_eq _ _ _, by simp, rfl⟩
    · have : i = 0 := by have := (List.getElem?_eq_some_iff.1 hi).1; simpa using this
      subst this
      simp at hi hq
      subst hi hq
      exact h'.keeps o2.keeps
  refine (i_checkSets (base := base) [r] (.sl n2 0 1) _ hrs (by simp) (by simpa using hn)).step fun v K3 k3 hv => ?_
  subst hv
  have o3 := o2.call k3
  by_cases h0 : setsN [r] = 0
  case neg =>
    simp [sets_ne h0]
    rw [hR]
    refine ⟨o3.keeps, ?_⟩
    simp [cntN, h0]
  simp [h0]
  refine callP (i_within n 0 1000 _) ?_
  cases hin : inB n 0 1000
  · simp
    rw [hR]
    refine ⟨o3.keeps, ?_⟩
    simp [cntN, h0, hin]
  have hN : 0 ≤ n ∧ n ≤ 1000 := by simpa [inB] using hin
  obtain ⟨N, rfl⟩ : ∃ N : Nat, n = N := ⟨n.toNat, by omega⟩
  obtain ⟨s, A, e1, e2, e3, e4, hok, hs, hlen, hA, -⟩ := ns_elim h0
  have hrel : RdRel K3 1 s A (.agg [.int .i64 r.1, .int .i64 r.2.1, u, x]) := by
    have := h'.keeps o3.keeps
    rw [e1, e2, e3, e4] at this
    rw [e1, e2]
    exact this.rel
  have r3 := rd_all (o3.at 1 (b := n1) rfl) (n := 4) (rt := none) rfl rfl
  simp [r3]
  refine (i_machineOf (base := base) 1 s (wd 1) A _ K3 hrel (by decide) hok (by omega)).step fun mm K4 k4 hm => ?_
  have o4 := o3.call k4
  obtain ⟨mu, mw, hme, hmu, hmw⟩ := hm.rd
  subst hme
  have mu1 := hmu.one
  have mw1 := one_of_isSl hmw.isSl
  simp [mu1, mw1]
  intro n5 b5 f5
  obtain ⟨K5, g5, o5⟩ := (o4.new f5 b5 (s := .arr 62 [.int .i64 0, .int .i64 0, .nils, .nils])).putAll 0 (b := n5) (n := 4) (ds := [encN 1, encN s, mu, mw]) rfl rfl rfl (by simp [mu1, mw1]) (rt := none) rfl
  obtain ⟨K5', g5', o5'⟩ := (Own.start (base := base) (H := K4) |>.new f5 b5 (s := .arr 62 [.int .i64 0, .int .i64 0, .nils, .nils])).putAll 0 (b := n5) (n := 4) (ds := [encN 1, encN s, mu, mw]) rfl rfl rfl (by simp [mu1, mw1]) (rt := none) rfl
  rw [g5] at g5'
  cases g5'
  have hmm : RdM K5 1 s A (.agg [encN 1, encN s, mu, mw]) := (show RdM K4 1 s A _ from ⟨mu, mw, rfl, hmu, hmw⟩).keeps o5'.keeps
  simp [make_of f5 b5, g5]
  obtain ⟨I, hI⟩ : ∃ I : Nat → Env → BH → Prop, I = (fun i e K => e 9 = encN i ∧ e 8 = encN (cntTo r i) ∧ H.Keeps K ∧ RdM K 1 s A (.agg [encN 1, encN s, mu, mw]) ∧ K.row n5 = .arr 62 [encN 1, encN s, mu, mw]) := ⟨_, rfl⟩
  refine wpC_countK N [(1, encN N), (7, .ptr n5 0)] I (i0 := 0) rfl ?_ ?_ (Nat.zero_le _) ?_
  · simp
  · rw [hI]; exact ⟨by simp, by simp [cntTo], o5.keeps, hmm, o5.at 0 rfl⟩
  rintro i e K hi ⟨q1, q7, -⟩ hh
  rw [hI] at hh
  obtain ⟨e9, e8, kk, hz, hrow⟩ := hh
  simp only [] at q1 q7
  have wi := wS (n := i) (by omega)
  have wc := wS (n := cntTo r i) (by have := cntTo_le r i; omega)
  by_cases hlt : i < N
  · have hi1 : i ≤ 1000 := by omega
    have r7 := rd_all hrow (n := 4) (rt := some 62) rfl rfl
    simp [q1, q7, e9, hlt, r7]
    refine (i_word (base := base) i hi1 K).step fun v K2 k2 hv => ?_
    subst hv
    rw [wordB_eq]
    simp [q7]
    intro n6 b6 f6
    have o6 := Own.start (base := base) (H := K2) |>.new f6 b6 (s := .arr 9 [encW (wdN i)])
    simp [make_of f6 b6]
    refine (i_columnsOf (base := base) [wdN i] _ _ (bool_one _ _) (by simpa using wdN_w i) (by simp) (by simpa using (show (wdN i).length ≤ 1000000 by have := wdN_len hi1; omega))).step fun cv K7 k7 hv => ?_
    obtain ⟨bo, hcv, -⟩ := hv
    have kz := (k2.trans o6.keeps).trans k7
    have hcl := lng_le (ws := [wdN i]) (N := 1000) (by simpa using wdN_len hi1)
    rw [← colsW_len] at hcl
    simp
    refine (i_takes (base := base) 1 s (wd 1) A _ cv (colsW [wdN i]) K7 (hz.keeps kz) hok hs hcv.rd (cols_in (ws := [wdN i]) (by simpa using wdN_w i)) (by omega)).step fun v K3 k3 hv => ?_
    have ht : A.lang s (colsW [wdN i]) = takesN r i := by unfold takesN; rw [hA, e2]; simp
    rw [ht] at hv
    subst hv
    have hsu := cntTo_succ r i
    have kf := kz.trans k3
    cases hb : takesN r i
    · rw [if_neg (by simp [hb])] at hsu
      simp [e9, wi, hlt]
      rw [hI]
      exact ⟨by simp, by simp [hsu, e8], kk.trans kf, hz.keeps kf, by rw [kf n5 (by rw [hrow]; simp), hrow]⟩
    · rw [if_pos hb] at hsu
      simp [e9, e8, wi, wc, hlt]
      rw [hI]
      exact ⟨by simp, by simp [hsu], kk.trans kf, hz.keeps kf, by rw [kf n5 (by rw [hrow]; simp), hrow]⟩
  · have hie : i = N := by omega
    subst hie
    simp [q1, e9, e8]
    rw [hR]
    exact ⟨kk, by simp [cntN, h0, hin]⟩
end Go.Proofs.YtcnkhkmapgbodaaDoor.W
end

section
namespace Go.Proofs.YtcnkhkmapgbodaaDoor.W
set_option linter.unusedVariables false
set_option linter.unusedSimpArgs false
open Go.B
variable {base : Nat}
attribute [local simp] wpC_skip wpC_region wpC_seq wpC_true wpC_false wpC_block wpC_exit wpC_ret wpO_nil wpO_n wpO_tt wpO_ff wpO_tf wpO_ft wpO_u wpS_mov wpS_pick wpS_build wpS_load wpS_store wpS_nilck wpS_bin wpS_beq wpS_isnil wpS_eqs wpS_not wpS_neg wpS_conv wpS_lea wpS_fld wpS_idx wpS_idxs wpS_slice wpS_sslice wpS_mkfn wpS_mset wpS_look wpS_ext wpS_len wpS_new wpS_box wpS_mk wpS_mkmap wpS_mksl wpS_app wpS_fn wpS_call after_some pthen_n pthen_x pthen_r pin BExit.outOf puto_some puto_none put_eq put_ne Opd.ev argEnv op1_mov op1_pick op1_new op1_box op1_load op1_nilck op1_bin op1_beq op1_not op1_neg op1_conv op1_lea op1_fld op1_len0 op1_len1 op1_idx op1_ext op1_build op1_mk op1_stw op1_mksl op1_eqs pureBin isShift resOf resVals val_tmp val_cell oneOf one_int cells_int one_bool cells_bool one_str cells_str one_nilp cells_nilp one_ptr cells_ptr one_nils cells_nils one_sl cells_sl one_sle cells_sle one_nilm cells_nilm one_mp cells_mp one_nilf cells_nilf one_fn cells_fn one_nili cells_nili cells_agg isSl_sl slen_sl sat_sl make_of asm rtOk wpS_b2s op1_b2s wpS_imax op1_imax wpS_imin op1_imin wpS_i2s op1_i2s op1_isnil Option.map_some gam_base op1_app op1_idxs wpS_idxa op1_idxa op1_sslice bound_none bound_some nat_of op1_mkmap op1_mset op1_look op1_len2 op1_mkfn Go.B.fillB Has
open Go.Au
/-- The law. -/
theorem law_CountBelow (T S : Int) (acc : List Bool) (rows : List (List Int)) (n : Int) (m : BV) (H : BH) (h : RdL H T S acc rows m) (hn1 : acc.length ≤ 9223372036854775807) (hn : rows.length ≤ 9223372036854775807) (hr : ∀ xs ∈ rows, xs.length ≤ 9223372036854775807) :
    FnDoes (gam base) 4 [m, .int .i64 n] H fun v _ => v = .bool true := by
  refine FnDoes.of (fn := ir4) rfl ?_
  have g := h
  obtain ⟨u, x, tb, tw, rfl, hu, hx⟩ := h
  have u1 := hu.one
  have x1 := one_of_isSl hx.isSl
  simp [ir4, u1, x1]
  intro n1 b1 f1
  have o1 := Own.start (base := base) (H := H) |>.new f1 b1 (s := .arr 25 [.int .i64 T, .int .i64 S, u, x])
  have r1 := rd_all (o1.at 0 (b := n1) rfl) (n := 4) (rt := none) rfl rfl
  simp [make_of f1 b1, r1]
  refine (z_rel (base := base) T S acc rows _ _ (g.keeps o1.keeps) hn1 hn hr).step fun v K1 k1 hv => ?_
  obtain ⟨z, rfl, hz⟩ := hv
  have o2 := o1.call k1
  by_cases hz0 : z < 0
  · simp [hz0]
    exact o2.keeps
  obtain ⟨m1, m2, m3⟩ := hz (by omega)
  have r1 := rd_all (o2.at 0 (b := n1) rfl) (n := 4) (rt := none) rfl rfl
  simp [hz0, r1]
  refine (t_rel (base := base) T S acc rows _ _ (g.keeps o2.keeps) m1 m2 m3).step fun v K2 k2 hv => ?_
  have o3 := o2.call k2
  simp
  refine (s_CountBelow (base := base) (T, S, acc, rows) n v K2 hv (by show acc.length ≤ _; omega)).step fun v' K3 k3 hv' => ?_
  subst hv'
  have o4 := o3.call k3
  have r1 := rd_all (o4.at 0 (b := n1) rfl) (n := 4) (rt := none) rfl rfl
  simp [r1]
  refine (t_rel (base := base) T S acc rows _ _ (g.keeps o4.keeps) m1 m2 m3).step fun w K4 k4 hw => ?_
  have o5 := o4.call k4
  obtain ⟨uu, ww, rfl, hu2, hx2⟩ := id hw
  have u2 := hu2.one
  have x2 := one_of_isSl hx2.isSl
  simp [u2, x2]
  intro n6 b6 f6
  obtain ⟨K5, g5, o6⟩ := (o5.new f6 b6 (s := .arr 29 [.int .i64 0, .int .i64 0, .nils, .nils])).putAll 0 (b := n6) (n := 4) (ds := [encI T, encI S, uu, ww]) rfl rfl rfl (by simp [u2, x2]) (rt := none) rfl
  obtain ⟨K5', g5', o6'⟩ := (Own.start (base := base) (H := K4) |>.new f6 b6 (s := .arr 29 [.int .i64 0, .int .i64 0, .nils, .nils])).putAll 0 (b := n6) (n := 4) (ds := [encI T, encI S, uu, ww]) rfl rfl rfl (by simp [u2, x2]) (rt := none) rfl
  rw [g5] at g5'
  cases g5'
  have k5 := o6'.keeps
  have r6 := rd_all (o6.at 0 (b := n6) rfl) (n := 4) (rt := none) rfl rfl
  simp [make_of f6 b6, g5, r6]
  refine (i_CountBelow (base := base) (T, S, acc, rows) n _ K5 (hw.keeps k5) (by show acc.length ≤ _; omega)).step fun v' K6 k6 hv' => ?_
  subst hv'
  have o7 := o6.call k6
  have r6 := rd_all (o7.at 0 (b := n6) rfl) (n := 4) (rt := some 29) rfl rfl
  have r1 := rd_all (o7.at 1 (b := n1) rfl) (n := 4) (rt := none) rfl rfl
  simp [r6, r1]
  refine (t_rel (base := base) T S acc rows _ _ (g.keeps o7.keeps) m1 m2 m3).step fun w K7 k7 hw2 => ?_
  simp
  refine (q_rel (base := base) T S acc rows _ w K7 ((hw.keeps (k5.trans k6)).keeps k7) hw2 (by omega) (by omega) (fun r hr' => by have := m3 r hr'; omega)).step fun v' K8 k8 hv' => ?_
  subst hv'
  simp
  exact (o7.keeps.trans k7).trans k8
end Go.Proofs.YtcnkhkmapgbodaaDoor.W
end
