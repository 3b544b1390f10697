/-
Texts of our own, put together: L1, L2, L3, O1, M1, M2, M3, M4, M5, M6, M7, M8, M9, A6, C11, C12, C13, C14, C15, S8, S9, S10.
-/
import Derived.Test.YtcnkhkmapgbodaaDoorE5
import Derived.Lib.SmallJoins
import Derived.Deep.Grids
import Derived.Deep.Matrix
import Derived.ChangeArms
import Derived.KernelRfl
section
namespace Go.Proofs.YtcnkhkmapgbodaaDoor.W
set_option linter.unusedVariables false
set_option linter.unusedSimpArgs false
open Go.B
variable {base : Nat}
attribute [local simp] wpC_skip wpC_region wpC_seq wpC_true wpC_false wpC_block wpC_exit wpC_ret wpO_nil wpO_n wpO_tt wpO_ff wpO_tf wpO_ft wpO_u wpS_mov wpS_pick wpS_build wpS_load wpS_store wpS_nilck wpS_bin wpS_beq wpS_isnil wpS_eqs wpS_not wpS_neg wpS_conv wpS_lea wpS_fld wpS_idx wpS_idxs wpS_slice wpS_sslice wpS_mkfn wpS_mset wpS_look wpS_ext wpS_len wpS_new wpS_box wpS_mk wpS_mkmap wpS_mksl wpS_app wpS_fn wpS_call after_some pthen_n pthen_x pthen_r pin BExit.outOf puto_some puto_none put_eq put_ne Opd.ev argEnv op1_mov op1_pick op1_new op1_box op1_load op1_nilck op1_bin op1_beq op1_not op1_neg op1_conv op1_lea op1_fld op1_len0 op1_len1 op1_idx op1_ext op1_build op1_mk op1_stw op1_mksl op1_eqs pureBin isShift resOf resVals val_tmp val_cell oneOf one_int cells_int one_bool cells_bool one_str cells_str one_nilp cells_nilp one_ptr cells_ptr one_nils cells_nils one_sl cells_sl one_sle cells_sle one_nilm cells_nilm one_mp cells_mp one_nilf cells_nilf one_fn cells_fn one_nili cells_nili cells_agg isSl_sl slen_sl sat_sl make_of asm rtOk wpS_b2s op1_b2s wpS_imax op1_imax op1_isnil Option.map_some gam_base op1_app op1_idxs wpS_idxa op1_idxa op1_sslice bound_none bound_some nat_of op1_mkmap op1_mset op1_look op1_len2 op1_mkfn fillB Has
open Go.Au
theorem z_bools {ty : Nat} (cs : List BV) (left : Int) (v : BV) (H : BH) (h : Rd H ty v cs) (h0 : 0 ≤ left) (h1 : left ≤ 1048576) (hn : cs.length ≤ 9223372036854775807) :
    ∃ z : Int, Runs (gam base) 23 [v, encI left] H (encI z) H ∧ z ≤ left ∧ -1 ≤ z ∧ (0 ≤ z → (cs.length : Int) ≤ left) := by
  have hw : IntKind.i64.wrap (left - (cs.length : Int)) = left - (cs.length : Int) := w64 (by omega) (by omega)
  by_cases hz : left - (cs.length : Int) < 0
  · refine ⟨-1, ?_, by omega, by omega, by omega⟩
    refine runs_of (fn := ir23) rfl ?_
    simp [ir23, h.isSl, h.len, hw, hz]
  · refine ⟨left - (cs.length : Int), ?_, by omega, by omega, by omega⟩
    refine runs_of (fn := ir23) rfl ?_
    simp [ir23, h.isSl, h.len, hw, hz]

theorem z_longs {ty : Nat} (cs : List BV) (left : Int) (v : BV) (H : BH) (h : Rd H ty v cs) (h0 : 0 ≤ left) (h1 : left ≤ 1048576) (hn : cs.length ≤ 9223372036854775807) :
    ∃ z : Int, Runs (gam base) 55 [v, encI left] H (encI z) H ∧ z ≤ left ∧ -1 ≤ z ∧ (0 ≤ z → (cs.length : Int) ≤ left) := by
  have hw : IntKind.i64.wrap (left - (cs.length : Int)) = left - (cs.length : Int) := w64 (by omega) (by omega)
  by_cases hz : left - (cs.length : Int) < 0
  · refine ⟨-1, ?_, by omega, by omega, by omega⟩
    refine runs_of (fn := ir55) rfl ?_
    simp [ir55, h.isSl, h.len, hw, hz]
  · refine ⟨left - (cs.length : Int), ?_, by omega, by omega, by omega⟩
    refine runs_of (fn := ir55) rfl ?_
    simp [ir55, h.isSl, h.len, hw, hz]

/-- Rows that are read, of any kind each. -/
def RdQ {α : Type} (H : BH) (ty : Nat) (v : BV) (f : α → BV) (xss : List (List α)) : Prop := ∃ vs : List BV, Rd H ty v vs ∧ vs.length = xss.length ∧ ∀ (i : Nat) (u : BV) (xs : List α), vs[i]? = some u → xss[i]? = some xs → ∃ ty2, Rd H ty2 u (xs.map f)
section
variable {α : Type} {H K : BH} {ty : Nat} {v : BV} {f : α → BV} {xss : List (List α)}
theorem RdQ.keeps (h : RdQ H ty v f xss) (k : H.Keeps K) : RdQ K ty v f xss := by
  obtain ⟨vs, h1, h2, h3⟩ := h
  exact ⟨vs, h1.keeps k, h2, fun i u xs hu hx => (h3 i u xs hu hx).imp fun _ g => g.keeps k⟩
theorem RdQ.isSl (h : RdQ H ty v f xss) : v.isSl = true := by
  obtain ⟨vs, h1, h2, h3⟩ := h
  exact h1.isSl
theorem RdQ.len (h : RdQ H ty v f xss) : v.slen = xss.length := by
  obtain ⟨vs, h1, h2, h3⟩ := h
  rw [Rd.len h1, h2]
theorem RdQ.at (h : RdQ H ty v f xss) {i : Nat} (hi : i < xss.length) : ∃ u, (∃ ty2, Rd H ty2 u (xss[i].map f)) ∧ ∀ (rt : Option Nat), rtOk rt ty = true → H.rd rt none (v.sat i 1) = some u := by
  obtain ⟨vs, h1, h2, h3⟩ := h
  have hi' : i < vs.length := by omega
  refine ⟨vs[i], h3 i _ _ (List.getElem?_eq_getElem hi') (List.getElem?_eq_getElem hi), fun rt hrt => ?_⟩
  refine Sls.rd1 h1 (i := i) (c := vs[i]) ?_ hrt
  simp [hi']
theorem RdQ.cells (h : RdQ H ty v f xss) : RdQ H ty v (fun c => c) (xss.map (·.map f)) := by
  obtain ⟨vs, h1, h2, h3⟩ := h
  refine ⟨vs, h1, by simpa using h2, fun i u xs hu hx => ?_⟩
  rw [List.getElem?_map, Option.map_eq_some_iff] at hx
  obtain ⟨ys, hys, rfl⟩ := hx
  rw [List.map_id']
  exact h3 i u ys hu hys
end
theorem z_rows (xss : List (List BV)) (left : Int) (v : BV) (H : BH) {ty : Nat} (h : RdQ H ty v (fun c => c) xss) (h0 : 0 ≤ left) (h1 : left ≤ 1048576) (hn : xss.length ≤ 9223372036854775807) (hr : ∀ xs ∈ xss, xs.length ≤ 9223372036854775807) :
    ∃ z : Int, Runs (gam base) 24 [v, encI left] H (encI z) H ∧ z ≤ left ∧ (0 ≤ z → (xss.length : Int) ≤ left ∧ ∀ xs ∈ xss, (xs.length : Int) ≤ left) := by
  obtain ⟨R, hR⟩ : ∃ R : Int → Prop, R = fun z => z ≤ left ∧ (0 ≤ z → (xss.length : Int) ≤ left ∧ ∀ xs ∈ xss, (xs.length : Int) ≤ left) := ⟨_, rfl⟩
  suffices hh : FnDoes (gam base) 24 [v, encI left] H fun u K => K = H ∧ ∃ z, u = encI z ∧ R z by
    obtain ⟨u, K, r1, r2, rfl, z, rfl, r3⟩ := hh
    rw [hR] at r3
    exact ⟨z, r1, r3⟩
  refine FnDoes.of (fn := ir24) rfl ?_
  have hw : IntKind.i64.wrap (left - (xss.length : Int)) = left - (xss.length : Int) := w64 (by omega) (by omega)
  have hl := h.len
  by_cases hz : left - (xss.length : Int) < 0
  · simp [ir24, h.isSl, hl, hw, hz]
    rw [hR]
    exact ⟨BH.Keeps.refl _, by omega, fun h => by omega⟩
  · simp [ir24, h.isSl, hl, hw, hz]
    obtain ⟨I, hI⟩ : ∃ I : Nat → Env → BH → Prop, I = (fun i e K => e 5 = encN i ∧ K = H ∧ ∃ l : Int, e 1 = encI l ∧ 0 ≤ l ∧ l ≤ left ∧ ∀ j xs, j < i → xss[j]? = some xs → (xs.length : Int) ≤ left) := ⟨_, rfl⟩
    refine wpC_countK xss.length [(0, v)] I (i0 := 0) ?_ ?_ ?_ (Nat.zero_le _) ?_
    · rfl
    · simp
    · rw [hI]
      exact ⟨by simp, rfl, left - (xss.length : Int), by simp, by omega, by omega, fun j xs hj => by omega⟩
    rintro i e K hi ⟨e0, -⟩ hh
    rw [hI] at hh
    obtain ⟨e5, rfl, l, e1, hl0, hl1, hrs⟩ := hh
    simp only [] at e0
    have wi := wS (n := i) (by omega)
    by_cases hlt : i < xss.length
    · obtain ⟨ri, ⟨tq, hri⟩, hrr⟩ := h.at hlt
      have hrr := hrr none rfl
      rw [List.map_id'] at hri
      obtain ⟨z, c1, c2, c3, c4⟩ := z_longs (base := base) xss[i] l ri K hri hl0 (by omega) (hr _ (List.getElem_mem hlt))
      simp [e0, e5, h.isSl, hl, hlt, hrr, e1]
      refine callP c1 ?_
      by_cases hz2 : z < 0
      · simp [hz2]
        rw [hR]
        exact ⟨BH.Keeps.refl _, by omega, fun h => by omega⟩
      · simp [hz2, e5, wi, hlt]
        rw [hI]
        refine ⟨by simp, rfl, z, by simp, by omega, by omega, fun j xs hj hg => ?_⟩
        by_cases hji : j = i
        · subst hji
          rw [List.getElem?_eq_getElem hlt] at hg
          simp at hg
          subst hg
          have := c4 (by omega)
          omega
        · exact hrs j xs (by omega) hg
    · have hie : i = xss.length := by omega
      simp [e0, e5, h.isSl, hl, hlt, e1]
      rw [hR]
      refine ⟨BH.Keeps.refl _, hl1, fun _ => ⟨by omega, fun xs hxs => ?_⟩⟩
      obtain ⟨j, hj⟩ := List.getElem?_of_mem hxs
      exact hrs j xs (by have := (List.getElem?_eq_some_iff.1 hj).1; omega) hj
/-- A relation of the laws. -/
def RdL (H : BH) (T S : Int) (acc : List Bool) (rows : List (List Int)) (m : BV) : Prop := ∃ u w tb tw, m = .agg [.int .i64 T, .int .i64 S, u, w] ∧ Rd H tb u (acc.map encB) ∧ RdQ H tw w encI rows
theorem RdL.keeps {H K : BH} {T S : Int} {acc : List Bool} {rows : List (List Int)} {m : BV} (h : RdL H T S acc rows m) (k : H.Keeps K) : RdL K T S acc rows m := by
  obtain ⟨u, w, tb, tw, h1, h2, h3⟩ := h
  exact ⟨u, w, tb, tw, h1, h2.keeps k, h3.keeps k⟩
theorem z_rel (T S : Int) (acc : List Bool) (rows : List (List Int)) (m : BV) (H : BH) (h : RdL H T S acc rows m) (hn1 : acc.length ≤ 9223372036854775807) (hn : rows.length ≤ 9223372036854775807) (hr : ∀ xs ∈ rows, xs.length ≤ 9223372036854775807) :
    FnDoes (gam base) 7 [m, encI 1048576] H fun v _ => ∃ z : Int, v = encI z ∧ (0 ≤ z → acc.length ≤ 1048576 ∧ rows.length ≤ 1048576 ∧ ∀ xs ∈ rows, xs.length ≤ 1048576) := by
  refine FnDoes.of (fn := ir7) rfl ?_
  obtain ⟨u, x, tb, tw, rfl, hu, hx⟩ := h
  have u1 := hu.one
  have x1 := one_of_isSl hx.isSl
  simp [ir7, u1, x1]
  intro n1 b1 f1
  have o1 := Own.start (base := base) (H := H) |>.new f1 b1 (s := .arr 25 [.int .i64 T, .int .i64 S, u, x])
  have r2 := rd_ptr (o1.at 0 (b := n1) rfl) (rt := none) (j := 2) (c := u) rfl rfl
  have r3 := rd_ptr (o1.at 0 (b := n1) rfl) (rt := none) (j := 3) (c := x) rfl rfl
  obtain ⟨z, c1, c2, c3, c4⟩ := z_bools (base := base) (acc.map encB) 1048576 u _ (hu.keeps o1.keeps) (by omega) (by omega) (by simpa using hn1)
  simp [make_of f1 b1, r2]
  refine callP c1 ?_
  by_cases hz : z < 0
  · simp [hz]
    exact o1.keeps
  · obtain ⟨z2, d1, d2, d3⟩ := z_rows (base := base) (rows.map (·.map encI)) z x _ (RdQ.cells (hx.keeps o1.keeps)) (by omega) (by omega) (by simpa using hn) (fun xs hxs => by
      obtain ⟨r, hr', rfl⟩ := List.mem_map.1 hxs
      rw [List.length_map]
      exact hr r hr')
    simp [hz, r3]
    refine callP d1 ?_
    by_cases hz2 : z2 < 0
    · simp [hz2]
      exact o1.keeps
    · simp [hz2]
      refine ⟨o1.keeps, fun h0 => ?_⟩
      obtain ⟨k1, k2⟩ := d3 h0
      have k3 := c4 (by omega)
      rw [List.length_map] at k1 k3
      refine ⟨by omega, by omega, fun xs hxs => ?_⟩
      have := k2 (xs.map encI) (List.mem_map.2 ⟨xs, hxs, rfl⟩)
      rw [List.length_map] at this
      omega
end Go.Proofs.YtcnkhkmapgbodaaDoor.W
end

section
namespace Go.Proofs.YtcnkhkmapgbodaaDoor.W
set_option linter.unusedVariables false
set_option linter.unusedSimpArgs false
open Go.B
variable {base : Nat}
attribute [local simp] wpC_skip wpC_region wpC_seq wpC_true wpC_false wpC_block wpC_exit wpC_ret wpO_nil wpO_n wpO_tt wpO_ff wpO_tf wpO_ft wpO_u wpS_mov wpS_pick wpS_build wpS_load wpS_store wpS_nilck wpS_bin wpS_beq wpS_isnil wpS_eqs wpS_not wpS_neg wpS_conv wpS_lea wpS_fld wpS_idx wpS_idxs wpS_slice wpS_sslice wpS_mkfn wpS_mset wpS_look wpS_ext wpS_len wpS_new wpS_box wpS_mk wpS_mkmap wpS_mksl wpS_app wpS_fn wpS_call after_some pthen_n pthen_x pthen_r pin BExit.outOf puto_some puto_none put_eq put_ne Opd.ev argEnv op1_mov op1_pick op1_new op1_box op1_load op1_nilck op1_bin op1_beq op1_not op1_neg op1_conv op1_lea op1_fld op1_len0 op1_len1 op1_idx op1_ext op1_build op1_mk op1_stw op1_mksl op1_eqs pureBin isShift resOf resVals val_tmp val_cell oneOf one_int cells_int one_bool cells_bool one_str cells_str one_nilp cells_nilp one_ptr cells_ptr one_nils cells_nils one_sl cells_sl one_sle cells_sle one_nilm cells_nilm one_mp cells_mp one_nilf cells_nilf one_fn cells_fn one_nili cells_nili cells_agg isSl_sl slen_sl sat_sl make_of asm rtOk wpS_b2s op1_b2s wpS_imax op1_imax op1_isnil Option.map_some gam_base op1_app op1_idxs wpS_idxa op1_idxa op1_sslice bound_none bound_some nat_of op1_mkmap op1_mset op1_look op1_len2 op1_mkfn fillB Has
open Go.Au
/-- A row that is filled. -/
def fillB (cs : List BV) (z : BV) (i : Nat) : List BV := cs.take i ++ List.replicate (cs.length - i) z
theorem fillB_len {cs : List BV} {z : BV} {i : Nat} (h : i ≤ cs.length) : (fillB cs z i).length = cs.length := by simp [fillB]; omega
theorem fillB_zero (cs : List BV) (z : BV) : fillB cs z 0 = List.replicate cs.length z := by simp [fillB]
theorem fillB_all (cs : List BV) (z : BV) : fillB cs z cs.length = cs := by simp [fillB]
theorem fillB_set {cs : List BV} {z : BV} {i : Nat} (h : i < cs.length) : (fillB cs z i).set i cs[i] = fillB cs z (i + 1) := by
  unfold fillB
  rw [List.set_append_right _ _ (by simp; omega), show cs.length - i = (cs.length - (i + 1)) + 1 by omega, List.replicate_succ]
  have : i - (cs.take i).length = 0 := by simp; omega
  have e : cs.take (i + 1) = cs.take i ++ [cs[i]] := by rw [List.take_add_one, List.getElem?_eq_getElem h]; rfl
  rw [this, e, List.append_assoc]
  rfl
theorem t_bools {ty : Nat} (cs : List BV) (v : BV) (H : BH) (h : Rd H ty v cs) (hone : ∀ c ∈ cs, c.one = true) (hn : cs.length ≤ 1048576) :
    FnDoes (gam base) 27 [v] H fun v' K => ∃ b, v' = .sl b 0 cs.length ∧ Own base H K [(some b, .arr 4 cs)] := by
  obtain ⟨R, hR⟩ : ∃ R : BV → BH → Prop, R = fun v' K => ∃ b, v' = .sl b 0 cs.length ∧ Own base H K [(some b, .arr 4 cs)] := ⟨_, rfl⟩
  rw [← hR]
  refine FnDoes.of (fn := ir27) rfl ?_
  obtain ⟨n, hnn⟩ : ∃ n, n = cs.length := ⟨_, rfl⟩
  have hl := h.len
  rw [← hnn] at hl
  have c1 : (n : Int) ≤ 140737488355328 := by omega
  have c8 : 8 * (n : Int) ≤ 140737488355328 := by omega
  simp [ir27, h.isSl, hl, c1, c8]
  intro n3 b3 f3
  have o0 := Own.start (base := base) (H := H) |>.new f3 b3 (s := .arr 4 (List.replicate n (BV.bool false)))
  simp [make_of f3 b3]
  obtain ⟨I, hI⟩ : ∃ I : Nat → Env → BH → Prop, I = (fun i e K => e 4 = encN i ∧ Own base H K [(some n3, .arr 4 (fillB cs (BV.bool false) i))]) := ⟨_, rfl⟩
  refine wpC_countK n [(0, v), (3, .sl n3 0 n)] I (i0 := 0) ?_ ?_ ?_ (Nat.zero_le _) ?_
  · rfl
  · simp
  · rw [hI]
    refine ⟨by simp, ?_⟩
    rw [fillB_zero, ← hnn]
    exact o0
  clear o0
  rintro i e K hi ⟨e0, e3, -⟩ hh
  rw [hI] at hh
  obtain ⟨e4, o⟩ := hh
  simp only [] at e0 e3
  have wi := wS (n := i) (by omega)
  by_cases hlt : i < n
  · have hic : i < cs.length := by omega
    have hg := (h.keeps o.keeps).get hic (rt := none) rfl
    obtain ⟨K5, g5, o5⟩ := o.put 0 (b := n3) rfl (j := i) (u := cs[i]) (by rw [fillB_len (by omega)]; exact hic) (hone _ (List.getElem_mem hic)) (rt := none) rfl
    simp [e0, e3, e4, h.isSl, hl, hlt, hg, g5, wi]
    rw [hI]
    refine ⟨by simp, ?_⟩
    rw [← fillB_set hic]
    exact o5
  · have hie : i = n := by omega
    simp [e0, e3, e4, h.isSl, hl, hlt]
    rw [hR]
    rw [hie, hnn, fillB_all] at o
    exact ⟨o.keeps, n3, by rw [hnn], o⟩

theorem t_longs {ty : Nat} (cs : List BV) (v : BV) (H : BH) (h : Rd H ty v cs) (hone : ∀ c ∈ cs, c.one = true) (hn : cs.length ≤ 1048576) :
    FnDoes (gam base) 17 [v] H fun v' K => ∃ b, v' = .sl b 0 cs.length ∧ Own base H K [(some b, .arr 2 cs)] := by
  obtain ⟨R, hR⟩ : ∃ R : BV → BH → Prop, R = fun v' K => ∃ b, v' = .sl b 0 cs.length ∧ Own base H K [(some b, .arr 2 cs)] := ⟨_, rfl⟩
  rw [← hR]
  refine FnDoes.of (fn := ir17) rfl ?_
  obtain ⟨n, hnn⟩ : ∃ n, n = cs.length := ⟨_, rfl⟩
  have hl := h.len
  rw [← hnn] at hl
  have c1 : (n : Int) ≤ 140737488355328 := by omega
  have c8 : 8 * (n : Int) ≤ 140737488355328 := by omega
  simp [ir17, h.isSl, hl, c1, c8]
  intro n3 b3 f3
  have o0 := Own.start (base := base) (H := H) |>.new f3 b3 (s := .arr 2 (List.replicate n (BV.int .i64 0)))
  simp [make_of f3 b3]
  obtain ⟨I, hI⟩ : ∃ I : Nat → Env → BH → Prop, I = (fun i e K => e 4 = encN i ∧ Own base H K [(some n3, .arr 2 (fillB cs (BV.int .i64 0) i))]) := ⟨_, rfl⟩
  refine wpC_countK n [(0, v), (3, .sl n3 0 n)] I (i0 := 0) ?_ ?_ ?_ (Nat.zero_le _) ?_
  · rfl
  · simp
  · rw [hI]
    refine ⟨by simp, ?_⟩
    rw [fillB_zero, ← hnn]
    exact o0
  clear o0
  rintro i e K hi ⟨e0, e3, -⟩ hh
  rw [hI] at hh
  obtain ⟨e4, o⟩ := hh
  simp only [] at e0 e3
  have wi := wS (n := i) (by omega)
  by_cases hlt : i < n
  · have hic : i < cs.length := by omega
    have hg := (h.keeps o.keeps).get hic (rt := none) rfl
    obtain ⟨K5, g5, o5⟩ := o.put 0 (b := n3) rfl (j := i) (u := cs[i]) (by rw [fillB_len (by omega)]; exact hic) (hone _ (List.getElem_mem hic)) (rt := none) rfl
    simp [e0, e3, e4, h.isSl, hl, hlt, hg, g5, wi]
    rw [hI]
    refine ⟨by simp, ?_⟩
    rw [← fillB_set hic]
    exact o5
  · have hie : i = n := by omega
    simp [e0, e3, e4, h.isSl, hl, hlt]
    rw [hR]
    rw [hie, hnn, fillB_all] at o
    exact ⟨o.keeps, n3, by rw [hnn], o⟩

def fillV (vs : List BV) (n : Nat) : List BV := vs ++ List.replicate (n - vs.length) .nils
theorem fillV_set {vs : List BV} {n : Nat} {v : BV} (h : vs.length < n) : (fillV vs n).set vs.length v = fillV (vs ++ [v]) n := by
  unfold fillV
  rw [List.set_append_right _ _ (by omega), Nat.sub_self, show n - vs.length = (n - (vs.length + 1)) + 1 by omega, List.replicate_succ]
  simp
theorem t_rows {ty : Nat} (xss : List (List BV)) (v : BV) (H : BH) (h : RdQ H ty v (fun c => c) xss) (hone : ∀ xs ∈ xss, ∀ c ∈ xs, c.one = true) (hn : xss.length ≤ 1048576) (hr : ∀ xs ∈ xss, xs.length ≤ 1048576) :
    FnDoes (gam base) 28 [v] H fun v' K => ∃ b vs fr, v' = .sl b 0 vs.length ∧ Own base H K ((some b, .arr 37 vs) :: fr) ∧ RowsOf 2 vs fr xss := by
  obtain ⟨R, hR⟩ : ∃ R : BV → BH → Prop, R = fun v' K => ∃ b vs fr, v' = .sl b 0 vs.length ∧ Own base H K ((some b, .arr 37 vs) :: fr) ∧ RowsOf 2 vs fr xss := ⟨_, rfl⟩
  rw [← hR]
  refine FnDoes.of (fn := ir28) rfl ?_
  obtain ⟨n, hnn⟩ : ∃ n, n = xss.length := ⟨_, rfl⟩
  have hl := h.len
  rw [← hnn] at hl
  have c1 : (n : Int) ≤ 140737488355328 := by omega
  have c8 : 24 * (n : Int) ≤ 140737488355328 := by omega
  simp [ir28, h.isSl, hl, c1, c8]
  intro n3 b3 f3
  have o0 := Own.start (base := base) (H := H) |>.new f3 b3 (s := .arr 37 (List.replicate n .nils))
  simp [make_of f3 b3]
  obtain ⟨I, hI⟩ : ∃ I : Nat → Env → BH → Prop, I = (fun i e K => e 4 = encN i ∧ ∃ vs fr, vs.length = i ∧ Own base H K ([(some n3, .arr 37 (fillV vs n))] ++ fr) ∧ RowsOf 2 vs fr (xss.take i)) := ⟨_, rfl⟩
  refine wpC_countK n [(0, v), (3, .sl n3 0 n)] I (i0 := 0) ?_ ?_ ?_ (Nat.zero_le _) ?_
  · rfl
  · simp
  · rw [hI]
    refine ⟨by simp, [], [], rfl, ?_, by simp [RowsOf]⟩
    simpa [fillV] using o0
  clear o0
  rintro i e K hi ⟨e0, e3, -⟩ hh
  rw [hI] at hh
  obtain ⟨e4, vs, fr, hvs, o, hrows⟩ := hh
  simp only [] at e0 e3
  have wi := wS (n := i) (by omega)
  by_cases hlt : i < n
  · have hic : i < xss.length := by omega
    obtain ⟨ri, ⟨tq, hri⟩, hrr⟩ := (h.keeps o.keeps).at hic
    have hrr := hrr none rfl
    rw [List.map_id'] at hri
    simp [e0, e4, h.isSl, hl, hlt, hrr]
    refine (t_longs (base := base) xss[i] ri K hri (hone _ (List.getElem_mem hic)) (hr _ (List.getElem_mem hic))).step fun v' K1 k1 hv => ?_
    obtain ⟨b, rfl, o2⟩ := hv
    have oj := Own.join o k1 o2
    obtain ⟨K5, g5, o5⟩ := oj.put 0 (b := n3) rfl (j := i) (u := .sl b 0 xss[i].length) (by unfold fillV; simp; omega) rfl (rt := none) rfl
    simp [e3, hlt, g5, e4, wi]
    rw [hI]
    refine ⟨by simp, vs ++ [.sl b 0 xss[i].length], fr ++ [(some b, .arr 2 xss[i])], by simp [hvs], ?_, ?_⟩
    · rw [← fillV_set (by omega), hvs]
      simpa using o5
    · rw [List.take_add_one, List.getElem?_eq_getElem hic]
      exact hrows.snoc (bo := some b) (v := .sl b 0 xss[i].length) (xs := xss[i]) rfl
  · have hie : i = n := by omega
    simp [e0, e3, e4, h.isSl, hl, hlt]
    rw [hR]
    refine ⟨o.keeps, n3, vs, fr, by rw [hvs, hie], ?_, ?_⟩
    · have : fillV vs n = vs := by unfold fillV; simp; omega
      rw [this] at o
      exact o
    · rw [hie, hnn, List.take_length] at hrows
      exact hrows
theorem t_rel (T S : Int) (acc : List Bool) (rows : List (List Int)) (m : BV) (H : BH) (h : RdL H T S acc rows m) (hn1 : acc.length ≤ 1048576) (hn : rows.length ≤ 1048576) (hr : ∀ xs ∈ rows, xs.length ≤ 1048576) :
    FnDoes (gam base) 9 [m] H fun v K => RdRaw K T S acc rows v := by
  refine FnDoes.of (fn := ir9) rfl ?_
  obtain ⟨u, x, tb, tw, rfl, hu, hx⟩ := h
  have u1 := hu.one
  have x1 := one_of_isSl hx.isSl
  simp [ir9, u1, x1]
  intro n1 b1 f1
  simp [make_of f1 b1]
  intro n2 b2 f2
  simp [make_of f2 b2]
  intro n3 b3 f3
  have o1 := Own.start (base := base) (H := H) |>.new f1 b1 (s := .arr 25 [.int .i64 T, .int .i64 S, u, x]) |>.new f2 b2 (s := .arr 29 [.int .i64 0, .int .i64 0, .nils, .nils]) |>.new f3 b3 (s := .arr 29 [.int .i64 0, .int .i64 0, .nils, .nils])
  have r0 := rd_ptr (o1.at 2 (b := n1) rfl) (rt := none) (j := 0) (c := encI T) rfl rfl
  obtain ⟨K1, g1, o2⟩ := o1.put 0 (b := n3) rfl (j := 0) (u := encI T) (by simp) rfl (rt := none) rfl
  have r1 := rd_ptr (o2.at 2 (b := n1) rfl) (rt := none) (j := 1) (c := encI S) rfl rfl
  obtain ⟨K2, g2, o3⟩ := o2.put 0 (b := n3) rfl (j := 1) (u := encI S) (by simp) rfl (rt := none) rfl
  have r2 := rd_ptr (o3.at 2 (b := n1) rfl) (rt := none) (j := 2) (c := u) rfl rfl
  simp [make_of f3 b3, r0, g1, r1, g2, r2]
  refine (t_bools (base := base) (acc.map encB) u _ (hu.keeps o3.keeps) (fun c hc => by
      obtain ⟨q, _, rfl⟩ := List.mem_map.1 hc
      rfl) (by simpa using hn1)).step fun v K3 k3 hv => ?_
  obtain ⟨b, rfl, o4⟩ := hv
  have oj := Own.join o3 k3 o4
  obtain ⟨K4, g4, o5⟩ := oj.put 0 (b := n3) rfl (j := 2) (u := .sl b 0 (acc.map encB).length) (by simp) rfl (rt := none) rfl
  have r3 := rd_ptr (o5.at 2 (b := n1) rfl) (rt := none) (j := 3) (c := x) rfl rfl
  simp only [List.length_map] at g4
  simp [g4, r3]
  refine (t_rows (base := base) (rows.map (·.map encI)) x _ (RdQ.cells (hx.keeps o5.keeps)) (fun xs hxs c hc => by
      obtain ⟨r, _, rfl⟩ := List.mem_map.1 hxs
      obtain ⟨q, _, rfl⟩ := List.mem_map.1 hc
      rfl) (by simpa using hn) (fun xs hxs => by
      obtain ⟨r, hr', rfl⟩ := List.mem_map.1 hxs
      rw [List.length_map]
      exact hr r hr')).step fun v K5 k5 hv => ?_
  obtain ⟨c, vs, fr, rfl, o6, hrows⟩ := hv
  have oj2 := Own.join o5 k5 o6
  obtain ⟨K6, g6, o7⟩ := oj2.put 0 (b := n3) rfl (j := 3) (u := .sl c 0 vs.length) (by simp) rfl (rt := none) rfl
  have r9 := rd_all (o7.at 0 (b := n3) rfl) (n := 4) (rt := none) rfl rfl
  obtain ⟨K7, g7, o8⟩ := o7.putAll 1 (b := n2) (n := 4) (ds := [encI T, encI S, .sl b 0 acc.length, .sl c 0 vs.length]) rfl rfl rfl rfl (rt := none) rfl
  have r10 := rd_all (o8.at 1 (b := n2) rfl) (n := 4) (rt := none) rfl rfl
  simp [g6, r9, g7, r10]
  refine ⟨o8.keeps, _, _, rfl, o8.rd 3 (bo := some b) rfl (by simp [Vec]), ?_⟩
  have o9 := o8.drop 4
  exact RowsOf.rdR (bo := some c) (F := [(some c, .arr 37 vs)]) o9 hrows (o9.rd 0 rfl rfl)
end Go.Proofs.YtcnkhkmapgbodaaDoor.W
end

section
namespace Go.Proofs.YtcnkhkmapgbodaaDoor.W
set_option linter.unusedVariables false
set_option linter.unusedSimpArgs false
open Go.B
variable {base : Nat}
attribute [local simp] wpC_skip wpC_region wpC_seq wpC_true wpC_false wpC_block wpC_exit wpC_ret wpO_nil wpO_n wpO_tt wpO_ff wpO_tf wpO_ft wpO_u wpS_mov wpS_pick wpS_build wpS_load wpS_store wpS_nilck wpS_bin wpS_beq wpS_isnil wpS_eqs wpS_not wpS_neg wpS_conv wpS_lea wpS_fld wpS_idx wpS_idxs wpS_slice wpS_sslice wpS_mkfn wpS_mset wpS_look wpS_ext wpS_len wpS_new wpS_box wpS_mk wpS_mkmap wpS_mksl wpS_app wpS_fn wpS_call after_some pthen_n pthen_x pthen_r pin BExit.outOf puto_some puto_none put_eq put_ne Opd.ev argEnv op1_mov op1_pick op1_new op1_box op1_load op1_nilck op1_bin op1_beq op1_not op1_neg op1_conv op1_lea op1_fld op1_len0 op1_len1 op1_idx op1_ext op1_build op1_mk op1_stw op1_mksl op1_eqs pureBin isShift resOf resVals val_tmp val_cell oneOf one_int cells_int one_bool cells_bool one_str cells_str one_nilp cells_nilp one_ptr cells_ptr one_nils cells_nils one_sl cells_sl one_sle cells_sle one_nilm cells_nilm one_mp cells_mp one_nilf cells_nilf one_fn cells_fn one_nili cells_nili cells_agg isSl_sl slen_sl sat_sl make_of asm rtOk wpS_b2s op1_b2s wpS_imax op1_imax op1_isnil Option.map_some gam_base op1_app op1_idxs wpS_idxa op1_idxa op1_sslice bound_none bound_some nat_of op1_mkmap op1_mset op1_look op1_len2 op1_mkfn fillB Has
open Go.Au
theorem q_bools (bs : List Bool) (v w : BV) (H : BH) {ty ty2 : Nat} (h : Rd H ty v (bs.map encB)) (k : Rd H ty2 w (bs.map encB)) (hn : bs.length ≤ 4611686018427387904) :
    Runs (gam base) 31 [v, w] H (.bool true) H := by
  refine runs_of (fn := ir31) rfl ?_
  simp [ir31, h.isSl, h.lenM, k.isSl, k.lenM]
  refine wpC_countK bs.length [(0, v), (1, w)] (fun i e K => e 5 = encN i ∧ K = H) (i0 := 0) ?_ ?_ ?_ (Nat.zero_le _) ?_
  · rfl
  · simp
  · exact ⟨by simp, rfl⟩
  rintro i e K hi ⟨e0, e1, -⟩ ⟨e5, rfl⟩
  simp only [] at e0 e1
  have wi := wS (n := i) (by omega)
  by_cases hlt : i < bs.length
  · have g1 := h.at hlt (rt := none) rfl
    have g2 := k.at hlt (rt := none) rfl
    simp [e0, e1, e5, h.isSl, h.lenM, k.isSl, k.lenM, hlt, g1, g2, wi]
  · simp [e0, e1, e5, h.isSl, h.lenM, k.isSl, k.lenM, hlt]
theorem q_longs (bs : List Int) (v w : BV) (H : BH) {ty ty2 : Nat} (h : Rd H ty v (bs.map encI)) (k : Rd H ty2 w (bs.map encI)) (hn : bs.length ≤ 4611686018427387904) :
    Runs (gam base) 19 [v, w] H (.bool true) H := by
  refine runs_of (fn := ir19) rfl ?_
  simp [ir19, h.isSl, h.lenM, k.isSl, k.lenM]
  refine wpC_countK bs.length [(0, v), (1, w)] (fun i e K => e 5 = encN i ∧ K = H) (i0 := 0) ?_ ?_ ?_ (Nat.zero_le _) ?_
  · rfl
  · simp
  · exact ⟨by simp, rfl⟩
  rintro i e K hi ⟨e0, e1, -⟩ ⟨e5, rfl⟩
  simp only [] at e0 e1
  have wi := wS (n := i) (by omega)
  by_cases hlt : i < bs.length
  · have g1 := h.at hlt (rt := none) rfl
    have g2 := k.at hlt (rt := none) rfl
    simp [e0, e1, e5, h.isSl, h.lenM, k.isSl, k.lenM, hlt, g1, g2, wi]
  · simp [e0, e1, e5, h.isSl, h.lenM, k.isSl, k.lenM, hlt]
theorem q_rows (rows : List (List Int)) (v w : BV) (H : BH) {ty ty2 tz tz2 : Nat} (h : RdR H ty ty2 v encI rows) (k : RdR H tz tz2 w encI rows) (hn : rows.length ≤ 4611686018427387904) (hr : ∀ r ∈ rows, r.length ≤ 4611686018427387904) :
    Runs (gam base) 32 [v, w] H (.bool true) H := by
  refine runs_of (fn := ir32) rfl ?_
  simp [ir32, h.isSl, h.len, k.isSl, k.len]
  refine wpC_countK rows.length [(0, v), (1, w)] (fun i e K => e 5 = encN i ∧ K = H) (i0 := 0) ?_ ?_ ?_ (Nat.zero_le _) ?_
  · rfl
  · simp
  · exact ⟨by simp, rfl⟩
  rintro i e K hi ⟨e0, e1, -⟩ ⟨e5, rfl⟩
  simp only [] at e0 e1
  have wi := wS (n := i) (by omega)
  by_cases hlt : i < rows.length
  · obtain ⟨ri, hri, hrr⟩ := h.at hlt
    obtain ⟨rj, hrj, hrk⟩ := k.at hlt
    have hrr := hrr none rfl
    have hrk := hrk none rfl
    simp [e0, e1, e5, h.isSl, h.len, k.isSl, k.len, hlt, hrr, hrk]
    refine callP (q_longs (base := base) rows[i] ri rj K hri hrj (hr _ (List.getElem_mem hlt))) ?_
    simp [e5, wi, hlt]
  · simp [e0, e1, e5, h.isSl, h.len, k.isSl, k.len, hlt]
theorem q_rel (T S : Int) (acc : List Bool) (rows : List (List Int)) (m m2 : BV) (H : BH) (h : RdRaw H T S acc rows m) (k : RdRaw H T S acc rows m2) (hn1 : acc.length ≤ 4611686018427387904) (hn : rows.length ≤ 4611686018427387904) (hr : ∀ r ∈ rows, r.length ≤ 4611686018427387904) :
    FnDoes (gam base) 11 [m, m2] H fun v _ => v = .bool true := by
  refine FnDoes.of (fn := ir11) rfl ?_
  obtain ⟨u, x, rfl, hu, hx⟩ := h
  obtain ⟨u', x', rfl, hu', hx'⟩ := k
  have u1 := hu.one
  have x1 := one_of_isSl hx.isSl
  have u1' := hu'.one
  have x1' := one_of_isSl hx'.isSl
  simp [ir11, u1, x1, u1', x1']
  intro n2 b2 f2
  simp [make_of f2 b2, u1', x1']
  intro n3 b3 f3
  have o1 := Own.start (base := base) (H := H) |>.new f2 b2 (s := .arr 29 [.int .i64 T, .int .i64 S, u, x]) |>.new f3 b3 (s := .arr 29 [.int .i64 T, .int .i64 S, u', x'])
  have p0 := rd_ptr (o1.at 1 (b := n2) rfl) (rt := none) (j := 0) (c := encI T) rfl rfl
  have p1 := rd_ptr (o1.at 1 (b := n2) rfl) (rt := none) (j := 1) (c := encI S) rfl rfl
  have p2 := rd_ptr (o1.at 1 (b := n2) rfl) (rt := none) (j := 2) (c := u) rfl rfl
  have p3 := rd_ptr (o1.at 1 (b := n2) rfl) (rt := none) (j := 3) (c := x) rfl rfl
  have q0 := rd_ptr (o1.at 0 (b := n3) rfl) (rt := none) (j := 0) (c := encI T) rfl rfl
  have q1 := rd_ptr (o1.at 0 (b := n3) rfl) (rt := none) (j := 1) (c := encI S) rfl rfl
  have q2 := rd_ptr (o1.at 0 (b := n3) rfl) (rt := none) (j := 2) (c := u') rfl rfl
  have q3 := rd_ptr (o1.at 0 (b := n3) rfl) (rt := none) (j := 3) (c := x') rfl rfl
  simp [make_of f3 b3, p0, p1, p2, q0, q1, q2]
  refine callP (q_bools (base := base) acc u u' _ (hu.keeps o1.keeps) (hu'.keeps o1.keeps) hn1) ?_
  simp [p3, q3]
  refine callP (q_rows (base := base) rows x x' _ (hx.keeps o1.keeps) (hx'.keeps o1.keeps) hn hr) ?_
  simp
  exact o1.keeps
/-- The law. -/
theorem law_IsNS (T S : Int) (acc : List Bool) (rows : List (List Int)) (m : BV) (H : BH) (h : RdL H T S acc rows m) (hn1 : acc.length ≤ 9223372036854775807) (hn : rows.length ≤ 9223372036854775807) (hr : ∀ xs ∈ rows, xs.length ≤ 9223372036854775807) :
    FnDoes (gam base) 3 [m] H fun v _ => v = .bool true := by
  refine FnDoes.of (fn := ir3) rfl ?_
  have g := h
  obtain ⟨u, x, tb, tw, rfl, hu, hx⟩ := h
  have u1 := hu.one
  have x1 := one_of_isSl hx.isSl
  simp [ir3, u1, x1]
  intro n1 b1 f1
  have o1 := Own.start (base := base) (H := H) |>.new f1 b1 (s := .arr 25 [.int .i64 T, .int .i64 S, u, x])
  have r1 := rd_all (o1.at 0 (b := n1) rfl) (n := 4) (rt := none) rfl rfl
  simp [make_of f1 b1, r1]
  refine (z_rel (base := base) T S acc rows _ _ (g.keeps o1.keeps) hn1 hn hr).step fun v K1 k1 hv => ?_
  obtain ⟨z, rfl, hz⟩ := hv
  have o2 := o1.call k1
  by_cases hz0 : z < 0
  · simp [hz0]
    exact o2.keeps
  obtain ⟨m1, m2, m3⟩ := hz (by omega)
  have r1 := rd_all (o2.at 0 (b := n1) rfl) (n := 4) (rt := none) rfl rfl
  simp [hz0, r1]
  refine (t_rel (base := base) T S acc rows _ _ (g.keeps o2.keeps) m1 m2 m3).step fun v K2 k2 hv => ?_
  have o3 := o2.call k2
  simp
  refine (s_IsNS (base := base) T S acc rows v K2 hv (by omega)).step fun v' K3 k3 hv' => ?_
  subst hv'
  have o4 := o3.call k3
  have r1 := rd_all (o4.at 0 (b := n1) rfl) (n := 4) (rt := none) rfl rfl
  simp [r1]
  refine (t_rel (base := base) T S acc rows _ _ (g.keeps o4.keeps) m1 m2 m3).step fun w K4 k4 hw => ?_
  have o5 := o4.call k4
  obtain ⟨uu, ww, rfl, hu2, hx2⟩ := id hw
  have u2 := hu2.one
  have x2 := one_of_isSl hx2.isSl
  simp [u2, x2]
  intro n6 b6 f6
  obtain ⟨K5, g5, o6⟩ := (o5.new f6 b6 (s := .arr 29 [.int .i64 0, .int .i64 0, .nils, .nils])).putAll 0 (b := n6) (n := 4) (ds := [encI T, encI S, uu, ww]) rfl rfl rfl (by simp [u2, x2]) (rt := none) rfl
  obtain ⟨K5', g5', o6'⟩ := (Own.start (base := base) (H := K4) |>.new f6 b6 (s := .arr 29 [.int .i64 0, .int .i64 0, .nils, .nils])).putAll 0 (b := n6) (n := 4) (ds := [encI T, encI S, uu, ww]) rfl rfl rfl (by simp [u2, x2]) (rt := none) rfl
  rw [g5] at g5'
  cases g5'
  have k5 := o6'.keeps
  have r6 := rd_all (o6.at 0 (b := n6) rfl) (n := 4) (rt := none) rfl rfl
  simp [make_of f6 b6, g5, r6]
  refine (i_IsNS (base := base) T S acc rows _ K5 (hw.keeps k5) (by omega)).step fun v' K6 k6 hv' => ?_
  subst hv'
  have o7 := o6.call k6
  have r6 := rd_all (o7.at 0 (b := n6) rfl) (n := 4) (rt := some 29) rfl rfl
  have r1 := rd_all (o7.at 1 (b := n1) rfl) (n := 4) (rt := none) rfl rfl
  simp [r6, r1]
  refine (t_rel (base := base) T S acc rows _ _ (g.keeps o7.keeps) m1 m2 m3).step fun w K7 k7 hw2 => ?_
  simp
  refine (q_rel (base := base) T S acc rows _ w K7 ((hw.keeps (k5.trans k6)).keeps k7) hw2 (by omega) (by omega) (fun r hr' => by have := m3 r hr'; omega)).step fun v' K8 k8 hv' => ?_
  subst hv'
  simp
  exact (o7.keeps.trans k7).trans k8
end Go.Proofs.YtcnkhkmapgbodaaDoor.W
end

section
namespace Go.Proofs.YtcnkhkmapgbodaaDoor.W
set_option linter.unusedVariables false
set_option linter.unusedSimpArgs false
open Go.B
variable {base : Nat}
attribute [local simp] wpC_skip wpC_region wpC_seq wpC_true wpC_false wpC_block wpC_exit wpC_ret wpO_nil wpO_n wpO_tt wpO_ff wpO_tf wpO_ft wpO_u wpS_mov wpS_pick wpS_build wpS_load wpS_store wpS_nilck wpS_bin wpS_beq wpS_isnil wpS_eqs wpS_not wpS_neg wpS_conv wpS_lea wpS_fld wpS_idx wpS_idxs wpS_slice wpS_sslice wpS_mkfn wpS_mset wpS_look wpS_ext wpS_len wpS_new wpS_box wpS_mk wpS_mkmap wpS_mksl wpS_app wpS_fn wpS_call after_some pthen_n pthen_x pthen_r pin BExit.outOf puto_some puto_none put_eq put_ne Opd.ev argEnv op1_mov op1_pick op1_new op1_box op1_load op1_nilck op1_bin op1_beq op1_not op1_neg op1_conv op1_lea op1_fld op1_len0 op1_len1 op1_idx op1_ext op1_build op1_mk op1_stw op1_mksl op1_eqs pureBin isShift resOf resVals val_tmp val_cell oneOf one_int cells_int one_bool cells_bool one_str cells_str one_nilp cells_nilp one_ptr cells_ptr one_nils cells_nils one_sl cells_sl one_sle cells_sle one_nilm cells_nilm one_mp cells_mp one_nilf cells_nilf one_fn cells_fn one_nili cells_nili cells_agg isSl_sl slen_sl sat_sl make_of asm rtOk wpS_b2s op1_b2s wpS_imax op1_imax wpS_imin op1_imin wpS_i2s op1_i2s op1_isnil Option.map_some gam_base op1_app op1_idxs wpS_idxa op1_idxa op1_sslice bound_none bound_some nat_of op1_mkmap op1_mset op1_look op1_len2 op1_mkfn fillB Has
section
variable {H : Type} {enc : TypeId × Value → H} {W : World} {held : Bool}
theorem sls_nil (w : World) (ty sz : Nat) : Sls (heap0 w) ty sz (absV w (.slice none 0 0)) [] := ⟨rfl, rfl, fun i x hi => by simp at hi⟩
def fs25 : Array Field := #[⟨"Tapes", 2, 0, false, "", "", 0⟩, ⟨"Start", 2, 1, false, "", "", 8⟩, ⟨"Accept", 22, 2, false, "", "", 16⟩, ⟨"Next", 23, 3, false, "", "", 40⟩]
theorem u25 : Tryd.prog.underlying 25 = some (.struct fs25) := by kernel_rfl
theorem u2 : Tryd.prog.underlying 2 = some (.int .i64) := by kernel_rfl
theorem u4 : Tryd.prog.underlying 4 = some .bool := by kernel_rfl
theorem u22 : Tryd.prog.underlying 22 = some (.slice 4) := by kernel_rfl
theorem u23 : Tryd.prog.underlying 23 = some (.slice 37) := by kernel_rfl
theorem u37 : Tryd.prog.underlying 37 = some (.slice 2) := by kernel_rfl
theorem open_flags {fuel : Nat} {c : Value} {x : DataW H × List MemPlace} (h : DataW.trod enc Tryd.prog W 0 (fun _ => true) held fuel 22 [c] = some x) :
    ∃ (bs : List Bool) (ty : Nat), Rd (heap0 W) ty (absV W c) (bs.map encB) ∧ bs.length ≤ 9223372036854775807 := by
  rcases Deep.open_bools u22 u4 (by kernel_rfl) h with ⟨e, _⟩ | ⟨a, len, cap, B, e, _, hl, hm, _, hcell⟩
  · simp at e
    subst e
    exact ⟨[], 0, sls_nil W 0 1, by simp⟩
  · simp at e
    subst e
    obtain ⟨ty, hs⟩ := Sls.start (w := W) (a := a) (n := len) (c := cap) (sz := 1) (xs := (List.range len).map fun i => [Value.bool (B i)]) (by simp) hl (by omega) (by simp) (by
      intro i x hi j v hj
      rw [List.getElem?_map] at hi
      simp only [Option.map_eq_some_iff] at hi
      obtain ⟨k, hk, rfl⟩ := hi
      obtain ⟨hlt, hkv⟩ := List.getElem?_eq_some_iff.1 hk
      simp at hlt hkv
      subst hkv
      cases j with
      | zero =>
        simp at hj
        subst hj
        simpa using hcell i (by omega)
      | succ j => simp at hj)
    refine ⟨(List.range len).map B, ty, ?_, ?_⟩
    · unfold Rd
      simpa [List.map_map, Function.comp_def, absV, toB1, one1, encB] using hs
    · simp [maxLen] at hm ⊢
      omega
theorem open_longs {a : Addr} {L C : Nat} {Z : List Int} (hl : L ≤ C) (hz : Z.length = C) (hcell : ∀ c, c < C → W.cell? (a.add c) = some (.int .i64 (Z.getD c 0))) :
    ∃ ty, Rd (heap0 W) ty (absV W (.slice (some a) L C)) ((Z.take L).map encI) := by
  obtain ⟨ty, hs⟩ := Sls.start (w := W) (a := a) (n := L) (c := C) (sz := 1) (xs := (Z.take L).map fun z => [Value.int .i64 z]) (by simp; omega) hl (by omega) (fun x hx => by
    obtain ⟨z, _, rfl⟩ := List.mem_map.1 hx
    rfl) (by
    intro i x hi j v hj
    rw [List.getElem?_map] at hi
    simp only [Option.map_eq_some_iff] at hi
    obtain ⟨k, hk, rfl⟩ := hi
    obtain ⟨hlt, hkv⟩ := List.getElem?_eq_some_iff.1 hk
    rw [List.length_take] at hlt
    rw [List.getElem_take] at hkv
    cases j with
    | zero =>
      simp at hj
      subst hj
      have := hcell i (by omega)
      rw [List.getD_eq_getElem?_getD, List.getElem?_eq_getElem (by omega)] at this
      rw [← hkv]
      simpa using this
    | succ j => simp at hj)
  refine ⟨ty, ?_⟩
  unfold Rd
  simpa [List.map_map, Function.comp_def, absV, toB1, one1, encI] using hs
theorem open_rows {fuel : Nat} {c : Value} {x : DataW H × List MemPlace} (h : DataW.trod enc Tryd.prog W 0 (fun _ => true) held fuel 23 [c] = some x) :
    ∃ (rows : List (List Int)) (ty : Nat), RdQ (heap0 W) ty (absV W c) encI rows ∧ rows.length ≤ 9223372036854775807 ∧ ∀ xs ∈ rows, xs.length ≤ 9223372036854775807 := by
  rcases Deep.open_int_rows u23 u37 u2 (by kernel_rfl) (by kernel_rfl) h with ⟨e, _⟩ | ⟨a, len, cap, A, L, C, Z, e, _, hl, hm, _, hr⟩
  · simp at e
    subst e
    exact ⟨[], 0, ⟨[], sls_nil W 0 1, rfl, fun i u xs hu => by simp at hu⟩, by simp, by simp⟩
  · simp at e
    subst e
    obtain ⟨ty, hs⟩ := Sls.start (w := W) (a := a) (n := len) (c := cap) (sz := 1) (xs := (List.range len).map fun r => [Value.slice (A r) (L r) (C r)]) (by simp) hl (by omega) (by simp) (by
      intro i x hi j v hj
      rw [List.getElem?_map] at hi
      simp only [Option.map_eq_some_iff] at hi
      obtain ⟨k, hk, rfl⟩ := hi
      obtain ⟨hlt, hkv⟩ := List.getElem?_eq_some_iff.1 hk
      simp at hlt hkv
      subst hkv
      cases j with
      | zero =>
        simp at hj
        subst hj
        simpa using (hr i (by omega)).1
      | succ j => simp at hj)
    refine ⟨(List.range len).map fun r => (Z r).take (L r), ty, ⟨(List.range len).map fun r => absV W (.slice (A r) (L r) (C r)), ?_, by simp, ?_⟩, ?_, ?_⟩
    · unfold Rd
      simpa [List.map_map, Function.comp_def, one1] using hs
    · intro i u xs hu hx
      have hil : i < len := by have := (List.getElem?_eq_some_iff.1 hu).1; simpa using this
      rw [List.getElem?_map, List.getElem?_range hil] at hu hx
      simp at hu hx
      subst hu hx
      obtain ⟨_, g2, g3, g4, _, g6, g7⟩ := hr i (by omega)
      cases hA : A i with
      | none =>
        have hc := g6 hA
        have hL : L i = 0 := by omega
        rw [hc, hL]
        exact ⟨0, sls_nil W 0 1⟩
      | some a' => exact open_longs g2 g4 (g7 a' hA).2
    · simp [maxLen] at hm ⊢
      omega
    · intro xs hxs
      obtain ⟨r, hr', rfl⟩ := List.mem_map.1 hxs
      obtain ⟨_, g2, g3, g4, _⟩ := hr r (by have := List.mem_range.1 hr'; omega)
      simp [maxLen] at g3 ⊢
      omega
end
end Go.Proofs.YtcnkhkmapgbodaaDoor.W
end

section
namespace Go.Proofs.YtcnkhkmapgbodaaDoor.W
set_option linter.unusedVariables false
set_option linter.unusedSimpArgs false
open Go.B
variable {base : Nat}
attribute [local simp] wpC_skip wpC_region wpC_seq wpC_true wpC_false wpC_block wpC_exit wpC_ret wpO_nil wpO_n wpO_tt wpO_ff wpO_tf wpO_ft wpO_u wpS_mov wpS_pick wpS_build wpS_load wpS_store wpS_nilck wpS_bin wpS_beq wpS_isnil wpS_eqs wpS_not wpS_neg wpS_conv wpS_lea wpS_fld wpS_idx wpS_idxs wpS_slice wpS_sslice wpS_mkfn wpS_mset wpS_look wpS_ext wpS_len wpS_new wpS_box wpS_mk wpS_mkmap wpS_mksl wpS_app wpS_fn wpS_call after_some pthen_n pthen_x pthen_r pin BExit.outOf puto_some puto_none put_eq put_ne Opd.ev argEnv op1_mov op1_pick op1_new op1_box op1_load op1_nilck op1_bin op1_beq op1_not op1_neg op1_conv op1_lea op1_fld op1_len0 op1_len1 op1_idx op1_ext op1_build op1_mk op1_stw op1_mksl op1_eqs pureBin isShift resOf resVals val_tmp val_cell oneOf one_int cells_int one_bool cells_bool one_str cells_str one_nilp cells_nilp one_ptr cells_ptr one_nils cells_nils one_sl cells_sl one_sle cells_sle one_nilm cells_nilm one_mp cells_mp one_nilf cells_nilf one_fn cells_fn one_nili cells_nili cells_agg isSl_sl slen_sl sat_sl make_of asm rtOk wpS_b2s op1_b2s wpS_imax op1_imax op1_isnil Option.map_some gam_base op1_app op1_idxs wpS_idxa op1_idxa op1_sslice bound_none bound_some nat_of op1_mkmap op1_mset op1_look op1_len2 op1_mkfn fillB Has
open Go.Au
/-- A relation of any kind: tapes, start, what accepts, the rows. -/
abbrev Raw4 := Int × Int × List Bool × List (List Int)
def valR (r : Raw4) : Bool := validB r.1 r.2.1 r.2.2.1 r.2.2.2
noncomputable def nsR (r : Raw4) : Bool := decide (r.1 = 1) && nsB ((⟨r.2.2.1, r.2.2.2.map (·.map Int.toNat)⟩ : Aut).lang r.2.1.toNat)
noncomputable def setsN (l : List Raw4) : Nat := if l.all valR = true then (if l.all nsR = true then 0 else 4) else 1
/-- A list of relations. -/
def RdRs (H : BH) (v : BV) (l : List Raw4) : Prop := ∃ cs : List (List BV), Sls H 29 4 v cs ∧ cs.length = l.length ∧ ∀ (i : Nat) (c : List BV) (r : Raw4), cs[i]? = some c → l[i]? = some r → RdRaw H r.1 r.2.1 r.2.2.1 r.2.2.2 (.agg c)
theorem i_isNSr (r : Raw4) (m : BV) (H : BH) (hv : valR r = true) (h : RdRaw H r.1 r.2.1 r.2.2.1 r.2.2.2 m) : FnDoes (gam base) 30 [m] H fun v _ => v = .bool (nsR r) := by
  obtain ⟨T, S, acc, rows⟩ := r
  obtain ⟨t, s, A, hT, hS, ht1, ht, ha, hr, hok, hs, hlen⟩ := valid_elim hv
  simp only at ha hr h
  subst hT hS ha hr
  refine (i_isNS (base := base) t s ht1 ht A m H h.rel hok hs hlen).mono fun v K _ hv => ?_
  rw [hv]
  unfold nsR
  have e1 := aut_back A
  simp only [e1, Int.toNat_natCast]
  congr 2
  rw [Bool.eq_iff_iff]
  simp
  omega
theorem s_isNSr (r : Raw4) (rb : Nat) (H : BH) (hv : valR r = true) (h : RdRawP H rb r.1 r.2.1 r.2.2.1 r.2.2.2) : FnDoes (gam base) 26 [.ptr rb 0] H fun v _ => v = .bool (nsR r) := by
  obtain ⟨T, S, acc, rows⟩ := r
  obtain ⟨t, s, A, hT, hS, ht1, ht, ha, hr, hok, hs, hlen⟩ := valid_elim hv
  simp only at ha hr h
  subst hT hS ha hr
  refine (s_isNS (base := base) t s rb ht1 ht A H h.rel hok hs hlen).mono fun v K _ hv => ?_
  rw [hv]
  unfold nsR
  have e1 := aut_back A
  simp only [e1, Int.toNat_natCast]
  congr 2
  rw [Bool.eq_iff_iff]
  simp
  omega
theorem s_set (r : Raw4) (rb : Nat) (H : BH) (h : RdRawP H rb r.1 r.2.1 r.2.2.1 r.2.2.2) (hn : r.2.2.1.length ≤ 4611686018427387904) : FnDoes (gam base) 33 [.ptr rb 0] H fun v _ => v = encN (setsN [r]) := by
  refine FnDoes.of (fn := ir33) rfl ?_
  simp [ir33]
  have c1 := s_ok (base := base) rb r.1 r.2.1 r.2.2.1 r.2.2.2 H h hn
  refine callP c1 ?_
  have hvr : valR r = validB r.1 r.2.1 r.2.2.1 r.2.2.2 := rfl
  rw [← hvr]
  cases hv : valR r
  · simp [setsN, hv]
    exact BH.Keeps.refl H
  simp
  refine (s_isNSr (base := base) r rb H hv h).step fun v K k1 hv2 => ?_
  subst hv2
  cases hs : nsR r
  · simp [setsN, hv, hs]
    exact k1
  · simp [setsN, hv, hs]
    exact k1
theorem RdRs.keeps {H K : BH} {v : BV} {l : List Raw4} (h : RdRs H v l) (k : H.Keeps K) : RdRs K v l := by
  obtain ⟨cs, h1, h2, h3⟩ := h
  exact ⟨cs, h1.keeps k, h2, fun i c r hc hr => (h3 i c r hc hr).keeps k⟩
theorem RdRs.get {H : BH} {v : BV} {l : List Raw4} (h : RdRs H v l) {i : Nat} (hi : i < l.length) : ∃ u w, H.rd none (some 4) (v.sat i 4) = some (.agg [.int .i64 l[i].1, .int .i64 l[i].2.1, u, w]) ∧ RdRaw H l[i].1 l[i].2.1 l[i].2.2.1 l[i].2.2.2 (.agg [.int .i64 l[i].1, .int .i64 l[i].2.1, u, w]) := by
  obtain ⟨cs, h1, h2, h3⟩ := h
  have hc : cs[i]? = some cs[i] := List.getElem?_eq_getElem (by omega)
  have hr := h3 i _ _ hc (List.getElem?_eq_getElem hi)
  obtain ⟨u, w, e, -⟩ := id hr
  rw [e] at hr
  refine ⟨u, w, ?_, hr⟩
  rw [← e]
  exact h1.rd hc rfl
theorem i_checkSets (l : List Raw4) (v : BV) (H : BH) (h : RdRs H v l) (hl : l.length ≤ 1000000) (hn : ∀ r ∈ l, r.2.2.1.length ≤ 4611686018427387904) : FnDoes (gam base) 37 [v] H fun u _ => u = encN (setsN l) := by
  obtain ⟨R, hR⟩ : ∃ R : BV → BH → Prop, R = fun u _ => u = encN (setsN l) := ⟨_, rfl⟩
  rw [← hR]
  refine FnDoes.of (fn := ir37) rfl ?_
  have hsl : v.isSl = true := by obtain ⟨cs, h1, _⟩ := h; exact h1.isSl
  have hsn : v.slen = l.length := by obtain ⟨cs, h1, h2, _⟩ := h; rw [h1.len, h2]
  simp [ir37, hsl, hsn]
  obtain ⟨I, hI⟩ : ∃ I : Nat → Env → BH → Prop, I = (fun i e K => e 9 = encN i ∧ H.Keeps K ∧ ∀ r ∈ l.take i, valR r = true) := ⟨_, rfl⟩
  refine wpC_countK l.length [(0, v), (7, v), (8, encN l.length)] I (i0 := 0) ?_ ?_ ?_ (Nat.zero_le _) ?_
  · rfl
  · simp
  · rw [hI]
    exact ⟨by simp, BH.Keeps.refl H, by simp⟩
  rintro i e K hi ⟨e0, e7, e8, -⟩ hh
  rw [hI] at hh
  obtain ⟨e9, hk, hall⟩ := hh
  simp only [] at e0 e7 e8
  have wi := wS (n := i) (by omega)
  by_cases hlt : i < l.length
  · obtain ⟨u, w, hrd, hrw⟩ := (h.keeps hk).get hlt
    obtain ⟨u', w', e1, hu, hw⟩ := id hrw
    simp only [BV.agg.injEq, List.cons.injEq, and_true, true_and] at e1
    obtain ⟨eu, ew⟩ := e1
    rw [← eu] at hu
    rw [← ew] at hw
    have u1 := hu.one
    have w1 := one_of_isSl hw.isSl
    simp [e7, e8, e9, hlt, hsl, hsn, hrd, u1, w1]
    intro n4 b4 f4
    obtain ⟨K4, g4, o4⟩ := (Own.start (base := base) (H := K) |>.new f4 b4 (s := .arr 29 [.int .i64 0, .int .i64 0, .nils, .nils])).putAll 0 (b := n4) (n := 4) (ds := [.int .i64 l[i].1, .int .i64 l[i].2.1, u, w]) rfl rfl rfl (by simp [u1, w1]) (rt := none) rfl
    have r4 := rd_all (o4.at 0 (b := n4) rfl) (n := 4) (rt := none) rfl rfl
    simp [make_of f4 b4, g4, r4]
    refine (i_valid (base := base) _ _ _ _ _ K4 (hrw.keeps o4.keeps) (hn _ (List.getElem_mem hlt))).step fun v' K5 k5 hv => ?_
    subst hv
    have hvr : valR l[i] = validB l[i].1 l[i].2.1 l[i].2.2.1 l[i].2.2.2 := rfl
    rw [← hvr]
    cases hv : valR l[i]
    · simp
      rw [hR]
      refine ⟨hk.trans (o4.keeps.trans k5), ?_⟩
      have : l.all valR ≠ true := by
        intro ha
        rw [List.all_eq_true.1 ha _ (List.getElem_mem hlt)] at hv
        cases hv
      simp [setsN, if_neg this]
    · simp [e9, wi, hlt]
      rw [hI]
      refine ⟨by simp, hk.trans (o4.keeps.trans k5), fun r hr => ?_⟩
      rw [List.take_add_one, List.getElem?_eq_getElem hlt] at hr
      rcases List.mem_append.1 hr with hr | hr
      · exact hall r hr
      · simp at hr
        subst hr
        exact hv
  · have hie : i = l.length := by omega
    subst hie
    rw [List.take_length] at hall
    have hva : l.all valR = true := List.all_eq_true.2 hall
    simp [e7, e8, e9, e0, hsl, hsn]
    obtain ⟨J, hJ⟩ : ∃ J : Nat → Env → BH → Prop, J = (fun i e K => e 19 = encN i ∧ H.Keeps K ∧ ∀ r ∈ l.take i, nsR r = true) := ⟨_, rfl⟩
    refine wpC_countK l.length [(17, v), (18, encN l.length)] J (i0 := 0) ?_ ?_ ?_ (Nat.zero_le _) ?_
    · rfl
    · simp
    · rw [hJ]
      exact ⟨by simp, hk, by simp⟩
    clear e0 e7 e8 e9 wi hk
    rintro i e K hi ⟨e17, e18, -⟩ hh
    rw [hJ] at hh
    obtain ⟨e19, hk, halln⟩ := hh
    simp only [] at e17 e18
    have wi := wS (n := i) (by omega)
    by_cases hlt : i < l.length
    · obtain ⟨u, w, hrd, hrw⟩ := (h.keeps hk).get hlt
      obtain ⟨u', w', e1, hu, hw⟩ := id hrw
      simp only [BV.agg.injEq, List.cons.injEq, and_true, true_and] at e1
      obtain ⟨eu, ew⟩ := e1
      rw [← eu] at hu
      rw [← ew] at hw
      have u1 := hu.one
      have w1 := one_of_isSl hw.isSl
      simp [e17, e18, e19, hlt, hsl, hsn, hrd, u1, w1]
      intro n4 b4 f4
      obtain ⟨K4, g4, o4⟩ := (Own.start (base := base) (H := K) |>.new f4 b4 (s := .arr 29 [.int .i64 0, .int .i64 0, .nils, .nils])).putAll 0 (b := n4) (n := 4) (ds := [.int .i64 l[i].1, .int .i64 l[i].2.1, u, w]) rfl rfl rfl (by simp [u1, w1]) (rt := none) rfl
      have r4 := rd_all (o4.at 0 (b := n4) rfl) (n := 4) (rt := none) rfl rfl
      simp [make_of f4 b4, g4, r4]
      refine (i_isNSr (base := base) l[i] _ K4 (hall _ (List.getElem_mem hlt)) (hrw.keeps o4.keeps)).step fun v' K5 k5 hv => ?_
      subst hv
      cases hv : nsR l[i]
      · simp
        rw [hR]
        refine ⟨hk.trans (o4.keeps.trans k5), ?_⟩
        have : l.all nsR ≠ true := by
          intro ha
          rw [List.all_eq_true.1 ha _ (List.getElem_mem hlt)] at hv
          cases hv
        simp only [setsN]
        rw [if_pos hva, if_neg this]
        rfl
      · simp [e19, wi, hlt]
        rw [hJ]
        refine ⟨by simp, hk.trans (o4.keeps.trans k5), fun r hr => ?_⟩
        rw [List.take_add_one, List.getElem?_eq_getElem hlt] at hr
        rcases List.mem_append.1 hr with hr | hr
        · exact halln r hr
        · simp at hr
          subst hr
          exact hv
    · have hie : i = l.length := by omega
      subst hie
      rw [List.take_length] at halln
      simp [e17, e18, e19]
      rw [hR]
      refine ⟨hk, ?_⟩
      simp only [setsN]
      rw [if_pos hva, if_pos (List.all_eq_true.2 halln)]
      rfl
end Go.Proofs.YtcnkhkmapgbodaaDoor.W
end

section
namespace Go.Proofs.YtcnkhkmapgbodaaDoor.W
set_option linter.unusedVariables false
set_option linter.unusedSimpArgs false
open Go.B
variable {base : Nat}
attribute [local simp] wpC_skip wpC_region wpC_seq wpC_true wpC_false wpC_block wpC_exit wpC_ret wpO_nil wpO_n wpO_tt wpO_ff wpO_tf wpO_ft wpO_u wpS_mov wpS_pick wpS_build wpS_load wpS_store wpS_nilck wpS_bin wpS_beq wpS_isnil wpS_eqs wpS_not wpS_neg wpS_conv wpS_lea wpS_fld wpS_idx wpS_idxs wpS_slice wpS_sslice wpS_mkfn wpS_mset wpS_look wpS_ext wpS_len wpS_new wpS_box wpS_mk wpS_mkmap wpS_mksl wpS_app wpS_fn wpS_call after_some pthen_n pthen_x pthen_r pin BExit.outOf puto_some puto_none put_eq put_ne Opd.ev argEnv op1_mov op1_pick op1_new op1_box op1_load op1_nilck op1_bin op1_beq op1_not op1_neg op1_conv op1_lea op1_fld op1_len0 op1_len1 op1_idx op1_ext op1_build op1_mk op1_stw op1_mksl op1_eqs pureBin isShift resOf resVals val_tmp val_cell oneOf one_int cells_int one_bool cells_bool one_str cells_str one_nilp cells_nilp one_ptr cells_ptr one_nils cells_nils one_sl cells_sl one_sle cells_sle one_nilm cells_nilm one_mp cells_mp one_nilf cells_nilf one_fn cells_fn one_nili cells_nili cells_agg isSl_sl slen_sl sat_sl make_of asm rtOk wpS_b2s op1_b2s wpS_imax op1_imax op1_isnil Option.map_some gam_base op1_app op1_idxs wpS_idxa op1_idxa op1_sslice bound_none bound_some nat_of op1_mkmap op1_mset op1_look op1_len2 op1_mkfn fillB Has
open Go.Au
/-- The letter of a digit, and the word of a number. -/
def ltr (n i : Nat) : Nat := 97 + n / 2 ^ i % 2
def bl (n : Nat) : Nat := if n = 0 then 0 else n.log2 + 1
def wordL (n r : Nat) : List Nat := (List.range r).map (ltr n)
def wordB (n : Nat) : ByteArray := ⟨((wordL n (bl n)).map UInt8.ofNat).toArray⟩
theorem bl_pos {n r : Nat} : 0 < n / 2 ^ r ↔ r < bl n := by
  unfold bl
  by_cases h : n = 0
  · subst h; simp
  · rw [if_neg h, Nat.lt_succ_iff, Nat.le_log2 h]
    constructor
    · intro h1
      have := Nat.div_mul_le_self n (2 ^ r)
      have h2 : 1 * 2 ^ r ≤ n / 2 ^ r * 2 ^ r := Nat.mul_le_mul_right _ h1
      omega
    · intro h1
      exact Nat.div_pos h1 (Nat.two_pow_pos r)
theorem bl_le {n : Nat} (h : n ≤ 1000) : bl n ≤ 10 := by
  unfold bl
  split
  · omega
  · have : n.log2 < 10 := (Nat.log2_lt (by omega)).2 (by omega)
    omega
theorem half (n r : Nat) : n / 2 ^ r / 2 = n / 2 ^ (r + 1) := by rw [Nat.div_div_eq_div_mul, Nat.pow_succ]
theorem wordL_succ (n r : Nat) : wordL n (r + 1) = wordL n r ++ [ltr n r] := by simp [wordL, List.range_succ]
theorem wordL_len (n r : Nat) : (wordL n r).length = r := by simp [wordL]
/-- A row of bytes as a string. -/
theorem bytes_of : ∀ xs : List Nat, bytesB (xs.map fun (b : Nat) => BV.int .u8 (b : Int)) = some (xs.map fun (b : Nat) => (b : Int))
  | [] => rfl
  | x :: xs => by
    show (bytesB (xs.map fun (b : Nat) => BV.int .u8 (b : Int))).map ((x : Int) :: ·) = _
    rw [bytes_of xs]
    rfl
theorem u8str {H K : BH} {wo : Option Nat} {xs : List Nat} {v : BV} {base nb : Nat} {σ : Opd → BV} {x : Opd} {L : List Sl} (o : Own base H K ((wo, .arr 5 (xs.map fun (b : Nat) => BV.int .u8 (b : Int))) :: L)) (hv : Vec wo v xs.length) (hx : σ x = v) :
    op1 base nb σ K (.b2s 5 x) = some (.str ⟨(xs.map UInt8.ofNat).toArray⟩, K) := by
  rw [op1_b2s, hx]
  cases wo with
  | none =>
    obtain ⟨rfl, hl⟩ := hv
    have : xs = [] := List.eq_nil_of_length_eq_zero hl
    subst this
    rfl
  | some b =>
    have hv : v = .sl b 0 xs.length := hv
    subst hv
    have hr := o.at 0 (b := b) rfl
    simp only [hr]
    rw [if_pos ⟨trivial, by simp⟩, List.drop_zero, List.take_of_length_le (by simp), bytes_of]
    simp only [Option.map_some, strB, List.map_map]
    rfl
theorem s_word (n : Nat) (hn : n ≤ 1000) (H : BH) : FnDoes (gam base) 36 [encN n] H fun v _ => v = .str (wordB n) := by
  refine FnDoes.of (fn := ir36) rfl ?_
  have hbl := bl_le hn
  simp [ir36]
  intro n4 b4 f4
  have o0 := Own.start (base := base) (H := H) |>.new f4 b4 (s := .arr 5 [])
  simp [make_of f4 b4]
  obtain ⟨I, hI⟩ : ∃ I : Nat → Env → BH → Prop, I = (fun r e K => e 0 = encN (n / 2 ^ r) ∧ ∃ v3 wo, e 3 = v3 ∧ Own base H K [(wo, .arr 5 ((wordL n r).map fun (b : Nat) => BV.int .u8 (b : Int)))] ∧ Vec wo v3 r) := ⟨_, rfl⟩
  refine wpC_countK (bl n) [] I (i0 := 0) ?_ ?_ ?_ (Nat.zero_le _) ?_
  · rfl
  · trivial
  · rw [hI]
    exact ⟨by simp, .sl n4 0 0, some n4, by simp, by simpa [wordL] using o0, rfl⟩
  clear o0
  rintro r e K hr - hh
  rw [hI] at hh
  obtain ⟨e0, v3, wo, e3, o, hv3⟩ := hh
  obtain ⟨m, hm⟩ : ∃ m, m = n / 2 ^ r := ⟨_, rfl⟩
  have hp := bl_pos (n := n) (r := r)
  have hh2 := half n r
  have hmn : m ≤ 1000 := by rw [hm]; exact Nat.le_trans (Nat.div_le_self _ _) hn
  rw [← hm] at e0 hp hh2
  by_cases hlt : r < bl n
  · have h0 : 0 < m := hp.2 hlt
    have hb : ltr n r = 97 + m % 2 := by unfold ltr; rw [← hm]
    have w12 : IntKind.u8.wrap (IntKind.i64.wrap (97 + (m : Int) % 2)) = ((97 + m % 2 : Nat) : Int) := by
      have e : (m : Int) % 2 = ((m % 2 : Nat) : Int) := by omega
      rw [e]
      rcases Nat.mod_two_eq_zero_or_one m with h | h <;> rw [h] <;> rfl
    have w12' : IntKind.u8.wrap (IntKind.i64.wrap (97 + (m : Int).tmod 2)) = ((97 + m % 2 : Nat) : Int) := by
      rw [show (m : Int).tmod 2 = ((m % 2 : Nat) : Int) from tmodN m 2]
      rcases Nat.mod_two_eq_zero_or_one m with h | h <;> rw [h] <;> rfl
    have w3' : IntKind.i64.wrap ((m : Int).tdiv 2) = ((m / 2 : Nat) : Int) := by
      rw [show (m : Int).tdiv 2 = ((m / 2 : Nat) : Int) from tdivN m 2]; exact wN (by omega)
    have w3 : IntKind.i64.wrap ((m : Int) / 2) = ((m / 2 : Nat) : Int) := by
      have e : (m : Int) / 2 = ((m / 2 : Nat) : Int) := by omega
      rw [e]; exact wN (by omega)
    have h0' : (0 : Int) < (m : Int) := by omega
    simp [e0, e3, h0', h0, w12, w3]
    intro n1 b1 f1
    simp [make_of f1 b1]
    intro n2 b2 f2
    obtain ⟨v', K', b', q1, q2, q3⟩ := o.push 0 rfl (v := v3) (by simpa [wordL_len] using hv3) (x := .int .u8 (IntKind.u8.wrap (IntKind.i64.wrap (97 + (m : Int).tmod 2)))) (bytes := 1) rfl (by simp [wordL_len]; omega) (by simp [wordL_len]; omega) f1 b1 f2 b2
    simp [q1, e0, w3, w3', hlt]
    rw [hI]
    refine ⟨by simp; exact_mod_cast hh2, v', some b', by simp, ?_, by simpa [wordL_len] using q3⟩
    rw [wordL_succ, List.map_append, hb]
    rw [w12'] at q2
    simpa using q2
  · have h0 : m = 0 := by omega
    have hre : r = bl n := by omega
    subst h0
    simp [-op1_b2s, e0, e3]
    rw [u8str (xs := wordL n r) (v := v3) o (by rw [wordL_len]; exact hv3) (by simp [e3])]
    simp
    refine ⟨o.keeps, ?_⟩
    rw [hre]
    rfl
end Go.Proofs.YtcnkhkmapgbodaaDoor.W
end

section
namespace Go.Proofs.YtcnkhkmapgbodaaDoor.W
set_option linter.unusedVariables false
set_option linter.unusedSimpArgs false
open Go.B
variable {base : Nat}
attribute [local simp] wpC_skip wpC_region wpC_seq wpC_true wpC_false wpC_block wpC_exit wpC_ret wpO_nil wpO_n wpO_tt wpO_ff wpO_tf wpO_ft wpO_u wpS_mov wpS_pick wpS_build wpS_load wpS_store wpS_nilck wpS_bin wpS_beq wpS_isnil wpS_eqs wpS_not wpS_neg wpS_conv wpS_lea wpS_fld wpS_idx wpS_idxs wpS_slice wpS_sslice wpS_mkfn wpS_mset wpS_look wpS_ext wpS_len wpS_new wpS_box wpS_mk wpS_mkmap wpS_mksl wpS_app wpS_fn wpS_call after_some pthen_n pthen_x pthen_r pin BExit.outOf puto_some puto_none put_eq put_ne Opd.ev argEnv op1_mov op1_pick op1_new op1_box op1_load op1_nilck op1_bin op1_beq op1_not op1_neg op1_conv op1_lea op1_fld op1_len0 op1_len1 op1_idx op1_ext op1_build op1_mk op1_stw op1_mksl op1_eqs pureBin isShift resOf resVals val_tmp val_cell oneOf one_int cells_int one_bool cells_bool one_str cells_str one_nilp cells_nilp one_ptr cells_ptr one_nils cells_nils one_sl cells_sl one_sle cells_sle one_nilm cells_nilm one_mp cells_mp one_nilf cells_nilf one_fn cells_fn one_nili cells_nili cells_agg isSl_sl slen_sl sat_sl make_of asm rtOk wpS_b2s op1_b2s wpS_imax op1_imax op1_isnil Option.map_some gam_base op1_app op1_idxs wpS_idxa op1_idxa op1_sslice bound_none bound_some nat_of op1_mkmap op1_mset op1_look op1_len2 op1_mkfn fillB Has
open Go.Au
def strL (xs : List Nat) : ByteArray := ⟨(xs.map UInt8.ofNat).toArray⟩
theorem strL_snoc (xs : List Nat) (b : Nat) : strL xs ++ strL [b] = strL (xs ++ [b]) := by
  apply ByteArray.ext
  rw [ByteArray.data_append]
  simp [strL]
theorem strL_size (xs : List Nat) : (strL xs).size = xs.length := by simp [strL, ByteArray.size]
theorem ab_letter (d : Nat) (h : d < 2) : (⟨#[97, 98]⟩ : ByteArray).extract d (d + 1) = strL [97 + d] := by
  have : d = 0 ∨ d = 1 := by omega
  rcases this with rfl | rfl <;> decide
theorem i_word (n : Nat) (hn : n ≤ 1000) (H : BH) : FnDoes (gam base) 42 [encN n] H fun v _ => v = .str (wordB n) := by
  refine FnDoes.of (fn := ir42) rfl ?_
  have hbl := bl_le hn
  simp [ir42]
  obtain ⟨I, hI⟩ : ∃ I : Nat → Env → BH → Prop, I = (fun r e K => e 0 = encN (n / 2 ^ r) ∧ e 3 = .str (strL (wordL n r)) ∧ K = H) := ⟨_, rfl⟩
  refine wpC_countK (bl n) [] I (i0 := 0) ?_ ?_ ?_ (Nat.zero_le _) ?_
  · rfl
  · trivial
  · rw [hI]
    exact ⟨by simp, by simp [strL, wordL], rfl⟩
  rintro r e K hr - hh
  rw [hI] at hh
  obtain ⟨e0, e3, rfl⟩ := hh
  obtain ⟨m, hm⟩ : ∃ m, m = n / 2 ^ r := ⟨_, rfl⟩
  have hp := bl_pos (n := n) (r := r)
  have hh2 := half n r
  have hmn : m ≤ 1000 := by rw [hm]; exact Nat.le_trans (Nat.div_le_self _ _) hn
  rw [← hm] at e0 hp hh2
  by_cases hlt : r < bl n
  · have h0 : 0 < m := hp.2 hlt
    have hb : ltr n r = 97 + m % 2 := by unfold ltr; rw [← hm]
    obtain ⟨d, hd⟩ : ∃ d, d = m % 2 := ⟨_, rfl⟩
    have hd2 : d < 2 := by omega
    rw [← hd] at hb
    have t1 : (m : Int) % 2 = (d : Int) := by omega
    have t1' : (m : Int).tmod 2 = (d : Int) := by rw [hd]; exact tmodN m 2
    have w1 : IntKind.i64.wrap ((d : Int) + 1) = ((d + 1 : Nat) : Int) := wS (by omega)
    have w3' : IntKind.i64.wrap ((m : Int).tdiv 2) = ((m / 2 : Nat) : Int) := by
      rw [show (m : Int).tdiv 2 = ((m / 2 : Nat) : Int) from tdivN m 2]; exact wN (by omega)
    have w3 : IntKind.i64.wrap ((m : Int) / 2) = ((m / 2 : Nat) : Int) := by
      have e : (m : Int) / 2 = ((m / 2 : Nat) : Int) := by omega
      rw [e]; exact wN (by omega)
    have h0' : (0 : Int) < (m : Int) := by omega
    have hsz : (⟨#[97, 98]⟩ : ByteArray).size = 2 := rfl
    have hext := ab_letter d hd2
    simp [e0, e3, h0', h0, t1, t1', w1, w3, w3', hsz, hext, hlt]
    rw [if_pos (show (0 : Int) ≤ (d : Int) + 1 by omega)]
    have hno : ¬ (9223372036854775807 : Int) < ((strL (wordL n r)).size : Int) + ((strL [97 + d]).size : Int) := by
      rw [strL_size, strL_size, wordL_len]
      simp
      omega
    simp [show d + 1 ≤ 2 by omega, hext, hno, e0, e3, w3, w3', hlt]
    rw [hI]
    refine ⟨by simp; exact_mod_cast hh2, ?_, rfl⟩
    simp [wordL_succ, hb, strL_snoc]
  · have h0 : m = 0 := by omega
    have hre : r = bl n := by omega
    subst h0
    simp [e0, e3]
    rw [hre]
    exact ⟨BH.Keeps.refl K, rfl⟩
end Go.Proofs.YtcnkhkmapgbodaaDoor.W
end

section
namespace Go.Proofs.YtcnkhkmapgbodaaDoor.W
set_option linter.unusedVariables false
set_option linter.unusedSimpArgs false
open Go.B
variable {base : Nat}
attribute [local simp] wpC_skip wpC_region wpC_seq wpC_true wpC_false wpC_block wpC_exit wpC_ret wpO_nil wpO_n wpO_tt wpO_ff wpO_tf wpO_ft wpO_u wpS_mov wpS_pick wpS_build wpS_load wpS_store wpS_nilck wpS_bin wpS_beq wpS_isnil wpS_eqs wpS_not wpS_neg wpS_conv wpS_lea wpS_fld wpS_idx wpS_idxs wpS_slice wpS_sslice wpS_mkfn wpS_mset wpS_look wpS_ext wpS_len wpS_new wpS_box wpS_mk wpS_mkmap wpS_mksl wpS_app wpS_fn wpS_call after_some pthen_n pthen_x pthen_r pin BExit.outOf puto_some puto_none put_eq put_ne Opd.ev argEnv op1_mov op1_pick op1_new op1_box op1_load op1_nilck op1_bin op1_beq op1_not op1_neg op1_conv op1_lea op1_fld op1_len0 op1_len1 op1_idx op1_ext op1_build op1_mk op1_stw op1_mksl op1_eqs pureBin isShift resOf resVals val_tmp val_cell oneOf one_int cells_int one_bool cells_bool one_str cells_str one_nilp cells_nilp one_ptr cells_ptr one_nils cells_nils one_sl cells_sl one_sle cells_sle one_nilm cells_nilm one_mp cells_mp one_nilf cells_nilf one_fn cells_fn one_nili cells_nili cells_agg isSl_sl slen_sl sat_sl make_of asm rtOk wpS_b2s op1_b2s wpS_imax op1_imax wpS_imin op1_imin wpS_i2s op1_i2s op1_isnil Option.map_some gam_base op1_app op1_idxs wpS_idxa op1_idxa op1_sslice bound_none bound_some nat_of op1_mkmap op1_mset op1_look op1_len2 op1_mkfn fillB Has
open Go.Au
/-- A column with these digits. -/
def colD (ds : List Nat) : Nat := ds.foldr (fun d a => 3 * a + d) 0
def Dig3 (ds : List Nat) : Prop := ∀ d ∈ ds, d < 3
theorem colD_lt : ∀ {ds : List Nat}, Dig3 ds → colD ds < p3 ds.length
  | [], _ => by simp [colD, p3]
  | d :: ds, h => by
    have h1 := colD_lt (ds := ds) fun x hx => h x (List.mem_cons_of_mem _ hx)
    have h2 := h d List.mem_cons_self
    simp only [List.length_cons, p3_succ]
    show 3 * colD ds + d < _
    omega
theorem colD_wd : ∀ {ds : List Nat}, Dig3 ds → (∃ d ∈ ds, d < 2) → colD ds < wd ds.length
  | [], _, h => by obtain ⟨d, hd, _⟩ := h; cases hd
  | d :: ds, h, hs => by
    have hd : Dig3 ds := fun x hx => h x (List.mem_cons_of_mem _ hx)
    have h1 := colD_lt hd
    have h2 := h d List.mem_cons_self
    have h3 := p3_pos ds.length
    unfold wd
    simp only [List.length_cons, p3_succ]
    show 3 * colD ds + d < _
    obtain ⟨x, hx, hx2⟩ := hs
    rcases List.mem_cons.1 hx with rfl | hx
    · omega
    · have h4 := colD_wd hd ⟨x, hx, hx2⟩
      unfold wd at h4
      omega
theorem colD_snoc (ds : List Nat) (d : Nat) : colD (ds ++ [d]) = colD ds + d * p3 ds.length := by
  induction ds with
  | nil => simp [colD, p3]
  | cons x ds ih =>
    show 3 * colD (ds ++ [d]) + x = 3 * colD ds + x + d * p3 (ds.length + 1)
    rw [ih, p3_succ, Nat.mul_add, ← Nat.mul_assoc d, Nat.mul_comm (d * p3 ds.length)]
    omega
theorem colD_drop {ds : List Nat} {i : Nat} (h : i < ds.length) : colD (ds.drop i) = 3 * colD (ds.drop (i + 1)) + ds[i] := by
  rw [List.drop_eq_getElem_cons h]
  rfl
/-- A word: its letters. -/
def IsW (w : List Nat) : Prop := ∀ b ∈ w, b = 97 ∨ b = 98
/-- What a word has in a column. -/
def dgW (i : Nat) (w : List Nat) : Nat := if i < w.length then w.getD i 97 - 97 else 2
def colW (ws : List (List Nat)) (i : Nat) : Nat := colD (ws.map (dgW i))
def lngW (ws : List (List Nat)) : Nat := ws.foldl (fun a w => max a w.length) 0
def colsW (ws : List (List Nat)) : List Nat := (List.range (lngW ws)).map (colW ws)
theorem lng_snoc (ws : List (List Nat)) (w : List Nat) : lngW (ws ++ [w]) = max (lngW ws) w.length := by simp [lngW, List.foldl_append]
theorem lng_le {ws : List (List Nat)} {N : Nat} : (∀ w ∈ ws, w.length ≤ N) → lngW ws ≤ N := by
  have key : ∀ (ws : List (List Nat)) (a : Nat), a ≤ N → (∀ w ∈ ws, w.length ≤ N) → ws.foldl (fun a w => max a w.length) a ≤ N := by
    intro ws
    induction ws with
    | nil => intro a ha _; exact ha
    | cons w ws ih =>
      intro a ha h
      have := h w List.mem_cons_self
      exact ih _ (Nat.max_le.2 ⟨ha, this⟩) fun x hx => h x (List.mem_cons_of_mem _ hx)
  exact key ws 0 (Nat.zero_le _)
theorem lng_lt {ws : List (List Nat)} {i : Nat} : i < lngW ws ↔ ∃ w ∈ ws, i < w.length := by
  have key : ∀ (ws : List (List Nat)) (a : Nat), i < ws.foldl (fun a w => max a w.length) a ↔ (i < a ∨ ∃ w ∈ ws, i < w.length) := by
    intro ws
    induction ws with
    | nil => intro a; simp
    | cons w ws ih =>
      intro a
      have hm : i < max a w.length ↔ i < a ∨ i < w.length := by omega
      rw [List.foldl_cons, ih, hm]
      simp only [List.mem_cons, exists_eq_or_imp]
      exact or_assoc
  rw [lngW, key]
  simp
theorem IsW.get {w : List Nat} (h : IsW w) {i : Nat} (hi : i < w.length) : w[i] = 97 ∨ w[i] = 98 := h _ (List.getElem_mem hi)
theorem dgW_lt {w : List Nat} (h : IsW w) (i : Nat) : dgW i w < 3 := by
  unfold dgW
  split
  · rename_i hi
    have := h.get hi
    simp [hi]
    omega
  · omega
theorem dgW_let {w : List Nat} (h : IsW w) {i : Nat} (hi : i < w.length) : dgW i w = w[i] - 97 ∧ dgW i w < 2 := by
  have := h.get hi
  simp only [dgW, hi, if_true]
  simp [hi]
  omega
theorem col_dig {ws : List (List Nat)} (h : ∀ w ∈ ws, IsW w) (i : Nat) : Dig3 (ws.map (dgW i)) := fun d hd => by
  obtain ⟨w, hw, rfl⟩ := List.mem_map.1 hd
  exact dgW_lt (h w hw) i
theorem cols_in {ws : List (List Nat)} (h : ∀ w ∈ ws, IsW w) : In (wd ws.length) (colsW ws) := fun c hc => by
  obtain ⟨i, hi, rfl⟩ := List.mem_map.1 hc
  rw [List.mem_range, lng_lt] at hi
  obtain ⟨w, hw, hl⟩ := hi
  have := colD_wd (col_dig h i) ⟨dgW i w, List.mem_map.2 ⟨w, hw, rfl⟩, (dgW_let (h w hw) hl).2⟩
  rwa [List.length_map] at this
theorem colsW_len (ws : List (List Nat)) : (colsW ws).length = lngW ws := by simp [colsW]
/-- A byte of a word. -/
theorem str_at {w : List Nat} {i : Nat} (hi : i < w.length) (h : IsW w) : ((strL w)[i]?).map (fun b => (BV.int .u8 b.toNat, (0 : Nat))) = some (BV.int .u8 (w[i] : Nat), 0) := by
  have h1 : (strL w)[i]? = some (UInt8.ofNat w[i]) := by
    rw [getElem?_pos (strL w) i (by rw [show (strL w).size = w.length from strL_size w]; exact hi)]
    simp [strL, ByteArray.getElem_eq_getElem_data]
  rw [h1]
  have := h.get hi
  have h2 : (UInt8.ofNat w[i]).toNat = w[i] := by rw [UInt8.toNat_ofNat']; omega
  simp [h2]
theorem str_get {w : List Nat} {i : Nat} (hi : i < w.length) (h : IsW w) : (strL w)[i]? = some (UInt8.ofNat w[i]) := by
  rw [getElem?_pos (strL w) i (by rw [show (strL w).size = w.length from strL_size w]; exact hi)]
  simp [strL, ByteArray.getElem_eq_getElem_data]
theorem u8_let {b : Nat} (h : b = 97 ∨ b = 98) : (UInt8.ofNat b).toNat = b := by rw [UInt8.toNat_ofNat']; omega
theorem let_sub {b : Nat} (h : b = 97 ∨ b = 98) : IntKind.i64.wrap (IntKind.u8.wrap ((b : Int) - 97)) = ((b - 97 : Nat) : Int) := by rcases h with rfl | rfl <;> rfl
theorem i_columnOf (ds : List Nat) (v : BV) (H : BH) (h : Rd H 3 v (ds.map encN)) (h3 : Dig3 ds) (hl : ds.length ≤ 30) : FnDoes (gam base) 65 [v] H fun u K => u = encN (colD ds) := by
  refine FnDoes.of (fn := ir65) rfl ?_
  have w0 := wsub1 (n := ds.length) (by omega)
  simp [ir65, h.isSl, h.lenM, w0]
  refine wpC_countK ds.length [(0, v)] (fun i e K => e 3 = encN (colD (ds.drop (ds.length - i))) ∧ e 4 = .int .i64 ((ds.length : Int) - 1 - i) ∧ K = H) (i0 := 0) rfl ?_ ?_ (Nat.zero_le _) ?_
  · simp
  · simp [colD]
  rintro i e K hi ⟨e0, -⟩ ⟨e3, e4, rfl⟩
  simp only [] at e0
  by_cases hlt : i < ds.length
  · have hj : ds.length - i = ds.length - (i + 1) + 1 := by omega
    obtain ⟨j, hjj⟩ : ∃ j, j = ds.length - (i + 1) := ⟨_, rfl⟩
    have e4' : ((ds.length : Int) - 1 - i) = (j : Int) := by omega
    have hjl : j < ds.length := by omega
    have c1 := colD_drop hjl
    have c2 := colD_lt (ds := ds.drop (j + 1)) fun x hx => h3 x (List.mem_of_mem_drop hx)
    have c3 := p3_le (show (ds.drop (j + 1)).length ≤ 30 by simp; omega)
    rw [p3_30] at c3
    have hd := h3 _ (List.getElem_mem hjl)
    have g1 := h.at (i := j) hjl (rt := none) rfl
    rw [hj, ← hjj] at e3
    rw [e4'] at e4
    have m1 := pb_mul (a := 3) (b := colD (ds.drop (j + 1))) (by omega)
    have w1 : IntKind.i64.wrap (3 * ((colD (ds.drop (j + 1)) : Nat) : Int)) = ((3 * colD (ds.drop (j + 1)) : Nat) : Int) := by rw [w64 (by omega) (by omega)]; simp
    have w2 : IntKind.i64.wrap (((3 * colD (ds.drop (j + 1)) : Nat) : Int) + (ds[j] : Nat)) = ((colD (ds.drop j) : Nat) : Int) := by rw [w64 (by omega) (by omega), c1]; simp
    have w4 := wsub1 (n := j) (by omega)
    simp [e0, e3, e4, hjl, h.isSl, h.lenM, g1, w1, w4, hlt]
    refine ⟨?_, by omega⟩
    have : IntKind.i64.wrap (3 * ((colD (ds.drop (j + 1)) : Nat) : Int) + ((ds[j] : Nat) : Int)) = ((colD (ds.drop j) : Nat) : Int) := by rw [w64 (by omega) (by omega), c1]; simp
    subst hjj
    exact this
  · have hie : i = ds.length := by omega
    subst hie
    rw [show ((ds.length : Int) - 1 - (ds.length : Nat)) = -1 by omega] at e4
    simp [e3, e4]
    exact BH.Keeps.refl K
end Go.Proofs.YtcnkhkmapgbodaaDoor.W
end

section
namespace Go.Proofs.YtcnkhkmapgbodaaDoor.W
set_option linter.unusedVariables false
set_option linter.unusedSimpArgs false
open Go.B
variable {base : Nat}
attribute [local simp] wpC_skip wpC_region wpC_seq wpC_true wpC_false wpC_block wpC_exit wpC_ret wpO_nil wpO_n wpO_tt wpO_ff wpO_tf wpO_ft wpO_u wpS_mov wpS_pick wpS_build wpS_load wpS_store wpS_nilck wpS_bin wpS_beq wpS_isnil wpS_eqs wpS_not wpS_neg wpS_conv wpS_lea wpS_fld wpS_idx wpS_idxs wpS_slice wpS_sslice wpS_mkfn wpS_mset wpS_look wpS_ext wpS_len wpS_new wpS_box wpS_mk wpS_mkmap wpS_mksl wpS_app wpS_fn wpS_call after_some pthen_n pthen_x pthen_r pin BExit.outOf puto_some puto_none put_eq put_ne Opd.ev argEnv op1_mov op1_pick op1_new op1_box op1_load op1_nilck op1_bin op1_beq op1_not op1_neg op1_conv op1_lea op1_fld op1_len0 op1_len1 op1_idx op1_ext op1_build op1_mk op1_stw op1_mksl op1_eqs pureBin isShift resOf resVals val_tmp val_cell oneOf one_int cells_int one_bool cells_bool one_str cells_str one_nilp cells_nilp one_ptr cells_ptr one_nils cells_nils one_sl cells_sl one_sle cells_sle one_nilm cells_nilm one_mp cells_mp one_nilf cells_nilf one_fn cells_fn one_nili cells_nili cells_agg isSl_sl slen_sl sat_sl make_of asm rtOk wpS_b2s op1_b2s wpS_imax op1_imax wpS_imin op1_imin wpS_i2s op1_i2s op1_isnil Option.map_some gam_base op1_app op1_idxs wpS_idxa op1_idxa op1_sslice bound_none bound_some nat_of op1_mkmap op1_mset op1_look op1_len2 op1_mkfn fillB Has
open Go.Au
abbrev encW (w : List Nat) : BV := .str (strL w)
theorem lng_take {ws : List (List Nat)} {i : Nat} (h : i < ws.length) : lngW (ws.take (i + 1)) = max (lngW (ws.take i)) ws[i].length := by
  rw [List.take_add_one, List.getElem?_eq_getElem h]
  exact lng_snoc _ _
theorem max_int (a b : Nat) : (if (a : Int) < (b : Int) then (b : Int) else (a : Int)) = ((max a b : Nat) : Int) := by split <;> omega
theorem max_nat (a b : Nat) : (if a < b then (b : Int) else (a : Int)) = ((max a b : Nat) : Int) := by split <;> omega
theorem str_getE (w : List Nat) (i : Nat) (hi : i < (strL w).size) : (strL w)[i] = UInt8.ofNat (w[i]'(by rwa [strL_size] at hi)) := by simp [strL, ByteArray.getElem_eq_getElem_data]
theorem let_mod {b : Nat} (h : b = 97 ∨ b = 98) : b % 256 = b := by omega
/-- The digits in a column. -/
def dgsW (ws : List (List Nat)) (i j : Nat) : List Nat := (ws.take j).map (dgW i)
theorem dgsW_len {ws : List (List Nat)} {i j : Nat} (h : j ≤ ws.length) : (dgsW ws i j).length = j := by simp [dgsW]; omega
theorem dgsW_succ {ws : List (List Nat)} {i j : Nat} (h : j < ws.length) : dgsW ws i (j + 1) = dgsW ws i j ++ [dgW i ws[j]] := by
  unfold dgsW
  rw [List.take_add_one, List.getElem?_eq_getElem h, List.map_append]
  rfl
theorem i_columnsOf (ws : List (List Nat)) (v : BV) (H : BH) (h : Rd H 9 v (ws.map encW)) (hw : ∀ w ∈ ws, IsW w) (hn : ws.length ≤ 30) (hl : ∀ w ∈ ws, w.length ≤ 1000000) :
    FnDoes (gam base) 41 [v] H fun u K => ∃ bo, OwnV base K 3 u ((colsW ws).map encN) bo ∧ Fr H bo := by
  obtain ⟨R, hR⟩ : ∃ R : BV → BH → Prop, R = fun u K => ∃ bo, OwnV base K 3 u ((colsW ws).map encN) bo ∧ Fr H bo := ⟨_, rfl⟩
  rw [← hR]
  refine FnDoes.of (fn := ir41) rfl ?_
  have hlm := lng_le hl
  simp [ir41, h.isSl, h.lenM]
  obtain ⟨I, hI⟩ : ∃ I : Nat → Env → BH → Prop, I = (fun i e K => e 14 = encN i ∧ e 3 = encN (lngW (ws.take i)) ∧ K = H) := ⟨_, rfl⟩
  refine wpC_countK ws.length [(0, v), (12, v), (13, encN ws.length)] I (i0 := 0) rfl ?_ ?_ (Nat.zero_le _) ?_
  · simp
  · rw [hI]; exact ⟨by simp, by simp [lngW], rfl⟩
  rintro i e K hi ⟨e0, e12, e13, -⟩ hh
  rw [hI] at hh
  obtain ⟨e14, e3, rfl⟩ := hh
  simp only [] at e0 e12 e13
  by_cases hlt : i < ws.length
  · have g1 := h.at (i := i) hlt (rt := none) rfl
    have wi := wS (n := i) (by omega)
    simp [e12, e13, e14, e3, hlt, h.isSl, h.lenM, g1, wi, strL_size, max_nat]
    rw [hI]
    refine ⟨by simp, ?_, rfl⟩
    rw [lng_take hlt]
    simp
  have hie : i = ws.length := by omega
  subst hie
  rw [List.take_length] at e3
  simp [e13, e14]
  obtain ⟨J, hJ⟩ : ∃ J : Nat → Env → BH → Prop, J = (fun i e K' => e 7 = encN i ∧ ∃ u bo, e 6 = u ∧ Own base K K' [(bo, .arr 3 (((List.range i).map (colW ws)).map encN))] ∧ Vec bo u i) := ⟨_, rfl⟩
  refine wpC_countK (lngW ws) [(0, v), (3, encN (lngW ws))] J (i0 := 0) rfl ?_ ?_ (Nat.zero_le _) ?_
  · simp [e0, e3]
  · rw [hJ]; exact ⟨by simp, .nils, none, by simp, Own.start.nil _, Vec.none⟩
  clear e0 e12 e13 e14 e3
  rintro i e M hi' ⟨e0, e3, -⟩ hh
  rw [hJ] at hh
  obtain ⟨e7, u, bo, e6, o, hu⟩ := hh
  simp only [] at e0 e3
  have hm := h.keeps o.keeps
  by_cases hlt : i < lngW ws
  · have wi := wS (n := i) (by omega)
    simp [e7, e3, hlt, e0, hm.isSl, hm.lenM]
    obtain ⟨G, hG⟩ : ∃ G : Nat → Env → BH → Prop, G = (fun j e K' => e 30 = encN j ∧ ∃ u2 bo2, e 8 = u2 ∧ Own base K K' [(bo2, .arr 3 ((dgsW ws i j).map encN)), (bo, .arr 3 (((List.range i).map (colW ws)).map encN))] ∧ Vec bo2 u2 j) := ⟨_, rfl⟩
    refine wpC_countK ws.length [(0, v), (3, encN (lngW ws)), (7, encN i), (6, u), (28, v), (29, encN ws.length)] G (i0 := 0) rfl ?_ ?_ (Nat.zero_le _) ?_
    · simp [e0, e3, e7, e6]
    · rw [hG]
      exact ⟨by simp, .nils, none, by simp, by simpa [dgsW] using o.nil _, Vec.none⟩
    clear e0 e3 e7 e6
    rintro j e N hj ⟨e0, e3, e7, e6, e28, e29, -⟩ hh
    rw [hG] at hh
    obtain ⟨e30, u2, bo2, e8, o2, hu2⟩ := hh
    simp only [] at e0 e3 e7 e6 e28 e29
    have hm2 := h.keeps o2.keeps
    by_cases hlt2 : j < ws.length
    · have g1 := hm2.at (i := j) hlt2 (rt := none) rfl
      have wj := wS (n := j) (by omega)
      have hwj := hw _ (List.getElem_mem hlt2)
      have hlj := hl _ (List.getElem_mem hlt2)
      obtain ⟨w, hwe⟩ : ∃ w, w = ws[j] := ⟨_, rfl⟩
      have hs := dgsW_succ (i := i) hlt2
      rw [← hwe] at hwj hlj g1 hs
      by_cases hil : i < w.length
      · have g2 := str_get hil hwj
        have g3 := u8_let (hwj.get hil)
        have g4 := let_sub (hwj.get hil)
        have g5 := (dgW_let hwj hil).1
        simp [e28, e29, e30, hlt2, hm2.isSl, hm2.lenM, g1, e7, strL_size, hil, str_getE, g3, g4, e8]
        intro n1 b1 f1
        simp [make_of f1 b1]
        intro n2 b2 f2
        obtain ⟨v', K', b', q1, q2, q3⟩ := o2.push 0 rfl (by simpa [dgsW_len hj] using hu2) (x := encN (w[i] - 97)) (bytes := 8) rfl (by simp [dgsW_len hj]; omega) (by simp [dgsW_len hj]; omega) f1 b1 f2 b2
        simp [q1, e30, wj, hlt2]
        rw [hG]
        refine ⟨by simp, v', some b', by simp, ?_, by simpa [dgsW_len hj] using q3⟩
        rw [hs, g5]
        simpa using q2
      · have g5 : dgW i w = 2 := by simp [dgW, hil]
        simp [e28, e29, e30, hlt2, hm2.isSl, hm2.lenM, g1, e7, strL_size, hil, e8]
        intro n1 b1 f1
        simp [make_of f1 b1]
        intro n2 b2 f2
        obtain ⟨v', K', b', q1, q2, q3⟩ := o2.push 0 rfl (by simpa [dgsW_len hj] using hu2) (x := .int .i64 2) (bytes := 8) rfl (by simp [dgsW_len hj]; omega) (by simp [dgsW_len hj]; omega) f1 b1 f2 b2
        simp [q1, e30, wj, hlt2]
        rw [hG]
        refine ⟨by simp, v', some b', by simp, ?_, by simpa [dgsW_len hj] using q3⟩
        rw [hs, g5]
        simpa [show encN 2 = BV.int .i64 2 from rfl] using q2
    · have hje : j = ws.length := by omega
      subst hje
      have hcol : colD (dgsW ws i ws.length) = colW ws i := by unfold dgsW colW; rw [List.take_length]
      have hd3 : Dig3 (dgsW ws i ws.length) := by unfold dgsW; rw [List.take_length]; exact col_dig hw i
      simp [e29, e30, e8, e6]
      refine (i_columnOf (base := base) (dgsW ws i ws.length) u2 N (o2.rd 0 rfl (by simpa [dgsW_len] using hu2)) hd3 (by rw [dgsW_len (Nat.le_refl _)]; omega)).step fun v5 K5 k5 hv => ?_
      subst hv
      rw [hcol]
      simp [e6]
      intro n1 b1 f1
      simp [make_of f1 b1]
      intro n2 b2 f2
      obtain ⟨v', K', b', q1, q2, q3⟩ := (o2.call k5).tail.push 0 rfl (by simpa using hu) (x := encN (colW ws i)) (bytes := 8) rfl (by simp; omega) (by simp; omega) f1 b1 f2 b2
      simp [q1, e7, wi, hlt]
      rw [hJ]
      refine ⟨by simp, v', some b', by simp, ?_, by simpa using q3⟩
      rw [List.range_succ, List.map_append, List.map_append]
      simpa using q2
  · have hie : i = lngW ws := by omega
    subst hie
    simp [e7, e3, e6]
    rw [hR]
    exact ⟨o.keeps, bo, o.vec 0 rfl (by simpa [colsW] using hu), fun b hb => by subst hb; exact o.fr 0 rfl⟩
end Go.Proofs.YtcnkhkmapgbodaaDoor.W
end

section
namespace Go.Proofs.YtcnkhkmapgbodaaDoor.W
set_option linter.unusedVariables false
set_option linter.unusedSimpArgs false
open Go.B
variable {base : Nat}
attribute [local simp] wpC_skip wpC_region wpC_seq wpC_true wpC_false wpC_block wpC_exit wpC_ret wpO_nil wpO_n wpO_tt wpO_ff wpO_tf wpO_ft wpO_u wpS_mov wpS_pick wpS_build wpS_load wpS_store wpS_nilck wpS_bin wpS_beq wpS_isnil wpS_eqs wpS_not wpS_neg wpS_conv wpS_lea wpS_fld wpS_idx wpS_idxs wpS_slice wpS_sslice wpS_mkfn wpS_mset wpS_look wpS_ext wpS_len wpS_new wpS_box wpS_mk wpS_mkmap wpS_mksl wpS_app wpS_fn wpS_call after_some pthen_n pthen_x pthen_r pin BExit.outOf puto_some puto_none put_eq put_ne Opd.ev argEnv op1_mov op1_pick op1_new op1_box op1_load op1_nilck op1_bin op1_beq op1_not op1_neg op1_conv op1_lea op1_fld op1_len0 op1_len1 op1_idx op1_ext op1_build op1_mk op1_stw op1_mksl op1_eqs pureBin isShift resOf resVals val_tmp val_cell oneOf one_int cells_int one_bool cells_bool one_str cells_str one_nilp cells_nilp one_ptr cells_ptr one_nils cells_nils one_sl cells_sl one_sle cells_sle one_nilm cells_nilm one_mp cells_mp one_nilf cells_nilf one_fn cells_fn one_nili cells_nili cells_agg isSl_sl slen_sl sat_sl make_of asm rtOk wpS_b2s op1_b2s wpS_imax op1_imax wpS_imin op1_imin wpS_i2s op1_i2s op1_isnil Option.map_some gam_base op1_app op1_idxs wpS_idxa op1_idxa op1_sslice bound_none bound_some nat_of op1_mkmap op1_mset op1_look op1_len2 op1_mkfn fillB Has
open Go.Au
def smW (ws : List (List Nat)) (i j : Nat) : Bool := (ws.take j).any fun w => decide (i < w.length)
theorem smW_succ {ws : List (List Nat)} {i j : Nat} (h : j < ws.length) : smW ws i (j + 1) = (smW ws i j || decide (i < ws[j].length)) := by
  unfold smW
  rw [List.take_add_one, List.getElem?_eq_getElem h, List.any_append]
  simp
theorem smW_all (ws : List (List Nat)) (i : Nat) : smW ws i ws.length = decide (i < lngW ws) := by
  unfold smW
  rw [List.take_length, Bool.eq_iff_iff, decide_eq_true_eq, lng_lt, List.any_eq_true]
  simp
theorem s_columns (ws : List (List Nat)) (v : BV) (H : BH) (h : Rd H 9 v (ws.map encW)) (hw : ∀ w ∈ ws, IsW w) (hn : ws.length ≤ 20) (hl : ∀ w ∈ ws, w.length ≤ 1000000) :
    FnDoes (gam base) 63 [v] H fun u K => ∃ bo, OwnV base K 2 u ((colsW ws).map encN) bo ∧ Fr H bo := by
  obtain ⟨R, hR⟩ : ∃ R : BV → BH → Prop, R = fun u K => ∃ bo, OwnV base K 2 u ((colsW ws).map encN) bo ∧ Fr H bo := ⟨_, rfl⟩
  rw [← hR]
  refine FnDoes.of (fn := ir63) rfl ?_
  have hlm := lng_le hl
  simp [ir63]
  intro n4 b4 f4
  have o0 := Own.start (base := base) (H := H) |>.new f4 b4 (s := .arr 2 [])
  simp [make_of f4 b4]
  obtain ⟨J, hJ⟩ : ∃ J : Nat → Env → BH → Prop, J = (fun i e K' => e 4 = encN i ∧ ∃ u bo, e 3 = u ∧ Own base H K' [(bo, .arr 2 (((List.range i).map (colW ws)).map encN))] ∧ Vec bo u i) := ⟨_, rfl⟩
  refine wpC_countK (lngW ws) [(0, v)] J (i0 := 0) rfl ?_ ?_ (Nat.zero_le _) ?_
  · simp
  · rw [hJ]; exact ⟨by simp, .sl n4 0 0, some n4, by simp, by simpa using o0, rfl⟩
  clear o0
  rintro i e M hi' ⟨e0, -⟩ hh
  rw [hJ] at hh
  obtain ⟨e4, u, bo, e3, o, hu⟩ := hh
  simp only [] at e0
  have hm := h.keeps o.keeps
  have wi := wS (n := i) (by omega)
  simp
  obtain ⟨G, hG⟩ : ∃ G : Nat → Env → BH → Prop, G = (fun j e K' => e 7 = encN j ∧ e 5 = encN (colD (dgsW ws i j)) ∧ e 6 = .bool (smW ws i j) ∧ K' = M) := ⟨_, rfl⟩
  refine wpC_countK ws.length [(0, v), (3, u), (4, encN i)] G (i0 := 0) rfl ?_ ?_ (Nat.zero_le _) ?_
  · simp [e0, e3, e4]
  · rw [hG]
    exact ⟨by simp, by simp [dgsW, colD], by simp [smW], rfl⟩
  clear e0 e3 e4
  rintro j e N hj ⟨e0, e3, e4, -⟩ hh
  rw [hG] at hh
  obtain ⟨e7, e5, e6, rfl⟩ := hh
  simp only [] at e0 e3 e4
  by_cases hlt2 : j < ws.length
  · have g1 := hm.at (i := j) hlt2 (rt := none) rfl
    have wj := wS (n := j) (by omega)
    have hwj := hw _ (List.getElem_mem hlt2)
    obtain ⟨w, hwe⟩ : ∃ w, w = ws[j] := ⟨_, rfl⟩
    have hs := dgsW_succ (i := i) hlt2
    have hsm := smW_succ (i := i) hlt2
    have hc := colD_snoc (dgsW ws i j) (dgW i ws[j])
    have hd3 : Dig3 (dgsW ws i j) := fun d hd => by
      obtain ⟨x, hx, rfl⟩ := List.mem_map.1 hd
      exact dgW_lt (hw x (List.mem_of_mem_take hx)) i
    have hcl := colD_lt hd3
    rw [dgsW_len hj] at hcl hc
    have hp := p3_le (show j ≤ 20 by omega)
    have hp20 : p3 20 = 3486784401 := by decide
    have hdl := dgW_lt hwj i
    rw [hp20] at hp
    rw [← hs] at hc
    rw [← hwe] at hwj g1 hs hsm hc hdl
    have hmul : dgW i w * p3 j ≤ 3 * 3486784401 := Nat.mul_le_mul (by omega) hp
    have w1 : IntKind.i64.wrap (((dgW i w : Nat) : Int) * ((p3 j : Nat) : Int)) = ((dgW i w * p3 j : Nat) : Int) := by
      rw [← Int.natCast_mul]; exact wN (by omega)
    have w2 : IntKind.i64.wrap (((colD (dgsW ws i j) : Nat) : Int) + ((dgW i w * p3 j : Nat) : Int)) = ((colD (dgsW ws i (j + 1)) : Nat) : Int) := by
      rw [← Int.natCast_add, hc]; exact wN (by omega)
    by_cases hil : i < w.length
    · have g3 := let_mod (hwj.get hil)
      have g4 := let_sub (hwj.get hil)
      have g5 := (dgW_let hwj hil).1
      rw [g5] at w1 w2
      simp [e0, e7, hlt2, hm.isSl, hm.lenM, g1, e4, strL_size, hil, str_getE, g3, g4, e5]
      refine callP (s_power j N (by omega)) ?_
      simp [w1, w2, e7, wj, hlt2]
      have w2' := w2
      rw [Int.natCast_mul] at w2'
      simp only [w2', true_and]
      rw [hG]
      refine ⟨by simp, by simp, by simp [hsm, hil], rfl⟩
    · have g5 : dgW i w = 2 := by simp [dgW, hil]
      rw [g5] at w1 w2
      have w1' : IntKind.i64.wrap (2 * ((p3 j : Nat) : Int)) = ((2 * p3 j : Nat) : Int) := w1
      simp [e0, e7, hlt2, hm.isSl, hm.lenM, g1, e4, strL_size, hil, e5]
      refine callP (s_power j N (by omega)) ?_
      simp [w1', e7, wj, hlt2]
      have w2' := w2
      rw [Int.natCast_mul] at w2'
      have w2'' : IntKind.i64.wrap (((colD (dgsW ws i j) : Nat) : Int) + 2 * ((p3 j : Nat) : Int)) = ((colD (dgsW ws i (j + 1)) : Nat) : Int) := w2'
      simp only [w2'', true_and]
      rw [hG]
      refine ⟨by simp, by simp, by simp [hsm, hil, e6], rfl⟩
  · have hje : j = ws.length := by omega
    subst hje
    have hcol : colD (dgsW ws i ws.length) = colW ws i := by unfold dgsW colW; rw [List.take_length]
    rw [smW_all] at e6
    rw [hcol] at e5
    by_cases hlt : i < lngW ws
    · simp only [hlt, decide_true] at e6
      simp [e0, e7, e6, e5, e3, hm.isSl, hm.lenM]
      intro n1 b1 f1
      simp [make_of f1 b1]
      intro n2 b2 f2
      obtain ⟨v', K', b', q1, q2, q3⟩ := o.push 0 rfl (by simpa using hu) (x := encN (colW ws i)) (bytes := 8) rfl (by simp; omega) (by simp; omega) f1 b1 f2 b2
      simp [q1, e4, wi, hlt]
      rw [hJ]
      refine ⟨by simp, v', some b', by simp, ?_, by simpa using q3⟩
      rw [List.range_succ, List.map_append, List.map_append]
      simpa using q2
    · have hie : i = lngW ws := by omega
      subst hie
      simp only [Nat.lt_irrefl, decide_false] at e6
      simp [e0, e7, e6, e3, hm.isSl, hm.lenM]
      rw [hR]
      exact ⟨o.keeps, bo, o.vec 0 rfl (by simpa [colsW] using hu), fun b hb => by subst hb; exact o.fr 0 rfl⟩
end Go.Proofs.YtcnkhkmapgbodaaDoor.W
end

section
namespace Go.Proofs.YtcnkhkmapgbodaaDoor.W
set_option linter.unusedVariables false
set_option linter.unusedSimpArgs false
open Go.B
variable {base : Nat}
attribute [local simp] wpC_skip wpC_region wpC_seq wpC_true wpC_false wpC_block wpC_exit wpC_ret wpO_nil wpO_n wpO_tt wpO_ff wpO_tf wpO_ft wpO_u wpS_mov wpS_pick wpS_build wpS_load wpS_store wpS_nilck wpS_bin wpS_beq wpS_isnil wpS_eqs wpS_not wpS_neg wpS_conv wpS_lea wpS_fld wpS_idx wpS_idxs wpS_slice wpS_sslice wpS_mkfn wpS_mset wpS_look wpS_ext wpS_len wpS_new wpS_box wpS_mk wpS_mkmap wpS_mksl wpS_app wpS_fn wpS_call after_some pthen_n pthen_x pthen_r pin BExit.outOf puto_some puto_none put_eq put_ne Opd.ev argEnv op1_mov op1_pick op1_new op1_box op1_load op1_nilck op1_bin op1_beq op1_not op1_neg op1_conv op1_lea op1_fld op1_len0 op1_len1 op1_idx op1_ext op1_build op1_mk op1_stw op1_mksl op1_eqs pureBin isShift resOf resVals val_tmp val_cell oneOf one_int cells_int one_bool cells_bool one_str cells_str one_nilp cells_nilp one_ptr cells_ptr one_nils cells_nils one_sl cells_sl one_sle cells_sle one_nilm cells_nilm one_mp cells_mp one_nilf cells_nilf one_fn cells_fn one_nili cells_nili cells_agg isSl_sl slen_sl sat_sl make_of asm rtOk wpS_b2s op1_b2s wpS_imax op1_imax wpS_imin op1_imin wpS_i2s op1_i2s op1_isnil Option.map_some gam_base op1_app op1_idxs wpS_idxa op1_idxa op1_sslice bound_none bound_some nat_of op1_mkmap op1_mset op1_look op1_len2 op1_mkfn fillB Has
open Go.Au
/-- A cell of an automaton, as it is read. -/
theorem cellR {H : BH} {ty ty2 : Nat} {x : BV} {A : Aut} {w : Nat} (hx : RdR H ty ty2 x encN A.nxt) (hok : A.Ok w) {q c : Nat} (hq : q < A.acc.length) (hc : c < w) :
    ∃ r, (∀ rt, rtOk rt ty = true → H.rd rt none (x.sat q 1) = some r) ∧ r.isSl = true ∧ r.slen = w ∧ (∀ rt, rtOk rt ty2 = true → H.rd rt none (r.sat c 1) = some (encN (A.to q c))) := by
  have hq' : q < A.nxt.length := by rw [hok.len]; exact hq
  obtain ⟨r, h1, h2⟩ := hx.at hq'
  have hl := (hok.row _ (List.getElem_mem hq')).1
  have hc' : c < A.nxt[q].length := by omega
  have e : A.to q c = A.nxt[q][c] := by simp [Aut.to, hq', hc']
  exact ⟨r, h2, h1.isSl, by rw [h1.lenM, hl], fun rt hrt => by rw [h1.at hc' hrt, e]⟩
theorem run_take (A : Aut) (s : Nat) {cs : List Nat} {i : Nat} (h : i < cs.length) : A.run s (cs.take (i + 1)) = A.to (A.run s (cs.take i)) cs[i] := by
  rw [List.take_add_one, List.getElem?_eq_getElem h]
  simp only [Aut.run, Option.toList, List.foldl_append, List.foldl_cons, List.foldl_nil]
theorem _root_.Go.Au.In.take {w : Nat} {cs : List Nat} (h : In w cs) (i : Nat) : In w (cs.take i) := fun c hc => h c (List.mem_of_mem_take hc)
theorem acc_getD {A : Aut} {q : Nat} (h : q < A.acc.length) : A.acc[q] = A.acc.getD q false := by simp [h]
theorem i_takes (t s w : Nat) (A : Aut) (m cv : BV) (cs : List Nat) (H : BH) (h : RdM H t s A m) (hok : A.Ok w) (hs : s < A.acc.length) (hc : Rd H 3 cv (cs.map encN)) (hin : In w cs) (hn : cs.length ≤ 1000000) :
    FnDoes (gam base) 40 [m, cv] H fun v _ => v = .bool (A.lang s cs) := by
  obtain ⟨R, hR⟩ : ∃ R : BV → BH → Prop, R = fun v _ => v = .bool (A.lang s cs) := ⟨_, rfl⟩
  rw [← hR]
  refine FnDoes.of (fn := ir40) rfl ?_
  obtain ⟨u, x, rfl, hu, hx⟩ := h
  have u1 := hu.one
  have x1 := one_of_isSl hx.isSl
  simp [ir40, u1, x1]
  intro n1 b1 f1
  have o1 := Own.start (base := base) (H := H) |>.new f1 b1 (s := .arr 62 [encN t, encN s, u, x])
  have r1 := rd_ptr (o1.at 0 (b := n1) rfl) (rt := none) (j := 1) (c := encN s) rfl rfl
  have r2 := rd_ptr (o1.at 0 (b := n1) rfl) (rt := none) (j := 2) (c := u) rfl rfl
  have r3 := rd_ptr (o1.at 0 (b := n1) rfl) (rt := none) (j := 3) (c := x) rfl rfl
  have hx' := hx.keeps o1.keeps
  have hu' := hu.keeps o1.keeps
  have hc' := hc.keeps o1.keeps
  simp [make_of f1 b1, r1, hc'.isSl, hc'.lenM]
  obtain ⟨K1, hK1⟩ : ∃ K1, K1 = H.set n1 (.arr 62 [encN t, encN s, u, x]) := ⟨_, rfl⟩
  rw [← hK1] at r2 r3 hx' hu' hc' o1 ⊢
  obtain ⟨I, hI⟩ : ∃ I : Nat → Env → BH → Prop, I = (fun i e K => e 12 = encN i ∧ e 5 = encN (A.run s (cs.take i)) ∧ K = K1) := ⟨_, rfl⟩
  refine wpC_countK cs.length [(2, .ptr n1 0), (10, cv), (11, encN cs.length)] I (i0 := 0) rfl ?_ ?_ (Nat.zero_le _) ?_
  · simp
  · rw [hI]; exact ⟨by simp, by simp [Aut.run], rfl⟩
  rintro i e K hi ⟨e2, e10, e11, -⟩ hh
  rw [hI] at hh
  obtain ⟨e12, e5, rfl⟩ := hh
  simp only [] at e2 e10 e11
  have hq := hok.run hs (hin.take i)
  by_cases hlt : i < cs.length
  · have g1 := hc'.at (i := i) hlt (rt := none) rfl
    have wi := wS (n := i) (by omega)
    obtain ⟨r, q1, q2, q3, q4⟩ := cellR hx' hok hq (hin _ (List.getElem_mem hlt))
    have q1 := q1 none rfl
    have q4 := q4 none rfl
    have hci := hin _ (List.getElem_mem hlt)
    simp [e2, e10, e11, e12, e5, hlt, hc'.isSl, hc'.lenM, g1, r3, hx'.isSl, hx'.len, hok.len, hq, q1, q2, q3, hci, q4, wi]
    rw [hI]
    exact ⟨by simp, by simp [run_take A s hlt], rfl⟩
  · have hie : i = cs.length := by omega
    subst hie
    rw [List.take_length] at e5 hq
    have g2 := hu'.at (i := A.run s cs) hq (rt := none) rfl
    simp [e2, e11, e12, e5, r2, hu'.isSl, hu'.lenM, hq, g2]
    rw [hR]
    refine ⟨o1.keeps, ?_⟩
    unfold Aut.lang
    rw [← acc_getD hq]
theorem s_takes (t s rb : Nat) (A : Aut) (ws : List (List Nat)) (wv : BV) (H : BH) (h : RdP H rb t s A) (hok : A.Ok (wd ws.length)) (hs : s < A.acc.length) (hc : Rd H 9 wv (ws.map encW)) (hw : ∀ w ∈ ws, IsW w) (hn : ws.length ≤ 20) (hl : ∀ w ∈ ws, w.length ≤ 1000000) :
    FnDoes (gam base) 35 [.ptr rb 0, wv] H fun v _ => v = .bool (A.lang s (colsW ws)) := by
  obtain ⟨R, hR⟩ : ∃ R : BV → BH → Prop, R = fun v _ => v = .bool (A.lang s (colsW ws)) := ⟨_, rfl⟩
  rw [← hR]
  refine FnDoes.of (fn := ir35) rfl ?_
  have hin := cols_in hw
  have hcl := lng_le hl
  rw [← colsW_len] at hcl
  simp [ir35]
  refine (s_columns (base := base) ws wv H hc hw hn hl).step fun cv K1 k1 hv => ?_
  obtain ⟨bo, hv, -⟩ := hv
  have hc' : Rd K1 2 cv ((colsW ws).map encN) := hv.rd
  obtain ⟨u, x, hr, hu', hx'⟩ := h.keeps k1
  have r1 := rd_ptr hr (rt := none) (j := 1) (c := encN s) rfl rfl
  have r2 := rd_ptr hr (rt := none) (j := 2) (c := u) rfl rfl
  have r3 := rd_ptr hr (rt := none) (j := 3) (c := x) rfl rfl
  obtain ⟨cs, hcs⟩ : ∃ cs, cs = colsW ws := ⟨_, rfl⟩
  rw [← hcs] at hin hcl hc' hR
  simp [r1]
  obtain ⟨I, hI⟩ : ∃ I : Nat → Env → BH → Prop, I = (fun i e K => e 7 = encN i ∧ e 6 = encN (A.run s (cs.take i)) ∧ K = K1) := ⟨_, rfl⟩
  refine wpC_countK cs.length [(0, .ptr rb 0), (5, cv)] I (i0 := 0) rfl ?_ ?_ (Nat.zero_le _) ?_
  · simp
  · rw [hI]; exact ⟨by simp, by simp [Aut.run], rfl⟩
  rintro i e K hi ⟨e0, e5, -⟩ hh
  rw [hI] at hh
  obtain ⟨e7, e6, rfl⟩ := hh
  simp only [] at e0 e5
  have hq := hok.run hs (hin.take i)
  by_cases hlt : i < cs.length
  · have g1 := hc'.at (i := i) hlt (rt := none) rfl
    have wi := wS (n := i) (by omega)
    obtain ⟨r, q1, q2, q3, q4⟩ := cellR hx' hok hq (hin _ (List.getElem_mem hlt))
    have q1 := q1 none rfl
    have q4 := q4 none rfl
    have hci := hin _ (List.getElem_mem hlt)
    simp [e0, e5, e7, e6, hlt, hc'.isSl, hc'.lenM, g1, r3, hx'.isSl, hx'.len, hok.len, hq, q1, q2, q3, hci, q4, wi]
    rw [hI]
    exact ⟨by simp, by simp [run_take A s hlt], rfl⟩
  · have hie : i = cs.length := by omega
    subst hie
    rw [List.take_length] at e6 hq
    have g2 := hu'.at (i := A.run s cs) hq (rt := none) rfl
    simp [e0, e5, e7, e6, hc'.isSl, hc'.lenM, r2, hu'.isSl, hu'.lenM, hq, g2]
    rw [hR]
    refine ⟨k1, ?_⟩
    unfold Aut.lang
    rw [← acc_getD hq]
end Go.Proofs.YtcnkhkmapgbodaaDoor.W
end

section
namespace Go.Proofs.YtcnkhkmapgbodaaDoor.W
set_option linter.unusedVariables false
set_option linter.unusedSimpArgs false
open Go.B
variable {base : Nat}
attribute [local simp] wpC_skip wpC_region wpC_seq wpC_true wpC_false wpC_block wpC_exit wpC_ret wpO_nil wpO_n wpO_tt wpO_ff wpO_tf wpO_ft wpO_u wpS_mov wpS_pick wpS_build wpS_load wpS_store wpS_nilck wpS_bin wpS_beq wpS_isnil wpS_eqs wpS_not wpS_neg wpS_conv wpS_lea wpS_fld wpS_idx wpS_idxs wpS_slice wpS_sslice wpS_mkfn wpS_mset wpS_look wpS_ext wpS_len wpS_new wpS_box wpS_mk wpS_mkmap wpS_mksl wpS_app wpS_fn wpS_call after_some pthen_n pthen_x pthen_r pin BExit.outOf puto_some puto_none put_eq put_ne Opd.ev argEnv op1_mov op1_pick op1_new op1_box op1_load op1_nilck op1_bin op1_beq op1_not op1_neg op1_conv op1_lea op1_fld op1_len0 op1_len1 op1_idx op1_ext op1_build op1_mk op1_stw op1_mksl op1_eqs pureBin isShift resOf resVals val_tmp val_cell oneOf one_int cells_int one_bool cells_bool one_str cells_str one_nilp cells_nilp one_ptr cells_ptr one_nils cells_nils one_sl cells_sl one_sle cells_sle one_nilm cells_nilm one_mp cells_mp one_nilf cells_nilf one_fn cells_fn one_nili cells_nili cells_agg isSl_sl slen_sl sat_sl make_of asm rtOk wpS_b2s op1_b2s wpS_imax op1_imax wpS_imin op1_imin wpS_i2s op1_i2s op1_isnil Option.map_some gam_base op1_app op1_idxs wpS_idxa op1_idxa op1_sslice bound_none bound_some nat_of op1_mkmap op1_mset op1_look op1_len2 op1_mkfn Go.B.fillB Has
open Go.Au
def wdN (n : Nat) : List Nat := wordL n (bl n)
theorem wdN_w (n : Nat) : IsW (wdN n) := fun b hb => by
  unfold wdN wordL at hb
  obtain ⟨i, _, rfl⟩ := List.mem_map.1 hb
  unfold ltr
  omega
theorem wdN_len {n : Nat} (h : n ≤ 1000) : (wdN n).length ≤ 1000 := by
  have := bl_le h
  unfold wdN
  rw [wordL_len]
  omega
theorem wordB_eq (n : Nat) : (BV.str (wordB n)) = encW (wdN n) := rfl
/-- The automaton of a relation of any kind. -/
def autR (r : Raw4) : Aut := ⟨r.2.2.1, r.2.2.2.map (·.map Int.toNat)⟩
def takesN (r : Raw4) (x : Nat) : Bool := (autR r).lang r.2.1.toNat (colsW [wdN x])
def cntTo (r : Raw4) (n : Nat) : Nat := ((List.range n).filter (takesN r)).length
theorem cntTo_succ (r : Raw4) (n : Nat) : cntTo r (n + 1) = cntTo r n + (if takesN r n = true then 1 else 0) := by
  unfold cntTo
  rw [List.range_succ, List.filter_append, List.length_append]
  by_cases h : takesN r n = true <;> simp [h]
theorem cntTo_le (r : Raw4) (n : Nat) : cntTo r n ≤ n := by
  have := List.length_filter_le (takesN r) (List.range n)
  simpa [cntTo] using this
noncomputable def cntN (r : Raw4) (n : Int) : Nat × Nat := if setsN [r] ≠ 0 then (0, setsN [r]) else if inB n 0 1000 = true then (cntTo r n.toNat, 0) else (0, 2)
theorem sets_one {r : Raw4} (h : setsN [r] = 0) : valR r = true ∧ nsR r = true := by
  unfold setsN at h
  simp at h
  split at h
  · rename_i h1
    split at h
    · rename_i h2; exact ⟨h1, h2⟩
    · cases h
  · cases h
/-- A set of numbers, opened. -/
theorem ns_elim {r : Raw4} (h : setsN [r] = 0) : ∃ (s : Nat) (A : Aut), r.1 = (1 : Nat) ∧ r.2.1 = s ∧ r.2.2.1 = A.acc ∧ r.2.2.2 = A.nxt.map (·.map fun (q : Nat) => (q : Int)) ∧ A.Ok (wd 1) ∧ s < A.acc.length ∧ A.acc.length ≤ 150 ∧ autR r = A ∧ nsB (A.lang s) = true := by
  obtain ⟨hv, hns⟩ := sets_one h
  obtain ⟨T, S, acc, rows⟩ := r
  obtain ⟨t, s, A, hT, hS, ht1, ht, ha, hr, hok, hs, hlen⟩ := valid_elim hv
  simp only at ha hr
  subst hT hS ha hr
  unfold nsR at hns
  simp only [Bool.and_eq_true, decide_eq_true_eq] at hns
  have ht' : t = 1 := by omega
  subst ht'
  have e := aut_back A
  rw [e] at hns
  exact ⟨s, A, rfl, rfl, rfl, rfl, hok, hs, hlen, e, hns.2⟩
theorem bool_one (w : List Nat) (H : BH) {ty n1 : Nat} : Rd (H.set n1 (.arr ty [encW w])) ty (.sl n1 0 1) ([w].map encW) := by
  refine ⟨rfl, rfl, fun i x hi => ?_⟩
  have : i = 0 := by
    have := (List.getElem?_eq_some_iff.1 hi).1
    simpa using this
  subst this
  simp at hi
  subst hi
  exact ⟨n1, 0, [encW w], rfl, BH.row_set_eq _ _ _, by simp [one1], rfl⟩
theorem s_CountBelow (r : Raw4) (n : Int) (m : BV) (H : BH) (h : RdRaw H r.1 r.2.1 r.2.2.1 r.2.2.2 m) (hn : r.2.2.1.length ≤ 4611686018427387904) :
    FnDoes (gam base) 12 [m, .int .i64 n] H fun v _ => v = .tup [encN (cntN r n).1, encN (cntN r n).2] := by
  obtain ⟨R, hR⟩ : ∃ R : BV → BH → Prop, R = fun v _ => v = .tup [encN (cntN r n).1, encN (cntN r n).2] := ⟨_, rfl⟩
  rw [← hR]
  refine FnDoes.of (fn := ir12) rfl ?_
  obtain ⟨u, x, rfl, hu, hx⟩ := h
  have u1 := hu.one
  have x1 := one_of_isSl hx.isSl
  simp [ir12, u1, x1]
  intro n1 b1 f1
  have o1 := Own.start (base := base) (H := H) |>.new f1 b1 (s := .arr 29 [.int .i64 r.1, .int .i64 r.2.1, u, x])
  have hp : RdRawP _ n1 r.1 r.2.1 r.2.2.1 r.2.2.2 := ⟨u, x, o1.at 0 rfl, hu.keeps o1.keeps, hx.keeps o1.keeps⟩
  simp [make_of f1 b1]
  refine (s_set (base := base) r n1 _ hp hn).step fun v K1 k1 hv => ?_
  subst hv
  have o2 := o1.call k1
  have hp2 := hp.keeps k1
  by_cases h0 : setsN [r] = 0
  case neg =>
    have hb : (((setsN [r] : Nat) : Int) != 0) = true := by simp; omega
    simp [hb]
    rw [hR]
    refine ⟨o2.keeps, ?_⟩
    simp [cntN, h0]
  simp [h0]
  refine callP (s_in n 0 1000 _) ?_
  cases hin : inB n 0 1000
  · simp
    rw [hR]
    refine ⟨o2.keeps, ?_⟩
    simp [cntN, h0, hin]
  have hN : 0 ≤ n ∧ n ≤ 1000 := by simpa [inB] using hin
  obtain ⟨N, rfl⟩ : ∃ N : Nat, n = N := ⟨n.toNat, by omega⟩
  obtain ⟨s, A, e1, e2, e3, e4, hok, hs, hlen, hA, -⟩ := ns_elim h0
  have hrel : RdP K1 n1 1 s A := by
    rw [e1, e2, e3, e4] at hp2
    exact hp2.rel
  simp
  obtain ⟨I, hI⟩ : ∃ I : Nat → Env → BH → Prop, I = (fun i e K => e 8 = encN i ∧ e 7 = encN (cntTo r i) ∧ Own base H K []) := ⟨_, rfl⟩
  obtain ⟨Z, hZ⟩ : ∃ Z : BH → Prop, Z = fun K => RdP K n1 1 s A := ⟨_, rfl⟩
  refine wpC_countK N [(1, encN N), (2, .ptr n1 0)] (fun i e K => I i e K ∧ Z K) (i0 := 0) rfl ?_ ?_ (Nat.zero_le _) ?_
  · simp
  · rw [hI, hZ]; exact ⟨⟨by simp, by simp [cntTo], Own.of o2.keeps⟩, hrel⟩
  rintro i e K hi ⟨q1, q2, -⟩ ⟨hh, hz⟩
  rw [hI] at hh
  rw [hZ] at hz
  obtain ⟨e8, e7, o⟩ := hh
  simp only [] at q1 q2
  have wi := wS (n := i) (by omega)
  have wc := wS (n := cntTo r i) (by have := cntTo_le r i; omega)
  by_cases hlt : i < N
  · have hi1 : i ≤ 1000 := by omega
    simp [q1, q2, e8, hlt]
    refine (s_word (base := base) i hi1 K).step fun v K2 k2 hv => ?_
    subst hv
    rw [wordB_eq]
    simp [q2]
    intro n6 b6 f6
    have o6 := Own.start (base := base) (H := K2) |>.new f6 b6 (s := .arr 9 [encW (wdN i)])
    simp [make_of f6 b6, q2]
    refine (s_takes (base := base) 1 s n1 A [wdN i] _ _ (hz.keeps (k2.trans o6.keeps)) hok hs (bool_one _ _) (by simpa using wdN_w i) (by simp) (by simpa using (show (wdN i).length ≤ 1000000 by have := wdN_len hi1; omega))).step fun v K3 k3 hv => ?_
    have ht : A.lang s (colsW [wdN i]) = takesN r i := by unfold takesN; rw [hA, e2]; simp
    rw [ht] at hv
    subst hv
    have hsu := cntTo_succ r i
    cases hb : takesN r i
    · rw [if_neg (by simp [hb])] at hsu
      simp [e8, wi, hlt]
      rw [hI, hZ]
      exact ⟨⟨by simp, by simp [hsu, e7], Own.of (((o.keeps.trans k2).trans o6.keeps).trans k3)⟩, hz.keeps ((k2.trans o6.keeps).trans k3)⟩
    · rw [if_pos hb] at hsu
      simp [e8, e7, wi, wc, hlt]
      rw [hI, hZ]
      exact ⟨⟨by simp, by simp [hsu], Own.of (((o.keeps.trans k2).trans o6.keeps).trans k3)⟩, hz.keeps ((k2.trans o6.keeps).trans k3)⟩
  · have hie : i = N := by omega
    subst hie
    simp [q1, e8, e7]
    rw [hR]
    exact ⟨o.keeps, by simp [cntN, h0, hin]⟩
theorem sets_ne {n : Nat} (h : n ≠ 0) : (((n : Nat) : Int) != 0) = true := by simpa using h
theorem i_CountBelow (r : Raw4) (n : Int) (m : BV) (H : BH) (h : RdRaw H r.1 r.2.1 r.2.2.1 r.2.2.2 m) (hn : r.2.2.1.length ≤ 4611686018427387904) :
    FnDoes (gam base) 13 [m, .int .i64 n] H fun v _ => v = .tup [encN (cntN r n).1, encN (cntN r n).2] := by
  obtain ⟨R, hR⟩ : ∃ R : BV → BH → Prop, R = fun v _ => v = .tup [encN (cntN r n).1, encN (cntN r n).2] := ⟨_, rfl⟩
  rw [← hR]
  refine FnDoes.of (fn := ir13) rfl ?_
  have h' := h
  obtain ⟨u, x, rfl, hu, hx⟩ := h
  have u1 := hu.one
  have x1 := one_of_isSl hx.isSl
  simp [ir13, u1, x1]
  intro n1 b1 f1
  have o1 := Own.start (base := base) (H := H) |>.new f1 b1 (s := .arr 29 [.int .i64 r.1, .int .i64 r.2.1, u, x])
  have r1 := rd_all (o1.at 0 (b := n1) rfl) (n := 4) (rt := none) rfl rfl
  simp [make_of f1 b1, r1, u1, x1]
  intro n2 b2 f2
  have o2 := o1.new f2 b2 (s := .arr 29 [.int .i64 r.1, .int .i64 r.2.1, u, x])
  simp [make_of f2 b2]
  have hrs : RdRs ((H.set n1 (.arr 29 [.int .i64 r.1, .int .i64 r.2.1, u, x])).set n2 (.arr 29 [.int .i64 r.1, .int .i64 r.2.1, u, x])) (.sl n2 0 1) [r] := by
    refine ⟨[[.int .i64 r.1, .int .i64 r.2.1, u, x]], ⟨rfl, rfl, fun i y hi => ?_⟩, rfl, fun i c q hi hq => ?_⟩
    · have : i = 0 := by have := (List.getElem?_eq_some_iff.1 hi).1; simpa using this
      subst this
      simp at hi
      subst hi
      exact ⟨n2, 0, _, rfl, BH.row_set_eq _ _ _, by simp, rfl⟩
    · have : i = 0 := by have := (List.getElem?_eq_some_iff.1 hi).1; simpa using this
      subst this
      simp at hi hq
      subst hi hq
      exact h'.keeps o2.keeps
  refine (i_checkSets (base := base) [r] (.sl n2 0 1) _ hrs (by simp) (by simpa using hn)).step fun v K3 k3 hv => ?_
  subst hv
  have o3 := o2.call k3
  by_cases h0 : setsN [r] = 0
  case neg =>
    simp [sets_ne h0]
    rw [hR]
    refine ⟨o3.keeps, ?_⟩
    simp [cntN, h0]
  simp [h0]
  refine callP (i_within n 0 1000 _) ?_
  cases hin : inB n 0 1000
  · simp
    rw [hR]
    refine ⟨o3.keeps, ?_⟩
    simp [cntN, h0, hin]
  have hN : 0 ≤ n ∧ n ≤ 1000 := by simpa [inB] using hin
  obtain ⟨N, rfl⟩ : ∃ N : Nat, n = N := ⟨n.toNat, by omega⟩
  obtain ⟨s, A, e1, e2, e3, e4, hok, hs, hlen, hA, -⟩ := ns_elim h0
  have hrel : RdRel K3 1 s A (.agg [.int .i64 r.1, .int .i64 r.2.1, u, x]) := by
    have := h'.keeps o3.keeps
    rw [e1, e2, e3, e4] at this
    rw [e1, e2]
    exact this.rel
  have r3 := rd_all (o3.at 1 (b := n1) rfl) (n := 4) (rt := none) rfl rfl
  simp [r3]
  refine (i_machineOf (base := base) 1 s (wd 1) A _ K3 hrel (by decide) hok (by omega)).step fun mm K4 k4 hm => ?_
  have o4 := o3.call k4
  obtain ⟨mu, mw, hme, hmu, hmw⟩ := hm.rd
  subst hme
  have mu1 := hmu.one
  have mw1 := one_of_isSl hmw.isSl
  simp [mu1, mw1]
  intro n5 b5 f5
  obtain ⟨K5, g5, o5⟩ := (o4.new f5 b5 (s := .arr 62 [.int .i64 0, .int .i64 0, .nils, .nils])).putAll 0 (b := n5) (n := 4) (ds := [encN 1, encN s, mu, mw]) rfl rfl rfl (by simp [mu1, mw1]) (rt := none) rfl
  obtain ⟨K5', g5', o5'⟩ := (Own.start (base := base) (H := K4) |>.new f5 b5 (s := .arr 62 [.int .i64 0, .int .i64 0, .nils, .nils])).putAll 0 (b := n5) (n := 4) (ds := [encN 1, encN s, mu, mw]) rfl rfl rfl (by simp [mu1, mw1]) (rt := none) rfl
  rw [g5] at g5'
  cases g5'
  have hmm : RdM K5 1 s A (.agg [encN 1, encN s, mu, mw]) := (show RdM K4 1 s A _ from ⟨mu, mw, rfl, hmu, hmw⟩).keeps o5'.keeps
  simp [make_of f5 b5, g5]
  obtain ⟨I, hI⟩ : ∃ I : Nat → Env → BH → Prop, I = (fun i e K => e 9 = encN i ∧ e 8 = encN (cntTo r i) ∧ H.Keeps K ∧ RdM K 1 s A (.agg [encN 1, encN s, mu, mw]) ∧ K.row n5 = .arr 62 [encN 1, encN s, mu, mw]) := ⟨_, rfl⟩
  refine wpC_countK N [(1, encN N), (7, .ptr n5 0)] I (i0 := 0) rfl ?_ ?_ (Nat.zero_le _) ?_
  · simp
  · rw [hI]; exact ⟨by simp, by simp [cntTo], o5.keeps, hmm, o5.at 0 rfl⟩
  rintro i e K hi ⟨q1, q7, -⟩ hh
  rw [hI] at hh
  obtain ⟨e9, e8, kk, hz, hrow⟩ := hh
  simp only [] at q1 q7
  have wi := wS (n := i) (by omega)
  have wc := wS (n := cntTo r i) (by have := cntTo_le r i; omega)
  by_cases hlt : i < N
  · have hi1 : i ≤ 1000 := by omega
    have r7 := rd_all hrow (n := 4) (rt := some 62) rfl rfl
    simp [q1, q7, e9, hlt, r7]
    refine (i_word (base := base) i hi1 K).step fun v K2 k2 hv => ?_
    subst hv
    rw [wordB_eq]
    simp [q7]
    intro n6 b6 f6
    have o6 := Own.start (base := base) (H := K2) |>.new f6 b6 (s := .arr 9 [encW (wdN i)])
    simp [make_of f6 b6]
    refine (i_columnsOf (base := base) [wdN i] _ _ (bool_one _ _) (by simpa using wdN_w i) (by simp) (by simpa using (show (wdN i).length ≤ 1000000 by have := wdN_len hi1; omega))).step fun cv K7 k7 hv => ?_
    obtain ⟨bo, hcv, -⟩ := hv
    have kz := (k2.trans o6.keeps).trans k7
    have hcl := lng_le (ws := [wdN i]) (N := 1000) (by simpa using wdN_len hi1)
    rw [← colsW_len] at hcl
    simp
    refine (i_takes (base := base) 1 s (wd 1) A _ cv (colsW [wdN i]) K7 (hz.keeps kz) hok hs hcv.rd (cols_in (ws := [wdN i]) (by simpa using wdN_w i)) (by omega)).step fun v K3 k3 hv => ?_
    have ht : A.lang s (colsW [wdN i]) = takesN r i := by unfold takesN; rw [hA, e2]; simp
    rw [ht] at hv
    subst hv
    have hsu := cntTo_succ r i
    have kf := kz.trans k3
    cases hb : takesN r i
    · rw [if_neg (by simp [hb])] at hsu
      simp [e9, wi, hlt]
      rw [hI]
      exact ⟨by simp, by simp [hsu, e8], kk.trans kf, hz.keeps kf, by rw [kf n5 (by rw [hrow]; simp), hrow]⟩
    · rw [if_pos hb] at hsu
      simp [e9, e8, wi, wc, hlt]
      rw [hI]
      exact ⟨by simp, by simp [hsu], kk.trans kf, hz.keeps kf, by rw [kf n5 (by rw [hrow]; simp), hrow]⟩
  · have hie : i = N := by omega
    subst hie
    simp [q1, e9, e8]
    rw [hR]
    exact ⟨kk, by simp [cntN, h0, hin]⟩
end Go.Proofs.YtcnkhkmapgbodaaDoor.W
end

section
namespace Go.Proofs.YtcnkhkmapgbodaaDoor.W
set_option linter.unusedVariables false
set_option linter.unusedSimpArgs false
open Go.B
variable {base : Nat}
attribute [local simp] wpC_skip wpC_region wpC_seq wpC_true wpC_false wpC_block wpC_exit wpC_ret wpO_nil wpO_n wpO_tt wpO_ff wpO_tf wpO_ft wpO_u wpS_mov wpS_pick wpS_build wpS_load wpS_store wpS_nilck wpS_bin wpS_beq wpS_isnil wpS_eqs wpS_not wpS_neg wpS_conv wpS_lea wpS_fld wpS_idx wpS_idxs wpS_slice wpS_sslice wpS_mkfn wpS_mset wpS_look wpS_ext wpS_len wpS_new wpS_box wpS_mk wpS_mkmap wpS_mksl wpS_app wpS_fn wpS_call after_some pthen_n pthen_x pthen_r pin BExit.outOf puto_some puto_none put_eq put_ne Opd.ev argEnv op1_mov op1_pick op1_new op1_box op1_load op1_nilck op1_bin op1_beq op1_not op1_neg op1_conv op1_lea op1_fld op1_len0 op1_len1 op1_idx op1_ext op1_build op1_mk op1_stw op1_mksl op1_eqs pureBin isShift resOf resVals val_tmp val_cell oneOf one_int cells_int one_bool cells_bool one_str cells_str one_nilp cells_nilp one_ptr cells_ptr one_nils cells_nils one_sl cells_sl one_sle cells_sle one_nilm cells_nilm one_mp cells_mp one_nilf cells_nilf one_fn cells_fn one_nili cells_nili cells_agg isSl_sl slen_sl sat_sl make_of asm rtOk wpS_b2s op1_b2s wpS_imax op1_imax wpS_imin op1_imin wpS_i2s op1_i2s op1_isnil Option.map_some gam_base op1_app op1_idxs wpS_idxa op1_idxa op1_sslice bound_none bound_some nat_of op1_mkmap op1_mset op1_look op1_len2 op1_mkfn Go.B.fillB Has
open Go.Au
/-- The law. -/
theorem law_CountBelow (T S : Int) (acc : List Bool) (rows : List (List Int)) (n : Int) (m : BV) (H : BH) (h : RdL H T S acc rows m) (hn1 : acc.length ≤ 9223372036854775807) (hn : rows.length ≤ 9223372036854775807) (hr : ∀ xs ∈ rows, xs.length ≤ 9223372036854775807) :
    FnDoes (gam base) 4 [m, .int .i64 n] H fun v _ => v = .bool true := by
  refine FnDoes.of (fn := ir4) rfl ?_
  have g := h
  obtain ⟨u, x, tb, tw, rfl, hu, hx⟩ := h
  have u1 := hu.one
  have x1 := one_of_isSl hx.isSl
  simp [ir4, u1, x1]
  intro n1 b1 f1
  have o1 := Own.start (base := base) (H := H) |>.new f1 b1 (s := .arr 25 [.int .i64 T, .int .i64 S, u, x])
  have r1 := rd_all (o1.at 0 (b := n1) rfl) (n := 4) (rt := none) rfl rfl
  simp [make_of f1 b1, r1]
  refine (z_rel (base := base) T S acc rows _ _ (g.keeps o1.keeps) hn1 hn hr).step fun v K1 k1 hv => ?_
  obtain ⟨z, rfl, hz⟩ := hv
  have o2 := o1.call k1
  by_cases hz0 : z < 0
  · simp [hz0]
    exact o2.keeps
  obtain ⟨m1, m2, m3⟩ := hz (by omega)
  have r1 := rd_all (o2.at 0 (b := n1) rfl) (n := 4) (rt := none) rfl rfl
  simp [hz0, r1]
  refine (t_rel (base := base) T S acc rows _ _ (g.keeps o2.keeps) m1 m2 m3).step fun v K2 k2 hv => ?_
  have o3 := o2.call k2
  simp
  refine (s_CountBelow (base := base) (T, S, acc, rows) n v K2 hv (by show acc.length ≤ _; omega)).step fun v' K3 k3 hv' => ?_
  subst hv'
  have o4 := o3.call k3
  have r1 := rd_all (o4.at 0 (b := n1) rfl) (n := 4) (rt := none) rfl rfl
  simp [r1]
  refine (t_rel (base := base) T S acc rows _ _ (g.keeps o4.keeps) m1 m2 m3).step fun w K4 k4 hw => ?_
  have o5 := o4.call k4
  obtain ⟨uu, ww, rfl, hu2, hx2⟩ := id hw
  have u2 := hu2.one
  have x2 := one_of_isSl hx2.isSl
  simp [u2, x2]
  intro n6 b6 f6
  obtain ⟨K5, g5, o6⟩ := (o5.new f6 b6 (s := .arr 29 [.int .i64 0, .int .i64 0, .nils, .nils])).putAll 0 (b := n6) (n := 4) (ds := [encI T, encI S, uu, ww]) rfl rfl rfl (by simp [u2, x2]) (rt := none) rfl
  obtain ⟨K5', g5', o6'⟩ := (Own.start (base := base) (H := K4) |>.new f6 b6 (s := .arr 29 [.int .i64 0, .int .i64 0, .nils, .nils])).putAll 0 (b := n6) (n := 4) (ds := [encI T, encI S, uu, ww]) rfl rfl rfl (by simp [u2, x2]) (rt := none) rfl
  rw [g5] at g5'
  cases g5'
  have k5 := o6'.keeps
  have r6 := rd_all (o6.at 0 (b := n6) rfl) (n := 4) (rt := none) rfl rfl
  simp [make_of f6 b6, g5, r6]
  refine (i_CountBelow (base := base) (T, S, acc, rows) n _ K5 (hw.keeps k5) (by show acc.length ≤ _; omega)).step fun v' K6 k6 hv' => ?_
  subst hv'
  have o7 := o6.call k6
  have r6 := rd_all (o7.at 0 (b := n6) rfl) (n := 4) (rt := some 29) rfl rfl
  have r1 := rd_all (o7.at 1 (b := n1) rfl) (n := 4) (rt := none) rfl rfl
  simp [r6, r1]
  refine (t_rel (base := base) T S acc rows _ _ (g.keeps o7.keeps) m1 m2 m3).step fun w K7 k7 hw2 => ?_
  simp
  refine (q_rel (base := base) T S acc rows _ w K7 ((hw.keeps (k5.trans k6)).keeps k7) hw2 (by omega) (by omega) (fun r hr' => by have := m3 r hr'; omega)).step fun v' K8 k8 hv' => ?_
  subst hv'
  simp
  exact (o7.keeps.trans k7).trans k8
end Go.Proofs.YtcnkhkmapgbodaaDoor.W
end

section
namespace Go.Proofs.YtcnkhkmapgbodaaDoor.W
set_option linter.unusedVariables false
set_option linter.unusedSimpArgs false
open Go.B
variable {base : Nat}
attribute [local simp] wpC_skip wpC_region wpC_seq wpC_true wpC_false wpC_block wpC_exit wpC_ret wpO_nil wpO_n wpO_tt wpO_ff wpO_tf wpO_ft wpO_u wpS_mov wpS_pick wpS_build wpS_load wpS_store wpS_nilck wpS_bin wpS_beq wpS_isnil wpS_eqs wpS_not wpS_neg wpS_conv wpS_lea wpS_fld wpS_idx wpS_idxs wpS_slice wpS_sslice wpS_mkfn wpS_mset wpS_look wpS_ext wpS_len wpS_new wpS_box wpS_mk wpS_mkmap wpS_mksl wpS_app wpS_fn wpS_call after_some pthen_n pthen_x pthen_r pin BExit.outOf puto_some puto_none put_eq put_ne Opd.ev argEnv op1_mov op1_pick op1_new op1_box op1_load op1_nilck op1_bin op1_beq op1_not op1_neg op1_conv op1_lea op1_fld op1_len0 op1_len1 op1_idx op1_ext op1_build op1_mk op1_stw op1_mksl op1_eqs pureBin isShift resOf resVals val_tmp val_cell oneOf one_int cells_int one_bool cells_bool one_str cells_str one_nilp cells_nilp one_ptr cells_ptr one_nils cells_nils one_sl cells_sl one_sle cells_sle one_nilm cells_nilm one_mp cells_mp one_nilf cells_nilf one_fn cells_fn one_nili cells_nili cells_agg isSl_sl slen_sl sat_sl make_of asm rtOk wpS_b2s op1_b2s wpS_imax op1_imax wpS_imin op1_imin wpS_i2s op1_i2s op1_isnil Option.map_some gam_base op1_app op1_idxs wpS_idxa op1_idxa op1_sslice bound_none bound_some nat_of op1_mkmap op1_mset op1_look op1_len2 op1_mkfn Go.B.fillB Has
open Go.Au
theorem run_snoc (A : Aut) (s : Nat) (cs : List Nat) (c : Nat) : A.run s (cs ++ [c]) = A.to (A.run s cs) c := by simp only [Aut.run, List.foldl_append, List.foldl_cons, List.foldl_nil]
/-- What is marked behind some states. -/
def markB (A : Aut) (S : List Bool) (i : Nat) : List Bool := (List.range A.acc.length).map fun p => (List.range i).any fun q => S.getD q false && (decide (A.to q 0 = p) || decide (A.to q 1 = p))
def reachB (A : Aut) (s : Nat) : Nat → List Bool
  | 0 => (List.range A.acc.length).map fun p => decide (s = p)
  | k + 1 => markB A (reachB A s k) A.acc.length
theorem markB_len (A : Aut) (S : List Bool) (i : Nat) : (markB A S i).length = A.acc.length := by simp [markB]
theorem reachB_len (A : Aut) (s : Nat) : ∀ k, (reachB A s k).length = A.acc.length
  | 0 => by simp [reachB]
  | k + 1 => markB_len _ _ _
theorem setB {n : Nat} {f : Nat → Bool} {q : Nat} (hq : q < n) : ((List.range n).map f).set q true = (List.range n).map fun p => f p || decide (q = p) := by
  apply List.ext_getElem
  · simp
  · intro i h1 h2
    rw [List.getElem_set]
    by_cases h : q = i
    · simp [h]
    · simp [h]
theorem markB_zero (A : Aut) (S : List Bool) : markB A S 0 = List.replicate A.acc.length false := by
  apply List.ext_getElem
  · simp [markB]
  · intro i h1 h2
    simp [markB]
theorem reachB_zero (A : Aut) {s : Nat} (hs : s < A.acc.length) : (List.replicate A.acc.length false).set s true = reachB A s 0 := by
  have h : List.replicate A.acc.length false = (List.range A.acc.length).map fun _ => false := by
    apply List.ext_getElem
    · simp
    · intro i h1 h2; simp
  rw [h, setB hs]
  simp [reachB]
theorem markB_skip (A : Aut) {S : List Bool} {i : Nat} (h : S.getD i false = false) : markB A S (i + 1) = markB A S i := by
  unfold markB
  refine List.map_congr_left fun p _ => ?_
  rw [List.range_succ, List.any_append]
  simp only [List.any_cons, List.any_nil, Bool.or_false, h, Bool.false_and]
theorem markB_step (A : Aut) {w : Nat} (hok : A.Ok w) (hw : 2 ≤ w) {S : List Bool} {i : Nat} (hi : i < A.acc.length) (h : S.getD i false = true) : ((markB A S i).set (A.to i 0) true).set (A.to i 1) true = markB A S (i + 1) := by
  unfold markB
  rw [setB (hok.to hi (by omega)), setB (hok.to hi (by omega))]
  refine List.map_congr_left fun p _ => ?_
  rw [List.range_succ, List.any_append]
  simp only [List.any_cons, List.any_nil, Bool.or_false, h, Bool.true_and, Bool.or_assoc]
theorem reach_iff (A : Aut) {w : Nat} (hok : A.Ok w) (hw : 2 ≤ w) {s : Nat} (hs : s < A.acc.length) : ∀ (k p : Nat), p < A.acc.length → ((reachB A s k).getD p false = true ↔ ∃ cs, In 2 cs ∧ cs.length = k ∧ A.run s cs = p)
  | 0, p, hp => by
    unfold reachB
    rw [getD_map (by simpa using hp)]
    simp only [List.getElem_range, decide_eq_true_eq]
    constructor
    · rintro rfl
      exact ⟨[], In.nil 2, rfl, rfl⟩
    · rintro ⟨cs, _, h2, h3⟩
      rw [List.length_eq_zero_iff] at h2
      subst h2
      exact h3
  | k + 1, p, hp => by
    unfold reachB markB
    rw [getD_map (by simpa using hp)]
    simp only [List.getElem_range, List.any_eq_true, List.mem_range, Bool.and_eq_true, Bool.or_eq_true, decide_eq_true_eq]
    constructor
    · rintro ⟨q, hq, h1, h2⟩
      obtain ⟨cs, g1, g2, g3⟩ := (reach_iff A hok hw hs k q hq).1 h1
      rcases h2 with h2 | h2
      · refine ⟨cs ++ [0], g1.append (fun c hc => by simp at hc; omega), by simp [g2], ?_⟩
        rw [run_snoc, g3]
        exact h2
      · refine ⟨cs ++ [1], g1.append (fun c hc => by simp at hc; omega), by simp [g2], ?_⟩
        rw [run_snoc, g3]
        exact h2
    · rintro ⟨cs, g1, g2, g3⟩
      have hne : cs ≠ [] := by rintro rfl; simp at g2
      have e := List.dropLast_concat_getLast hne
      have hin : In 2 cs.dropLast := fun c hc => g1 c (List.dropLast_subset _ hc)
      have hq : A.run s cs.dropLast < A.acc.length := hok.run hs fun c hc => by have := hin c hc; omega
      refine ⟨A.run s cs.dropLast, hq, (reach_iff A hok hw hs k _ hq).2 ⟨_, hin, by simp [g2], rfl⟩, ?_⟩
      have hl : cs.getLast hne < 2 := g1 _ (List.getLast_mem hne)
      rw [← e, Aut.run, List.foldl_append] at g3
      have g3' : A.to (A.run s cs.dropLast) (cs.getLast hne) = p := g3
      have : cs.getLast hne = 0 ∨ cs.getLast hne = 1 := by omega
      rcases this with h | h <;> rw [h] at g3'
      · exact .inl g3'
      · exact .inr g3'
/-- Is a word of so many letters taken. -/
def countB (A : Aut) (s k : Nat) : Bool := (List.range A.acc.length).any fun p => A.acc.getD p false && (reachB A s k).getD p false
theorem countB_iff (A : Aut) {w : Nat} (hok : A.Ok w) (hw : 2 ≤ w) {s : Nat} (hs : s < A.acc.length) (k : Nat) : countB A s k = true ↔ ∃ cs, In 2 cs ∧ cs.length = k ∧ A.lang s cs = true := by
  unfold countB
  simp only [List.any_eq_true, List.mem_range, Bool.and_eq_true]
  constructor
  · rintro ⟨p, hp, h1, h2⟩
    obtain ⟨cs, g1, g2, g3⟩ := (reach_iff A hok hw hs k p hp).1 h2
    exact ⟨cs, g1, g2, by unfold Aut.lang; rw [g3, h1]⟩
  · rintro ⟨cs, g1, g2, g3⟩
    have hp : A.run s cs < A.acc.length := hok.run hs fun c hc => by have := g1 c hc; omega
    exact ⟨_, hp, g3, (reach_iff A hok hw hs k _ hp).2 ⟨cs, g1, g2, rfl⟩⟩
/-- Those of some states from which a letter leads to some others. -/
def befB (A : Aut) (F T : List Bool) (l : Nat) : List Bool := (List.range A.acc.length).map fun q => F.getD q false && T.getD (A.to q l) false
theorem befB_len (A : Aut) (F T : List Bool) (l : Nat) : (befB A F T l).length = A.acc.length := by simp [befB]
def anyB (L : List Bool) : Bool := L.contains true
theorem anyB_iff {L : List Bool} : anyB L = true ↔ ∃ q, q < L.length ∧ L.getD q false = true := by
  unfold anyB
  rw [List.contains_iff_mem]
  constructor
  · intro h
    obtain ⟨i, hi, e⟩ := List.getElem_of_mem h
    exact ⟨i, hi, by simp [hi, e]⟩
  · rintro ⟨q, hq, e⟩
    have : L[q] = true := by simpa [hq] using e
    exact this ▸ List.getElem_mem hq
/-- From the end: the states so far, and the letters. -/
def endB (A : Aut) (s len l0 : Nat) : Nat → List Bool
  | 0 => (List.range A.acc.length).map fun p => A.acc.getD p false && (reachB A s len).getD p false
  | d + 1 => if anyB (befB A (reachB A s (len - 1 - d)) (endB A s len l0 d) l0) = true then befB A (reachB A s (len - 1 - d)) (endB A s len l0 d) l0 else befB A (reachB A s (len - 1 - d)) (endB A s len l0 d) (1 - l0)
def letB (A : Aut) (s len l0 d : Nat) : Nat := if anyB (befB A (reachB A s (len - 1 - d)) (endB A s len l0 d) l0) = true then l0 else 1 - l0
theorem endB_len (A : Aut) (s len l0 : Nat) : ∀ d, (endB A s len l0 d).length = A.acc.length
  | 0 => by simp [endB]
  | d + 1 => by
    unfold endB
    split <;> exact befB_len _ _ _ _
theorem letB_lt {A : Aut} {s len l0 d : Nat} (h : l0 < 2) : letB A s len l0 d < 2 := by
  unfold letB
  split <;> omega
/-- The word, from its beginning. -/
def extW (A : Aut) (s len l0 : Nat) : List Nat := (List.range len).map fun i => 97 + letB A s len l0 (len - 1 - i)
theorem extW_len (A : Aut) (s len l0 : Nat) : (extW A s len l0).length = len := by simp [extW]
theorem extW_w {A : Aut} {s len l0 : Nat} (h : l0 < 2) : IsW (extW A s len l0) := fun b hb => by
  obtain ⟨i, _, rfl⟩ := List.mem_map.1 hb
  have := letB_lt (A := A) (s := s) (len := len) (d := len - 1 - i) h
  omega
theorem endB_sub (A : Aut) {s len l0 : Nat} : ∀ {d q : Nat}, d ≤ len → (endB A s len l0 d).getD q false = true → (reachB A s (len - d)).getD q false = true
  | 0, q, _, h => by
    unfold endB at h
    by_cases hq : q < A.acc.length
    · rw [getD_map (by simpa using hq)] at h
      simp only [List.getElem_range, Bool.and_eq_true] at h
      exact h.2
    · simp [hq] at h
  | d + 1, q, hd, h => by
    have key : ∀ l, (befB A (reachB A s (len - 1 - d)) (endB A s len l0 d) l).getD q false = true → (reachB A s (len - (d + 1))).getD q false = true := by
      intro l h
      unfold befB at h
      by_cases hq : q < A.acc.length
      · rw [getD_map (by simpa using hq)] at h
        simp only [List.getElem_range, Bool.and_eq_true] at h
        rw [show len - (d + 1) = len - 1 - d by omega]
        exact h.1
      · simp [hq] at h
    unfold endB at h
    split at h
    · exact key _ h
    · exact key _ h
/-- There is always a letter. -/
theorem endB_any (A : Aut) {w : Nat} (hok : A.Ok w) (hw : 2 ≤ w) {s len l0 : Nat} (hs : s < A.acc.length) (hl : l0 < 2) (hc : countB A s len = true) : ∀ {d : Nat}, d ≤ len → anyB (endB A s len l0 d) = true
  | 0, _ => by
    unfold countB at hc
    simp only [List.any_eq_true, List.mem_range, Bool.and_eq_true] at hc
    obtain ⟨p, hp, h1, h2⟩ := hc
    refine anyB_iff.2 ⟨p, by rw [endB_len]; exact hp, ?_⟩
    unfold endB
    rw [getD_map (by simpa using hp)]
    simp only [List.getElem_range, h1, h2, Bool.and_self]
  | d + 1, hd => by
    have ih := endB_any A hok hw hs hl hc (d := d) (by omega)
    unfold endB
    split
    · assumption
    · rename_i hno
      obtain ⟨p, hp, h1⟩ := anyB_iff.1 ih
      rw [endB_len] at hp
      have h2 := endB_sub A (by omega) h1
      obtain ⟨cs, g1, g2, g3⟩ := (reach_iff A hok hw hs (len - d) p hp).1 h2
      have hne : cs ≠ [] := by rintro rfl; simp at g2; omega
      have e := List.dropLast_concat_getLast hne
      have hin : In 2 cs.dropLast := fun c hc => g1 c (List.dropLast_subset _ hc)
      have hq : A.run s cs.dropLast < A.acc.length := hok.run hs fun c hc => by have := hin c hc; omega
      have hr : (reachB A s (len - 1 - d)).getD (A.run s cs.dropLast) false = true := (reach_iff A hok hw hs _ _ hq).2 ⟨_, hin, by simp [g2]; omega, rfl⟩
      have hll : cs.getLast hne < 2 := g1 _ (List.getLast_mem hne)
      rw [← e, Aut.run, List.foldl_append] at g3
      have g3' : A.to (A.run s cs.dropLast) (cs.getLast hne) = p := g3
      have some : ∀ l, l = cs.getLast hne → anyB (befB A (reachB A s (len - 1 - d)) (endB A s len l0 d) l) = true := by
        rintro l rfl
        refine anyB_iff.2 ⟨A.run s cs.dropLast, by rw [befB_len]; exact hq, ?_⟩
        unfold befB
        rw [getD_map (by simpa using hq)]
        simp only [List.getElem_range, hr, g3', h1, Bool.and_self]
      refine some _ ?_
      have : cs.getLast hne ≠ l0 := fun e2 => hno (some l0 e2.symm)
      omega
/-- All states that accept are as good as those that are reached. -/
theorem bef_acc (A : Aut) {w : Nat} (hok : A.Ok w) (hw : 2 ≤ w) {s len l0 l : Nat} (hs : s < A.acc.length) (hl : l < 2) (hlen : 0 < len) : befB A (reachB A s (len - 1)) A.acc l = befB A (reachB A s (len - 1)) (endB A s len l0 0) l := by
  unfold befB
  refine List.map_congr_left fun q hq => ?_
  rw [List.mem_range] at hq
  cases h : (reachB A s (len - 1)).getD q false
  · rfl
  · have ht := hok.to hq (c := l) (by omega)
    obtain ⟨cs, g1, g2, g3⟩ := (reach_iff A hok hw hs _ q hq).1 h
    have hr : (reachB A s len).getD (A.to q l) false = true := (reach_iff A hok hw hs _ _ ht).2 ⟨cs ++ [l], g1.append (fun c hc => by simp at hc; omega), by simp [g2]; omega, by rw [run_snoc, g3]⟩
    unfold endB
    rw [getD_map (by simpa using ht)]
    simp only [List.getElem_range, hr, Bool.and_true]
/-! ### least lengths -/
def farL (A : Aut) (w : Nat) : Nat → Nat → Int
  | 0, q => if A.acc.getD q false = true then 0 else -1
  | k + 1, q => if 0 ≤ farL A w k q then farL A w k q else if (List.range w).any (fun c => farL A w k (A.to q c) == (k : Int)) = true then ((k + 1 : Nat) : Int) else -1
/-- A word of so many columns is taken from a state. -/
def TkL (A : Aut) (w q d : Nat) : Prop := ∃ cs, In w cs ∧ cs.length = d ∧ A.lang q cs = true
theorem TkL_zero {A : Aut} {w q : Nat} : TkL A w q 0 ↔ A.acc.getD q false = true := by
  constructor
  · rintro ⟨cs, _, h2, h3⟩
    rw [List.length_eq_zero_iff] at h2
    subst h2
    exact h3
  · intro h; exact ⟨[], In.nil w, rfl, h⟩
theorem TkL_succ {A : Aut} {w q d : Nat} : TkL A w q (d + 1) ↔ ∃ c, c < w ∧ TkL A w (A.to q c) d := by
  constructor
  · rintro ⟨cs, h1, h2, h3⟩
    cases cs with
    | nil => simp at h2
    | cons c cs => exact ⟨c, h1.head, cs, h1.tail, by simpa using h2, h3⟩
  · rintro ⟨c, hc, cs, h1, h2, h3⟩
    exact ⟨c :: cs, h1.cons hc, by simp [h2], h3⟩
theorem farL_spec (A : Aut) (w : Nat) : ∀ (k q : Nat), (∀ d : Nat, farL A w k q = (d : Int) ↔ d ≤ k ∧ TkL A w q d ∧ ∀ e, e < d → ¬ TkL A w q e) ∧ (farL A w k q = -1 ↔ ∀ e, e ≤ k → ¬ TkL A w q e)
  | 0, q => by
    by_cases h : A.acc.getD q false = true
    · have h0 : TkL A w q 0 := TkL_zero.2 h
      have e : farL A w 0 q = 0 := by simp only [farL, if_pos h]
      rw [e]
      refine ⟨fun d => ⟨fun hd => ?_, fun ⟨h1, _, _⟩ => by omega⟩, ⟨fun hh => by omega, fun hh => absurd h0 (hh 0 (Nat.le_refl _))⟩⟩
      have : d = 0 := by omega
      subst this
      exact ⟨Nat.le_refl _, h0, fun e he => by omega⟩
    · have h0 : ¬ TkL A w q 0 := fun hh => h (TkL_zero.1 hh)
      have e : farL A w 0 q = -1 := by simp only [farL, if_neg h]
      rw [e]
      refine ⟨fun d => ⟨fun hd => by omega, fun ⟨h1, h2, _⟩ => ?_⟩, ⟨fun _ e he => ?_, fun _ => rfl⟩⟩
      · have : d = 0 := by omega
        subst this
        exact absurd h2 h0
      · have : e = 0 := by omega
        subst this
        exact h0
  | k + 1, q => by
    obtain ⟨i1, i2⟩ := farL_spec A w k q
    by_cases h : 0 ≤ farL A w k q
    · have e : farL A w (k + 1) q = farL A w k q := by rw [farL, if_pos h]
      rw [e]
      obtain ⟨d0, hd0⟩ : ∃ d0 : Nat, farL A w k q = (d0 : Int) := ⟨(farL A w k q).toNat, by omega⟩
      obtain ⟨g1, g2, g3⟩ := (i1 d0).1 hd0
      refine ⟨fun d => ⟨fun hd => ?_, fun ⟨h1, h2, h3⟩ => ?_⟩, ⟨fun hh => by omega, fun hh => absurd g2 (hh d0 (by omega))⟩⟩
      · obtain ⟨a1, a2, a3⟩ := (i1 d).1 hd
        exact ⟨by omega, a2, a3⟩
      · have : d = d0 := by
          rcases Nat.lt_trichotomy d d0 with hh | hh | hh
          · exact absurd h2 (g3 d hh)
          · exact hh
          · exact absurd g2 (h3 d0 hh)
        rw [this, hd0]
    · have hm : farL A w k q = -1 := by
        -- it is never less
        have key : ∀ k q, -1 ≤ farL A w k q := by
          intro k
          induction k with
          | zero => intro q; simp only [farL]; split <;> omega
          | succ k ih => intro q; rw [farL]; split; exact ih q; split <;> omega
        have := key k q
        omega
      have hno := i2.1 hm
      by_cases hc : (List.range w).any (fun c => farL A w k (A.to q c) == (k : Int)) = true
      · have e : farL A w (k + 1) q = ((k + 1 : Nat) : Int) := by rw [farL, if_neg h, if_pos hc]
        rw [e]
        simp only [List.any_eq_true, List.mem_range, beq_iff_eq] at hc
        obtain ⟨c, hcw, hce⟩ := hc
        obtain ⟨_, b2, _⟩ := ((farL_spec A w k (A.to q c)).1 k).1 hce
        have hk1 : TkL A w q (k + 1) := TkL_succ.2 ⟨c, hcw, b2⟩
        refine ⟨fun d => ⟨fun hd => ?_, fun ⟨h1, h2, h3⟩ => ?_⟩, ⟨fun hh => by omega, fun hh => absurd hk1 (hh _ (Nat.le_refl _))⟩⟩
        · have : d = k + 1 := by omega
          subst this
          exact ⟨Nat.le_refl _, hk1, fun e he => hno e (by omega)⟩
        · have : d = k + 1 := by
            rcases Nat.lt_or_ge d (k + 1) with hh | hh
            · exact absurd h2 (hno d (by omega))
            · omega
          rw [this]
      · have e : farL A w (k + 1) q = -1 := by rw [farL, if_neg h, if_neg hc]
        rw [e]
        have hk1 : ¬ TkL A w q (k + 1) := fun hh => by
          obtain ⟨c, hcw, b⟩ := TkL_succ.1 hh
          refine hc ?_
          simp only [List.any_eq_true, List.mem_range, beq_iff_eq]
          refine ⟨c, hcw, ((farL_spec A w k (A.to q c)).1 k).2 ⟨Nat.le_refl _, b, fun e he hb => hno (e + 1) (by omega) (TkL_succ.2 ⟨c, hcw, hb⟩)⟩⟩
        refine ⟨fun d => ⟨fun hd => by omega, fun ⟨h1, h2, _⟩ => ?_⟩, ⟨fun _ e he => ?_, fun _ => rfl⟩⟩
        · rcases Nat.lt_or_ge d (k + 1) with hh | hh
          · exact absurd h2 (hno d (by omega))
          · have : d = k + 1 := by omega
            subst this
            exact absurd h2 hk1
        · rcases Nat.lt_or_ge e (k + 1) with hh | hh
          · exact hno e (by omega)
          · have : e = k + 1 := by omega
            subst this
            exact hk1
/-- A least length is less than the number of states. -/
theorem least_lt {A : Aut} {w : Nat} (hok : A.Ok w) {q d : Nat} (hq : q < A.acc.length) (h1 : TkL A w q d) (h2 : ∀ e, e < d → ¬ TkL A w q e) : d < A.acc.length := by
  obtain ⟨cs, g1, g2, g3⟩ := h1
  -- the states on the way are all different
  have suf : ∀ i, i ≤ d → TkL A w (A.run q (cs.take i)) (d - i) := fun i hi => ⟨cs.drop i, fun c hc => g1 c (List.mem_of_mem_drop hc), by simp [g2], by
    unfold Aut.lang at g3 ⊢
    rw [Aut.run, Aut.run, ← List.foldl_append, List.take_append_drop]
    exact g3⟩
  have pre : ∀ i e, i ≤ d → TkL A w (A.run q (cs.take i)) e → TkL A w q (i + e) := fun i e hi ⟨ds, k1, k2, k3⟩ => ⟨cs.take i ++ ds, (fun c hc => by
    rcases List.mem_append.1 hc with hc | hc
    · exact g1 c (List.mem_of_mem_take hc)
    · exact k1 c hc), by simp [g2, k2]; omega, by
      unfold Aut.lang at k3 ⊢
      rw [Aut.run, List.foldl_append]
      exact k3⟩
  have hn : ((List.range (d + 1)).map fun i => A.run q (cs.take i)).Nodup := by
    refine List.pairwise_map.2 ((List.pairwise_lt_range).imp_of_mem fun {i j} hi hj hij he => ?_)
    rw [List.mem_range] at hi hj
    have := suf j (by omega)
    rw [← he] at this
    exact h2 _ (by omega) (pre i _ (by omega) this)
  have := nodup_le hn (ys := List.range A.acc.length) fun x hx => by
    obtain ⟨i, _, rfl⟩ := List.mem_map.1 hx
    exact List.mem_range.2 (hok.run hq fun c hc => g1 c (List.mem_of_mem_take hc))
  simp at this
  omega
/-- The least length, or less than zero. -/
def farZ (A : Aut) (w q : Nat) : Int := farL A w A.acc.length q
theorem farZ_none {A : Aut} {w : Nat} (hok : A.Ok w) {q : Nat} (hq : q < A.acc.length) : farZ A w q = -1 ↔ ∀ d, ¬ TkL A w q d := by
  constructor
  · intro h d hd
    have h1 := (farL_spec A w A.acc.length q).2.1 h
    -- take the least one
    have key : ∀ n, (∃ d, d ≤ n ∧ TkL A w q d) → ∃ d, TkL A w q d ∧ ∀ e, e < d → ¬ TkL A w q e := by
      intro n
      induction n with
      | zero => rintro ⟨d, hd, ht⟩; exact ⟨d, ht, fun e he => by omega⟩
      | succ n ih =>
        rintro ⟨d, hd, ht⟩
        by_cases hh : ∃ d, d ≤ n ∧ TkL A w q d
        · exact ih hh
        · exact ⟨d, ht, fun e he hte => hh ⟨e, by omega, hte⟩⟩
    obtain ⟨d', k1, k2⟩ := key d ⟨d, Nat.le_refl _, hd⟩
    exact h1 d' (by have := least_lt hok hq k1 k2; omega) k1
  · intro h
    exact (farL_spec A w A.acc.length q).2.2 fun e _ => h e
theorem farZ_some {A : Aut} {w : Nat} (hok : A.Ok w) {q : Nat} (hq : q < A.acc.length) (d : Nat) : farZ A w q = (d : Int) ↔ TkL A w q d ∧ ∀ e, e < d → ¬ TkL A w q e := by
  unfold farZ
  rw [(farL_spec A w A.acc.length q).1 d]
  constructor
  · exact fun h => h.2
  · exact fun h => ⟨by have := least_lt hok hq h.1 h.2; omega, h⟩
theorem farL_ge (A : Aut) (w : Nat) : ∀ k q, -1 ≤ farL A w k q
  | 0, q => by simp only [farL]; split <;> omega
  | k + 1, q => by
    rw [farL]
    split
    · exact farL_ge A w k q
    · split <;> omega
theorem farL_le (A : Aut) (w : Nat) : ∀ k q, farL A w k q ≤ (k : Int)
  | 0, q => by simp only [farL]; split <;> omega
  | k + 1, q => by
    rw [farL]
    split
    · have := farL_le A w k q; omega
    · split <;> omega
end Go.Proofs.YtcnkhkmapgbodaaDoor.W
end

section
namespace Go.Proofs.YtcnkhkmapgbodaaDoor.W
set_option linter.unusedVariables false
set_option linter.unusedSimpArgs false
open Go.B
variable {base : Nat}
attribute [local simp] wpC_skip wpC_region wpC_seq wpC_true wpC_false wpC_block wpC_exit wpC_ret wpO_nil wpO_n wpO_tt wpO_ff wpO_tf wpO_ft wpO_u wpS_mov wpS_pick wpS_build wpS_load wpS_store wpS_nilck wpS_bin wpS_beq wpS_isnil wpS_eqs wpS_not wpS_neg wpS_conv wpS_lea wpS_fld wpS_idx wpS_idxs wpS_slice wpS_sslice wpS_mkfn wpS_mset wpS_look wpS_ext wpS_len wpS_new wpS_box wpS_mk wpS_mkmap wpS_mksl wpS_app wpS_fn wpS_call after_some pthen_n pthen_x pthen_r pin BExit.outOf puto_some puto_none put_eq put_ne Opd.ev argEnv op1_mov op1_pick op1_new op1_box op1_load op1_nilck op1_bin op1_beq op1_not op1_neg op1_conv op1_lea op1_fld op1_len0 op1_len1 op1_idx op1_ext op1_build op1_mk op1_stw op1_mksl op1_eqs pureBin isShift resOf resVals val_tmp val_cell oneOf one_int cells_int one_bool cells_bool one_str cells_str one_nilp cells_nilp one_ptr cells_ptr one_nils cells_nils one_sl cells_sl one_sle cells_sle one_nilm cells_nilm one_mp cells_mp one_nilf cells_nilf one_fn cells_fn one_nili cells_nili cells_agg isSl_sl slen_sl sat_sl make_of asm rtOk wpS_b2s op1_b2s wpS_imax op1_imax wpS_imin op1_imin wpS_i2s op1_i2s op1_isnil Option.map_some gam_base op1_app op1_idxs wpS_idxa op1_idxa op1_sslice bound_none bound_some nat_of op1_mkmap op1_mset op1_look op1_len2 op1_mkfn Go.B.fillB Has
open Go.Au
theorem fillZ_skip {n i : Nat} (f : Nat → Int) (h : i < n) (h0 : f i = 0) : fillZ n f (i + 1) = fillZ n f i := by
  unfold fillZ
  rw [List.range_succ, List.map_append, List.append_assoc, show n - i = (n - (i + 1)) + 1 by omega, List.replicate_succ]
  simp [h0]
/-- Lengths, some of them a step further. -/
def farM (A : Aut) (w k i : Nat) : List Int := (List.range A.acc.length).map fun q => if q < i then farL A w (k + 1) q else farL A w k q
theorem farM_len (A : Aut) (w k i : Nat) : (farM A w k i).length = A.acc.length := by simp [farM]
theorem farM_get {A : Aut} {w k i q : Nat} (h : q < A.acc.length) : (farM A w k i)[q]'(by rw [farM_len]; exact h) = if q < i then farL A w (k + 1) q else farL A w k q := by simp [farM]
theorem farM_zero (A : Aut) (w k : Nat) : farM A w k 0 = (List.range A.acc.length).map (farL A w k) := by simp [farM]
theorem farM_all (A : Aut) (w k : Nat) : farM A w k A.acc.length = (List.range A.acc.length).map (farL A w (k + 1)) := by
  unfold farM
  refine List.map_congr_left fun q hq => ?_
  rw [if_pos (List.mem_range.1 hq)]
theorem farM_skip {A : Aut} {w k i : Nat} (h : farL A w (k + 1) i = farL A w k i) : farM A w k (i + 1) = farM A w k i := by
  unfold farM
  refine List.map_congr_left fun q hq => ?_
  by_cases h1 : q < i
  · rw [if_pos h1, if_pos (by omega)]
  · by_cases h2 : q = i
    · subst h2
      rw [if_pos (by omega), if_neg (by omega), h]
    · rw [if_neg h1, if_neg (by omega)]
theorem farM_set {A : Aut} {w k i : Nat} (h : i < A.acc.length) : (farM A w k i).set i (farL A w (k + 1) i) = farM A w k (i + 1) := set_upto (f := farL A w (k + 1)) (g := farL A w k) h
/-- Both tell alike who is at the last length. -/
theorem farM_eq {A : Aut} {w k i q : Nat} (h : q < A.acc.length) : ((farM A w k i)[q]'(by rw [farM_len]; exact h) = (k : Int)) ↔ farL A w k q = (k : Int) := by
  rw [farM_get h]
  split
  · rw [farL]
    split
    · rfl
    · rename_i hk
      split
      · constructor
        · intro hh; omega
        · intro hh; omega
      · constructor
        · intro hh; omega
        · intro hh; omega
  · rfl
theorem i_far (t s w : Nat) (A : Aut) (m : BV) (H : BH) (h : RdM H t s A m) (hok : A.Ok w) (hn : A.acc.length ≤ 1000000) (hw : w ≤ 1000000) :
    FnDoes (gam base) 45 [m] H fun v K => ∃ bo, OwnV base K 3 v (((List.range A.acc.length).map (farZ A w)).map encI) bo ∧ Fr H bo := by
  obtain ⟨R, hR⟩ : ∃ R : BV → BH → Prop, R = fun v K => ∃ bo, OwnV base K 3 v (((List.range A.acc.length).map (farZ A w)).map encI) bo ∧ Fr H bo := ⟨_, rfl⟩
  rw [← hR]
  refine FnDoes.of (fn := ir45) rfl ?_
  obtain ⟨u, x, rfl, hu, hx⟩ := h
  have u1 := hu.one
  have x1 := one_of_isSl hx.isSl
  simp [ir45, u1, x1]
  intro n1 b1 f1
  have o1 := Own.start (base := base) (H := H) |>.new f1 b1 (s := .arr 62 [encN t, encN s, u, x])
  have r2 := rd_ptr (o1.at 0 (b := n1) rfl) (rt := none) (j := 2) (c := u) rfl rfl
  have c1 : (A.acc.length : Int) ≤ 140737488355328 := by omega
  have c8 : 8 * (A.acc.length : Int) ≤ 140737488355328 := by omega
  simp [make_of f1 b1, r2, hu.isSl, hu.lenM, c1, c8]
  intro n3 b3 f3
  have o2 := o1.new f3 b3 (s := .arr 3 (List.replicate A.acc.length (.int .i64 0)))
  have r2 := rd_ptr (o2.at 1 (b := n1) rfl) (rt := none) (j := 2) (c := u) rfl rfl
  simp [make_of f3 b3, r2, hu.isSl, hu.lenM]
  -- the length nought
  obtain ⟨I, hI⟩ : ∃ I : Nat → Env → BH → Prop, I = (fun i e K => e 18 = encN i ∧ Own base H K [(some n3, .arr 3 ((fillZ A.acc.length (farL A w 0) i).map encI)), (some n1, .arr 62 [encN t, encN s, u, x])]) := ⟨_, rfl⟩
  refine wpC_countK A.acc.length [(1, .ptr n1 0), (3, .sl n3 0 A.acc.length), (16, u), (17, encN A.acc.length)] I (i0 := 0) rfl ?_ ?_ (Nat.zero_le _) ?_
  · simp
  · rw [hI]
    refine ⟨by simp, ?_⟩
    rw [fillZ_zero, repl0Z]
    exact o2
  clear o2 o1
  rintro i e K hi ⟨e1, e3, e16, e17, -⟩ hh
  rw [hI] at hh
  obtain ⟨e18, o⟩ := hh
  simp only [] at e1 e3 e16 e17
  have wi := wS (n := i) (by omega)
  by_cases hlt : i < A.acc.length
  · have hr := (hu.keeps o.keeps).at hlt (rt := none) rfl
    have hga : A.acc.getD i false = A.acc[i] := by simp [hlt]
    cases hb : A.acc[i] with
    | true =>
      rw [hb] at hr
      simp [e1, e3, e16, e17, e18, hlt, hu.isSl, hu.lenM, hr, wi]
      rw [hI]
      refine ⟨by simp, ?_⟩
      rw [fillZ_skip _ hlt (by simp only [farL]; rw [hga, hb]; rfl)]
      exact o
    | false =>
      rw [hb] at hr
      obtain ⟨K5, g5, o5⟩ := o.put 0 (b := n3) rfl (j := i) (u := encI (-1)) (by simp [fillZ_len _ hi, hlt]) rfl (rt := none) rfl
      have g5' : K.wr base none 1 (.ptr n3 i) (.int .i64 (-1)) = some K5 := g5
      simp [e1, e3, e16, e17, e18, hlt, hu.isSl, hu.lenM, hr, g5', wi]
      rw [hI]
      refine ⟨by simp, ?_⟩
      rw [← fillZ_set _ hlt]
      have e0 : farL A w 0 i = -1 := by simp only [farL]; rw [hga, hb]; rfl
      rw [e0]
      simpa using o5
  have hie : i = A.acc.length := by omega
  subst hie
  rw [fillZ_all] at o
  simp [e17, e18]
  obtain ⟨J, hJ⟩ : ∃ J : Nat → Env → BH → Prop, J = (fun k e K => e 6 = encN (k + 1) ∧ Own base H K [(some n3, .arr 3 (((List.range A.acc.length).map (farL A w k)).map encI)), (some n1, .arr 62 [encN t, encN s, u, x])]) := ⟨_, rfl⟩
  refine wpC_countK A.acc.length [(1, .ptr n1 0), (3, .sl n3 0 A.acc.length)] J (i0 := 0) rfl ?_ ?_ (Nat.zero_le _) ?_
  · simp [e1, e3]
  · rw [hJ]
    exact ⟨by simp, o⟩
  clear o e1 e3 e16 e17 e18 wi hlt hi
  rintro k e K hk ⟨e1, e3, -⟩ hh
  rw [hJ] at hh
  obtain ⟨e6, o⟩ := hh
  simp only [] at e1 e3
  have wk := wS (n := k + 1) (by omega)
  have wk' : IntKind.i64.wrap ((k : Int) + 1 + 1) = ((k + 1 + 1 : Nat) : Int) := by rw [← wk]; simp
  by_cases hkl : k < A.acc.length
  · have r3 := rd_ptr (o.at 1 (b := n1) rfl) (rt := none) (j := 3) (c := x) rfl rfl
    have hkl' : (k : Int) + 1 ≤ (A.acc.length : Int) := by omega
    have hx' := hx.keeps o.keeps
    have hkl2 : k + 1 ≤ A.acc.length := hkl
    simp [e1, e3, e6, hkl', hkl2, r3, hx'.isSl, hx'.len, hok.len]
    obtain ⟨G, hG⟩ : ∃ G : Nat → Env → BH → Prop, G = (fun i e K => e 38 = encN i ∧ Own base H K [(some n3, .arr 3 ((farM A w k i).map encI)), (some n1, .arr 62 [encN t, encN s, u, x])]) := ⟨_, rfl⟩
    refine wpC_countK A.acc.length [(1, .ptr n1 0), (3, .sl n3 0 A.acc.length), (6, encN (k + 1)), (36, x), (37, encN A.acc.length)] G (i0 := 0) rfl ?_ ?_ (Nat.zero_le _) ?_
    · simp [e1, e3, e6]
    · rw [hG]
      refine ⟨by simp, ?_⟩
      rw [farM_zero]
      exact o
    clear o e1 e3 e6 r3 hx'
    rintro i e K hi ⟨e1, e3, e6, e36, e37, -⟩ hh
    rw [hG] at hh
    obtain ⟨e38, o⟩ := hh
    simp only [] at e1 e3 e6 e36 e37
    have wi := wS (n := i) (by omega)
    by_cases hlt : i < A.acc.length
    · have hx' := hx.keeps o.keeps
      have hlt' : i < A.nxt.length := by rw [hok.len]; exact hlt
      obtain ⟨row, q1, q2⟩ := hx'.at hlt'
      have q2 := q2 none rfl
      have hrl := (hok.row _ (List.getElem_mem hlt')).1
      have hv : ∀ q (hq : q < A.acc.length), K.rd none none (.ptr n3 q) = some (encI ((farM A w k i)[q]'(by rw [farM_len]; exact hq))) := fun q hq => rd_ptr (o.at 0 (b := n3) rfl) (rt := none) rfl (by simp [farM_len, hq])
      have hvi := hv i hlt
      rw [farM_get hlt, if_neg (by omega)] at hvi
      by_cases hpos : 0 ≤ farL A w k i
      · simp [e1, e3, e6, e36, e37, e38, hlt, hx'.isSl, hx'.len, hok.len, q2, hvi, hpos, wi]
        rw [hG]
        refine ⟨by simp, ?_⟩
        rw [farM_skip (by rw [farL, if_pos hpos])]
        exact o
      · simp [e1, e3, e6, e36, e37, e38, hlt, hx'.isSl, hx'.len, hok.len, q2, hvi, hpos, q1.isSl, q1.lenM, hrl]
        obtain ⟨F, hF⟩ : ∃ F : Nat → Env → BH → Prop, F = (fun c e K' => e 50 = encN c ∧ (∀ d, d < c → farL A w k (A.to i d) ≠ (k : Int)) ∧ K' = K) := ⟨_, rfl⟩
        refine wpC_countK w [(1, .ptr n1 0), (3, .sl n3 0 A.acc.length), (6, encN (k + 1)), (7, encN i), (36, x), (37, encN A.acc.length), (38, encN i), (48, row), (49, encN w)] F (i0 := 0) rfl ?_ ?_ (Nat.zero_le _) ?_
        · simp [e1, e3, e6, e36, e37, e38]
        · rw [hF]
          exact ⟨by simp, fun d hd => by omega, rfl⟩
        clear e1 e3 e6 e36 e37 e38
        rintro c e K' hc ⟨e1, e3, e6, e7, e36, e37, e38, e48, e49, -⟩ hh
        rw [hF] at hh
        obtain ⟨e50, hno, rfl⟩ := hh
        simp only [] at e1 e3 e6 e7 e36 e37 e38 e48 e49
        by_cases hcl : c < w
        · have hcl' : c < A.nxt[i].length := by omega
          have g1 := q1.at hcl' (rt := none) rfl
          have hto : A.nxt[i][c] = A.to i c := by simp [Aut.to, hlt', hcl']
          rw [hto] at g1
          have htl := hok.to hlt hcl
          have g2 := hv _ htl
          have wc := wS (n := c) (by omega)
          have w1 := wN (n := k) (by omega)
          have hkk := farM_eq (A := A) (w := w) (k := k) (i := i) htl
          have hd : ((farM A w k i)[A.to i c]'(by rw [farM_len]; exact htl) == (k : Int)) = decide (farL A w k (A.to i c) = (k : Int)) := by
            rw [Bool.eq_iff_iff, beq_iff_eq, decide_eq_true_iff]
            exact hkk
          by_cases hfnd : farL A w k (A.to i c) = (k : Int)
          · rw [decide_eq_true hfnd] at hd
            have hstep : farL A w (k + 1) i = ((k + 1 : Nat) : Int) := by
              rw [farL, if_neg hpos, if_pos]
              simp only [List.any_eq_true, List.mem_range, beq_iff_eq]
              exact ⟨c, hcl, hfnd⟩
            obtain ⟨K5, g5, o5⟩ := o.put 0 (b := n3) rfl (j := i) (u := encN (k + 1)) (by simp [farM_len, hlt]) rfl (rt := none) rfl
            simp [e1, e3, e6, e7, e36, e37, e38, e48, e49, e50, hcl, q1.isSl, q1.lenM, hrl, g1, htl, g2, w1, hd, hlt, g5, wi]
            rw [hG]
            refine ⟨by simp, ?_⟩
            rw [← farM_set hlt, hstep, List.map_set]
            exact o5
          · rw [decide_eq_false hfnd] at hd
            simp [e1, e3, e6, e7, e36, e37, e38, e48, e49, e50, hcl, q1.isSl, q1.lenM, hrl, g1, htl, g2, w1, hd, wc]
            rw [hF]
            refine ⟨by simp, fun d hd' => ?_, rfl⟩
            by_cases hdc : d = c
            · subst hdc; exact hfnd
            · exact hno d (by omega)
        · have hce : c = w := by omega
          subst hce
          simp [e38, e49, e50, wi, hlt]
          rw [hG]
          refine ⟨by simp, ?_⟩
          rw [farM_skip]
          · exact o
          · have hm : farL A c k i = -1 := by have := farL_ge A c k i; omega
            rw [farL, if_neg hpos, if_neg, hm]
            simp only [List.any_eq_true, List.mem_range, beq_iff_eq, not_exists, not_and]
            exact fun d hd => hno d hd
    · have hie : i = A.acc.length := by omega
      subst hie
      rw [farM_all] at o
      simp [e6, e37, e38, wk', hkl]
      rw [hJ]
      exact ⟨by simp, o⟩
  · have hke : k = A.acc.length := by omega
    subst hke
    have hno : ¬ (A.acc.length : Int) + 1 ≤ (A.acc.length : Int) := by omega
    simp [e3, e6, hno]
    rw [hR]
    exact ⟨o.keeps, some n3, o.vec 0 rfl (by simp [Vec]), fun b hb => by cases hb; exact o.fr 0 rfl⟩
end Go.Proofs.YtcnkhkmapgbodaaDoor.W
end

section
namespace Go.Proofs.YtcnkhkmapgbodaaDoor.W
set_option linter.unusedVariables false
set_option linter.unusedSimpArgs false
open Go.B
variable {base : Nat}
attribute [local simp] wpC_skip wpC_region wpC_seq wpC_true wpC_false wpC_block wpC_exit wpC_ret wpO_nil wpO_n wpO_tt wpO_ff wpO_tf wpO_ft wpO_u wpS_mov wpS_pick wpS_build wpS_load wpS_store wpS_nilck wpS_bin wpS_beq wpS_isnil wpS_eqs wpS_not wpS_neg wpS_conv wpS_lea wpS_fld wpS_idx wpS_idxs wpS_slice wpS_sslice wpS_mkfn wpS_mset wpS_look wpS_ext wpS_len wpS_new wpS_box wpS_mk wpS_mkmap wpS_mksl wpS_app wpS_fn wpS_call after_some pthen_n pthen_x pthen_r pin BExit.outOf puto_some puto_none put_eq put_ne Opd.ev argEnv op1_mov op1_pick op1_new op1_box op1_load op1_nilck op1_bin op1_beq op1_not op1_neg op1_conv op1_lea op1_fld op1_len0 op1_len1 op1_idx op1_ext op1_build op1_mk op1_stw op1_mksl op1_eqs pureBin isShift resOf resVals val_tmp val_cell oneOf one_int cells_int one_bool cells_bool one_str cells_str one_nilp cells_nilp one_ptr cells_ptr one_nils cells_nils one_sl cells_sl one_sle cells_sle one_nilm cells_nilm one_mp cells_mp one_nilf cells_nilf one_fn cells_fn one_nili cells_nili cells_agg isSl_sl slen_sl sat_sl make_of asm rtOk wpS_b2s op1_b2s wpS_imax op1_imax wpS_imin op1_imin wpS_i2s op1_i2s op1_isnil Option.map_some gam_base op1_app op1_idxs wpS_idxa op1_idxa op1_sslice bound_none bound_some nat_of op1_mkmap op1_mset op1_look op1_len2 op1_mkfn Go.B.fillB Has
open Go.Au
/-- States that are reached by 0 to so many letters, as rows. -/
def rchs (A : Aut) (s k : Nat) : List (List BV) := (List.range k).map fun i => (reachB A s i).map encB
theorem rchs_succ (A : Aut) (s k : Nat) : rchs A s (k + 1) = rchs A s k ++ [(reachB A s k).map encB] := by simp [rchs, List.range_succ]
theorem rchs_len (A : Aut) (s k : Nat) : (rchs A s k).length = k := by simp [rchs]
theorem rchs_get {A : Aut} {s k i : Nat} (h : i < k) : (rchs A s k)[i]? = some ((reachB A s i).map encB) := by simp [rchs, h]
theorem replB (n : Nat) : List.replicate n (BV.bool false) = (List.replicate n false).map encB := by simp
/-- What stands behind the first part. -/
def Ex1 (base : Nat) (H : BH) (t s len : Nat) (g : Bool) (A : Aut) (u x : BV) (e : Env) (K : BH) : Prop := ∃ n1 v8 wo vs fr, Has e [(1, encN len), (2, .bool g), (3, .ptr n1 0), (8, v8)] ∧
  Own base H K ([(wo, .arr 22 vs), (some n1, .arr 62 [encN t, encN s, u, x])] ++ fr) ∧ Vec wo v8 vs.length ∧ RowsOf 4 vs fr (rchs A s (len + 1))
theorem ext_p1 (t s w len : Nat) (g : Bool) (A : Aut) (u x : BV) (H : BH) (hu : Rd H 4 u (A.acc.map encB)) (hx : RdR H 65 3 x encN A.nxt) (hok : A.Ok w) (hw : 2 ≤ w) (hs : s < A.acc.length) (hn : A.acc.length ≤ 1000000) (hlen : len ≤ 1000000) (Q : Post) :
    wpC base (Runs (gam base)) (ir47.body.hd 5) (Post.then (Ex1 base H t s len g A u x) Q) (argEnv [.agg [encN t, encN s, u, x], encN len, .bool g]) H := by
  obtain ⟨Z, hZ⟩ : ∃ Z : Env → BH → Prop, Z = Ex1 base H t s len g A u x := ⟨_, rfl⟩
  rw [← hZ]
  have u1 := hu.one
  have x1 := one_of_isSl hx.isSl
  simp [ir47, BCode.hd, u1, x1]
  intro n1 b1 f1
  have o1 := Own.start (base := base) (H := H) |>.new f1 b1 (s := .arr 62 [encN t, encN s, u, x])
  have r2 := rd_ptr (o1.at 0 (b := n1) rfl) (rt := none) (j := 2) (c := u) rfl rfl
  have c1 : (A.acc.length : Int) ≤ 140737488355328 := by omega
  simp [make_of f1 b1, r2, hu.isSl, hu.lenM, c1]
  intro n7 b7 f7
  have o2 := o1.new f7 b7 (s := .arr 4 (List.replicate A.acc.length (.bool false)))
  have r1 := rd_ptr (o2.at 1 (b := n1) rfl) (rt := none) (j := 1) (c := encN s) rfl rfl
  obtain ⟨K3, g3, o3⟩ := o2.put 0 (b := n7) rfl (j := s) (u := .bool true) (by simpa using hs) rfl (rt := none) rfl
  simp [make_of f7 b7, r1, hs, g3]
  intro n8 b8 f8
  simp [make_of f8 b8]
  have o4 := o3.new f8 b8 (s := .arr 22 [.sl n7 0 A.acc.length])
  have hz : (List.replicate A.acc.length (BV.bool false)).set s (.bool true) = (reachB A s 0).map encB := by
    rw [replB, ← reachB_zero A hs, List.map_set]
  have o5 : Own base H (K3.set n8 (.arr 22 [.sl n7 0 A.acc.length])) ([(some n8, .arr 22 [.sl n7 0 A.acc.length]), (some n1, .arr 62 [encN t, encN s, u, x])] ++ [(some n7, .arr 4 ((reachB A s 0).map encB))]) := by
    rw [← hz]
    exact o4.perm (by
      refine List.Perm.cons _ ?_
      exact List.Perm.swap _ _ _)
  have hr0 : RowsOf 4 [.sl n7 0 A.acc.length] [(some n7, .arr 4 ((reachB A s 0).map encB))] (rchs A s 1) := ⟨rfl, by simp [Vec, reachB_len], trivial⟩
  obtain ⟨I, hI⟩ : ∃ I : Nat → Env → BH → Prop, I = (fun i e K => e 9 = encN i ∧ ∃ v8 wo vs fr, e 8 = v8 ∧ Own base H K ([(wo, .arr 22 vs), (some n1, .arr 62 [encN t, encN s, u, x])] ++ fr) ∧ Vec wo v8 vs.length ∧ RowsOf 4 vs fr (rchs A s (i + 1)) ∧ ∃ b7 o7, e 7 = .sl b7 o7 A.acc.length) := ⟨_, rfl⟩
  refine wpC_countK len [(1, encN len), (2, .bool g), (3, .ptr n1 0)] I (i0 := 0) rfl ?_ ?_ (Nat.zero_le _) ?_
  · simp
  · rw [hI]
    exact ⟨by simp, _, _, _, _, by simp, o5, rfl, hr0, n7, 0, by simp⟩
  clear o1 o2 o3 o4 o5 hr0 hz r1 r2 g3
  rintro i e K hi ⟨e1, e2, e3, -⟩ hh
  rw [hI] at hh
  obtain ⟨e9, v8, wo, vs, fr, e8, o, hv8, hrows, c7, d7, e7⟩ := hh
  simp only [] at e1 e2 e3
  have wi := wS (n := i) (by omega)
  have hvl := hrows.len
  rw [rchs_len] at hvl
  by_cases hlt : i < len
  · have hvi : i < vs.length := by omega
    obtain ⟨uo, hfr, huv⟩ := hrows.get (i := i) (u := vs[i]) (by simp [hvi]) (rchs_get (by omega))
    have huv' : Vec uo vs[i] A.acc.length := by simpa [reachB_len] using huv
    simp [e1, e7, e9, hlt, c1]
    intro n10 b10 f10
    simp [make_of f10 b10]
    have o6 := o.new f10 b10 (s := .arr 4 (List.replicate A.acc.length (.bool false)))
    have r8 := (o6.rd 1 rfl hv8).get (i := i) hvi (rt := none) rfl
    have s8 := (o6.rd 1 rfl hv8).isSl
    have l8 := (o6.rd 1 rfl hv8).len
    simp [e8, e9, s8, l8, hvi, r8, huv'.isSl, huv'.len]
    obtain ⟨J, hJ⟩ : ∃ J : Nat → Env → BH → Prop, J = (fun q e K => e 46 = encN q ∧ Own base H K ((some n10, .arr 4 ((markB A (reachB A s i) q).map encB)) :: ([(wo, .arr 22 vs), (some n1, .arr 62 [encN t, encN s, u, x])] ++ fr))) := ⟨_, rfl⟩
    refine wpC_countK A.acc.length [(1, encN len), (2, .bool g), (3, .ptr n1 0), (7, .sl c7 d7 A.acc.length), (8, v8), (9, encN i), (10, .sl n10 0 A.acc.length), (44, vs[i]), (45, encN A.acc.length)] J (i0 := 0) rfl ?_ ?_ (Nat.zero_le _) ?_
    · simp [e1, e2, e3, e7, e8, e9]
    · rw [hJ]
      refine ⟨by simp, ?_⟩
      rw [markB_zero, ← replB]
      exact o6
    clear o6 r8 s8 l8 e1 e2 e3 e7 e8 e9
    rintro q e K hq ⟨e1, e2, e3, e7, e8, e9, e10, e44, e45, -⟩ hh
    rw [hJ] at hh
    obtain ⟨e46, o⟩ := hh
    simp only [] at e1 e2 e3 e7 e8 e9 e10 e44 e45
    have wq := wS (n := q) (by omega)
    by_cases hql : q < A.acc.length
    · have hui := o.rd (3 + i) (by rw [show 3 + i = i + 1 + 1 + 1 by omega]; simpa using hfr) (by simpa [reachB_len] using huv')
      have g1 := hui.at (i := q) (by rw [reachB_len]; exact hql) (rt := none) rfl
      have hgd : (reachB A s i).getD q false = (reachB A s i)[q]'(by rw [reachB_len]; exact hql) := by
        rw [List.getD_eq_getElem?_getD, List.getElem?_eq_getElem (by rw [reachB_len]; exact hql)]
        rfl
      cases hb : (reachB A s i)[q]'(by rw [reachB_len]; exact hql) with
      | false =>
        rw [hb] at g1 hgd
        simp [e44, e45, e46, hql, huv'.isSl, huv'.len, g1, wq]
        rw [hJ]
        refine ⟨by simp, ?_⟩
        rw [markB_skip A hgd]
        exact o
      | true =>
        rw [hb] at g1 hgd
        have hx' := hx.keeps o.keeps
        have r3 := rd_ptr (o.at 2 (b := n1) rfl) (rt := none) (j := 3) (c := x) rfl rfl
        obtain ⟨row, q1, q2, q3, q4⟩ := cellR hx' hok hql (show 0 < w by omega)
        obtain ⟨row', q1', q2', q3', q4'⟩ := cellR hx' hok hql (show 1 < w by omega)
        have q1 := q1 none rfl
        have q1' := q1' none rfl
        rw [q1] at q1'
        cases q1'
        have q4 := q4 none rfl
        have q4' := q4' none rfl
        have ht0 := hok.to hql (show 0 < w by omega)
        have ht1 := hok.to hql (show 1 < w by omega)
        obtain ⟨K5, g5, o5⟩ := o.put 0 (b := n10) rfl (j := A.to q 0) (u := .bool true) (by simp [markB_len, ht0]) rfl (rt := none) rfl
        obtain ⟨K6, g6, o6⟩ := o5.put 0 (b := n10) rfl (j := A.to q 1) (u := .bool true) (by simp [markB_len, ht1]) rfl (rt := none) rfl
        have hw0 : 0 < w := by omega
        have hw1 : 1 < w := by omega
        have hw1' : (1 : Int) < (w : Int) := by omega
        simp [e3, e10, e44, e45, e46, hql, huv'.isSl, huv'.len, g1, wq, r3, hx'.isSl, hx'.len, hok.len, q1, q2, q3, q4, q4', hw0, hw1, hw1', ht0, ht1, g5, g6]
        rw [hJ]
        refine ⟨by simp, ?_⟩
        rw [← markB_step A hok hw hql hgd, List.map_set, List.map_set]
        simpa using o6
    · have hqe : q = A.acc.length := by omega
      subst hqe
      simp [e8, e10, e45, e46]
      intro n2 b2 f2
      simp [make_of f2 b2]
      intro n3 b3 f3
      obtain ⟨v', K', b', p1, p2, p3⟩ := o.push 1 rfl hv8 (x := .sl n10 0 A.acc.length) (bytes := 24) rfl (by omega) (by omega) f2 b2 f3 b3
      simp [p1, e9, wi, hlt]
      rw [hI]
      refine ⟨by simp, v', some b', vs ++ [.sl n10 0 A.acc.length], fr ++ [(some n10, .arr 4 ((reachB A s (i + 1)).map encB))], by simp, ?_, by simpa using p3, ?_, c7, d7, by simp [e7]⟩
      · have p2' : Own base H K' ((some n10, .arr 4 ((reachB A s (i + 1)).map encB)) :: ([(some b', .arr 22 (vs ++ [.sl n10 0 A.acc.length])), (some n1, .arr 62 [encN t, encN s, u, x])] ++ fr)) := p2
        exact p2'.last
      · rw [rchs_succ A s (i + 1)]
        exact RowsOf.snoc (by simp [Vec, reachB_len]) hrows
  · have hie : i = len := by omega
    subst hie
    simp [e1, e9]
    rw [hZ]
    exact ⟨n1, v8, wo, vs, fr, by simp [e1, e2, e3, e8], o, hv8, hrows⟩
end Go.Proofs.YtcnkhkmapgbodaaDoor.W
end

section
namespace Go.Proofs.YtcnkhkmapgbodaaDoor.W
set_option linter.unusedVariables false
set_option linter.unusedSimpArgs false
open Go.B
variable {base : Nat}
attribute [local simp] wpC_skip wpC_region wpC_seq wpC_true wpC_false wpC_block wpC_exit wpC_ret wpO_nil wpO_n wpO_tt wpO_ff wpO_tf wpO_ft wpO_u wpS_mov wpS_pick wpS_build wpS_load wpS_store wpS_nilck wpS_bin wpS_beq wpS_isnil wpS_eqs wpS_not wpS_neg wpS_conv wpS_lea wpS_fld wpS_idx wpS_idxs wpS_slice wpS_sslice wpS_mkfn wpS_mset wpS_look wpS_ext wpS_len wpS_new wpS_box wpS_mk wpS_mkmap wpS_mksl wpS_app wpS_fn wpS_call after_some pthen_n pthen_x pthen_r pin BExit.outOf puto_some puto_none put_eq put_ne Opd.ev argEnv op1_mov op1_pick op1_new op1_box op1_load op1_nilck op1_bin op1_beq op1_not op1_neg op1_conv op1_lea op1_fld op1_len0 op1_len1 op1_idx op1_ext op1_build op1_mk op1_stw op1_mksl op1_eqs pureBin isShift resOf resVals val_tmp val_cell oneOf one_int cells_int one_bool cells_bool one_str cells_str one_nilp cells_nilp one_ptr cells_ptr one_nils cells_nils one_sl cells_sl one_sle cells_sle one_nilm cells_nilm one_mp cells_mp one_nilf cells_nilf one_fn cells_fn one_nili cells_nili cells_agg isSl_sl slen_sl sat_sl make_of asm rtOk wpS_b2s op1_b2s wpS_imax op1_imax wpS_imin op1_imin wpS_i2s op1_i2s op1_isnil Option.map_some gam_base op1_app op1_idxs wpS_idxa op1_idxa op1_sslice bound_none bound_some nat_of op1_mkmap op1_mset op1_look op1_len2 op1_mkfn Go.B.fillB Has
open Go.Au
/-- The last letters. -/
def extD (A : Aut) (s len l0 d : Nat) : List Nat := (List.range d).map fun i => 97 + letB A s len l0 (d - 1 - i)
theorem extD_succ (A : Aut) (s len l0 d : Nat) : extD A s len l0 (d + 1) = (97 + letB A s len l0 d) :: extD A s len l0 d := by
  unfold extD
  rw [List.range_succ_eq_map, List.map_cons, List.map_map]
  congr 1
  refine List.map_congr_left fun i hi => ?_
  simp only [Function.comp, Nat.succ_eq_add_one]
  rw [show d + 1 - 1 - (i + 1) = d - 1 - i by omega]
theorem strL_cons (b : Nat) (xs : List Nat) : strL [b] ++ strL xs = strL (b :: xs) := by
  apply ByteArray.ext
  rw [ByteArray.data_append]
  simp [strL]
theorem extD_len (A : Aut) (s len l0 d : Nat) : (extD A s len l0 d).length = d := by simp [extD]
theorem extD_all (A : Aut) (s len l0 : Nat) : extD A s len l0 len = extW A s len l0 := rfl
/-- The states so far: at first all that accept. -/
def endI (A : Aut) (s len l0 d : Nat) : List Bool := if d = 0 then A.acc else endB A s len l0 d
theorem endI_len (A : Aut) (s len l0 d : Nat) : (endI A s len l0 d).length = A.acc.length := by
  unfold endI
  split
  · rfl
  · exact endB_len _ _ _ _ _
theorem bef_endI {A : Aut} {w : Nat} (hok : A.Ok w) (hw : 2 ≤ w) {s len l0 l d : Nat} (hs : s < A.acc.length) (hl : l < 2) (hd : d < len) : befB A (reachB A s (len - 1 - d)) (endI A s len l0 d) l = befB A (reachB A s (len - 1 - d)) (endB A s len l0 d) l := by
  unfold endI
  split
  · rename_i h
    subst h
    exact bef_acc A hok hw hs hl hd
  · rfl
/-- Those before, as far as they are told. -/
def befP (A : Aut) (F T : List Bool) (l i : Nat) : List Bool := (List.range A.acc.length).map fun q => decide (q < i) && (F.getD q false && T.getD (A.to q l) false)
def someP (A : Aut) (F T : List Bool) (l i : Nat) : Bool := (List.range i).any fun q => F.getD q false && T.getD (A.to q l) false
theorem befP_len (A : Aut) (F T : List Bool) (l i : Nat) : (befP A F T l i).length = A.acc.length := by simp [befP]
theorem befP_zero (A : Aut) (F T : List Bool) (l : Nat) : befP A F T l 0 = List.replicate A.acc.length false := by
  apply List.ext_getElem
  · simp [befP]
  · intro i h1 h2
    simp [befP]
theorem befP_all (A : Aut) (F T : List Bool) (l : Nat) : befP A F T l A.acc.length = befB A F T l := by
  unfold befP befB
  refine List.map_congr_left fun q hq => ?_
  rw [decide_eq_true (List.mem_range.1 hq), Bool.true_and]
theorem befP_set {A : Aut} {F T : List Bool} {l i : Nat} (hi : i < A.acc.length) (h : (F.getD i false && T.getD (A.to i l) false) = true) : (befP A F T l i).set i true = befP A F T l (i + 1) := by
  unfold befP
  rw [setB hi]
  refine List.map_congr_left fun q _ => ?_
  by_cases h1 : q < i
  · simp [h1, show q < i + 1 by omega, show ¬ i = q by omega]
  · by_cases h2 : i = q
    · subst h2
      simp only [Nat.lt_irrefl, decide_false, Bool.false_and, decide_true, Bool.false_or, Nat.lt_succ_self, Bool.true_and]
      exact h.symm
    · simp [h1, h2, show ¬ q < i + 1 by omega]
theorem befP_skip {A : Aut} {F T : List Bool} {l i : Nat} (h : (F.getD i false && T.getD (A.to i l) false) = false) : befP A F T l (i + 1) = befP A F T l i := by
  unfold befP
  refine List.map_congr_left fun q _ => ?_
  by_cases h1 : q < i
  · simp [h1, show q < i + 1 by omega]
  · by_cases h2 : i = q
    · subst h2
      rw [h]
      simp
    · simp [h1, show ¬ q < i + 1 by omega]
theorem someP_succ (A : Aut) (F T : List Bool) (l i : Nat) : someP A F T l (i + 1) = (someP A F T l i || (F.getD i false && T.getD (A.to i l) false)) := by
  unfold someP
  rw [List.range_succ, List.any_append]
  simp
theorem someP_all (A : Aut) (F T : List Bool) (l : Nat) : someP A F T l A.acc.length = anyB (befB A F T l) := by
  rw [Bool.eq_iff_iff, anyB_iff]
  unfold someP
  simp only [List.any_eq_true, List.mem_range]
  constructor
  · rintro ⟨q, hq, h⟩
    refine ⟨q, by rw [befB_len]; exact hq, ?_⟩
    unfold befB
    rw [getD_map (by simpa using hq)]
    simpa using h
  · rintro ⟨q, hq, h⟩
    rw [befB_len] at hq
    refine ⟨q, hq, ?_⟩
    unfold befB at h
    rw [getD_map (by simpa using hq)] at h
    simpa using h
def ltrs (l0 : Nat) : List Nat := [l0, 1 - l0]
theorem getD_get {L : List Bool} {q n : Nat} (hl : L.length = n) (h : q < n) : L.getD q false = L[q]'(by omega) := by simp [hl ▸ h]
theorem ext_p2 (t s w len : Nat) (g : Bool) (A : Aut) (u x : BV) (H : BH) (hu : Rd H 4 u (A.acc.map encB)) (hx : RdR H 65 3 x encN A.nxt) (hok : A.Ok w) (hw : 2 ≤ w) (hs : s < A.acc.length) (hn : A.acc.length ≤ 1000000) (hlen : len ≤ 1000000)
    (hc : countB A s len = true) (l0 : Nat) (hl0 : l0 = if g = true then 1 else 0) (e : Env) (K : BH) (hh : Ex1 base H t s len g A u x e K) :
    wpC base (Runs (gam base)) (ir47.body.tl 5) (fun x e' K => (x = .normal ∨ x = .ret) ∧ ∃ v, resOf ir47.results e' K = some v ∧ H.Keeps K ∧ v = encW (extW A s len l0)) e K := by
  obtain ⟨R, hR⟩ : ∃ R : BV → BH → Prop, R = fun v K => H.Keeps K ∧ v = encW (extW A s len l0) := ⟨_, rfl⟩
  have hR' : (fun (x : BExit) (e' : Env) (K : BH) => (x = .normal ∨ x = .ret) ∧ ∃ v, resOf ir47.results e' K = some v ∧ H.Keeps K ∧ v = encW (extW A s len l0)) = fun x e' K => (x = .normal ∨ x = .ret) ∧ ∃ v, resOf ir47.results e' K = some v ∧ R v K := by rw [hR]
  rw [hR']
  obtain ⟨n1, v8, wo, vs, fr, ⟨e1, e2, e3, e8, -⟩, o, hv8, hrows⟩ := hh
  simp only [] at e1 e2 e3 e8
  have hl02 : l0 < 2 := by rw [hl0]; split <;> omega
  have c1 : (A.acc.length : Int) ≤ 140737488355328 := by omega
  have hvl := hrows.len
  rw [rchs_len] at hvl
  have r2 := rd_ptr (o.at 1 (b := n1) rfl) (rt := none) (j := 2) (c := u) rfl rfl
  obtain ⟨Y, hY⟩ : ∃ Y : Env → BH → Prop, Y = fun e K => ∃ nl eo v13, Has e [(1, encN len), (2, .bool g), (3, .ptr n1 0), (8, v8), (13, v13), (14, .sl nl 0 2)] ∧ Vec eo v13 A.acc.length ∧
      Own base H K ([(eo, .arr 4 (A.acc.map encB)), (wo, .arr 22 vs), (some n1, .arr 62 [encN t, encN s, u, x]), (some nl, .arr 3 ((ltrs l0).map encN))] ++ fr) := ⟨_, rfl⟩
  refine wpC_part 3 Y ?_ ?_
  · simp [ir47, BCode.tl, BCode.hd, e3, r2]
    refine (x_cloneB (base := base) A.acc u K (hu.keeps o.keeps) hok.pos (by omega)).step fun v13 K2 k2 hv => ?_
    obtain ⟨eo, hv13, hfr⟩ := hv
    have o2 := o.take k2 hv13 hfr
    have hv13' : Vec eo v13 A.acc.length := by simpa using hv13.vec
    simp
    intro n14 b14 f14
    simp [make_of f14 b14, e2]
    have o3 := o2.new f14 b14 (s := .arr 3 [.int .i64 0, .int .i64 1])
    cases g with
    | false =>
      simp at hl0
      subst hl0
      simp
      rw [hY]
      refine ⟨n14, eo, v13, by simp [e1, e2, e3, e8], hv13', o3.perm ?_⟩
      refine List.Perm.trans (List.perm_middle (l₁ := [(eo, BSt.arr 4 (A.acc.map encB)), (wo, .arr 22 vs), (some n1, .arr 62 [encN t, encN s, u, x])]) (a := (some n14, BSt.arr 3 ([0, 1].map encN))) (l₂ := fr)) ?_
      exact List.Perm.refl _
    | true =>
      simp at hl0
      subst hl0
      simp
      intro n15 b15 f15
      simp [make_of f15 b15]
      have o4 := o3.new f15 b15 (s := .arr 3 [.int .i64 1, .int .i64 0])
      have o5 := o4.sub (M := (some n15, .arr 3 [.int .i64 1, .int .i64 0]) :: (eo, .arr 4 (A.acc.map encB)) :: ([(wo, .arr 22 vs), (some n1, .arr 62 [encN t, encN s, u, x])] ++ fr)) (List.Sublist.cons_cons _ (List.sublist_cons_self _ _))
      rw [hY]
      refine ⟨n15, eo, v13, by simp [e1, e2, e3, e8], hv13', o5.perm ?_⟩
      refine List.Perm.trans (List.perm_middle (l₁ := [(eo, BSt.arr 4 (A.acc.map encB)), (wo, .arr 22 vs), (some n1, .arr 62 [encN t, encN s, u, x])]) (a := (some n15, BSt.arr 3 ([1, 0].map encN))) (l₂ := fr)) ?_
      exact List.Perm.refl _
  clear o e1 e2 e3 e8 r2
  intro e K hh
  rw [hY] at hh
  obtain ⟨nl, eo, v13, ⟨e1, e2, e3, e8, e13, e14, -⟩, hv13', o⟩ := hh
  simp only [] at e1 e2 e3 e8 e13 e14
  simp [ir47, BCode.tl, e1]
  obtain ⟨J, hJ⟩ : ∃ J : Nat → Env → BH → Prop, J = (fun d e K => e 16 = encN (len - d) ∧ e 15 = .str (strL (extD A s len l0 d)) ∧ ∃ v13 eo, e 13 = v13 ∧ Vec eo v13 A.acc.length ∧
    Own base H K ([(eo, .arr 4 ((endI A s len l0 d).map encB)), (wo, .arr 22 vs), (some n1, .arr 62 [encN t, encN s, u, x]), (some nl, .arr 3 ((ltrs l0).map encN))] ++ fr)) := ⟨_, rfl⟩
  refine wpC_countK len [(1, encN len), (2, .bool g), (3, .ptr n1 0), (8, v8), (14, .sl nl 0 2)] J (i0 := 0) rfl ?_ ?_ (Nat.zero_le _) ?_
  · simp [e1, e2, e3, e8, e14]
  · rw [hJ]
    exact ⟨by simp, by simp [extD, strL], v13, eo, by simp [e13], hv13', by simpa [endI] using o⟩
  clear o e1 e2 e3 e8 e13 e14 hv13' v13 eo
  rintro d e K hd ⟨e1, e2, e3, e8, e14, -⟩ hh
  rw [hJ] at hh
  obtain ⟨e16, e15, v13, eo, e13, hv13, o⟩ := hh
  simp only [] at e1 e2 e3 e8 e14
  by_cases hlt : d < len
  · have hpos : 0 < len - d := by omega
    obtain ⟨D, hD⟩ : ∃ D, D = len - 1 - d := ⟨_, rfl⟩
    have hD' : len - (d + 1) = D := by omega
    have wd1 : IntKind.i64.wrap (((len - d : Nat) : Int) - 1) = ((D : Nat) : Int) := by rw [← hD']; exact wP (by omega) hlt
    obtain ⟨F, hF⟩ : ∃ F, F = reachB A s D := ⟨_, rfl⟩
    obtain ⟨T, hT⟩ : ∃ T, T = endI A s len l0 d := ⟨_, rfl⟩
    have hFl : F.length = A.acc.length := by rw [hF]; exact reachB_len _ _ _
    have hTl : T.length = A.acc.length := by rw [hT]; exact endI_len _ _ _ _ _
    have hbT : ∀ l, l < 2 → befB A F T l = befB A (reachB A s (len - 1 - d)) (endB A s len l0 d) l := fun l hl => by rw [hF, hT, hD]; exact bef_endI hok hw hs hl hlt
    rw [← hT] at o
    have hidx : D < vs.length := by omega
    obtain ⟨uo, hfr, huv⟩ := hrows.get (i := D) (u := vs[D]) (by simp [hidx]) (rchs_get (by omega))
    rw [← hF] at hfr huv
    obtain ⟨uF, huF⟩ : ∃ uF, uF = vs[D] := ⟨_, rfl⟩
    have huv' : Vec uo uF A.acc.length := by rw [huF]; simpa [hFl] using huv
    simp [e14, e16, hpos]
    obtain ⟨G, hG⟩ : ∃ G : Nat → Env → BH → Prop, G = (fun j e K => e 88 = encN j ∧ (∀ i, i < j → anyB (befB A F T ((ltrs l0).getD i 0)) = false) ∧ e 15 = .str (strL (extD A s len l0 d)) ∧
      Own base H K ([(eo, .arr 4 (T.map encB)), (wo, .arr 22 vs), (some n1, .arr 62 [encN t, encN s, u, x]), (some nl, .arr 3 ((ltrs l0).map encN))] ++ fr)) := ⟨_, rfl⟩
    refine wpC_countK 2 [(1, encN len), (2, .bool g), (3, .ptr n1 0), (8, v8), (14, .sl nl 0 2), (16, encN (len - d)), (86, .sl nl 0 2), (87, encN 2)] (fun j e K => G j e K ∧ e 13 = v13) (i0 := 0) rfl ?_ ?_ (Nat.zero_le _) ?_
    · simp [e1, e2, e3, e8, e14, e16]
    · rw [hG]
      exact ⟨⟨by simp, fun i hi => by omega, by simp [e15], o⟩, by simp [e13]⟩
    clear o e1 e2 e3 e8 e13 e14 e15 e16
    rintro j e K hj ⟨e1, e2, e3, e8, e14, e16, e86, e87, -⟩ ⟨hh, e13⟩
    rw [hG] at hh
    obtain ⟨e88, hno, e15, o⟩ := hh
    simp only [] at e1 e2 e3 e8 e14 e16 e86 e87
    by_cases hj2 : j < 2
    · obtain ⟨l, hl⟩ : ∃ l, l = (ltrs l0).getD j 0 := ⟨_, rfl⟩
      have hl2 : l < 2 := by
        have : j = 0 ∨ j = 1 := by omega
        rcases this with rfl | rfl <;> simp [ltrs] at hl <;> omega
      have hjl : (ltrs l0)[j]'(by simpa [ltrs] using hj2) = l := by
        rw [hl, List.getD_eq_getElem?_getD, List.getElem?_eq_getElem (by simpa [ltrs] using hj2)]
        rfl
      have wj := wS (n := j) (by omega)
      have hj2' : (j : Int) < 2 := by omega
      have rl1 := rd_ptr (o.at 3 (b := nl) rfl) (rt := none) (j := j) (c := encN l) rfl (by rw [List.getElem?_map, List.getElem?_eq_getElem (by simpa [ltrs] using hj2), hjl]; rfl)
      have s13 := hv13.isSl
      have l13 := hv13.len
      simp [e86, e87, e88, hj2, hj2', rl1, e13, s13, l13, c1]
      intro n19 b19 f19
      simp [make_of f19 b19]
      have o5 := o.new f19 b19 (s := .arr 4 (List.replicate A.acc.length (.bool false)))
      have r8 := (o5.rd 2 rfl hv8).get (i := D) hidx (rt := none) rfl
      have s8 := (o5.rd 2 rfl hv8).isSl
      have l8 := (o5.rd 2 rfl hv8).len
      rw [← huF] at r8
      have hidx' : ((D : Nat) : Int) < (vs.length : Int) := by omega
      simp [e8, e16, wd1, s8, l8, hidx, hidx', r8, huv'.isSl, huv'.len]
      obtain ⟨P, hP⟩ : ∃ P : Nat → Env → BH → Prop, P = (fun q e K => e 101 = encN q ∧ e 20 = .bool (someP A F T l q) ∧ Own base H K ((some n19, .arr 4 ((befP A F T l q).map encB)) :: ([(eo, .arr 4 (T.map encB)), (wo, .arr 22 vs), (some n1, .arr 62 [encN t, encN s, u, x]), (some nl, .arr 3 ((ltrs l0).map encN))] ++ fr))) := ⟨_, rfl⟩
      refine wpC_countK A.acc.length [(1, encN len), (2, .bool g), (3, .ptr n1 0), (8, v8), (13, v13), (14, .sl nl 0 2), (15, .str (strL (extD A s len l0 d))), (16, encN (len - d)), (18, encN l), (19, .sl n19 0 A.acc.length), (86, .sl nl 0 2), (87, encN 2), (88, encN j), (99, uF), (100, encN A.acc.length)] P (i0 := 0) rfl ?_ ?_ (Nat.zero_le _) ?_
      · simp [e1, e2, e3, e8, e13, e14, e15, e16, e86, e87, e88]
      · rw [hP]
        refine ⟨by simp, by simp [someP], ?_⟩
        rw [befP_zero, ← replB]
        exact o5
      clear o5 o r8 s8 l8 e1 e2 e3 e8 e13 e14 e15 e16 e86 e87 e88 rl1
      rintro q e K hq ⟨e1, e2, e3, e8, e13, e14, e15, e16, e18, e19, e86, e87, e88, e99, e100, -⟩ hh
      rw [hP] at hh
      obtain ⟨e101, e20, o⟩ := hh
      simp only [] at e1 e2 e3 e8 e13 e14 e15 e16 e18 e19 e86 e87 e88 e99 e100
      have wq := wS (n := q) (by omega)
      by_cases hql : q < A.acc.length
      · have hui := o.rd (ty := 4) (5 + D) (by rw [show 5 + D = D + 1 + 1 + 1 + 1 + 1 by omega]; simpa using hfr) (by simpa [hFl] using huv')
        have g1 := hui.at (i := q) (by rw [hFl]; exact hql) (rt := none) rfl
        have hgd := getD_get hFl hql
        have hsu := someP_succ A F T l q
        cases hb : F[q]'(by rw [hFl]; exact hql) with
        | false =>
          rw [hb] at g1 hgd
          have hz : (F.getD q false && T.getD (A.to q l) false) = false := by rw [hgd]; rfl
          rw [hz, Bool.or_false] at hsu
          simp [e99, e100, e101, hql, huv'.isSl, huv'.len, g1, wq]
          rw [hP]
          exact ⟨by simp, by simp [hsu, e20], by rw [befP_skip hz]; exact o⟩
        | true =>
          rw [hb] at g1 hgd
          have hx' := hx.keeps o.keeps
          have r3 := rd_ptr (o.at 3 (b := n1) rfl) (rt := none) (j := 3) (c := x) rfl rfl
          have hlw : l < w := by omega
          obtain ⟨row, q1, q2, q3, q4⟩ := cellR hx' hok hql hlw
          have q1 := q1 none rfl
          have q4 := q4 none rfl
          have ht0 := hok.to hql hlw
          have g2 := (o.rd 1 rfl (by simpa [hTl] using hv13)).at (i := A.to q l) (by rw [hTl]; exact ht0) (rt := none) rfl
          have hgt := getD_get hTl ht0
          have hlw' : (l : Int) < (w : Int) := by omega
          have ht0' : ((A.to q l : Nat) : Int) < (A.acc.length : Int) := by omega
          cases hb2 : T[A.to q l]'(by rw [hTl]; exact ht0) with
          | false =>
            rw [hb2] at g2 hgt
            have hz : (F.getD q false && T.getD (A.to q l) false) = false := by rw [hgt, Bool.and_false]
            rw [hz, Bool.or_false] at hsu
            simp [e3, e13, e18, e99, e100, e101, hql, huv'.isSl, huv'.len, g1, r3, hx'.isSl, hx'.len, hok.len, q1, q2, q3, q4, hlw, hlw', ht0, ht0', hv13.isSl, hv13.len, g2, wq]
            rw [hP]
            exact ⟨by simp, by simp [hsu, e20], by rw [befP_skip hz]; exact o⟩
          | true =>
            rw [hb2] at g2 hgt
            have hz : (F.getD q false && T.getD (A.to q l) false) = true := by rw [hgd, hgt]; rfl
            rw [hz, Bool.or_true] at hsu
            obtain ⟨K5, g5, o5⟩ := o.put 0 (b := n19) rfl (j := q) (u := .bool true) (by simp [befP_len, hql]) rfl (rt := none) rfl
            simp [e3, e13, e18, e19, e99, e100, e101, hql, huv'.isSl, huv'.len, g1, r3, hx'.isSl, hx'.len, hok.len, q1, q2, q3, q4, hlw, hlw', ht0, ht0', hv13.isSl, hv13.len, g2, g5, wq]
            rw [hP]
            refine ⟨by simp, by simp [hsu], ?_⟩
            rw [← befP_set hql hz, List.map_set]
            exact o5
      · have hqe : q = A.acc.length := by omega
        subst hqe
        rw [someP_all] at e20
        rw [befP_all] at o
        have hbl := hbT l hl2
        cases hb : anyB (befB A F T l) with
        | false =>
          rw [hb] at e20
          simp [e20, e88, e100, e101, wj]
          rw [hG]
          refine ⟨⟨by simp, fun i hi => ?_, by simp [e15], o.tail⟩, by simp [e13]⟩
          by_cases hij : i = j
          · rw [hij, ← hl]; exact hb
          · exact hno i (by omega)
        | true =>
          rw [hb] at e20
          have w1 : IntKind.i64.wrap ((l : Int) + 1) = ((l + 1 : Nat) : Int) := wS (by omega)
          have hsz : (⟨#[97, 98]⟩ : ByteArray).size = 2 := rfl
          have hext := ab_letter l hl2
          have hno2 : ¬ (9223372036854775807 : Int) < ((strL [97 + l]).size : Int) + ((strL (extD A s len l0 d)).size : Int) := by
            rw [strL_size, strL_size, extD_len]
            simp
            omega
          simp [e18, e19, e20, e15, e16, e100, e101, w1, hsz, hext, wd1, hlt]
          rw [if_pos (show (0 : Int) ≤ (l : Int) + 1 by omega)]
          simp [show l + 1 ≤ 2 by omega, hext, hno2, e15, e16, e19, wd1, hlt]
          -- the states and the letter
          have hend : endB A s len l0 (d + 1) = befB A F T l ∧ letB A s len l0 d = l := by
            have : j = 0 ∨ j = 1 := by omega
            rcases this with rfl | rfl
            · have hll : l = l0 := by simpa [ltrs] using hl
              rw [hll] at hb hbl ⊢
              rw [hbl] at hb ⊢
              exact ⟨by rw [endB, if_pos hb], by rw [letB, if_pos hb]⟩
            · have hll : l = 1 - l0 := by simpa [ltrs] using hl
              have h0 := hno 0 (by omega)
              have e0 : (ltrs l0).getD 0 0 = l0 := rfl
              rw [e0, hbT l0 hl02] at h0
              rw [hll] at hb hbl ⊢
              rw [hbl] at hb ⊢
              exact ⟨by rw [endB, if_neg (by rw [h0]; simp)], by rw [letB, if_neg (by rw [h0]; simp)]⟩
          rw [hJ]
          refine ⟨by simp [hD'], ?_, .sl n19 0 A.acc.length, some n19, by simp, rfl, ?_⟩
          · simp [extD_succ, hend.2]
            exact strL_cons _ _
          · have hei : endI A s len l0 (d + 1) = befB A F T l := by unfold endI; rw [if_neg (by omega), hend.1]
            rw [hei]
            exact o.sub (List.Sublist.cons_cons _ (List.sublist_cons_self _ _))
    · have hje : j = 2 := by omega
      subst hje
      exfalso
      have h0 := hno 0 (by omega)
      have h1 := hno 1 (by omega)
      have e0 : (ltrs l0).getD 0 0 = l0 := rfl
      have e1' : (ltrs l0).getD 1 0 = 1 - l0 := rfl
      rw [e0, hbT l0 hl02] at h0
      rw [e1', hbT (1 - l0) (by omega)] at h1
      have := endB_any A hok hw hs hl02 hc (d := d + 1) (by omega)
      rw [endB, if_neg (by rw [h0]; simp), h1] at this
      cases this
  · have hde : d = len := by omega
    subst hde
    simp [e15, e16]
    rw [hR]
    refine ⟨o.keeps, ?_⟩
    rw [extD_all]
theorem i_extreme (t s w len : Nat) (g : Bool) (A : Aut) (m : BV) (H : BH) (h : RdM H t s A m) (hok : A.Ok w) (hw : 2 ≤ w) (hs : s < A.acc.length) (hn : A.acc.length ≤ 1000000) (hlen : len ≤ 1000000) (hc : countB A s len = true) :
    FnDoes (gam base) 47 [m, encN len, .bool g] H fun v _ => v = encW (extW A s len (if g = true then 1 else 0)) := by
  refine FnDoes.of (fn := ir47) rfl ?_
  obtain ⟨u, x, rfl, hu, hx⟩ := h
  refine wpC_part 5 (Ex1 base H t s len g A u x) (ext_p1 t s w len g A u x H hu hx hok hw hs hn hlen _) fun e K hh => ?_
  exact ext_p2 t s w len g A u x H hu hx hok hw hs hn hlen hc _ rfl e K hh
end Go.Proofs.YtcnkhkmapgbodaaDoor.W
end

section
namespace Go.Proofs.YtcnkhkmapgbodaaDoor.W
set_option linter.unusedVariables false
set_option linter.unusedSimpArgs false
open Go.B
variable {base : Nat}
attribute [local simp] wpC_skip wpC_region wpC_seq wpC_true wpC_false wpC_block wpC_exit wpC_ret wpO_nil wpO_n wpO_tt wpO_ff wpO_tf wpO_ft wpO_u wpS_mov wpS_pick wpS_build wpS_load wpS_store wpS_nilck wpS_bin wpS_beq wpS_isnil wpS_eqs wpS_not wpS_neg wpS_conv wpS_lea wpS_fld wpS_idx wpS_idxs wpS_slice wpS_sslice wpS_mkfn wpS_mset wpS_look wpS_ext wpS_len wpS_new wpS_box wpS_mk wpS_mkmap wpS_mksl wpS_app wpS_fn wpS_call after_some pthen_n pthen_x pthen_r pin BExit.outOf puto_some puto_none put_eq put_ne Opd.ev argEnv op1_mov op1_pick op1_new op1_box op1_load op1_nilck op1_bin op1_beq op1_not op1_neg op1_conv op1_lea op1_fld op1_len0 op1_len1 op1_idx op1_ext op1_build op1_mk op1_stw op1_mksl op1_eqs pureBin isShift resOf resVals val_tmp val_cell oneOf one_int cells_int one_bool cells_bool one_str cells_str one_nilp cells_nilp one_ptr cells_ptr one_nils cells_nils one_sl cells_sl one_sle cells_sle one_nilm cells_nilm one_mp cells_mp one_nilf cells_nilf one_fn cells_fn one_nili cells_nili cells_agg isSl_sl slen_sl sat_sl make_of asm rtOk wpS_b2s op1_b2s wpS_imax op1_imax wpS_imin op1_imin wpS_i2s op1_i2s op1_isnil Option.map_some gam_base op1_app op1_idxs wpS_idxa op1_idxa op1_sslice bound_none bound_some nat_of op1_mkmap op1_mset op1_look op1_len2 op1_mkfn Go.B.fillB Has
open Go.Au
def numW (w : List Nat) : Nat := w.foldr (fun b a => 2 * a + (b - 97)) 0
theorem numW_drop {w : List Nat} {i : Nat} (h : i < w.length) : numW (w.drop i) = 2 * numW (w.drop (i + 1)) + (w[i] - 97) := by
  rw [List.drop_eq_getElem_cons h]
  rfl
theorem numW_lt : ∀ {w : List Nat}, IsW w → numW w < 2 ^ w.length
  | [], _ => by simp [numW]
  | b :: w, h => by
    have h1 := numW_lt (w := w) fun x hx => h x (List.mem_cons_of_mem _ hx)
    have h2 := h b List.mem_cons_self
    simp only [List.length_cons, Nat.pow_succ]
    show 2 * numW w + (b - 97) < _
    omega
theorem i_wordNumber (w : List Nat) (H : BH) (hw : IsW w) (hl : w.length ≤ 60) : Runs (gam base) 72 [encW w] H (encN (numW w)) H := by
  refine runs_of (fn := ir72) rfl ?_
  have w0 := wsub1 (n := w.length) (by omega)
  simp [ir72, strL_size, w0]
  refine wpC_countK w.length [(0, encW w)] (fun i e K => e 3 = encN (numW (w.drop (w.length - i))) ∧ e 4 = .int .i64 ((w.length : Int) - 1 - i) ∧ K = H) (i0 := 0) rfl ?_ ?_ (Nat.zero_le _) ?_
  · simp
  · simp [numW]
  rintro i e K hi ⟨e0, -⟩ ⟨e3, e4, rfl⟩
  simp only [] at e0
  by_cases hlt : i < w.length
  · obtain ⟨j, hjj⟩ : ∃ j, j = w.length - (i + 1) := ⟨_, rfl⟩
    have hj : w.length - i = j + 1 := by omega
    have hjl : j < w.length := by omega
    have c1 := numW_drop hjl
    have c2 := numW_lt (w := w.drop (j + 1)) fun x hx => hw x (List.mem_of_mem_drop hx)
    have c3 : 2 ^ (w.drop (j + 1)).length ≤ 2 ^ 60 := Nat.pow_le_pow_right (by omega) (by simp; omega)
    have hd := hw.get hjl
    rw [hj] at e3
    rw [show ((w.length : Int) - 1 - i) = (j : Int) by omega] at e4
    have g3 := let_mod hd
    have g4 := let_sub hd
    have w1 : IntKind.i64.wrap (2 * ((numW (w.drop (j + 1)) : Nat) : Int)) = ((2 * numW (w.drop (j + 1)) : Nat) : Int) := by rw [w64 (by omega) (by omega)]; simp
    have w2 : IntKind.i64.wrap (2 * ((numW (w.drop (j + 1)) : Nat) : Int) + ((w[j] - 97 : Nat) : Int)) = ((numW (w.drop j) : Nat) : Int) := by rw [w64 (by omega) (by omega), c1]; simp
    have w4 := wsub1 (n := j) (by omega)
    simp [e0, e3, e4, hjl, strL_size, str_getE, g3, g4, w1, w4, hlt]
    refine ⟨?_, by omega⟩
    subst hjj
    exact w2
  · have hie : i = w.length := by omega
    subst hie
    rw [show ((w.length : Int) - 1 - (w.length : Nat)) = -1 by omega] at e4
    simp [e3, e4]

theorem s_number (w : List Nat) (H : BH) (hw : IsW w) (hl : w.length ≤ 60) : Runs (gam base) 70 [encW w] H (encN (numW w)) H := by
  refine runs_of (fn := ir70) rfl ?_
  have w0 := wsub1 (n := w.length) (by omega)
  simp [ir70, strL_size, w0]
  refine wpC_countK w.length [(0, encW w)] (fun i e K => e 3 = encN (numW (w.drop (w.length - i))) ∧ e 4 = .int .i64 ((w.length : Int) - 1 - i) ∧ K = H) (i0 := 0) rfl ?_ ?_ (Nat.zero_le _) ?_
  · simp
  · simp [numW]
  rintro i e K hi ⟨e0, -⟩ ⟨e3, e4, rfl⟩
  simp only [] at e0
  by_cases hlt : i < w.length
  · obtain ⟨j, hjj⟩ : ∃ j, j = w.length - (i + 1) := ⟨_, rfl⟩
    have hj : w.length - i = j + 1 := by omega
    have hjl : j < w.length := by omega
    have c1 := numW_drop hjl
    have c2 := numW_lt (w := w.drop (j + 1)) fun x hx => hw x (List.mem_of_mem_drop hx)
    have c3 : 2 ^ (w.drop (j + 1)).length ≤ 2 ^ 60 := Nat.pow_le_pow_right (by omega) (by simp; omega)
    have hd := hw.get hjl
    rw [hj] at e3
    rw [show ((w.length : Int) - 1 - i) = (j : Int) by omega] at e4
    have g3 := let_mod hd
    have g4 := let_sub hd
    have w1 : IntKind.i64.wrap (2 * ((numW (w.drop (j + 1)) : Nat) : Int)) = ((2 * numW (w.drop (j + 1)) : Nat) : Int) := by rw [w64 (by omega) (by omega)]; simp
    have w2 : IntKind.i64.wrap (2 * ((numW (w.drop (j + 1)) : Nat) : Int) + ((w[j] - 97 : Nat) : Int)) = ((numW (w.drop j) : Nat) : Int) := by rw [w64 (by omega) (by omega), c1]; simp
    have w4 := wsub1 (n := j) (by omega)
    simp [e0, e3, e4, hjl, strL_size, str_getE, g3, g4, w1, w4, hlt]
    refine ⟨?_, by omega⟩
    subst hjj
    exact w2
  · have hie : i = w.length := by omega
    subst hie
    rw [show ((w.length : Int) - 1 - (w.length : Nat)) = -1 by omega] at e4
    simp [e3, e4]

/-- What is told of a word of a set. -/
def numA (w : List Nat) : Nat × Nat := if 40 < w.length then (0, 3) else if numW w ≤ 1000000000 then (numW w, 0) else (0, 2)
theorem i_isNumber (n : Int) (H : BH) : Runs (gam base) 49 [.int .i64 n] H (.bool (inB n 0 1000000000)) H := by
  refine runs_of (fn := ir49) rfl ?_
  simp [ir49]
  refine callP (i_within n 0 1000000000 H) ?_
  simp
theorem i_numberOf (w : List Nat) (H : BH) (hw : IsW w) (hl : w.length ≤ 1000000) : Runs (gam base) 46 [encW w] H (.tup [encN (numA w).1, encN (numA w).2]) H := by
  refine runs_of (fn := ir46) rfl ?_
  by_cases h : 40 < w.length
  · have h' : (40 : Int) < (w.length : Int) := by omega
    simp [ir46, strL_size, h, h', numA]
  · have h' : ¬ (40 : Int) < (w.length : Int) := by omega
    simp [ir46, strL_size, h, h']
    refine callP (i_wordNumber w H hw (by omega)) ?_
    simp
    refine callP (i_isNumber _ H) ?_
    by_cases h2 : numW w ≤ 1000000000
    · have : inB (numW w : Int) 0 1000000000 = true := by simp [inB]; omega
      rw [this]
      simp
      refine callP (i_wordNumber w H hw (by omega)) ?_
      simp [numA, h, h2]
    · have : inB (numW w : Int) 0 1000000000 = false := by simp [inB]; omega
      rw [this]
      simp [numA, h, h2]
end Go.Proofs.YtcnkhkmapgbodaaDoor.W
end

section
namespace Go.Proofs.YtcnkhkmapgbodaaDoor.W
set_option linter.unusedVariables false
set_option linter.unusedSimpArgs false
open Go.B
variable {base : Nat}
attribute [local simp] wpC_skip wpC_region wpC_seq wpC_true wpC_false wpC_block wpC_exit wpC_ret wpO_nil wpO_n wpO_tt wpO_ff wpO_tf wpO_ft wpO_u wpS_mov wpS_pick wpS_build wpS_load wpS_store wpS_nilck wpS_bin wpS_beq wpS_isnil wpS_eqs wpS_not wpS_neg wpS_conv wpS_lea wpS_fld wpS_idx wpS_idxs wpS_slice wpS_sslice wpS_mkfn wpS_mset wpS_look wpS_ext wpS_len wpS_new wpS_box wpS_mk wpS_mkmap wpS_mksl wpS_app wpS_fn wpS_call after_some pthen_n pthen_x pthen_r pin BExit.outOf puto_some puto_none put_eq put_ne Opd.ev argEnv op1_mov op1_pick op1_new op1_box op1_load op1_nilck op1_bin op1_beq op1_not op1_neg op1_conv op1_lea op1_fld op1_len0 op1_len1 op1_idx op1_ext op1_build op1_mk op1_stw op1_mksl op1_eqs pureBin isShift resOf resVals val_tmp val_cell oneOf one_int cells_int one_bool cells_bool one_str cells_str one_nilp cells_nilp one_ptr cells_ptr one_nils cells_nils one_sl cells_sl one_sle cells_sle one_nilm cells_nilm one_mp cells_mp one_nilf cells_nilf one_fn cells_fn one_nili cells_nili cells_agg isSl_sl slen_sl sat_sl make_of asm rtOk wpS_b2s op1_b2s wpS_imax op1_imax wpS_imin op1_imin wpS_i2s op1_i2s op1_isnil Option.map_some gam_base op1_app op1_idxs wpS_idxa op1_idxa op1_sslice bound_none bound_some nat_of op1_mkmap op1_mset op1_look op1_len2 op1_mkfn Go.B.fillB Has
open Go.Au
theorem RdRs.one {K : BH} {r : Raw4} {n : Nat} {u x : BV} (h : RdRaw K r.1 r.2.1 r.2.2.1 r.2.2.2 (.agg [.int .i64 r.1, .int .i64 r.2.1, u, x])) (hr : K.row n = .arr 29 [.int .i64 r.1, .int .i64 r.2.1, u, x]) : RdRs K (.sl n 0 1) [r] := by
  refine ⟨[[.int .i64 r.1, .int .i64 r.2.1, u, x]], ⟨rfl, rfl, fun i y hi => ?_⟩, rfl, fun i c q hi hq => ?_⟩
  · have : i = 0 := by have := (List.getElem?_eq_some_iff.1 hi).1; simpa using this
    subst this
    simp at hi
    subst hi
    exact ⟨n, 0, _, rfl, hr, by simp, rfl⟩
  · have : i = 0 := by have := (List.getElem?_eq_some_iff.1 hi).1; simpa using this
    subst this
    simp at hi hq
    subst hi hq
    exact h
theorem sets_valid {r : Raw4} (h : setsN [r] = 0) : r.2.2.1.length ≤ 150 := by
  obtain ⟨s, A, e1, e2, e3, e4, hok, hs, hlen, hA, -⟩ := ns_elim h
  rw [e3]
  exact hlen
/-- What is told of the least number, of a tidy automaton. -/
def leastA (T : Aut) : Nat × Nat := if farZ T 2 0 < 0 then (0, 6) else numA (extW T 0 (farZ T 2 0).toNat 0)
noncomputable def tidyR (r : Raw4) : Aut := TA 1 ((autR r).lang r.2.1.toNat)
noncomputable def leastN (r : Raw4) : Nat × Nat := if setsN [r] ≠ 0 then (0, setsN [r]) else leastA (tidyR r)
theorem far_count {T : Aut} (hok : T.Ok 2) {d : Nat} (h : farZ T 2 0 = (d : Int)) : countB T 0 d = true ∧ d < T.acc.length := by
  have hp := hok.pos
  obtain ⟨h1, h2⟩ := (farZ_some hok hp d).1 h
  exact ⟨(countB_iff T hok (by omega) hp d).2 h1, least_lt hok hp h1 h2⟩
theorem i_LeastNumber (r : Raw4) (m : BV) (H : BH) (h : RdRaw H r.1 r.2.1 r.2.2.1 r.2.2.2 m) (hn : r.2.2.1.length ≤ 4611686018427387904) :
    FnDoes (gam base) 15 [m] H fun v _ => v = .tup [encN (leastN r).1, encN (leastN r).2] := by
  obtain ⟨R, hR⟩ : ∃ R : BV → BH → Prop, R = fun v _ => v = .tup [encN (leastN r).1, encN (leastN r).2] := ⟨_, rfl⟩
  rw [← hR]
  refine FnDoes.of (fn := ir15) rfl ?_
  have h' := h
  obtain ⟨u, x, rfl, hu, hx⟩ := h
  have u1 := hu.one
  have x1 := one_of_isSl hx.isSl
  simp [ir15, u1, x1]
  intro n1 b1 f1
  have o1 := Own.start (base := base) (H := H) |>.new f1 b1 (s := .arr 29 [.int .i64 r.1, .int .i64 r.2.1, u, x])
  have r1 := rd_all (o1.at 0 (b := n1) rfl) (n := 4) (rt := none) rfl rfl
  simp [make_of f1 b1, r1, u1, x1]
  intro n2 b2 f2
  have o2 := o1.new f2 b2 (s := .arr 29 [.int .i64 r.1, .int .i64 r.2.1, u, x])
  simp [make_of f2 b2]
  refine (i_checkSets (base := base) [r] (.sl n2 0 1) _ (RdRs.one (h'.keeps o2.keeps) (o2.at 0 rfl)) (by simp) (by simpa using hn)).step fun v K3 k3 hv => ?_
  subst hv
  have o3 := o2.call k3
  by_cases h0 : setsN [r] = 0
  case neg =>
    simp [sets_ne h0]
    rw [hR]
    refine ⟨o3.keeps, ?_⟩
    simp [leastN, h0]
  simp [h0]
  obtain ⟨s, A, e1, e2, e3, e4, hok, hs, hlen, hA, -⟩ := ns_elim h0
  have hrel : RdRel K3 1 s A (.agg [.int .i64 r.1, .int .i64 r.2.1, u, x]) := by
    have := h'.keeps o3.keeps
    rw [e1, e2, e3, e4] at this
    rw [e1, e2]
    exact this.rel
  have r3 := rd_all (o3.at 1 (b := n1) rfl) (n := 4) (rt := none) rfl rfl
  simp [r3]
  refine (i_tidyOf (base := base) 1 s (by omega) A _ K3 hrel hok hs (by omega)).step fun mm K4 k4 hm => ?_
  have o4 := o3.call k4
  obtain ⟨hT1, hT2⟩ := TA_spec (t := 1) (by omega) hok hs
  have hTo : (TA 1 (A.lang s)).Ok 2 := hT1.ok
  have htr : tidyR r = TA 1 (A.lang s) := by unfold tidyR; rw [hA, e2]; simp
  obtain ⟨T, hTe⟩ : ∃ T, T = TA 1 (A.lang s) := ⟨_, rfl⟩
  rw [← hTe] at hm hTo htr hT2
  have hTp := hTo.pos
  obtain ⟨mu, mw, hme, hmu, hmw⟩ := hm.rd
  subst hme
  have mu1 := hmu.one
  have mw1 := one_of_isSl hmw.isSl
  simp [mu1, mw1]
  intro n5 b5 f5
  obtain ⟨K5, g5, o5⟩ := (o4.new f5 b5 (s := .arr 62 [.int .i64 0, .int .i64 0, .nils, .nils])).putAll 0 (b := n5) (n := 4) (ds := [encN 1, encN 0, mu, mw]) rfl rfl rfl (by simp [mu1, mw1]) (rt := none) rfl
  obtain ⟨K5', g5', o5'⟩ := (Own.start (base := base) (H := K4) |>.new f5 b5 (s := .arr 62 [.int .i64 0, .int .i64 0, .nils, .nils])).putAll 0 (b := n5) (n := 4) (ds := [encN 1, encN 0, mu, mw]) rfl rfl rfl (by simp [mu1, mw1]) (rt := none) rfl
  rw [g5] at g5'
  cases g5'
  have hmm : RdM K5 1 0 T (.agg [encN 1, encN 0, mu, mw]) := (show RdM K4 1 0 T _ from ⟨mu, mw, rfl, hmu, hmw⟩).keeps o5'.keeps
  have r5 := rd_all (o5.at 0 (b := n5) rfl) (n := 4) (rt := none) rfl rfl
  have r6 := rd_ptr (o5.at 0 (b := n5) rfl) (rt := some 62) (j := 1) (c := encN 0) rfl rfl
  simp [make_of f5 b5, g5, r5, r6]
  refine (i_far (base := base) 1 0 2 T _ K5 hmm hTo (by omega) (by omega)).step fun fv K6 k6 hf => ?_
  obtain ⟨fo, hf, -⟩ := hf
  have hf' : Rd K6 3 fv (((List.range T.acc.length).map (farZ T 2)).map encI) := hf.rd
  have o6 := o5.call k6
  have g6 := hf'.at (i := 0) (by simpa using hTp) (rt := none) rfl
  simp at g6
  have hT0 : (0 : Int) < (T.acc.length : Int) := by omega
  have l6 : fv.slen = T.acc.length := by rw [hf'.lenM]; simp
  simp [hf'.isSl, l6, g6, hTp, hT0]
  by_cases hneg : farZ T 2 0 < 0
  · simp [hneg]
    rw [hR]
    refine ⟨o6.keeps, ?_⟩
    simp [leastN, h0, htr, leastA, hneg]
  obtain ⟨d, hd⟩ : ∃ d : Nat, farZ T 2 0 = (d : Int) := ⟨(farZ T 2 0).toNat, by omega⟩
  obtain ⟨hc, hdl⟩ := far_count hTo hd
  have r7 := rd_all (o6.at 0 (b := n5) rfl) (n := 4) (rt := none) rfl rfl
  have hd0 : ¬ (d : Int) < 0 := by omega
  simp [hd, hd0, r7]
  refine (i_extreme (base := base) 1 0 2 d false T _ K6 (hmm.keeps k6) hTo (by omega) hTp (by omega) (by omega) hc).step fun v K7 k7 hv => ?_
  subst hv
  have o7 := o6.call k7
  simp
  refine callP (i_numberOf (extW T 0 d 0) K7 (extW_w (by omega)) (by rw [extW_len]; omega)) ?_
  simp
  rw [hR]
  refine ⟨o7.keeps, ?_⟩
  have : leastN r = numA (extW T 0 d 0) := by simp [leastN, h0, htr, leastA, hd, hd0]
  rw [this]
end Go.Proofs.YtcnkhkmapgbodaaDoor.W
end

section
namespace Go.Proofs.YtcnkhkmapgbodaaDoor.W
set_option linter.unusedVariables false
set_option linter.unusedSimpArgs false
open Go.B
variable {base : Nat}
attribute [local simp] wpC_skip wpC_region wpC_seq wpC_true wpC_false wpC_block wpC_exit wpC_ret wpO_nil wpO_n wpO_tt wpO_ff wpO_tf wpO_ft wpO_u wpS_mov wpS_pick wpS_build wpS_load wpS_store wpS_nilck wpS_bin wpS_beq wpS_isnil wpS_eqs wpS_not wpS_neg wpS_conv wpS_lea wpS_fld wpS_idx wpS_idxs wpS_slice wpS_sslice wpS_mkfn wpS_mset wpS_look wpS_ext wpS_len wpS_new wpS_box wpS_mk wpS_mkmap wpS_mksl wpS_app wpS_fn wpS_call after_some pthen_n pthen_x pthen_r pin BExit.outOf puto_some puto_none put_eq put_ne Opd.ev argEnv op1_mov op1_pick op1_new op1_box op1_load op1_nilck op1_bin op1_beq op1_not op1_neg op1_conv op1_lea op1_fld op1_len0 op1_len1 op1_idx op1_ext op1_build op1_mk op1_stw op1_mksl op1_eqs pureBin isShift resOf resVals val_tmp val_cell oneOf one_int cells_int one_bool cells_bool one_str cells_str one_nilp cells_nilp one_ptr cells_ptr one_nils cells_nils one_sl cells_sl one_sle cells_sle one_nilm cells_nilm one_mp cells_mp one_nilf cells_nilf one_fn cells_fn one_nili cells_nili cells_agg isSl_sl slen_sl sat_sl make_of asm rtOk wpS_b2s op1_b2s wpS_imax op1_imax wpS_imin op1_imin wpS_i2s op1_i2s op1_isnil Option.map_some gam_base op1_app op1_idxs wpS_idxa op1_idxa op1_sslice bound_none bound_some nat_of op1_mkmap op1_mset op1_look op1_len2 op1_mkfn Go.B.fillB Has
open Go.Au
theorem s_Reached (t s w rb len : Nat) (A : Aut) (H : BH) (h : RdP H rb t s A) (hok : A.Ok w) (hw : 2 ≤ w) (hs : s < A.acc.length) (hn : A.acc.length ≤ 1000000) (hlen : len ≤ 1000000) :
    FnDoes (gam base) 96 [.ptr rb 0, encN len] H fun v K => ∃ wo vs fr, Own base H K ((wo, .arr 22 vs) :: fr) ∧ Vec wo v vs.length ∧ RowsOf 4 vs fr (rchs A s (len + 1)) := by
  obtain ⟨R, hR⟩ : ∃ R : BV → BH → Prop, R = fun v K => ∃ wo vs fr, Own base H K ((wo, .arr 22 vs) :: fr) ∧ Vec wo v vs.length ∧ RowsOf 4 vs fr (rchs A s (len + 1)) := ⟨_, rfl⟩
  rw [← hR]
  refine FnDoes.of (fn := ir96) rfl ?_
  obtain ⟨u, x, hr, hu, hx⟩ := id h
  have r2 := rd_ptr hr (rt := none) (j := 2) (c := u) rfl rfl
  have c1 : (A.acc.length : Int) ≤ 140737488355328 := by omega
  simp [ir96, r2, hu.isSl, hu.lenM, c1]
  intro n7 b7 f7
  have o2 := Own.start (base := base) (H := H) |>.new f7 b7 (s := .arr 4 (List.replicate A.acc.length (.bool false)))
  have r1 := rd_ptr (show (H.set n7 (.arr 4 (List.replicate A.acc.length (.bool false)))).row rb = _ by rw [o2.keeps rb (by rw [hr]; simp), hr]) (rt := none) (j := 1) (c := encN s) rfl rfl
  obtain ⟨K3, g3, o3⟩ := o2.put 0 (b := n7) rfl (j := s) (u := .bool true) (by simpa using hs) rfl (rt := none) rfl
  simp [make_of f7 b7, r1, hs, g3]
  intro n8 b8 f8
  simp [make_of f8 b8]
  have o4 := o3.new f8 b8 (s := .arr 22 [.sl n7 0 A.acc.length])
  have hz : (List.replicate A.acc.length (BV.bool false)).set s (.bool true) = (reachB A s 0).map encB := by
    rw [replB, ← reachB_zero A hs, List.map_set]
  have o5 : Own base H (K3.set n8 (.arr 22 [.sl n7 0 A.acc.length])) ([(some n8, .arr 22 [.sl n7 0 A.acc.length])] ++ [(some n7, .arr 4 ((reachB A s 0).map encB))]) := by
    rw [← hz]
    exact o4
  have hr0 : RowsOf 4 [.sl n7 0 A.acc.length] [(some n7, .arr 4 ((reachB A s 0).map encB))] (rchs A s 1) := ⟨rfl, by simp [Vec, reachB_len], trivial⟩
  obtain ⟨I, hI⟩ : ∃ I : Nat → Env → BH → Prop, I = (fun i e K => e 7 = encN i ∧ ∃ v5 v8 wo vs fr, e 5 = v5 ∧ e 6 = v8 ∧ vs[i]? = some v5 ∧ Own base H K ([(wo, .arr 22 vs)] ++ fr) ∧ Vec wo v8 vs.length ∧ RowsOf 4 vs fr (rchs A s (i + 1))) := ⟨_, rfl⟩
  refine wpC_countK len [(0, .ptr rb 0), (1, encN len)] I (i0 := 0) rfl ?_ ?_ (Nat.zero_le _) ?_
  · simp
  · rw [hI]
    exact ⟨by simp, _, _, _, _, _, by simp, by simp, rfl, o5, rfl, hr0⟩
  clear o2 o3 o4 o5 hr0 hz r1 r2 g3
  rintro i e K hi ⟨e0, e1, -⟩ hh
  rw [hI] at hh
  obtain ⟨e7, v5, v8, wo, vs, fr, e5, e6, hvi, o, hv8, hrows⟩ := hh
  simp only [] at e0 e1
  have wi := wS (n := i) (by omega)
  have hvl := hrows.len
  rw [rchs_len] at hvl
  by_cases hlt : i < len
  · obtain ⟨uo, hfr, huv⟩ := hrows.get hvi (rchs_get (by omega))
    have huv' : Vec uo v5 A.acc.length := by simpa [reachB_len] using huv
    have hrk : K.row rb = .arr 29 [encN t, encN s, u, x] := by rw [o.keeps rb (by rw [hr]; simp), hr]
    have r2 := rd_ptr hrk (rt := none) (j := 2) (c := u) rfl rfl
    simp [e0, e1, e7, hlt, r2, hu.isSl, hu.lenM, c1]
    intro n10 b10 f10
    simp [make_of f10 b10]
    have o6 := o.new f10 b10 (s := .arr 4 (List.replicate A.acc.length (.bool false)))
    obtain ⟨J, hJ⟩ : ∃ J : Nat → Env → BH → Prop, J = (fun q e K => e 9 = encN q ∧ Own base H K ((some n10, .arr 4 ((markB A (reachB A s i) q).map encB)) :: ([(wo, .arr 22 vs)] ++ fr))) := ⟨_, rfl⟩
    refine wpC_countK A.acc.length [(0, .ptr rb 0), (1, encN len), (5, v5), (6, v8), (7, encN i), (8, .sl n10 0 A.acc.length)] J (i0 := 0) rfl ?_ ?_ (Nat.zero_le _) ?_
    · simp [e0, e1, e5, e6, e7]
    · rw [hJ]
      refine ⟨by simp, ?_⟩
      rw [markB_zero, ← replB]
      exact o6
    clear o6 e0 e1 e5 e6 e7 r2 hrk
    rintro q e K hq ⟨e0, e1, e5, e6, e7, e8, -⟩ hh
    rw [hJ] at hh
    obtain ⟨e9, o⟩ := hh
    simp only [] at e0 e1 e5 e6 e7 e8
    have wq := wS (n := q) (by omega)
    by_cases hql : q < A.acc.length
    · have hui := o.rd (ty := 4) (2 + i) (by rw [show 2 + i = i + 1 + 1 by omega]; simpa using hfr) (by simpa [reachB_len] using huv')
      have g1 := hui.at (i := q) (by rw [reachB_len]; exact hql) (rt := none) rfl
      have hgd := getD_get (reachB_len A s i) hql
      cases hb : (reachB A s i)[q]'(by rw [reachB_len]; exact hql) with
      | false =>
        rw [hb] at g1 hgd
        simp [e5, e9, hql, huv'.isSl, huv'.len, g1, wq]
        rw [hJ]
        refine ⟨by simp, ?_⟩
        rw [markB_skip A hgd]
        exact o
      | true =>
        rw [hb] at g1 hgd
        have hw0 : 0 < w := by omega
        have hw1 : 1 < w := by omega
        have hw1' : (1 : Int) < (w : Int) := by omega
        have row1 : ∀ {K' : BH}, H.Keeps K' → K'.rd none none (.ptr rb 3) = some x ∧ ∃ row, K'.rd none none (x.sat q 1) = some row ∧ row.isSl = true ∧ row.slen = w ∧ K'.rd none none (row.sat 0 1) = some (encN (A.to q 0)) ∧ K'.rd none none (row.sat 1 1) = some (encN (A.to q 1)) := by
          intro K' hk
          obtain ⟨row, q1, q2, q3, q4⟩ := cellR (hx.keeps hk) hok hql hw0
          obtain ⟨row', q1', q2', q3', q4'⟩ := cellR (hx.keeps hk) hok hql hw1
          have q1 := q1 none rfl
          have q1' := q1' none rfl
          rw [q1] at q1'
          cases q1'
          exact ⟨rd_ptr (by rw [hk rb (by rw [hr]; simp), hr]) (rt := none) rfl rfl, row, q1, q2, q3, q4 none rfl, q4' none rfl⟩
        have ht0 := hok.to hql hw0
        have ht1 := hok.to hql hw1
        obtain ⟨K5, g5, o5⟩ := o.put 0 (b := n10) rfl (j := A.to q 0) (u := .bool true) (by simp [markB_len, ht0]) rfl (rt := none) rfl
        obtain ⟨K6, g6, o6⟩ := o5.put 0 (b := n10) rfl (j := A.to q 1) (u := .bool true) (by simp [markB_len, ht1]) rfl (rt := none) rfl
        obtain ⟨a3, row, a1, a2, a4, a5, a6⟩ := row1 o.keeps
        obtain ⟨b3, row', b1, b2, b4, b5, b6⟩ := row1 o5.keeps
        simp [e0, e5, e8, e9, hql, huv'.isSl, huv'.len, g1, wq, a3, hx.isSl, hx.len, hok.len, a1, a2, a4, a5, a6, b3, b1, b2, b4, b5, b6, hw0, hw1, hw1', ht0, ht1, g5, g6]
        rw [hJ]
        refine ⟨by simp, ?_⟩
        rw [← markB_step A hok hw hql hgd, List.map_set, List.map_set]
        simpa using o6
    · have hqe : q = A.acc.length := by omega
      subst hqe
      simp [e5, e6, e8, e9, huv'.isSl, huv'.len]
      intro n2 b2 f2
      simp [make_of f2 b2]
      intro n3 b3 f3
      obtain ⟨v', K', b', p1, p2, p3⟩ := o.push 1 rfl hv8 (x := .sl n10 0 A.acc.length) (bytes := 24) rfl (by omega) (by omega) f2 b2 f3 b3
      simp [p1, e7, e8, wi, hlt]
      rw [hI]
      refine ⟨by simp, .sl n10 0 A.acc.length, v', some b', vs ++ [.sl n10 0 A.acc.length], fr ++ [(some n10, .arr 4 ((reachB A s (i + 1)).map encB))], by simp, by simp, ?_, ?_, by simpa using p3, ?_⟩
      · rw [List.getElem?_append_right (by omega)]
        simp [hvl.1]
      · have p2' : Own base H K' ((some n10, .arr 4 ((reachB A s (i + 1)).map encB)) :: ([(some b', .arr 22 (vs ++ [.sl n10 0 A.acc.length]))] ++ fr)) := p2
        exact p2'.last
      · rw [rchs_succ A s (i + 1)]
        exact RowsOf.snoc (by simp [Vec, reachB_len]) hrows
  · have hie : i = len := by omega
    subst hie
    simp [e1, e6, e7]
    rw [hR]
    exact ⟨o.keeps, wo, vs, fr, o, hv8, hrows⟩
theorem rows_rd {H K : BH} {wo : Option Nat} {vs : List BV} {fr : List Sl} {v : BV} {A : Aut} {s n : Nat} (o : Own base H K ((wo, .arr 22 vs) :: fr)) (hv : Vec wo v vs.length) (hr : RowsOf 4 vs fr (rchs A s n)) : RdR K 22 4 v encB ((List.range n).map (reachB A s)) := by
  refine RowsOf.rdR (F := [(wo, .arr 22 vs)]) (bo := wo) o ?_ (o.rd 0 rfl hv)
  rw [List.map_map]
  exact hr
theorem s_Count (t s w rb len : Nat) (A : Aut) (H : BH) (h : RdP H rb t s A) (hok : A.Ok w) (hw : 2 ≤ w) (hs : s < A.acc.length) (hn : A.acc.length ≤ 1000000) (hlen : len ≤ 1000000) :
    FnDoes (gam base) 95 [.ptr rb 0, encN len] H fun v _ => v = encN (if countB A s len = true then 1 else 0) := by
  obtain ⟨R, hR⟩ : ∃ R : BV → BH → Prop, R = fun v _ => v = encN (if countB A s len = true then 1 else 0) := ⟨_, rfl⟩
  rw [← hR]
  refine FnDoes.of (fn := ir95) rfl ?_
  simp [ir95]
  refine (s_Reached (base := base) t s w rb len A H h hok hw hs hn hlen).step fun v K k hv => ?_
  obtain ⟨wo, vs, fr, o, hv', hrows⟩ := hv
  have hrr := rows_rd o hv' hrows
  obtain ⟨u, x, hr, hu, hx⟩ := h.keeps k
  have r2 := rd_ptr hr (rt := none) (j := 2) (c := u) rfl rfl
  have hlr : len < ((List.range (len + 1)).map (reachB A s)).length := by simp
  obtain ⟨row, q1, q2⟩ := hrr.at hlr
  have q2 := q2 none rfl
  have q1' : Rd K 4 row ((reachB A s len).map encB) := by simpa using q1
  have l1 : v.slen = len + 1 := by rw [hrr.len]; simp
  simp
  obtain ⟨I, hI⟩ : ∃ I : Nat → Env → BH → Prop, I = (fun i e K' => e 6 = encN i ∧ (∀ q, q < i → (A.acc.getD q false && (reachB A s len).getD q false) = false) ∧ K' = K) := ⟨_, rfl⟩
  refine wpC_countK A.acc.length [(0, .ptr rb 0), (1, encN len), (5, v)] I (i0 := 0) rfl ?_ ?_ (Nat.zero_le _) ?_
  · simp
  · rw [hI]; exact ⟨by simp, fun q hq => by omega, rfl⟩
  rintro i e K' hi ⟨e0, e1, e5, -⟩ hh
  rw [hI] at hh
  obtain ⟨e6, hno, rfl⟩ := hh
  simp only [] at e0 e1 e5
  have wi := wS (n := i) (by omega)
  have hl1 : (len : Int) < (len : Int) + 1 := by omega
  by_cases hlt : i < A.acc.length
  · have g1 := hu.at (i := i) hlt (rt := none) rfl
    have g2 := q1'.at (i := i) (by rw [reachB_len]; exact hlt) (rt := none) rfl
    have d1 := getD_get (L := A.acc) rfl hlt
    have d2 := getD_get (reachB_len A s len) hlt
    have hil : ((i : Nat) : Int) < (A.acc.length : Int) := by omega
    have more : (A.acc.getD i false && (reachB A s len).getD i false) = false → ∀ q, q < i + 1 → (A.acc.getD q false && (reachB A s len).getD q false) = false := fun hh q hq => by
      by_cases hqi : q = i
      · rw [hqi]; exact hh
      · exact hno q (by omega)
    cases ha : A.acc[i] with
    | false =>
      rw [ha] at g1 d1
      simp [e0, e6, r2, hu.isSl, hu.lenM, hlt, hil, g1, wi]
      rw [hI]
      exact ⟨by simp, more (by rw [d1]; rfl), rfl⟩
    | true =>
      rw [ha] at g1 d1
      cases hb : (reachB A s len)[i]'(by rw [reachB_len]; exact hlt) with
      | false =>
        rw [hb] at g2 d2
        simp [e0, e1, e5, e6, r2, hu.isSl, hu.lenM, hlt, hil, g1, hrr.isSl, l1, hl1, q2, q1'.isSl, q1'.lenM, reachB_len, g2, wi]
        rw [hI]
        exact ⟨by simp, more (by rw [d2, Bool.and_false]), rfl⟩
      | true =>
        rw [hb] at g2 d2
        simp [e0, e1, e5, e6, r2, hu.isSl, hu.lenM, hlt, hil, g1, hrr.isSl, l1, hl1, q2, q1'.isSl, q1'.lenM, reachB_len, g2]
        rw [hR]
        have hc : countB A s len = true := by
          unfold countB
          simp only [List.any_eq_true, List.mem_range]
          exact ⟨i, hlt, by rw [d1, d2]; rfl⟩
        exact ⟨k, by rw [if_pos hc]; rfl⟩
  · have hie : i = A.acc.length := by omega
    subst hie
    simp [e0, e6, r2, hu.isSl, hu.lenM]
    rw [hR]
    have hc : ¬ countB A s len = true := by
      unfold countB
      simp only [List.any_eq_true, List.mem_range]
      rintro ⟨q, hq, hh⟩
      rw [hno q hq] at hh
      cases hh
    exact ⟨k, by rw [if_neg hc]; rfl⟩
theorem s_Any (L : List Bool) (v : BV) (H : BH) (h : Rd H 4 v (L.map encB)) (hn : L.length ≤ 1000000) : Runs (gam base) 98 [v] H (.bool (anyB L)) H := by
  refine runs_of (fn := ir98) rfl ?_
  simp [ir98]
  obtain ⟨I, hI⟩ : ∃ I : Nat → Env → BH → Prop, I = (fun i e K' => e 3 = encN i ∧ (∀ q, q < i → L.getD q false = false) ∧ K' = H) := ⟨_, rfl⟩
  refine wpC_countK L.length [(0, v)] I (i0 := 0) rfl ?_ ?_ (Nat.zero_le _) ?_
  · simp
  · rw [hI]; exact ⟨by simp, fun q hq => by omega, rfl⟩
  rintro i e K' hi ⟨e0, -⟩ hh
  rw [hI] at hh
  obtain ⟨e3, hno, rfl⟩ := hh
  simp only [] at e0
  have wi := wS (n := i) (by omega)
  by_cases hlt : i < L.length
  · have g1 := h.at (i := i) hlt (rt := none) rfl
    have d1 := getD_get (L := L) rfl hlt
    cases ha : L[i] with
    | false =>
      rw [ha] at g1 d1
      simp [e0, e3, h.isSl, h.lenM, hlt, g1, wi]
      rw [hI]
      refine ⟨by simp, fun q hq => ?_, rfl⟩
      by_cases hqi : q = i
      · rw [hqi]; exact d1
      · exact hno q (by omega)
    | true =>
      rw [ha] at g1 d1
      simp [e0, e3, h.isSl, h.lenM, hlt, g1]
      exact (anyB_iff.2 ⟨i, hlt, d1⟩)
  · have hie : i = L.length := by omega
    subst hie
    simp [e0, e3, h.isSl, h.lenM]
    have : ¬ anyB L = true := fun hh => by
      obtain ⟨q, hq, h1⟩ := anyB_iff.1 hh
      rw [hno q hq] at h1
      cases h1
    simpa using this
theorem s_Before (t s w rb l : Nat) (A : Aut) (F T : List Bool) (fv tv : BV) (H : BH) (h : RdP H rb t s A) (hok : A.Ok w) (hl : l < w) (hF : Rd H 4 fv (F.map encB)) (hT : Rd H 4 tv (T.map encB)) (hFl : F.length = A.acc.length) (hTl : T.length = A.acc.length) (hn : A.acc.length ≤ 1000000) :
    FnDoes (gam base) 97 [.ptr rb 0, fv, tv, encN l] H fun v K => ∃ bo, OwnV base K 4 v ((befB A F T l).map encB) bo ∧ Fr H bo := by
  obtain ⟨R, hR⟩ : ∃ R : BV → BH → Prop, R = fun v K => ∃ bo, OwnV base K 4 v ((befB A F T l).map encB) bo ∧ Fr H bo := ⟨_, rfl⟩
  rw [← hR]
  refine FnDoes.of (fn := ir97) rfl ?_
  obtain ⟨u, x, hr, hu, hx⟩ := id h
  simp [ir97]
  intro n4 b4 f4
  have o0 := Own.start (base := base) (H := H) |>.new f4 b4 (s := .arr 4 [])
  simp [make_of f4 b4]
  obtain ⟨fb, hfb⟩ : ∃ fb : Nat → Bool, fb = fun q => F.getD q false && T.getD (A.to q l) false := ⟨_, rfl⟩
  obtain ⟨I, hI⟩ : ∃ I : Nat → Env → BH → Prop, I = (fun i e K => e 10 = encN i ∧ ∃ v9 bo, e 9 = v9 ∧ Own base H K [(bo, .arr 4 (((List.range i).map fb).map encB))] ∧ Vec bo v9 i) := ⟨_, rfl⟩
  refine wpC_countK A.acc.length [(0, .ptr rb 0), (1, fv), (2, tv), (3, encN l)] I (i0 := 0) rfl ?_ ?_ (Nat.zero_le _) ?_
  · simp
  · rw [hI]; exact ⟨by simp, .sl n4 0 0, some n4, by simp, by simpa using o0, rfl⟩
  clear o0
  rintro i e K hi ⟨e0, e1, e2, e3, -⟩ hh
  rw [hI] at hh
  obtain ⟨e10, v9, bo, e9, o, hv9⟩ := hh
  simp only [] at e0 e1 e2 e3
  have wi := wS (n := i) (by omega)
  have hF' := hF.keeps o.keeps
  have hT' := hT.keeps o.keeps
  have hx' := hx.keeps o.keeps
  by_cases hlt : i < A.acc.length
  · have g1 := hF'.at (i := i) (by rw [hFl]; exact hlt) (rt := none) rfl
    have d1 := getD_get hFl hlt
    have hrk : K.row rb = .arr 29 [encN t, encN s, u, x] := by rw [o.keeps rb (by rw [hr]; simp), hr]
    have r3 := rd_ptr hrk (rt := none) (j := 3) (c := x) rfl rfl
    obtain ⟨row, q1, q2, q3, q4⟩ := cellR hx' hok hlt hl
    have q1 := q1 none rfl
    have q4 := q4 none rfl
    have ht0 := hok.to hlt hl
    have g2 := hT'.at (i := A.to i l) (by rw [hTl]; exact ht0) (rt := none) rfl
    have d2 := getD_get hTl ht0
    have hll : (l : Int) < (w : Int) := by omega
    have ht0' : ((A.to i l : Nat) : Int) < (A.acc.length : Int) := by omega
    have hil' : ((i : Nat) : Int) < (A.acc.length : Int) := by omega
    have fin : ∀ (b : Bool), fb i = b → ∀ {n1 n2 : Nat} (f1 : K.row n1 = .fresh) (b1 : base ≤ n1) (f2 : (K.set n1 (.arr 4 [.bool b])).row n2 = .fresh) (b2 : base ≤ n2), ∃ v' K', (K.set n1 (.arr 4 [.bool b])).appd base n2 4 1 1 v9 (.sl n1 0 1) = some (v', K') ∧
        ∃ bo', Own base H K' [(bo', .arr 4 (((List.range (i + 1)).map fb).map encB))] ∧ Vec bo' v' (i + 1) := by
      intro b hb n1 n2 f1 b1 f2 b2
      obtain ⟨v', K', b', p1, p2, p3⟩ := o.push 0 rfl (by simpa using hv9) (x := .bool b) (bytes := 1) rfl (by simp; omega) (by simp; omega) f1 b1 f2 b2
      refine ⟨v', K', p1, some b', ?_, by simpa using p3⟩
      rw [List.range_succ, List.map_append, List.map_append]
      have : (List.map encB (List.map fb [i])) = [.bool b] := by simp [hb]
      rw [this]
      exact p2
    cases hb : F[i]'(by rw [hFl]; exact hlt) with
    | false =>
      rw [hb] at g1 d1
      have hfi : fb i = false := by rw [hfb]; simp only [d1, Bool.false_and]
      simp [e1, e10, e9, hF'.isSl, hF'.lenM, hFl, hlt, hil', g1]
      intro n1 b1 f1
      simp [make_of f1 b1]
      intro n2 b2 f2
      obtain ⟨v', K', p1, bo', p2, p3⟩ := fin false hfi f1 b1 f2 b2
      simp [p1, e10, wi, hlt]
      rw [hI]
      exact ⟨by simp, v', bo', by simp, p2, p3⟩
    | true =>
      rw [hb] at g1 d1
      cases hb2 : T[A.to i l]'(by rw [hTl]; exact ht0) with
      | false =>
        rw [hb2] at g2 d2
        have hfi : fb i = false := by rw [hfb]; simp only [d2, Bool.and_false]
        simp [e0, e1, e2, e3, e10, e9, hF'.isSl, hF'.lenM, hFl, hlt, hil', g1, r3, hx'.isSl, hx'.len, hok.len, q1, q2, q3, hl, hll, q4, hT'.isSl, hT'.lenM, hTl, ht0, ht0', g2]
        intro n1 b1 f1
        simp [make_of f1 b1]
        intro n2 b2 f2
        obtain ⟨v', K', p1, bo', p2, p3⟩ := fin false hfi f1 b1 f2 b2
        simp [p1, e10, wi, hlt]
        rw [hI]
        exact ⟨by simp, v', bo', by simp, p2, p3⟩
      | true =>
        rw [hb2] at g2 d2
        have hfi : fb i = true := by rw [hfb]; simp only [d1, d2, Bool.and_self]
        simp [e0, e1, e2, e3, e10, e9, hF'.isSl, hF'.lenM, hFl, hlt, hil', g1, r3, hx'.isSl, hx'.len, hok.len, q1, q2, q3, hl, hll, q4, hT'.isSl, hT'.lenM, hTl, ht0, ht0', g2]
        intro n1 b1 f1
        simp [make_of f1 b1]
        intro n2 b2 f2
        obtain ⟨v', K', p1, bo', p2, p3⟩ := fin true hfi f1 b1 f2 b2
        simp [p1, e10, wi, hlt]
        rw [hI]
        exact ⟨by simp, v', bo', by simp, p2, p3⟩
  · have hie : i = A.acc.length := by omega
    subst hie
    simp [e1, e9, e10, hF'.isSl, hF'.lenM, hFl]
    rw [hR]
    refine ⟨o.keeps, bo, o.vec 0 ?_ (by simpa [befB] using hv9), fun b hb => by subst hb; exact o.fr 0 rfl⟩
    rw [hfb]
    rfl
end Go.Proofs.YtcnkhkmapgbodaaDoor.W
end

section
namespace Go.Proofs.YtcnkhkmapgbodaaDoor.W
set_option linter.unusedVariables false
set_option linter.unusedSimpArgs false
open Go.B
variable {base : Nat}
attribute [local simp] wpC_skip wpC_region wpC_seq wpC_true wpC_false wpC_block wpC_exit wpC_ret wpO_nil wpO_n wpO_tt wpO_ff wpO_tf wpO_ft wpO_u wpS_mov wpS_pick wpS_build wpS_load wpS_store wpS_nilck wpS_bin wpS_beq wpS_isnil wpS_eqs wpS_not wpS_neg wpS_conv wpS_lea wpS_fld wpS_idx wpS_idxs wpS_slice wpS_sslice wpS_mkfn wpS_mset wpS_look wpS_ext wpS_len wpS_new wpS_box wpS_mk wpS_mkmap wpS_mksl wpS_app wpS_fn wpS_call after_some pthen_n pthen_x pthen_r pin BExit.outOf puto_some puto_none put_eq put_ne Opd.ev argEnv op1_mov op1_pick op1_new op1_box op1_load op1_nilck op1_bin op1_beq op1_not op1_neg op1_conv op1_lea op1_fld op1_len0 op1_len1 op1_idx op1_ext op1_build op1_mk op1_stw op1_mksl op1_eqs pureBin isShift resOf resVals val_tmp val_cell oneOf one_int cells_int one_bool cells_bool one_str cells_str one_nilp cells_nilp one_ptr cells_ptr one_nils cells_nils one_sl cells_sl one_sle cells_sle one_nilm cells_nilm one_mp cells_mp one_nilf cells_nilf one_fn cells_fn one_nili cells_nili cells_agg isSl_sl slen_sl sat_sl make_of asm rtOk wpS_b2s op1_b2s wpS_imax op1_imax wpS_imin op1_imin wpS_i2s op1_i2s op1_isnil Option.map_some gam_base op1_app op1_idxs wpS_idxa op1_idxa op1_sslice bound_none bound_some nat_of op1_mkmap op1_mset op1_look op1_len2 op1_mkfn Go.B.fillB Has
open Go.Au
theorem rd_keeps {H K : BH} (k : H.Keeps K) {rt n : Option Nat} {p v : BV} (h : H.rd rt n p = some v) : K.rd rt n p = some v := by
  cases p with
  | ptr b o =>
    have hne : H.row b ≠ .fresh := by
      intro he
      simp [BH.rd, he] at h
    have e : K.row b = H.row b := k b hne
    have : K.rd rt n (.ptr b o) = H.rd rt n (.ptr b o) := by simp only [BH.rd, e]
    rw [this, h]
  | _ => simp [BH.rd] at h
/-- Behind the length. -/
def En1 (H : BH) (rb len : Nat) (g : Bool) (e : Env) (K : BH) : Prop := Has e [(0, .ptr rb 0), (1, .bool g), (6, encN len)] ∧ H.Keeps K
theorem end_least (t s w rb d : Nat) (A : Aut) (H : BH) (h : RdP H rb t s A) (hok : A.Ok w) (hw : 2 ≤ w) (hs : s < A.acc.length) (hn : A.acc.length ≤ 1000000) (hd : d ≤ 1000000) (hc : countB A s d = true) (hno : ∀ k, k < d → countB A s k = false) (Q : Post) :
    wpC base (Runs (gam base)) (ir69.body.hd 3) (Post.then (En1 H rb d false) Q) (argEnv [.ptr rb 0, .bool false]) H := by
  obtain ⟨Z, hZ⟩ : ∃ Z : Env → BH → Prop, Z = En1 H rb d false := ⟨_, rfl⟩
  rw [← hZ]
  simp [ir69, BCode.hd]
  obtain ⟨I, hI⟩ : ∃ I : Nat → Env → BH → Prop, I = (fun i e K => e 6 = encN i ∧ H.Keeps K) := ⟨_, rfl⟩
  refine wpC_countK d [(0, .ptr rb 0), (1, .bool false)] I (i0 := 0) rfl ?_ ?_ (Nat.zero_le _) ?_
  · simp
  · rw [hI]; exact ⟨by simp, BH.Keeps.refl H⟩
  rintro i e K hi ⟨e0, e1, -⟩ hh
  rw [hI] at hh
  obtain ⟨e6, k⟩ := hh
  simp only [] at e0 e1
  have wi := wS (n := i) (by omega)
  simp [e0, e6]
  refine (s_Count (base := base) t s w rb i A K (h.keeps k) hok hw hs hn (by omega)).step fun v K2 k2 hv => ?_
  subst hv
  by_cases hlt : i < d
  · have hz := hno i hlt
    have hb : (((if countB A s i = true then 1 else 0 : Nat) : Int) == 0) = true := by rw [hz]; rfl
    simp [hz, e6, wi, hlt]
    rw [hI]
    exact ⟨by simp, k.trans k2⟩
  · have hie : i = d := by omega
    subst hie
    simp [hc]
    rw [hZ]
    exact ⟨by simp [e0, e1, e6], k.trans k2⟩
/-- The letters so far. -/
def arrD (A : Aut) (s len l0 d : Nat) : List Nat := List.replicate (len - d) 0 ++ extD A s len l0 d
theorem arrD_len {A : Aut} {s len l0 d : Nat} (h : d ≤ len) : (arrD A s len l0 d).length = len := by simp [arrD, extD_len]; omega
theorem arrD_set {A : Aut} {s len l0 d : Nat} (h : d < len) : (arrD A s len l0 d).set (len - 1 - d) (97 + letB A s len l0 d) = arrD A s len l0 (d + 1) := by
  unfold arrD
  rw [extD_succ, show len - d = len - 1 - d + 1 by omega, List.replicate_succ', show len - (d + 1) = len - 1 - d by omega, List.append_assoc]
  rw [List.set_append_right _ _ (by simp), List.length_replicate, Nat.sub_self]
  rfl
theorem arrD_all (A : Aut) (s len l0 : Nat) : arrD A s len l0 len = extW A s len l0 := by simp [arrD, extD_all]
abbrev encU (b : Nat) : BV := .int .u8 (b : Int)
theorem end_word (t s w rb len : Nat) (g : Bool) (A : Aut) (H : BH) (h : RdP H rb t s A) (hok : A.Ok w) (hw : 2 ≤ w) (hs : s < A.acc.length) (hn : A.acc.length ≤ 1000000) (hlen : len ≤ 1000000) (l0 : Nat) (hl0 : l0 = if g = true then 1 else 0)
    (e : Env) (K : BH) (hh : En1 H rb len g e K) :
    wpC base (Runs (gam base)) (ir69.body.tl 3) (fun x e' K => (x = .normal ∨ x = .ret) ∧ ∃ v, resOf ir69.results e' K = some v ∧ H.Keeps K ∧ v = .tup (if 40 < len then [.str ⟨#[]⟩, encN 3] else [encW (extW A s len l0), encN 0])) e K := by
  obtain ⟨R, hR⟩ : ∃ R : BV → BH → Prop, R = fun v K => H.Keeps K ∧ v = .tup (if 40 < len then [.str ⟨#[]⟩, encN 3] else [encW (extW A s len l0), encN 0]) := ⟨_, rfl⟩
  have hR' : (fun (x : BExit) (e' : Env) (K : BH) => (x = .normal ∨ x = .ret) ∧ ∃ v, resOf ir69.results e' K = some v ∧ H.Keeps K ∧ v = .tup (if 40 < len then [.str ⟨#[]⟩, encN 3] else [encW (extW A s len l0), encN 0])) = fun x e' K => (x = .normal ∨ x = .ret) ∧ ∃ v, resOf ir69.results e' K = some v ∧ R v K := by rw [hR]
  rw [hR']
  obtain ⟨⟨e0, e1, e6, -⟩, k⟩ := hh
  simp only [] at e0 e1 e6
  have hl02 : l0 < 2 := by rw [hl0]; split <;> omega
  by_cases h40 : 40 < len
  · have h40' : (40 : Int) < (len : Int) := by omega
    simp [ir69, BCode.tl, e6, h40, h40']
    rw [hR]
    exact ⟨k, by rw [if_pos h40]; rfl⟩
  have h40' : ¬ (40 : Int) < (len : Int) := by omega
  simp [ir69, BCode.tl, e0, e6, h40, h40']
  refine (s_Reached (base := base) t s w rb len A K (h.keeps k) hok hw hs hn (by omega)).step fun v7 K1 k1 hv => ?_
  obtain ⟨wo, vs, fr, o, hv', hrows⟩ := hv
  have hrr := rows_rd o hv' hrows
  have hP := (h.keeps k).keeps k1
  have kk := k.trans k1
  clear o hv' hrows
  obtain ⟨u, x, hr, hu, hx⟩ := id hP
  have c1 : (len : Int) ≤ 140737488355328 := by omega
  simp [e6, c1]
  intro n8 b8 f8
  have o1 := Own.start (base := base) (H := K1) |>.new f8 b8 (s := .arr 5 (List.replicate len (.int .u8 0)))
  simp [make_of f8 b8]
  intro n9 b9 f9
  simp [make_of f9 b9]
  have o2 := o1.new f9 b9 (s := .arr 4 [])
  -- the states at the end
  obtain ⟨fb, hfb⟩ : ∃ fb : Nat → Bool, fb = fun p => A.acc.getD p false && (reachB A s len).getD p false := ⟨_, rfl⟩
  have l7 : v7.slen = len + 1 := by rw [hrr.len]; simp
  obtain ⟨I, hI⟩ : ∃ I : Nat → Env → BH → Prop, I = (fun i e K => e 10 = encN i ∧ ∃ v9 bo, e 9 = v9 ∧ Own base K1 K [(bo, .arr 4 (((List.range i).map fb).map encB)), (some n8, .arr 5 (List.replicate len (.int .u8 0)))] ∧ Vec bo v9 i) := ⟨_, rfl⟩
  refine wpC_countK A.acc.length [(0, .ptr rb 0), (1, .bool g), (6, encN len), (7, v7), (8, .sl n8 0 len)] I (i0 := 0) rfl ?_ ?_ (Nat.zero_le _) ?_
  · simp [e0, e1, e6]
  · rw [hI]; exact ⟨by simp, .sl n9 0 0, some n9, by simp, by simpa using o2, rfl⟩
  clear o1 o2 e0 e1 e6
  rintro i e K hi ⟨e0, e1, e6, e7, e8, -⟩ hh
  rw [hI] at hh
  obtain ⟨e10, v9, bo, e9, o, hv9⟩ := hh
  simp only [] at e0 e1 e6 e7 e8
  have hrk : K.row rb = .arr 29 [encN t, encN s, u, x] := by rw [o.keeps rb (by rw [hr]; simp), hr]
  have r2 := rd_ptr hrk (rt := none) (j := 2) (c := u) rfl rfl
  have hu' := hu.keeps o.keeps
  by_cases hlt : i < A.acc.length
  · have wi := wS (n := i) (by omega)
    have g1 := hu'.at (i := i) hlt (rt := none) rfl
    have d1 := getD_get (L := A.acc) rfl hlt
    have hrr' := hrr.keeps o.keeps
    obtain ⟨row, q1, q2⟩ := hrr'.at (i := len) (by simp)
    have q2 := q2 none rfl
    have q1' : Rd K 4 row ((reachB A s len).map encB) := by simpa using q1
    have g2 := q1'.at (i := i) (by rw [reachB_len]; exact hlt) (rt := none) rfl
    have d2 := getD_get (reachB_len A s len) hlt
    have hl1 : (len : Int) < (len : Int) + 1 := by omega
    have hil : ((i : Nat) : Int) < (A.acc.length : Int) := by omega
    have fin : ∀ (b : Bool), fb i = b → ∀ {n1 n2 : Nat} (f1 : K.row n1 = .fresh) (b1 : base ≤ n1) (f2 : (K.set n1 (.arr 4 [.bool b])).row n2 = .fresh) (b2 : base ≤ n2), ∃ v' K', (K.set n1 (.arr 4 [.bool b])).appd base n2 4 1 1 v9 (.sl n1 0 1) = some (v', K') ∧
        ∃ bo', Own base K1 K' [(bo', .arr 4 (((List.range (i + 1)).map fb).map encB)), (some n8, .arr 5 (List.replicate len (.int .u8 0)))] ∧ Vec bo' v' (i + 1) := by
      intro b hb n1 n2 f1 b1 f2 b2
      obtain ⟨v', K', b', p1, p2, p3⟩ := o.push 0 rfl (by simpa using hv9) (x := .bool b) (bytes := 1) rfl (by simp; omega) (by simp; omega) f1 b1 f2 b2
      refine ⟨v', K', p1, some b', ?_, by simpa using p3⟩
      rw [List.range_succ, List.map_append, List.map_append]
      have : (List.map encB (List.map fb [i])) = [.bool b] := by simp [hb]
      rw [this]
      exact p2
    cases ha : A.acc[i] with
    | false =>
      rw [ha] at g1 d1
      simp [e0, e9, e10, r2, hu'.isSl, hu'.lenM, hlt, hil, g1]
      intro n1 b1 f1
      simp [make_of f1 b1]
      intro n2 b2 f2
      obtain ⟨v', K', p1, bo', p2, p3⟩ := fin false (by rw [hfb]; simp only [d1, Bool.false_and]) f1 b1 f2 b2
      simp [p1, e10, wi, hlt]
      rw [hI]
      exact ⟨by simp, v', bo', by simp, p2, p3⟩
    | true =>
      rw [ha] at g1 d1
      cases hb : (reachB A s len)[i]'(by rw [reachB_len]; exact hlt) with
      | false =>
        rw [hb] at g2 d2
        simp [e0, e6, e7, e9, e10, r2, hu'.isSl, hu'.lenM, hlt, hil, g1, hrr'.isSl, l7, hl1, q2, q1'.isSl, q1'.lenM, reachB_len, g2]
        intro n1 b1 f1
        simp [make_of f1 b1]
        intro n2 b2 f2
        obtain ⟨v', K', p1, bo', p2, p3⟩ := fin false (by rw [hfb]; simp only [d2, Bool.and_false]) f1 b1 f2 b2
        simp [p1, e10, wi, hlt]
        rw [hI]
        exact ⟨by simp, v', bo', by simp, p2, p3⟩
      | true =>
        rw [hb] at g2 d2
        simp [e0, e6, e7, e9, e10, r2, hu'.isSl, hu'.lenM, hlt, hil, g1, hrr'.isSl, l7, hl1, q2, q1'.isSl, q1'.lenM, reachB_len, g2]
        intro n1 b1 f1
        simp [make_of f1 b1]
        intro n2 b2 f2
        obtain ⟨v', K', p1, bo', p2, p3⟩ := fin true (by rw [hfb]; simp only [d1, d2, Bool.and_self]) f1 b1 f2 b2
        simp [p1, e10, wi, hlt]
        rw [hI]
        exact ⟨by simp, v', bo', by simp, p2, p3⟩
  have hie : i = A.acc.length := by omega
  subst hie
  have wl := wsub1 (n := len) (by omega)
  simp [e0, e6, e10, r2, hu'.isSl, hu'.lenM, wl]
  -- the letters, from the end
  have hE0 : (List.range A.acc.length).map fb = endB A s len l0 0 := by rw [hfb]; rfl
  rw [hE0] at o
  clear hE0
  obtain ⟨J, hJ⟩ : ∃ J : Nat → Env → BH → Prop, J = (fun d e K => e 11 = .int .i64 ((len : Int) - 1 - d) ∧ ∃ v9 bo, e 9 = v9 ∧ Own base K1 K [(bo, .arr 4 ((endB A s len l0 d).map encB)), (some n8, .arr 5 ((arrD A s len l0 d).map encU))] ∧ Vec bo v9 A.acc.length) := ⟨_, rfl⟩
  refine wpC_countK len [(0, .ptr rb 0), (1, .bool g), (6, encN len), (7, v7), (8, .sl n8 0 len)] J (i0 := 0) rfl ?_ ?_ (Nat.zero_le _) ?_
  · simp [e0, e1, e6, e7, e8]
  · rw [hJ]
    refine ⟨by simp, v9, bo, by simp [e9], ?_, hv9⟩
    have : (arrD A s len l0 0).map encU = List.replicate len (.int .u8 0) := by simp [arrD, extD]
    rw [this]
    exact o
  clear o e0 e1 e6 e7 e8 e9 e10 hrk r2 hu' hlt
  rintro d e K hd ⟨e0, e1, e6, e7, e8, -⟩ hh
  rw [hJ] at hh
  obtain ⟨e11, v9, bo, e9, o, hv9⟩ := hh
  simp only [] at e0 e1 e6 e7 e8
  by_cases hlt : d < len
  · obtain ⟨D, hD⟩ : ∃ D, D = len - 1 - d := ⟨_, rfl⟩
    rw [show ((len : Int) - 1 - d) = (D : Int) by omega] at e11
    have hrr' := hrr.keeps o.keeps
    obtain ⟨row, q1, q2⟩ := hrr'.at (i := D) (by simp; omega)
    have q2 := q2 none rfl
    have q1' : Rd K 4 row ((reachB A s D).map encB) := by simpa using q1
    have hE := o.rd (ty := 4) 0 rfl (by simpa [endB_len] using hv9)
    have hDl : (D : Int) < (len : Int) + 1 := by omega
    have hDl2 : D < len + 1 := by omega
    have hDlen : D < len := by omega
    have wD := wsub1 (n := D) (by omega)
    obtain ⟨F, hF⟩ : ∃ F, F = reachB A s D := ⟨_, rfl⟩
    obtain ⟨T, hT⟩ : ∃ T, T = endB A s len l0 d := ⟨_, rfl⟩
    have hFl : F.length = A.acc.length := by rw [hF]; exact reachB_len _ _ _
    have hTl : T.length = A.acc.length := by rw [hT]; exact endB_len _ _ _ _ _
    rw [← hF] at q1'
    rw [← hT] at hE
    have hset := arrD_set (A := A) (s := s) (l0 := l0) hlt
    have hend : endB A s len l0 (d + 1) = if anyB (befB A F T l0) = true then befB A F T l0 else befB A F T (1 - l0) := by rw [endB, ← hD, ← hF, ← hT]
    have hlet : letB A s len l0 d = if anyB (befB A F T l0) = true then l0 else 1 - l0 := by rw [letB, ← hD, ← hF, ← hT]
    have wu : ∀ l : Nat, l < 2 → IntKind.u8.wrap (IntKind.i64.wrap (97 + (l : Int))) = ((97 + l : Nat) : Int) := by
      intro l hl
      have : l = 0 ∨ l = 1 := by omega
      rcases this with rfl | rfl <;> rfl
    rw [← hT] at o
    have wz : IntKind.i64.wrap 0 = 0 := rfl
    have wo1 : IntKind.i64.wrap 1 = 1 := rfl
    have wu0 : IntKind.u8.wrap (IntKind.i64.wrap 97) = 97 := rfl
    have wu1 : IntKind.u8.wrap (IntKind.i64.wrap 98) = 98 := rfl
    have hstep : ((len : Int) - 1 - ((d + 1 : Nat) : Int)) = (D : Int) - 1 := by omega
    cases g
    all_goals
      simp at hl0
      subst hl0
      simp [e0, e1, e6, e7, e9, e11, hrr'.isSl, l7, hDl, hDl2, q2]
      refine (s_Before (base := base) t s w rb _ A F T _ _ K (hP.keeps o.keeps) hok (by first | exact (show 0 < w by omega) | exact (show 1 < w by omega)) q1' hE hFl hTl hn).step fun v14 Ka ka hv => ?_
      obtain ⟨bo1, hv14, hfr1⟩ := hv
      have o1 := o.take ka hv14 hfr1
      simp
      refine callP (s_Any _ v14 Ka hv14.rd (by rw [befB_len]; exact hn)) ?_
    · cases hb : anyB (befB A F T 0) with
      | true =>
        rw [hb] at hend hlet
        simp only [if_true] at hend hlet
        obtain ⟨K5, g5, o5⟩ := o1.put 2 (b := n8) rfl (j := D) (u := .int .u8 97) (by simp [arrD_len hd]; omega) rfl (rt := none) rfl
        simp [e8, e11, hDlen, wu0, g5, wD, hlt]
        rw [hJ]
        refine ⟨by simp; omega, v14, bo1, by simp, ?_, by simpa [befB_len] using hv14.vec⟩
        rw [hend, ← hset, hlet, List.map_set, ← hD]
        exact o5.sub (List.Sublist.cons_cons _ (List.sublist_cons_self _ _))
      | false =>
        rw [hb] at hend hlet
        simp only [Bool.false_eq_true, if_false] at hend hlet
        have q2' : Ka.rd none none (v7.sat D 1) = some row := rd_keeps ka q2
        simp [e0, e7, e9, e11, hrr'.isSl, l7, hDl, hDl2, wo1, q2']
        refine (s_Before (base := base) t s w rb _ A F T _ _ Ka (hP.keeps o1.keeps) hok (by first | exact (show 0 < w by omega) | exact (show 1 < w by omega)) (q1'.keeps ka) (hE.keeps ka) hFl hTl hn).step fun v15 Kb kb hv => ?_
        obtain ⟨bo2, hv15, hfr2⟩ := hv
        have o2 := o1.take kb hv15 hfr2
        obtain ⟨K5, g5, o5⟩ := o2.put 3 (b := n8) rfl (j := D) (u := .int .u8 98) (by simp [arrD_len hd]; omega) rfl (rt := none) rfl
        simp [e8, e11, hDlen, wu1, g5, wD, hlt]
        rw [hJ]
        refine ⟨by simp; omega, v15, bo2, by simp, ?_, by simpa [befB_len] using hv15.vec⟩
        rw [hend, ← hset, hlet, List.map_set, ← hD]
        exact o5.sub (List.Sublist.cons_cons _ ((List.sublist_cons_self _ _).trans (List.sublist_cons_self _ _)))
    · cases hb : anyB (befB A F T 1) with
      | true =>
        rw [hb] at hend hlet
        simp only [if_true] at hend hlet
        obtain ⟨K5, g5, o5⟩ := o1.put 2 (b := n8) rfl (j := D) (u := .int .u8 98) (by simp [arrD_len hd]; omega) rfl (rt := none) rfl
        simp [e8, e11, hDlen, wu1, g5, wD, hlt]
        rw [hJ]
        refine ⟨by simp; omega, v14, bo1, by simp, ?_, by simpa [befB_len] using hv14.vec⟩
        rw [hend, ← hset, hlet, List.map_set, ← hD]
        exact o5.sub (List.Sublist.cons_cons _ (List.sublist_cons_self _ _))
      | false =>
        rw [hb] at hend hlet
        simp only [Bool.false_eq_true, if_false] at hend hlet
        have q2' : Ka.rd none none (v7.sat D 1) = some row := rd_keeps ka q2
        simp [e0, e7, e9, e11, hrr'.isSl, l7, hDl, hDl2, wz, q2']
        refine (s_Before (base := base) t s w rb _ A F T _ _ Ka (hP.keeps o1.keeps) hok (by first | exact (show 0 < w by omega) | exact (show 1 < w by omega)) (q1'.keeps ka) (hE.keeps ka) hFl hTl hn).step fun v15 Kb kb hv => ?_
        obtain ⟨bo2, hv15, hfr2⟩ := hv
        have o2 := o1.take kb hv15 hfr2
        obtain ⟨K5, g5, o5⟩ := o2.put 3 (b := n8) rfl (j := D) (u := .int .u8 97) (by simp [arrD_len hd]; omega) rfl (rt := none) rfl
        simp [e8, e11, hDlen, wu0, g5, wD, hlt]
        rw [hJ]
        refine ⟨by simp; omega, v15, bo2, by simp, ?_, by simpa [befB_len] using hv15.vec⟩
        rw [hend, ← hset, hlet, List.map_set, ← hD]
        exact o5.sub (List.Sublist.cons_cons _ ((List.sublist_cons_self _ _).trans (List.sublist_cons_self _ _)))
  · have hde : d = len := by omega
    subst hde
    rw [show ((d : Int) - 1 - d) = -1 by omega] at e11
    rw [arrD_all] at o
    simp [-op1_b2s, e8, e11]
    have o' : Own base K1 K ((some n8, .arr 5 ((extW A s d l0).map encU)) :: [(bo, .arr 4 ((endB A s d l0 d).map encB))]) := o.perm (List.Perm.swap _ _ _)
    rw [u8str (xs := extW A s d l0) (v := .sl n8 0 d) o' (by simp [Vec, extW_len]) (by simp [e8])]
    simp
    rw [hR]
    exact ⟨kk.trans o.keeps, by rw [if_neg h40]; rfl⟩
end Go.Proofs.YtcnkhkmapgbodaaDoor.W
end

section
namespace Go.Proofs.YtcnkhkmapgbodaaDoor.W
set_option linter.unusedVariables false
set_option linter.unusedSimpArgs false
open Go.B
variable {base : Nat}
attribute [local simp] wpC_skip wpC_region wpC_seq wpC_true wpC_false wpC_block wpC_exit wpC_ret wpO_nil wpO_n wpO_tt wpO_ff wpO_tf wpO_ft wpO_u wpS_mov wpS_pick wpS_build wpS_load wpS_store wpS_nilck wpS_bin wpS_beq wpS_isnil wpS_eqs wpS_not wpS_neg wpS_conv wpS_lea wpS_fld wpS_idx wpS_idxs wpS_slice wpS_sslice wpS_mkfn wpS_mset wpS_look wpS_ext wpS_len wpS_new wpS_box wpS_mk wpS_mkmap wpS_mksl wpS_app wpS_fn wpS_call after_some pthen_n pthen_x pthen_r pin BExit.outOf puto_some puto_none put_eq put_ne Opd.ev argEnv op1_mov op1_pick op1_new op1_box op1_load op1_nilck op1_bin op1_beq op1_not op1_neg op1_conv op1_lea op1_fld op1_len0 op1_len1 op1_idx op1_ext op1_build op1_mk op1_stw op1_mksl op1_eqs pureBin isShift resOf resVals val_tmp val_cell oneOf one_int cells_int one_bool cells_bool one_str cells_str one_nilp cells_nilp one_ptr cells_ptr one_nils cells_nils one_sl cells_sl one_sle cells_sle one_nilm cells_nilm one_mp cells_mp one_nilf cells_nilf one_fn cells_fn one_nili cells_nili cells_agg isSl_sl slen_sl sat_sl make_of asm rtOk wpS_b2s op1_b2s wpS_imax op1_imax wpS_imin op1_imin wpS_i2s op1_i2s op1_isnil Option.map_some gam_base op1_app op1_idxs wpS_idxa op1_idxa op1_sslice bound_none bound_some nat_of op1_mkmap op1_mset op1_look op1_len2 op1_mkfn Go.B.fillB Has
open Go.Au
theorem s_End (t s w rb d : Nat) (A : Aut) (H : BH) (h : RdP H rb t s A) (hok : A.Ok w) (hw : 2 ≤ w) (hs : s < A.acc.length) (hn : A.acc.length ≤ 1000000) (hd : d ≤ 1000000) (hc : countB A s d = true) (hno : ∀ k, k < d → countB A s k = false) :
    FnDoes (gam base) 69 [.ptr rb 0, .bool false] H fun v _ => v = .tup (if 40 < d then [.str ⟨#[]⟩, encN 3] else [encW (extW A s d 0), encN 0]) := by
  refine FnDoes.of (fn := ir69) rfl ?_
  refine wpC_part 3 (En1 H rb d false) (end_least t s w rb d A H h hok hw hs hn hd hc hno _) fun e K hh => ?_
  exact end_word t s w rb d false A H h hok hw hs hn hd 0 rfl e K hh
theorem tkL_count {T : Aut} (hok : T.Ok 2) (d : Nat) : countB T 0 d = true ↔ TkL T 2 0 d := countB_iff T hok (by omega) hok.pos d
theorem s_Least (s rb : Nat) (A : Aut) (H : BH) (h : RdP H rb 1 s A) (hok : A.Ok (wd 1)) (hs : s < A.acc.length) (hn : A.acc.length ≤ 150) :
    FnDoes (gam base) 43 [.ptr rb 0, .bool false] H fun v _ => v = .tup [encN (leastA (TA 1 (A.lang s))).1, encN (leastA (TA 1 (A.lang s))).2] := by
  obtain ⟨R, hR⟩ : ∃ R : BV → BH → Prop, R = fun v _ => v = .tup [encN (leastA (TA 1 (A.lang s))).1, encN (leastA (TA 1 (A.lang s))).2] := ⟨_, rfl⟩
  rw [← hR]
  refine FnDoes.of (fn := ir43) rfl ?_
  simp [ir43]
  refine (s_tidied (base := base) 1 s rb (by omega) A H h hok hs (by omega)).step fun v K1 k1 hv => ?_
  obtain ⟨hT1, hT2⟩ := TA_spec (t := 1) (by omega) hok hs
  have hTo : (TA 1 (A.lang s)).Ok 2 := hT1.ok
  obtain ⟨T, hTe⟩ : ∃ T, T = TA 1 (A.lang s) := ⟨_, rfl⟩
  rw [← hTe] at hv hTo hT2 hR
  have hTp := hTo.pos
  obtain ⟨u, x, hve, hu, hx⟩ := hv.rd
  subst hve
  have u1 := hu.one
  have x1 := one_of_isSl hx.isSl
  simp [u1, x1]
  intro n5 b5 f5
  obtain ⟨K5, g5, o5⟩ := (Own.start (base := base) (H := K1) |>.new f5 b5 (s := .arr 29 [.int .i64 0, .int .i64 0, .nils, .nils])).putAll 0 (b := n5) (n := 4) (ds := [encN 1, encN 0, u, x]) rfl rfl rfl (by simp [u1, x1]) (rt := none) rfl
  have hP : RdP K5 n5 1 0 T := hv.rd.at o5.keeps (o5.at 0 (b := n5) rfl)
  simp [make_of f5 b5, g5]
  refine (s_first (base := base) 1 0 n5 (by omega) T K5 hP hTo hTp (by omega)).step fun v K6 k6 hv6 => ?_
  obtain ⟨c, f, rfl, hf⟩ := hv6
  have kk : H.Keeps K6 := (k1.trans o5.keeps).trans k6
  have hf' : f = true ↔ ∃ d, TkL T 2 0 d := by
    rw [hf]
    constructor
    · rintro ⟨cs, h1, h2⟩; exact ⟨cs.length, cs, h1, rfl, h2⟩
    · rintro ⟨d, cs, h1, _, h2⟩; exact ⟨cs, h1, h2⟩
  cases f with
  | false =>
    simp
    rw [hR]
    have hneg : farZ T 2 0 < 0 := by
      have : farZ T 2 0 = -1 := (farZ_none hTo hTp).2 fun d hd => by
        have := hf'.2 ⟨d, hd⟩
        cases this
      omega
    refine ⟨kk, ?_⟩
    simp [leastA, hneg]
  | true =>
    obtain ⟨d0, hd0⟩ := hf'.1 rfl
    have hpos : ¬ farZ T 2 0 < 0 := fun hneg => by
      have h1 : farZ T 2 0 = -1 := by have := farL_ge T 2 T.acc.length 0; unfold farZ at hneg ⊢; omega
      exact (farZ_none hTo hTp).1 h1 d0 hd0
    obtain ⟨d, hd⟩ : ∃ d : Nat, farZ T 2 0 = (d : Int) := ⟨(farZ T 2 0).toNat, by omega⟩
    obtain ⟨hc, hdl⟩ := far_count hTo hd
    have hno : ∀ k, k < d → countB T 0 k = false := fun k hk => by
      have := ((farZ_some hTo hTp d).1 hd).2 k hk
      rw [← tkL_count hTo] at this
      simpa using this
    simp
    refine (s_End (base := base) 1 0 2 n5 d T K6 (hP.keeps k6) hTo (by omega) hTp (by omega) (by omega) hc hno).step fun v K7 k7 hv => ?_
    subst hv
    have hla : leastA T = numA (extW T 0 d 0) := by simp [leastA, hd, show ¬ (d : Int) < 0 by omega]
    by_cases h40 : 40 < d
    · simp [h40]
      rw [hR]
      refine ⟨kk.trans k7, ?_⟩
      rw [hla]
      simp [numA, extW_len, h40]
    · simp [h40]
      refine callP (s_number (extW T 0 d 0) K7 (extW_w (by omega)) (by rw [extW_len]; omega)) ?_
      by_cases h9 : numW (extW T 0 d 0) ≤ 1000000000
      · have h9' : ¬ (1000000000 : Int) < (numW (extW T 0 d 0) : Int) := by omega
        simp [h9', show ¬ 1000000000 < numW (extW T 0 d 0) by omega]
        rw [hR]
        refine ⟨kk.trans k7, ?_⟩
        rw [hla]
        simp [numA, extW_len, h40, h9]
      · have h9' : (1000000000 : Int) < (numW (extW T 0 d 0) : Int) := by omega
        simp [h9', show 1000000000 < numW (extW T 0 d 0) by omega]
        rw [hR]
        refine ⟨kk.trans k7, ?_⟩
        rw [hla]
        simp [numA, extW_len, h40, h9]
theorem s_LeastNumber (r : Raw4) (m : BV) (H : BH) (h : RdRaw H r.1 r.2.1 r.2.2.1 r.2.2.2 m) (hn : r.2.2.1.length ≤ 4611686018427387904) :
    FnDoes (gam base) 14 [m] H fun v _ => v = .tup [encN (leastN r).1, encN (leastN r).2] := by
  obtain ⟨R, hR⟩ : ∃ R : BV → BH → Prop, R = fun v _ => v = .tup [encN (leastN r).1, encN (leastN r).2] := ⟨_, rfl⟩
  rw [← hR]
  refine FnDoes.of (fn := ir14) rfl ?_
  obtain ⟨u, x, rfl, hu, hx⟩ := h
  have u1 := hu.one
  have x1 := one_of_isSl hx.isSl
  simp [ir14, u1, x1]
  intro n1 b1 f1
  have o1 := Own.start (base := base) (H := H) |>.new f1 b1 (s := .arr 29 [.int .i64 r.1, .int .i64 r.2.1, u, x])
  have hp : RdRawP _ n1 r.1 r.2.1 r.2.2.1 r.2.2.2 := ⟨u, x, o1.at 0 rfl, hu.keeps o1.keeps, hx.keeps o1.keeps⟩
  simp [make_of f1 b1]
  refine (s_set (base := base) r n1 _ hp hn).step fun v K1 k1 hv => ?_
  subst hv
  have o2 := o1.call k1
  have hp2 := hp.keeps k1
  by_cases h0 : setsN [r] = 0
  case neg =>
    simp [sets_ne h0]
    rw [hR]
    refine ⟨o2.keeps, ?_⟩
    simp [leastN, h0]
  obtain ⟨s, A, e1, e2, e3, e4, hok, hs, hlen, hA, -⟩ := ns_elim h0
  have hrel : RdP K1 n1 1 s A := by
    rw [e1, e2, e3, e4] at hp2
    exact hp2.rel
  simp [h0]
  refine (s_Least (base := base) s n1 A K1 hrel hok hs hlen).step fun v K3 k3 hv => ?_
  subst hv
  simp
  rw [hR]
  refine ⟨o2.keeps.trans k3, ?_⟩
  have htr : tidyR r = TA 1 (A.lang s) := by unfold tidyR; rw [hA, e2]; simp
  have : leastN r = leastA (TA 1 (A.lang s)) := by simp [leastN, h0, htr]
  rw [this]
/-- The law. -/
theorem law_LeastNumber (T S : Int) (acc : List Bool) (rows : List (List Int)) (m : BV) (H : BH) (h : RdL H T S acc rows m) (hn1 : acc.length ≤ 9223372036854775807) (hn : rows.length ≤ 9223372036854775807) (hr : ∀ xs ∈ rows, xs.length ≤ 9223372036854775807) :
    FnDoes (gam base) 5 [m] H fun v _ => v = .bool true := by
  refine FnDoes.of (fn := ir5) rfl ?_
  have g := h
  obtain ⟨u, x, tb, tw, rfl, hu, hx⟩ := h
  have u1 := hu.one
  have x1 := one_of_isSl hx.isSl
  simp [ir5, u1, x1]
  intro n1 b1 f1
  have o1 := Own.start (base := base) (H := H) |>.new f1 b1 (s := .arr 25 [.int .i64 T, .int .i64 S, u, x])
  have r1 := rd_all (o1.at 0 (b := n1) rfl) (n := 4) (rt := none) rfl rfl
  simp [make_of f1 b1, r1]
  refine (z_rel (base := base) T S acc rows _ _ (g.keeps o1.keeps) hn1 hn hr).step fun v K1 k1 hv => ?_
  obtain ⟨z, rfl, hz⟩ := hv
  have o2 := o1.call k1
  by_cases hz0 : z < 0
  · simp [hz0]
    exact o2.keeps
  obtain ⟨m1, m2, m3⟩ := hz (by omega)
  have r1 := rd_all (o2.at 0 (b := n1) rfl) (n := 4) (rt := none) rfl rfl
  simp [hz0, r1]
  refine (t_rel (base := base) T S acc rows _ _ (g.keeps o2.keeps) m1 m2 m3).step fun v K2 k2 hv => ?_
  have o3 := o2.call k2
  simp
  refine (s_LeastNumber (base := base) (T, S, acc, rows) v K2 hv (by show acc.length ≤ _; omega)).step fun v' K3 k3 hv' => ?_
  subst hv'
  have o4 := o3.call k3
  have r1 := rd_all (o4.at 0 (b := n1) rfl) (n := 4) (rt := none) rfl rfl
  simp [r1]
  refine (t_rel (base := base) T S acc rows _ _ (g.keeps o4.keeps) m1 m2 m3).step fun w K4 k4 hw => ?_
  have o5 := o4.call k4
  obtain ⟨uu, ww, rfl, hu2, hx2⟩ := id hw
  have u2 := hu2.one
  have x2 := one_of_isSl hx2.isSl
  simp [u2, x2]
  intro n6 b6 f6
  obtain ⟨K5, g5, o6⟩ := (o5.new f6 b6 (s := .arr 29 [.int .i64 0, .int .i64 0, .nils, .nils])).putAll 0 (b := n6) (n := 4) (ds := [encI T, encI S, uu, ww]) rfl rfl rfl (by simp [u2, x2]) (rt := none) rfl
  obtain ⟨K5', g5', o6'⟩ := (Own.start (base := base) (H := K4) |>.new f6 b6 (s := .arr 29 [.int .i64 0, .int .i64 0, .nils, .nils])).putAll 0 (b := n6) (n := 4) (ds := [encI T, encI S, uu, ww]) rfl rfl rfl (by simp [u2, x2]) (rt := none) rfl
  rw [g5] at g5'
  cases g5'
  have k5 := o6'.keeps
  have r6 := rd_all (o6.at 0 (b := n6) rfl) (n := 4) (rt := none) rfl rfl
  simp [make_of f6 b6, g5, r6]
  refine (i_LeastNumber (base := base) (T, S, acc, rows) _ K5 (hw.keeps k5) (by show acc.length ≤ _; omega)).step fun v' K6 k6 hv' => ?_
  subst hv'
  have o7 := o6.call k6
  have r6 := rd_all (o7.at 0 (b := n6) rfl) (n := 4) (rt := some 29) rfl rfl
  have r1 := rd_all (o7.at 1 (b := n1) rfl) (n := 4) (rt := none) rfl rfl
  simp [r6, r1]
  refine (t_rel (base := base) T S acc rows _ _ (g.keeps o7.keeps) m1 m2 m3).step fun w K7 k7 hw2 => ?_
  simp
  refine (q_rel (base := base) T S acc rows _ w K7 ((hw.keeps (k5.trans k6)).keeps k7) hw2 (by omega) (by omega) (fun r hr' => by have := m3 r hr'; omega)).step fun v' K8 k8 hv' => ?_
  subst hv'
  simp
  exact (o7.keeps.trans k7).trans k8
end Go.Proofs.YtcnkhkmapgbodaaDoor.W
end
