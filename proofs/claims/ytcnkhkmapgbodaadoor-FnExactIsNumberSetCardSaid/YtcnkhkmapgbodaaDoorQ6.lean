/-
Texts of our own, put together: L1, L2, L3, O1.
-/
import Derived.Test.YtcnkhkmapgbodaaDoorQ5
import Derived.Lib.SmallJoins
import Derived.Deep.Grids
import Derived.Deep.Matrix
import Derived.ChangeArms
import Derived.KernelRfl
section
namespace Go.Proofs.YtcnkhkmapgbodaaDoor.W
set_option linter.unusedVariables false
set_option linter.unusedSimpArgs false
open Go.B
variable {base : Nat}
attribute [local simp] wpC_skip wpC_region wpC_seq wpC_true wpC_false wpC_block wpC_exit wpC_ret wpO_nil wpO_n wpO_tt wpO_ff wpO_tf wpO_ft wpO_u wpS_mov wpS_pick wpS_build wpS_load wpS_store wpS_nilck wpS_bin wpS_beq wpS_isnil wpS_eqs wpS_not wpS_neg wpS_conv wpS_lea wpS_fld wpS_idx wpS_idxs wpS_slice wpS_sslice wpS_mkfn wpS_mset wpS_look wpS_ext wpS_len wpS_new wpS_box wpS_mk wpS_mkmap wpS_mksl wpS_app wpS_fn wpS_call after_some pthen_n pthen_x pthen_r pin BExit.outOf puto_some puto_none put_eq put_ne Opd.ev argEnv op1_mov op1_pick op1_new op1_box op1_load op1_nilck op1_bin op1_beq op1_not op1_neg op1_conv op1_lea op1_fld op1_len0 op1_len1 op1_idx op1_ext op1_build op1_mk op1_stw op1_mksl op1_eqs pureBin isShift resOf resVals val_tmp val_cell oneOf one_int cells_int one_bool cells_bool one_str cells_str one_nilp cells_nilp one_ptr cells_ptr one_nils cells_nils one_sl cells_sl one_sle cells_sle one_nilm cells_nilm one_mp cells_mp one_nilf cells_nilf one_fn cells_fn one_nili cells_nili cells_agg isSl_sl slen_sl sat_sl make_of asm rtOk wpS_b2s op1_b2s op1_isnil Option.map_some gam_base op1_app op1_idxs wpS_idxa op1_idxa op1_sslice bound_none bound_some nat_of op1_mkmap op1_mset op1_look op1_len2 op1_mkfn fillB Has
open Go.Au
theorem z_bools {ty : Nat} (cs : List BV) (left : Int) (v : BV) (H : BH) (h : Rd H ty v cs) (h0 : 0 ≤ left) (h1 : left ≤ 1048576) (hn : cs.length ≤ 9223372036854775807) :
    ∃ z : Int, Runs (gam base) 23 [v, encI left] H (encI z) H ∧ z ≤ left ∧ -1 ≤ z ∧ (0 ≤ z → (cs.length : Int) ≤ left) := by
  have hw : IntKind.i64.wrap (left - (cs.length : Int)) = left - (cs.length : Int) := w64 (by omega) (by omega)
  by_cases hz : left - (cs.length : Int) < 0
  · refine ⟨-1, ?_, by omega, by omega, by omega⟩
    refine runs_of (fn := ir23) rfl ?_
    simp [ir23, h.isSl, h.len, hw, hz]
  · refine ⟨left - (cs.length : Int), ?_, by omega, by omega, by omega⟩
    refine runs_of (fn := ir23) rfl ?_
    simp [ir23, h.isSl, h.len, hw, hz]

theorem z_longs {ty : Nat} (cs : List BV) (left : Int) (v : BV) (H : BH) (h : Rd H ty v cs) (h0 : 0 ≤ left) (h1 : left ≤ 1048576) (hn : cs.length ≤ 9223372036854775807) :
    ∃ z : Int, Runs (gam base) 55 [v, encI left] H (encI z) H ∧ z ≤ left ∧ -1 ≤ z ∧ (0 ≤ z → (cs.length : Int) ≤ left) := by
  have hw : IntKind.i64.wrap (left - (cs.length : Int)) = left - (cs.length : Int) := w64 (by omega) (by omega)
  by_cases hz : left - (cs.length : Int) < 0
  · refine ⟨-1, ?_, by omega, by omega, by omega⟩
    refine runs_of (fn := ir55) rfl ?_
    simp [ir55, h.isSl, h.len, hw, hz]
  · refine ⟨left - (cs.length : Int), ?_, by omega, by omega, by omega⟩
    refine runs_of (fn := ir55) rfl ?_
    simp [ir55, h.isSl, h.len, hw, hz]

/-- Rows that are read, of any kind each. -/
def RdQ {α : Type} (H : BH) (ty : Nat) (v : BV) (f : α → BV) (xss : List (List α)) : Prop := ∃ vs : List BV, Rd H ty v vs ∧ vs.length = xss.length ∧ ∀ (i : Nat) (u : BV) (xs : List α), vs[i]? = some u → xss[i]? = some xs → ∃ ty2, Rd H ty2 u (xs.map f)
section
variable {α : Type} {H K : BH} {ty : Nat} {v : BV} {f : α → BV} {xss : List (List α)}
theorem RdQ.keeps (h : RdQ H ty v f xss) (k : H.Keeps K) : RdQ K ty v f xss := by
  obtain ⟨vs, h1, h2, h3⟩ := h
  exact ⟨vs, h1.keeps k, h2, fun i u xs hu hx => (h3 i u xs hu hx).imp fun _ g => g.keeps k⟩
theorem RdQ.isSl (h : RdQ H ty v f xss) : v.isSl = true := by
  obtain ⟨vs, h1, h2, h3⟩ := h
  exact h1.isSl
theorem RdQ.len (h : RdQ H ty v f xss) : v.slen = xss.length := by
  obtain ⟨vs, h1, h2, h3⟩ := h
  rw [Rd.len h1, h2]
theorem RdQ.at (h : RdQ H ty v f xss) {i : Nat} (hi : i < xss.length) : ∃ u, (∃ ty2, Rd H ty2 u (xss[i].map f)) ∧ ∀ (rt : Option Nat), rtOk rt ty = true → H.rd rt none (v.sat i 1) = some u := by
  obtain ⟨vs, h1, h2, h3⟩ := h
  have hi' : i < vs.length := by omega
  refine ⟨vs[i], h3 i _ _ (List.getElem?_eq_getElem hi') (List.getElem?_eq_getElem hi), fun rt hrt => ?_⟩
  refine Sls.rd1 h1 (i := i) (c := vs[i]) ?_ hrt
  simp [hi']
theorem RdQ.cells (h : RdQ H ty v f xss) : RdQ H ty v (fun c => c) (xss.map (·.map f)) := by
  obtain ⟨vs, h1, h2, h3⟩ := h
  refine ⟨vs, h1, by simpa using h2, fun i u xs hu hx => ?_⟩
  rw [List.getElem?_map, Option.map_eq_some_iff] at hx
  obtain ⟨ys, hys, rfl⟩ := hx
  rw [List.map_id']
  exact h3 i u ys hu hys
end
theorem z_rows (xss : List (List BV)) (left : Int) (v : BV) (H : BH) {ty : Nat} (h : RdQ H ty v (fun c => c) xss) (h0 : 0 ≤ left) (h1 : left ≤ 1048576) (hn : xss.length ≤ 9223372036854775807) (hr : ∀ xs ∈ xss, xs.length ≤ 9223372036854775807) :
    ∃ z : Int, Runs (gam base) 24 [v, encI left] H (encI z) H ∧ z ≤ left ∧ (0 ≤ z → (xss.length : Int) ≤ left ∧ ∀ xs ∈ xss, (xs.length : Int) ≤ left) := by
  obtain ⟨R, hR⟩ : ∃ R : Int → Prop, R = fun z => z ≤ left ∧ (0 ≤ z → (xss.length : Int) ≤ left ∧ ∀ xs ∈ xss, (xs.length : Int) ≤ left) := ⟨_, rfl⟩
  suffices hh : FnDoes (gam base) 24 [v, encI left] H fun u K => K = H ∧ ∃ z, u = encI z ∧ R z by
    obtain ⟨u, K, r1, r2, rfl, z, rfl, r3⟩ := hh
    rw [hR] at r3
    exact ⟨z, r1, r3⟩
  refine FnDoes.of (fn := ir24) rfl ?_
  have hw : IntKind.i64.wrap (left - (xss.length : Int)) = left - (xss.length : Int) := w64 (by omega) (by omega)
  have hl := h.len
  by_cases hz : left - (xss.length : Int) < 0
  · simp [ir24, h.isSl, hl, hw, hz]
    rw [hR]
    exact ⟨BH.Keeps.refl _, by omega, fun h => by omega⟩
  · simp [ir24, h.isSl, hl, hw, hz]
    obtain ⟨I, hI⟩ : ∃ I : Nat → Env → BH → Prop, I = (fun i e K => e 5 = encN i ∧ K = H ∧ ∃ l : Int, e 1 = encI l ∧ 0 ≤ l ∧ l ≤ left ∧ ∀ j xs, j < i → xss[j]? = some xs → (xs.length : Int) ≤ left) := ⟨_, rfl⟩
    refine wpC_countK xss.length [(0, v)] I (i0 := 0) ?_ ?_ ?_ (Nat.zero_le _) ?_
    · rfl
    · simp
    · rw [hI]
      exact ⟨by simp, rfl, left - (xss.length : Int), by simp, by omega, by omega, fun j xs hj => by omega⟩
    rintro i e K hi ⟨e0, -⟩ hh
    rw [hI] at hh
    obtain ⟨e5, rfl, l, e1, hl0, hl1, hrs⟩ := hh
    simp only [] at e0
    have wi := wS (n := i) (by omega)
    by_cases hlt : i < xss.length
    · obtain ⟨ri, ⟨tq, hri⟩, hrr⟩ := h.at hlt
      have hrr := hrr none rfl
      rw [List.map_id'] at hri
      obtain ⟨z, c1, c2, c3, c4⟩ := z_longs (base := base) xss[i] l ri K hri hl0 (by omega) (hr _ (List.getElem_mem hlt))
      simp [e0, e5, h.isSl, hl, hlt, hrr, e1]
      refine callP c1 ?_
      by_cases hz2 : z < 0
      · simp [hz2]
        rw [hR]
        exact ⟨BH.Keeps.refl _, by omega, fun h => by omega⟩
      · simp [hz2, e5, wi, hlt]
        rw [hI]
        refine ⟨by simp, rfl, z, by simp, by omega, by omega, fun j xs hj hg => ?_⟩
        by_cases hji : j = i
        · subst hji
          rw [List.getElem?_eq_getElem hlt] at hg
          simp at hg
          subst hg
          have := c4 (by omega)
          omega
        · exact hrs j xs (by omega) hg
    · have hie : i = xss.length := by omega
      simp [e0, e5, h.isSl, hl, hlt, e1]
      rw [hR]
      refine ⟨BH.Keeps.refl _, hl1, fun _ => ⟨by omega, fun xs hxs => ?_⟩⟩
      obtain ⟨j, hj⟩ := List.getElem?_of_mem hxs
      exact hrs j xs (by have := (List.getElem?_eq_some_iff.1 hj).1; omega) hj
/-- A relation of the laws. -/
def RdL (H : BH) (T S : Int) (acc : List Bool) (rows : List (List Int)) (m : BV) : Prop := ∃ u w tb tw, m = .agg [.int .i64 T, .int .i64 S, u, w] ∧ Rd H tb u (acc.map encB) ∧ RdQ H tw w encI rows
theorem RdL.keeps {H K : BH} {T S : Int} {acc : List Bool} {rows : List (List Int)} {m : BV} (h : RdL H T S acc rows m) (k : H.Keeps K) : RdL K T S acc rows m := by
  obtain ⟨u, w, tb, tw, h1, h2, h3⟩ := h
  exact ⟨u, w, tb, tw, h1, h2.keeps k, h3.keeps k⟩
theorem z_rel (T S : Int) (acc : List Bool) (rows : List (List Int)) (m : BV) (H : BH) (h : RdL H T S acc rows m) (hn1 : acc.length ≤ 9223372036854775807) (hn : rows.length ≤ 9223372036854775807) (hr : ∀ xs ∈ rows, xs.length ≤ 9223372036854775807) :
    FnDoes (gam base) 7 [m, encI 1048576] H fun v _ => ∃ z : Int, v = encI z ∧ (0 ≤ z → acc.length ≤ 1048576 ∧ rows.length ≤ 1048576 ∧ ∀ xs ∈ rows, xs.length ≤ 1048576) := by
  refine FnDoes.of (fn := ir7) rfl ?_
  obtain ⟨u, x, tb, tw, rfl, hu, hx⟩ := h
  have u1 := hu.one
  have x1 := one_of_isSl hx.isSl
  simp [ir7, u1, x1]
  intro n1 b1 f1
  have o1 := Own.start (base := base) (H := H) |>.new f1 b1 (s := .arr 25 [.int .i64 T, .int .i64 S, u, x])
  have r2 := rd_ptr (o1.at 0 (b := n1) rfl) (rt := none) (j := 2) (c := u) rfl rfl
  have r3 := rd_ptr (o1.at 0 (b := n1) rfl) (rt := none) (j := 3) (c := x) rfl rfl
  obtain ⟨z, c1, c2, c3, c4⟩ := z_bools (base := base) (acc.map encB) 1048576 u _ (hu.keeps o1.keeps) (by omega) (by omega) (by simpa using hn1)
  simp [make_of f1 b1, r2]
  refine callP c1 ?_
  by_cases hz : z < 0
  · simp [hz]
    exact o1.keeps
  · obtain ⟨z2, d1, d2, d3⟩ := z_rows (base := base) (rows.map (·.map encI)) z x _ (RdQ.cells (hx.keeps o1.keeps)) (by omega) (by omega) (by simpa using hn) (fun xs hxs => by
      obtain ⟨r, hr', rfl⟩ := List.mem_map.1 hxs
      rw [List.length_map]
      exact hr r hr')
    simp [hz, r3]
    refine callP d1 ?_
    by_cases hz2 : z2 < 0
    · simp [hz2]
      exact o1.keeps
    · simp [hz2]
      refine ⟨o1.keeps, fun h0 => ?_⟩
      obtain ⟨k1, k2⟩ := d3 h0
      have k3 := c4 (by omega)
      rw [List.length_map] at k1 k3
      refine ⟨by omega, by omega, fun xs hxs => ?_⟩
      have := k2 (xs.map encI) (List.mem_map.2 ⟨xs, hxs, rfl⟩)
      rw [List.length_map] at this
      omega
end Go.Proofs.YtcnkhkmapgbodaaDoor.W
end

section
namespace Go.Proofs.YtcnkhkmapgbodaaDoor.W
set_option linter.unusedVariables false
set_option linter.unusedSimpArgs false
open Go.B
variable {base : Nat}
attribute [local simp] wpC_skip wpC_region wpC_seq wpC_true wpC_false wpC_block wpC_exit wpC_ret wpO_nil wpO_n wpO_tt wpO_ff wpO_tf wpO_ft wpO_u wpS_mov wpS_pick wpS_build wpS_load wpS_store wpS_nilck wpS_bin wpS_beq wpS_isnil wpS_eqs wpS_not wpS_neg wpS_conv wpS_lea wpS_fld wpS_idx wpS_idxs wpS_slice wpS_sslice wpS_mkfn wpS_mset wpS_look wpS_ext wpS_len wpS_new wpS_box wpS_mk wpS_mkmap wpS_mksl wpS_app wpS_fn wpS_call after_some pthen_n pthen_x pthen_r pin BExit.outOf puto_some puto_none put_eq put_ne Opd.ev argEnv op1_mov op1_pick op1_new op1_box op1_load op1_nilck op1_bin op1_beq op1_not op1_neg op1_conv op1_lea op1_fld op1_len0 op1_len1 op1_idx op1_ext op1_build op1_mk op1_stw op1_mksl op1_eqs pureBin isShift resOf resVals val_tmp val_cell oneOf one_int cells_int one_bool cells_bool one_str cells_str one_nilp cells_nilp one_ptr cells_ptr one_nils cells_nils one_sl cells_sl one_sle cells_sle one_nilm cells_nilm one_mp cells_mp one_nilf cells_nilf one_fn cells_fn one_nili cells_nili cells_agg isSl_sl slen_sl sat_sl make_of asm rtOk wpS_b2s op1_b2s op1_isnil Option.map_some gam_base op1_app op1_idxs wpS_idxa op1_idxa op1_sslice bound_none bound_some nat_of op1_mkmap op1_mset op1_look op1_len2 op1_mkfn fillB Has
open Go.Au
/-- A row that is filled. -/
def fillB (cs : List BV) (z : BV) (i : Nat) : List BV := cs.take i ++ List.replicate (cs.length - i) z
theorem fillB_len {cs : List BV} {z : BV} {i : Nat} (h : i ≤ cs.length) : (fillB cs z i).length = cs.length := by simp [fillB]; omega
theorem fillB_zero (cs : List BV) (z : BV) : fillB cs z 0 = List.replicate cs.length z := by simp [fillB]
theorem fillB_all (cs : List BV) (z : BV) : fillB cs z cs.length = cs := by simp [fillB]
theorem fillB_set {cs : List BV} {z : BV} {i : Nat} (h : i < cs.length) : (fillB cs z i).set i cs[i] = fillB cs z (i + 1) := by
  unfold fillB
  rw [List.set_append_right _ _ (by simp; omega), show cs.length - i = (cs.length - (i + 1)) + 1 by omega, List.replicate_succ]
  have : i - (cs.take i).length = 0 := by simp; omega
  have e : cs.take (i + 1) = cs.take i ++ [cs[i]] := by rw [List.take_add_one, List.getElem?_eq_getElem h]; rfl
  rw [this, e, List.append_assoc]
  rfl
theorem t_bools {ty : Nat} (cs : List BV) (v : BV) (H : BH) (h : Rd H ty v cs) (hone : ∀ c ∈ cs, c.one = true) (hn : cs.length ≤ 1048576) :
    FnDoes (gam base) 27 [v] H fun v' K => ∃ b, v' = .sl b 0 cs.length ∧ Own base H K [(some b, .arr 4 cs)] := by
  obtain ⟨R, hR⟩ : ∃ R : BV → BH → Prop, R = fun v' K => ∃ b, v' = .sl b 0 cs.length ∧ Own base H K [(some b, .arr 4 cs)] := ⟨_, rfl⟩
  rw [← hR]
  refine FnDoes.of (fn := ir27) rfl ?_
  obtain ⟨n, hnn⟩ : ∃ n, n = cs.length := ⟨_, rfl⟩
  have hl := h.len
  rw [← hnn] at hl
  have c1 : (n : Int) ≤ 140737488355328 := by omega
  have c8 : 8 * (n : Int) ≤ 140737488355328 := by omega
  simp [ir27, h.isSl, hl, c1, c8]
  intro n3 b3 f3
  have o0 := Own.start (base := base) (H := H) |>.new f3 b3 (s := .arr 4 (List.replicate n (BV.bool false)))
  simp [make_of f3 b3]
  obtain ⟨I, hI⟩ : ∃ I : Nat → Env → BH → Prop, I = (fun i e K => e 4 = encN i ∧ Own base H K [(some n3, .arr 4 (fillB cs (BV.bool false) i))]) := ⟨_, rfl⟩
  refine wpC_countK n [(0, v), (3, .sl n3 0 n)] I (i0 := 0) ?_ ?_ ?_ (Nat.zero_le _) ?_
  · rfl
  · simp
  · rw [hI]
    refine ⟨by simp, ?_⟩
    rw [fillB_zero, ← hnn]
    exact o0
  clear o0
  rintro i e K hi ⟨e0, e3, -⟩ hh
  rw [hI] at hh
  obtain ⟨e4, o⟩ := hh
  simp only [] at e0 e3
  have wi := wS (n := i) (by omega)
  by_cases hlt : i < n
  · have hic : i < cs.length := by omega
    have hg := (h.keeps o.keeps).get hic (rt := none) rfl
    obtain ⟨K5, g5, o5⟩ := o.put 0 (b := n3) rfl (j := i) (u := cs[i]) (by rw [fillB_len (by omega)]; exact hic) (hone _ (List.getElem_mem hic)) (rt := none) rfl
    simp [e0, e3, e4, h.isSl, hl, hlt, hg, g5, wi]
    rw [hI]
    refine ⟨by simp, ?_⟩
    rw [← fillB_set hic]
    exact o5
  · have hie : i = n := by omega
    simp [e0, e3, e4, h.isSl, hl, hlt]
    rw [hR]
    rw [hie, hnn, fillB_all] at o
    exact ⟨o.keeps, n3, by rw [hnn], o⟩

theorem t_longs {ty : Nat} (cs : List BV) (v : BV) (H : BH) (h : Rd H ty v cs) (hone : ∀ c ∈ cs, c.one = true) (hn : cs.length ≤ 1048576) :
    FnDoes (gam base) 17 [v] H fun v' K => ∃ b, v' = .sl b 0 cs.length ∧ Own base H K [(some b, .arr 2 cs)] := by
  obtain ⟨R, hR⟩ : ∃ R : BV → BH → Prop, R = fun v' K => ∃ b, v' = .sl b 0 cs.length ∧ Own base H K [(some b, .arr 2 cs)] := ⟨_, rfl⟩
  rw [← hR]
  refine FnDoes.of (fn := ir17) rfl ?_
  obtain ⟨n, hnn⟩ : ∃ n, n = cs.length := ⟨_, rfl⟩
  have hl := h.len
  rw [← hnn] at hl
  have c1 : (n : Int) ≤ 140737488355328 := by omega
  have c8 : 8 * (n : Int) ≤ 140737488355328 := by omega
  simp [ir17, h.isSl, hl, c1, c8]
  intro n3 b3 f3
  have o0 := Own.start (base := base) (H := H) |>.new f3 b3 (s := .arr 2 (List.replicate n (BV.int .i64 0)))
  simp [make_of f3 b3]
  obtain ⟨I, hI⟩ : ∃ I : Nat → Env → BH → Prop, I = (fun i e K => e 4 = encN i ∧ Own base H K [(some n3, .arr 2 (fillB cs (BV.int .i64 0) i))]) := ⟨_, rfl⟩
  refine wpC_countK n [(0, v), (3, .sl n3 0 n)] I (i0 := 0) ?_ ?_ ?_ (Nat.zero_le _) ?_
  · rfl
  · simp
  · rw [hI]
    refine ⟨by simp, ?_⟩
    rw [fillB_zero, ← hnn]
    exact o0
  clear o0
  rintro i e K hi ⟨e0, e3, -⟩ hh
  rw [hI] at hh
  obtain ⟨e4, o⟩ := hh
  simp only [] at e0 e3
  have wi := wS (n := i) (by omega)
  by_cases hlt : i < n
  · have hic : i < cs.length := by omega
    have hg := (h.keeps o.keeps).get hic (rt := none) rfl
    obtain ⟨K5, g5, o5⟩ := o.put 0 (b := n3) rfl (j := i) (u := cs[i]) (by rw [fillB_len (by omega)]; exact hic) (hone _ (List.getElem_mem hic)) (rt := none) rfl
    simp [e0, e3, e4, h.isSl, hl, hlt, hg, g5, wi]
    rw [hI]
    refine ⟨by simp, ?_⟩
    rw [← fillB_set hic]
    exact o5
  · have hie : i = n := by omega
    simp [e0, e3, e4, h.isSl, hl, hlt]
    rw [hR]
    rw [hie, hnn, fillB_all] at o
    exact ⟨o.keeps, n3, by rw [hnn], o⟩

def fillV (vs : List BV) (n : Nat) : List BV := vs ++ List.replicate (n - vs.length) .nils
theorem fillV_set {vs : List BV} {n : Nat} {v : BV} (h : vs.length < n) : (fillV vs n).set vs.length v = fillV (vs ++ [v]) n := by
  unfold fillV
  rw [List.set_append_right _ _ (by omega), Nat.sub_self, show n - vs.length = (n - (vs.length + 1)) + 1 by omega, List.replicate_succ]
  simp
theorem t_rows {ty : Nat} (xss : List (List BV)) (v : BV) (H : BH) (h : RdQ H ty v (fun c => c) xss) (hone : ∀ xs ∈ xss, ∀ c ∈ xs, c.one = true) (hn : xss.length ≤ 1048576) (hr : ∀ xs ∈ xss, xs.length ≤ 1048576) :
    FnDoes (gam base) 28 [v] H fun v' K => ∃ b vs fr, v' = .sl b 0 vs.length ∧ Own base H K ((some b, .arr 37 vs) :: fr) ∧ RowsOf 2 vs fr xss := by
  obtain ⟨R, hR⟩ : ∃ R : BV → BH → Prop, R = fun v' K => ∃ b vs fr, v' = .sl b 0 vs.length ∧ Own base H K ((some b, .arr 37 vs) :: fr) ∧ RowsOf 2 vs fr xss := ⟨_, rfl⟩
  rw [← hR]
  refine FnDoes.of (fn := ir28) rfl ?_
  obtain ⟨n, hnn⟩ : ∃ n, n = xss.length := ⟨_, rfl⟩
  have hl := h.len
  rw [← hnn] at hl
  have c1 : (n : Int) ≤ 140737488355328 := by omega
  have c8 : 24 * (n : Int) ≤ 140737488355328 := by omega
  simp [ir28, h.isSl, hl, c1, c8]
  intro n3 b3 f3
  have o0 := Own.start (base := base) (H := H) |>.new f3 b3 (s := .arr 37 (List.replicate n .nils))
  simp [make_of f3 b3]
  obtain ⟨I, hI⟩ : ∃ I : Nat → Env → BH → Prop, I = (fun i e K => e 4 = encN i ∧ ∃ vs fr, vs.length = i ∧ Own base H K ([(some n3, .arr 37 (fillV vs n))] ++ fr) ∧ RowsOf 2 vs fr (xss.take i)) := ⟨_, rfl⟩
  refine wpC_countK n [(0, v), (3, .sl n3 0 n)] I (i0 := 0) ?_ ?_ ?_ (Nat.zero_le _) ?_
  · rfl
  · simp
  · rw [hI]
    refine ⟨by simp, [], [], rfl, ?_, by simp [RowsOf]⟩
    simpa [fillV] using o0
  clear o0
  rintro i e K hi ⟨e0, e3, -⟩ hh
  rw [hI] at hh
  obtain ⟨e4, vs, fr, hvs, o, hrows⟩ := hh
  simp only [] at e0 e3
  have wi := wS (n := i) (by omega)
  by_cases hlt : i < n
  · have hic : i < xss.length := by omega
    obtain ⟨ri, ⟨tq, hri⟩, hrr⟩ := (h.keeps o.keeps).at hic
    have hrr := hrr none rfl
    rw [List.map_id'] at hri
    simp [e0, e4, h.isSl, hl, hlt, hrr]
    refine (t_longs (base := base) xss[i] ri K hri (hone _ (List.getElem_mem hic)) (hr _ (List.getElem_mem hic))).step fun v' K1 k1 hv => ?_
    obtain ⟨b, rfl, o2⟩ := hv
    have oj := Own.join o k1 o2
    obtain ⟨K5, g5, o5⟩ := oj.put 0 (b := n3) rfl (j := i) (u := .sl b 0 xss[i].length) (by unfold fillV; simp; omega) rfl (rt := none) rfl
    simp [e3, hlt, g5, e4, wi]
    rw [hI]
    refine ⟨by simp, vs ++ [.sl b 0 xss[i].length], fr ++ [(some b, .arr 2 xss[i])], by simp [hvs], ?_, ?_⟩
    · rw [← fillV_set (by omega), hvs]
      simpa using o5
    · rw [List.take_add_one, List.getElem?_eq_getElem hic]
      exact hrows.snoc (bo := some b) (v := .sl b 0 xss[i].length) (xs := xss[i]) rfl
  · have hie : i = n := by omega
    simp [e0, e3, e4, h.isSl, hl, hlt]
    rw [hR]
    refine ⟨o.keeps, n3, vs, fr, by rw [hvs, hie], ?_, ?_⟩
    · have : fillV vs n = vs := by unfold fillV; simp; omega
      rw [this] at o
      exact o
    · rw [hie, hnn, List.take_length] at hrows
      exact hrows
theorem t_rel (T S : Int) (acc : List Bool) (rows : List (List Int)) (m : BV) (H : BH) (h : RdL H T S acc rows m) (hn1 : acc.length ≤ 1048576) (hn : rows.length ≤ 1048576) (hr : ∀ xs ∈ rows, xs.length ≤ 1048576) :
    FnDoes (gam base) 9 [m] H fun v K => RdRaw K T S acc rows v := by
  refine FnDoes.of (fn := ir9) rfl ?_
  obtain ⟨u, x, tb, tw, rfl, hu, hx⟩ := h
  have u1 := hu.one
  have x1 := one_of_isSl hx.isSl
  simp [ir9, u1, x1]
  intro n1 b1 f1
  simp [make_of f1 b1]
  intro n2 b2 f2
  simp [make_of f2 b2]
  intro n3 b3 f3
  have o1 := Own.start (base := base) (H := H) |>.new f1 b1 (s := .arr 25 [.int .i64 T, .int .i64 S, u, x]) |>.new f2 b2 (s := .arr 29 [.int .i64 0, .int .i64 0, .nils, .nils]) |>.new f3 b3 (s := .arr 29 [.int .i64 0, .int .i64 0, .nils, .nils])
  have r0 := rd_ptr (o1.at 2 (b := n1) rfl) (rt := none) (j := 0) (c := encI T) rfl rfl
  obtain ⟨K1, g1, o2⟩ := o1.put 0 (b := n3) rfl (j := 0) (u := encI T) (by simp) rfl (rt := none) rfl
  have r1 := rd_ptr (o2.at 2 (b := n1) rfl) (rt := none) (j := 1) (c := encI S) rfl rfl
  obtain ⟨K2, g2, o3⟩ := o2.put 0 (b := n3) rfl (j := 1) (u := encI S) (by simp) rfl (rt := none) rfl
  have r2 := rd_ptr (o3.at 2 (b := n1) rfl) (rt := none) (j := 2) (c := u) rfl rfl
  simp [make_of f3 b3, r0, g1, r1, g2, r2]
  refine (t_bools (base := base) (acc.map encB) u _ (hu.keeps o3.keeps) (fun c hc => by
      obtain ⟨q, _, rfl⟩ := List.mem_map.1 hc
      rfl) (by simpa using hn1)).step fun v K3 k3 hv => ?_
  obtain ⟨b, rfl, o4⟩ := hv
  have oj := Own.join o3 k3 o4
  obtain ⟨K4, g4, o5⟩ := oj.put 0 (b := n3) rfl (j := 2) (u := .sl b 0 (acc.map encB).length) (by simp) rfl (rt := none) rfl
  have r3 := rd_ptr (o5.at 2 (b := n1) rfl) (rt := none) (j := 3) (c := x) rfl rfl
  simp only [List.length_map] at g4
  simp [g4, r3]
  refine (t_rows (base := base) (rows.map (·.map encI)) x _ (RdQ.cells (hx.keeps o5.keeps)) (fun xs hxs c hc => by
      obtain ⟨r, _, rfl⟩ := List.mem_map.1 hxs
      obtain ⟨q, _, rfl⟩ := List.mem_map.1 hc
      rfl) (by simpa using hn) (fun xs hxs => by
      obtain ⟨r, hr', rfl⟩ := List.mem_map.1 hxs
      rw [List.length_map]
      exact hr r hr')).step fun v K5 k5 hv => ?_
  obtain ⟨c, vs, fr, rfl, o6, hrows⟩ := hv
  have oj2 := Own.join o5 k5 o6
  obtain ⟨K6, g6, o7⟩ := oj2.put 0 (b := n3) rfl (j := 3) (u := .sl c 0 vs.length) (by simp) rfl (rt := none) rfl
  have r9 := rd_all (o7.at 0 (b := n3) rfl) (n := 4) (rt := none) rfl rfl
  obtain ⟨K7, g7, o8⟩ := o7.putAll 1 (b := n2) (n := 4) (ds := [encI T, encI S, .sl b 0 acc.length, .sl c 0 vs.length]) rfl rfl rfl rfl (rt := none) rfl
  have r10 := rd_all (o8.at 1 (b := n2) rfl) (n := 4) (rt := none) rfl rfl
  simp [g6, r9, g7, r10]
  refine ⟨o8.keeps, _, _, rfl, o8.rd 3 (bo := some b) rfl (by simp [Vec]), ?_⟩
  have o9 := o8.drop 4
  exact RowsOf.rdR (bo := some c) (F := [(some c, .arr 37 vs)]) o9 hrows (o9.rd 0 rfl rfl)
end Go.Proofs.YtcnkhkmapgbodaaDoor.W
end

section
namespace Go.Proofs.YtcnkhkmapgbodaaDoor.W
set_option linter.unusedVariables false
set_option linter.unusedSimpArgs false
open Go.B
variable {base : Nat}
attribute [local simp] wpC_skip wpC_region wpC_seq wpC_true wpC_false wpC_block wpC_exit wpC_ret wpO_nil wpO_n wpO_tt wpO_ff wpO_tf wpO_ft wpO_u wpS_mov wpS_pick wpS_build wpS_load wpS_store wpS_nilck wpS_bin wpS_beq wpS_isnil wpS_eqs wpS_not wpS_neg wpS_conv wpS_lea wpS_fld wpS_idx wpS_idxs wpS_slice wpS_sslice wpS_mkfn wpS_mset wpS_look wpS_ext wpS_len wpS_new wpS_box wpS_mk wpS_mkmap wpS_mksl wpS_app wpS_fn wpS_call after_some pthen_n pthen_x pthen_r pin BExit.outOf puto_some puto_none put_eq put_ne Opd.ev argEnv op1_mov op1_pick op1_new op1_box op1_load op1_nilck op1_bin op1_beq op1_not op1_neg op1_conv op1_lea op1_fld op1_len0 op1_len1 op1_idx op1_ext op1_build op1_mk op1_stw op1_mksl op1_eqs pureBin isShift resOf resVals val_tmp val_cell oneOf one_int cells_int one_bool cells_bool one_str cells_str one_nilp cells_nilp one_ptr cells_ptr one_nils cells_nils one_sl cells_sl one_sle cells_sle one_nilm cells_nilm one_mp cells_mp one_nilf cells_nilf one_fn cells_fn one_nili cells_nili cells_agg isSl_sl slen_sl sat_sl make_of asm rtOk wpS_b2s op1_b2s op1_isnil Option.map_some gam_base op1_app op1_idxs wpS_idxa op1_idxa op1_sslice bound_none bound_some nat_of op1_mkmap op1_mset op1_look op1_len2 op1_mkfn fillB Has
open Go.Au
theorem q_bools (bs : List Bool) (v w : BV) (H : BH) {ty ty2 : Nat} (h : Rd H ty v (bs.map encB)) (k : Rd H ty2 w (bs.map encB)) (hn : bs.length ≤ 4611686018427387904) :
    Runs (gam base) 31 [v, w] H (.bool true) H := by
  refine runs_of (fn := ir31) rfl ?_
  simp [ir31, h.isSl, h.lenM, k.isSl, k.lenM]
  refine wpC_countK bs.length [(0, v), (1, w)] (fun i e K => e 5 = encN i ∧ K = H) (i0 := 0) ?_ ?_ ?_ (Nat.zero_le _) ?_
  · rfl
  · simp
  · exact ⟨by simp, rfl⟩
  rintro i e K hi ⟨e0, e1, -⟩ ⟨e5, rfl⟩
  simp only [] at e0 e1
  have wi := wS (n := i) (by omega)
  by_cases hlt : i < bs.length
  · have g1 := h.at hlt (rt := none) rfl
    have g2 := k.at hlt (rt := none) rfl
    simp [e0, e1, e5, h.isSl, h.lenM, k.isSl, k.lenM, hlt, g1, g2, wi]
  · simp [e0, e1, e5, h.isSl, h.lenM, k.isSl, k.lenM, hlt]
theorem q_longs (bs : List Int) (v w : BV) (H : BH) {ty ty2 : Nat} (h : Rd H ty v (bs.map encI)) (k : Rd H ty2 w (bs.map encI)) (hn : bs.length ≤ 4611686018427387904) :
    Runs (gam base) 19 [v, w] H (.bool true) H := by
  refine runs_of (fn := ir19) rfl ?_
  simp [ir19, h.isSl, h.lenM, k.isSl, k.lenM]
  refine wpC_countK bs.length [(0, v), (1, w)] (fun i e K => e 5 = encN i ∧ K = H) (i0 := 0) ?_ ?_ ?_ (Nat.zero_le _) ?_
  · rfl
  · simp
  · exact ⟨by simp, rfl⟩
  rintro i e K hi ⟨e0, e1, -⟩ ⟨e5, rfl⟩
  simp only [] at e0 e1
  have wi := wS (n := i) (by omega)
  by_cases hlt : i < bs.length
  · have g1 := h.at hlt (rt := none) rfl
    have g2 := k.at hlt (rt := none) rfl
    simp [e0, e1, e5, h.isSl, h.lenM, k.isSl, k.lenM, hlt, g1, g2, wi]
  · simp [e0, e1, e5, h.isSl, h.lenM, k.isSl, k.lenM, hlt]
theorem q_rows (rows : List (List Int)) (v w : BV) (H : BH) {ty ty2 tz tz2 : Nat} (h : RdR H ty ty2 v encI rows) (k : RdR H tz tz2 w encI rows) (hn : rows.length ≤ 4611686018427387904) (hr : ∀ r ∈ rows, r.length ≤ 4611686018427387904) :
    Runs (gam base) 32 [v, w] H (.bool true) H := by
  refine runs_of (fn := ir32) rfl ?_
  simp [ir32, h.isSl, h.len, k.isSl, k.len]
  refine wpC_countK rows.length [(0, v), (1, w)] (fun i e K => e 5 = encN i ∧ K = H) (i0 := 0) ?_ ?_ ?_ (Nat.zero_le _) ?_
  · rfl
  · simp
  · exact ⟨by simp, rfl⟩
  rintro i e K hi ⟨e0, e1, -⟩ ⟨e5, rfl⟩
  simp only [] at e0 e1
  have wi := wS (n := i) (by omega)
  by_cases hlt : i < rows.length
  · obtain ⟨ri, hri, hrr⟩ := h.at hlt
    obtain ⟨rj, hrj, hrk⟩ := k.at hlt
    have hrr := hrr none rfl
    have hrk := hrk none rfl
    simp [e0, e1, e5, h.isSl, h.len, k.isSl, k.len, hlt, hrr, hrk]
    refine callP (q_longs (base := base) rows[i] ri rj K hri hrj (hr _ (List.getElem_mem hlt))) ?_
    simp [e5, wi, hlt]
  · simp [e0, e1, e5, h.isSl, h.len, k.isSl, k.len, hlt]
theorem q_rel (T S : Int) (acc : List Bool) (rows : List (List Int)) (m m2 : BV) (H : BH) (h : RdRaw H T S acc rows m) (k : RdRaw H T S acc rows m2) (hn1 : acc.length ≤ 4611686018427387904) (hn : rows.length ≤ 4611686018427387904) (hr : ∀ r ∈ rows, r.length ≤ 4611686018427387904) :
    FnDoes (gam base) 11 [m, m2] H fun v _ => v = .bool true := by
  refine FnDoes.of (fn := ir11) rfl ?_
  obtain ⟨u, x, rfl, hu, hx⟩ := h
  obtain ⟨u', x', rfl, hu', hx'⟩ := k
  have u1 := hu.one
  have x1 := one_of_isSl hx.isSl
  have u1' := hu'.one
  have x1' := one_of_isSl hx'.isSl
  simp [ir11, u1, x1, u1', x1']
  intro n2 b2 f2
  simp [make_of f2 b2, u1', x1']
  intro n3 b3 f3
  have o1 := Own.start (base := base) (H := H) |>.new f2 b2 (s := .arr 29 [.int .i64 T, .int .i64 S, u, x]) |>.new f3 b3 (s := .arr 29 [.int .i64 T, .int .i64 S, u', x'])
  have p0 := rd_ptr (o1.at 1 (b := n2) rfl) (rt := none) (j := 0) (c := encI T) rfl rfl
  have p1 := rd_ptr (o1.at 1 (b := n2) rfl) (rt := none) (j := 1) (c := encI S) rfl rfl
  have p2 := rd_ptr (o1.at 1 (b := n2) rfl) (rt := none) (j := 2) (c := u) rfl rfl
  have p3 := rd_ptr (o1.at 1 (b := n2) rfl) (rt := none) (j := 3) (c := x) rfl rfl
  have q0 := rd_ptr (o1.at 0 (b := n3) rfl) (rt := none) (j := 0) (c := encI T) rfl rfl
  have q1 := rd_ptr (o1.at 0 (b := n3) rfl) (rt := none) (j := 1) (c := encI S) rfl rfl
  have q2 := rd_ptr (o1.at 0 (b := n3) rfl) (rt := none) (j := 2) (c := u') rfl rfl
  have q3 := rd_ptr (o1.at 0 (b := n3) rfl) (rt := none) (j := 3) (c := x') rfl rfl
  simp [make_of f3 b3, p0, p1, p2, q0, q1, q2]
  refine callP (q_bools (base := base) acc u u' _ (hu.keeps o1.keeps) (hu'.keeps o1.keeps) hn1) ?_
  simp [p3, q3]
  refine callP (q_rows (base := base) rows x x' _ (hx.keeps o1.keeps) (hx'.keeps o1.keeps) hn hr) ?_
  simp
  exact o1.keeps
/-- The law. -/
theorem law_IsNS (T S : Int) (acc : List Bool) (rows : List (List Int)) (m : BV) (H : BH) (h : RdL H T S acc rows m) (hn1 : acc.length ≤ 9223372036854775807) (hn : rows.length ≤ 9223372036854775807) (hr : ∀ xs ∈ rows, xs.length ≤ 9223372036854775807) :
    FnDoes (gam base) 3 [m] H fun v _ => v = .bool true := by
  refine FnDoes.of (fn := ir3) rfl ?_
  have g := h
  obtain ⟨u, x, tb, tw, rfl, hu, hx⟩ := h
  have u1 := hu.one
  have x1 := one_of_isSl hx.isSl
  simp [ir3, u1, x1]
  intro n1 b1 f1
  have o1 := Own.start (base := base) (H := H) |>.new f1 b1 (s := .arr 25 [.int .i64 T, .int .i64 S, u, x])
  have r1 := rd_all (o1.at 0 (b := n1) rfl) (n := 4) (rt := none) rfl rfl
  simp [make_of f1 b1, r1]
  refine (z_rel (base := base) T S acc rows _ _ (g.keeps o1.keeps) hn1 hn hr).step fun v K1 k1 hv => ?_
  obtain ⟨z, rfl, hz⟩ := hv
  have o2 := o1.call k1
  by_cases hz0 : z < 0
  · simp [hz0]
    exact o2.keeps
  obtain ⟨m1, m2, m3⟩ := hz (by omega)
  have r1 := rd_all (o2.at 0 (b := n1) rfl) (n := 4) (rt := none) rfl rfl
  simp [hz0, r1]
  refine (t_rel (base := base) T S acc rows _ _ (g.keeps o2.keeps) m1 m2 m3).step fun v K2 k2 hv => ?_
  have o3 := o2.call k2
  simp
  refine (s_IsNS (base := base) T S acc rows v K2 hv (by omega)).step fun v' K3 k3 hv' => ?_
  subst hv'
  have o4 := o3.call k3
  have r1 := rd_all (o4.at 0 (b := n1) rfl) (n := 4) (rt := none) rfl rfl
  simp [r1]
  refine (t_rel (base := base) T S acc rows _ _ (g.keeps o4.keeps) m1 m2 m3).step fun w K4 k4 hw => ?_
  have o5 := o4.call k4
  obtain ⟨uu, ww, rfl, hu2, hx2⟩ := id hw
  have u2 := hu2.one
  have x2 := one_of_isSl hx2.isSl
  simp [u2, x2]
  intro n6 b6 f6
  obtain ⟨K5, g5, o6⟩ := (o5.new f6 b6 (s := .arr 29 [.int .i64 0, .int .i64 0, .nils, .nils])).putAll 0 (b := n6) (n := 4) (ds := [encI T, encI S, uu, ww]) rfl rfl rfl (by simp [u2, x2]) (rt := none) rfl
  obtain ⟨K5', g5', o6'⟩ := (Own.start (base := base) (H := K4) |>.new f6 b6 (s := .arr 29 [.int .i64 0, .int .i64 0, .nils, .nils])).putAll 0 (b := n6) (n := 4) (ds := [encI T, encI S, uu, ww]) rfl rfl rfl (by simp [u2, x2]) (rt := none) rfl
  rw [g5] at g5'
  cases g5'
  have k5 := o6'.keeps
  have r6 := rd_all (o6.at 0 (b := n6) rfl) (n := 4) (rt := none) rfl rfl
  simp [make_of f6 b6, g5, r6]
  refine (i_IsNS (base := base) T S acc rows _ K5 (hw.keeps k5) (by omega)).step fun v' K6 k6 hv' => ?_
  subst hv'
  have o7 := o6.call k6
  have r6 := rd_all (o7.at 0 (b := n6) rfl) (n := 4) (rt := some 29) rfl rfl
  have r1 := rd_all (o7.at 1 (b := n1) rfl) (n := 4) (rt := none) rfl rfl
  simp [r6, r1]
  refine (t_rel (base := base) T S acc rows _ _ (g.keeps o7.keeps) m1 m2 m3).step fun w K7 k7 hw2 => ?_
  simp
  refine (q_rel (base := base) T S acc rows _ w K7 ((hw.keeps (k5.trans k6)).keeps k7) hw2 (by omega) (by omega) (fun r hr' => by have := m3 r hr'; omega)).step fun v' K8 k8 hv' => ?_
  subst hv'
  simp
  exact (o7.keeps.trans k7).trans k8
end Go.Proofs.YtcnkhkmapgbodaaDoor.W
end

section
namespace Go.Proofs.YtcnkhkmapgbodaaDoor.W
set_option linter.unusedVariables false
set_option linter.unusedSimpArgs false
open Go.B
variable {base : Nat}
attribute [local simp] wpC_skip wpC_region wpC_seq wpC_true wpC_false wpC_block wpC_exit wpC_ret wpO_nil wpO_n wpO_tt wpO_ff wpO_tf wpO_ft wpO_u wpS_mov wpS_pick wpS_build wpS_load wpS_store wpS_nilck wpS_bin wpS_beq wpS_isnil wpS_eqs wpS_not wpS_neg wpS_conv wpS_lea wpS_fld wpS_idx wpS_idxs wpS_slice wpS_sslice wpS_mkfn wpS_mset wpS_look wpS_ext wpS_len wpS_new wpS_box wpS_mk wpS_mkmap wpS_mksl wpS_app wpS_fn wpS_call after_some pthen_n pthen_x pthen_r pin BExit.outOf puto_some puto_none put_eq put_ne Opd.ev argEnv op1_mov op1_pick op1_new op1_box op1_load op1_nilck op1_bin op1_beq op1_not op1_neg op1_conv op1_lea op1_fld op1_len0 op1_len1 op1_idx op1_ext op1_build op1_mk op1_stw op1_mksl op1_eqs pureBin isShift resOf resVals val_tmp val_cell oneOf one_int cells_int one_bool cells_bool one_str cells_str one_nilp cells_nilp one_ptr cells_ptr one_nils cells_nils one_sl cells_sl one_sle cells_sle one_nilm cells_nilm one_mp cells_mp one_nilf cells_nilf one_fn cells_fn one_nili cells_nili cells_agg isSl_sl slen_sl sat_sl make_of asm rtOk wpS_b2s op1_b2s op1_isnil Option.map_some gam_base op1_app op1_idxs wpS_idxa op1_idxa op1_sslice bound_none bound_some nat_of op1_mkmap op1_mset op1_look op1_len2 op1_mkfn fillB Has
section
variable {H : Type} {enc : TypeId × Value → H} {W : World} {held : Bool}
theorem sls_nil (w : World) (ty sz : Nat) : Sls (heap0 w) ty sz (absV w (.slice none 0 0)) [] := ⟨rfl, rfl, fun i x hi => by simp at hi⟩
def fs25 : Array Field := #[⟨"Tapes", 2, 0, false, "", "", 0⟩, ⟨"Start", 2, 1, false, "", "", 8⟩, ⟨"Accept", 22, 2, false, "", "", 16⟩, ⟨"Next", 23, 3, false, "", "", 40⟩]
theorem u25 : Tryd.prog.underlying 25 = some (.struct fs25) := by kernel_rfl
theorem u2 : Tryd.prog.underlying 2 = some (.int .i64) := by kernel_rfl
theorem u4 : Tryd.prog.underlying 4 = some .bool := by kernel_rfl
theorem u22 : Tryd.prog.underlying 22 = some (.slice 4) := by kernel_rfl
theorem u23 : Tryd.prog.underlying 23 = some (.slice 37) := by kernel_rfl
theorem u37 : Tryd.prog.underlying 37 = some (.slice 2) := by kernel_rfl
theorem open_flags {fuel : Nat} {c : Value} {x : DataW H × List MemPlace} (h : DataW.trod enc Tryd.prog W 0 (fun _ => true) held fuel 22 [c] = some x) :
    ∃ (bs : List Bool) (ty : Nat), Rd (heap0 W) ty (absV W c) (bs.map encB) ∧ bs.length ≤ 9223372036854775807 := by
  rcases Deep.open_bools u22 u4 (by kernel_rfl) h with ⟨e, _⟩ | ⟨a, len, cap, B, e, _, hl, hm, _, hcell⟩
  · simp at e
    subst e
    exact ⟨[], 0, sls_nil W 0 1, by simp⟩
  · simp at e
    subst e
    obtain ⟨ty, hs⟩ := Sls.start (w := W) (a := a) (n := len) (c := cap) (sz := 1) (xs := (List.range len).map fun i => [Value.bool (B i)]) (by simp) hl (by omega) (by simp) (by
      intro i x hi j v hj
      rw [List.getElem?_map] at hi
      simp only [Option.map_eq_some_iff] at hi
      obtain ⟨k, hk, rfl⟩ := hi
      obtain ⟨hlt, hkv⟩ := List.getElem?_eq_some_iff.1 hk
      simp at hlt hkv
      subst hkv
      cases j with
      | zero =>
        simp at hj
        subst hj
        simpa using hcell i (by omega)
      | succ j => simp at hj)
    refine ⟨(List.range len).map B, ty, ?_, ?_⟩
    · unfold Rd
      simpa [List.map_map, Function.comp_def, absV, toB1, one1, encB] using hs
    · simp [maxLen] at hm ⊢
      omega
theorem open_longs {a : Addr} {L C : Nat} {Z : List Int} (hl : L ≤ C) (hz : Z.length = C) (hcell : ∀ c, c < C → W.cell? (a.add c) = some (.int .i64 (Z.getD c 0))) :
    ∃ ty, Rd (heap0 W) ty (absV W (.slice (some a) L C)) ((Z.take L).map encI) := by
  obtain ⟨ty, hs⟩ := Sls.start (w := W) (a := a) (n := L) (c := C) (sz := 1) (xs := (Z.take L).map fun z => [Value.int .i64 z]) (by simp; omega) hl (by omega) (fun x hx => by
    obtain ⟨z, _, rfl⟩ := List.mem_map.1 hx
    rfl) (by
    intro i x hi j v hj
    rw [List.getElem?_map] at hi
    simp only [Option.map_eq_some_iff] at hi
    obtain ⟨k, hk, rfl⟩ := hi
    obtain ⟨hlt, hkv⟩ := List.getElem?_eq_some_iff.1 hk
    rw [List.length_take] at hlt
    rw [List.getElem_take] at hkv
    cases j with
    | zero =>
      simp at hj
      subst hj
      have := hcell i (by omega)
      rw [List.getD_eq_getElem?_getD, List.getElem?_eq_getElem (by omega)] at this
      rw [← hkv]
      simpa using this
    | succ j => simp at hj)
  refine ⟨ty, ?_⟩
  unfold Rd
  simpa [List.map_map, Function.comp_def, absV, toB1, one1, encI] using hs
theorem open_rows {fuel : Nat} {c : Value} {x : DataW H × List MemPlace} (h : DataW.trod enc Tryd.prog W 0 (fun _ => true) held fuel 23 [c] = some x) :
    ∃ (rows : List (List Int)) (ty : Nat), RdQ (heap0 W) ty (absV W c) encI rows ∧ rows.length ≤ 9223372036854775807 ∧ ∀ xs ∈ rows, xs.length ≤ 9223372036854775807 := by
  rcases Deep.open_int_rows u23 u37 u2 (by kernel_rfl) (by kernel_rfl) h with ⟨e, _⟩ | ⟨a, len, cap, A, L, C, Z, e, _, hl, hm, _, hr⟩
  · simp at e
    subst e
    exact ⟨[], 0, ⟨[], sls_nil W 0 1, rfl, fun i u xs hu => by simp at hu⟩, by simp, by simp⟩
  · simp at e
    subst e
    obtain ⟨ty, hs⟩ := Sls.start (w := W) (a := a) (n := len) (c := cap) (sz := 1) (xs := (List.range len).map fun r => [Value.slice (A r) (L r) (C r)]) (by simp) hl (by omega) (by simp) (by
      intro i x hi j v hj
      rw [List.getElem?_map] at hi
      simp only [Option.map_eq_some_iff] at hi
      obtain ⟨k, hk, rfl⟩ := hi
      obtain ⟨hlt, hkv⟩ := List.getElem?_eq_some_iff.1 hk
      simp at hlt hkv
      subst hkv
      cases j with
      | zero =>
        simp at hj
        subst hj
        simpa using (hr i (by omega)).1
      | succ j => simp at hj)
    refine ⟨(List.range len).map fun r => (Z r).take (L r), ty, ⟨(List.range len).map fun r => absV W (.slice (A r) (L r) (C r)), ?_, by simp, ?_⟩, ?_, ?_⟩
    · unfold Rd
      simpa [List.map_map, Function.comp_def, one1] using hs
    · intro i u xs hu hx
      have hil : i < len := by have := (List.getElem?_eq_some_iff.1 hu).1; simpa using this
      rw [List.getElem?_map, List.getElem?_range hil] at hu hx
      simp at hu hx
      subst hu hx
      obtain ⟨_, g2, g3, g4, _, g6, g7⟩ := hr i (by omega)
      cases hA : A i with
      | none =>
        have hc := g6 hA
        have hL : L i = 0 := by omega
        rw [hc, hL]
        exact ⟨0, sls_nil W 0 1⟩
      | some a' => exact open_longs g2 g4 (g7 a' hA).2
    · simp [maxLen] at hm ⊢
      omega
    · intro xs hxs
      obtain ⟨r, hr', rfl⟩ := List.mem_map.1 hxs
      obtain ⟨_, g2, g3, g4, _⟩ := hr r (by have := List.mem_range.1 hr'; omega)
      simp [maxLen] at g3 ⊢
      omega
end
end Go.Proofs.YtcnkhkmapgbodaaDoor.W
end
