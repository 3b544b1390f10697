/-
The farthest lags.
-/
import Derived.Test.YtkmlmkbpdldjgaaW27
import Derived.Test.YtkmlmkbpdldjgaaW29
import Derived.Laws.Strings
namespace Go.Proofs.Ytkmlmkbpdldjgaa.W
set_option linter.unusedVariables false
set_option linter.unusedSimpArgs false
open Go.B
variable {base : Nat}
attribute [local simp] wpC_skip wpC_region wpC_seq wpC_true wpC_false wpC_block wpC_exit wpC_ret wpO_nil wpO_n wpO_tt wpO_ff wpO_tf wpO_ft wpO_u wpS_mov wpS_pick wpS_build wpS_load wpS_store wpS_nilck wpS_bin wpS_beq wpS_isnil wpS_eqs wpS_not wpS_neg wpS_conv wpS_lea wpS_fld wpS_idx wpS_idxs wpS_slice wpS_sslice wpS_mkfn wpS_mset wpS_look wpS_ext wpS_len wpS_new wpS_box wpS_mk wpS_mkmap wpS_mksl wpS_app wpS_fn wpS_call after_some Post.then Post.inBlock BExit.outOf puto_some puto_none put_eq put_ne Opd.ev argEnv op1_mov op1_pick op1_new op1_box op1_load op1_nilck op1_bin op1_beq op1_not op1_neg op1_conv op1_lea op1_fld op1_len0 op1_len1 op1_idx op1_ext op1_build op1_mk op1_stw op1_mksl op1_eqs pureBin isShift resOf resVals val_tmp val_cell oneOf one_int cells_int one_bool cells_bool one_str cells_str one_nilp cells_nilp one_ptr cells_ptr one_nils cells_nils one_sl cells_sl one_sle cells_sle one_nilm cells_nilm one_mp cells_mp one_nilf cells_nilf one_fn cells_fn one_nili cells_nili cells_agg isSl_sl slen_sl sat_sl make_of asm rtOk wpS_b2s op1_b2s op1_isnil Option.map_some gam_base op1_app

theorem letB_size {s : ByteArray} (h : letB s = true) : s.size ≤ 1 := by
  have hs : s.size = s.toList.length := by rw [Go.ByteArray.toList_eq]; rfl
  rw [hs]
  simp only [letB, Bool.or_eq_true, beq_iff_eq] at h
  rcases h with h | h | h
  · cases hl : s.toList with
    | nil => simp
    | cons a l => rw [hl] at h; cases h
  · rw [h]; simp
  · rw [h]; simp
/-- Lags are small. -/
def Lagy (es : List E4) : Prop := ∀ e ∈ es, e.i.size ≤ 1 ∧ e.o.size ≤ 1
theorem validB_lagy {s : Int} {n : Nat} {es : List E4} (h : validB s n es = true) : Lagy es := by
  rw [valid_ok] at h
  simp only [okB, formB, Bool.and_eq_true, decide_eq_true_eq, List.all_eq_true, okE] at h
  intro e he
  have := h.2.2.2 e he
  exact ⟨letB_size this.2.2.1, letB_size this.2.2.2⟩
theorem Lagy.lag {es : List E4} (h : Lagy es) {e : E4} (he : e ∈ es) : -1 ≤ lagE e ∧ lagE e ≤ 1 := by
  have := h e he
  unfold lagE
  omega

theorem c85 (e : E4) (b o : Nat) (H : BH) (h2 : H.rd none none (.ptr b (o + 2)) = some (.str e.i)) (h3 : H.rd none none (.ptr b (o + 3)) = some (.str e.o)) (hi : e.i.size ≤ 1) (ho : e.o.size ≤ 1) :
    Runs (gam base) 85 [.ptr b o] H (.int .i64 (lagE e)) H := by
  refine runs_of (fn := ir85) rfl ?_
  have w : IntKind.i64.wrap ((e.i.size : Int) - e.o.size) = (e.i.size : Int) - e.o.size := w64 (by omega) (by omega)
  simp [ir85, h2, h3, w, lagE]
theorem c83 (e : E4) (H : BH) (hi : e.i.size ≤ 1) (ho : e.o.size ≤ 1) : Gives (gam base) 83 [.agg e.enc] H (.int .i64 (lagE e)) := by
  refine gives_of (fn := ir83) rfl ?_
  have w : IntKind.i64.wrap ((e.i.size : Int) - e.o.size) = (e.i.size : Int) - e.o.size := w64 (by omega) (by omega)
  simp [ir83, E4.enc]
  intro n1 b1 f1
  obtain ⟨_, _, q2, q3⟩ := edge_rd (K := H.set n1 (.arr 54 e.enc)) (n := n1) (e := e) (BH.row_set_eq _ _ _)
  simp only [E4.enc] at q2 q3
  simp [make_of f1 b1, q2, q3, w, lagE]
  exact BH.keeps_set _ f1

/-- A path, cut at its last edge. -/
theorem Path.last {es : List E4} {u v : Nat} {r : List E4} {k : Nat} (h : Path es u r v) (hl : r.length = k + 1) : ∃ q e, r = q ++ [e] ∧ Path es u q e.f.toNat ∧ e ∈ es ∧ e.t.toNat = v := by
  induction r generalizing u k with
  | nil => simp at hl
  | cons a r ih =>
    obtain ⟨h1, h2, h3⟩ := h
    cases r with
    | nil =>
      exact ⟨[], a, rfl, h2.symm, h1, h3⟩
    | cons b r =>
      obtain ⟨q, e, e1, e2, e3, e4⟩ := ih (u := a.t.toNat) (k := k - 1) h3 (by simp at hl ⊢; omega)
      exact ⟨a :: q, e, by rw [e1]; rfl, ⟨h1, h2, e2⟩, e3, e4⟩

/-- What is known in the round 'k', at the edge 'i'. -/
structure Far (n : Nat) (es : List E4) (s : Nat) (sign : Int) (k i : Nat) (kn : List Bool) (lg : List Int) : Prop where
  klen : kn.length = n
  llen : lg.length = n
  walk : ∀ q, q < n → kn.getD q false = true → ∃ r, Path es s r q ∧ lg.getD q 0 = sign * lagP r
  size : ∀ q, -((k * 200 + i : Nat) : Int) ≤ lg.getD q 0 ∧ lg.getD q 0 ≤ ((k * 200 + i : Nat) : Int)
  full : ∀ r v, Path es s r v → r.length ≤ k → kn.getD v false = true ∧ sign * lagP r ≤ lg.getD v 0

theorem Far.step {n : Nat} {es : List E4} {s : Nat} {sign : Int} {k i : Nat} {kn : List Bool} {lg : List Int} (h : Far n es s sign k i kn lg) (hsg : sign = 1 ∨ sign = -1) (hin : InR n es) (hlg : Lagy es) {e : E4} (he : e ∈ es) (hk : kn.getD e.f.toNat false = true)
    (hc : kn.getD e.t.toNat false = false ∨ lg.getD e.t.toNat 0 < lg.getD e.f.toNat 0 + sign * lagE e) : Far n es s sign k (i + 1) (kn.set e.t.toNat true) (lg.set e.t.toNat (lg.getD e.f.toNat 0 + sign * lagE e)) := by
  obtain ⟨ht, hf⟩ := hin.to he false
  simp only [toE, frE, Bool.false_eq_true, if_false] at ht hf
  obtain ⟨r, hr, hrl⟩ := h.walk _ hf hk
  have gk : ∀ q, (kn.set e.t.toNat true).getD q false = if q = e.t.toNat then true else kn.getD q false := fun q => by
    simp only [List.getD_eq_getElem?_getD, List.getElem?_set]
    by_cases hq : e.t.toNat = q
    · subst hq
      simp [h.klen, ht]
    · simp [hq, Ne.symm hq]
  have gl : ∀ q, (lg.set e.t.toNat (lg.getD e.f.toNat 0 + sign * lagE e)).getD q 0 = if q = e.t.toNat then lg.getD e.f.toNat 0 + sign * lagE e else lg.getD q 0 := fun q => by
    simp only [List.getD_eq_getElem?_getD, List.getElem?_set]
    by_cases hq : e.t.toNat = q
    · subst hq
      simp [h.llen, ht]
    · simp [hq, Ne.symm hq]
  have hle := hlg.lag he
  have hsl : -1 ≤ sign * lagE e ∧ sign * lagE e ≤ 1 := by rcases hsg with rfl | rfl <;> omega
  refine ⟨by simp [h.klen], by simp [h.llen], fun q hq hkq => ?_, fun q => ?_, fun r' v hp hl => ?_⟩
  · rw [gl]
    by_cases hqt : q = e.t.toNat
    · rw [if_pos hqt, hqt]
      refine ⟨r ++ [e], hr.snoc he rfl, ?_⟩
      rw [hrl, lagP_snoc, Int.mul_add]
    · rw [if_neg hqt]
      rw [gk, if_neg hqt] at hkq
      exact h.walk q hq hkq
  · rw [gl]
    have h1 := h.size q
    have h2 := h.size e.f.toNat
    split <;> omega
  · obtain ⟨h1, h2⟩ := h.full r' v hp hl
    rw [gk, gl]
    by_cases hv : v = e.t.toNat
    · rw [if_pos hv, if_pos hv]
      refine ⟨rfl, ?_⟩
      rcases hc with hc | hc
      · rw [hv, hc] at h1
        cases h1
      · rw [hv] at h2
        omega
    · rw [if_neg hv, if_neg hv]
      exact ⟨h1, h2⟩
/-- Where all rounds have the lag 0, nothing changes in a late round. -/
theorem Far.late {n : Nat} {es : List E4} {s : Nat} {sign : Int} {k i : Nat} {kn : List Bool} {lg : List Int} (h : Far n es s sign k i kn lg) (hs : s < n) (hb : Bal es) (hin : InR n es) (hkn : n ≤ k) {e : E4} (he : e ∈ es) (hk : kn.getD e.f.toNat false = true) :
    kn.getD e.t.toNat false = true ∧ lg.getD e.f.toNat 0 + sign * lagE e ≤ lg.getD e.t.toNat 0 := by
  obtain ⟨ht, hf⟩ := hin.to he false
  simp only [toE, frE, Bool.false_eq_true, if_false] at ht hf
  obtain ⟨r, hr, hrl⟩ := h.walk _ hf hk
  obtain ⟨q, q1, q2, q3⟩ := hb.short hin hs (r ++ [e]).length (Nat.le_refl _) (hr.snoc he rfl)
  obtain ⟨h1, h2⟩ := h.full q _ q1 (by omega)
  refine ⟨h1, ?_⟩
  rw [hrl, ← Int.mul_add, ← lagP_snoc, ← q2]
  exact h2
end Go.Proofs.Ytkmlmkbpdldjgaa.W
