/-
Balance: the law.
-/
import Derived.Test.YtkmlmkbpdldjgaaW28
import Derived.Test.YtkmlmkbpdldjgaaW34
namespace Go.Proofs.Ytkmlmkbpdldjgaa.W
set_option linter.unusedVariables false
set_option linter.unusedSimpArgs false
open Go.B
variable {base : Nat}
attribute [local simp] wpC_skip wpC_region wpC_seq wpC_true wpC_false wpC_block wpC_exit wpC_ret wpO_nil wpO_n wpO_tt wpO_ff wpO_tf wpO_ft wpO_u wpS_mov wpS_pick wpS_build wpS_load wpS_store wpS_nilck wpS_bin wpS_beq wpS_isnil wpS_eqs wpS_not wpS_neg wpS_conv wpS_lea wpS_fld wpS_idx wpS_idxs wpS_slice wpS_sslice wpS_mkfn wpS_mset wpS_look wpS_ext wpS_len wpS_new wpS_box wpS_mk wpS_mkmap wpS_mksl wpS_app wpS_fn wpS_call after_some Post.then Post.inBlock BExit.outOf puto_some puto_none put_eq put_ne Opd.ev argEnv op1_mov op1_pick op1_new op1_box op1_load op1_nilck op1_bin op1_beq op1_not op1_neg op1_conv op1_lea op1_fld op1_len0 op1_len1 op1_idx op1_ext op1_build op1_mk op1_stw op1_mksl op1_eqs pureBin isShift resOf resVals val_tmp val_cell oneOf one_int cells_int one_bool cells_bool one_str cells_str one_nilp cells_nilp one_ptr cells_ptr one_nils cells_nils one_sl cells_sl one_sle cells_sle one_nilm cells_nilm one_mp cells_mp one_nilf cells_nilf one_fn cells_fn one_nili cells_nili cells_agg isSl_sl slen_sl sat_sl make_of asm rtOk wpS_b2s op1_b2s op1_isnil Option.map_some gam_base op1_app op1_mkmap op1_mset op1_look

/-! ### what is left of a transducer is reached from its start -/
theorem cntS_succ {sel : Nat → Bool} {i : Nat} : cntS sel (i + 1) = cntS sel i + (if sel i = true then 1 else 0) := by
  unfold cntS
  rw [List.range_succ, List.filter_append, List.length_append]
  cases h : sel i <;> simp [List.filter_cons, h]
theorem cntS_mono {sel : Nat → Bool} {i : Nat} : ∀ {j : Nat}, i ≤ j → cntS sel i ≤ cntS sel j
  | 0, h => by
    have : i = 0 := by omega
    rw [this]
    exact Nat.le_refl _
  | j + 1, h => by
    by_cases e : i = j + 1
    · rw [e]
      exact Nat.le_refl _
    · have := cntS_mono (sel := sel) (i := i) (j := j) (by omega)
      rw [cntS_succ]
      omega
theorem cntS_lt {sel : Nat → Bool} {q i : Nat} (h : sel q = true) (hq : q < i) : cntS sel q < cntS sel i := by
  have h1 := cntS_mono (sel := sel) (i := q + 1) (j := i) (by omega)
  rw [cntS_succ, h] at h1
  simp at h1
  omega
theorem cntS_onto {sel : Nat → Bool} : ∀ {i p : Nat}, p < cntS sel i → ∃ q, q < i ∧ sel q = true ∧ cntS sel q = p
  | 0, p, h => by simp [cntS] at h
  | i + 1, p, h => by
    rw [cntS_succ] at h
    by_cases hp : p < cntS sel i
    · obtain ⟨q, h1, h2, h3⟩ := cntS_onto hp
      exact ⟨q, by omega, h2, h3⟩
    · cases hs : sel i
      · rw [hs] at h
        simp at h
        omega
      · rw [hs] at h
        simp at h
        exact ⟨i, by omega, hs, by omega⟩
theorem numS_pos {sel : Nat → Bool} {q : Nat} : 0 ≤ numS sel q ↔ sel q = true := by
  unfold numS
  cases h : sel q <;> simp
theorem numS_sel {sel : Nat → Bool} {q : Nat} (h : sel q = true) : numS sel q = cntS sel q := by simp [numS, h]
theorem mem_selE {sel : Nat → Bool} {es : List E4} {x : E4} : x ∈ es.flatMap (selE sel) ↔ ∃ e ∈ es, sel e.f.toNat = true ∧ sel e.t.toNat = true ∧ x = ⟨cntS sel e.f.toNat, cntS sel e.t.toNat, e.i, e.o⟩ := by
  rw [List.mem_flatMap]
  constructor
  · rintro ⟨e, he, hx⟩
    unfold selE at hx
    split at hx
    · rename_i hc
      simp only [Bool.and_eq_true, decide_eq_true_eq, numS_pos] at hc
      simp only [List.mem_singleton] at hx
      rw [numS_sel hc.1, numS_sel hc.2] at hx
      exact ⟨e, he, hc.1, hc.2, hx⟩
    · simp at hx
  · rintro ⟨e, he, h1, h2, rfl⟩
    refine ⟨e, he, ?_⟩
    unfold selE
    rw [if_pos (by simp [numS_pos, h1, h2])]
    rw [numS_sel h1, numS_sel h2]
    simp
section
variable {s : Int} {bs : List Bool} {es : List E4}
theorem trim_inR (hin : InR bs.length es) : InR (cntS (selT s bs es) bs.length) (es.flatMap (selE (selT s bs es))) := by
  intro x hx
  obtain ⟨e, he, h1, h2, rfl⟩ := mem_selE.1 hx
  have := hin e he
  have g1 := cntS_lt (i := bs.length) h1 (by omega)
  have g2 := cntS_lt (i := bs.length) h2 (by omega)
  simp only []
  omega
theorem trim_lagy (h : Lagy es) : Lagy (es.flatMap (selE (selT s bs es))) := by
  intro x hx
  obtain ⟨e, he, _, _, rfl⟩ := mem_selE.1 hx
  exact h e he
theorem sel_start (hs : 0 ≤ s) : selT s bs es s.toNat = true := by
  have : ((s.toNat : Nat) : Int) = s := by omega
  simp [selT, this]
theorem trim_reach (hin : InR bs.length es) (hs0 : 0 ≤ s) (hs1 : s < bs.length) : ∀ q, q < cntS (selT s bs es) bs.length → ∃ r, Path (es.flatMap (selE (selT s bs es))) (cntS (selT s bs es) s.toNat) r q := by
  obtain ⟨F, hF⟩ : ∃ F, F = iter (passL false es) bs.length (startB bs.length s) := ⟨_, rfl⟩
  obtain ⟨L, hL⟩ : ∃ L, L = iter (passL true es) bs.length bs := ⟨_, rfl⟩
  have hst : s.toNat < bs.length := by omega
  have hsl : (startB bs.length s).length = bs.length := by simp [startB]
  have lF : F.length = bs.length := by rw [hF, iter_len, hsl]
  have lL : L.length = bs.length := by rw [hL, iter_len]
  have cF := pass_closed (back := false) (l := es) (st := F) (by rw [lF]; exact hin) (by rw [hF]; exact iter_done hin hsl)
  have cL := pass_closed (back := true) (l := es) (st := L) (by rw [lL]; exact hin) (by rw [hL]; exact iter_done hin rfl)
  simp only [frE, toE, Bool.false_eq_true, if_false, if_true] at cF cL
  have sq : ∀ q, selT s bs es q = ((F.getD q false && L.getD q false) || ((q : Int) == s)) := fun q => by rw [hF, hL]; rfl
  have key : ∀ q, F.getD q false = true → F.getD q false = true ∧ (L.getD q false = true → ∃ r, Path (es.flatMap (selE (selT s bs es))) (cntS (selT s bs es) s.toNat) r (cntS (selT s bs es) q)) := by
    intro q hq
    have hq' := hq
    rw [hF] at hq'
    refine iter_reach (es := es) (P := fun q => F.getD q false = true ∧ (L.getD q false = true → ∃ r, Path (es.flatMap (selE (selT s bs es))) (cntS (selT s bs es) s.toNat) r (cntS (selT s bs es) q))) ?_ ?_ bs.length q hq'
    · rintro e he ⟨h1, h2⟩
      refine ⟨cF e he h1, fun h3 => ?_⟩
      have h4 := cL e he h3
      obtain ⟨r, hr⟩ := h2 h4
      have s1 : selT s bs es e.f.toNat = true := by rw [sq, h1, h4]; rfl
      have s2 : selT s bs es e.t.toNat = true := by rw [sq, cF e he h1, h3]; rfl
      have hm := mem_selE.2 ⟨e, he, s1, s2, rfl⟩
      exact ⟨_, hr.snoc hm (by simp)⟩
    · intro q hq
      have : q = s.toNat := by
        simp only [startB, List.getD_eq_getElem?_getD, List.getElem?_set] at hq
        by_cases h : s.toNat = q
        · exact h.symm
        · simp only [h, if_false, List.getElem?_replicate] at hq
          split at hq <;> simp at hq
      subst this
      refine ⟨?_, fun _ => ⟨[], rfl⟩⟩
      rw [hF]
      exact iter_up hq bs.length
  intro p hp
  obtain ⟨q, h1, h2, h3⟩ := cntS_onto hp
  rw [← h3]
  rw [sq] at h2
  simp only [Bool.or_eq_true, Bool.and_eq_true] at h2
  rcases h2 with ⟨h4, h5⟩ | h4
  · exact (key q h4).2 h5
  · have : q = s.toNat := by
      have : (q : Int) = s := by simpa using h4
      omega
    rw [this]
    exact ⟨[], rfl⟩
end

theorem pot_path {es : List E4} {sign : Int} {φ : Nat → Int} (h : ∀ e ∈ es, φ e.f.toNat + sign * lagE e ≤ φ e.t.toNat) : ∀ {u v : Nat} {r : List E4}, Path es u r v → φ u + sign * lagP r ≤ φ v
  | u, v, [], hp => by
    have : u = v := hp
    subst this
    simp [lagP]
  | u, v, e :: r, ⟨h1, h2, h3⟩ => by
    subst h2
    have g1 := h e h1
    have g2 := pot_path h h3
    simp only [lagP, Int.mul_add]
    omega

theorem c70 (s : Int) (bs : List Bool) (es : List E4) (u v : BV) (m : Nat) (K : BH) (rm : K.row m = .arr 34 [.int .i64 s, u, v]) (hu : Sls K 4 1 u (bs.map encB)) (hv : Sls K 54 4 v (es.map E4.enc))
    (hl1 : bs.length ≤ 40) (hl2 : es.length ≤ 200) (hin : InR bs.length es) (hlg : Lagy es) (hs0 : 0 ≤ s) (hs1 : s < bs.length) (hreach : ∀ q, q < bs.length → ∃ r, Path es s.toNat r q) :
    ∃ x K', Runs (gam base) 70 [.ptr m 0] K x K' ∧ K.Keeps K' ∧ ∃ bl, x = .bool bl ∧ (bl = true ↔ Bal es) := by
  refine call_of_wp (fn := ir70) (R := fun x K' => K.Keeps K' ∧ ∃ bl, x = .bool bl ∧ (bl = true ↔ Bal es)) rfl ?_
  obtain ⟨x1, bl1, K1, r1, k1, p1, q1⟩ := c82 (base := base) 1 (.inl rfl) s bs es u v m K rm hu hv hl1 hl2 hin hlg hs0 hs1 hreach
  have rm1 : K1.row m = .arr 34 [.int .i64 s, u, v] := by rw [k1 m (by rw [rm]; simp), rm]
  obtain ⟨x2, bl2, K2, r2, k2, p2, q2⟩ := c82 (base := base) (-1) (.inr rfl) s bs es u v m K1 rm1 (hu.keeps k1) (hv.keeps k1) hl1 hl2 hin hlg hs0 hs1 hreach
  simp [ir70]
  refine ⟨_, K1, r1, BH.KeepsTys.nil _ _, ?_⟩
  simp
  refine ⟨_, K2, r2, BH.KeepsTys.nil _ _, ?_⟩
  have hk := k1.trans k2
  have hiff : (bl1 && bl2) = true ↔ Bal es := by
    rw [Bool.and_eq_true]
    constructor
    · rintro ⟨h1, h2⟩ u r hr
      obtain ⟨φ, g1⟩ := p1 h1
      obtain ⟨ψ, g2⟩ := p2 h2
      have e1 := pot_path g1 hr
      have e2 := pot_path g2 hr
      omega
    · intro h
      exact ⟨q1 h, q2 h⟩
  cases bl1
  · simp
    exact ⟨hk, fun h => by have := hiff.2 h; cases this⟩
  · simp
    refine ⟨hk, ?_⟩
    simp only [Bool.true_and] at hiff
    cases bl2 with
    | false => exact .inl ⟨rfl, fun h => by have := hiff.2 h; cases this⟩
    | true => exact .inr ⟨rfl, hiff.1 rfl⟩

/-- What both answer. -/
def BalR (s : Int) (bs : List Bool) (es : List E4) (b : Bool) (code : Int) : Prop :=
  (validB s bs.length es = true → code = 0 ∧ (b = true ↔ Bal (es.flatMap (selE (selT s bs es))))) ∧ (validB s bs.length es = false → code = 1 ∧ b = false)
theorem BalR.uniq {s : Int} {bs : List Bool} {es : List E4} {b b' : Bool} {code code' : Int} (h : BalR s bs es b code) (h' : BalR s bs es b' code') : b = b' ∧ code = code' := by
  cases q : validB s bs.length es
  · have h1 := h.2 q
    have h2 := h'.2 q
    exact ⟨h1.2.trans h2.2.symm, h1.1.trans h2.1.symm⟩
  · have h1 := h.1 q
    have h2 := h'.1 q
    refine ⟨?_, h1.1.trans h2.1.symm⟩
    have := h1.2.trans h2.2.symm
    cases b <;> cases b' <;> simp_all

theorem c35 (s : Int) (bs : List Bool) (es : List E4) (u v : BV) (b c : Nat) (H : BH) (ou : OwnS base H 4 1 u (bs.map encB) b) (ov : OwnS base H 54 4 v (es.map E4.enc) c) (hn : bs.length ≤ 1048576) (hn' : es.length ≤ 1048576) :
    ∃ x H', Runs (gam base) 35 [.agg [.int .i64 s, u, v]] H x H' ∧ H.Keeps H' ∧ ∃ bl code, x = .tup [.bool bl, .int .i64 code] ∧ BalR s bs es bl code := by
  refine call_of_wp (fn := ir35) (R := fun x H' => H.Keeps H' ∧ ∃ bl code, x = .tup [.bool bl, .int .i64 code] ∧ BalR s bs es bl code) rfl ?_
  have hu1 := one_of_isSl ou.isSl
  have hv1 := one_of_isSl ov.isSl
  simp [ir35, hu1, hv1]
  intro n1 b1 f1
  simp [make_of f1 b1]
  obtain ⟨A, hA⟩ : ∃ A, A = H.set n1 (.arr 34 [.int .i64 s, u, v]) := ⟨_, rfl⟩
  have kA : H.Keeps A := by rw [hA]; exact BH.keeps_set _ f1
  have a1 : A.row n1 = .arr 34 [.int .i64 s, u, v] := by rw [hA, BH.row_set_eq]
  rw [← hA]
  have r1 := c48 (base := base) s bs es u v n1 A a1 (ou.sls.keeps kA) (ov.sls.keeps kA) (by omega) (by omega)
  rw [← valid_ok] at r1
  refine ⟨_, A, r1, BH.KeepsTys.nil _ _, ?_⟩
  cases q : validB s bs.length es
  · simp
    exact ⟨kA, ⟨fun h => (by rw [q] at h; cases h), fun _ => ⟨rfl, rfl⟩⟩⟩
  obtain ⟨hsm, hs0, hs1⟩ := validB_small q
  obtain ⟨hl1, hl2⟩ := validB_len q
  obtain ⟨x, A2, r2, k2, u', v', bo, co, rfl, ob, oc, fb, fc⟩ := c69 (base := base) s bs es u v b c n1 A a1 (ou.keeps kA) (ov.keeps kA) q
  simp
  refine ⟨_, A2, r2, BH.KeepsTys.nil _ _, ?_⟩
  have hst : s.toNat < bs.length := by omega
  have hss := sel_start (bs := bs) (es := es) hs0
  obtain ⟨S, hS⟩ : ∃ S, S = numS (selT s bs es) s.toNat := ⟨_, rfl⟩
  have hSc : S = cntS (selT s bs es) s.toNat := by rw [hS, numS_sel hss]
  rw [← hS]
  simp
  intro n4 b4 f4
  simp [make_of f4 b4, new3 (K := A2) (base := base) (nb := n4) (ty := 34) (z := [.int .i64 0, .nils, .nils]) rfl b4 (one_int (k := .i64) (n := S)) ob.one oc.one]
  obtain ⟨B, hB⟩ : ∃ B, B = A2.set n4 (.arr 34 [.int .i64 S, u', v']) := ⟨_, rfl⟩
  have kB2 : A2.Keeps B := by rw [hB]; exact BH.keeps_set _ f4
  have rB : B.row n4 = .arr 34 [.int .i64 S, u', v'] := by rw [hB, BH.row_set_eq]
  rw [← hB]
  have hcl := cntS_le (sel := selT s bs es) (i := bs.length)
  have hfl := flatMap_len (l := es) (f := selE (selT s bs es)) (B := 1) fun _ _ => selE_len
  obtain ⟨y, K3, r3, k3, bl, rfl, hbl⟩ := c70 (base := base) S (accS (selT s bs es) bs bs.length) (es.flatMap (selE (selT s bs es))) u' v' n4 B rB (ob.sls.keeps kB2) (oc.sls.keeps kB2) (by rw [accS_len]; omega) (by omega) (by rw [accS_len]; exact trim_inR (validB_inR q)) (trim_lagy (validB_lagy q))
    (by omega) (by rw [accS_len, hSc]; have := cntS_lt (i := bs.length) hss hst; omega) (by
      rw [accS_len, hSc]
      simpa using trim_reach (validB_inR q) hs0 hs1)
  refine ⟨_, K3, r3, BH.KeepsTys.nil _ _, ?_⟩
  simp
  have hbr : BalR s bs es bl 0 := ⟨fun _ => ⟨rfl, hbl⟩, fun h => (by rw [q] at h; cases h)⟩
  refine ⟨((kA.trans k2).trans kB2).trans k3, ?_⟩
  cases bl with
  | false => exact .inl ⟨0, ⟨rfl, rfl⟩, hbr⟩
  | true => exact .inr ⟨0, ⟨rfl, rfl⟩, hbr⟩

theorem c36 (s : Int) (bs : List Bool) (es : List E4) (u v : BV) (b c : Nat) (H : BH) (ou : OwnS base H 4 1 u (bs.map encB) b) (ov : OwnS base H 54 4 v (es.map E4.enc) c) (hn : bs.length ≤ 1048576) (hn' : es.length ≤ 1048576) :
    ∃ x H', Runs (gam base) 36 [.agg [.int .i64 s, u, v]] H x H' ∧ H.Keeps H' ∧ ∃ bl code, x = .tup [.bool bl, .int .i64 code] ∧ BalR s bs es bl code := by
  refine call_of_wp (fn := ir36) (R := fun x H' => H.Keeps H' ∧ ∃ bl code, x = .tup [.bool bl, .int .i64 code] ∧ BalR s bs es bl code) rfl ?_
  have hu1 := one_of_isSl ou.isSl
  have hv1 := one_of_isSl ov.isSl
  simp [ir36, hu1, hv1]
  intro n1 b1 f1
  simp [make_of f1 b1]
  obtain ⟨A, hA⟩ : ∃ A, A = H.set n1 (.arr 34 [.int .i64 s, u, v]) := ⟨_, rfl⟩
  have kA : H.Keeps A := by rw [hA]; exact BH.keeps_set _ f1
  have a1 : A.row n1 = .arr 34 [.int .i64 s, u, v] := by rw [hA, BH.row_set_eq]
  rw [← hA]
  obtain ⟨_, _, _, l4⟩ := rows3 a1 (rt := none) rfl
  obtain ⟨A1, r1, k1⟩ := c21 (base := base) s bs es u v A (ou.sls.keeps kA) (ov.sls.keeps kA) (by omega) (by omega)
  simp [l4]
  refine ⟨_, A1, r1, BH.KeepsTys.nil _ _, ?_⟩
  have kA1 := kA.trans k1
  cases q : validB s bs.length es
  · simp
    exact ⟨kA1, ⟨fun h => (by rw [q] at h; cases h), fun _ => ⟨rfl, rfl⟩⟩⟩
  obtain ⟨hsm, hs0, hs1⟩ := validB_small q
  obtain ⟨hl1, hl2⟩ := validB_len q
  have a11 : A1.row n1 = .arr 34 [.int .i64 s, u, v] := by rw [k1 n1 (by rw [a1]; simp), a1]
  obtain ⟨_, _, _, l5⟩ := rows3 a11 (rt := none) rfl
  obtain ⟨x, A2, r2, k2, u', v', bo, co, rfl, ob, oc, fb, fc⟩ := c71 (base := base) s bs es u v b c A1 (ou.keeps kA1) (ov.keeps kA1) q
  simp [l5]
  refine ⟨_, A2, r2, BH.KeepsTys.nil _ _, ?_⟩
  have hcl := cntS_le (sel := selT s bs es) (i := bs.length)
  have hfl := flatMap_len (l := es) (f := selE (selT s bs es)) (B := 1) fun _ _ => selE_len
  obtain ⟨y, K3, r3, k3, bl, rfl, hbl⟩ := c72 (base := base) (numS (selT s bs es) s.toNat) (accS (selT s bs es) bs bs.length) (es.flatMap (selE (selT s bs es))) u' v' A2 ob.sls oc.sls (by rw [accS_len]; omega) (by omega) (by rw [accS_len]; exact trim_inR (validB_inR q)) (trim_lagy (validB_lagy q))
  simp
  refine ⟨_, K3, r3, BH.KeepsTys.nil _ _, ?_⟩
  simp
  have hbr : BalR s bs es bl 0 := ⟨fun _ => ⟨rfl, hbl⟩, fun h => (by rw [q] at h; cases h)⟩
  refine ⟨(kA1.trans k2).trans k3, ?_⟩
  cases bl with
  | false => exact .inl ⟨0, ⟨rfl, rfl⟩, hbr⟩
  | true => exact .inr ⟨0, ⟨rfl, rfl⟩, hbr⟩

/-- The law, over the machine. -/
theorem c11 {ty tz : Nat} (s : Int) (bs : List Bool) (es : List E4) (u v : BV) (H : BH) (hu : Sls H tz 1 u (bs.map encB)) (hv : Sls H ty 4 v (es.map E4.enc))
    (hn : bs.length ≤ 9223372036854775807) (hn' : es.length ≤ 9223372036854775807) (hz : ∀ e ∈ es, e.i.size ≤ 9223372036854775807 ∧ e.o.size ≤ 9223372036854775807) : Gives (gam base) 11 [.agg [.int .i64 s, u, v]] H (.bool true) := by
  refine gives_of (fn := ir11) rfl ?_
  have hu1 := one_of_isSl hu.isSl
  have hv1 := one_of_isSl hv.isSl
  simp [ir11, hu1, hv1]
  intro nb hb hf
  simp [make_of hf hb]
  obtain ⟨G, hG⟩ : ∃ G, G = H.set nb (.arr 29 [.int .i64 s, u, v]) := ⟨_, rfl⟩
  have hk : H.Keeps G := by rw [hG]; exact BH.keeps_set _ hf
  have hrow : G.row nb = .arr 29 [.int .i64 s, u, v] := by rw [hG, BH.row_set_eq]
  rw [← hG]
  have rt : G.rd none (some 3) (.ptr nb 0) = some (.agg [.int .i64 s, u, v]) := rd3 hrow rfl
  obtain ⟨G1, r1, k1⟩ := c18 (base := base) s bs es u v 1048576 G (hu.keeps hk) (hv.keeps hk) (by omega) (by omega) (by omega) (by omega) hz
  simp [rt]
  refine ⟨_, G1, r1, BH.KeepsTys.nil _ _, ?_⟩
  by_cases q : szT bs es 1048576 < 0
  · simp [q]
    exact hk.trans k1
  obtain ⟨m1, m2⟩ := szT_bound q (by omega)
  have rt1 := rd_keeps k1 rt
  have kG1 := hk.trans k1
  obtain ⟨x1, G2, r2, k2, u1, v1, rfl, b1, c1, ob1, oc1, _⟩ := c20 (base := base) s bs es u v G1 (hu.keeps kG1) (hv.keeps kG1) m1 m2
  obtain ⟨y, G3, r3, k3, bl, code, rfl, hbr⟩ := c35 (base := base) s bs es u1 v1 b1 c1 G2 ob1 oc1 m1 m2
  simp [q, rt1]
  refine ⟨_, G2, r2, BH.KeepsTys.nil _ _, ?_⟩
  simp
  refine ⟨_, G3, r3, BH.KeepsTys.nil _ _, ?_⟩
  have kG3 := (kG1.trans k2).trans k3
  have rt3 := rd_keeps (k2.trans k3) rt1
  obtain ⟨x2, G4, r4, k4, u2, v2, rfl, b2, c2, ob2, oc2, _⟩ := c20 (base := base) s bs es u v G3 (hu.keeps kG3) (hv.keeps kG3) m1 m2
  simp [rt3]
  refine ⟨_, G4, r4, BH.KeepsTys.nil _ _, ?_⟩
  simp
  intro n6 b6 f6
  simp [make_of f6 b6, new3 (K := G4) (base := base) (nb := n6) (ty := 34) (z := [.int .i64 0, .nils, .nils]) rfl b6 (one_int (k := .i64) (n := s)) (one_of_isSl ob2.isSl) (one_of_isSl oc2.isSl)]
  obtain ⟨B, hB⟩ : ∃ B, B = G4.set n6 (.arr 34 [.int .i64 s, u2, v2]) := ⟨_, rfl⟩
  have kB4 : G4.Keeps B := by rw [hB]; exact BH.keeps_set _ f6
  have rowB : B.row n6 = .arr 34 [.int .i64 s, u2, v2] := by rw [hB, BH.row_set_eq]
  rw [← hB]
  have rt6 : B.rd none (some 3) (.ptr n6 0) = some (.agg [.int .i64 s, u2, v2]) := rd3 rowB rfl
  obtain ⟨y2, G5, r5, k5, bl2, code2, rfl, hbr2⟩ := c36 (base := base) s bs es u2 v2 b2 c2 B (ob2.keeps kB4) (oc2.keeps kB4) m1 m2
  obtain ⟨rfl, rfl⟩ := hbr.uniq hbr2
  simp [rt6]
  refine ⟨_, G5, r5, BH.KeepsTys.nil _ _, ?_⟩
  have kG5 := ((kG3.trans k4).trans kB4).trans k5
  have rt6b : G5.rd (some 34) (some 3) (.ptr n6 0) = some (.agg [.int .i64 s, u2, v2]) := rd_keeps k5 (rd3 rowB rfl)
  have rt5 := rd_keeps ((k4.trans kB4).trans k5) rt3
  obtain ⟨x3, G7, r7, k7, u3, v3, rfl, b3, c3, ob3, oc3, _⟩ := c20 (base := base) s bs es u v G5 (hu.keeps kG5) (hv.keeps kG5) m1 m2
  simp [rt6b, rt5]
  refine ⟨_, G7, r7, k7.tys _, ?_⟩
  have kk := (kB4.trans k5).trans k7
  obtain ⟨G8, r8, k8⟩ := c22 (base := base) s s bs bs es es u2 v2 u3 v3 G7 (ob2.keeps kk).sls (oc2.keeps kk).sls ob3.sls oc3.sls (by omega) (by omega)
  rw [eqT_self] at r8
  simp
  refine ⟨_, G8, r8, BH.KeepsTys.nil _ _, ?_⟩
  simp
  exact (kG5.trans k7).trans k8
end Go.Proofs.Ytkmlmkbpdldjgaa.W
