/-
What is reached, and trimmed, by the book.
-/
import Derived.Test.YtkmlmkbpdldjgaaW25
namespace Go.Proofs.Ytkmlmkbpdldjgaa.W
set_option linter.unusedVariables false
set_option linter.unusedSimpArgs false
open Go.B
variable {base : Nat}
attribute [local simp] wpC_skip wpC_region wpC_seq wpC_true wpC_false wpC_block wpC_exit wpC_ret wpO_nil wpO_n wpO_tt wpO_ff wpO_tf wpO_ft wpO_u wpS_mov wpS_pick wpS_build wpS_load wpS_store wpS_nilck wpS_bin wpS_beq wpS_isnil wpS_eqs wpS_not wpS_neg wpS_conv wpS_lea wpS_fld wpS_idx wpS_idxs wpS_slice wpS_sslice wpS_mkfn wpS_mset wpS_look wpS_ext wpS_len wpS_new wpS_box wpS_mk wpS_mkmap wpS_mksl wpS_app wpS_fn wpS_call after_some Post.then Post.inBlock BExit.outOf puto_some puto_none put_eq put_ne Opd.ev argEnv op1_mov op1_pick op1_new op1_box op1_load op1_nilck op1_bin op1_beq op1_not op1_neg op1_conv op1_lea op1_fld op1_len0 op1_len1 op1_idx op1_ext op1_build op1_mk op1_stw op1_mksl op1_eqs pureBin isShift resOf resVals val_tmp val_cell oneOf one_int cells_int one_bool cells_bool one_str cells_str one_nilp cells_nilp one_ptr cells_ptr one_nils cells_nils one_sl cells_sl one_sle cells_sle one_nilm cells_nilm one_mp cells_mp one_nilf cells_nilf one_fn cells_fn one_nili cells_nili cells_agg isSl_sl slen_sl sat_sl make_of asm rtOk wpS_b2s op1_b2s op1_isnil Option.map_some gam_base op1_app

def encI (i : Int) : List BV := [.int .i64 i]
theorem own_setB {K : BH} {w : BV} {l : List Bool} {b t : Nat} {x : Bool} (own : OwnN base K 4 1 w (l.map encB) (some b)) (h : t < l.length) :
    w.sat t 1 = .ptr b t ∧ ∃ K', K.wr base none 1 (.ptr b t) (.bool x) = some K' ∧ OwnN base K' 4 1 w ((l.set t x).map encB) (some b) ∧ ∀ d, d ≠ b → K'.row d = K.row d := by
  obtain ⟨b', K', hb, h1, h2, h3, h4⟩ := own.wr (i := t) (j := 0) (u := .bool x) (rt := none) (by simpa using h) (by omega) rfl rfl
  cases hb
  rw [Nat.mul_one] at h1 h2
  refine ⟨h1, K', by simpa using h2, ?_, fun d hd => h4 d (by rintro e; cases e; exact hd rfl)⟩
  have : (l.map encB).set t (((l.map encB)[t]'(by simpa using h)).set 0 (.bool x)) = (l.set t x).map encB := by simp [encB, List.map_set]
  rw [← this]
  exact h3

theorem c81 (back : Bool) (s : Int) (es : List E4) (st : List Bool) (u v w : BV) (c m b : Nat) (K : BH) (rm : K.row m = .arr 34 [.int .i64 s, u, v]) (ov : OwnS base K 54 4 v (es.map E4.enc) c) (ow : OwnS base K 4 1 w (st.map encB) b)
    (hin : InR st.length es) (hl : st.length ≤ 40) (he : es.length ≤ 200) :
    ∃ K', Runs (gam base) 81 [.ptr m 0, w, .bool back] K w K' ∧ OwnS base K' 4 1 w ((iter (passL back es) st.length st).map encB) b ∧ ∀ d, d ≠ b → K'.row d = K.row d := by
  have hmb : m ≠ b := by rintro rfl; rw [ow.row] at rm; cases rm
  have hcb : c ≠ b := by
    rintro rfl
    have := ov.row
    rw [ow.row] at this
    cases this
  have hlv : v.slen = es.length := by rw [ov.sls.len]; simp
  obtain ⟨x, K', h1, h2, h3, h4⟩ : ∃ x K', Runs (gam base) 81 [.ptr m 0, w, .bool back] K x K' ∧ x = w ∧ OwnS base K' 4 1 w ((iter (passL back es) st.length st).map encB) b ∧ ∀ d, d ≠ b → K'.row d = K.row d := by
    refine call_of_wp (fn := ir81) (R := fun x K' => x = w ∧ OwnS base K' 4 1 w ((iter (passL back es) st.length st).map encB) b ∧ ∀ d, d ≠ b → K'.row d = K.row d) rfl ?_
    simp [ir81]
    refine wpC_count (st.length + 2) (fun k e L => e 0 = .ptr m 0 ∧ e 1 = w ∧ e 2 = .bool back ∧ OwnN base L 4 1 w ((iter (passL back es) k st).map encB) (some b) ∧ (∀ d, d ≠ b → L.row d = K.row d) ∧ ∃ fl, e 7 = .bool fl ∧ (fl = true → k ≤ st.length) ∧ (fl = false → passL back es (iter (passL back es) k st) = iter (passL back es) k st)) (i0 := 0) ?_ (Nat.zero_le _) ?_
    · exact ⟨rfl, rfl, rfl, ow, fun _ _ => rfl, true, rfl, fun _ => Nat.zero_le _, fun h => by cases h⟩
    · rintro k e L hk ⟨e0, e1, e2, own, hkeep, fl, e7, hf1, hf2⟩
      cases fl
      · simp [e7, e1]
        refine ⟨?_, fun d hd => hkeep d (by simpa using hd)⟩
        have := iter_end (back := back) hin rfl (hf2 rfl)
        rw [this] at own
        exact own
      obtain ⟨X, hX⟩ : ∃ X, X = iter (passL back es) k st := ⟨_, rfl⟩
      have hXl : X.length = st.length := by rw [hX, iter_len]
      rw [← hX] at own
      have hk2 := hf1 rfl
      simp [e7]
      refine wpC_count es.length (fun i e M => e 0 = .ptr m 0 ∧ e 1 = w ∧ e 2 = .bool back ∧ e 8 = .int .i64 i ∧ OwnN base M 4 1 w ((passL back (es.take i) X).map encB) (some b) ∧ (∀ d, d ≠ b → M.row d = K.row d) ∧ ∃ fl, e 7 = .bool fl ∧ (fl = false → passL back (es.take i) X = X) ∧ (fl = true → cnt X < cnt (passL back (es.take i) X))) (i0 := 0) ?_ (Nat.zero_le _) ?_
      · exact ⟨by simp [e0], by simp [e1], by simp [e2], by simp, own, hkeep, false, by simp, fun _ => rfl, fun h => by cases h⟩
      clear e0 e1 e2 e7
      rintro i e M hi ⟨e0, e1, e2, e8, ownM, hkM, fl, e7, hg1, hg2⟩
      have rmM : M.row m = .arr 34 [.int .i64 s, u, v] := by rw [hkM m hmb, rm]
      have ovM : Sls M 54 4 v (es.map E4.enc) := (ov.stay (hkM c hcb)).sls
      obtain ⟨_, _, w3, _⟩ := rows3 rmM (rt := none) rfl
      by_cases hlt : i < es.length
      · have wi1 : IntKind.i64.wrap ((i : Int) + 1) = (i : Int) + 1 := w64 (by omega) (by omega)
        obtain ⟨bb, o, hsat, hf⟩ := ovM.fldt (i := i) (x := es[i].enc) (by simp [hlt])
        have f0 := hf none 0 (.int .i64 es[i].f) rfl rfl
        have f1 := hf none 1 (.int .i64 es[i].t) rfl rfl
        simp only [Nat.add_zero] at f0
        obtain ⟨Y, hY⟩ : ∃ Y, Y = passL back (es.take i) X := ⟨_, rfl⟩
        have hYl : Y.length = st.length := by rw [hY, pass_len, hXl]
        rw [← hY] at ownM hg1 hg2
        have hsn : passL back (es.take (i + 1)) X = stepE back Y es[i] := by
          rw [List.take_add_one, List.getElem?_eq_getElem hlt]
          show passL back (es.take i ++ [es[i]]) X = _
          rw [pass_snoc, ← hY]
        obtain ⟨hto, hfr⟩ := hin.to (List.getElem_mem hlt) back
        have hin' := hin es[i] (List.getElem_mem hlt)
        have hto' : toE back es[i] < Y.length := by omega
        have hlw : w.slen = st.length := by rw [ownM.len]; simp [hYl]
        have rdF : ∀ q : Nat, q < st.length → M.rd none none (w.sat q 1) = some (.bool (Y.getD q false)) := fun q hq => ownM.sls.rd1 (by simp [encB, hYl, hq]) rfl
        have key : (e' : Env) → e' 0 = .ptr m 0 → e' 1 = w → e' 2 = .bool back → e' 7 = .bool fl → e' 8 = .int .i64 i → True := fun _ _ _ _ _ _ => trivial
        have hYt : Y.getD (toE back es[i]) false = Y[toE back es[i]] := by simp [List.getD, List.getElem?_eq_getElem hto']
        cases q : (Y.getD (frE back es[i]) false && !Y.getD (toE back es[i]) false)
        · have hss := step_same q hto'
          rw [hss] at hsn
          cases back
          · simp only [frE, toE, Bool.false_eq_true, if_false] at q hto hfr rdF
            have r1 := rdF es[i].f.toNat hfr
            have r2 := rdF es[i].t.toNat hto
            have t1 : es[i].f < st.length := by omega
            have t2 : es[i].t < st.length := by omega
            cases q1 : Y.getD es[i].f.toNat false
            · rw [q1] at r1
              simp [e0, e1, e2, e7, e8, w3, ov.isSl, hlv, hlt, hsat, f0, f1, ownM.isSl, hlw, hin'.1, hin'.2.2.1, t1, t2, r1, wi1]
              exact ⟨by rw [hsn]; exact ownM, fun d hd => hkM d (by simpa using hd), (by rw [hsn]; cases fl with | false => exact .inl ⟨rfl, hg1 rfl⟩ | true => exact .inr ⟨rfl, hg2 rfl⟩)⟩
            · have q2 : Y.getD es[i].t.toNat false = true := by rw [q1] at q; simpa using q
              rw [q1] at r1
              rw [q2] at r2
              simp [e0, e1, e2, e7, e8, w3, ov.isSl, hlv, hlt, hsat, f0, f1, ownM.isSl, hlw, hin'.1, hin'.2.2.1, t1, t2, r1, r2, wi1]
              exact ⟨by rw [hsn]; exact ownM, fun d hd => hkM d (by simpa using hd), (by rw [hsn]; cases fl with | false => exact .inl ⟨rfl, hg1 rfl⟩ | true => exact .inr ⟨rfl, hg2 rfl⟩)⟩
          · simp only [frE, toE, if_true] at q hto hfr rdF
            have r1 := rdF es[i].t.toNat hfr
            have r2 := rdF es[i].f.toNat hto
            have t1 : es[i].f < st.length := by omega
            have t2 : es[i].t < st.length := by omega
            cases q1 : Y.getD es[i].t.toNat false
            · rw [q1] at r1
              simp [e0, e1, e2, e7, e8, w3, ov.isSl, hlv, hlt, hsat, f0, f1, ownM.isSl, hlw, hin'.1, hin'.2.2.1, t1, t2, r1, wi1]
              exact ⟨by rw [hsn]; exact ownM, fun d hd => hkM d (by simpa using hd), (by rw [hsn]; cases fl with | false => exact .inl ⟨rfl, hg1 rfl⟩ | true => exact .inr ⟨rfl, hg2 rfl⟩)⟩
            · have q2 : Y.getD es[i].f.toNat false = true := by rw [q1] at q; simpa using q
              rw [q1] at r1
              rw [q2] at r2
              simp [e0, e1, e2, e7, e8, w3, ov.isSl, hlv, hlt, hsat, f0, f1, ownM.isSl, hlw, hin'.1, hin'.2.2.1, t1, t2, r1, r2, wi1]
              exact ⟨by rw [hsn]; exact ownM, fun d hd => hkM d (by simpa using hd), (by rw [hsn]; cases fl with | false => exact .inl ⟨rfl, hg1 rfl⟩ | true => exact .inr ⟨rfl, hg2 rfl⟩)⟩
        · obtain ⟨hse, hcn⟩ := step_more q hto'
          obtain ⟨hsat', M', hw, ownM', hkM'⟩ := own_setB (x := true) ownM hto'
          rw [← hse] at ownM'
          have hgrow : cnt X < cnt (stepE back Y es[i]) := by
            rw [hcn]
            cases fl
            · rw [hg1 rfl]; omega
            · have := hg2 rfl; omega
          simp only [Bool.and_eq_true, Bool.not_eq_true'] at q
          have hkk : ∀ d, d ≠ b → M'.row d = K.row d := fun d hd => by rw [hkM' d hd, hkM d hd]
          cases back
          · simp only [frE, toE, Bool.false_eq_true, if_false] at q hto hfr rdF hsat' hw
            have r1 := rdF es[i].f.toNat hfr
            have r2 := rdF es[i].t.toNat hto
            have t1 : es[i].f < st.length := by omega
            have t2 : es[i].t < st.length := by omega
            rw [q.1] at r1
            rw [q.2, hsat'] at r2
            simp [e0, e1, e2, e7, e8, w3, ov.isSl, hlv, hlt, hsat, f0, f1, ownM.isSl, hlw, hin'.1, hin'.2.2.1, t1, t2, r1, hsat', r2, hw, wi1]
            exact ⟨by rw [hsn]; exact ownM', fun d hd => hkk d (by simpa using hd), by rw [hsn]; exact hgrow⟩
          · simp only [frE, toE, if_true] at q hto hfr rdF hsat' hw
            have r1 := rdF es[i].t.toNat hfr
            have r2 := rdF es[i].f.toNat hto
            have t1 : es[i].f < st.length := by omega
            have t2 : es[i].t < st.length := by omega
            rw [q.1] at r1
            rw [q.2, hsat'] at r2
            simp [e0, e1, e2, e7, e8, w3, ov.isSl, hlv, hlt, hsat, f0, f1, ownM.isSl, hlw, hin'.1, hin'.2.2.1, t1, t2, r1, hsat', r2, hw, wi1]
            exact ⟨by rw [hsn]; exact ownM', fun d hd => hkk d (by simpa using hd), by rw [hsn]; exact hgrow⟩
      · have hie : i = es.length := by omega
        subst hie
        rw [List.take_length] at ownM hg1 hg2
        simp [e0, e1, e2, e7, e8, w3, ov.isSl, hlv]
        have hnx : iter (passL back es) (k + 1) st = passL back es X := by rw [hX]; rfl
        refine ⟨by omega, by rw [hnx]; exact ownM, fun d hd => hkM d (by simpa using hd), ?_⟩
        cases fl with
        | false => exact .inl ⟨rfl, by rw [hnx, hg1 rfl, hg1 rfl]⟩
        | true =>
          have h1 := hg2 rfl
          have : k < st.length := iter_more (back := back) (es := es) (st := st) hin rfl (by
            rw [← hX]
            intro h
            rw [h] at h1
            omega)
          exact .inr ⟨rfl, by omega⟩
  subst h2
  exact ⟨K', h1, h3, h4⟩
end Go.Proofs.Ytkmlmkbpdldjgaa.W
