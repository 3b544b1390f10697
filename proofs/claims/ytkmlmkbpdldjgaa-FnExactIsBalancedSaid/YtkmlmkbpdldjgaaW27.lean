/-
Transducers trimmed, by the book.
-/
import Derived.Test.YtkmlmkbpdldjgaaW26
namespace Go.Proofs.Ytkmlmkbpdldjgaa.W
set_option linter.unusedVariables false
set_option linter.unusedSimpArgs false
open Go.B
variable {base : Nat}
attribute [local simp] wpC_skip wpC_region wpC_seq wpC_true wpC_false wpC_block wpC_exit wpC_ret wpO_nil wpO_n wpO_tt wpO_ff wpO_tf wpO_ft wpO_u wpS_mov wpS_pick wpS_build wpS_load wpS_store wpS_nilck wpS_bin wpS_beq wpS_isnil wpS_eqs wpS_not wpS_neg wpS_conv wpS_lea wpS_fld wpS_idx wpS_idxs wpS_slice wpS_sslice wpS_mkfn wpS_mset wpS_look wpS_ext wpS_len wpS_new wpS_box wpS_mk wpS_mkmap wpS_mksl wpS_app wpS_fn wpS_call after_some Post.then Post.inBlock BExit.outOf puto_some puto_none put_eq put_ne Opd.ev argEnv op1_mov op1_pick op1_new op1_box op1_load op1_nilck op1_bin op1_beq op1_not op1_neg op1_conv op1_lea op1_fld op1_len0 op1_len1 op1_idx op1_ext op1_build op1_mk op1_stw op1_mksl op1_eqs pureBin isShift resOf resVals val_tmp val_cell oneOf one_int cells_int one_bool cells_bool one_str cells_str one_nilp cells_nilp one_ptr cells_ptr one_nils cells_nils one_sl cells_sl one_sle cells_sle one_nilm cells_nilm one_mp cells_mp one_nilf cells_nilf one_fn cells_fn one_nili cells_nili cells_agg isSl_sl slen_sl sat_sl make_of asm rtOk wpS_b2s op1_b2s op1_isnil Option.map_some gam_base op1_app

/-- Rows that live beside a transducer that is being built, and beside a row of numbers, stay. -/
def Sx (n nr : Nat) (bB cB : Option Nat) (B K : BH) (bo co : Option Nat) : Prop :=
  ∀ d, B.row d ≠ .fresh → d ≠ n → d ≠ nr → bB ≠ some d → cB ≠ some d → K.row d = B.row d ∧ bo ≠ some d ∧ co ≠ some d
section
variable {n nr : Nat} {bB cB bo co bo' co' : Option Nat} {B K L : BH}
theorem Sx.refl : Sx n nr bo co K K bo co := fun d h1 h2 h3 h4 h5 => ⟨rfl, h4, h5⟩
theorem Sx.sf (h : Sx n nr bB cB B K bo co) (k : Sf n bo co K L bo' co') : Sx n nr bB cB B L bo' co' := fun d h1 h2 h3 h4 h5 => by
  obtain ⟨e1, e2, e3⟩ := h d h1 h2 h3 h4 h5
  obtain ⟨f1, f2, f3⟩ := k d (by rw [e1]; exact h1) h2 e2 e3
  exact ⟨f1.trans e1, f2, f3⟩
theorem Sx.num (h : Sx n nr bB cB B K bo co) (k : ∀ d, d ≠ nr → L.row d = K.row d) : Sx n nr bB cB B L bo co := fun d h1 h2 h3 h4 h5 => by
  obtain ⟨e1, e2, e3⟩ := h d h1 h2 h3 h4 h5
  exact ⟨(k d h3).trans e1, e2, e3⟩
theorem Sx.keeps (h : Sx n nr bB cB B K bo co) (k : K.Keeps L) : Sx n nr bB cB B L bo co := fun d h1 h2 h3 h4 h5 => by
  obtain ⟨e1, e2, e3⟩ := h d h1 h2 h3 h4 h5
  exact ⟨by rw [k d (by rw [e1]; exact h1), e1], e2, e3⟩
theorem Sx.own (h : Sx n nr bB cB B K bo co) {ty sz : Nat} {w : BV} {xs : List (List BV)} {fo : Option Nat} (own : OwnN base B ty sz w xs fo) (fr : ∀ d, fo = some d → d ≠ n ∧ d ≠ nr ∧ bB ≠ some d ∧ cB ≠ some d) : OwnN base K ty sz w xs fo :=
  own.stay fun d hd => (h d (by rw [own.live hd]; simp) (fr d hd).1 (fr d hd).2.1 (fr d hd).2.2.1 (fr d hd).2.2.2).1
theorem keeps_num {H : BH} (hk : H.Keeps K) (hf : H.row nr = .fresh) (k : ∀ d, d ≠ nr → L.row d = K.row d) : H.Keeps L := fun d hd => by
  rw [k d (by rintro rfl; exact hd hf)]
  exact hk d hd
theorem Bld.num {H : BH} {s : Int} {u v : BV} {bs : List Bool} {es : List E4} (h : Bld base H K n s u v bs es bo co) {cs : List BV} (hr : K.row nr = .arr 2 cs) (k : ∀ d, d ≠ nr → L.row d = K.row d) : Bld base H L n s u v bs es bo co := by
  have h1 : n ≠ nr := by
    rintro rfl
    rw [h.row] at hr
    cases hr
  exact ⟨by rw [k n h1, h.row], h.fl.stay fun d hd => k d (by rintro rfl; exact ne_row h.fl hr (by omega) hd), h.ed.stay fun d hd => k d (by rintro rfl; exact ne_row h.ed hr (by omega) hd), h.fb, h.fc, h.fn, h.own⟩
theorem num_keep {H : BH} {s : Int} {u v nw : BV} {bs : List Bool} {es : List E4} {xs : List (List BV)} (own : OwnN base K 2 1 nw xs (some nr)) (h : Bld base H K n s u v bs es bo co) (k : Sf n bo co K L bo' co') : OwnN base L 2 1 nw xs (some nr) := by
  have hr := own.live rfl
  exact (k.own own fun d hd => by
    cases hd
    exact ⟨(by rintro rfl; rw [h.row] at hr; cases hr), ne_row h.fl hr (by omega), ne_row h.ed hr (by omega)⟩).1
/-- The number of the first state is set. -/
theorem Bld.start {H : BH} {s s' : Int} {u v : BV} {bs : List Bool} {es : List E4} (h : Bld base H K n s u v bs es bo co) (hk : H.Keeps K) :
    ∃ K2, K.wr base none 1 (.ptr n 0) (.int .i64 s') = some K2 ∧ Bld base H K2 n s' u v bs es bo co ∧ H.Keeps K2 ∧ Sf n bo co K K2 bo co := by
  have hw := wr_row (base := base) (o := 0) (n := 1) (v := .int .i64 s') (rt := none) h.row rfl h.own rfl (by simp) rfl
  refine ⟨_, hw, ⟨BH.row_set_eq _ _ _, h.fl.stay fun d hd => BH.row_set_ne _ _ ?_, h.ed.stay fun d hd => BH.row_set_ne _ _ ?_, h.fb, h.fc, h.fn, h.own⟩, hk.set h.fn _, fun d h1 h2 h3 h4 => ⟨BH.row_set_ne _ _ h2, h3, h4⟩⟩
  · rintro rfl
    exact ne_row h.fl h.row (by omega) hd
  · rintro rfl
    exact ne_row h.ed h.row (by omega) hd
end
theorem own_setI {K : BH} {w : BV} {xs : List (List BV)} {b t : Nat} {x : Int} (own : OwnN base K 2 1 w xs (some b)) (h : t < xs.length) :
    w.sat t 1 = .ptr b t ∧ ∃ K', K.wr base none 1 (.ptr b t) (.int .i64 x) = some K' ∧ OwnN base K' 2 1 w (xs.set t (encI x)) (some b) ∧ ∀ d, d ≠ b → K'.row d = K.row d := by
  have hl : (xs[t]).length = 1 := OwnS.all own _ (List.getElem_mem h)
  obtain ⟨b', K', hb, h1, h2, h3, h4⟩ := own.wr (i := t) (j := 0) (u := .int .i64 x) (rt := none) h (by omega) rfl rfl
  cases hb
  rw [Nat.mul_one] at h1 h2
  refine ⟨h1, K', by simpa using h2, ?_, fun d hd => h4 d (by rintro e; cases e; exact hd rfl)⟩
  have : (xs[t]).set 0 (.int .i64 x) = encI x := by
    match hx : xs[t], hl with
    | [y], _ => rfl
  rw [this] at h3
  exact h3
theorem own_some {K : BH} {ty sz : Nat} {w : BV} {xs : List (List BV)} {bo : Option Nat} (h : OwnN base K ty sz w xs bo) (hx : 0 < xs.length) : ∃ b, bo = some b := by
  cases bo with
  | none => obtain ⟨_, rfl⟩ := h; simp at hx
  | some b => exact ⟨b, rfl⟩
theorem mix_at {f : Nat → List BV} {xs : List (List BV)} {n i : Nat} (h : i < n) (hn : xs.length ≤ n) : (mixOf f xs n)[i]? = some (f i) := by
  rw [mix_end hn]
  simp [h]

theorem c69 (s : Int) (bs : List Bool) (es : List E4) (u v : BV) (b c m : Nat) (H : BH) (rm : H.row m = .arr 34 [.int .i64 s, u, v]) (ou : OwnS base H 4 1 u (bs.map encB) b) (ov : OwnS base H 54 4 v (es.map E4.enc) c) (hv : validB s bs.length es = true) :
    ∃ x H', Runs (gam base) 69 [.ptr m 0] H x H' ∧ H.Keeps H' ∧ ∃ u' v' bo co, x = .agg [.int .i64 (numS (selT s bs es) s.toNat), u', v'] ∧ OwnN base H' 4 1 u' ((accS (selT s bs es) bs bs.length).map encB) bo ∧
      OwnN base H' 54 4 v' ((es.flatMap (selE (selT s bs es))).map E4.enc) co ∧ Fr H bo ∧ Fr H co := by
  refine call_of_wp (fn := ir69) (R := fun x H' => H.Keeps H' ∧ ∃ u' v' bo co, x = .agg [.int .i64 (numS (selT s bs es) s.toNat), u', v'] ∧ OwnN base H' 4 1 u' ((accS (selT s bs es) bs bs.length).map encB) bo ∧
      OwnN base H' 54 4 v' ((es.flatMap (selE (selT s bs es))).map E4.enc) co ∧ Fr H bo ∧ Fr H co) rfl ?_
  have hlu : u.slen = bs.length := by rw [ou.sls.len]; simp
  have hlv : v.slen = es.length := by rw [ov.sls.len]; simp
  obtain ⟨hsm, hs0, hs1⟩ := validB_small hv
  obtain ⟨hl1, hl2⟩ := validB_len hv
  have hin := validB_inR hv
  have hst : s.toNat < bs.length := by omega
  simp [ir69]
  intro n2 b2 f2
  simp [make_of f2 b2]
  obtain ⟨A, hA⟩ : ∃ A, A = H.set n2 (.arr 34 [.int .i64 0, .nils, .nils]) := ⟨_, rfl⟩
  have kA : H.Keeps A := by rw [hA]; exact BH.keeps_set _ f2
  have a2 : A.row n2 = .arr 34 [.int .i64 0, .nils, .nils] := by rw [hA, BH.row_set_eq]
  have am : A.row m = .arr 34 [.int .i64 s, u, v] := by rw [kA m (by rw [rm]; simp), rm]
  rw [← hA]
  obtain ⟨q0, q1, q2, _⟩ := rows3 am (rt := none) rfl
  have hc1 : (bs.length : Int) ≤ 140737488355328 := by omega
  simp [q1, ou.isSl, hlu, hc1]
  intro n3 b3 f3
  simp [make_of f3 b3]
  obtain ⟨rp, hrp⟩ : ∃ rp, rp = List.replicate bs.length (BV.bool false) := ⟨_, rfl⟩
  rw [← hrp]
  obtain ⟨A1, hA1⟩ : ∃ A1, A1 = A.set n3 (.arr 4 rp) := ⟨_, rfl⟩
  have kA1 : A.Keeps A1 := by rw [hA1]; exact BH.keeps_set _ f3
  have own1 : OwnN base A1 4 1 (.sl n3 0 bs.length) ((List.replicate bs.length false).map encB) (some n3) := ⟨by simp, by rw [hA1, BH.row_set_eq, hrp]; simp [encB], b3, encBs_all _⟩
  rw [← hA1]
  have kHA1 := kA.trans kA1
  have am1 : A1.row m = .arr 34 [.int .i64 s, u, v] := by rw [kHA1 m (by rw [rm]; simp), rm]
  obtain ⟨q0, _, _, _⟩ := rows3 am1 (rt := none) rfl
  -- the states that are reached
  obtain ⟨hsat1, A2, hw1, own2, hk2⟩ := own_setB (x := true) own1 (t := s.toNat) (by simpa using hst)
  have f3H : H.row n3 = .fresh := kA.fresh f3
  have kHA2 := keeps_num kHA1 f3H hk2
  have am2 : A2.row m = .arr 34 [.int .i64 s, u, v] := by rw [kHA2 m (by rw [rm]; simp), rm]
  have hstl : (startB bs.length s).length = bs.length := by simp [startB]
  obtain ⟨A3, r3, own3, hk3⟩ := c81 (base := base) false s es (startB bs.length s) u v (.sl n3 0 bs.length) c m n3 A2 am2 (ov.keeps kHA2) own2 (by rw [hstl]; exact hin) (by rw [hstl]; exact hl1) hl2
  rw [hstl] at own3
  obtain ⟨F, hF⟩ : ∃ F, F = iter (passL false es) bs.length (startB bs.length s) := ⟨_, rfl⟩
  rw [← hF] at own3
  have kHA3 := keeps_num kHA2 f3H hk3
  have hs1' : s < bs.length := hs1
  simp only [sat_sl, Nat.zero_add, Nat.mul_one] at hsat1
  simp [q0, hs0, hs1', hw1]
  refine ⟨_, A3, r3, BH.KeepsTys.nil _ _, ?_⟩
  have am3 : A3.row m = .arr 34 [.int .i64 s, u, v] := by rw [kHA3 m (by rw [rm]; simp), rm]
  -- those that lead to an end
  simp [fillB]
  intro n4 b4 f4
  simp [make_of f4 b4]
  have ks4 := BH.keeps_set (H := A3) (.arr 4 []) f4
  obtain ⟨_, p1, _, _⟩ := rows3 (K := A3.set n4 (.arr 4 [])) (n := m) (by rw [ks4 m (by rw [am3]; simp), am3]) (rt := none) rfl
  simp [p1]
  intro n5 b5 f5
  have on4 : OwnN base (A3.set n4 (.arr 4 [])) 4 1 (.sl n4 0 0) [] (some n4) := ⟨rfl, by rw [BH.row_set_eq]; rfl, b4, fun _ h => by cases h⟩
  obtain ⟨w2, A4, lo, h1, own4, hkA4, fr4, h5, h6⟩ := appd_own (base := base) (bytes := 1) (nb := n5) (kHA3.trans ks4) (Fr.some (kHA3.fresh f4)) on4 (OwnN.cells (bo := some b) ((ou.keeps kHA3).keeps ks4)) (encBs_all bs) (encBs_one bs) (by omega) (by simp; omega) (by simp; omega) f5 b5
  obtain ⟨l2, rfl⟩ := own_some own4 (by simp; omega)
  have own4' : OwnS base A4 4 1 w2 (bs.map encB) l2 := own4
  have am4 : A4.row m = .arr 34 [.int .i64 s, u, v] := by rw [hkA4 m (by rw [rm]; simp), rm]
  obtain ⟨A5, r5, own5, hk5⟩ := c81 (base := base) true s es bs u v w2 c m l2 A4 am4 (ov.keeps hkA4) own4' hin hl1 hl2
  obtain ⟨L, hL⟩ : ∃ L, L = iter (passL true es) bs.length bs := ⟨_, rfl⟩
  rw [← hL] at own5
  simp [h1]
  refine ⟨_, A5, r5, BH.KeepsTys.nil _ _, ?_⟩
  have fl2 : H.row l2 = .fresh := fr4 l2 rfl
  have kHA5 := keeps_num hkA4 fl2 hk5
  have n34 : n3 ≠ n4 := by
    rintro rfl
    rw [own3.row] at f4
    cases f4
  have own34 : OwnS base (A3.set n4 (.arr 4 [])) 4 1 (.sl n3 0 bs.length) (F.map encB) n3 := own3.keeps ks4
  have n3l : n3 ≠ l2 := by
    rintro rfl
    have := h6 n3 rfl
    rw [own34.row] at this
    cases this
  have own3A5 : OwnS base A5 4 1 (.sl n3 0 bs.length) (F.map encB) n3 := by
    refine (own34.stay (K := A4) (h5 n3 (by rintro h; cases h; exact n34 rfl) (by rw [own34.row]; simp))).stay (hk5 n3 n3l)
  have a25 : A5.row n2 = .arr 34 [.int .i64 0, .nils, .nils] := by
    have e1 : A1.row n2 = .arr 34 [.int .i64 0, .nils, .nils] := by rw [kA1 n2 (by rw [a2]; simp), a2]
    have d1 : n2 ≠ n3 := by rintro rfl; rw [f3] at a2; cases a2
    have e2 : A2.row n2 = .arr 34 [.int .i64 0, .nils, .nils] := by rw [hk2 n2 d1, e1]
    have e3 : A3.row n2 = .arr 34 [.int .i64 0, .nils, .nils] := by rw [hk3 n2 d1, e2]
    have d2 : n2 ≠ n4 := by rintro rfl; rw [f4] at e3; cases e3
    have e4 : A4.row n2 = .arr 34 [.int .i64 0, .nils, .nils] := by
      have : (A3.set n4 (.arr 4 [])).row n2 = .arr 34 [.int .i64 0, .nils, .nils] := by rw [BH.row_set_ne _ _ d2, e3]
      rw [h5 n2 (by rintro h; cases h; exact d2 rfl) (by rw [this]; simp), this]
    have d3 : n2 ≠ l2 := by rintro rfl; rw [own4'.row] at e4; cases e4
    rw [hk5 n2 d3, e4]
  -- the numbers
  have hc8 : 8 * (bs.length : Int) ≤ 140737488355328 := by omega
  simp [hc1, hc8]
  intro n6 b6 f6
  simp [make_of f6 b6, fillB]
  obtain ⟨rq, hrq⟩ : ∃ rq, rq = List.replicate bs.length (BV.int .i64 0) := ⟨_, rfl⟩
  rw [← hrq]
  obtain ⟨A6, hA6⟩ : ∃ A6, A6 = A5.set n6 (.arr 2 rq) := ⟨_, rfl⟩
  have kA6 : A5.Keeps A6 := by rw [hA6]; exact BH.keeps_set _ f6
  have own6 : OwnN base A6 2 1 (.sl n6 0 bs.length) (List.replicate bs.length (encI 0)) (some n6) := ⟨by simp, by rw [hA6, BH.row_set_eq, hrq]; simp [encI], b6, by
    intro x hx
    rw [List.mem_replicate] at hx
    rw [hx.2]
    rfl⟩
  rw [← hA6]
  intro n7 b7 f7
  simp [make_of f7 b7, new3 (K := A6) (base := base) (nb := n7) (ty := 34) (z := [.int .i64 0, .nils, .nils]) rfl b7 (one_int (k := .i64) (n := 0)) one_nils one_nils]
  obtain ⟨B, hB⟩ : ∃ B, B = A6.set n7 (.arr 34 [.int .i64 0, .nils, .nils]) := ⟨_, rfl⟩
  have kB6 : A6.Keeps B := by rw [hB]; exact BH.keeps_set _ f7
  have kB5 := kA6.trans kB6
  have kHB := kHA5.trans kB5
  have rB : B.row n7 = .arr 34 [.int .i64 0, .nils, .nils] := by rw [hB, BH.row_set_eq]
  rw [← hB]
  have f6H : H.row n6 = .fresh := kHA5.fresh f6
  have bl : Bld base H B n7 0 .nils .nils [] [] none none := ⟨rB, ⟨rfl, rfl⟩, ⟨rfl, rfl⟩, Fr.none, Fr.none, (kHA5.trans kA6).fresh f7, b7⟩
  have onB := own6.keeps kB6
  have ofB : OwnN base B 4 1 (.sl n3 0 bs.length) (F.map encB) (some n3) := own3A5.keeps kB5
  have olB : OwnN base B 4 1 w2 (L.map encB) (some l2) := own5.keeps kB5
  have rB2 : B.row n2 = .arr 34 [.int .i64 0, .nils, .nils] := by rw [kB5 n2 (by rw [a25]; simp), a25]
  have frF : ∀ d, some n3 = some d → d ≠ n7 ∧ d ≠ n6 ∧ (none : Option Nat) ≠ some d ∧ (none : Option Nat) ≠ some d := fun d hd => by
    cases hd
    refine ⟨?_, ?_, by simp, by simp⟩
    · rintro rfl
      have := ofB.live rfl
      rw [rB] at this
      cases this
    · rintro rfl
      have := own3A5.row
      rw [f6] at this
      cases this
  have frL : ∀ d, some l2 = some d → d ≠ n7 ∧ d ≠ n6 ∧ (none : Option Nat) ≠ some d ∧ (none : Option Nat) ≠ some d := fun d hd => by
    cases hd
    refine ⟨?_, ?_, by simp, by simp⟩
    · rintro rfl
      have := olB.live rfl
      rw [rB] at this
      cases this
    · rintro rfl
      have := own5.row
      rw [f6] at this
      cases this
  have n27 : n2 ≠ n7 := by
    rintro rfl
    rw [kA6 n2 (by rw [a25]; simp), a25] at f7
    cases f7
  have n26 : n2 ≠ n6 := by
    rintro rfl
    rw [f6] at a25
    cases a25
  have lF : F.length = bs.length := by rw [hF, iter_len, hstl]
  have lL : L.length = bs.length := by rw [hL, iter_len]
  obtain ⟨sel, hsel⟩ : ∃ sel, sel = selT s bs es := ⟨_, rfl⟩
  have selq : ∀ q, sel q = ((F.getD q false && L.getD q false) || ((q : Int) == s)) := fun q => by rw [hsel, hF, hL]; rfl
  rw [← hsel]
  obtain ⟨zs, hzs⟩ : ∃ zs, zs = List.replicate bs.length (encI 0) := ⟨_, rfl⟩
  have hzl : zs.length = bs.length := by rw [hzs]; simp
  rw [← hzs] at onB
  refine wpC_count bs.length (fun q e K => e 0 = .ptr m 0 ∧ e 2 = .ptr n2 0 ∧ e 3 = .int .i64 bs.length ∧ e 4 = .sl n3 0 bs.length ∧ e 5 = w2 ∧ e 6 = .sl n6 0 bs.length ∧ e 7 = .ptr n7 0 ∧ e 8 = .int .i64 q ∧ H.Keeps K ∧
    OwnN base K 2 1 (.sl n6 0 bs.length) (mixOf (fun q => encI (numS sel q)) zs q) (some n6) ∧ ∃ w bo, Bld base H K n7 0 w .nils (accS sel bs q) [] bo none ∧ Sx n7 n6 none none B K bo none) (i0 := 0) ?_ (Nat.zero_le _) ?_
  · exact ⟨rfl, rfl, rfl, rfl, rfl, rfl, rfl, rfl, kHB, by rw [mix_zero]; exact onB, .nils, none, by simpa [accS] using bl, Sx.refl⟩
  rintro q e K hq ⟨e0, e2, e3, e4, e5, e6, e7, e8, hk, own, w, bo, bld, sx⟩
  have rmK : K.row m = .arr 34 [.int .i64 s, u, v] := by rw [hk m (by rw [rm]; simp), rm]
  by_cases hlt : q < bs.length
  · have hmq : q < (mixOf (fun q => encI (numS sel q)) zs q).length := by rw [mix_len (by omega)]; omega
    have hset := mix_set (f := fun q => encI (numS sel q)) (xs := zs) (i := q) (by omega)
    have wq1 : IntKind.i64.wrap ((q : Int) + 1) = (q : Int) + 1 := w64 (by omega) (by omega)
    obtain ⟨hsn, K1, hwn, ownN1, hkn1⟩ := own_setI (x := -1) own hmq
    simp only [sat_sl, Nat.zero_add, Nat.mul_one] at hsn
    have hkK1 := keeps_num hk f6H hkn1
    have bld1 := bld.num (own.live rfl) hkn1
    have sx1 := sx.num hkn1
    have ofK := sx1.own ofB frF
    have olK := sx1.own olB frL
    have rmK1 : K1.row m = .arr 34 [.int .i64 s, u, v] := by rw [hkK1 m (by rw [rm]; simp), rm]
    obtain ⟨x0, x1, _, _⟩ := rows3 rmK1 (rt := none) rfl
    have rdF : K1.rd none none (.ptr n3 q) = some (.bool (F.getD q false)) := by
      have := ofK.sls.rd1 (i := q) (c := .bool (F.getD q false)) (by simp [encB, lF, hlt]) (rt := none) rfl
      simpa [sat_sl] using this
    have rdL : K1.rd none none (w2.sat q 1) = some (.bool (L.getD q false)) := olK.sls.rd1 (i := q) (by simp [encB, lL, hlt]) rfl
    have lw2 : w2.slen = bs.length := by rw [olK.len]; simp [lL]
    simp [e0, e2, e3, e4, e5, e6, e7, e8, hlt, hwn]
    rw [rdF]
    simp only [Option.map_some, after_some, puto_some]
    refine wpO_cut (fun e M => e 0 = .ptr m 0 ∧ e 2 = .ptr n2 0 ∧ e 3 = .int .i64 bs.length ∧ e 4 = .sl n3 0 bs.length ∧ e 5 = w2 ∧ e 6 = .sl n6 0 bs.length ∧ e 7 = .ptr n7 0 ∧ e 8 = .int .i64 q ∧ e 63 = .bool (sel q) ∧ M = K1) ?_ ?_
    · rw [selq]
      cases c1 : F.getD q false
      · simp [e0, e2, e3, e4, e5, e6, e7, e8, x0]
      · cases c2 : L.getD q false
        · rw [c2] at rdL
          simp [e0, e2, e3, e4, e5, e6, e7, e8, olK.isSl, lw2, hlt, rdL, x0]
        · rw [c2] at rdL
          simp [e0, e2, e3, e4, e5, e6, e7, e8, olK.isSl, lw2, hlt, rdL, x0]
    clear e0 e2 e3 e4 e5 e6 e7 e8
    rintro e M ⟨e0, e2, e3, e4, e5, e6, e7, e8, e63, rfl⟩
    cases hs : sel q
    · rw [hs] at e63
      simp [e0, e2, e3, e4, e5, e6, e7, e8, e63, wq1]
      have hnum : numS sel q = -1 := by simp [numS, hs]
      have hacc := accS_succ (sel := sel) (bs := bs) (i := q)
      rw [hs] at hacc
      simp only [Bool.false_eq_true, if_false, List.append_nil] at hacc
      refine ⟨hkK1, ?_, w, bo, by rw [hacc]; exact bld1, sx1⟩
      rw [← hset, hnum]
      exact ownN1
    · rw [hs] at e63
      have hnum : numS sel q = cntS sel q := by simp [numS, hs]
      have hacc := accS_succ (sel := sel) (bs := bs) (i := q)
      rw [hs] at hacc
      simp only [if_true] at hacc
      have lenA : w.slen = cntS sel q := by rw [bld1.fl.len]; simp [accS_len]
      obtain ⟨_, y1, _, _⟩ := bld1.rd (rt := none) rfl
      obtain ⟨hsn2, K2, hwn2, ownN2, hkn2⟩ := own_setI (t := q) (x := (cntS sel q : Int)) ownN1 (by rw [List.length_set]; exact hmq)
      rw [List.set_set] at ownN2
      have ownN2' : OwnN base K2 2 1 (.sl n6 0 bs.length) (mixOf (fun q => encI (numS sel q)) zs (q + 1)) (some n6) := by rw [← hset, hnum]; exact ownN2
      have hkK2 := keeps_num hkK1 f6H hkn2
      have bld2 := bld1.num (ownN1.live rfl) hkn2
      have sx2 := sx1.num hkn2
      have rmK2 : K2.row m = .arr 34 [.int .i64 s, u, v] := by rw [hkK2 m (by rw [rm]; simp), rm]
      obtain ⟨_, z1, _, _⟩ := rows3 rmK2 (rt := none) rfl
      obtain ⟨_, y21, _, _⟩ := bld2.rd (rt := none) rfl
      have rdb : K2.rd none none (u.sat q 1) = some (.bool bs[q]) := (ou.sls.keeps hkK2).rd1 (by simp [hlt, encB]) rfl
      simp [e0, e2, e3, e4, e5, e6, e7, e8, e63, y1, bld1.fl.isSl, lenA, hlt, hwn2, y21, z1, ou.isSl, hlu, rdb, fillB]
      intro na hna fna
      simp [make_of fna hna]
      intro nb hnb fnb
      have hcn := cntS_le (sel := sel) (i := q)
      obtain ⟨w', K', K3, bo', i1, i2, i3, i4, i5⟩ := bld2.push1B hkK2 bs[q] (by rw [accS_len]; omega) fna fnb hnb
      simp [i1, i2, e0, e2, e3, e4, e5, e6, e7, e8, wq1, hlt]
      refine ⟨i4, num_keep ownN2' bld2 i5, w', bo', ?_, sx2.sf i5⟩
      rw [hacc]
      have : bs.getD q false = bs[q] := by simp [List.getD, List.getElem?_eq_getElem hlt]
      rw [this]
      exact i3
  have hqe : q = bs.length := by omega
  subst hqe
  have numAt : ∀ (K : BH), OwnN base K 2 1 (.sl n6 0 bs.length) (mixOf (fun q => encI (numS sel q)) zs bs.length) (some n6) → ∀ i : Nat, i < bs.length → K.rd none none (.ptr n6 i) = some (.int .i64 (numS sel i)) := fun K own i hi => by
    have := own.sls.rd1 (i := i) (c := .int .i64 (numS sel i)) (by rw [mix_at hi (by omega)]; rfl) (rt := none) rfl
    simpa [sat_sl] using this
  obtain ⟨x0, x1, x2, _⟩ := rows3 rmK (rt := none) rfl
  have rdS := numAt K own s.toNat hst
  obtain ⟨K2, hwS, bldS, hkS, sfS⟩ := bld.start (s' := numS sel s.toNat) hk
  have ownS := num_keep own bld sfS
  have sxS := sx.sf sfS
  simp [e0, e2, e3, e4, e5, e6, e7, e8, x0, hs0, hs1', rdS, hwS]
  refine wpC_count es.length (fun i e N => e 0 = .ptr m 0 ∧ e 2 = .ptr n2 0 ∧ e 6 = .sl n6 0 bs.length ∧ e 7 = .ptr n7 0 ∧ e 9 = .int .i64 i ∧ H.Keeps N ∧
    OwnN base N 2 1 (.sl n6 0 bs.length) (mixOf (fun q => encI (numS sel q)) zs bs.length) (some n6) ∧ ∃ x co, Bld base H N n7 (numS sel s.toNat) w x (accS sel bs bs.length) ((es.take i).flatMap (selE sel)) bo co ∧ Sx n7 n6 none none B N bo co) (i0 := 0) ?_ (Nat.zero_le _) ?_
  · exact ⟨by simp [e0], by simp [e2], by simp [e6], by simp [e7], by simp, hkS, ownS, .nils, none, by simpa using bldS, sxS⟩
  clear e0 e2 e3 e4 e5 e6 e7 e8
  rintro i e N hi ⟨e0, e2, e6, e7, e9, hkN, ownN, xN, coN, bldN, sxN⟩
  have rmN : N.row m = .arr 34 [.int .i64 s, u, v] := by rw [hkN m (by rw [rm]; simp), rm]
  obtain ⟨_, _, x2, _⟩ := rows3 rmN (rt := none) rfl
  by_cases hlt : i < es.length
  · have hrd : N.rd none (some 4) (v.sat i 4) = some (.agg (E4.enc es[i])) := (ov.sls.keeps hkN).rd (by simp [hlt]) rfl
    have wi1 : IntKind.i64.wrap ((i : Int) + 1) = (i : Int) + 1 := w64 (by omega) (by omega)
    have htk := take_flatMap_succ (f := selE sel) hlt
    have hin' := hin es[i] (List.getElem_mem hlt)
    obtain ⟨el, hel⟩ : ∃ el, el = es[i] := ⟨_, rfl⟩
    rw [← hel] at hrd htk hin'
    have hp := flatMap_len (l := es.take i) (f := selE sel) (B := 1) fun _ _ => selE_len
    simp [e0, e2, e6, e7, e9, x2, ov.isSl, hlv, hlt, hrd]
    intro n10 b10 f10
    simp [make_of f10 b10, new4 (base := base) (K := N) (nb := n10) (z := [.int .i64 0, .int .i64 0, .str ⟨#[]⟩, .str ⟨#[]⟩]) (e := el) rfl b10]
    obtain ⟨N1, hN1⟩ : ∃ N1, N1 = N.set n10 (.arr 54 el.enc) := ⟨_, rfl⟩
    have kN1 : N.Keeps N1 := by rw [hN1]; exact BH.keeps_set _ f10
    have r10 : N1.row n10 = .arr 54 el.enc := by rw [hN1, BH.row_set_eq]
    rw [← hN1]
    have bldN1 := bldN.keeps kN1
    have hkN1 := hkN.trans kN1
    have sxN1 := sxN.keeps kN1
    have ownN1 := ownN.keeps kN1
    obtain ⟨z0, z1, z2, z3⟩ := edge_rd r10
    obtain ⟨_, _, y2, _⟩ := bldN1.rd (rt := none) rfl
    have g1 := numAt N1 ownN1 el.f.toNat (by omega)
    have g2 := numAt N1 ownN1 el.t.toNat (by omega)
    have t1 : el.f < bs.length := by omega
    have t2 : el.t < bs.length := by omega
    by_cases c1 : 0 ≤ numS sel el.f.toNat
    · by_cases c2 : 0 ≤ numS sel el.t.toNat
      · have hse : selE sel el = [⟨numS sel el.f.toNat, numS sel el.t.toNat, el.i, el.o⟩] := by simp [selE, c1, c2]
        rw [hse] at htk
        simp [e0, e2, e6, e7, e9, z0, z1, z2, z3, hin'.1, hin'.2.2.1, t1, t2, g1, g2, c1, c2, y2, fillB]
        intro na hna fna
        simp [make_of fna hna]
        intro nb hnb fnb
        obtain ⟨v'', K5, K6, co', i1, i2, i3, i4, i5⟩ := bldN1.push1S hkN1 ⟨numS sel el.f.toNat, numS sel el.t.toNat, el.i, el.o⟩ (by simp only [List.length_take] at hp; omega) fna (nb := nb) fnb hnb
        have hen : (E4.mk (numS sel el.f.toNat) (numS sel el.t.toNat) el.i el.o).enc = [.int .i64 (numS sel el.f.toNat), .int .i64 (numS sel el.t.toNat), .str el.i, .str el.o] := rfl
        rw [hen] at i1
        simp [i1, i2, e0, e2, e6, e7, e9, hlt, wi1]
        refine ⟨i4, num_keep ownN1 bldN1 i5, v'', co', ?_, sxN1.sf i5⟩
        rw [htk]
        exact i3
      · have hse : selE sel el = [] := by simp [selE, c2]
        rw [hse, List.append_nil] at htk
        simp [e0, e2, e6, e7, e9, z0, z1, hin'.1, hin'.2.2.1, t1, t2, g1, g2, c1, c2, wi1]
        exact ⟨hkN1, ownN1, xN, coN, by rw [htk]; exact bldN1, sxN1⟩
    · have hse : selE sel el = [] := by simp [selE, c1]
      rw [hse, List.append_nil] at htk
      simp [e0, e2, e6, e7, e9, z0, hin'.1, t1, g1, c1, wi1]
      exact ⟨hkN1, ownN1, xN, coN, by rw [htk]; exact bldN1, sxN1⟩
  · have hie : i = es.length := by omega
    subst hie
    rw [List.take_length] at bldN
    have rN2 : N.row n2 = .arr 34 [.int .i64 0, .nils, .nils] := by rw [(sxN n2 (by rw [rB2]; simp) n27 n26 (by simp) (by simp)).1, rB2]
    obtain ⟨_, _, _, y3⟩ := bldN.rd (rt := none) rfl
    have hw := set3 (base := base) rN2 b2 (one_int (k := .i64) (n := numS sel s.toNat)) bldN.fl.one bldN.ed.one
    obtain ⟨_, _, _, z4⟩ := rows3 (K := N.set n2 (.arr 34 [.int .i64 (numS sel s.toNat), w, xN])) (n := n2) (BH.row_set_eq _ _ _) (rt := none) rfl
    simp [e0, e2, e6, e7, e9, x2, ov.isSl, hlv, y3, hw, z4]
    refine ⟨hkN.set f2 _, w, xN, ⟨rfl, rfl⟩, bo, bldN.fl.stay fun d hd => BH.row_set_ne _ _ ?_, coN, bldN.ed.stay fun d hd => BH.row_set_ne _ _ ?_, bldN.fb, bldN.fc⟩
    · rintro rfl
      exact ne_row bldN.fl rN2 (by omega) hd
    · rintro rfl
      exact ne_row bldN.ed rN2 (by omega) hd
end Go.Proofs.Ytkmlmkbpdldjgaa.W
