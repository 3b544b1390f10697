/-
Texts of our own, put together: S3, S4, S5, S6, S7, V1, V2, P1, P2, P3, P4, P5, N1, N2, N3, L1, L2, L3, O1, M1, M2, M3, M4, M5, M6, M7, M8, M9, A6, C11, C12, C13, C14, C15, S8, S9, S10, U1, U2, T1, T2.
-/
import Derived.Test.YtcnkhkmapgbodaaDoorQ4
import Derived.Lib.SmallJoins
import Derived.Deep.Grids
import Derived.Deep.Matrix
import Derived.ChangeArms
import Derived.KernelRfl
import Derived.Laws.Strings
section
namespace Go.Proofs.YtcnkhkmapgbodaaDoor.W
set_option linter.unusedVariables false
set_option linter.unusedSimpArgs false
open Go.B
variable {base : Nat}
attribute [local simp] wpC_skip wpC_region wpC_seq wpC_true wpC_false wpC_block wpC_exit wpC_ret wpO_nil wpO_n wpO_tt wpO_ff wpO_tf wpO_ft wpO_u wpS_mov wpS_pick wpS_build wpS_load wpS_store wpS_nilck wpS_bin wpS_beq wpS_isnil wpS_eqs wpS_not wpS_neg wpS_conv wpS_lea wpS_fld wpS_idx wpS_idxs wpS_slice wpS_sslice wpS_mkfn wpS_mset wpS_look wpS_ext wpS_len wpS_new wpS_box wpS_mk wpS_mkmap wpS_mksl wpS_app wpS_fn wpS_call after_some pthen_n pthen_x pthen_r pin BExit.outOf puto_some puto_none put_eq put_ne Opd.ev argEnv op1_mov op1_pick op1_new op1_box op1_load op1_nilck op1_bin op1_beq op1_not op1_neg op1_conv op1_lea op1_fld op1_len0 op1_len1 op1_idx op1_ext op1_build op1_mk op1_stw op1_mksl op1_eqs pureBin isShift resOf resVals val_tmp val_cell oneOf one_int cells_int one_bool cells_bool one_str cells_str one_nilp cells_nilp one_ptr cells_ptr one_nils cells_nils one_sl cells_sl one_sle cells_sle one_nilm cells_nilm one_mp cells_mp one_nilf cells_nilf one_fn cells_fn one_nili cells_nili cells_agg isSl_sl slen_sl sat_sl make_of asm rtOk wpS_b2s op1_b2s wpS_imax op1_imax wpS_imin op1_imin wpS_i2s op1_i2s op1_isnil Option.map_some gam_base op1_app op1_idxs wpS_idxa op1_idxa op1_sslice bound_none bound_some nat_of op1_mkmap op1_mset op1_look op1_len2 op1_mkfn Go.B.fillB Has
open Go.Au
/-- The row of a place, -1 where a column is not right. -/
def rowM (t : Nat) (A : Aut) (KS : List Nat) (kk c : Nat) : List Int := (List.range c).map fun d => match stepS t A kk d with | none => -1 | some to => ((pos KS to : Nat) : Int)
theorem rowM_len (t : Nat) (A : Aut) (KS : List Nat) (kk c : Nat) : (rowM t A KS kk c).length = c := by simp [rowM]
theorem rowM_succ (t : Nat) (A : Aut) (KS : List Nat) (kk c : Nat) : rowM t A KS kk (c + 1) = rowM t A KS kk c ++ [match stepS t A kk c with | none => -1 | some to => ((pos KS to : Nat) : Int)] := by simp [rowM, List.range_succ]
/-- The keys in front of a column. -/
def lsS (t : Nat) (A : Aut) (ks : List Nat) (kk c : Nat) : List Nat := addAll ks ((List.range c).filterMap (stepS t A kk))
theorem lsS_succ (t : Nat) (A : Aut) (ks : List Nat) (kk c : Nat) : lsS t A ks kk (c + 1) = match stepS t A kk c with | none => lsS t A ks kk c | some to => addK (lsS t A ks kk c) to := by
  unfold lsS
  rw [List.range_succ, List.filterMap_append, addAll_append]
  cases h : stepS t A kk c <;> simp [h, addAll]
theorem lsS_pre {t : Nat} {A : Aut} {ks : List Nat} {kk c d : Nat} (h : c ≤ d) : lsS t A ks kk c <+: lsS t A ks kk d := by
  induction h with
  | refl => exact List.prefix_refl _
  | step _ ih =>
    refine ih.trans ?_
    rw [lsS_succ]
    split
    · exact List.prefix_refl _
    · exact addK_pre _ _
/-- What stands behind all rows. -/
def Rs2 (base : Nat) (H : BH) (rb t s : Nat) (A : Aut) (e : Env) (K : BH) : Prop := ∃ n2 n8 v7 lo u w bo wo vs fr, Has e [(0, .ptr rb 0), (2, .ptr n2 0), (7, v7), (8, .ptr n8 0)] ∧ v7.isSl = true ∧ v7.slen = (keysS t A s).length ∧
  Own base H K ([(wo, .arr 37 vs), (bo, .arr 4 (((keysS t A s).map fun kk => A.acc.getD (kk / 2 ^ t) false).map encB)), (some n8, .arr 29 [encN t, .int .i64 0, u, w]), (lo, .arr 2 ((keysS t A s).map encN)), (some n2, .arr 29 [.int .i64 0, .int .i64 0, .nils, .nils])] ++ fr) ∧
  Vec bo u (keysS t A s).length ∧ Vec wo w (keysS t A s).length ∧ vs.length = (keysS t A s).length ∧ RowsOf 2 vs fr (((keysS t A s).map fun kk => rowM t A (keysS t A s) kk (wd t)).map (·.map encI))
theorem right_p2 (t s rb : Nat) (ht : t ≤ 3) (A : Aut) (H : BH) (h : RdP H rb t s A) (hok : A.Ok (wd t)) (hs : s < A.acc.length) (hn : A.acc.length ≤ 100000) (Q : Post) (e : Env) (K : BH) (hh : Rs1 base H rb t s A e K) :
    wpC base (Runs (gam base)) ((ir92.body.tl 8).hd 1) (Post.then (Rs2 base H rb t s A) Q) e K := by
  obtain ⟨u0, x, hr, hu0, hx⟩ := h
  obtain ⟨R, hR⟩ : ∃ R, R = Rs2 base H rb t s A := ⟨_, rfl⟩
  rw [← hR]
  unfold Rs2 at hR
  obtain ⟨n2, n5, n7, n8, ⟨e0, e2, e3, e4, e5, e7, e8, -⟩, o⟩ := hh
  simp only [] at e0 e2 e3 e4 e5 e7 e8
  have hT8 : 2 ^ t ≤ 8 := Nat.pow_le_pow_right (n := 2) (by omega) ht
  have hT0 : 0 < 2 ^ t := Nat.two_pow_pos t
  have hNT : A.acc.length * 2 ^ t ≤ 800000 := by have := Nat.mul_le_mul hn hT8; omega
  have hcl := keysS_closed hok hs
  have hdone := keysS_done hok hs
  have hw := wd_3 ht
  obtain ⟨KS, hKS⟩ : ∃ KS, KS = keysS t A s := ⟨_, rfl⟩
  have hKl : KS.length ≤ A.acc.length * 2 ^ t := by
    rw [hKS]
    have := hcl.len (A.acc.length * 2 ^ t)
    rwa [List.length_range] at this
  rw [← hKS] at hR
  obtain ⟨N, hN⟩ : ∃ N, N = A.acc.length * 2 ^ t := ⟨_, rfl⟩
  rw [← hN] at o hNT hKl hdone e5
  have hKSm : metL (sxS t A) (s * 2 ^ t) N = KS := by rw [hKS, hN]; rfl
  have pre : ∀ i, metL (sxS t A) (s * 2 ^ t) i <+: KS := fun i => by
    rcases Nat.le_total i N with h | h
    · rw [← hKSm]; exact met_pre h
    · rw [hdone.eq h, hKSm]; exact List.prefix_refl _
  have hlen : ∀ i, (metL (sxS t A) (s * 2 ^ t) i).length ≤ N := fun i => Nat.le_trans (pre i).length_le hKl
  have hmemN : ∀ k ∈ KS, k < N := fun k hk => by
    rw [hKS] at hk
    have := hcl.met _ k hk
    rw [hN]
    exact List.mem_range.1 this
  simp [ir92, BCode.hd, BCode.tl]
  obtain ⟨I, hI⟩ : ∃ I : Nat → Env → BH → Prop, I = (fun i e K => e 9 = encN i ∧ ∃ v7 lo u w bo wo vs fr, e 7 = v7 ∧ i ≤ (metL (sxS t A) (s * 2 ^ t) i).length ∧
      Own base H K ([(wo, .arr 37 vs), (bo, .arr 4 (((KS.take i).map fun kk => A.acc.getD (kk / 2 ^ t) false).map encB)), (some n8, .arr 29 [encN t, .int .i64 0, u, w]), (lo, .arr 2 ((metL (sxS t A) (s * 2 ^ t) i).map encN)), (some n5, .arr 2 ((numL N (metL (sxS t A) (s * 2 ^ t) i)).map encI)),
        (some n2, .arr 29 [.int .i64 0, .int .i64 0, .nils, .nils])] ++ fr) ∧ Vec lo v7 (metL (sxS t A) (s * 2 ^ t) i).length ∧ Vec bo u i ∧ Vec wo w i ∧ vs.length = i ∧ RowsOf 2 vs fr (((KS.take i).map fun kk => rowM t A KS kk (wd t)).map (·.map encI))) := ⟨_, rfl⟩
  refine wpC_countK N [(0, .ptr rb 0), (2, .ptr n2 0), (4, encN (2 ^ t)), (5, .sl n5 0 N), (8, .ptr n8 0)] I (i0 := 0) ?_ ?_ ?_ (Nat.zero_le _) ?_
  · rfl
  · simp [e0, e2, e4, e5, e8]
  · rw [hI]
    refine ⟨by simp, .sl n7 0 1, some n7, .nils, .nils, none, none, [], [], by simp [e7], Nat.zero_le _, ?_, rfl, Vec.none, Vec.none, rfl, trivial⟩
    exact (o.nil (.arr 4 [])).nil (.arr 37 [])
  clear e0 e2 e3 e4 e5 e7 e8 o
  rintro i e K hi ⟨e0, e2, e4, e5, e8, -⟩ hh
  rw [hI] at hh
  obtain ⟨e9, v7, lo, u, w, bo, wo, vs, fr, e7, hil, o, hv7, hu, hw', hvs, hrows⟩ := hh
  simp only [] at e0 e2 e4 e5 e8
  by_cases hlt : i < (metL (sxS t A) (s * 2 ^ t) i).length
  · have hiN : i < N := Nat.lt_of_lt_of_le hlt (hlen i)
    obtain ⟨kk, hkk⟩ : ∃ kk, (metL (sxS t A) (s * 2 ^ t) i)[i]? = some kk := ⟨_, List.getElem?_eq_getElem hlt⟩
    have hKSi : KS[i]? = some kk := by
      obtain ⟨r, hr⟩ := pre i
      rw [← hr, List.getElem?_append_left hlt]
      exact hkk
    have hiKS : i < KS.length := (List.getElem?_eq_some_iff.1 hKSi).1
    have hkN : kk < N := hmemN kk (List.mem_of_getElem? hKSi)
    have hq : kk / 2 ^ t < A.acc.length := Nat.div_lt_of_lt_mul (by rw [Nat.mul_comm, ← hN]; exact hkN)
    have hq' : kk / 2 ^ t < A.nxt.length := by rw [hok.len]; exact hq
    have hnext : metL (sxS t A) (s * 2 ^ t) (i + 1) = lsS t A (metL (sxS t A) (s * 2 ^ t) i) kk (wd t) := by rw [metL, hkk]; rfl
    have hpre : ∀ c, c ≤ wd t → lsS t A (metL (sxS t A) (s * 2 ^ t) i) kk c <+: KS := fun c hc => (lsS_pre hc).trans (by rw [← hnext]; exact pre (i + 1))
    have hkg : (metL (sxS t A) (s * 2 ^ t) i)[i] = kk := by
      have := List.getElem?_eq_getElem hlt
      rw [hkk] at this
      simpa using this.symm
    have hrd := (o.rd 3 rfl (v := v7) (by simpa using hv7)).at hlt (rt := none) rfl
    rw [hkg] at hrd
    have wi := wS (n := i) (by omega)
    obtain ⟨q, hqd⟩ : ∃ q, q = kk / 2 ^ t := ⟨_, rfl⟩
    have hquo := pb_quo (a := kk) (b := 2 ^ t) (by omega) hT0
    rw [← hqd] at hquo hq hq'
    simp [-wpS_bin, e7, e9, hv7.isSl, hv7.len, hlt, hrd, e4]
    refine wpS_binv (encN i) (encN (metL (sxS t A) (s * 2 ^ t) i).length) (.bool true) (by show some (BV.bool (decide ((i : Int) < _))) = _; simp [hlt]) (by simp) (by simp) ?_
    simp [-wpS_bin, e7, e9, hv7.isSl, hv7.len, hlt, hrd, e4]
    refine wpS_binv _ _ (encN q) hquo (by simp) (by simp) ?_
    simp
    intro n11 b11 f11
    simp [make_of f11 b11]
    have o1 := o.new f11 b11 (s := .arr 2 [])
    obtain ⟨m, hmd⟩ : ∃ m, m = kk % 2 ^ t := ⟨_, rfl⟩
    have hmT : m < 2 ^ t := by rw [hmd]; exact Nat.mod_lt _ hT0
    have hrem := pb_rem (a := kk) (b := 2 ^ t) hT0
    rw [← hmd] at hrem
    obtain ⟨ri, hri, hrr⟩ := hx.at hq'
    obtain ⟨row, er, hrl, hrc⟩ : ∃ r, A.nxt.getD q [] = r ∧ r.length = wd t ∧ ∀ c, c < wd t → r[c]? = some (A.to q c) := by
      have h1 : A.nxt.getD q [] = A.nxt[q] := by simp [hq']
      refine ⟨A.nxt[q], h1, (hok.row _ (List.getElem_mem hq')).1, fun c hc => ?_⟩
      obtain ⟨r, g1, g2, g3⟩ := row_get hok hq hc
      rw [h1] at g1
      rw [g1]
      exact g3
    have er2 : A.nxt[q] = row := by rw [← er]; simp [hq']
    rw [er2] at hri
    obtain ⟨J, hJ⟩ : ∃ J : Nat → Env → BH → Prop, J = (fun c e K => e 12 = encN c ∧ ∃ v7 v11 lo ro, e 7 = v7 ∧ e 11 = v11 ∧
      Own base H K ([(ro, .arr 2 ((rowM t A KS kk c).map encI)), (wo, .arr 37 vs), (bo, .arr 4 (((KS.take i).map fun kk => A.acc.getD (kk / 2 ^ t) false).map encB)), (some n8, .arr 29 [encN t, .int .i64 0, u, w]), (lo, .arr 2 ((lsS t A (metL (sxS t A) (s * 2 ^ t) i) kk c).map encN)),
        (some n5, .arr 2 ((numL N (lsS t A (metL (sxS t A) (s * 2 ^ t) i) kk c)).map encI)), (some n2, .arr 29 [.int .i64 0, .int .i64 0, .nils, .nils])] ++ fr) ∧ Vec lo v7 (lsS t A (metL (sxS t A) (s * 2 ^ t) i) kk c).length ∧ Vec ro v11 c) := ⟨_, rfl⟩
    refine wpC_countK (wd t) [(0, .ptr rb 0), (2, .ptr n2 0), (4, encN (2 ^ t)), (5, .sl n5 0 N), (8, .ptr n8 0), (9, encN i), (10, encN q)] J (i0 := 0) ?_ ?_ ?_ (Nat.zero_le _) ?_
    · rfl
    · simp [e0, e2, e4, e5, e8, e9]
    · rw [hJ]
      exact ⟨by simp, v7, .sl n11 0 0, lo, some n11, by simp [e7], by simp, o1, hv7, rfl⟩
    clear e0 e2 e4 e5 e7 e8 e9 o o1 hrd
    rintro c e M hc ⟨e0, e2, e4, e5, e8, e9, e10, -⟩ hh
    rw [hJ] at hh
    obtain ⟨e12, v7, v11, lo, ro, e7, e11, o, hv7, hv11⟩ := hh
    simp only [] at e0 e2 e4 e5 e8 e9 e10
    have wc := wS (n := c) (by omega)
    have r0 := rd_keeps o.keeps (rd_ptr hr (rt := none) (j := 0) (c := encN t) rfl rfl)
    have r3 := rd_keeps o.keeps (rd_ptr hr (rt := none) (j := 3) (c := x) rfl rfl)
    simp [e0, e12, r0]
    refine callP (s_wide t M (by omega)) ?_
    by_cases hcw : c < wd t
    · obtain ⟨ls, hls⟩ : ∃ ls, ls = lsS t A (metL (sxS t A) (s * 2 ^ t) i) kk c := ⟨_, rfl⟩
      have hlsp := hpre c hc
      have hlsp1 := hpre (c + 1) hcw
      rw [← hls] at o hv7 hlsp
      have hll := hlsp.length_le
      have hsu := lsS_succ t A (metL (sxS t A) (s * 2 ^ t) i) kk c
      rw [← hls] at hsu
      have hle : i < ls.length := Nat.lt_of_lt_of_le hlt (by rw [hls]; exact (addAll_pre _ _).length_le)
      have hlk : ls[i] = kk := by
        have h1 : (metL (sxS t A) (s * 2 ^ t) i) <+: ls := by rw [hls]; exact addAll_pre _ _
        obtain ⟨r, hr⟩ := h1
        simp only [← hr]
        rw [List.getElem_append_left hlt]
        exact hkg
      have hrk := (o.rd 4 rfl (v := v7) (by simpa using hv7)).at hle (rt := none) rfl
      rw [hlk] at hrk
      simp [-wpS_bin, hcw]
      refine wpS_binv (encN c) (encN (wd t)) (.bool true) (by show some (BV.bool (decide ((c : Int) < _))) = _; simp [hcw]) (by simp [e12]) (by simp) ?_
      simp [-wpS_bin, e0, r0, e7, hv7.isSl, hv7.len, hle, e9, hrk, e4]
      refine wpS_binv _ _ (encN m) hrem (by simp) (by simp) ?_
      simp [e12]
      refine callP (s_ended t m c ht hmT (by omega) M) ?_
      have hst : stepS t A kk c = if m &&& padsN t c = m then some (A.to q c * 2 ^ t + padsN t c) else none := by unfold stepS; rw [← hmd, ← hqd]
      by_cases hp : m &&& padsN t c = m
      · rw [if_pos hp] at hst ⊢
        obtain ⟨z, hz⟩ : ∃ z, z = A.to q c := ⟨_, rfl⟩
        obtain ⟨p, hpd⟩ : ∃ p, p = padsN t c := ⟨_, rfl⟩
        have hz1 : z < A.acc.length := by rw [hz]; exact hok.to hq hcw
        have hp8 : p < 8 := by rw [hpd]; exact padsN_8 ht c
        obtain ⟨zT, hzT⟩ : ∃ zT, zT = z * 2 ^ t := ⟨_, rfl⟩
        have hzb : zT ≤ 800000 := by rw [hzT]; have := Nat.mul_le_mul (Nat.le_of_lt hz1) hT8; omega
        have hmz : IntKind.i64.wrap ((z : Int) * ((2 ^ t : Nat) : Int)) = (zT : Int) := by rw [← Int.natCast_mul, ← hzT]; exact wN (by omega)
        have hmz' : IntKind.i64.wrap ((z : Int) * (2 : Int) ^ t) = (zT : Int) := by rw [show (2 : Int) ^ t = ((2 ^ t : Nat) : Int) by simp]; exact hmz
        obtain ⟨to, hto⟩ : ∃ to, to = zT + p := ⟨_, rfl⟩
        have hma : IntKind.i64.wrap ((zT : Int) + (p : Int)) = (to : Int) := by rw [← Int.natCast_add, ← hto]; exact wN (by omega)
        have hst' : stepS t A kk c = some to := by rw [hst, hto, hzT, hz, hpd]
        have htoN : to < N := by rw [hN]; exact stepS_lt hok (by rw [← hN]; exact hkN) hcw hst'
        rw [hst'] at hsu
        simp only at hsu
        have hrr' := rd_keeps o.keeps (hrr none rfl)
        have hrc' := (hri.keeps o.keeps).at (i := c) (by rw [hrl]; exact hcw) (rt := none) rfl
        have hrg : row[c]'(by rw [hrl]; exact hcw) = z := by
          have := hrc c hcw
          rw [List.getElem?_eq_getElem (by rw [hrl]; exact hcw)] at this
          rw [hz]
          simpa using this
        rw [hrg] at hrc'
        have hrn := rd_ptr (o.at 5 (b := n5) rfl) (rt := none) (j := to) (c := encI (if to ∈ ls then ((pos ls to : Nat) : Int) else -1)) rfl (by
          rw [List.getElem?_map, List.getElem?_eq_getElem (by rw [numL_len]; exact htoN), numL_get htoN]
          rfl)
        have hpn : ¬ ((p : Int) < 0) := by omega
        have hrowz : (match stepS t A kk c with | none => (-1 : Int) | some to => ((pos KS to : Nat) : Int)) = ((pos KS to : Nat) : Int) := by rw [hst']
        rw [← hpd]
        simp [hpn, e0, r3, e10, hx.isSl, hx.len, hq', hrr', e12, hri.isSl, hri.lenM, hrl, hcw, hrc', e4, hmz', hma, e5, htoN, hrn]
        by_cases hm : to ∈ ls
        · have hadd : addK ls to = ls := by unfold addK; rw [if_pos hm]
          rw [hadd] at hsu
          have hpos : pos ls to = pos KS to := (idx_pre hlsp hm).symm
          have hnn : ¬ ((pos KS to : Int) < 0) := by omega
          simp [hm, hpos] at hrn
          simp [hm, hpos, hnn, e11, e5, htoN, hrn]
          intro n1 b1 f1
          simp [make_of f1 b1]
          intro n4 b4 f4
          obtain ⟨v', K', b', q1, q2, q3⟩ := o.push 0 rfl (v := v11) (by simpa [rowM_len] using hv11) (x := encN (pos KS to)) (bytes := 8) rfl (by simp [rowM_len]; omega) (by simp [rowM_len]; omega) f1 b1 f4 b4
          simp [q1, e12, wc, hcw]
          rw [hJ]
          refine ⟨by simp, v7, v', lo, some b', by simp [e7], by simp, ?_, by rw [hsu]; exact hv7, by simpa [rowM_len] using q3⟩
          rw [hsu, rowM_succ, hrowz]
          simpa using q2
        · have hadd : addK ls to = ls ++ [to] := by unfold addK; rw [if_neg hm]
          rw [hadd] at hsu
          rw [hsu] at hlsp1
          have hl1 := hlsp1.length_le
          simp at hl1
          have hpos : ls.length = pos KS to := by rw [← idx_new hm, hadd]; exact (idx_pre hlsp1 (by simp)).symm
          simp [hm] at hrn
          obtain ⟨K5, g5, o5⟩ := o.put 5 (b := n5) rfl (j := to) (u := encI (ls.length : Nat)) (by simp [numL_len, htoN]) rfl (rt := none) rfl
          have g5' : M.wr base none 1 (.ptr n5 to) (.int .i64 (ls.length : Nat)) = some K5 := g5
          have hset := numL_set htoN hm
          simp [hm, e5, htoN, hrn, e7, hv7.isSl, hv7.len, g5']
          intro n1 b1 f1
          simp [make_of f1 b1]
          intro n4 b4 f4
          obtain ⟨v', K', b', q1, q2, q3⟩ := o5.push 4 rfl (v := v7) (by simpa using hv7) (x := encN to) (bytes := 8) rfl (by simp; omega) (by simp; omega) f1 b1 f4 b4
          have hrn2 := rd_ptr (q2.at 5 (b := n5) rfl) (rt := none) (j := to) (c := encN (pos KS to)) rfl (by
            rw [hpos]
            simp [numL_len, htoN])
          simp [q1, e11, e5, htoN, hrn2]
          intro n5' b5' f5'
          simp [make_of f5' b5']
          intro n6 b6 f6
          obtain ⟨v'', K'', b'', p1, p2, p3⟩ := q2.push 0 rfl (v := v11) (by simpa [rowM_len] using hv11) (x := encN (pos KS to)) (bytes := 8) rfl (by simp [rowM_len]; omega) (by simp [rowM_len]; omega) f5' b5' f6 b6
          simp [p1, e12, wc, hcw]
          rw [hJ]
          refine ⟨by simp, v', v'', some b', some b'', by simp, by simp, ?_, by rw [hsu]; simpa using q3, by simpa [rowM_len] using p3⟩
          rw [hsu, rowM_succ, hrowz, ← hset]
          simpa [List.map_set] using p2
      · rw [if_neg hp] at hst ⊢
        rw [hst] at hsu
        simp only at hsu
        simp [e11]
        intro n1 b1 f1
        simp [make_of f1 b1]
        intro n4 b4 f4
        obtain ⟨v', K', b', q1, q2, q3⟩ := o.push 0 rfl (v := v11) (by simpa [rowM_len] using hv11) (x := encI (-1)) (bytes := 8) rfl (by simp [rowM_len]; omega) (by simp [rowM_len]; omega) f1 b1 f4 b4
        simp [q1, e12, wc, hcw]
        rw [hJ]
        refine ⟨by simp, v7, v', lo, some b', by simp [e7], by simp, ?_, by rw [hsu]; exact hv7, by simpa [rowM_len] using q3⟩
        rw [hsu, rowM_succ, hst]
        simpa using q2
    · have hce : c = wd t := by omega
      subst hce
      rw [← hnext] at o hv7
      have u1 := rd_ptr (o.at 3 (b := n8) rfl) (rt := none) (j := 2) (c := u) rfl rfl
      have ra := rd_keeps o.keeps (rd_ptr hr (rt := none) (j := 2) (c := u0) rfl rfl)
      have rq := (hu0.keeps o.keeps).at hq (rt := none) rfl
      have hga : A.acc.getD q false = A.acc[q] := by simp [hq]
      simp [e12, e8, u1, e0, ra, e10, hu0.isSl, hu0.lenM, hq, rq]
      intro n1 b1 f1
      simp [make_of f1 b1]
      intro n4 b4 f4
      have hti : (KS.take i).length = i := by simp; omega
      obtain ⟨v', K2, b', q1, o2, q3⟩ := o.push 2 rfl (v := u) (by simp only [List.length_map, hti]; exact hu) (x := encB A.acc[q]) (bytes := 1) rfl (by simp; omega) (by simp; omega) f1 b1 f4 b4
      obtain ⟨K3, q2, o3⟩ := o2.put 3 (b := n8) rfl (j := 2) (u := v') (by simp) q3.one (rt := none) rfl
      have u2 := rd_ptr (o3.at 3 (b := n8) rfl) (rt := none) (j := 3) (c := w) rfl rfl
      have h11 := hv11.one
      simp [q1, q2, e8, u2, e11, h11, cells_one h11]
      intro n5' b5' f5'
      simp [make_of f5' b5']
      intro n6 b6 f6
      obtain ⟨w', K4, c', p1, o4, p3⟩ := o3.push 1 rfl (v := w) (by rw [hvs]; exact hw') (x := v11) (bytes := 24) h11 (by omega) (by omega) f5' b5' f6 b6
      obtain ⟨K5, p2, o5⟩ := o4.put 3 (b := n8) rfl (j := 3) (u := w') (by simp) p3.one (rt := none) rfl
      simp [p1, p2, e8, e9, wi, hiN]
      rw [hI]
      have hta : (KS.take (i + 1)).map (fun kk => A.acc.getD (kk / 2 ^ t) false) = (KS.take i).map (fun kk => A.acc.getD (kk / 2 ^ t) false) ++ [A.acc[q]] := by
        rw [List.take_add_one, hKSi, List.map_append]
        show _ ++ [A.acc.getD (kk / 2 ^ t) false] = _
        rw [← hqd, hga]
      have htr : ((KS.take (i + 1)).map fun kk => rowM t A KS kk (wd t)).map (·.map encI) = ((KS.take i).map fun kk => rowM t A KS kk (wd t)).map (·.map encI) ++ [(rowM t A KS kk (wd t)).map encI] := by rw [List.take_add_one, hKSi]; simp
      have hin : i + 1 ≤ (metL (sxS t A) (s * 2 ^ t) (i + 1)).length := by
        have := (met_pre1 (sx := sxS t A) (s := s * 2 ^ t) i).length_le
        omega
      refine ⟨by simp, v7, lo, v', w', some b', some c', vs ++ [v11], fr ++ [(ro, .arr 2 ((rowM t A KS kk (wd t)).map encI))], by simp [e7], hin, ?_, hv7, ?_, ?_, by simp [hvs], ?_⟩
      · refine Own.last (F := [(some c', .arr 37 (vs ++ [v11])), (some b', .arr 4 (((KS.take (i + 1)).map fun kk => A.acc.getD (kk / 2 ^ t) false).map encB)), (some n8, .arr 29 [encN t, .int .i64 0, v', w']), (lo, .arr 2 ((metL (sxS t A) (s * 2 ^ t) (i + 1)).map encN)), (some n5, .arr 2 ((numL N (metL (sxS t A) (s * 2 ^ t) (i + 1))).map encI)),
          (some n2, .arr 29 [.int .i64 0, .int .i64 0, .nils, .nils])]) ?_
        rw [hta]
        simpa using o5
      · simp only [List.length_map, hti] at q3
        exact q3
      · rw [hvs] at p3
        exact p3
      · rw [htr]
        exact hrows.snoc (by simpa [rowM_len] using hv11)
  · have hie : i = (metL (sxS t A) (s * 2 ^ t) i).length := by omega
    have hdi : DoneL (sxS t A) (s * 2 ^ t) i := by unfold DoneL; omega
    have hKi : metL (sxS t A) (s * 2 ^ t) i = KS := by
      rw [← hKSm]
      exact DoneL.same hdi hdone
    have hlt' : ¬ i < (metL (sxS t A) (s * 2 ^ t) i).length := hlt
    rw [hKi] at hie o hv7 hlt'
    have htk : KS.take i = KS := by rw [hie, List.take_length]
    rw [htk] at o hrows
    simp [e7, e9, hv7.isSl, hv7.len, hlt']
    rw [hR]
    rw [← hie]
    exact ⟨n2, n8, v7, lo, u, w, bo, wo, vs, fr, by simp [e0, e2, e7, e8], hv7.isSl, by rw [hv7.len, hie], o.sub (.cons_cons _ (.cons_cons _ (.cons_cons _ (.cons_cons _ (.cons _ (List.Sublist.refl _)))))), hu, hw', hvs, hrows⟩
end Go.Proofs.YtcnkhkmapgbodaaDoor.W
end

section
namespace Go.Proofs.YtcnkhkmapgbodaaDoor.W
set_option linter.unusedVariables false
set_option linter.unusedSimpArgs false
open Go.B
variable {base : Nat}
attribute [local simp] wpC_skip wpC_region wpC_seq wpC_true wpC_false wpC_block wpC_exit wpC_ret wpO_nil wpO_n wpO_tt wpO_ff wpO_tf wpO_ft wpO_u wpS_mov wpS_pick wpS_build wpS_load wpS_store wpS_nilck wpS_bin wpS_beq wpS_isnil wpS_eqs wpS_not wpS_neg wpS_conv wpS_lea wpS_fld wpS_idx wpS_idxs wpS_slice wpS_sslice wpS_mkfn wpS_mset wpS_look wpS_ext wpS_len wpS_new wpS_box wpS_mk wpS_mkmap wpS_mksl wpS_app wpS_fn wpS_call after_some pthen_n pthen_x pthen_r pin BExit.outOf puto_some puto_none put_eq put_ne Opd.ev argEnv op1_mov op1_pick op1_new op1_box op1_load op1_nilck op1_bin op1_beq op1_not op1_neg op1_conv op1_lea op1_fld op1_len0 op1_len1 op1_idx op1_ext op1_build op1_mk op1_stw op1_mksl op1_eqs pureBin isShift resOf resVals val_tmp val_cell oneOf one_int cells_int one_bool cells_bool one_str cells_str one_nilp cells_nilp one_ptr cells_ptr one_nils cells_nils one_sl cells_sl one_sle cells_sle one_nilm cells_nilm one_mp cells_mp one_nilf cells_nilf one_fn cells_fn one_nili cells_nili cells_agg isSl_sl slen_sl sat_sl make_of asm rtOk wpS_b2s op1_b2s wpS_imax op1_imax wpS_imin op1_imin wpS_i2s op1_i2s op1_isnil Option.map_some gam_base op1_app op1_idxs wpS_idxa op1_idxa op1_sslice bound_none bound_some nat_of op1_mkmap op1_mset op1_look op1_len2 op1_mkfn Go.B.fillB Has
open Go.Au
/-- A number that is not there stands for what takes nothing. -/
def ded (D : Nat) (v : Int) : Int := if v < 0 then (D : Int) else v
def dedj (D j : Nat) (r : List Int) : List Int := (r.take j).map (ded D) ++ r.drop j
theorem dedj_len (D j : Nat) (r : List Int) : (dedj D j r).length = r.length := by simp [dedj]; omega
theorem dedj_zero (D : Nat) (r : List Int) : dedj D 0 r = r := by simp [dedj]
theorem dedj_all (D : Nat) (r : List Int) : dedj D r.length r = r.map (ded D) := by simp [dedj]
theorem dedj_get {D j : Nat} {r : List Int} (h : j < r.length) : (dedj D j r)[j]'(by rw [dedj_len]; exact h) = r[j] := by
  have hm : min j r.length = j := by omega
  simp [dedj, hm]
theorem dedj_set {D j : Nat} {r : List Int} (h : j < r.length) : (dedj D j r).set j (ded D r[j]) = dedj D (j + 1) r := by
  unfold dedj
  rw [List.set_append_right _ _ (by simp; omega), List.take_add_one, List.getElem?_eq_getElem h, List.map_append]
  simp [show j - min j r.length = 0 by omega]
  rw [List.drop_eq_getElem_cons h]
  rfl
theorem dedj_skip {D j : Nat} {r : List Int} (h : j < r.length) (h0 : ¬ r[j] < 0) : dedj D (j + 1) r = dedj D j r := by
  rw [← dedj_set h]
  have : ded D r[j] = r[j] := by unfold ded; rw [if_neg h0]
  rw [this]
  have h2 := dedj_get (D := D) h
  apply List.ext_getElem
  · simp
  · intro i h3 h4
    rw [List.getElem_set]
    split
    · rename_i e; subst e; exact h2.symm
    · rfl
def stR (D : Nat) (rows : List (List Int)) (i : Nat) (r : List Int) : List (List Int) := (rows.take i).map (·.map (ded D)) ++ r :: rows.drop (i + 1)
def oR (D : Nat) (rows : List (List Int)) (i : Nat) : List (List Int) := (rows.take i).map (·.map (ded D)) ++ rows.drop i
theorem stR_set {D i : Nat} {rows : List (List Int)} (h : i < rows.length) (a b : List Int) : (stR D rows i a).set i b = stR D rows i b := by
  unfold stR
  rw [List.set_append_right _ _ (by simp; omega)]
  simp [show i - min i rows.length = 0 by omega]
theorem stR_get {D i : Nat} {rows : List (List Int)} (h : i < rows.length) (a : List Int) : (stR D rows i a)[i]? = some a := by
  unfold stR
  rw [List.getElem?_append_right (by simp; omega)]
  simp [show i - min i rows.length = 0 by omega]
theorem stR_first {D i : Nat} {rows : List (List Int)} (h : i < rows.length) : stR D rows i rows[i] = oR D rows i := by
  unfold stR oR
  rw [← List.drop_eq_getElem_cons h]
theorem stR_last {D i : Nat} {rows : List (List Int)} (h : i < rows.length) : stR D rows i (rows[i].map (ded D)) = oR D rows (i + 1) := by
  unfold stR oR
  rw [List.take_add_one, List.getElem?_eq_getElem h, List.map_append, List.append_assoc]
  rfl
theorem RowsOf.upd {ty : Nat} {bo : Option Nat} {xs ys : List BV} (hl : ys.length = xs.length) : ∀ {vs : List BV} {fr : List Sl} {xss : List (List BV)}, RowsOf ty vs fr xss → ∀ {i : Nat}, fr[i]? = some (bo, .arr ty xs) → RowsOf ty vs (fr.set i (bo, .arr ty ys)) (xss.set i ys)
  | [], [], [], _, i, hf => by simp at hf
  | v :: vs, p :: fr, zs :: xss, h, 0, hf => by
    simp at hf
    subst hf
    have h1 := h.1
    simp only [BSt.arr.injEq, true_and] at h1
    exact ⟨rfl, by rw [hl, h1]; exact h.2.1, h.2.2⟩
  | v :: vs, p :: fr, zs :: xss, h, i + 1, hf => ⟨h.1, h.2.1, RowsOf.upd hl h.2.2 (by simpa using hf)⟩
/-- What stands behind the numbering. -/
def Rs3 (base : Nat) (H : BH) (rb t s : Nat) (A : Aut) (e : Env) (K : BH) : Prop := ∃ n2 n8 u w bo wo vs fr, Has e [(0, .ptr rb 0), (2, .ptr n2 0), (8, .ptr n8 0), (15, encN (keysS t A s).length)] ∧
  Own base H K ([(wo, .arr 37 vs), (bo, .arr 4 (((keysS t A s).map fun kk => A.acc.getD (kk / 2 ^ t) false).map encB)), (some n8, .arr 29 [encN t, .int .i64 0, u, w]), (some n2, .arr 29 [.int .i64 0, .int .i64 0, .nils, .nils])] ++ fr) ∧
  Vec bo u (keysS t A s).length ∧ Vec wo w (keysS t A s).length ∧ vs.length = (keysS t A s).length ∧ RowsOf 2 vs fr (((keysS t A s).map fun kk => (rowM t A (keysS t A s) kk (wd t)).map (ded (keysS t A s).length)).map (·.map encI))
theorem right_p3 (t s rb : Nat) (ht : t ≤ 3) (A : Aut) (H : BH) (hok : A.Ok (wd t)) (hs : s < A.acc.length) (hn : A.acc.length ≤ 100000) (Q : Post) (e : Env) (K : BH) (hh : Rs2 base H rb t s A e K) :
    wpC base (Runs (gam base)) (((ir92.body.tl 8).tl 1).hd 2) (Post.then (Rs3 base H rb t s A) Q) e K := by
  obtain ⟨R, hR⟩ : ∃ R, R = Rs3 base H rb t s A := ⟨_, rfl⟩
  rw [← hR]
  unfold Rs3 at hR
  obtain ⟨n2, n8, v7, lo, u, w, bo, wo, vs, fr, ⟨e0, e2, e7, e8, -⟩, h7, hl7, o, hu, hw', hvs, hrows⟩ := hh
  simp only [] at e0 e2 e7 e8
  have hT8 : 2 ^ t ≤ 8 := Nat.pow_le_pow_right (n := 2) (by omega) ht
  have hNT : A.acc.length * 2 ^ t ≤ 800000 := by have := Nat.mul_le_mul hn hT8; omega
  have hKl : (keysS t A s).length ≤ 800000 := by
    have := (keysS_closed hok hs).len (A.acc.length * 2 ^ t)
    rw [List.length_range] at this
    unfold keysS
    omega
  have hw := wd_3 ht
  obtain ⟨KS, hKS⟩ : ∃ KS, KS = keysS t A s := ⟨_, rfl⟩
  rw [← hKS] at hl7 o hu hw' hvs hrows hKl hR
  obtain ⟨rows, hrw⟩ : ∃ rows, rows = KS.map fun kk => rowM t A KS kk (wd t) := ⟨_, rfl⟩
  rw [← hrw] at hrows
  have hrl : rows.length = KS.length := by rw [hrw]; simp
  have hrwl : ∀ r ∈ rows, r.length = wd t := fun r hr => by
    rw [hrw] at hr
    obtain ⟨kk, _, rfl⟩ := List.mem_map.1 hr
    exact rowM_len t A KS kk (wd t)
  simp [ir92, BCode.hd, BCode.tl, e7, h7, hl7]
  obtain ⟨I, hI⟩ : ∃ I : Nat → Env → BH → Prop, I = (fun i e K => e 16 = encN i ∧ ∃ fr, Own base H K ([(wo, .arr 37 vs), (bo, .arr 4 ((KS.map fun kk => A.acc.getD (kk / 2 ^ t) false).map encB)), (some n8, .arr 29 [encN t, .int .i64 0, u, w]), (some n2, .arr 29 [.int .i64 0, .int .i64 0, .nils, .nils])] ++ fr) ∧
    RowsOf 2 vs fr ((oR KS.length rows i).map (·.map encI))) := ⟨_, rfl⟩
  refine wpC_countK KS.length [(0, .ptr rb 0), (2, .ptr n2 0), (8, .ptr n8 0), (15, encN KS.length)] I (i0 := 0) ?_ ?_ ?_ (Nat.zero_le _) ?_
  · rfl
  · simp [e0, e2, e8]
  · rw [hI]
    refine ⟨by simp, fr, o.sub (.cons_cons _ (.cons_cons _ (.cons_cons _ (.cons _ (.cons_cons _ (List.Sublist.refl _)))))), ?_⟩
    simpa [oR] using hrows
  clear e0 e2 e7 e8 o hrows
  rintro i e K hi ⟨e0, e2, e8, e15, -⟩ hh
  rw [hI] at hh
  obtain ⟨e16, fr, o, hrows⟩ := hh
  simp only [] at e0 e2 e8 e15
  have wi := wS (n := i) (by omega)
  have u3 := rd_ptr (o.at 2 (b := n8) rfl) (rt := none) (j := 3) (c := w) rfl rfl
  by_cases hlt : i < KS.length
  · have hir : i < rows.length := by omega
    simp [e16, e8, u3, hw'.isSl, hw'.len, hlt]
    obtain ⟨J, hJ⟩ : ∃ J : Nat → Env → BH → Prop, J = (fun j e K => e 17 = encN j ∧ ∃ fr, Own base H K ([(wo, .arr 37 vs), (bo, .arr 4 ((KS.map fun kk => A.acc.getD (kk / 2 ^ t) false).map encB)), (some n8, .arr 29 [encN t, .int .i64 0, u, w]), (some n2, .arr 29 [.int .i64 0, .int .i64 0, .nils, .nils])] ++ fr) ∧
      RowsOf 2 vs fr ((stR KS.length rows i (dedj KS.length j rows[i])).map (·.map encI))) := ⟨_, rfl⟩
    refine wpC_countK (wd t) [(0, .ptr rb 0), (2, .ptr n2 0), (8, .ptr n8 0), (15, encN KS.length), (16, encN i)] J (i0 := 0) ?_ ?_ ?_ (Nat.zero_le _) ?_
    · rfl
    · simp [e0, e2, e8, e15, e16]
    · rw [hJ]
      exact ⟨by simp, fr, o, by rw [dedj_zero, stR_first hir]; exact hrows⟩
    clear e0 e2 e8 e15 e16 o hrows u3
    rintro j e M hj ⟨e0, e2, e8, e15, e16, -⟩ hh
    rw [hJ] at hh
    obtain ⟨e17, fr, o, hrows⟩ := hh
    simp only [] at e0 e2 e8 e15 e16
    have wj := wS (n := j) (by omega)
    have hrwi : rows[i].length = wd t := hrwl _ (List.getElem_mem hir)
    have u3 := rd_ptr (o.at 2 (b := n8) rfl) (rt := none) (j := 3) (c := w) rfl rfl
    have hiv : i < vs.length := by omega
    have hvi := (o.rd 0 rfl (v := w) (by rw [hvs]; exact hw')).get hiv (rt := none) rfl
    obtain ⟨ro, hro, hrv⟩ := hrows.get (i := i) (u := vs[i]) (xs := (dedj KS.length j rows[i]).map encI) (by simp [hiv]) (by rw [List.getElem?_map, stR_get hir]; rfl)
    have hdl : (dedj KS.length j rows[i]).length = wd t := by rw [dedj_len, hrwi]
    have hat : ([(wo, BSt.arr 37 vs), (bo, .arr 4 ((KS.map fun kk => A.acc.getD (kk / 2 ^ t) false).map encB)), (some n8, .arr 29 [encN t, .int .i64 0, u, w]), (some n2, .arr 29 [.int .i64 0, .int .i64 0, .nils, .nils])] ++ fr)[4 + i]? = some (ro, .arr 2 ((dedj KS.length j rows[i]).map encI)) := by
      rw [List.getElem?_append_right (by simp), ← hro]
      simp
    have hvl : vs[i].slen = wd t := by rw [hrv.len]; simp [hdl]
    by_cases hlj : j < wd t
    · have hrd := (o.rd (4 + i) hat hrv).at (i := j) (by rw [hdl]; exact hlj) (rt := none) rfl
      rw [dedj_get (by rw [hrwi]; exact hlj)] at hrd
      simp [e8, u3, e16, e17, hw'.isSl, hw'.len, hlt, hvi, hrv.isSl, hvl, hlj, hrd]
      by_cases hneg : rows[i][j]'(by rw [hrwi]; exact hlj) < 0
      · obtain ⟨K5, g5, o5⟩ := o.wr (4 + i) hat hrv (j := j) (by simp [hdl, hlj]) (u := encI (KS.length : Nat)) rfl (rt := none) rfl
        have g5' : M.wr base none 1 (vs[i].sat j 1) (encN KS.length) = some K5 := g5
        simp [hneg, e8, u3, e16, e17, hw'.isSl, hw'.len, hlt, hvi, hrv.isSl, hvl, hlj, e15, g5', wj]
        rw [hJ]
        refine ⟨by simp, fr.set i (ro, .arr 2 ((dedj KS.length (j + 1) rows[i]).map encI)), ?_, ?_⟩
        · rw [List.set_append_right _ _ (by simp)] at o5
          have hde : ((dedj KS.length j rows[i]).map encI).set j (encI (KS.length : Nat)) = (dedj KS.length (j + 1) rows[i]).map encI := by
            rw [← dedj_set (D := KS.length) (by rw [hrwi]; exact hlj), List.map_set]
            unfold ded
            rw [if_pos hneg]
          rw [hde] at o5
          simpa using o5
        · have := RowsOf.upd (ys := (dedj KS.length (j + 1) rows[i]).map encI) (by simp [dedj_len]) hrows hro
          rw [← stR_set hir (dedj KS.length j rows[i]) (dedj KS.length (j + 1) rows[i]), List.map_set]
          exact this
      · simp [hneg, e17, wj, hlj]
        rw [hJ]
        refine ⟨by simp, fr, o, ?_⟩
        rw [dedj_skip (by rw [hrwi]; exact hlj) hneg]
        exact hrows
    · have hje : j = wd t := by omega
      subst hje
      have hda : dedj KS.length (wd t) rows[i] = rows[i].map (ded KS.length) := by rw [← hrwi, dedj_all]
      rw [hda, stR_last hir] at hrows
      simp [e8, u3, e16, e17, hw'.isSl, hw'.len, hlt, hvi, hrv.isSl, hvl, wi]
      rw [hI]
      exact ⟨by simp, fr, o, hrows⟩
  · have hie : i = KS.length := by omega
    subst hie
    have hall : oR KS.length rows KS.length = KS.map fun kk => (rowM t A KS kk (wd t)).map (ded KS.length) := by
      unfold oR
      rw [← hrl, List.take_length, List.drop_length, hrl, hrw]
      simp
    rw [hall] at hrows
    simp [e16, e8, u3, hw'.isSl, hw'.len]
    rw [hR]
    exact ⟨n2, n8, u, w, bo, wo, vs, fr, by simp [e0, e2, e8, e15], o, hu, hw', hvs, hrows⟩

theorem right_row (t : Nat) (A : Aut) (s : Nat) (kk : Nat) (c : Nat) : (rowM t A (keysS t A s) kk c).map (ded (keysS t A s).length) = ((List.range c).map fun c => numS (keysS t A s) (stepS t A kk c)).map fun (n : Nat) => (n : Int) := by
  unfold rowM
  rw [List.map_map, List.map_map]
  refine List.map_congr_left fun c _ => ?_
  show ded _ (match stepS t A kk c with | none => (-1 : Int) | some to => ((pos (keysS t A s) to : Nat) : Int)) = ((numS (keysS t A s) (stepS t A kk c) : Nat) : Int)
  cases stepS t A kk c with
  | none => rfl
  | some to =>
    show ded _ ((pos (keysS t A s) to : Nat) : Int) = ((pos (keysS t A s) to : Nat) : Int)
    unfold ded
    rw [if_neg (by omega)]
theorem RdRel.of {H K : BH} {t s : Nat} {A : Aut} {u w : BV} {bo wo : Option Nat} {vs : List BV} {fr : List Sl} (o : Own base H K ([(wo, .arr 37 vs), (bo, .arr 4 (A.acc.map encB))] ++ fr)) (hu : Vec bo u A.acc.length) (hw : Vec wo w vs.length) (hr : RowsOf 2 vs fr (A.nxt.map (·.map encN))) :
    RdRel K t s A (.agg [encN t, encN s, u, w]) := ⟨u, w, rfl, o.rd 1 rfl (by simpa using hu), RowsOf.rdR (bo := wo) (F := [(wo, .arr 37 vs), (bo, .arr 4 (A.acc.map encB))]) o hr (o.rd 0 rfl hw)⟩
theorem right_p4 (t s rb : Nat) (ht : t ≤ 3) (A : Aut) (H : BH) (h : RdP H rb t s A) (hok : A.Ok (wd t)) (hs : s < A.acc.length) (hn : A.acc.length ≤ 100000) (e : Env) (K : BH) (hh : Rs3 base H rb t s A e K) :
    wpC base (Runs (gam base)) (((ir92.body.tl 8).tl 1).tl 2) (fun x e' K => (x = .normal ∨ x = .ret) ∧ ∃ v, resOf ir92.results e' K = some v ∧ H.Keeps K ∧ RdRel K t 0 (rightS t A s) v) e K := by
  obtain ⟨u0, x, hr, hu0, hx⟩ := h
  obtain ⟨R, hR⟩ : ∃ R : BV → BH → Prop, R = fun v K => H.Keeps K ∧ RdRel K t 0 (rightS t A s) v := ⟨_, rfl⟩
  have hR' : (fun (x : BExit) (e' : Env) (K : BH) => (x = .normal ∨ x = .ret) ∧ ∃ v, resOf ir92.results e' K = some v ∧ H.Keeps K ∧ RdRel K t 0 (rightS t A s) v) = fun x e' K => (x = .normal ∨ x = .ret) ∧ ∃ v, resOf ir92.results e' K = some v ∧ R v K := by rw [hR]
  rw [hR']
  obtain ⟨n2, n8, u, w, bo, wo, vs, fr, ⟨e0, e2, e8, e15, -⟩, o, hu, hw', hvs, hrows⟩ := hh
  simp only [] at e0 e2 e8 e15
  have hT8 : 2 ^ t ≤ 8 := Nat.pow_le_pow_right (n := 2) (by omega) ht
  have hNT : A.acc.length * 2 ^ t ≤ 800000 := by have := Nat.mul_le_mul hn hT8; omega
  have hKl : (keysS t A s).length ≤ 800000 := by
    have := (keysS_closed hok hs).len (A.acc.length * 2 ^ t)
    rw [List.length_range] at this
    unfold keysS
    omega
  have hw := wd_3 ht
  have hacc := rightS_acc (t := t) (X := A) (s := s)
  have hnxt := rightS_nxt hok hs
  have hro : ((keysS t A s).map fun kk => (rowM t A (keysS t A s) kk (wd t)).map (ded (keysS t A s).length)).map (·.map encI) = ((keysS t A s).map fun kk => (List.range (wd t)).map fun c => numS (keysS t A s) (stepS t A kk c)).map (·.map encN) := by
    rw [List.map_map, List.map_map]
    refine List.map_congr_left fun kk _ => ?_
    show ((rowM t A (keysS t A s) kk (wd t)).map (ded (keysS t A s).length)).map encI = _
    rw [right_row, List.map_map]
    rfl
  rw [hro] at hrows
  obtain ⟨D, hD⟩ : ∃ D, D = (keysS t A s).length := ⟨_, rfl⟩
  rw [← hD] at e15 hu hw' hvs hnxt hKl
  obtain ⟨ac, hac⟩ : ∃ ac, ac = (keysS t A s).map fun kk => A.acc.getD (kk / 2 ^ t) false := ⟨_, rfl⟩
  rw [← hac] at o hacc
  have hacl : ac.length = D := by rw [hac, hD]; simp
  simp [ir92, BCode.tl, BCode.hd]
  intro n18 b18 f18
  have o1 := o.new f18 b18 (s := .arr 2 [])
  simp [make_of f18 b18]
  obtain ⟨I, hI⟩ : ∃ I : Nat → Env → BH → Prop, I = (fun i e K => e 19 = encN i ∧ ∃ v18 ro, e 18 = v18 ∧ Own base H K ([(ro, .arr 2 ((List.replicate i D).map encN)), (wo, .arr 37 vs), (bo, .arr 4 (ac.map encB)), (some n8, .arr 29 [encN t, .int .i64 0, u, w]), (some n2, .arr 29 [.int .i64 0, .int .i64 0, .nils, .nils])] ++ fr) ∧ Vec ro v18 i) := ⟨_, rfl⟩
  refine wpC_countK (wd t) [(0, .ptr rb 0), (2, .ptr n2 0), (8, .ptr n8 0), (15, encN D)] I (i0 := 0) ?_ ?_ ?_ (Nat.zero_le _) ?_
  · rfl
  · simp [e0, e2, e8, e15]
  · rw [hI]
    exact ⟨by simp, .sl n18 0 0, some n18, by simp, o1, rfl⟩
  clear e0 e2 e8 e15 o o1
  rintro i e K hi ⟨e0, e2, e8, e15, -⟩ hh
  rw [hI] at hh
  obtain ⟨e19, v18, ro, e18, o, hv18⟩ := hh
  simp only [] at e0 e2 e8 e15
  have wi := wS (n := i) (by omega)
  have r0 := rd_keeps o.keeps (rd_ptr hr (rt := none) (j := 0) (c := encN t) rfl rfl)
  simp [e0, e19, r0]
  refine callP (s_wide t K (by omega)) ?_
  by_cases hlt : i < wd t
  · simp [hlt, e18, e15]
    intro n1 b1 f1
    simp [make_of f1 b1]
    intro n4 b4 f4
    obtain ⟨v', K', b', q1, q2, q3⟩ := o.push 0 rfl (v := v18) (by simpa using hv18) (x := encN D) (bytes := 8) rfl (by simp; omega) (by simp; omega) f1 b1 f4 b4
    simp [q1, e19, wi, hlt]
    rw [hI]
    refine ⟨by simp, v', some b', by simp, ?_, by simpa using q3⟩
    rw [List.replicate_succ', List.map_append]
    exact q2
  · have hie : i = wd t := by omega
    subst hie
    have u1 := rd_ptr (o.at 3 (b := n8) rfl) (rt := none) (j := 2) (c := u) rfl rfl
    simp [e8, u1]
    intro n1 b1 f1
    simp [make_of f1 b1]
    intro n4 b4 f4
    obtain ⟨v', K2, b', q1, o2, q3⟩ := o.push 2 rfl (v := u) (by rw [List.length_map, hacl]; exact hu) (x := encB false) (bytes := 1) rfl (by simp; omega) (by simp; omega) f1 b1 f4 b4
    obtain ⟨K3, q2, o3⟩ := o2.put 3 (b := n8) rfl (j := 2) (u := v') (by simp) q3.one (rt := none) rfl
    have u2 := rd_ptr (o3.at 3 (b := n8) rfl) (rt := none) (j := 3) (c := w) rfl rfl
    have h18 := hv18.one
    simp [q1, q2, e8, u2, e18, h18, cells_one h18]
    intro n5' b5' f5'
    simp [make_of f5' b5']
    intro n6 b6 f6
    obtain ⟨w', K4, c', p1, o4, p3⟩ := o3.push 1 rfl (v := w) (by rw [hvs]; exact hw') (x := v18) (bytes := 24) h18 (by omega) (by omega) f5' b5' f6 b6
    obtain ⟨K5, p2, o5⟩ := o4.put 3 (b := n8) rfl (j := 3) (u := w') (by simp) p3.one (rt := none) rfl
    have r9 := rd_all (o5.at 3 (b := n8) rfl) (n := 4) (rt := none) rfl rfl
    obtain ⟨K6, p4, o6⟩ := o5.putAll 4 (b := n2) (n := 4) (ds := [encN t, .int .i64 0, v', w']) rfl rfl rfl (by simp [q3.one, p3.one]) (rt := none) rfl
    have r10 := rd_all (o6.at 4 (b := n2) rfl) (n := 4) (rt := none) rfl rfl
    have r9' : K5.rd none (some 4) (.ptr n8 0) = some (.agg [encN t, .int .i64 0, v', w']) := r9
    simp [p1, p2, e8, e2, r9', p4, r10]
    rw [hR]
    refine ⟨o6.keeps, ?_⟩
    have o7 := Own.last (p := (ro, .arr 2 ((List.replicate (wd t) D).map encN))) (F := [(some c', .arr 37 (vs ++ [v18])), (some b', .arr 4 (ac.map encB ++ [encB false])), (some n8, .arr 29 [encN t, .int .i64 0, v', w']), (some n2, .arr 29 [encN t, .int .i64 0, v', w'])]) (by simpa using o6)
    have o8 : Own base H K6 ([(some c', .arr 37 (vs ++ [v18])), (some b', .arr 4 ((rightS t A s).acc.map encB))] ++ (fr ++ [(ro, .arr 2 ((List.replicate (wd t) D).map encN))])) := by
      rw [hacc, List.map_append]
      exact o7.sub (.cons_cons _ (.cons_cons _ (.cons _ (.cons _ (List.Sublist.refl _)))))
    refine RdRel.of (t := t) (s := 0) o8 ?_ ?_ ?_
    · rw [hacc]
      simpa [hacl] using q3
    · simpa using p3
    · rw [hnxt, List.map_append]
      exact hrows.snoc (by simpa using hv18)
theorem s_right (t s rb : Nat) (ht : t ≤ 3) (A : Aut) (H : BH) (h : RdP H rb t s A) (hok : A.Ok (wd t)) (hs : s < A.acc.length) (hn : A.acc.length ≤ 100000) :
    FnDoes (gam base) 92 [.ptr rb 0] H fun v K => RdRel K t 0 (rightS t A s) v := by
  refine FnDoes.of (fn := ir92) rfl ?_
  refine wpC_part 8 (Rs1 base H rb t s A) (right_p1 t s rb ht A H h hs hn _) fun e K h1 => ?_
  refine wpC_part 1 (Rs2 base H rb t s A) (right_p2 t s rb ht A H h hok hs hn _ e K h1) fun e K h2 => ?_
  refine wpC_part 2 (Rs3 base H rb t s A) (right_p3 t s rb ht A H hok hs hn _ e K h2) fun e K h3 => ?_
  exact right_p4 t s rb ht A H h hok hs hn e K h3
end Go.Proofs.YtcnkhkmapgbodaaDoor.W
end

section
namespace Go.Proofs.YtcnkhkmapgbodaaDoor.W
set_option linter.unusedVariables false
set_option linter.unusedSimpArgs false
open Go.B
variable {base : Nat}
attribute [local simp] wpC_skip wpC_region wpC_seq wpC_true wpC_false wpC_block wpC_exit wpC_ret wpO_nil wpO_n wpO_tt wpO_ff wpO_tf wpO_ft wpO_u wpS_mov wpS_pick wpS_build wpS_load wpS_store wpS_nilck wpS_bin wpS_beq wpS_isnil wpS_eqs wpS_not wpS_neg wpS_conv wpS_lea wpS_fld wpS_idx wpS_idxs wpS_slice wpS_sslice wpS_mkfn wpS_mset wpS_look wpS_ext wpS_len wpS_new wpS_box wpS_mk wpS_mkmap wpS_mksl wpS_app wpS_fn wpS_call after_some pthen_n pthen_x pthen_r pin BExit.outOf puto_some puto_none put_eq put_ne Opd.ev argEnv op1_mov op1_pick op1_new op1_box op1_load op1_nilck op1_bin op1_beq op1_not op1_neg op1_conv op1_lea op1_fld op1_len0 op1_len1 op1_idx op1_ext op1_build op1_mk op1_stw op1_mksl op1_eqs pureBin isShift resOf resVals val_tmp val_cell oneOf one_int cells_int one_bool cells_bool one_str cells_str one_nilp cells_nilp one_ptr cells_ptr one_nils cells_nils one_sl cells_sl one_sle cells_sle one_nilm cells_nilm one_mp cells_mp one_nilf cells_nilf one_fn cells_fn one_nili cells_nili cells_agg isSl_sl slen_sl sat_sl make_of asm rtOk wpS_b2s op1_b2s wpS_imax op1_imax wpS_imin op1_imin wpS_i2s op1_i2s op1_isnil Option.map_some gam_base op1_app op1_idxs wpS_idxa op1_idxa op1_sslice bound_none bound_some nat_of op1_mkmap op1_mset op1_look op1_len2 op1_mkfn Go.B.fillB Has
open Go.Au
theorem s_alike (t s rb w : Nat) (A : Aut) (g : List Nat) (cv : BV) (H : BH) (h : RdP H rb t s A) (hok : A.Ok w) (hw : w ≤ 1000) (hg : Rd H 2 cv (g.map encN)) (hgl : g.length = A.acc.length) (a b : Nat) (ha : a < A.acc.length) (hb : b < A.acc.length) :
    Runs (gam base) 116 [.ptr rb 0, cv, encN a, encN b] H (.bool (decide ((keyA A g a).2 = (keyA A g b).2))) H := by
  refine runs_of (fn := ir116) rfl ?_
  obtain ⟨u, x, hr, hu, hx⟩ := h
  have r3 := rd_ptr hr (rt := none) (j := 3) (c := x) rfl rfl
  have ha' : a < A.nxt.length := by rw [hok.len]; exact ha
  have hb' : b < A.nxt.length := by rw [hok.len]; exact hb
  obtain ⟨ra, hra, hra2⟩ := hx.at ha'
  obtain ⟨rb', hrb, hrb2⟩ := hx.at hb'
  have hra2 := hra2 none rfl
  have hrb2 := hrb2 none rfl
  have hla := hok.row _ (List.getElem_mem ha')
  have hlb := hok.row _ (List.getElem_mem hb')
  have hka : (keyA A g a).2 = A.nxt[a].map fun q => g.getD q 0 := by unfold keyA; simp [ha']
  have hkb : (keyA A g b).2 = A.nxt[b].map fun q => g.getD q 0 := by unfold keyA; simp [hb']
  simp [ir116]
  refine wpC_countK w [(0, .ptr rb 0), (1, cv), (2, encN a), (3, encN b)] (fun c e K => e 9 = encN c ∧ (∀ d, d < c → (keyA A g a).2[d]? = (keyA A g b).2[d]?) ∧ K = H) (i0 := 0) ?_ ?_ ?_ (Nat.zero_le _) ?_
  · rfl
  · simp
  · exact ⟨rfl, fun d hd => by omega, rfl⟩
  rintro c e K hc ⟨e0, e1, e2, e3, -⟩ ⟨e9, hsame, rfl⟩
  simp only [] at e0 e1 e2 e3
  have wc := wS (n := c) (by omega)
  by_cases hlt : c < w
  · have ca : c < A.nxt[a].length := by omega
    have cb : c < A.nxt[b].length := by omega
    have h1 := hra.at ca (rt := none) rfl
    have h2 := hrb.at cb (rt := none) rfl
    have q1 := hla.2 _ (List.getElem_mem ca)
    have q2 := hlb.2 _ (List.getElem_mem cb)
    have q1' : A.nxt[a][c] < g.length := by omega
    have q2' : A.nxt[b][c] < g.length := by omega
    have h3 := hg.at q1' (rt := none) rfl
    have h4 := hg.at q2' (rt := none) rfl
    have k1 : (keyA A g a).2[c]? = some g[A.nxt[a][c]] := by rw [hka, List.getElem?_map, List.getElem?_eq_getElem ca]; simp [q1']
    have k2 : (keyA A g b).2[c]? = some g[A.nxt[b][c]] := by rw [hkb, List.getElem?_map, List.getElem?_eq_getElem cb]; simp [q2']
    simp [e0, e1, e2, e3, e9, r3, hx.isSl, hx.len, ha', hb', hra2, hrb2, hra.isSl, hra.lenM, hrb.isSl, hrb.lenM, ca, cb, hla.1, hlb.1, hlt, h1, h2, hg.isSl, hg.lenM, q1', q2', h3, h4]
    by_cases he : g[A.nxt[a][c]] = g[A.nxt[b][c]]
    · have he' : ((g[A.nxt[a][c]] : Nat) : Int) = ((g[A.nxt[b][c]] : Nat) : Int) := by omega
      simp [he, e9, wc, hlt]
      intro d hd
      by_cases hdc : d = c
      · subst hdc; rw [k1, k2, he]
      · exact hsame d (by omega)
    · have hne : ((g[A.nxt[a][c]] : Nat) : Int) ≠ ((g[A.nxt[b][c]] : Nat) : Int) := by omega
      have hbn : (((g[A.nxt[a][c]] : Nat) : Int) != ((g[A.nxt[b][c]] : Nat) : Int)) = true := by simpa using hne
      simp [hbn]
      intro e5
      rw [e5, k2] at k1
      simp at k1
      exact he k1.symm
  · have hce : c = w := by omega
    subst hce
    simp [e0, e2, e9, r3, hx.isSl, hx.len, ha', hra2, hra.isSl, hra.lenM, hla.1]
    apply List.ext_getElem?
    intro d
    by_cases hd : d < c
    · exact hsame d hd
    · rw [List.getElem?_eq_none, List.getElem?_eq_none]
      · rw [hkb, List.length_map]; omega
      · rw [hka, List.length_map]; omega
theorem pos_first {α : Type} [DecidableEq α] : ∀ {ks : List α} {k : α} {n : Nat} (h : n < ks.length), ks[n] = k → (∀ j, (hj : j < n) → ks[j] ≠ k) → pos ks k = n
  | [], k, n, h, _, _ => by simp at h
  | x :: ks, k, 0, h, h1, _ => by
    simp at h1
    subst h1
    simp [pos]
  | x :: ks, k, n + 1, h, h1, h2 => by
    have hx : x ≠ k := h2 0 (by omega)
    have h3 := pos_first (ks := ks) (k := k) (n := n) (by simpa using h) (by simpa using h1) fun j hj => by
      have := h2 (j + 1) (by omega)
      simpa using this
    unfold pos at h3 ⊢
    rw [List.idxOf_cons]
    have : (x == k) = false := by simpa using hx
    rw [this, cond_false, h3]
theorem s_finer (t s rb w : Nat) (A : Aut) (g : List Nat) (cv : BV) (H : BH) (h : RdP H rb t s A) (hok : A.Ok w) (hw : w ≤ 1000) (hg : Rd H 2 cv (g.map encN)) (hgl : g.length = A.acc.length) (hn : A.acc.length ≤ 1000000) :
    FnDoes (gam base) 93 [.ptr rb 0, cv] H fun v K => ∃ y bo, v = .tup [y, encN (kindsA A g).length] ∧ OwnV base K 2 y ((finer A g).map encN) bo ∧ Fr H bo := by
  refine FnDoes.of (fn := ir93) rfl ?_
  obtain ⟨n, hnn⟩ : ∃ n, n = A.acc.length := ⟨_, rfl⟩
  have hcl : cv.slen = n := by rw [hg.lenM, hgl, hnn]
  have c1 : (n : Int) ≤ 140737488355328 := by omega
  have c8 : 8 * (n : Int) ≤ 140737488355328 := by omega
  simp [ir93, hg.isSl, hcl, c1, c8]
  intro n7 b7 f7
  simp [make_of f7 b7]
  intro n8 b8 f8
  have o1 := Own.start (base := base) (H := H) |>.new f7 b7 (s := .arr 2 (List.replicate n (.int .i64 0))) |>.new f8 b8 (s := .arr 2 [])
  simp [make_of f8 b8]
  obtain ⟨F, hF⟩ : ∃ F : Nat → Int, F = fun j => ((pos (kindsA A g) (keyA A g j) : Nat) : Int) := ⟨_, rfl⟩
  obtain ⟨I, hI⟩ : ∃ I : Nat → Env → BH → Prop, I = (fun i e K => e 9 = encN i ∧ ∃ v8 lo, ∃ fs : List Nat, e 8 = v8 ∧ fs.map (keyA A g) = kindsI A g i ∧ (∀ f ∈ fs, f < n) ∧ Own base H K [(lo, .arr 2 (fs.map encN)), (some n7, .arr 2 ((fillZ n F i).map encI))] ∧ Vec lo v8 fs.length) := ⟨_, rfl⟩
  refine wpC_countK n [(0, .ptr rb 0), (1, cv), (6, encN n), (7, .sl n7 0 n)] I (i0 := 0) ?_ ?_ ?_ (Nat.zero_le _) ?_
  · rfl
  · simp
  · rw [hI]
    refine ⟨rfl, .sl n8 0 0, some n8, [], rfl, rfl, fun f hf => by simp at hf, ?_, rfl⟩
    rw [fillZ_zero, repl0Z]
    exact o1
  clear o1
  rintro i e K hi ⟨e0, e1, e6, e7, -⟩ hh
  rw [hI] at hh
  obtain ⟨e9, v8, lo, fs, e8, hfs, hfn, o, hv8⟩ := hh
  simp only [] at e0 e1 e6 e7
  have wi := wS (n := i) (by omega)
  by_cases hlt : i < n
  · have hltA : i < A.acc.length := by omega
    have hltg : i < g.length := by omega
    obtain ⟨K2, g2, o2⟩ := o.put 1 (b := n7) rfl (j := i) (u := encI (-1)) (by simp [fillZ_len F hi, hlt]) rfl (rt := none) rfl
    have hfsl : fs.length ≤ i := by
      have h1 := congrArg List.length hfs
      rw [List.length_map] at h1
      have h2 := nodup_le (xs := kindsI A g i) (ys := (List.range i).map (keyA A g)) (addAll_nodup List.nodup_nil) fun x hx => addAll_all.1 hx
      simp at h2
      omega
    have hkl : fs.length = (kindsI A g i).length := by rw [← hfs, List.length_map]
    have hkg : ∀ k, (hk : k < fs.length) → (kindsI A g i)[k]'(by omega) = keyA A g fs[k] := fun k hk => by simp [← hfs]
    simp [e6, e7, e9, hlt, g2]
    obtain ⟨J, hJ⟩ : ∃ J : Nat → Env → BH → Prop, J = (fun k e K => e 10 = encN k ∧ ∃ v : Int, Own base H K [(lo, .arr 2 (fs.map encN)), (some n7, .arr 2 (((fillZ n F i).set i v).map encI))] ∧
      ((v = -1 ∧ ∀ j, (hj : j < k) → (hj2 : j < fs.length) → keyA A g fs[j] ≠ keyA A g i) ∨ (∃ k', k = k' + 1 ∧ v = (k' : Nat) ∧ ∃ hk : k' < fs.length, keyA A g fs[k'] = keyA A g i ∧ ∀ j, (hj : j < k') → keyA A g fs[j] ≠ keyA A g i))) := ⟨_, rfl⟩
    refine wpC_countK fs.length [(0, .ptr rb 0), (1, cv), (6, encN n), (7, .sl n7 0 n), (8, v8), (9, encN i)] J (i0 := 0) ?_ ?_ ?_ (Nat.zero_le _) ?_
    · rfl
    · simp [e0, e1, e6, e7, e8, e9]
    · rw [hJ]
      refine ⟨by simp, -1, ?_, .inl ⟨rfl, fun j hj => by omega⟩⟩
      simpa [List.map_set] using o2
    clear e0 e1 e6 e7 e8 e9 o o2 g2
    rintro k e M hk ⟨e0, e1, e6, e7, e8, e9, -⟩ hh
    rw [hJ] at hh
    obtain ⟨e10, v, o, hv⟩ := hh
    simp only [] at e0 e1 e6 e7 e8 e9
    have wk := wS (n := k) (by omega)
    have hrd := rd_ptr (o.at 1 (b := n7) rfl) (rt := none) (j := i) (c := encI v) rfl (by simp [fillZ_len F hi, hlt])
    have hpre := kindsI_pre A g (show i ≤ A.acc.length by omega)
    have hpre1 := kindsI_pre A g (show i + 1 ≤ A.acc.length from hltA)
    have hsu := kindsI_succ A g i
    have found : ∀ k', v = (k' : Nat) → (∃ hk : k' < fs.length, keyA A g fs[k'] = keyA A g i ∧ ∀ j, (hj : j < k') → keyA A g fs[j] ≠ keyA A g i) → v = F i ∧ kindsI A g (i + 1) = kindsI A g i := by
      rintro k' hv' ⟨hk1, hk2, hk3⟩
      have hp : pos (kindsI A g i) (keyA A g i) = k' := pos_first (by omega) (by rw [hkg k' hk1, hk2]) fun j hj => by rw [hkg j (by omega)]; exact hk3 j hj
      have hm : keyA A g i ∈ kindsI A g i := by
        have := List.getElem_mem (l := kindsI A g i) (n := k') (by omega)
        rw [hkg k' hk1, hk2] at this
        exact this
      refine ⟨?_, by rw [hsu]; unfold addK; rw [if_pos hm]⟩
      rw [hv', hF]
      show ((k' : Nat) : Int) = ((pos (kindsA A g) (keyA A g i) : Nat) : Int)
      rw [idx_pre hpre hm, hp]
    rcases hv with ⟨rfl, hno⟩ | ⟨k', rfl, hv', hk'⟩
    · by_cases hlk : k < fs.length
      · have hrf := (o.rd 0 rfl (v := v8) (by simpa using hv8)).at hlk (rt := none) rfl
        have hfk := hfn _ (List.getElem_mem hlk)
        have hfkg : fs[k] < g.length := by omega
        have hgk := (hg.keeps o.keeps).at hfkg (rt := none) rfl
        have hgi := (hg.keeps o.keeps).at hltg (rt := none) rfl
        have hg1 : (keyA A g fs[k]).1 = g[fs[k]] := by unfold keyA; simp [hfkg]
        have hg2 : (keyA A g i).1 = g[i] := by unfold keyA; simp [hltg]
        simp [e7, e8, e9, e10, hv8.isSl, hv8.len, hlk, hlt, hrd, e1, hrf, hg.isSl, hcl, hfk, hgk, hgi]
        by_cases hge : g[fs[k]] = g[i]
        · have hal := s_alike (base := base) t s rb w A g cv M (h.keeps o.keeps) hok hw (hg.keeps o.keeps) hgl fs[k] i (by omega) hltA
          simp [hge, e0, e1, e8, e9, e10, hv8.isSl, hv8.len, hlk, hrf]
          refine callP hal ?_
          by_cases hk2 : (keyA A g fs[k]).2 = (keyA A g i).2
          · have hkey : keyA A g fs[k] = keyA A g i := Prod.ext (by rw [hg1, hg2, hge]) hk2
            obtain ⟨K3, g3, o3⟩ := o.put 1 (b := n7) rfl (j := i) (u := encI (k : Nat)) (by simp [fillZ_len F hi, hlt]) rfl (rt := none) rfl
            have g3' : M.wr base none 1 (.ptr n7 i) (encN k) = some K3 := g3
            simp [hk2, e7, e9, e10, hlt, g3', wk, hlk]
            rw [hJ]
            refine ⟨by simp, (k : Nat), ?_, .inr ⟨k, rfl, rfl, hlk, hkey, fun j hj => hno j hj (by omega)⟩⟩
            simpa [List.map_set] using o3
          · simp [hk2, e10, wk, hlk]
            rw [hJ]
            refine ⟨by simp, -1, o, .inl ⟨rfl, fun j hj hj2 => ?_⟩⟩
            by_cases hjk : j = k
            · subst hjk
              intro e
              exact hk2 (by rw [e])
            · exact hno j (by omega) hj2
        · have hgi' : ¬ ((g[fs[k]] : Nat) : Int) = ((g[i] : Nat) : Int) := by omega
          have hgb : (((g[fs[k]] : Nat) : Int) == ((g[i] : Nat) : Int)) = false := by simpa using hgi'
          simp [hgb, e10, wk, hlk]
          rw [hJ]
          refine ⟨by simp, -1, o, .inl ⟨rfl, fun j hj hj2 => ?_⟩⟩
          by_cases hjk : j = k
          · subst hjk
            intro e
            exact hge (by rw [← hg1, ← hg2, e])
          · exact hno j (by omega) hj2
      · -- a new class
        have hke : k = fs.length := by omega
        have hm : keyA A g i ∉ kindsI A g i := fun hm => by
          obtain ⟨j, hj⟩ := List.getElem_of_mem hm
          obtain ⟨hjl, hje⟩ := hj
          rw [hkg j (by omega)] at hje
          exact hno j (by omega) (by omega) hje
        have hadd : kindsI A g (i + 1) = kindsI A g i ++ [keyA A g i] := by rw [hsu]; unfold addK; rw [if_neg hm]
        have hFi : F i = (fs.length : Nat) := by
          rw [hF, hkl, ← idx_new hm, ← hsu]
          show ((pos (kindsA A g) (keyA A g i) : Nat) : Int) = _
          rw [idx_pre hpre1 (by rw [hsu]; exact mem_addK.2 (.inr rfl))]
        obtain ⟨K3, g3, o3⟩ := o.put 1 (b := n7) rfl (j := i) (u := encI (fs.length : Nat)) (by simp [fillZ_len F hi, hlt]) rfl (rt := none) rfl
        have g3' : M.wr base none 1 (.ptr n7 i) (.int .i64 (fs.length : Nat)) = some K3 := g3
        simp [e7, e8, e9, e10, hv8.isSl, hv8.len, hlk, hlt, hrd, g3']
        intro n1 b1 f1
        simp [make_of f1 b1]
        intro n4 b4 f4
        obtain ⟨v', K', b', q1, q2, q3⟩ := o3.push 0 rfl (v := v8) (by simpa using hv8) (x := encN i) (bytes := 8) rfl (by simp; omega) (by simp; omega) f1 b1 f4 b4
        simp [q1, e9, wi, hlt]
        rw [hI]
        refine ⟨by simp, v', some b', fs ++ [i], by simp, by rw [List.map_append, hfs, hadd]; rfl, fun f hf => ?_, ?_, by simpa using q3⟩
        · rcases List.mem_append.1 hf with hf | hf
          · exact hfn f hf
          · rw [List.mem_singleton] at hf; omega
        · rw [← fillZ_set F hlt, hFi]
          simpa [List.map_set] using q2
    · obtain ⟨hvF, hks⟩ := found k' hv' hk'
      have hnn : ¬ v < 0 := by omega
      have fin : ∀ e : Env, e 9 = encN (i + 1) → e 8 = v8 → I (i + 1) e M := fun e h9 h8 => by
        rw [hI]
        refine ⟨h9, v8, lo, fs, h8, by rw [hks]; exact hfs, hfn, ?_, hv8⟩
        rw [← fillZ_set F hlt, ← hvF]
        exact o
      by_cases hlk : k' + 1 < fs.length
      · have hlk1 : (k' : Int) + 1 < (fs.length : Int) := by omega
        simp [e7, e8, e9, e10, hv8.isSl, hv8.len, hlk1, hlt, hrd, hnn, wi]
        refine fin _ ?_ ?_ <;> simp [e8]
      · have hlk' : ¬ ((k' : Int) + 1 < (fs.length : Int)) := by omega
        simp [e7, e8, e9, e10, hv8.isSl, hv8.len, hlk, hlk', hlt, hrd, hnn, wi]
        refine fin _ ?_ ?_ <;> simp [e8]
  · have hie : i = n := by omega
    subst hie
    have hall : fillZ i F i = (finer A g).map fun (q : Nat) => (q : Int) := by
      rw [fillZ_all, hF]
      unfold finer
      rw [List.map_map, hnn]
      rfl
    rw [hall] at o
    have hkk : kindsI A g i = kindsA A g := by rw [hnn]; rfl
    have hfl : fs.length = (kindsA A g).length := by rw [← hkk, ← hfs, List.length_map]
    simp [e6, e7, e8, e9, hv8.isSl, hv8.len, hfl]
    have o' : Own base H K [(lo, .arr 2 (fs.map encN)), (some n7, .arr 2 ((finer A g).map encN))] := by
      rw [List.map_map] at o
      exact o
    exact ⟨o.keeps, some n7, o'.vec 1 rfl (by rw [List.length_map, finer_len, ← hnn]; rfl), Fr.some (o'.fr 1 rfl)⟩
end Go.Proofs.YtcnkhkmapgbodaaDoor.W
end

section
namespace Go.Proofs.YtcnkhkmapgbodaaDoor.W
set_option linter.unusedVariables false
set_option linter.unusedSimpArgs false
open Go.B
variable {base : Nat}
attribute [local simp] wpC_skip wpC_region wpC_seq wpC_true wpC_false wpC_block wpC_exit wpC_ret wpO_nil wpO_n wpO_tt wpO_ff wpO_tf wpO_ft wpO_u wpS_mov wpS_pick wpS_build wpS_load wpS_store wpS_nilck wpS_bin wpS_beq wpS_isnil wpS_eqs wpS_not wpS_neg wpS_conv wpS_lea wpS_fld wpS_idx wpS_idxs wpS_slice wpS_sslice wpS_mkfn wpS_mset wpS_look wpS_ext wpS_len wpS_new wpS_box wpS_mk wpS_mkmap wpS_mksl wpS_app wpS_fn wpS_call after_some pthen_n pthen_x pthen_r pin BExit.outOf puto_some puto_none put_eq put_ne Opd.ev argEnv op1_mov op1_pick op1_new op1_box op1_load op1_nilck op1_bin op1_beq op1_not op1_neg op1_conv op1_lea op1_fld op1_len0 op1_len1 op1_idx op1_ext op1_build op1_mk op1_stw op1_mksl op1_eqs pureBin isShift resOf resVals val_tmp val_cell oneOf one_int cells_int one_bool cells_bool one_str cells_str one_nilp cells_nilp one_ptr cells_ptr one_nils cells_nils one_sl cells_sl one_sle cells_sle one_nilm cells_nilm one_mp cells_mp one_nilf cells_nilf one_fn cells_fn one_nili cells_nili cells_agg isSl_sl slen_sl sat_sl make_of asm rtOk wpS_b2s op1_b2s wpS_imax op1_imax wpS_imin op1_imin wpS_i2s op1_i2s op1_isnil Option.map_some gam_base op1_app op1_idxs wpS_idxa op1_idxa op1_sslice bound_none bound_some nat_of op1_mkmap op1_mset op1_look op1_len2 op1_mkfn Go.B.fillB Has
open Go.Au
/-- What stands before the classes are made finer. -/
def Ts1 (base : Nat) (H : BH) (rb t s : Nat) (A : Aut) (e : Env) (K : BH) : Prop := ∃ K1 n2 n3 n4 u w, Own base H K1 [(some n2, .arr 29 [.int .i64 0, .int .i64 0, .nils, .nils])] ∧ Rd K1 4 u ((rightS t A s).acc.map encB) ∧ RdR K1 37 2 w encN (rightS t A s).nxt ∧
  Has e [(0, .ptr rb 0), (2, .ptr n2 0), (3, .ptr n3 0), (4, .sl n4 0 (rightS t A s).acc.length)] ∧ Own base K1 K [(some n4, .arr 2 ((class0 (rightS t A s)).map encN)), (some n3, .arr 29 [encN t, encN 0, u, w])]
theorem tidied_p1 (t s rb : Nat) (ht : t ≤ 3) (A : Aut) (H : BH) (h : RdP H rb t s A) (hok : A.Ok (wd t)) (hs : s < A.acc.length) (hn : A.acc.length ≤ 100000) (Q : Post) :
    wpC base (Runs (gam base)) (ir66.body.hd 4) (Post.then (Ts1 base H rb t s A) Q) (argEnv [.ptr rb 0]) H := by
  obtain ⟨R, hR⟩ : ∃ R, R = Ts1 base H rb t s A := ⟨_, rfl⟩
  rw [← hR]
  unfold Ts1 at hR
  have hT8 : 2 ^ t ≤ 8 := Nat.pow_le_pow_right (n := 2) (by omega) ht
  have hNT : A.acc.length * 2 ^ t ≤ 800000 := by have := Nat.mul_le_mul hn hT8; omega
  obtain ⟨hX, hXl, hXL⟩ := rightS_ok hok hs
  simp [ir66, BCode.hd]
  intro n2 b2 f2
  have o1 := Own.start (base := base) (H := H) |>.new f2 b2 (s := .arr 29 [.int .i64 0, .int .i64 0, .nils, .nils])
  simp [make_of f2 b2]
  refine (s_right (base := base) t s rb ht A _ (h.keeps o1.keeps) hok hs hn).step fun v K1 k1 hv => ?_
  obtain ⟨u, w, rfl, hu, hw⟩ := hv
  have oH := o1.call k1
  have u1 := hu.one
  have w1 := one_of_isSl hw.isSl
  obtain ⟨X, hXd⟩ : ∃ X, X = rightS t A s := ⟨_, rfl⟩
  rw [← hXd] at hu hw hX hXl hR
  simp [u1, w1]
  intro n3 b3 f3
  obtain ⟨K2, g2, o2⟩ := ((Own.start (base := base) (H := K1)).new f3 b3 (s := .arr 29 [.int .i64 0, .int .i64 0, .nils, .nils])).putAll 0 (b := n3) (n := 4) (ds := [encN t, encN 0, u, w]) rfl rfl rfl (by simp [u1, w1]) (rt := none) rfl
  have r2 := rd_ptr (o2.at 0 (b := n3) rfl) (rt := none) (j := 2) (c := u) rfl rfl
  have c1 : (X.acc.length : Int) ≤ 140737488355328 := by omega
  have c8 : 8 * (X.acc.length : Int) ≤ 140737488355328 := by omega
  simp [make_of f3 b3, g2, r2, hu.isSl, hu.lenM, c1, c8]
  intro n4 b4 f4
  have o3 := o2.new f4 b4 (s := .arr 2 (List.replicate X.acc.length (.int .i64 0)))
  simp [make_of f4 b4]
  obtain ⟨f0, hf0⟩ : ∃ f0 : Nat → Nat, f0 = fun j => if X.acc.getD j false = true then 1 else 0 := ⟨_, rfl⟩
  obtain ⟨I, hI⟩ : ∃ I : Nat → Env → BH → Prop, I = (fun i e K => e 5 = encN i ∧ Own base K1 K [(some n4, .arr 2 ((fillN X.acc.length f0 i).map encN)), (some n3, .arr 29 [encN t, encN 0, u, w])]) := ⟨_, rfl⟩
  refine wpC_countK X.acc.length [(0, .ptr rb 0), (2, .ptr n2 0), (3, .ptr n3 0), (4, .sl n4 0 X.acc.length)] I (i0 := 0) ?_ ?_ ?_ (Nat.zero_le _) ?_
  · rfl
  · simp
  · rw [hI]
    refine ⟨rfl, ?_⟩
    rw [fillN_zero, repl0]
    exact o3
  rintro i e K hi ⟨e0, e2, e3, e4, -⟩ hh
  rw [hI] at hh
  obtain ⟨e5, o⟩ := hh
  simp only [] at e0 e2 e3 e4
  have wi := wS (n := i) (by omega)
  have r2 := rd_ptr (o.at 1 (b := n3) rfl) (rt := none) (j := 2) (c := u) rfl rfl
  by_cases hlt : i < X.acc.length
  · have hr := (hu.keeps o.keeps).at hlt (rt := none) rfl
    have hga : X.acc.getD i false = X.acc[i] := by simp [hlt]
    simp [e3, e5, r2, hu.isSl, hu.lenM, hlt, hr]
    cases hb : X.acc[i] with
    | false =>
      simp [e5, wi, hlt]
      rw [hI]
      refine ⟨by simp, ?_⟩
      rw [fillN_skip f0 hlt (by rw [hf0]; show (if X.acc.getD i false = true then 1 else 0) = 0; rw [hga, hb]; rfl)]
      exact o
    | true =>
      obtain ⟨K5, g5, o5⟩ := o.put 0 (b := n4) rfl (j := i) (u := encN 1) (by simp [fillN_len f0 hi, hlt]) rfl (rt := none) rfl
      have g5' : K.wr base none 1 (.ptr n4 i) (.int .i64 1) = some K5 := g5
      simp [e4, hlt, g5', e5, wi]
      rw [hI]
      refine ⟨by simp, ?_⟩
      rw [← fillN_set f0 hlt, show f0 i = 1 by rw [hf0]; show (if X.acc.getD i false = true then 1 else 0) = 1; rw [hga, hb]; rfl]
      simpa [List.map_set] using o5
  · have hie : i = X.acc.length := by omega
    subst hie
    have hc0 : fillN X.acc.length f0 X.acc.length = class0 X := by rw [fillN_all, hf0]; exact class0_fill X
    rw [hc0] at o
    simp [e3, e5, r2, hu.isSl, hu.lenM]
    rw [hR]
    exact ⟨K1, n2, n3, n4, u, w, oH, hu, hw, by simp [e0, e2, e3, e4], o⟩
/-- What stands behind that. -/
def Ts2 (base : Nat) (H : BH) (rb t s N : Nat) (A : Aut) (e : Env) (K : BH) : Prop := ∃ K1 n2 n3 cv u w, Own base H K1 [(some n2, .arr 29 [.int .i64 0, .int .i64 0, .nils, .nils])] ∧ Rd K1 4 u ((rightS t A s).acc.map encB) ∧ RdR K1 37 2 w encN (rightS t A s).nxt ∧
  Has e [(0, .ptr rb 0), (2, .ptr n2 0), (3, .ptr n3 0), (4, cv), (6, encN (countN (rightS t A s) N))] ∧ Own base K1 K [(some n3, .arr 29 [encN t, encN 0, u, w])] ∧ Rd K 2 cv ((classN (rightS t A s) (N + 1)).map encN)
theorem tidied_p2 (t s rb N : Nat) (ht : t ≤ 3) (A : Aut) (H : BH) (hok : A.Ok (wd t)) (hs : s < A.acc.length) (hn : A.acc.length ≤ 100000)
    (hstop : countN (rightS t A s) (N + 1) = countN (rightS t A s) N) (hgo : ∀ j, j < N → countN (rightS t A s) (j + 1) ≠ countN (rightS t A s) j) (Q : Post) (e : Env) (K : BH) (hh : Ts1 base H rb t s A e K) :
    wpC base (Runs (gam base)) ((ir66.body.tl 4).hd 2) (Post.then (Ts2 base H rb t s N A) Q) e K := by
  obtain ⟨R, hR⟩ : ∃ R, R = Ts2 base H rb t s N A := ⟨_, rfl⟩
  rw [← hR]
  unfold Ts2 at hR
  have hT8 : 2 ^ t ≤ 8 := Nat.pow_le_pow_right (n := 2) (by omega) ht
  have hNT : A.acc.length * 2 ^ t ≤ 800000 := by have := Nat.mul_le_mul hn hT8; omega
  obtain ⟨hX, hXl, hXL⟩ := rightS_ok hok hs
  obtain ⟨K1, n2, n3, n4, u, w, oH, hu, hw, ⟨e0, e2, e3, e4, -⟩, o⟩ := hh
  simp only [] at e0 e2 e3 e4
  obtain ⟨X, hXd⟩ : ∃ X, X = rightS t A s := ⟨_, rfl⟩
  rw [← hXd] at hu hw hX hXl hR hstop hgo o e4
  simp [ir66, BCode.hd, BCode.tl]
  obtain ⟨I, hI⟩ : ∃ I : Nat → Env → BH → Prop, I = (fun k e K => e 6 = encN (countN X k) ∧ ∃ cv, e 4 = cv ∧ Own base K1 K [(some n3, .arr 29 [encN t, encN 0, u, w])] ∧ Rd K 2 cv ((classN X k).map encN)) := ⟨_, rfl⟩
  refine wpC_countK N [(0, .ptr rb 0), (2, .ptr n2 0), (3, .ptr n3 0)] I (i0 := 0) ?_ ?_ ?_ (Nat.zero_le _) ?_
  · rfl
  · simp [e0, e2, e3]
  · rw [hI]
    exact ⟨rfl, .sl n4 0 X.acc.length, by simp [e4], o.tail, o.rd 0 rfl (by rw [List.length_map, classN_len]; rfl)⟩
  clear e0 e2 e3 e4 o
  rintro k e K hk ⟨e0, e2, e3, -⟩ hh
  rw [hI] at hh
  obtain ⟨e6, cv, e4, o, hcv⟩ := hh
  simp only [] at e0 e2 e3
  have hP : RdP K n3 t 0 X := ⟨u, w, o.at 0 rfl, hu.keeps o.keeps, hw.keeps o.keeps⟩
  have hw3 := wd_3 ht
  simp [e3, e4]
  refine (s_finer (base := base) t 0 n3 (wd t) X (classN X k) cv K hP hX (by omega) hcv (classN_len k) (by omega)).step fun v K2 k2 hv => ?_
  obtain ⟨y, bo, rfl, hy, hfr⟩ := hv
  have o2 := o.call k2
  have hcn : (kindsA X (classN X k)).length = countN X (k + 1) := rfl
  rw [hcn]
  by_cases hkN : k < N
  · have hne := hgo k hkN
    have hne' : ((countN X (k + 1) : Int) == (countN X k : Int)) = false := by simp; omega
    simp [e6, hne', hkN]
    rw [hI]
    exact ⟨by simp, y, by simp, o2, hy.rd⟩
  · have hkE : k = N := by omega
    subst hkE
    simp [e6, hstop]
    rw [hR]
    exact ⟨K1, n2, n3, y, u, w, oH, hu, hw, by simp [e0, e2, e3, e6], o2, hy.rd⟩
end Go.Proofs.YtcnkhkmapgbodaaDoor.W
end

section
namespace Go.Proofs.YtcnkhkmapgbodaaDoor.W
set_option linter.unusedVariables false
set_option linter.unusedSimpArgs false
open Go.B
variable {base : Nat}
attribute [local simp] wpC_skip wpC_region wpC_seq wpC_true wpC_false wpC_block wpC_exit wpC_ret wpO_nil wpO_n wpO_tt wpO_ff wpO_tf wpO_ft wpO_u wpS_mov wpS_pick wpS_build wpS_load wpS_store wpS_nilck wpS_bin wpS_beq wpS_isnil wpS_eqs wpS_not wpS_neg wpS_conv wpS_lea wpS_fld wpS_idx wpS_idxs wpS_slice wpS_sslice wpS_mkfn wpS_mset wpS_look wpS_ext wpS_len wpS_new wpS_box wpS_mk wpS_mkmap wpS_mksl wpS_app wpS_fn wpS_call after_some pthen_n pthen_x pthen_r pin BExit.outOf puto_some puto_none put_eq put_ne Opd.ev argEnv op1_mov op1_pick op1_new op1_box op1_load op1_nilck op1_bin op1_beq op1_not op1_neg op1_conv op1_lea op1_fld op1_len0 op1_len1 op1_idx op1_ext op1_build op1_mk op1_stw op1_mksl op1_eqs pureBin isShift resOf resVals val_tmp val_cell oneOf one_int cells_int one_bool cells_bool one_str cells_str one_nilp cells_nilp one_ptr cells_ptr one_nils cells_nils one_sl cells_sl one_sle cells_sle one_nilm cells_nilm one_mp cells_mp one_nilf cells_nilf one_fn cells_fn one_nili cells_nili cells_agg isSl_sl slen_sl sat_sl make_of asm rtOk wpS_b2s op1_b2s wpS_imax op1_imax wpS_imin op1_imin wpS_i2s op1_i2s op1_isnil Option.map_some gam_base op1_app op1_idxs wpS_idxa op1_idxa op1_sslice bound_none bound_some nat_of op1_mkmap op1_mset op1_look op1_len2 op1_mkfn Go.B.fillB Has
open Go.Au
theorem tidied_p3 (t s rb N : Nat) (ht : t ≤ 3) (A : Aut) (H : BH) (h : RdP H rb t s A) (hok : A.Ok (wd t)) (hs : s < A.acc.length) (hn : A.acc.length ≤ 100000)
    (hstop : countN (rightS t A s) (N + 1) = countN (rightS t A s) N) (e : Env) (K : BH) (hh : Ts2 base H rb t s N A e K) :
    wpC base (Runs (gam base)) ((ir66.body.tl 4).tl 2) (fun x e' K => (x = .normal ∨ x = .ret) ∧ ∃ v, resOf ir66.results e' K = some v ∧ H.Keeps K ∧ OwnRel base H K t 0 (TA t (A.lang s)) v) e K := by
  obtain ⟨hX, hXl, hXL⟩ := rightS_ok hok hs
  have hM := merged_of hX hstop
  have hTA : mergedA (wd t) (rightS t A s) (classN (rightS t A s) (N + 1)) 0 = TA t (A.lang s) := TA_of_merged hM hX hX.pos hXL
  rw [← hTA]
  obtain ⟨R, hR⟩ : ∃ R : BV → BH → Prop, R = fun v K => H.Keeps K ∧ OwnRel base H K t 0 (mergedA (wd t) (rightS t A s) (classN (rightS t A s) (N + 1)) 0) v := ⟨_, rfl⟩
  have hR' : (fun (x : BExit) (e' : Env) (K : BH) => (x = .normal ∨ x = .ret) ∧ ∃ v, resOf ir66.results e' K = some v ∧ H.Keeps K ∧ OwnRel base H K t 0 (mergedA (wd t) (rightS t A s) (classN (rightS t A s) (N + 1)) 0) v) = fun x e' K => (x = .normal ∨ x = .ret) ∧ ∃ v, resOf ir66.results e' K = some v ∧ R v K := by rw [hR]
  rw [hR']
  obtain ⟨u0, x0, hr0, _, _⟩ := h
  have hT8 : 2 ^ t ≤ 8 := Nat.pow_le_pow_right (n := 2) (by omega) ht
  have hNT : A.acc.length * 2 ^ t ≤ 800000 := by have := Nat.mul_le_mul hn hT8; omega
  have hw3 := wd_3 ht
  obtain ⟨K1, n2, n3, cv, u, w, oH, hu, hw, ⟨e0, e2, e3, e4, e6, -⟩, o, hcv⟩ := hh
  simp only [] at e0 e2 e3 e4 e6
  obtain ⟨X, hXd⟩ : ∃ X, X = rightS t A s := ⟨_, rfl⟩
  rw [← hXd] at hu hw hX hXl hR hstop e6 hM hcv
  obtain ⟨cnt, hcnt⟩ : ∃ cnt, cnt = countN X N := ⟨_, rfl⟩
  rw [← hcnt] at hstop e6
  obtain ⟨G, hG⟩ : ∃ G, G = classN X (N + 1) := ⟨_, rfl⟩
  rw [← hG] at hM hcv hR
  have hGl : G.length = X.acc.length := hM.len
  have hGlt : ∀ q, q < X.acc.length → G.getD q 0 < cnt := fun q hq => by
    have h1 := finer_lt (X := X) (g := classN X N) hq
    rw [hG]
    show (finer X (classN X N)).getD q 0 < _
    have h2 : (kindsA X (classN X N)).length = cnt := hstop
    omega
  have hcl1 : cnt ≤ X.acc.length := by rw [hcnt]; exact countN_lt
  obtain ⟨K2, hK2⟩ : ∃ K2, K2 = K := ⟨_, rfl⟩
  have oH2 := oH.call (o.keeps.trans (by rw [← hK2]; exact BH.Keeps.refl _) : K1.Keeps K2)
  have hr3 : K2.row n3 = .arr 29 [encN t, encN 0, u, w] := by rw [hK2]; exact o.at 0 rfl
  have hu := hu.keeps (by rw [hK2]; exact o.keeps : K1.Keeps K2)
  have hw := hw.keeps (by rw [hK2]; exact o.keeps : K1.Keeps K2)
  have hr0 : K2.row rb = .arr 29 [encN t, encN s, u0, x0] := by rw [oH2.keeps rb (by rw [hr0]; simp), hr0]
  rw [← hK2] at hcv ⊢
  clear o hK2 oH
  have o := Own.start (base := base) (H := K2)
  simp [ir66, BCode.tl, BCode.hd]
  have c1 : (cnt : Int) ≤ 140737488355328 := by omega
  have c8 : 8 * (cnt : Int) ≤ 140737488355328 := by omega
  simp [e6, c1, c8]
  intro n9 b9 f9
  have o1 := o.new f9 b9 (s := .arr 2 (List.replicate cnt (.int .i64 0)))
  simp [make_of f9 b9]
  obtain ⟨I, hI⟩ : ∃ I : Nat → Env → BH → Prop, I = (fun i e K => e 10 = encN i ∧ Own base K2 K [(some n9, .arr 2 ((fillZ cnt (fun _ => -1) i).map encI))]) := ⟨_, rfl⟩
  refine wpC_countK cnt [(0, .ptr rb 0), (2, .ptr n2 0), (3, .ptr n3 0), (4, cv), (6, encN cnt), (9, .sl n9 0 cnt)] I (i0 := 0) ?_ ?_ ?_ (Nat.zero_le _) ?_
  · rfl
  · simp [e0, e2, e3, e4, e6]
  · rw [hI]
    refine ⟨by simp, ?_⟩
    rw [fillZ_zero, repl0Z]
    exact o1
  clear e0 e2 e3 e4 e6 o o1
  rintro i e K hi ⟨e0, e2, e3, e4, e6, e9, -⟩ hh
  rw [hI] at hh
  obtain ⟨e10, o⟩ := hh
  simp only [] at e0 e2 e3 e4 e6 e9
  have wi := wS (n := i) (by omega)
  by_cases hlt : i < cnt
  · obtain ⟨K5, g5, o5⟩ := o.put 0 (b := n9) rfl (j := i) (u := .int .i64 (-1)) (by simp [fillZ_len _ hi, hlt]) rfl (rt := none) rfl
    simp [e6, e9, e10, hlt, g5, wi]
    rw [hI]
    refine ⟨by simp, ?_⟩
    rw [← fillZ_set _ hlt]
    simpa [List.map_set] using o5
  have hie : i = cnt := by omega
  subst hie
  rw [fillZ_all, ← numL_nil] at o
  have r1 := rd_keeps o.keeps (rd_ptr hr3 (rt := none) (j := 1) (c := encN 0) rfl rfl)
  simp [e3, e6, e9, e10, r1]
  intro n11 b11 f11
  have o2 := o.new f11 b11 (s := .arr 2 [encN 0])
  have r1' := rd_keeps o2.keeps (rd_ptr hr3 (rt := none) (j := 1) (c := encN 0) rfl rfl)
  have h0G : 0 < G.length := by rw [hGl]; exact hX.pos
  have hG0 := (hcv.keeps o2.keeps).at h0G (rt := none) rfl
  have hg0 : G.getD 0 0 = G[0] := by simp [h0G]
  have hg0l : G[0] < i := by rw [← hg0]; exact hGlt 0 hX.pos
  obtain ⟨K4, g4, o4⟩ := o2.put 1 (b := n9) rfl (j := G[0]) (u := encI 0) (by simp [numL_len, hg0l]) rfl (rt := none) rfl
  have g4' : (K.set n11 (.arr 2 [.int .i64 0])).wr base none 1 (.ptr n9 G[0]) (.int .i64 0) = some K4 := g4
  have r1'' : (K.set n11 (.arr 2 [.int .i64 0])).rd none none (.ptr n3 1) = some (encN 0) := r1'
  have hG0' : (K.set n11 (.arr 2 [.int .i64 0])).rd none none (cv.sat 0 1) = some (encN G[0]) := hG0
  have r0 := rd_keeps o4.keeps (rd_ptr hr0 (rt := none) (j := 0) (c := encN t) rfl rfl)
  simp [make_of f11 b11, e0, e3, e4, e9, r1'', hcv.isSl, hcv.lenM, h0G, hG0', hg0l, g4', r0]
  intro n12 b12 f12
  obtain ⟨K6, g6, o6⟩ := (o4.new f12 b12 (s := .arr 29 [.int .i64 0, .int .i64 0, .nils, .nils])).putAll 0 (b := n12) (n := 4) (ds := [encN t, .int .i64 0, .nils, .nils]) rfl rfl rfl rfl (rt := none) rfl
  simp [make_of f12 b12, g6]
  have hset := numL_set (N := i) (ks := []) hg0l (by simp)
  rw [List.nil_append] at hset
  have o7 : Own base K2 K6 [(some n12, .arr 29 [encN t, .int .i64 0, .nils, .nils]), (some n11, .arr 2 [encN 0]), (some n9, .arr 2 ((numL i [G[0]]).map encI))] := by
    rw [← hset]
    simpa [List.map_set] using o6
  -- one state for each class
  have hcl := hM.closed hX hX.pos
  rw [hg0] at hcl
  have hdone := hcl.done
  obtain ⟨KS, hKS⟩ : ∃ KS, KS = metL (succs (wd t) (nxG X G)) G[0] G.length := ⟨_, rfl⟩
  have hKl : KS.length ≤ G.length := by rw [hKS]; exact hcl.len _
  have pre : ∀ i, metL (succs (wd t) (nxG X G)) G[0] i <+: KS := fun i => by
    rcases Nat.le_total i G.length with h | h
    · rw [hKS]; exact met_pre h
    · rw [hdone.eq h, hKS]; exact List.prefix_refl _
  have hlen : ∀ i, (metL (succs (wd t) (nxG X G)) G[0] i).length ≤ G.length := fun i => hcl.len i
  obtain ⟨J, hJ⟩ : ∃ J : Nat → Env → BH → Prop, J = (fun j e K => e 13 = encN j ∧ ∃ v11 lo u' w' bo wo vs fr, ∃ ls : List Nat, e 11 = v11 ∧ ls.map (fun q => G.getD q 0) = metL (succs (wd t) (nxG X G)) G[0] j ∧ (∀ q ∈ ls, q < X.acc.length) ∧ j ≤ ls.length ∧
      Own base K2 K ([(wo, .arr 37 vs), (bo, .arr 4 (((KS.take j).map (accG X G)).map encB)), (some n12, .arr 29 [encN t, .int .i64 0, u', w']), (lo, .arr 2 (ls.map encN)), (some n9, .arr 2 ((numL i (metL (succs (wd t) (nxG X G)) G[0] j)).map encI))] ++ fr) ∧
      Vec lo v11 ls.length ∧ Vec bo u' j ∧ Vec wo w' j ∧ vs.length = j ∧ RowsOf 2 vs fr (((KS.take j).map fun k => rowU KS (nxG X G) k (wd t)).map (·.map encN))) := ⟨_, rfl⟩
  refine wpC_countK G.length [(2, .ptr n2 0), (3, .ptr n3 0), (4, cv), (9, .sl n9 0 i), (12, .ptr n12 0)] J (i0 := 0) ?_ ?_ ?_ (Nat.zero_le _) ?_
  · rfl
  · simp [e2, e3, e4, e9]
  · rw [hJ]
    refine ⟨by simp, .sl n11 0 1, some n11, .nils, .nils, none, none, [], [], [0], by simp, by simp [metL, h0G], by simp; exact hX.pos, Nat.zero_le _, ?_, rfl, Vec.none, Vec.none, rfl, trivial⟩
    exact (o7.nil (.arr 4 [])).nil (.arr 37 [])
  clear e0 e2 e3 e4 e6 e9 e10 o o2 o4 o6 o7 r0 r1 r1' r1'' hG0 hG0'
  rintro j e K hj ⟨e2, e3, e4, e9, e12, -⟩ hh
  rw [hJ] at hh
  obtain ⟨e13, v11, lo, u', w', bo, wo, vs, fr, ls, e11, hls, hlsn, hjl, o, hv11, hu', hw', hvs, hrows⟩ := hh
  simp only [] at e2 e3 e4 e9 e12
  have wj := wS (n := j) (by omega)
  have hlsl : ls.length = (metL (succs (wd t) (nxG X G)) G[0] j).length := by rw [← hls, List.length_map]
  by_cases hjt : j < ls.length
  · have hjG : j < G.length := by have := hlen j; omega
    obtain ⟨q, hq⟩ : ∃ q, q = ls[j] := ⟨_, rfl⟩
    have hqn : q < X.acc.length := by rw [hq]; exact hlsn _ (List.getElem_mem hjt)
    have hkj : (metL (succs (wd t) (nxG X G)) G[0] j)[j]? = some (G.getD q 0) := by rw [← hls, List.getElem?_map, List.getElem?_eq_getElem hjt, hq]; rfl
    have hKSj : KS[j]? = some (G.getD q 0) := by
      obtain ⟨r, hr⟩ := pre j
      rw [← hr, List.getElem?_append_left (by omega)]
      exact hkj
    have hjKS : j < KS.length := (List.getElem?_eq_some_iff.1 hKSj).1
    have hnext : metL (succs (wd t) (nxG X G)) G[0] (j + 1) = lsU (metL (succs (wd t) (nxG X G)) G[0] j) (nxG X G) (G.getD q 0) (wd t) := by rw [metL, hkj]; rfl
    have hpre : ∀ c, c ≤ wd t → lsU (metL (succs (wd t) (nxG X G)) G[0] j) (nxG X G) (G.getD q 0) c <+: KS := fun c hc => (lsU_pre hc).trans (by rw [← hnext]; exact pre (j + 1))
    have hqn' : q < X.nxt.length := by rw [hX.len]; exact hqn
    obtain ⟨ri, hri, hrr⟩ := hw.at hqn'
    have hrr := hrr none rfl
    have hrow := hX.row _ (List.getElem_mem hqn')
    simp [e11, e13, hv11.isSl, hv11.len, hjt]
    intro n14 b14 f14
    simp [make_of f14 b14]
    have o1 := o.new f14 b14 (s := .arr 2 [])
    obtain ⟨P, hP⟩ : ∃ P : Nat → Env → BH → Prop, P = (fun c e K => e 15 = encN c ∧ ∃ v11 v14 lo ro, ∃ ls2 : List Nat, e 11 = v11 ∧ e 14 = v14 ∧ ls2.map (fun q => G.getD q 0) = lsU (metL (succs (wd t) (nxG X G)) G[0] j) (nxG X G) (G.getD q 0) c ∧ (∀ q ∈ ls2, q < X.acc.length) ∧ ls2[j]? = some q ∧
      Own base K2 K ([(ro, .arr 2 ((rowU KS (nxG X G) (G.getD q 0) c).map encN)), (wo, .arr 37 vs), (bo, .arr 4 (((KS.take j).map (accG X G)).map encB)), (some n12, .arr 29 [encN t, .int .i64 0, u', w']), (lo, .arr 2 (ls2.map encN)),
        (some n9, .arr 2 ((numL i (lsU (metL (succs (wd t) (nxG X G)) G[0] j) (nxG X G) (G.getD q 0) c)).map encI))] ++ fr) ∧ Vec lo v11 ls2.length ∧ Vec ro v14 c) := ⟨_, rfl⟩
    refine wpC_countK (wd t) [(2, .ptr n2 0), (3, .ptr n3 0), (4, cv), (9, .sl n9 0 i), (12, .ptr n12 0), (13, encN j)] P (i0 := 0) ?_ ?_ ?_ (Nat.zero_le _) ?_
    · rfl
    · simp [e2, e3, e4, e9, e12, e13]
    · rw [hP]
      exact ⟨by simp, v11, .sl n14 0 0, lo, some n14, ls, by simp [e11], by simp, hls, hlsn, by rw [List.getElem?_eq_getElem hjt, hq], o1, hv11, rfl⟩
    clear e2 e3 e4 e9 e11 e12 e13 o o1
    rintro c e M hc ⟨e2, e3, e4, e9, e12, e13, -⟩ hh
    rw [hP] at hh
    obtain ⟨e15, v11, v14, lo, ro, ls2, e11, e14, hls2, hlsn2, hjq, o, hv11, hv14⟩ := hh
    simp only [] at e2 e3 e4 e9 e12 e13
    have wc := wS (n := c) (by omega)
    have hj2 : j < ls2.length := (List.getElem?_eq_some_iff.1 hjq).1
    have hjq' : ls2[j] = q := by rw [List.getElem?_eq_getElem hj2] at hjq; simpa using hjq
    have hrl := (o.rd 4 rfl (v := v11) (by simpa using hv11)).at hj2 (rt := none) rfl
    rw [hjq'] at hrl
    have r3 := rd_keeps o.keeps (rd_ptr hr3 (rt := none) (j := 3) (c := w) rfl rfl)
    have hrr' := rd_keeps o.keeps hrr
    simp [e3, e15, r3, e11, e13, hv11.isSl, hv11.len, hj2, hrl, hw.isSl, hw.len, hqn', hrr', hri.isSl, hri.lenM, hrow.1]
    by_cases hcw : c < wd t
    · have hcr : c < X.nxt[q].length := by rw [hrow.1]; exact hcw
      obtain ⟨z, hz⟩ : ∃ z, z = X.to q c := ⟨_, rfl⟩
      have hz1 : z < X.acc.length := by rw [hz]; exact hX.to hqn hcw
      have hzr : X.nxt[q][c] = z := by
        obtain ⟨r, g1, g2, g3⟩ := row_get hX hqn hcw
        have h1 : X.nxt.getD q [] = X.nxt[q] := by simp [hqn']
        rw [h1] at g1
        subst g1
        rw [List.getElem?_eq_getElem hcr] at g3
        rw [hz]
        simpa using g3
      have hrc := (hri.keeps o.keeps).at hcr (rt := none) rfl
      rw [hzr] at hrc
      have hzG : z < G.length := by omega
      have hgz := (hcv.keeps o.keeps).at hzG (rt := none) rfl
      have hgz' : G.getD z 0 = G[z] := by simp [hzG]
      obtain ⟨gz, hgzd⟩ : ∃ gz, gz = G[z] := ⟨_, rfl⟩
      rw [← hgzd] at hgz hgz'
      have hgzi : gz < i := by rw [← hgz']; exact hGlt z hz1
      have hnx : nxG X G (G.getD q 0) c = gz := by rw [hM.to hX hqn hcw, ← hz, hgz']
      obtain ⟨lk, hlk⟩ : ∃ lk, lk = lsU (metL (succs (wd t) (nxG X G)) G[0] j) (nxG X G) (G.getD q 0) c := ⟨_, rfl⟩
      have hsu := lsU_succ (ks := metL (succs (wd t) (nxG X G)) G[0] j) (nx := nxG X G) (k := G.getD q 0) c
      rw [← hlk, hnx] at hsu
      have hlsp := hpre c hc
      have hlsp1 := hpre (c + 1) hcw
      rw [← hlk] at o hls2 hlsp
      rw [hsu] at hlsp1
      have hll := hlsp.length_le
      have hlkl : ls2.length = lk.length := by rw [← hls2, List.length_map]
      have hrn := rd_ptr (o.at 5 (b := n9) rfl) (rt := none) (j := gz) (c := encI (if gz ∈ lk then ((pos lk gz : Nat) : Int) else -1)) rfl (by
        rw [List.getElem?_map, List.getElem?_eq_getElem (by rw [numL_len]; exact hgzi), numL_get hgzi]
        rfl)
      have hrs := rowU_succ (nx := nxG X G) (k := G.getD q 0) KS c
      rw [hnx] at hrs
      simp [hcw, e3, r3, e11, e13, hv11.isSl, hv11.len, hj2, hrl, hw.isSl, hw.len, hqn', hrr', hri.isSl, hri.lenM, hrow.1, e15, hrc, e4, hcv.isSl, hcv.lenM, hzG, hgz, e9, hgzi, hrn]
      by_cases hm : gz ∈ lk
      · have hadd : addK lk gz = lk := by unfold addK; rw [if_pos hm]
        rw [hadd] at hsu
        have hpos : pos lk gz = pos KS gz := (idx_pre hlsp hm).symm
        have hnn : ¬ ((pos KS gz : Int) < 0) := by omega
        simp [hm, hpos] at hrn
        simp [hm, hpos, hnn, e14, e9, e4, hcv.isSl, hcv.lenM, hzG, hgz, hgzi, hrn]
        intro n1 b1 f1
        simp [make_of f1 b1]
        intro n4 b4 f4
        obtain ⟨v', K', b', q1, q2, q3⟩ := o.push 0 rfl (v := v14) (by simpa [rowU_len] using hv14) (x := encN (pos KS gz)) (bytes := 8) rfl (by simp [rowU_len]; omega) (by simp [rowU_len]; omega) f1 b1 f4 b4
        simp [q1, e15, wc, hcw]
        rw [hP]
        refine ⟨by simp, v11, v', lo, some b', ls2, by simp [e11], by simp, by rw [hsu]; exact hls2, hlsn2, hjq, ?_, hv11, by simpa [rowU_len] using q3⟩
        rw [hsu, hrs]
        simpa using q2
      · have hadd : addK lk gz = lk ++ [gz] := by unfold addK; rw [if_neg hm]
        rw [hadd] at hsu hlsp1
        have hl1 := hlsp1.length_le
        simp at hl1
        have hpos : lk.length = pos KS gz := by rw [← idx_new hm, hadd]; exact (idx_pre hlsp1 (by simp)).symm
        simp [hm] at hrn
        obtain ⟨K5, g5, o5⟩ := o.put 5 (b := n9) rfl (j := gz) (u := encI (lk.length : Nat)) (by simp [numL_len, hgzi]) rfl (rt := none) rfl
        have g5' : M.wr base none 1 (.ptr n9 gz) (.int .i64 (lk.length : Nat)) = some K5 := g5
        have hset2 := numL_set hgzi hm
        simp [hm, e9, e4, hcv.isSl, hcv.lenM, hzG, hgz, hgzi, hrn, e11, hv11.isSl, hv11.len, hlkl, g5']
        intro n1 b1 f1
        simp [make_of f1 b1]
        intro n4 b4 f4
        obtain ⟨v', K', b', q1, q2, q3⟩ := o5.push 4 rfl (v := v11) (by simpa using hv11) (x := encN z) (bytes := 8) rfl (by simp; omega) (by simp; omega) f1 b1 f4 b4
        have hrn2 := rd_ptr (q2.at 5 (b := n9) rfl) (rt := none) (j := gz) (c := encN (pos KS gz)) rfl (by
          rw [hpos]
          simp [numL_len, hgzi])
        have hgz2 := (hcv.keeps q2.keeps).at hzG (rt := none) rfl
        rw [← hgzd] at hgz2
        simp [q1, e14, e9, e4, hcv.isSl, hcv.lenM, hzG, hgz2, hgzi, hrn2]
        intro n5' b5' f5'
        simp [make_of f5' b5']
        intro n6 b6 f6
        obtain ⟨v'', K'', b'', p1, p2, p3⟩ := q2.push 0 rfl (v := v14) (by simpa [rowU_len] using hv14) (x := encN (pos KS gz)) (bytes := 8) rfl (by simp [rowU_len]; omega) (by simp [rowU_len]; omega) f5' b5' f6 b6
        simp [p1, e15, wc, hcw]
        rw [hP]
        refine ⟨by simp, v', v'', some b', some b'', ls2 ++ [z], by simp, by simp, by rw [hsu, List.map_append, hls2]; simp only [List.map_cons, List.map_nil, hgz'], fun y hy => ?_, by rw [List.getElem?_append_left hj2]; exact hjq, ?_, by simpa using q3, by simpa [rowU_len] using p3⟩
        · rcases List.mem_append.1 hy with hy | hy
          · exact hlsn2 y hy
          · rw [List.mem_singleton] at hy; omega
        · rw [hsu, hrs, ← hset2]
          simpa [List.map_set] using p2
    · have hce : c = wd t := by omega
      subst hce
      rw [← hnext] at o hls2
      have u1 := rd_ptr (o.at 3 (b := n12) rfl) (rt := none) (j := 2) (c := u') rfl rfl
      have ra := rd_keeps o.keeps (rd_ptr hr3 (rt := none) (j := 2) (c := u) rfl rfl)
      have rq := (hu.keeps o.keeps).at hqn (rt := none) rfl
      have hga : accG X G (G.getD q 0) = X.acc[q] := by rw [hM.acc hqn]; simp [hqn]
      have hl2l : ls2.length = (metL (succs (wd t) (nxG X G)) G[0] (j + 1)).length := by rw [← hls2, List.length_map]
      simp [e12, u1, e3, ra, hu.isSl, hu.lenM, hqn, rq, e11, e13, hv11.isSl, hv11.len, hj2, hrl]
      intro n1 b1 f1
      simp [make_of f1 b1]
      intro n4 b4 f4
      have hti : (KS.take j).length = j := by simp; omega
      obtain ⟨v', K3, b', q1, o2, q3⟩ := o.push 2 rfl (v := u') (by simp only [List.length_map, hti]; exact hu') (x := encB X.acc[q]) (bytes := 1) rfl (by simp; omega) (by simp; omega) f1 b1 f4 b4
      obtain ⟨K4, q2, o3⟩ := o2.put 3 (b := n12) rfl (j := 2) (u := v') (by simp) q3.one (rt := none) rfl
      have u2 := rd_ptr (o3.at 3 (b := n12) rfl) (rt := none) (j := 3) (c := w') rfl rfl
      have h14 := hv14.one
      simp [q1, q2, e12, u2, e14, h14, cells_one h14]
      intro n5' b5' f5'
      simp [make_of f5' b5']
      intro n6 b6 f6
      obtain ⟨w2, K5, c', p1, o4, p3⟩ := o3.push 1 rfl (v := w') (by rw [hvs]; exact hw') (x := v14) (bytes := 24) h14 (by omega) (by omega) f5' b5' f6 b6
      obtain ⟨K7, p2, o5⟩ := o4.put 3 (b := n12) rfl (j := 3) (u := w2) (by simp) p3.one (rt := none) rfl
      simp [p1, p2, e12, e13, wj, hjG]
      rw [hJ]
      have hta : (KS.take (j + 1)).map (accG X G) = (KS.take j).map (accG X G) ++ [X.acc[q]] := by
        rw [List.take_add_one, hKSj, List.map_append, ← hga]
        rfl
      have htr : ((KS.take (j + 1)).map fun k => rowU KS (nxG X G) k (wd t)).map (·.map encN) = ((KS.take j).map fun k => rowU KS (nxG X G) k (wd t)).map (·.map encN) ++ [(rowU KS (nxG X G) (G.getD q 0) (wd t)).map encN] := by rw [List.take_add_one, hKSj]; simp
      have hin : j + 1 ≤ ls2.length := by omega
      refine ⟨by simp, v11, lo, v', w2, some b', some c', vs ++ [v14], fr ++ [(ro, .arr 2 ((rowU KS (nxG X G) (G.getD q 0) (wd t)).map encN))], ls2, by simp [e11], hls2, hlsn2, hin, ?_, hv11, ?_, ?_, by simp [hvs], ?_⟩
      · refine Own.last (p := (ro, .arr 2 ((rowU KS (nxG X G) (G.getD q 0) (wd t)).map encN))) (F := [(some c', .arr 37 (vs ++ [v14])), (some b', .arr 4 (((KS.take (j + 1)).map (accG X G)).map encB)), (some n12, .arr 29 [encN t, .int .i64 0, v', w2]), (lo, .arr 2 (ls2.map encN)),
          (some n9, .arr 2 ((numL i (metL (succs (wd t) (nxG X G)) G[0] (j + 1))).map encI))]) ?_
        rw [hta]
        simpa using o5
      · simp only [List.length_map, hti] at q3
        exact q3
      · rw [hvs] at p3
        exact p3
      · rw [htr]
        exact hrows.snoc (by simpa [rowU_len] using hv14)
  · have hje : j = (metL (succs (wd t) (nxG X G)) G[0] j).length := by omega
    have hdj : Done (wd t) (nxG X G) G[0] j := by unfold Done DoneL; omega
    have hKj : metL (succs (wd t) (nxG X G)) G[0] j = KS := by
      rw [hKS]
      exact DoneL.same hdj hdone
    rw [hKj] at hje o
    have htk : KS.take j = KS := by rw [hje, List.take_length]
    rw [htk] at o hrows
    have hme : mergedA (wd t) X G 0 = autOf (wd t) (nxG X G) (accG X G) KS := by
      unfold mergedA
      rw [hg0, ← hKS]
    have r9 := rd_all (o.at 2 (b := n12) rfl) (n := 4) (rt := none) rfl rfl
    have oj := Own.join oH2 o.keeps o
    obtain ⟨K9, g9, o9⟩ := oj.putAll 0 (b := n2) (n := 4) (ds := [encN t, .int .i64 0, u', w']) rfl rfl rfl (by simp [hu'.one, hw'.one]) (rt := none) rfl
    have r10 := rd_all (o9.at 0 (b := n2) rfl) (n := 4) (rt := none) rfl rfl
    simp [e11, e13, hv11.isSl, hv11.len, hjt, e12, r9, e2, g9, r10]
    rw [hR]
    refine ⟨o9.keeps, ?_⟩
    rw [hme]
    have o10 : Own base H K9 ([(wo, .arr 37 vs), (bo, .arr 4 ((KS.map (accG X G)).map encB))] ++ fr) := o9.sub (.cons _ (.cons_cons _ (.cons_cons _ (.cons _ (.cons _ (.cons _ (List.Sublist.refl _)))))))
    exact ⟨u', w', bo, wo, vs, fr, rfl, o10.perm (List.Perm.swap _ _ _), by simpa [autOf, ← hje] using hu', by rw [hvs]; exact hw', by simpa [autOf, rowU] using hrows⟩
theorem s_tidied (t s rb : Nat) (ht : t ≤ 3) (A : Aut) (H : BH) (h : RdP H rb t s A) (hok : A.Ok (wd t)) (hs : s < A.acc.length) (hn : A.acc.length ≤ 100000) :
    FnDoes (gam base) 66 [.ptr rb 0] H fun v K => OwnRel base H K t 0 (TA t (A.lang s)) v := by
  refine FnDoes.of (fn := ir66) rfl ?_
  obtain ⟨hX, hXl, hXL⟩ := rightS_ok hok hs
  obtain ⟨N, hN, hstop, hgo⟩ := stop_exists hX
  refine wpC_part 4 (Ts1 base H rb t s A) (tidied_p1 t s rb ht A H h hok hs hn _) fun e K h1 => ?_
  refine wpC_part 2 (Ts2 base H rb t s N A) (tidied_p2 t s rb N ht A H hok hs hn hstop hgo _ e K h1) fun e K h2 => ?_
  exact tidied_p3 t s rb N ht A H h hok hs hn hstop e K h2
end Go.Proofs.YtcnkhkmapgbodaaDoor.W
end

section
namespace Go.Proofs.YtcnkhkmapgbodaaDoor.W
set_option linter.unusedVariables false
set_option linter.unusedSimpArgs false
open Go.B
variable {base : Nat}
attribute [local simp] wpC_skip wpC_region wpC_seq wpC_true wpC_false wpC_block wpC_exit wpC_ret wpO_nil wpO_n wpO_tt wpO_ff wpO_tf wpO_ft wpO_u wpS_mov wpS_pick wpS_build wpS_load wpS_store wpS_nilck wpS_bin wpS_beq wpS_isnil wpS_eqs wpS_not wpS_neg wpS_conv wpS_lea wpS_fld wpS_idx wpS_idxs wpS_slice wpS_sslice wpS_mkfn wpS_mset wpS_look wpS_ext wpS_len wpS_new wpS_box wpS_mk wpS_mkmap wpS_mksl wpS_app wpS_fn wpS_call after_some pthen_n pthen_x pthen_r pin BExit.outOf puto_some puto_none put_eq put_ne Opd.ev argEnv op1_mov op1_pick op1_new op1_box op1_load op1_nilck op1_bin op1_beq op1_not op1_neg op1_conv op1_lea op1_fld op1_len0 op1_len1 op1_idx op1_ext op1_build op1_mk op1_stw op1_mksl op1_eqs pureBin isShift resOf resVals val_tmp val_cell oneOf one_int cells_int one_bool cells_bool one_str cells_str one_nilp cells_nilp one_ptr cells_ptr one_nils cells_nils one_sl cells_sl one_sle cells_sle one_nilm cells_nilm one_mp cells_mp one_nilf cells_nilf one_fn cells_fn one_nili cells_nili cells_agg isSl_sl slen_sl sat_sl make_of asm rtOk wpS_b2s op1_b2s wpS_imax op1_imax op1_isnil Option.map_some gam_base op1_app op1_idxs wpS_idxa op1_idxa op1_sslice bound_none bound_some nat_of op1_mkmap op1_mset op1_look op1_len2 op1_mkfn fillB Has
open Go.Au
/-- A relation of any kind, as it is read. -/
def RdRaw (H : BH) (T S : Int) (acc : List Bool) (rows : List (List Int)) (m : BV) : Prop := ∃ u w, m = .agg [.int .i64 T, .int .i64 S, u, w] ∧ Rd H 4 u (acc.map encB) ∧ RdR H 37 2 w encI rows
theorem RdRaw.keeps {H K : BH} {T S : Int} {acc : List Bool} {rows : List (List Int)} {m : BV} (h : RdRaw H T S acc rows m) (k : H.Keeps K) : RdRaw K T S acc rows m := by
  obtain ⟨u, w, h1, h2, h3⟩ := h
  exact ⟨u, w, h1, h2.keeps k, h3.keeps k⟩
theorem wsub1 {n : Nat} (h : n ≤ 4611686018427387904) : IntKind.i64.wrap ((n : Int) - 1) = (n : Int) - 1 := w64 (by omega) (by omega)
end Go.Proofs.YtcnkhkmapgbodaaDoor.W
end

section
namespace Go.Proofs.YtcnkhkmapgbodaaDoor.W
set_option linter.unusedVariables false
set_option linter.unusedSimpArgs false
open Go.B
variable {base : Nat}
attribute [local simp] wpC_skip wpC_region wpC_seq wpC_true wpC_false wpC_block wpC_exit wpC_ret wpO_nil wpO_n wpO_tt wpO_ff wpO_tf wpO_ft wpO_u wpS_mov wpS_pick wpS_build wpS_load wpS_store wpS_nilck wpS_bin wpS_beq wpS_isnil wpS_eqs wpS_not wpS_neg wpS_conv wpS_lea wpS_fld wpS_idx wpS_idxs wpS_slice wpS_sslice wpS_mkfn wpS_mset wpS_look wpS_ext wpS_len wpS_new wpS_box wpS_mk wpS_mkmap wpS_mksl wpS_app wpS_fn wpS_call after_some pthen_n pthen_x pthen_r pin BExit.outOf puto_some puto_none put_eq put_ne Opd.ev argEnv op1_mov op1_pick op1_new op1_box op1_load op1_nilck op1_bin op1_beq op1_not op1_neg op1_conv op1_lea op1_fld op1_len0 op1_len1 op1_idx op1_ext op1_build op1_mk op1_stw op1_mksl op1_eqs pureBin isShift resOf resVals val_tmp val_cell oneOf one_int cells_int one_bool cells_bool one_str cells_str one_nilp cells_nilp one_ptr cells_ptr one_nils cells_nils one_sl cells_sl one_sle cells_sle one_nilm cells_nilm one_mp cells_mp one_nilf cells_nilf one_fn cells_fn one_nili cells_nili cells_agg isSl_sl slen_sl sat_sl make_of asm rtOk wpS_b2s op1_b2s wpS_imax op1_imax op1_isnil Option.map_some gam_base op1_app op1_idxs wpS_idxa op1_idxa op1_sslice bound_none bound_some nat_of op1_mkmap op1_mset op1_look op1_len2 op1_mkfn fillB Has
open Go.Au
def RdRawP (H : BH) (rb : Nat) (T S : Int) (acc : List Bool) (rows : List (List Int)) : Prop := ∃ u x, H.row rb = .arr 29 [.int .i64 T, .int .i64 S, u, x] ∧ Rd H 4 u (acc.map encB) ∧ RdR H 37 2 x encI rows
theorem RdRawP.keeps {H K : BH} {rb : Nat} {T S : Int} {acc : List Bool} {rows : List (List Int)} (h : RdRawP H rb T S acc rows) (k : H.Keeps K) : RdRawP K rb T S acc rows := by
  obtain ⟨u, x, h1, h2, h3⟩ := h
  exact ⟨u, x, by rw [k rb (by rw [h1]; simp), h1], h2.keeps k, h3.keeps k⟩
end Go.Proofs.YtcnkhkmapgbodaaDoor.W
end

section
namespace Go.Proofs.YtcnkhkmapgbodaaDoor.W
set_option linter.unusedVariables false
set_option linter.unusedSimpArgs false
open Go.B
variable {base : Nat}
attribute [local simp] wpC_skip wpC_region wpC_seq wpC_true wpC_false wpC_block wpC_exit wpC_ret wpO_nil wpO_n wpO_tt wpO_ff wpO_tf wpO_ft wpO_u wpS_mov wpS_pick wpS_build wpS_load wpS_store wpS_nilck wpS_bin wpS_beq wpS_isnil wpS_eqs wpS_not wpS_neg wpS_conv wpS_lea wpS_fld wpS_idx wpS_idxs wpS_slice wpS_sslice wpS_mkfn wpS_mset wpS_look wpS_ext wpS_len wpS_new wpS_box wpS_mk wpS_mkmap wpS_mksl wpS_app wpS_fn wpS_call after_some pthen_n pthen_x pthen_r pin BExit.outOf puto_some puto_none put_eq put_ne Opd.ev argEnv op1_mov op1_pick op1_new op1_box op1_load op1_nilck op1_bin op1_beq op1_not op1_neg op1_conv op1_lea op1_fld op1_len0 op1_len1 op1_idx op1_ext op1_build op1_mk op1_stw op1_mksl op1_eqs pureBin isShift resOf resVals val_tmp val_cell oneOf one_int cells_int one_bool cells_bool one_str cells_str one_nilp cells_nilp one_ptr cells_ptr one_nils cells_nils one_sl cells_sl one_sle cells_sle one_nilm cells_nilm one_mp cells_mp one_nilf cells_nilf one_fn cells_fn one_nili cells_nili cells_agg isSl_sl slen_sl sat_sl make_of asm rtOk wpS_b2s op1_b2s wpS_imax op1_imax op1_isnil Option.map_some gam_base op1_app op1_idxs wpS_idxa op1_idxa op1_sslice bound_none bound_some nat_of op1_mkmap op1_mset op1_look op1_len2 op1_mkfn fillB Has
open Go.Au
end Go.Proofs.YtcnkhkmapgbodaaDoor.W
end

section
namespace Go.Proofs.YtcnkhkmapgbodaaDoor.W
set_option linter.unusedVariables false
set_option linter.unusedSimpArgs false
open Go.B
variable {base : Nat}
attribute [local simp] wpC_skip wpC_region wpC_seq wpC_true wpC_false wpC_block wpC_exit wpC_ret wpO_nil wpO_n wpO_tt wpO_ff wpO_tf wpO_ft wpO_u wpS_mov wpS_pick wpS_build wpS_load wpS_store wpS_nilck wpS_bin wpS_beq wpS_isnil wpS_eqs wpS_not wpS_neg wpS_conv wpS_lea wpS_fld wpS_idx wpS_idxs wpS_slice wpS_sslice wpS_mkfn wpS_mset wpS_look wpS_ext wpS_len wpS_new wpS_box wpS_mk wpS_mkmap wpS_mksl wpS_app wpS_fn wpS_call after_some pthen_n pthen_x pthen_r pin BExit.outOf puto_some puto_none put_eq put_ne Opd.ev argEnv op1_mov op1_pick op1_new op1_box op1_load op1_nilck op1_bin op1_beq op1_not op1_neg op1_conv op1_lea op1_fld op1_len0 op1_len1 op1_idx op1_ext op1_build op1_mk op1_stw op1_mksl op1_eqs pureBin isShift resOf resVals val_tmp val_cell oneOf one_int cells_int one_bool cells_bool one_str cells_str one_nilp cells_nilp one_ptr cells_ptr one_nils cells_nils one_sl cells_sl one_sle cells_sle one_nilm cells_nilm one_mp cells_mp one_nilf cells_nilf one_fn cells_fn one_nili cells_nili cells_agg isSl_sl slen_sl sat_sl make_of asm rtOk wpS_b2s op1_b2s wpS_imax op1_imax op1_isnil Option.map_some gam_base op1_app op1_idxs wpS_idxa op1_idxa op1_sslice bound_none bound_some nat_of op1_mkmap op1_mset op1_look op1_len2 op1_mkfn fillB Has
open Go.Au
section
variable {w : Nat} {A B : Aut} {op : Bool → Bool → Bool}
end
theorem RdP.cell {H K : BH} {x : BV} {A : Aut} {w : Nat} (hx : RdR H 37 2 x encN A.nxt) (hok : A.Ok w) (k : H.Keeps K) {q c : Nat} (hq : q < A.acc.length) (hc : c < w) :
    ∃ ri, ri.isSl = true ∧ ri.slen = w ∧ (∀ rt, rtOk rt 37 = true → K.rd rt none (x.sat q 1) = some ri) ∧ K.rd none none (ri.sat c 1) = some (encN (A.to q c)) := by
  have h1 : q < A.nxt.length := by rw [hok.len]; exact hq
  obtain ⟨r, g1, g2, g3⟩ := row_get hok hq hc
  have e1 : A.nxt.getD q [] = A.nxt[q] := by simp [h1]
  rw [e1] at g1
  subst g1
  have h2 : c < A.nxt[q].length := by omega
  rw [List.getElem?_eq_getElem h2] at g3
  obtain ⟨ri, hri, hrr⟩ := hx.at h1
  have := (hri.keeps k).at h2 (rt := none) rfl
  refine ⟨ri, hri.isSl, by rw [hri.lenM, g2], fun rt h => rd_keeps k (hrr rt h), ?_⟩
  rw [this]
  simp at g3
  rw [g3]
end Go.Proofs.YtcnkhkmapgbodaaDoor.W
end

section
namespace Go.Proofs.YtcnkhkmapgbodaaDoor.W
set_option linter.unusedVariables false
set_option linter.unusedSimpArgs false
open Go.B
variable {base : Nat}
attribute [local simp] wpC_skip wpC_region wpC_seq wpC_true wpC_false wpC_block wpC_exit wpC_ret wpO_nil wpO_n wpO_tt wpO_ff wpO_tf wpO_ft wpO_u wpS_mov wpS_pick wpS_build wpS_load wpS_store wpS_nilck wpS_bin wpS_beq wpS_isnil wpS_eqs wpS_not wpS_neg wpS_conv wpS_lea wpS_fld wpS_idx wpS_idxs wpS_slice wpS_sslice wpS_mkfn wpS_mset wpS_look wpS_ext wpS_len wpS_new wpS_box wpS_mk wpS_mkmap wpS_mksl wpS_app wpS_fn wpS_call after_some pthen_n pthen_x pthen_r pin BExit.outOf puto_some puto_none put_eq put_ne Opd.ev argEnv op1_mov op1_pick op1_new op1_box op1_load op1_nilck op1_bin op1_beq op1_not op1_neg op1_conv op1_lea op1_fld op1_len0 op1_len1 op1_idx op1_ext op1_build op1_mk op1_stw op1_mksl op1_eqs pureBin isShift resOf resVals val_tmp val_cell oneOf one_int cells_int one_bool cells_bool one_str cells_str one_nilp cells_nilp one_ptr cells_ptr one_nils cells_nils one_sl cells_sl one_sle cells_sle one_nilm cells_nilm one_mp cells_mp one_nilf cells_nilf one_fn cells_fn one_nili cells_nili cells_agg isSl_sl slen_sl sat_sl make_of asm rtOk wpS_b2s op1_b2s wpS_imax op1_imax op1_isnil Option.map_some gam_base op1_app op1_idxs wpS_idxa op1_idxa op1_sslice bound_none bound_some nat_of op1_mkmap op1_mset op1_look op1_len2 op1_mkfn fillB Has
open Go.Au
end Go.Proofs.YtcnkhkmapgbodaaDoor.W
end

section
namespace Go.Proofs.YtcnkhkmapgbodaaDoor.W
set_option linter.unusedVariables false
set_option linter.unusedSimpArgs false
open Go.B
variable {base : Nat}
attribute [local simp] wpC_skip wpC_region wpC_seq wpC_true wpC_false wpC_block wpC_exit wpC_ret wpO_nil wpO_n wpO_tt wpO_ff wpO_tf wpO_ft wpO_u wpS_mov wpS_pick wpS_build wpS_load wpS_store wpS_nilck wpS_bin wpS_beq wpS_isnil wpS_eqs wpS_not wpS_neg wpS_conv wpS_lea wpS_fld wpS_idx wpS_idxs wpS_slice wpS_sslice wpS_mkfn wpS_mset wpS_look wpS_ext wpS_len wpS_new wpS_box wpS_mk wpS_mkmap wpS_mksl wpS_app wpS_fn wpS_call after_some pthen_n pthen_x pthen_r pin BExit.outOf puto_some puto_none put_eq put_ne Opd.ev argEnv op1_mov op1_pick op1_new op1_box op1_load op1_nilck op1_bin op1_beq op1_not op1_neg op1_conv op1_lea op1_fld op1_len0 op1_len1 op1_idx op1_ext op1_build op1_mk op1_stw op1_mksl op1_eqs pureBin isShift resOf resVals val_tmp val_cell oneOf one_int cells_int one_bool cells_bool one_str cells_str one_nilp cells_nilp one_ptr cells_ptr one_nils cells_nils one_sl cells_sl one_sle cells_sle one_nilm cells_nilm one_mp cells_mp one_nilf cells_nilf one_fn cells_fn one_nili cells_nili cells_agg isSl_sl slen_sl sat_sl make_of asm rtOk wpS_b2s op1_b2s wpS_imax op1_imax op1_isnil Option.map_some gam_base op1_app op1_idxs wpS_idxa op1_idxa op1_sslice bound_none bound_some nat_of op1_mkmap op1_mset op1_look op1_len2 op1_mkfn fillB Has
open Go.Au
end Go.Proofs.YtcnkhkmapgbodaaDoor.W
end

section
namespace Go.Proofs.YtcnkhkmapgbodaaDoor.W
set_option linter.unusedVariables false
set_option linter.unusedSimpArgs false
open Go.B
variable {base : Nat}
attribute [local simp] wpC_skip wpC_region wpC_seq wpC_true wpC_false wpC_block wpC_exit wpC_ret wpO_nil wpO_n wpO_tt wpO_ff wpO_tf wpO_ft wpO_u wpS_mov wpS_pick wpS_build wpS_load wpS_store wpS_nilck wpS_bin wpS_beq wpS_isnil wpS_eqs wpS_not wpS_neg wpS_conv wpS_lea wpS_fld wpS_idx wpS_idxs wpS_slice wpS_sslice wpS_mkfn wpS_mset wpS_look wpS_ext wpS_len wpS_new wpS_box wpS_mk wpS_mkmap wpS_mksl wpS_app wpS_fn wpS_call after_some pthen_n pthen_x pthen_r pin BExit.outOf puto_some puto_none put_eq put_ne Opd.ev argEnv op1_mov op1_pick op1_new op1_box op1_load op1_nilck op1_bin op1_beq op1_not op1_neg op1_conv op1_lea op1_fld op1_len0 op1_len1 op1_idx op1_ext op1_build op1_mk op1_stw op1_mksl op1_eqs pureBin isShift resOf resVals val_tmp val_cell oneOf one_int cells_int one_bool cells_bool one_str cells_str one_nilp cells_nilp one_ptr cells_ptr one_nils cells_nils one_sl cells_sl one_sle cells_sle one_nilm cells_nilm one_mp cells_mp one_nilf cells_nilf one_fn cells_fn one_nili cells_nili cells_agg isSl_sl slen_sl sat_sl make_of asm rtOk wpS_b2s op1_b2s wpS_imax op1_imax op1_isnil Option.map_some gam_base op1_app op1_idxs wpS_idxa op1_idxa op1_sslice bound_none bound_some nat_of op1_mkmap op1_mset op1_look op1_len2 op1_mkfn fillB Has
open Go.Au
theorem RdRel.at {H K : BH} {t s : Nat} {A : Aut} {u x : BV} {n : Nat} (h : RdRel H t s A (.agg [encN t, encN s, u, x])) (k : H.Keeps K) (hr : K.row n = .arr 29 [encN t, encN s, u, x]) : RdP K n t s A := by
  obtain ⟨u', x', e1, e2, e3⟩ := h
  simp only [BV.agg.injEq, List.cons.injEq, and_true, true_and] at e1
  obtain ⟨eu, ex⟩ := e1
  rw [← eu] at e2
  rw [← ex] at e3
  exact ⟨u, x, hr, e2.keeps k, e3.keeps k⟩
theorem RdRel.one {H : BH} {t s : Nat} {A : Aut} {u x : BV} (h : RdRel H t s A (.agg [encN t, encN s, u, x])) : u.one = true ∧ x.one = true := by
  obtain ⟨u', x', e1, e2, e3⟩ := h
  simp only [BV.agg.injEq, List.cons.injEq, and_true, true_and] at e1
  obtain ⟨eu, ex⟩ := e1
  subst eu
  subst ex
  exact ⟨e2.one, one_of_isSl e3.isSl⟩
end Go.Proofs.YtcnkhkmapgbodaaDoor.W
end

section
namespace Go.Proofs.YtcnkhkmapgbodaaDoor.W
set_option linter.unusedVariables false
set_option linter.unusedSimpArgs false
open Go.B
variable {base : Nat}
attribute [local simp] wpC_skip wpC_region wpC_seq wpC_true wpC_false wpC_block wpC_exit wpC_ret wpO_nil wpO_n wpO_tt wpO_ff wpO_tf wpO_ft wpO_u wpS_mov wpS_pick wpS_build wpS_load wpS_store wpS_nilck wpS_bin wpS_beq wpS_isnil wpS_eqs wpS_not wpS_neg wpS_conv wpS_lea wpS_fld wpS_idx wpS_idxs wpS_slice wpS_sslice wpS_mkfn wpS_mset wpS_look wpS_ext wpS_len wpS_new wpS_box wpS_mk wpS_mkmap wpS_mksl wpS_app wpS_fn wpS_call after_some pthen_n pthen_x pthen_r pin BExit.outOf puto_some puto_none put_eq put_ne Opd.ev argEnv op1_mov op1_pick op1_new op1_box op1_load op1_nilck op1_bin op1_beq op1_not op1_neg op1_conv op1_lea op1_fld op1_len0 op1_len1 op1_idx op1_ext op1_build op1_mk op1_stw op1_mksl op1_eqs pureBin isShift resOf resVals val_tmp val_cell oneOf one_int cells_int one_bool cells_bool one_str cells_str one_nilp cells_nilp one_ptr cells_ptr one_nils cells_nils one_sl cells_sl one_sle cells_sle one_nilm cells_nilm one_mp cells_mp one_nilf cells_nilf one_fn cells_fn one_nili cells_nili cells_agg isSl_sl slen_sl sat_sl make_of asm rtOk wpS_b2s op1_b2s wpS_imax op1_imax op1_isnil Option.map_some gam_base op1_app op1_idxs wpS_idxa op1_idxa op1_sslice bound_none bound_some nat_of op1_mkmap op1_mset op1_look op1_len2 op1_mkfn fillB Has
open Go.Au
end Go.Proofs.YtcnkhkmapgbodaaDoor.W
end

section
namespace Go.Proofs.YtcnkhkmapgbodaaDoor.W
set_option linter.unusedVariables false
set_option linter.unusedSimpArgs false
open Go.B
variable {base : Nat}
attribute [local simp] wpC_skip wpC_region wpC_seq wpC_true wpC_false wpC_block wpC_exit wpC_ret wpO_nil wpO_n wpO_tt wpO_ff wpO_tf wpO_ft wpO_u wpS_mov wpS_pick wpS_build wpS_load wpS_store wpS_nilck wpS_bin wpS_beq wpS_isnil wpS_eqs wpS_not wpS_neg wpS_conv wpS_lea wpS_fld wpS_idx wpS_idxs wpS_slice wpS_sslice wpS_mkfn wpS_mset wpS_look wpS_ext wpS_len wpS_new wpS_box wpS_mk wpS_mkmap wpS_mksl wpS_app wpS_fn wpS_call after_some pthen_n pthen_x pthen_r pin BExit.outOf puto_some puto_none put_eq put_ne Opd.ev argEnv op1_mov op1_pick op1_new op1_box op1_load op1_nilck op1_bin op1_beq op1_not op1_neg op1_conv op1_lea op1_fld op1_len0 op1_len1 op1_idx op1_ext op1_build op1_mk op1_stw op1_mksl op1_eqs pureBin isShift resOf resVals val_tmp val_cell oneOf one_int cells_int one_bool cells_bool one_str cells_str one_nilp cells_nilp one_ptr cells_ptr one_nils cells_nils one_sl cells_sl one_sle cells_sle one_nilm cells_nilm one_mp cells_mp one_nilf cells_nilf one_fn cells_fn one_nili cells_nili cells_agg isSl_sl slen_sl sat_sl make_of asm rtOk wpS_b2s op1_b2s wpS_imax op1_imax op1_isnil Option.map_some gam_base op1_app op1_idxs wpS_idxa op1_idxa op1_sslice bound_none bound_some nat_of op1_mkmap op1_mset op1_look op1_len2 op1_mkfn fillB Has
open Go.Au
end Go.Proofs.YtcnkhkmapgbodaaDoor.W
end

section
namespace Go.Proofs.YtcnkhkmapgbodaaDoor.W
set_option linter.unusedVariables false
set_option linter.unusedSimpArgs false
open Go.B
variable {base : Nat}
attribute [local simp] wpC_skip wpC_region wpC_seq wpC_true wpC_false wpC_block wpC_exit wpC_ret wpO_nil wpO_n wpO_tt wpO_ff wpO_tf wpO_ft wpO_u wpS_mov wpS_pick wpS_build wpS_load wpS_store wpS_nilck wpS_bin wpS_beq wpS_isnil wpS_eqs wpS_not wpS_neg wpS_conv wpS_lea wpS_fld wpS_idx wpS_idxs wpS_slice wpS_sslice wpS_mkfn wpS_mset wpS_look wpS_ext wpS_len wpS_new wpS_box wpS_mk wpS_mkmap wpS_mksl wpS_app wpS_fn wpS_call after_some pthen_n pthen_x pthen_r pin BExit.outOf puto_some puto_none put_eq put_ne Opd.ev argEnv op1_mov op1_pick op1_new op1_box op1_load op1_nilck op1_bin op1_beq op1_not op1_neg op1_conv op1_lea op1_fld op1_len0 op1_len1 op1_idx op1_ext op1_build op1_mk op1_stw op1_mksl op1_eqs pureBin isShift resOf resVals val_tmp val_cell oneOf one_int cells_int one_bool cells_bool one_str cells_str one_nilp cells_nilp one_ptr cells_ptr one_nils cells_nils one_sl cells_sl one_sle cells_sle one_nilm cells_nilm one_mp cells_mp one_nilf cells_nilf one_fn cells_fn one_nili cells_nili cells_agg isSl_sl slen_sl sat_sl make_of asm rtOk wpS_b2s op1_b2s wpS_imax op1_imax op1_isnil Option.map_some gam_base op1_app op1_idxs wpS_idxa op1_idxa op1_sslice bound_none bound_some nat_of op1_mkmap op1_mset op1_look op1_len2 op1_mkfn fillB Has
open Go.Au
theorem OwnRel.at {H K : BH} {t s : Nat} {A : Aut} {u x : BV} (h : OwnRel base H K t s A (.agg [encN t, encN s, u, x])) : u.one = true ∧ x.one = true := h.rd.one
end Go.Proofs.YtcnkhkmapgbodaaDoor.W
end

section
namespace Go.Proofs.YtcnkhkmapgbodaaDoor.W
set_option linter.unusedVariables false
set_option linter.unusedSimpArgs false
open Go.B
variable {base : Nat}
attribute [local simp] wpC_skip wpC_region wpC_seq wpC_true wpC_false wpC_block wpC_exit wpC_ret wpO_nil wpO_n wpO_tt wpO_ff wpO_tf wpO_ft wpO_u wpS_mov wpS_pick wpS_build wpS_load wpS_store wpS_nilck wpS_bin wpS_beq wpS_isnil wpS_eqs wpS_not wpS_neg wpS_conv wpS_lea wpS_fld wpS_idx wpS_idxs wpS_slice wpS_sslice wpS_mkfn wpS_mset wpS_look wpS_ext wpS_len wpS_new wpS_box wpS_mk wpS_mkmap wpS_mksl wpS_app wpS_fn wpS_call after_some pthen_n pthen_x pthen_r pin BExit.outOf puto_some puto_none put_eq put_ne Opd.ev argEnv op1_mov op1_pick op1_new op1_box op1_load op1_nilck op1_bin op1_beq op1_not op1_neg op1_conv op1_lea op1_fld op1_len0 op1_len1 op1_idx op1_ext op1_build op1_mk op1_stw op1_mksl op1_eqs pureBin isShift resOf resVals val_tmp val_cell oneOf one_int cells_int one_bool cells_bool one_str cells_str one_nilp cells_nilp one_ptr cells_ptr one_nils cells_nils one_sl cells_sl one_sle cells_sle one_nilm cells_nilm one_mp cells_mp one_nilf cells_nilf one_fn cells_fn one_nili cells_nili cells_agg isSl_sl slen_sl sat_sl make_of asm rtOk wpS_b2s op1_b2s wpS_imax op1_imax op1_isnil Option.map_some gam_base op1_app op1_idxs wpS_idxa op1_idxa op1_sslice bound_none bound_some nat_of op1_mkmap op1_mset op1_look op1_len2 op1_mkfn fillB Has
open Go.Au
/-- Rows that are read, of any kind each. -/
def RdQ {α : Type} (H : BH) (ty : Nat) (v : BV) (f : α → BV) (xss : List (List α)) : Prop := ∃ vs : List BV, Rd H ty v vs ∧ vs.length = xss.length ∧ ∀ (i : Nat) (u : BV) (xs : List α), vs[i]? = some u → xss[i]? = some xs → ∃ ty2, Rd H ty2 u (xs.map f)
section
variable {α : Type} {H K : BH} {ty : Nat} {v : BV} {f : α → BV} {xss : List (List α)}
theorem RdQ.keeps (h : RdQ H ty v f xss) (k : H.Keeps K) : RdQ K ty v f xss := by
  obtain ⟨vs, h1, h2, h3⟩ := h
  exact ⟨vs, h1.keeps k, h2, fun i u xs hu hx => (h3 i u xs hu hx).imp fun _ g => g.keeps k⟩
theorem RdQ.isSl (h : RdQ H ty v f xss) : v.isSl = true := by
  obtain ⟨vs, h1, h2, h3⟩ := h
  exact h1.isSl
theorem RdQ.len (h : RdQ H ty v f xss) : v.slen = xss.length := by
  obtain ⟨vs, h1, h2, h3⟩ := h
  rw [Rd.len h1, h2]
theorem RdQ.at (h : RdQ H ty v f xss) {i : Nat} (hi : i < xss.length) : ∃ u, (∃ ty2, Rd H ty2 u (xss[i].map f)) ∧ ∀ (rt : Option Nat), rtOk rt ty = true → H.rd rt none (v.sat i 1) = some u := by
  obtain ⟨vs, h1, h2, h3⟩ := h
  have hi' : i < vs.length := by omega
  refine ⟨vs[i], h3 i _ _ (List.getElem?_eq_getElem hi') (List.getElem?_eq_getElem hi), fun rt hrt => ?_⟩
  refine Sls.rd1 h1 (i := i) (c := vs[i]) ?_ hrt
  simp [hi']
theorem RdQ.cells (h : RdQ H ty v f xss) : RdQ H ty v (fun c => c) (xss.map (·.map f)) := by
  obtain ⟨vs, h1, h2, h3⟩ := h
  refine ⟨vs, h1, by simpa using h2, fun i u xs hu hx => ?_⟩
  rw [List.getElem?_map, Option.map_eq_some_iff] at hx
  obtain ⟨ys, hys, rfl⟩ := hx
  rw [List.map_id']
  exact h3 i u ys hu hys
end
/-- A relation of the laws. -/
def RdL (H : BH) (T S : Int) (acc : List Bool) (rows : List (List Int)) (m : BV) : Prop := ∃ u w tb tw, m = .agg [.int .i64 T, .int .i64 S, u, w] ∧ Rd H tb u (acc.map encB) ∧ RdQ H tw w encI rows
theorem RdL.keeps {H K : BH} {T S : Int} {acc : List Bool} {rows : List (List Int)} {m : BV} (h : RdL H T S acc rows m) (k : H.Keeps K) : RdL K T S acc rows m := by
  obtain ⟨u, w, tb, tw, h1, h2, h3⟩ := h
  exact ⟨u, w, tb, tw, h1, h2.keeps k, h3.keeps k⟩
end Go.Proofs.YtcnkhkmapgbodaaDoor.W
end

section
namespace Go.Proofs.YtcnkhkmapgbodaaDoor.W
set_option linter.unusedVariables false
set_option linter.unusedSimpArgs false
open Go.B
variable {base : Nat}
attribute [local simp] wpC_skip wpC_region wpC_seq wpC_true wpC_false wpC_block wpC_exit wpC_ret wpO_nil wpO_n wpO_tt wpO_ff wpO_tf wpO_ft wpO_u wpS_mov wpS_pick wpS_build wpS_load wpS_store wpS_nilck wpS_bin wpS_beq wpS_isnil wpS_eqs wpS_not wpS_neg wpS_conv wpS_lea wpS_fld wpS_idx wpS_idxs wpS_slice wpS_sslice wpS_mkfn wpS_mset wpS_look wpS_ext wpS_len wpS_new wpS_box wpS_mk wpS_mkmap wpS_mksl wpS_app wpS_fn wpS_call after_some pthen_n pthen_x pthen_r pin BExit.outOf puto_some puto_none put_eq put_ne Opd.ev argEnv op1_mov op1_pick op1_new op1_box op1_load op1_nilck op1_bin op1_beq op1_not op1_neg op1_conv op1_lea op1_fld op1_len0 op1_len1 op1_idx op1_ext op1_build op1_mk op1_stw op1_mksl op1_eqs pureBin isShift resOf resVals val_tmp val_cell oneOf one_int cells_int one_bool cells_bool one_str cells_str one_nilp cells_nilp one_ptr cells_ptr one_nils cells_nils one_sl cells_sl one_sle cells_sle one_nilm cells_nilm one_mp cells_mp one_nilf cells_nilf one_fn cells_fn one_nili cells_nili cells_agg isSl_sl slen_sl sat_sl make_of asm rtOk wpS_b2s op1_b2s wpS_imax op1_imax wpS_imin op1_imin wpS_i2s op1_i2s op1_isnil Option.map_some gam_base op1_app op1_idxs wpS_idxa op1_idxa op1_sslice bound_none bound_some nat_of op1_mkmap op1_mset op1_look op1_len2 op1_mkfn Go.B.fillB Has
open Go.Au
/-- A row that is filled. -/
def fillB (cs : List BV) (z : BV) (i : Nat) : List BV := cs.take i ++ List.replicate (cs.length - i) z
theorem fillB_len {cs : List BV} {z : BV} {i : Nat} (h : i ≤ cs.length) : (fillB cs z i).length = cs.length := by simp [fillB]; omega
theorem fillB_zero (cs : List BV) (z : BV) : fillB cs z 0 = List.replicate cs.length z := by simp [fillB]
theorem fillB_all (cs : List BV) (z : BV) : fillB cs z cs.length = cs := by simp [fillB]
theorem fillB_set {cs : List BV} {z : BV} {i : Nat} (h : i < cs.length) : (fillB cs z i).set i cs[i] = fillB cs z (i + 1) := by
  unfold fillB
  rw [List.set_append_right _ _ (by simp; omega), show cs.length - i = (cs.length - (i + 1)) + 1 by omega, List.replicate_succ]
  have : i - (cs.take i).length = 0 := by simp; omega
  have e : cs.take (i + 1) = cs.take i ++ [cs[i]] := by rw [List.take_add_one, List.getElem?_eq_getElem h]; rfl
  rw [this, e, List.append_assoc]
  rfl
theorem t_longs {ty : Nat} (cs : List BV) (v : BV) (H : BH) (h : Rd H ty v cs) (hone : ∀ c ∈ cs, c.one = true) (hn : cs.length ≤ 1048576) :
    FnDoes (gam base) 17 [v] H fun v' K => ∃ b, v' = .sl b 0 cs.length ∧ Own base H K [(some b, .arr 2 cs)] := by
  obtain ⟨R, hR⟩ : ∃ R : BV → BH → Prop, R = fun v' K => ∃ b, v' = .sl b 0 cs.length ∧ Own base H K [(some b, .arr 2 cs)] := ⟨_, rfl⟩
  rw [← hR]
  refine FnDoes.of (fn := ir17) rfl ?_
  obtain ⟨n, hnn⟩ : ∃ n, n = cs.length := ⟨_, rfl⟩
  have hl := h.len
  rw [← hnn] at hl
  have c1 : (n : Int) ≤ 140737488355328 := by omega
  have c8 : 8 * (n : Int) ≤ 140737488355328 := by omega
  simp [ir17, h.isSl, hl, c1, c8]
  intro n3 b3 f3
  have o0 := Own.start (base := base) (H := H) |>.new f3 b3 (s := .arr 2 (List.replicate n (BV.int .i64 0)))
  simp [make_of f3 b3]
  obtain ⟨I, hI⟩ : ∃ I : Nat → Env → BH → Prop, I = (fun i e K => e 4 = encN i ∧ Own base H K [(some n3, .arr 2 (fillB cs (BV.int .i64 0) i))]) := ⟨_, rfl⟩
  refine wpC_countK n [(0, v), (3, .sl n3 0 n)] I (i0 := 0) ?_ ?_ ?_ (Nat.zero_le _) ?_
  · rfl
  · simp
  · rw [hI]
    refine ⟨by simp, ?_⟩
    rw [fillB_zero, ← hnn]
    exact o0
  clear o0
  rintro i e K hi ⟨e0, e3, -⟩ hh
  rw [hI] at hh
  obtain ⟨e4, o⟩ := hh
  simp only [] at e0 e3
  have wi := wS (n := i) (by omega)
  by_cases hlt : i < n
  · have hic : i < cs.length := by omega
    have hg := (h.keeps o.keeps).get hic (rt := none) rfl
    obtain ⟨K5, g5, o5⟩ := o.put 0 (b := n3) rfl (j := i) (u := cs[i]) (by rw [fillB_len (by omega)]; exact hic) (hone _ (List.getElem_mem hic)) (rt := none) rfl
    simp [e0, e3, e4, h.isSl, hl, hlt, hg, g5, wi]
    rw [hI]
    refine ⟨by simp, ?_⟩
    rw [← fillB_set hic]
    exact o5
  · have hie : i = n := by omega
    simp [e0, e3, e4, h.isSl, hl, hlt]
    rw [hR]
    rw [hie, hnn, fillB_all] at o
    exact ⟨o.keeps, n3, by rw [hnn], o⟩

/-- A relation of one's own, of any kind, beside other rows. -/
def OwnQ (base : Nat) (H K : BH) (T S : Int) (acc : List Bool) (rows : List (List Int)) (m : BV) (Z : List Sl) : Prop := ∃ u x bo wo vs fr, m = .agg [.int .i64 T, .int .i64 S, u, x] ∧ Own base H K ((bo, .arr 4 (acc.map encB)) :: (wo, .arr 37 vs) :: (fr ++ Z)) ∧ Vec bo u acc.length ∧ Vec wo x vs.length ∧ RowsOf 2 vs fr (rows.map (·.map encI))
theorem OwnQ.rd {H K : BH} {T S : Int} {acc : List Bool} {rows : List (List Int)} {m : BV} {Z : List Sl} (h : OwnQ base H K T S acc rows m Z) : RdRaw K T S acc rows m := by
  obtain ⟨u, x, bo, wo, vs, fr, rfl, o, hu, hx, hr⟩ := h
  have o' : Own base H K ((bo, .arr 4 (acc.map encB)) :: (wo, .arr 37 vs) :: fr) := o.sub (.cons_cons _ (.cons_cons _ (List.sublist_append_left _ _)))
  refine ⟨u, x, rfl, o'.rd 0 rfl (by simpa using hu), ?_⟩
  exact RowsOf.rdR (bo := wo) (F := [(bo, .arr 4 (acc.map encB)), (wo, .arr 37 vs)]) o' hr (o'.rd 1 rfl hx)
end Go.Proofs.YtcnkhkmapgbodaaDoor.W
end

section
namespace Go.Proofs.YtcnkhkmapgbodaaDoor.W
set_option linter.unusedVariables false
set_option linter.unusedSimpArgs false
open Go.B
variable {base : Nat}
attribute [local simp] wpC_skip wpC_region wpC_seq wpC_true wpC_false wpC_block wpC_exit wpC_ret wpO_nil wpO_n wpO_tt wpO_ff wpO_tf wpO_ft wpO_u wpS_mov wpS_pick wpS_build wpS_load wpS_store wpS_nilck wpS_bin wpS_beq wpS_isnil wpS_eqs wpS_not wpS_neg wpS_conv wpS_lea wpS_fld wpS_idx wpS_idxs wpS_slice wpS_sslice wpS_mkfn wpS_mset wpS_look wpS_ext wpS_len wpS_new wpS_box wpS_mk wpS_mkmap wpS_mksl wpS_app wpS_fn wpS_call after_some pthen_n pthen_x pthen_r pin BExit.outOf puto_some puto_none put_eq put_ne Opd.ev argEnv op1_mov op1_pick op1_new op1_box op1_load op1_nilck op1_bin op1_beq op1_not op1_neg op1_conv op1_lea op1_fld op1_len0 op1_len1 op1_idx op1_ext op1_build op1_mk op1_stw op1_mksl op1_eqs pureBin isShift resOf resVals val_tmp val_cell oneOf one_int cells_int one_bool cells_bool one_str cells_str one_nilp cells_nilp one_ptr cells_ptr one_nils cells_nils one_sl cells_sl one_sle cells_sle one_nilm cells_nilm one_mp cells_mp one_nilf cells_nilf one_fn cells_fn one_nili cells_nili cells_agg isSl_sl slen_sl sat_sl make_of asm rtOk wpS_b2s op1_b2s wpS_imax op1_imax wpS_imin op1_imin wpS_i2s op1_i2s op1_isnil Option.map_some gam_base op1_app op1_idxs wpS_idxa op1_idxa op1_sslice bound_none bound_some nat_of op1_mkmap op1_mset op1_look op1_len2 op1_mkfn Go.B.fillB Has
open Go.Au
theorem q_bools (bs : List Bool) (v w : BV) (H : BH) {ty ty2 : Nat} (h : Rd H ty v (bs.map encB)) (k : Rd H ty2 w (bs.map encB)) (hn : bs.length ≤ 4611686018427387904) :
    Runs (gam base) 31 [v, w] H (.bool true) H := by
  refine runs_of (fn := ir31) rfl ?_
  simp [ir31, h.isSl, h.lenM, k.isSl, k.lenM]
  refine wpC_countK bs.length [(0, v), (1, w)] (fun i e K => e 5 = encN i ∧ K = H) (i0 := 0) ?_ ?_ ?_ (Nat.zero_le _) ?_
  · rfl
  · simp
  · exact ⟨by simp, rfl⟩
  rintro i e K hi ⟨e0, e1, -⟩ ⟨e5, rfl⟩
  simp only [] at e0 e1
  have wi := wS (n := i) (by omega)
  by_cases hlt : i < bs.length
  · have g1 := h.at hlt (rt := none) rfl
    have g2 := k.at hlt (rt := none) rfl
    simp [e0, e1, e5, h.isSl, h.lenM, k.isSl, k.lenM, hlt, g1, g2, wi]
  · simp [e0, e1, e5, h.isSl, h.lenM, k.isSl, k.lenM, hlt]
theorem q_longs (bs : List Int) (v w : BV) (H : BH) {ty ty2 : Nat} (h : Rd H ty v (bs.map encI)) (k : Rd H ty2 w (bs.map encI)) (hn : bs.length ≤ 4611686018427387904) :
    Runs (gam base) 19 [v, w] H (.bool true) H := by
  refine runs_of (fn := ir19) rfl ?_
  simp [ir19, h.isSl, h.lenM, k.isSl, k.lenM]
  refine wpC_countK bs.length [(0, v), (1, w)] (fun i e K => e 5 = encN i ∧ K = H) (i0 := 0) ?_ ?_ ?_ (Nat.zero_le _) ?_
  · rfl
  · simp
  · exact ⟨by simp, rfl⟩
  rintro i e K hi ⟨e0, e1, -⟩ ⟨e5, rfl⟩
  simp only [] at e0 e1
  have wi := wS (n := i) (by omega)
  by_cases hlt : i < bs.length
  · have g1 := h.at hlt (rt := none) rfl
    have g2 := k.at hlt (rt := none) rfl
    simp [e0, e1, e5, h.isSl, h.lenM, k.isSl, k.lenM, hlt, g1, g2, wi]
  · simp [e0, e1, e5, h.isSl, h.lenM, k.isSl, k.lenM, hlt]
theorem q_rows (rows : List (List Int)) (v w : BV) (H : BH) {ty ty2 tz tz2 : Nat} (h : RdR H ty ty2 v encI rows) (k : RdR H tz tz2 w encI rows) (hn : rows.length ≤ 4611686018427387904) (hr : ∀ r ∈ rows, r.length ≤ 4611686018427387904) :
    Runs (gam base) 32 [v, w] H (.bool true) H := by
  refine runs_of (fn := ir32) rfl ?_
  simp [ir32, h.isSl, h.len, k.isSl, k.len]
  refine wpC_countK rows.length [(0, v), (1, w)] (fun i e K => e 5 = encN i ∧ K = H) (i0 := 0) ?_ ?_ ?_ (Nat.zero_le _) ?_
  · rfl
  · simp
  · exact ⟨by simp, rfl⟩
  rintro i e K hi ⟨e0, e1, -⟩ ⟨e5, rfl⟩
  simp only [] at e0 e1
  have wi := wS (n := i) (by omega)
  by_cases hlt : i < rows.length
  · obtain ⟨ri, hri, hrr⟩ := h.at hlt
    obtain ⟨rj, hrj, hrk⟩ := k.at hlt
    have hrr := hrr none rfl
    have hrk := hrk none rfl
    simp [e0, e1, e5, h.isSl, h.len, k.isSl, k.len, hlt, hrr, hrk]
    refine callP (q_longs (base := base) rows[i] ri rj K hri hrj (hr _ (List.getElem_mem hlt))) ?_
    simp [e5, wi, hlt]
  · simp [e0, e1, e5, h.isSl, h.len, k.isSl, k.len, hlt]
theorem q_rel (T S : Int) (acc : List Bool) (rows : List (List Int)) (m m2 : BV) (H : BH) (h : RdRaw H T S acc rows m) (k : RdRaw H T S acc rows m2) (hn1 : acc.length ≤ 4611686018427387904) (hn : rows.length ≤ 4611686018427387904) (hr : ∀ r ∈ rows, r.length ≤ 4611686018427387904) :
    FnDoes (gam base) 11 [m, m2] H fun v _ => v = .bool true := by
  refine FnDoes.of (fn := ir11) rfl ?_
  obtain ⟨u, x, rfl, hu, hx⟩ := h
  obtain ⟨u', x', rfl, hu', hx'⟩ := k
  have u1 := hu.one
  have x1 := one_of_isSl hx.isSl
  have u1' := hu'.one
  have x1' := one_of_isSl hx'.isSl
  simp [ir11, u1, x1, u1', x1']
  intro n2 b2 f2
  simp [make_of f2 b2, u1', x1']
  intro n3 b3 f3
  have o1 := Own.start (base := base) (H := H) |>.new f2 b2 (s := .arr 29 [.int .i64 T, .int .i64 S, u, x]) |>.new f3 b3 (s := .arr 29 [.int .i64 T, .int .i64 S, u', x'])
  have p0 := rd_ptr (o1.at 1 (b := n2) rfl) (rt := none) (j := 0) (c := encI T) rfl rfl
  have p1 := rd_ptr (o1.at 1 (b := n2) rfl) (rt := none) (j := 1) (c := encI S) rfl rfl
  have p2 := rd_ptr (o1.at 1 (b := n2) rfl) (rt := none) (j := 2) (c := u) rfl rfl
  have p3 := rd_ptr (o1.at 1 (b := n2) rfl) (rt := none) (j := 3) (c := x) rfl rfl
  have q0 := rd_ptr (o1.at 0 (b := n3) rfl) (rt := none) (j := 0) (c := encI T) rfl rfl
  have q1 := rd_ptr (o1.at 0 (b := n3) rfl) (rt := none) (j := 1) (c := encI S) rfl rfl
  have q2 := rd_ptr (o1.at 0 (b := n3) rfl) (rt := none) (j := 2) (c := u') rfl rfl
  have q3 := rd_ptr (o1.at 0 (b := n3) rfl) (rt := none) (j := 3) (c := x') rfl rfl
  simp [make_of f3 b3, p0, p1, p2, q0, q1, q2]
  refine callP (q_bools (base := base) acc u u' _ (hu.keeps o1.keeps) (hu'.keeps o1.keeps) hn1) ?_
  simp [p3, q3]
  refine callP (q_rows (base := base) rows x x' _ (hx.keeps o1.keeps) (hx'.keeps o1.keeps) hn hr) ?_
  simp
  exact o1.keeps
end Go.Proofs.YtcnkhkmapgbodaaDoor.W
end

section
namespace Go.Proofs.YtcnkhkmapgbodaaDoor.W
set_option linter.unusedVariables false
set_option linter.unusedSimpArgs false
open Go.B
variable {base : Nat}
attribute [local simp] wpC_skip wpC_region wpC_seq wpC_true wpC_false wpC_block wpC_exit wpC_ret wpO_nil wpO_n wpO_tt wpO_ff wpO_tf wpO_ft wpO_u wpS_mov wpS_pick wpS_build wpS_load wpS_store wpS_nilck wpS_bin wpS_beq wpS_isnil wpS_eqs wpS_not wpS_neg wpS_conv wpS_lea wpS_fld wpS_idx wpS_idxs wpS_slice wpS_sslice wpS_mkfn wpS_mset wpS_look wpS_ext wpS_len wpS_new wpS_box wpS_mk wpS_mkmap wpS_mksl wpS_app wpS_fn wpS_call after_some pthen_n pthen_x pthen_r pin BExit.outOf puto_some puto_none put_eq put_ne Opd.ev argEnv op1_mov op1_pick op1_new op1_box op1_load op1_nilck op1_bin op1_beq op1_not op1_neg op1_conv op1_lea op1_fld op1_len0 op1_len1 op1_idx op1_ext op1_build op1_mk op1_stw op1_mksl op1_eqs pureBin isShift resOf resVals val_tmp val_cell oneOf one_int cells_int one_bool cells_bool one_str cells_str one_nilp cells_nilp one_ptr cells_ptr one_nils cells_nils one_sl cells_sl one_sle cells_sle one_nilm cells_nilm one_mp cells_mp one_nilf cells_nilf one_fn cells_fn one_nili cells_nili cells_agg isSl_sl slen_sl sat_sl make_of asm rtOk wpS_b2s op1_b2s wpS_imax op1_imax wpS_imin op1_imin wpS_i2s op1_i2s op1_isnil Option.map_some gam_base op1_app op1_idxs wpS_idxa op1_idxa op1_sslice bound_none bound_some nat_of op1_mkmap op1_mset op1_look op1_len2 op1_mkfn Go.B.fillB Has
section
variable {H : Type} {enc : TypeId × Value → H} {W : World} {held : Bool}
theorem sls_nil (w : World) (ty sz : Nat) : Sls (heap0 w) ty sz (absV w (.slice none 0 0)) [] := ⟨rfl, rfl, fun i x hi => by simp at hi⟩
theorem u2 : Tryd.prog.underlying 2 = some (.int .i64) := by kernel_rfl
theorem u4 : Tryd.prog.underlying 4 = some .bool := by kernel_rfl
theorem u37 : Tryd.prog.underlying 37 = some (.slice 2) := by kernel_rfl
theorem open_longs {a : Addr} {L C : Nat} {Z : List Int} (hl : L ≤ C) (hz : Z.length = C) (hcell : ∀ c, c < C → W.cell? (a.add c) = some (.int .i64 (Z.getD c 0))) :
    ∃ ty, Rd (heap0 W) ty (absV W (.slice (some a) L C)) ((Z.take L).map encI) := by
  obtain ⟨ty, hs⟩ := Sls.start (w := W) (a := a) (n := L) (c := C) (sz := 1) (xs := (Z.take L).map fun z => [Value.int .i64 z]) (by simp; omega) hl (by omega) (fun x hx => by
    obtain ⟨z, _, rfl⟩ := List.mem_map.1 hx
    rfl) (by
    intro i x hi j v hj
    rw [List.getElem?_map] at hi
    simp only [Option.map_eq_some_iff] at hi
    obtain ⟨k, hk, rfl⟩ := hi
    obtain ⟨hlt, hkv⟩ := List.getElem?_eq_some_iff.1 hk
    rw [List.length_take] at hlt
    rw [List.getElem_take] at hkv
    cases j with
    | zero =>
      simp at hj
      subst hj
      have := hcell i (by omega)
      rw [List.getD_eq_getElem?_getD, List.getElem?_eq_getElem (by omega)] at this
      rw [← hkv]
      simpa using this
    | succ j => simp at hj)
  refine ⟨ty, ?_⟩
  unfold Rd
  simpa [List.map_map, Function.comp_def, absV, toB1, one1, encI] using hs
end
end Go.Proofs.YtcnkhkmapgbodaaDoor.W
end

section
namespace Go.Proofs.YtcnkhkmapgbodaaDoor.W
set_option linter.unusedVariables false
set_option linter.unusedSimpArgs false
open Go.B
variable {base : Nat}
attribute [local simp] wpC_skip wpC_region wpC_seq wpC_true wpC_false wpC_block wpC_exit wpC_ret wpO_nil wpO_n wpO_tt wpO_ff wpO_tf wpO_ft wpO_u wpS_mov wpS_pick wpS_build wpS_load wpS_store wpS_nilck wpS_bin wpS_beq wpS_isnil wpS_eqs wpS_not wpS_neg wpS_conv wpS_lea wpS_fld wpS_idx wpS_idxs wpS_slice wpS_sslice wpS_mkfn wpS_mset wpS_look wpS_ext wpS_len wpS_new wpS_box wpS_mk wpS_mkmap wpS_mksl wpS_app wpS_fn wpS_call after_some pthen_n pthen_x pthen_r pin BExit.outOf puto_some puto_none put_eq put_ne Opd.ev argEnv op1_mov op1_pick op1_new op1_box op1_load op1_nilck op1_bin op1_beq op1_not op1_neg op1_conv op1_lea op1_fld op1_len0 op1_len1 op1_idx op1_ext op1_build op1_mk op1_stw op1_mksl op1_eqs pureBin isShift resOf resVals val_tmp val_cell oneOf one_int cells_int one_bool cells_bool one_str cells_str one_nilp cells_nilp one_ptr cells_ptr one_nils cells_nils one_sl cells_sl one_sle cells_sle one_nilm cells_nilm one_mp cells_mp one_nilf cells_nilf one_fn cells_fn one_nili cells_nili cells_agg isSl_sl slen_sl sat_sl make_of asm rtOk wpS_b2s op1_b2s wpS_imax op1_imax wpS_imin op1_imin wpS_i2s op1_i2s op1_isnil Option.map_some gam_base op1_app op1_idxs wpS_idxa op1_idxa op1_sslice bound_none bound_some nat_of op1_mkmap op1_mset op1_look op1_len2 op1_mkfn Go.B.fillB Has
open Go.Au
/-- A relation of any kind: tapes, start, what accepts, the rows. -/
abbrev Raw4 := Int × Int × List Bool × List (List Int)
/-- A list of relations. -/
def RdRs (H : BH) (v : BV) (l : List Raw4) : Prop := ∃ cs : List (List BV), Sls H 29 4 v cs ∧ cs.length = l.length ∧ ∀ (i : Nat) (c : List BV) (r : Raw4), cs[i]? = some c → l[i]? = some r → RdRaw H r.1 r.2.1 r.2.2.1 r.2.2.2 (.agg c)
theorem RdRs.keeps {H K : BH} {v : BV} {l : List Raw4} (h : RdRs H v l) (k : H.Keeps K) : RdRs K v l := by
  obtain ⟨cs, h1, h2, h3⟩ := h
  exact ⟨cs, h1.keeps k, h2, fun i c r hc hr => (h3 i c r hc hr).keeps k⟩
theorem RdRs.get {H : BH} {v : BV} {l : List Raw4} (h : RdRs H v l) {i : Nat} (hi : i < l.length) : ∃ u w, H.rd none (some 4) (v.sat i 4) = some (.agg [.int .i64 l[i].1, .int .i64 l[i].2.1, u, w]) ∧ RdRaw H l[i].1 l[i].2.1 l[i].2.2.1 l[i].2.2.2 (.agg [.int .i64 l[i].1, .int .i64 l[i].2.1, u, w]) := by
  obtain ⟨cs, h1, h2, h3⟩ := h
  have hc : cs[i]? = some cs[i] := List.getElem?_eq_getElem (by omega)
  have hr := h3 i _ _ hc (List.getElem?_eq_getElem hi)
  obtain ⟨u, w, e, -⟩ := id hr
  rw [e] at hr
  refine ⟨u, w, ?_, hr⟩
  rw [← e]
  exact h1.rd hc rfl
end Go.Proofs.YtcnkhkmapgbodaaDoor.W
end

section
namespace Go.Proofs.YtcnkhkmapgbodaaDoor.W
set_option linter.unusedVariables false
set_option linter.unusedSimpArgs false
open Go.B
variable {base : Nat}
attribute [local simp] wpC_skip wpC_region wpC_seq wpC_true wpC_false wpC_block wpC_exit wpC_ret wpO_nil wpO_n wpO_tt wpO_ff wpO_tf wpO_ft wpO_u wpS_mov wpS_pick wpS_build wpS_load wpS_store wpS_nilck wpS_bin wpS_beq wpS_isnil wpS_eqs wpS_not wpS_neg wpS_conv wpS_lea wpS_fld wpS_idx wpS_idxs wpS_slice wpS_sslice wpS_mkfn wpS_mset wpS_look wpS_ext wpS_len wpS_new wpS_box wpS_mk wpS_mkmap wpS_mksl wpS_app wpS_fn wpS_call after_some pthen_n pthen_x pthen_r pin BExit.outOf puto_some puto_none put_eq put_ne Opd.ev argEnv op1_mov op1_pick op1_new op1_box op1_load op1_nilck op1_bin op1_beq op1_not op1_neg op1_conv op1_lea op1_fld op1_len0 op1_len1 op1_idx op1_ext op1_build op1_mk op1_stw op1_mksl op1_eqs pureBin isShift resOf resVals val_tmp val_cell oneOf one_int cells_int one_bool cells_bool one_str cells_str one_nilp cells_nilp one_ptr cells_ptr one_nils cells_nils one_sl cells_sl one_sle cells_sle one_nilm cells_nilm one_mp cells_mp one_nilf cells_nilf one_fn cells_fn one_nili cells_nili cells_agg isSl_sl slen_sl sat_sl make_of asm rtOk wpS_b2s op1_b2s wpS_imax op1_imax wpS_imin op1_imin wpS_i2s op1_i2s op1_isnil Option.map_some gam_base op1_app op1_idxs wpS_idxa op1_idxa op1_sslice bound_none bound_some nat_of op1_mkmap op1_mset op1_look op1_len2 op1_mkfn Go.B.fillB Has
open Go.Au
/-- The letter of a digit, and the word of a number. -/
def ltr (n i : Nat) : Nat := 97 + n / 2 ^ i % 2
def bl (n : Nat) : Nat := if n = 0 then 0 else n.log2 + 1
def wordL (n r : Nat) : List Nat := (List.range r).map (ltr n)
def wordB (n : Nat) : ByteArray := ⟨((wordL n (bl n)).map UInt8.ofNat).toArray⟩
theorem bl_pos {n r : Nat} : 0 < n / 2 ^ r ↔ r < bl n := by
  unfold bl
  by_cases h : n = 0
  · subst h; simp
  · rw [if_neg h, Nat.lt_succ_iff, Nat.le_log2 h]
    constructor
    · intro h1
      have := Nat.div_mul_le_self n (2 ^ r)
      have h2 : 1 * 2 ^ r ≤ n / 2 ^ r * 2 ^ r := Nat.mul_le_mul_right _ h1
      omega
    · intro h1
      exact Nat.div_pos h1 (Nat.two_pow_pos r)
theorem bl_le {n : Nat} (h : n ≤ 1000000000) : bl n ≤ 30 := by
  unfold bl
  split
  · omega
  · have : n.log2 < 30 := (Nat.log2_lt (by omega)).2 (by omega)
    omega
theorem half (n r : Nat) : n / 2 ^ r / 2 = n / 2 ^ (r + 1) := by rw [Nat.div_div_eq_div_mul, Nat.pow_succ]
theorem wordL_succ (n r : Nat) : wordL n (r + 1) = wordL n r ++ [ltr n r] := by simp [wordL, List.range_succ]
theorem wordL_len (n r : Nat) : (wordL n r).length = r := by simp [wordL]
/-- A row of bytes as a string. -/
theorem bytes_of : ∀ xs : List Nat, bytesB (xs.map fun (b : Nat) => BV.int .u8 (b : Int)) = some (xs.map fun (b : Nat) => (b : Int))
  | [] => rfl
  | x :: xs => by
    show (bytesB (xs.map fun (b : Nat) => BV.int .u8 (b : Int))).map ((x : Int) :: ·) = _
    rw [bytes_of xs]
    rfl
theorem u8str {H K : BH} {wo : Option Nat} {xs : List Nat} {v : BV} {base nb : Nat} {σ : Opd → BV} {x : Opd} {L : List Sl} (o : Own base H K ((wo, .arr 5 (xs.map fun (b : Nat) => BV.int .u8 (b : Int))) :: L)) (hv : Vec wo v xs.length) (hx : σ x = v) :
    op1 base nb σ K (.b2s 5 x) = some (.str ⟨(xs.map UInt8.ofNat).toArray⟩, K) := by
  rw [op1_b2s, hx]
  cases wo with
  | none =>
    obtain ⟨rfl, hl⟩ := hv
    have : xs = [] := List.eq_nil_of_length_eq_zero hl
    subst this
    rfl
  | some b =>
    have hv : v = .sl b 0 xs.length := hv
    subst hv
    have hr := o.at 0 (b := b) rfl
    simp only [hr]
    rw [if_pos ⟨trivial, by simp⟩, List.drop_zero, List.take_of_length_le (by simp), bytes_of]
    simp only [Option.map_some, strB, List.map_map]
    rfl
theorem s_word (n : Nat) (hn : n ≤ 1000000000) (H : BH) : FnDoes (gam base) 36 [encN n] H fun v _ => v = .str (wordB n) := by
  refine FnDoes.of (fn := ir36) rfl ?_
  have hbl := bl_le hn
  simp [ir36]
  intro n4 b4 f4
  have o0 := Own.start (base := base) (H := H) |>.new f4 b4 (s := .arr 5 [])
  simp [make_of f4 b4]
  obtain ⟨I, hI⟩ : ∃ I : Nat → Env → BH → Prop, I = (fun r e K => e 0 = encN (n / 2 ^ r) ∧ ∃ v3 wo, e 3 = v3 ∧ Own base H K [(wo, .arr 5 ((wordL n r).map fun (b : Nat) => BV.int .u8 (b : Int)))] ∧ Vec wo v3 r) := ⟨_, rfl⟩
  refine wpC_countK (bl n) [] I (i0 := 0) ?_ ?_ ?_ (Nat.zero_le _) ?_
  · rfl
  · trivial
  · rw [hI]
    exact ⟨by simp, .sl n4 0 0, some n4, by simp, by simpa [wordL] using o0, rfl⟩
  clear o0
  rintro r e K hr - hh
  rw [hI] at hh
  obtain ⟨e0, v3, wo, e3, o, hv3⟩ := hh
  obtain ⟨m, hm⟩ : ∃ m, m = n / 2 ^ r := ⟨_, rfl⟩
  have hp := bl_pos (n := n) (r := r)
  have hh2 := half n r
  have hmn : m ≤ 1000000000 := by rw [hm]; exact Nat.le_trans (Nat.div_le_self _ _) hn
  rw [← hm] at e0 hp hh2
  by_cases hlt : r < bl n
  · have h0 : 0 < m := hp.2 hlt
    have hb : ltr n r = 97 + m % 2 := by unfold ltr; rw [← hm]
    have w12 : IntKind.u8.wrap (IntKind.i64.wrap (97 + (m : Int) % 2)) = ((97 + m % 2 : Nat) : Int) := by
      have e : (m : Int) % 2 = ((m % 2 : Nat) : Int) := by omega
      rw [e]
      rcases Nat.mod_two_eq_zero_or_one m with h | h <;> rw [h] <;> rfl
    have w12' : IntKind.u8.wrap (IntKind.i64.wrap (97 + (m : Int).tmod 2)) = ((97 + m % 2 : Nat) : Int) := by
      rw [show (m : Int).tmod 2 = ((m % 2 : Nat) : Int) from tmodN m 2]
      rcases Nat.mod_two_eq_zero_or_one m with h | h <;> rw [h] <;> rfl
    have w3' : IntKind.i64.wrap ((m : Int).tdiv 2) = ((m / 2 : Nat) : Int) := by
      rw [show (m : Int).tdiv 2 = ((m / 2 : Nat) : Int) from tdivN m 2]; exact wN (by omega)
    have w3 : IntKind.i64.wrap ((m : Int) / 2) = ((m / 2 : Nat) : Int) := by
      have e : (m : Int) / 2 = ((m / 2 : Nat) : Int) := by omega
      rw [e]; exact wN (by omega)
    have h0' : (0 : Int) < (m : Int) := by omega
    simp [e0, e3, h0', h0, w12, w3]
    intro n1 b1 f1
    simp [make_of f1 b1]
    intro n2 b2 f2
    obtain ⟨v', K', b', q1, q2, q3⟩ := o.push 0 rfl (v := v3) (by simpa [wordL_len] using hv3) (x := .int .u8 (IntKind.u8.wrap (IntKind.i64.wrap (97 + (m : Int).tmod 2)))) (bytes := 1) rfl (by simp [wordL_len]; omega) (by simp [wordL_len]; omega) f1 b1 f2 b2
    simp [q1, e0, w3, w3', hlt]
    rw [hI]
    refine ⟨by simp; exact_mod_cast hh2, v', some b', by simp, ?_, by simpa [wordL_len] using q3⟩
    rw [wordL_succ, List.map_append, hb]
    rw [w12'] at q2
    simpa using q2
  · have h0 : m = 0 := by omega
    have hre : r = bl n := by omega
    subst h0
    simp [-op1_b2s, e0, e3]
    rw [u8str (xs := wordL n r) (v := v3) o (by rw [wordL_len]; exact hv3) (by simp [e3])]
    simp
    refine ⟨o.keeps, ?_⟩
    rw [hre]
    rfl
end Go.Proofs.YtcnkhkmapgbodaaDoor.W
end

section
namespace Go.Proofs.YtcnkhkmapgbodaaDoor.W
set_option linter.unusedVariables false
set_option linter.unusedSimpArgs false
open Go.B
variable {base : Nat}
attribute [local simp] wpC_skip wpC_region wpC_seq wpC_true wpC_false wpC_block wpC_exit wpC_ret wpO_nil wpO_n wpO_tt wpO_ff wpO_tf wpO_ft wpO_u wpS_mov wpS_pick wpS_build wpS_load wpS_store wpS_nilck wpS_bin wpS_beq wpS_isnil wpS_eqs wpS_not wpS_neg wpS_conv wpS_lea wpS_fld wpS_idx wpS_idxs wpS_slice wpS_sslice wpS_mkfn wpS_mset wpS_look wpS_ext wpS_len wpS_new wpS_box wpS_mk wpS_mkmap wpS_mksl wpS_app wpS_fn wpS_call after_some pthen_n pthen_x pthen_r pin BExit.outOf puto_some puto_none put_eq put_ne Opd.ev argEnv op1_mov op1_pick op1_new op1_box op1_load op1_nilck op1_bin op1_beq op1_not op1_neg op1_conv op1_lea op1_fld op1_len0 op1_len1 op1_idx op1_ext op1_build op1_mk op1_stw op1_mksl op1_eqs pureBin isShift resOf resVals val_tmp val_cell oneOf one_int cells_int one_bool cells_bool one_str cells_str one_nilp cells_nilp one_ptr cells_ptr one_nils cells_nils one_sl cells_sl one_sle cells_sle one_nilm cells_nilm one_mp cells_mp one_nilf cells_nilf one_fn cells_fn one_nili cells_nili cells_agg isSl_sl slen_sl sat_sl make_of asm rtOk wpS_b2s op1_b2s wpS_imax op1_imax wpS_imin op1_imin wpS_i2s op1_i2s op1_isnil Option.map_some gam_base op1_app op1_idxs wpS_idxa op1_idxa op1_sslice bound_none bound_some nat_of op1_mkmap op1_mset op1_look op1_len2 op1_mkfn Go.B.fillB Has
open Go.Au
def strL (xs : List Nat) : ByteArray := ⟨(xs.map UInt8.ofNat).toArray⟩
theorem strL_snoc (xs : List Nat) (b : Nat) : strL xs ++ strL [b] = strL (xs ++ [b]) := by
  apply ByteArray.ext
  rw [ByteArray.data_append]
  simp [strL]
theorem strL_size (xs : List Nat) : (strL xs).size = xs.length := by simp [strL, ByteArray.size]
theorem ab_letter (d : Nat) (h : d < 2) : (⟨#[97, 98]⟩ : ByteArray).extract d (d + 1) = strL [97 + d] := by
  have : d = 0 ∨ d = 1 := by omega
  rcases this with rfl | rfl <;> decide
theorem i_word (n : Nat) (hn : n ≤ 1000000000) (H : BH) : FnDoes (gam base) 42 [encN n] H fun v _ => v = .str (wordB n) := by
  refine FnDoes.of (fn := ir42) rfl ?_
  have hbl := bl_le hn
  simp [ir42]
  obtain ⟨I, hI⟩ : ∃ I : Nat → Env → BH → Prop, I = (fun r e K => e 0 = encN (n / 2 ^ r) ∧ e 3 = .str (strL (wordL n r)) ∧ K = H) := ⟨_, rfl⟩
  refine wpC_countK (bl n) [] I (i0 := 0) ?_ ?_ ?_ (Nat.zero_le _) ?_
  · rfl
  · trivial
  · rw [hI]
    exact ⟨by simp, by simp [strL, wordL], rfl⟩
  rintro r e K hr - hh
  rw [hI] at hh
  obtain ⟨e0, e3, rfl⟩ := hh
  obtain ⟨m, hm⟩ : ∃ m, m = n / 2 ^ r := ⟨_, rfl⟩
  have hp := bl_pos (n := n) (r := r)
  have hh2 := half n r
  have hmn : m ≤ 1000000000 := by rw [hm]; exact Nat.le_trans (Nat.div_le_self _ _) hn
  rw [← hm] at e0 hp hh2
  by_cases hlt : r < bl n
  · have h0 : 0 < m := hp.2 hlt
    have hb : ltr n r = 97 + m % 2 := by unfold ltr; rw [← hm]
    obtain ⟨d, hd⟩ : ∃ d, d = m % 2 := ⟨_, rfl⟩
    have hd2 : d < 2 := by omega
    rw [← hd] at hb
    have t1 : (m : Int) % 2 = (d : Int) := by omega
    have t1' : (m : Int).tmod 2 = (d : Int) := by rw [hd]; exact tmodN m 2
    have w1 : IntKind.i64.wrap ((d : Int) + 1) = ((d + 1 : Nat) : Int) := wS (by omega)
    have w3' : IntKind.i64.wrap ((m : Int).tdiv 2) = ((m / 2 : Nat) : Int) := by
      rw [show (m : Int).tdiv 2 = ((m / 2 : Nat) : Int) from tdivN m 2]; exact wN (by omega)
    have w3 : IntKind.i64.wrap ((m : Int) / 2) = ((m / 2 : Nat) : Int) := by
      have e : (m : Int) / 2 = ((m / 2 : Nat) : Int) := by omega
      rw [e]; exact wN (by omega)
    have h0' : (0 : Int) < (m : Int) := by omega
    have hsz : (⟨#[97, 98]⟩ : ByteArray).size = 2 := rfl
    have hext := ab_letter d hd2
    simp [e0, e3, h0', h0, t1, t1', w1, w3, w3', hsz, hext, hlt]
    rw [if_pos (show (0 : Int) ≤ (d : Int) + 1 by omega)]
    have hno : ¬ (9223372036854775807 : Int) < ((strL (wordL n r)).size : Int) + ((strL [97 + d]).size : Int) := by
      rw [strL_size, strL_size, wordL_len]
      simp
      omega
    simp [show d + 1 ≤ 2 by omega, hext, hno, e0, e3, w3, w3', hlt]
    rw [hI]
    refine ⟨by simp; exact_mod_cast hh2, ?_, rfl⟩
    simp [wordL_succ, hb, strL_snoc]
  · have h0 : m = 0 := by omega
    have hre : r = bl n := by omega
    subst h0
    simp [e0, e3]
    rw [hre]
    exact ⟨BH.Keeps.refl K, rfl⟩
end Go.Proofs.YtcnkhkmapgbodaaDoor.W
end

section
namespace Go.Proofs.YtcnkhkmapgbodaaDoor.W
set_option linter.unusedVariables false
set_option linter.unusedSimpArgs false
open Go.B
variable {base : Nat}
attribute [local simp] wpC_skip wpC_region wpC_seq wpC_true wpC_false wpC_block wpC_exit wpC_ret wpO_nil wpO_n wpO_tt wpO_ff wpO_tf wpO_ft wpO_u wpS_mov wpS_pick wpS_build wpS_load wpS_store wpS_nilck wpS_bin wpS_beq wpS_isnil wpS_eqs wpS_not wpS_neg wpS_conv wpS_lea wpS_fld wpS_idx wpS_idxs wpS_slice wpS_sslice wpS_mkfn wpS_mset wpS_look wpS_ext wpS_len wpS_new wpS_box wpS_mk wpS_mkmap wpS_mksl wpS_app wpS_fn wpS_call after_some pthen_n pthen_x pthen_r pin BExit.outOf puto_some puto_none put_eq put_ne Opd.ev argEnv op1_mov op1_pick op1_new op1_box op1_load op1_nilck op1_bin op1_beq op1_not op1_neg op1_conv op1_lea op1_fld op1_len0 op1_len1 op1_idx op1_ext op1_build op1_mk op1_stw op1_mksl op1_eqs pureBin isShift resOf resVals val_tmp val_cell oneOf one_int cells_int one_bool cells_bool one_str cells_str one_nilp cells_nilp one_ptr cells_ptr one_nils cells_nils one_sl cells_sl one_sle cells_sle one_nilm cells_nilm one_mp cells_mp one_nilf cells_nilf one_fn cells_fn one_nili cells_nili cells_agg isSl_sl slen_sl sat_sl make_of asm rtOk wpS_b2s op1_b2s wpS_imax op1_imax wpS_imin op1_imin wpS_i2s op1_i2s op1_isnil Option.map_some gam_base op1_app op1_idxs wpS_idxa op1_idxa op1_sslice bound_none bound_some nat_of op1_mkmap op1_mset op1_look op1_len2 op1_mkfn Go.B.fillB Has
open Go.Au
/-- A column with these digits. -/
def colD (ds : List Nat) : Nat := ds.foldr (fun d a => 3 * a + d) 0
def Dig3 (ds : List Nat) : Prop := ∀ d ∈ ds, d < 3
theorem colD_lt : ∀ {ds : List Nat}, Dig3 ds → colD ds < p3 ds.length
  | [], _ => by simp [colD, p3]
  | d :: ds, h => by
    have h1 := colD_lt (ds := ds) fun x hx => h x (List.mem_cons_of_mem _ hx)
    have h2 := h d List.mem_cons_self
    simp only [List.length_cons, p3_succ]
    show 3 * colD ds + d < _
    omega
theorem colD_wd : ∀ {ds : List Nat}, Dig3 ds → (∃ d ∈ ds, d < 2) → colD ds < wd ds.length
  | [], _, h => by obtain ⟨d, hd, _⟩ := h; cases hd
  | d :: ds, h, hs => by
    have hd : Dig3 ds := fun x hx => h x (List.mem_cons_of_mem _ hx)
    have h1 := colD_lt hd
    have h2 := h d List.mem_cons_self
    have h3 := p3_pos ds.length
    unfold wd
    simp only [List.length_cons, p3_succ]
    show 3 * colD ds + d < _
    obtain ⟨x, hx, hx2⟩ := hs
    rcases List.mem_cons.1 hx with rfl | hx
    · omega
    · have h4 := colD_wd hd ⟨x, hx, hx2⟩
      unfold wd at h4
      omega
theorem colD_snoc (ds : List Nat) (d : Nat) : colD (ds ++ [d]) = colD ds + d * p3 ds.length := by
  induction ds with
  | nil => simp [colD, p3]
  | cons x ds ih =>
    show 3 * colD (ds ++ [d]) + x = 3 * colD ds + x + d * p3 (ds.length + 1)
    rw [ih, p3_succ, Nat.mul_add, ← Nat.mul_assoc d, Nat.mul_comm (d * p3 ds.length)]
    omega
theorem colD_drop {ds : List Nat} {i : Nat} (h : i < ds.length) : colD (ds.drop i) = 3 * colD (ds.drop (i + 1)) + ds[i] := by
  rw [List.drop_eq_getElem_cons h]
  rfl
/-- A word: its letters. -/
def IsW (w : List Nat) : Prop := ∀ b ∈ w, b = 97 ∨ b = 98
/-- What a word has in a column. -/
def dgW (i : Nat) (w : List Nat) : Nat := if i < w.length then w.getD i 97 - 97 else 2
def colW (ws : List (List Nat)) (i : Nat) : Nat := colD (ws.map (dgW i))
def lngW (ws : List (List Nat)) : Nat := ws.foldl (fun a w => max a w.length) 0
def colsW (ws : List (List Nat)) : List Nat := (List.range (lngW ws)).map (colW ws)
theorem lng_snoc (ws : List (List Nat)) (w : List Nat) : lngW (ws ++ [w]) = max (lngW ws) w.length := by simp [lngW, List.foldl_append]
theorem lng_le {ws : List (List Nat)} {N : Nat} : (∀ w ∈ ws, w.length ≤ N) → lngW ws ≤ N := by
  have key : ∀ (ws : List (List Nat)) (a : Nat), a ≤ N → (∀ w ∈ ws, w.length ≤ N) → ws.foldl (fun a w => max a w.length) a ≤ N := by
    intro ws
    induction ws with
    | nil => intro a ha _; exact ha
    | cons w ws ih =>
      intro a ha h
      have := h w List.mem_cons_self
      exact ih _ (Nat.max_le.2 ⟨ha, this⟩) fun x hx => h x (List.mem_cons_of_mem _ hx)
  exact key ws 0 (Nat.zero_le _)
theorem lng_lt {ws : List (List Nat)} {i : Nat} : i < lngW ws ↔ ∃ w ∈ ws, i < w.length := by
  have key : ∀ (ws : List (List Nat)) (a : Nat), i < ws.foldl (fun a w => max a w.length) a ↔ (i < a ∨ ∃ w ∈ ws, i < w.length) := by
    intro ws
    induction ws with
    | nil => intro a; simp
    | cons w ws ih =>
      intro a
      have hm : i < max a w.length ↔ i < a ∨ i < w.length := by omega
      rw [List.foldl_cons, ih, hm]
      simp only [List.mem_cons, exists_eq_or_imp]
      exact or_assoc
  rw [lngW, key]
  simp
theorem IsW.get {w : List Nat} (h : IsW w) {i : Nat} (hi : i < w.length) : w[i] = 97 ∨ w[i] = 98 := h _ (List.getElem_mem hi)
theorem dgW_lt {w : List Nat} (h : IsW w) (i : Nat) : dgW i w < 3 := by
  unfold dgW
  split
  · rename_i hi
    have := h.get hi
    simp [hi]
    omega
  · omega
theorem dgW_let {w : List Nat} (h : IsW w) {i : Nat} (hi : i < w.length) : dgW i w = w[i] - 97 ∧ dgW i w < 2 := by
  have := h.get hi
  simp only [dgW, hi, if_true]
  simp [hi]
  omega
theorem col_dig {ws : List (List Nat)} (h : ∀ w ∈ ws, IsW w) (i : Nat) : Dig3 (ws.map (dgW i)) := fun d hd => by
  obtain ⟨w, hw, rfl⟩ := List.mem_map.1 hd
  exact dgW_lt (h w hw) i
theorem cols_in {ws : List (List Nat)} (h : ∀ w ∈ ws, IsW w) : In (wd ws.length) (colsW ws) := fun c hc => by
  obtain ⟨i, hi, rfl⟩ := List.mem_map.1 hc
  rw [List.mem_range, lng_lt] at hi
  obtain ⟨w, hw, hl⟩ := hi
  have := colD_wd (col_dig h i) ⟨dgW i w, List.mem_map.2 ⟨w, hw, rfl⟩, (dgW_let (h w hw) hl).2⟩
  rwa [List.length_map] at this
theorem colsW_len (ws : List (List Nat)) : (colsW ws).length = lngW ws := by simp [colsW]
theorem str_get {w : List Nat} {i : Nat} (hi : i < w.length) (h : IsW w) : (strL w)[i]? = some (UInt8.ofNat w[i]) := by
  rw [getElem?_pos (strL w) i (by rw [show (strL w).size = w.length from strL_size w]; exact hi)]
  simp [strL, ByteArray.getElem_eq_getElem_data]
theorem u8_let {b : Nat} (h : b = 97 ∨ b = 98) : (UInt8.ofNat b).toNat = b := by rw [UInt8.toNat_ofNat']; omega
theorem let_sub {b : Nat} (h : b = 97 ∨ b = 98) : IntKind.i64.wrap (IntKind.u8.wrap ((b : Int) - 97)) = ((b - 97 : Nat) : Int) := by rcases h with rfl | rfl <;> rfl
theorem i_columnOf (ds : List Nat) (v : BV) (H : BH) (h : Rd H 3 v (ds.map encN)) (h3 : Dig3 ds) (hl : ds.length ≤ 30) : FnDoes (gam base) 65 [v] H fun u K => u = encN (colD ds) := by
  refine FnDoes.of (fn := ir65) rfl ?_
  have w0 := wsub1 (n := ds.length) (by omega)
  simp [ir65, h.isSl, h.lenM, w0]
  refine wpC_countK ds.length [(0, v)] (fun i e K => e 3 = encN (colD (ds.drop (ds.length - i))) ∧ e 4 = .int .i64 ((ds.length : Int) - 1 - i) ∧ K = H) (i0 := 0) rfl ?_ ?_ (Nat.zero_le _) ?_
  · simp
  · simp [colD]
  rintro i e K hi ⟨e0, -⟩ ⟨e3, e4, rfl⟩
  simp only [] at e0
  by_cases hlt : i < ds.length
  · have hj : ds.length - i = ds.length - (i + 1) + 1 := by omega
    obtain ⟨j, hjj⟩ : ∃ j, j = ds.length - (i + 1) := ⟨_, rfl⟩
    have e4' : ((ds.length : Int) - 1 - i) = (j : Int) := by omega
    have hjl : j < ds.length := by omega
    have c1 := colD_drop hjl
    have c2 := colD_lt (ds := ds.drop (j + 1)) fun x hx => h3 x (List.mem_of_mem_drop hx)
    have c3 := p3_le (show (ds.drop (j + 1)).length ≤ 30 by simp; omega)
    rw [p3_30] at c3
    have hd := h3 _ (List.getElem_mem hjl)
    have g1 := h.at (i := j) hjl (rt := none) rfl
    rw [hj, ← hjj] at e3
    rw [e4'] at e4
    have m1 := pb_mul (a := 3) (b := colD (ds.drop (j + 1))) (by omega)
    have w1 : IntKind.i64.wrap (3 * ((colD (ds.drop (j + 1)) : Nat) : Int)) = ((3 * colD (ds.drop (j + 1)) : Nat) : Int) := by rw [w64 (by omega) (by omega)]; simp
    have w2 : IntKind.i64.wrap (((3 * colD (ds.drop (j + 1)) : Nat) : Int) + (ds[j] : Nat)) = ((colD (ds.drop j) : Nat) : Int) := by rw [w64 (by omega) (by omega), c1]; simp
    have w4 := wsub1 (n := j) (by omega)
    simp [e0, e3, e4, hjl, h.isSl, h.lenM, g1, w1, w4, hlt]
    refine ⟨?_, by omega⟩
    have : IntKind.i64.wrap (3 * ((colD (ds.drop (j + 1)) : Nat) : Int) + ((ds[j] : Nat) : Int)) = ((colD (ds.drop j) : Nat) : Int) := by rw [w64 (by omega) (by omega), c1]; simp
    subst hjj
    exact this
  · have hie : i = ds.length := by omega
    subst hie
    rw [show ((ds.length : Int) - 1 - (ds.length : Nat)) = -1 by omega] at e4
    simp [e3, e4]
    exact BH.Keeps.refl K
end Go.Proofs.YtcnkhkmapgbodaaDoor.W
end

section
namespace Go.Proofs.YtcnkhkmapgbodaaDoor.W
set_option linter.unusedVariables false
set_option linter.unusedSimpArgs false
open Go.B
variable {base : Nat}
attribute [local simp] wpC_skip wpC_region wpC_seq wpC_true wpC_false wpC_block wpC_exit wpC_ret wpO_nil wpO_n wpO_tt wpO_ff wpO_tf wpO_ft wpO_u wpS_mov wpS_pick wpS_build wpS_load wpS_store wpS_nilck wpS_bin wpS_beq wpS_isnil wpS_eqs wpS_not wpS_neg wpS_conv wpS_lea wpS_fld wpS_idx wpS_idxs wpS_slice wpS_sslice wpS_mkfn wpS_mset wpS_look wpS_ext wpS_len wpS_new wpS_box wpS_mk wpS_mkmap wpS_mksl wpS_app wpS_fn wpS_call after_some pthen_n pthen_x pthen_r pin BExit.outOf puto_some puto_none put_eq put_ne Opd.ev argEnv op1_mov op1_pick op1_new op1_box op1_load op1_nilck op1_bin op1_beq op1_not op1_neg op1_conv op1_lea op1_fld op1_len0 op1_len1 op1_idx op1_ext op1_build op1_mk op1_stw op1_mksl op1_eqs pureBin isShift resOf resVals val_tmp val_cell oneOf one_int cells_int one_bool cells_bool one_str cells_str one_nilp cells_nilp one_ptr cells_ptr one_nils cells_nils one_sl cells_sl one_sle cells_sle one_nilm cells_nilm one_mp cells_mp one_nilf cells_nilf one_fn cells_fn one_nili cells_nili cells_agg isSl_sl slen_sl sat_sl make_of asm rtOk wpS_b2s op1_b2s wpS_imax op1_imax wpS_imin op1_imin wpS_i2s op1_i2s op1_isnil Option.map_some gam_base op1_app op1_idxs wpS_idxa op1_idxa op1_sslice bound_none bound_some nat_of op1_mkmap op1_mset op1_look op1_len2 op1_mkfn Go.B.fillB Has
open Go.Au
abbrev encW (w : List Nat) : BV := .str (strL w)
theorem lng_take {ws : List (List Nat)} {i : Nat} (h : i < ws.length) : lngW (ws.take (i + 1)) = max (lngW (ws.take i)) ws[i].length := by
  rw [List.take_add_one, List.getElem?_eq_getElem h]
  exact lng_snoc _ _
theorem max_nat (a b : Nat) : (if a < b then (b : Int) else (a : Int)) = ((max a b : Nat) : Int) := by split <;> omega
theorem str_getE (w : List Nat) (i : Nat) (hi : i < (strL w).size) : (strL w)[i] = UInt8.ofNat (w[i]'(by rwa [strL_size] at hi)) := by simp [strL, ByteArray.getElem_eq_getElem_data]
theorem let_mod {b : Nat} (h : b = 97 ∨ b = 98) : b % 256 = b := by omega
/-- The digits in a column. -/
def dgsW (ws : List (List Nat)) (i j : Nat) : List Nat := (ws.take j).map (dgW i)
theorem dgsW_len {ws : List (List Nat)} {i j : Nat} (h : j ≤ ws.length) : (dgsW ws i j).length = j := by simp [dgsW]; omega
theorem dgsW_succ {ws : List (List Nat)} {i j : Nat} (h : j < ws.length) : dgsW ws i (j + 1) = dgsW ws i j ++ [dgW i ws[j]] := by
  unfold dgsW
  rw [List.take_add_one, List.getElem?_eq_getElem h, List.map_append]
  rfl
theorem i_columnsOf (ws : List (List Nat)) (v : BV) (H : BH) (h : Rd H 9 v (ws.map encW)) (hw : ∀ w ∈ ws, IsW w) (hn : ws.length ≤ 30) (hl : ∀ w ∈ ws, w.length ≤ 1000000) :
    FnDoes (gam base) 41 [v] H fun u K => ∃ bo, OwnV base K 3 u ((colsW ws).map encN) bo ∧ Fr H bo := by
  obtain ⟨R, hR⟩ : ∃ R : BV → BH → Prop, R = fun u K => ∃ bo, OwnV base K 3 u ((colsW ws).map encN) bo ∧ Fr H bo := ⟨_, rfl⟩
  rw [← hR]
  refine FnDoes.of (fn := ir41) rfl ?_
  have hlm := lng_le hl
  simp [ir41, h.isSl, h.lenM]
  obtain ⟨I, hI⟩ : ∃ I : Nat → Env → BH → Prop, I = (fun i e K => e 14 = encN i ∧ e 3 = encN (lngW (ws.take i)) ∧ K = H) := ⟨_, rfl⟩
  refine wpC_countK ws.length [(0, v), (12, v), (13, encN ws.length)] I (i0 := 0) rfl ?_ ?_ (Nat.zero_le _) ?_
  · simp
  · rw [hI]; exact ⟨by simp, by simp [lngW], rfl⟩
  rintro i e K hi ⟨e0, e12, e13, -⟩ hh
  rw [hI] at hh
  obtain ⟨e14, e3, rfl⟩ := hh
  simp only [] at e0 e12 e13
  by_cases hlt : i < ws.length
  · have g1 := h.at (i := i) hlt (rt := none) rfl
    have wi := wS (n := i) (by omega)
    simp [e12, e13, e14, e3, hlt, h.isSl, h.lenM, g1, wi, strL_size, max_nat]
    rw [hI]
    refine ⟨by simp, ?_, rfl⟩
    rw [lng_take hlt]
    simp
  have hie : i = ws.length := by omega
  subst hie
  rw [List.take_length] at e3
  simp [e13, e14]
  obtain ⟨J, hJ⟩ : ∃ J : Nat → Env → BH → Prop, J = (fun i e K' => e 7 = encN i ∧ ∃ u bo, e 6 = u ∧ Own base K K' [(bo, .arr 3 (((List.range i).map (colW ws)).map encN))] ∧ Vec bo u i) := ⟨_, rfl⟩
  refine wpC_countK (lngW ws) [(0, v), (3, encN (lngW ws))] J (i0 := 0) rfl ?_ ?_ (Nat.zero_le _) ?_
  · simp [e0, e3]
  · rw [hJ]; exact ⟨by simp, .nils, none, by simp, Own.start.nil _, Vec.none⟩
  clear e0 e12 e13 e14 e3
  rintro i e M hi' ⟨e0, e3, -⟩ hh
  rw [hJ] at hh
  obtain ⟨e7, u, bo, e6, o, hu⟩ := hh
  simp only [] at e0 e3
  have hm := h.keeps o.keeps
  by_cases hlt : i < lngW ws
  · have wi := wS (n := i) (by omega)
    simp [e7, e3, hlt, e0, hm.isSl, hm.lenM]
    obtain ⟨G, hG⟩ : ∃ G : Nat → Env → BH → Prop, G = (fun j e K' => e 30 = encN j ∧ ∃ u2 bo2, e 8 = u2 ∧ Own base K K' [(bo2, .arr 3 ((dgsW ws i j).map encN)), (bo, .arr 3 (((List.range i).map (colW ws)).map encN))] ∧ Vec bo2 u2 j) := ⟨_, rfl⟩
    refine wpC_countK ws.length [(0, v), (3, encN (lngW ws)), (7, encN i), (6, u), (28, v), (29, encN ws.length)] G (i0 := 0) rfl ?_ ?_ (Nat.zero_le _) ?_
    · simp [e0, e3, e7, e6]
    · rw [hG]
      exact ⟨by simp, .nils, none, by simp, by simpa [dgsW] using o.nil _, Vec.none⟩
    clear e0 e3 e7 e6
    rintro j e N hj ⟨e0, e3, e7, e6, e28, e29, -⟩ hh
    rw [hG] at hh
    obtain ⟨e30, u2, bo2, e8, o2, hu2⟩ := hh
    simp only [] at e0 e3 e7 e6 e28 e29
    have hm2 := h.keeps o2.keeps
    by_cases hlt2 : j < ws.length
    · have g1 := hm2.at (i := j) hlt2 (rt := none) rfl
      have wj := wS (n := j) (by omega)
      have hwj := hw _ (List.getElem_mem hlt2)
      have hlj := hl _ (List.getElem_mem hlt2)
      obtain ⟨w, hwe⟩ : ∃ w, w = ws[j] := ⟨_, rfl⟩
      have hs := dgsW_succ (i := i) hlt2
      rw [← hwe] at hwj hlj g1 hs
      by_cases hil : i < w.length
      · have g2 := str_get hil hwj
        have g3 := u8_let (hwj.get hil)
        have g4 := let_sub (hwj.get hil)
        have g5 := (dgW_let hwj hil).1
        simp [e28, e29, e30, hlt2, hm2.isSl, hm2.lenM, g1, e7, strL_size, hil, str_getE, g3, g4, e8]
        intro n1 b1 f1
        simp [make_of f1 b1]
        intro n2 b2 f2
        obtain ⟨v', K', b', q1, q2, q3⟩ := o2.push 0 rfl (by simpa [dgsW_len hj] using hu2) (x := encN (w[i] - 97)) (bytes := 8) rfl (by simp [dgsW_len hj]; omega) (by simp [dgsW_len hj]; omega) f1 b1 f2 b2
        simp [q1, e30, wj, hlt2]
        rw [hG]
        refine ⟨by simp, v', some b', by simp, ?_, by simpa [dgsW_len hj] using q3⟩
        rw [hs, g5]
        simpa using q2
      · have g5 : dgW i w = 2 := by simp [dgW, hil]
        simp [e28, e29, e30, hlt2, hm2.isSl, hm2.lenM, g1, e7, strL_size, hil, e8]
        intro n1 b1 f1
        simp [make_of f1 b1]
        intro n2 b2 f2
        obtain ⟨v', K', b', q1, q2, q3⟩ := o2.push 0 rfl (by simpa [dgsW_len hj] using hu2) (x := .int .i64 2) (bytes := 8) rfl (by simp [dgsW_len hj]; omega) (by simp [dgsW_len hj]; omega) f1 b1 f2 b2
        simp [q1, e30, wj, hlt2]
        rw [hG]
        refine ⟨by simp, v', some b', by simp, ?_, by simpa [dgsW_len hj] using q3⟩
        rw [hs, g5]
        simpa [show encN 2 = BV.int .i64 2 from rfl] using q2
    · have hje : j = ws.length := by omega
      subst hje
      have hcol : colD (dgsW ws i ws.length) = colW ws i := by unfold dgsW colW; rw [List.take_length]
      have hd3 : Dig3 (dgsW ws i ws.length) := by unfold dgsW; rw [List.take_length]; exact col_dig hw i
      simp [e29, e30, e8, e6]
      refine (i_columnOf (base := base) (dgsW ws i ws.length) u2 N (o2.rd 0 rfl (by simpa [dgsW_len] using hu2)) hd3 (by rw [dgsW_len (Nat.le_refl _)]; omega)).step fun v5 K5 k5 hv => ?_
      subst hv
      rw [hcol]
      simp [e6]
      intro n1 b1 f1
      simp [make_of f1 b1]
      intro n2 b2 f2
      obtain ⟨v', K', b', q1, q2, q3⟩ := (o2.call k5).tail.push 0 rfl (by simpa using hu) (x := encN (colW ws i)) (bytes := 8) rfl (by simp; omega) (by simp; omega) f1 b1 f2 b2
      simp [q1, e7, wi, hlt]
      rw [hJ]
      refine ⟨by simp, v', some b', by simp, ?_, by simpa using q3⟩
      rw [List.range_succ, List.map_append, List.map_append]
      simpa using q2
  · have hie : i = lngW ws := by omega
    subst hie
    simp [e7, e3, e6]
    rw [hR]
    exact ⟨o.keeps, bo, o.vec 0 rfl (by simpa [colsW] using hu), fun b hb => by subst hb; exact o.fr 0 rfl⟩
end Go.Proofs.YtcnkhkmapgbodaaDoor.W
end

section
namespace Go.Proofs.YtcnkhkmapgbodaaDoor.W
set_option linter.unusedVariables false
set_option linter.unusedSimpArgs false
open Go.B
variable {base : Nat}
attribute [local simp] wpC_skip wpC_region wpC_seq wpC_true wpC_false wpC_block wpC_exit wpC_ret wpO_nil wpO_n wpO_tt wpO_ff wpO_tf wpO_ft wpO_u wpS_mov wpS_pick wpS_build wpS_load wpS_store wpS_nilck wpS_bin wpS_beq wpS_isnil wpS_eqs wpS_not wpS_neg wpS_conv wpS_lea wpS_fld wpS_idx wpS_idxs wpS_slice wpS_sslice wpS_mkfn wpS_mset wpS_look wpS_ext wpS_len wpS_new wpS_box wpS_mk wpS_mkmap wpS_mksl wpS_app wpS_fn wpS_call after_some pthen_n pthen_x pthen_r pin BExit.outOf puto_some puto_none put_eq put_ne Opd.ev argEnv op1_mov op1_pick op1_new op1_box op1_load op1_nilck op1_bin op1_beq op1_not op1_neg op1_conv op1_lea op1_fld op1_len0 op1_len1 op1_idx op1_ext op1_build op1_mk op1_stw op1_mksl op1_eqs pureBin isShift resOf resVals val_tmp val_cell oneOf one_int cells_int one_bool cells_bool one_str cells_str one_nilp cells_nilp one_ptr cells_ptr one_nils cells_nils one_sl cells_sl one_sle cells_sle one_nilm cells_nilm one_mp cells_mp one_nilf cells_nilf one_fn cells_fn one_nili cells_nili cells_agg isSl_sl slen_sl sat_sl make_of asm rtOk wpS_b2s op1_b2s wpS_imax op1_imax wpS_imin op1_imin wpS_i2s op1_i2s op1_isnil Option.map_some gam_base op1_app op1_idxs wpS_idxa op1_idxa op1_sslice bound_none bound_some nat_of op1_mkmap op1_mset op1_look op1_len2 op1_mkfn Go.B.fillB Has
open Go.Au
def smW (ws : List (List Nat)) (i j : Nat) : Bool := (ws.take j).any fun w => decide (i < w.length)
theorem smW_succ {ws : List (List Nat)} {i j : Nat} (h : j < ws.length) : smW ws i (j + 1) = (smW ws i j || decide (i < ws[j].length)) := by
  unfold smW
  rw [List.take_add_one, List.getElem?_eq_getElem h, List.any_append]
  simp
theorem smW_all (ws : List (List Nat)) (i : Nat) : smW ws i ws.length = decide (i < lngW ws) := by
  unfold smW
  rw [List.take_length, Bool.eq_iff_iff, decide_eq_true_eq, lng_lt, List.any_eq_true]
  simp
theorem s_columns (ws : List (List Nat)) (v : BV) (H : BH) (h : Rd H 9 v (ws.map encW)) (hw : ∀ w ∈ ws, IsW w) (hn : ws.length ≤ 20) (hl : ∀ w ∈ ws, w.length ≤ 1000000) :
    FnDoes (gam base) 63 [v] H fun u K => ∃ bo, OwnV base K 2 u ((colsW ws).map encN) bo ∧ Fr H bo := by
  obtain ⟨R, hR⟩ : ∃ R : BV → BH → Prop, R = fun u K => ∃ bo, OwnV base K 2 u ((colsW ws).map encN) bo ∧ Fr H bo := ⟨_, rfl⟩
  rw [← hR]
  refine FnDoes.of (fn := ir63) rfl ?_
  have hlm := lng_le hl
  simp [ir63]
  intro n4 b4 f4
  have o0 := Own.start (base := base) (H := H) |>.new f4 b4 (s := .arr 2 [])
  simp [make_of f4 b4]
  obtain ⟨J, hJ⟩ : ∃ J : Nat → Env → BH → Prop, J = (fun i e K' => e 4 = encN i ∧ ∃ u bo, e 3 = u ∧ Own base H K' [(bo, .arr 2 (((List.range i).map (colW ws)).map encN))] ∧ Vec bo u i) := ⟨_, rfl⟩
  refine wpC_countK (lngW ws) [(0, v)] J (i0 := 0) rfl ?_ ?_ (Nat.zero_le _) ?_
  · simp
  · rw [hJ]; exact ⟨by simp, .sl n4 0 0, some n4, by simp, by simpa using o0, rfl⟩
  clear o0
  rintro i e M hi' ⟨e0, -⟩ hh
  rw [hJ] at hh
  obtain ⟨e4, u, bo, e3, o, hu⟩ := hh
  simp only [] at e0
  have hm := h.keeps o.keeps
  have wi := wS (n := i) (by omega)
  simp
  obtain ⟨G, hG⟩ : ∃ G : Nat → Env → BH → Prop, G = (fun j e K' => e 7 = encN j ∧ e 5 = encN (colD (dgsW ws i j)) ∧ e 6 = .bool (smW ws i j) ∧ K' = M) := ⟨_, rfl⟩
  refine wpC_countK ws.length [(0, v), (3, u), (4, encN i)] G (i0 := 0) rfl ?_ ?_ (Nat.zero_le _) ?_
  · simp [e0, e3, e4]
  · rw [hG]
    exact ⟨by simp, by simp [dgsW, colD], by simp [smW], rfl⟩
  clear e0 e3 e4
  rintro j e N hj ⟨e0, e3, e4, -⟩ hh
  rw [hG] at hh
  obtain ⟨e7, e5, e6, rfl⟩ := hh
  simp only [] at e0 e3 e4
  by_cases hlt2 : j < ws.length
  · have g1 := hm.at (i := j) hlt2 (rt := none) rfl
    have wj := wS (n := j) (by omega)
    have hwj := hw _ (List.getElem_mem hlt2)
    obtain ⟨w, hwe⟩ : ∃ w, w = ws[j] := ⟨_, rfl⟩
    have hs := dgsW_succ (i := i) hlt2
    have hsm := smW_succ (i := i) hlt2
    have hc := colD_snoc (dgsW ws i j) (dgW i ws[j])
    have hd3 : Dig3 (dgsW ws i j) := fun d hd => by
      obtain ⟨x, hx, rfl⟩ := List.mem_map.1 hd
      exact dgW_lt (hw x (List.mem_of_mem_take hx)) i
    have hcl := colD_lt hd3
    rw [dgsW_len hj] at hcl hc
    have hp := p3_le (show j ≤ 20 by omega)
    have hp20 : p3 20 = 3486784401 := by decide
    have hdl := dgW_lt hwj i
    rw [hp20] at hp
    rw [← hs] at hc
    rw [← hwe] at hwj g1 hs hsm hc hdl
    have hmul : dgW i w * p3 j ≤ 3 * 3486784401 := Nat.mul_le_mul (by omega) hp
    have w1 : IntKind.i64.wrap (((dgW i w : Nat) : Int) * ((p3 j : Nat) : Int)) = ((dgW i w * p3 j : Nat) : Int) := by
      rw [← Int.natCast_mul]; exact wN (by omega)
    have w2 : IntKind.i64.wrap (((colD (dgsW ws i j) : Nat) : Int) + ((dgW i w * p3 j : Nat) : Int)) = ((colD (dgsW ws i (j + 1)) : Nat) : Int) := by
      rw [← Int.natCast_add, hc]; exact wN (by omega)
    by_cases hil : i < w.length
    · have g3 := let_mod (hwj.get hil)
      have g4 := let_sub (hwj.get hil)
      have g5 := (dgW_let hwj hil).1
      rw [g5] at w1 w2
      simp [e0, e7, hlt2, hm.isSl, hm.lenM, g1, e4, strL_size, hil, str_getE, g3, g4, e5]
      refine callP (s_power j N (by omega)) ?_
      simp [w1, w2, e7, wj, hlt2]
      have w2' := w2
      rw [Int.natCast_mul] at w2'
      simp only [w2', true_and]
      rw [hG]
      refine ⟨by simp, by simp, by simp [hsm, hil], rfl⟩
    · have g5 : dgW i w = 2 := by simp [dgW, hil]
      rw [g5] at w1 w2
      have w1' : IntKind.i64.wrap (2 * ((p3 j : Nat) : Int)) = ((2 * p3 j : Nat) : Int) := w1
      simp [e0, e7, hlt2, hm.isSl, hm.lenM, g1, e4, strL_size, hil, e5]
      refine callP (s_power j N (by omega)) ?_
      simp [w1', e7, wj, hlt2]
      have w2' := w2
      rw [Int.natCast_mul] at w2'
      have w2'' : IntKind.i64.wrap (((colD (dgsW ws i j) : Nat) : Int) + 2 * ((p3 j : Nat) : Int)) = ((colD (dgsW ws i (j + 1)) : Nat) : Int) := w2'
      simp only [w2'', true_and]
      rw [hG]
      refine ⟨by simp, by simp, by simp [hsm, hil, e6], rfl⟩
  · have hje : j = ws.length := by omega
    subst hje
    have hcol : colD (dgsW ws i ws.length) = colW ws i := by unfold dgsW colW; rw [List.take_length]
    rw [smW_all] at e6
    rw [hcol] at e5
    by_cases hlt : i < lngW ws
    · simp only [hlt, decide_true] at e6
      simp [e0, e7, e6, e5, e3, hm.isSl, hm.lenM]
      intro n1 b1 f1
      simp [make_of f1 b1]
      intro n2 b2 f2
      obtain ⟨v', K', b', q1, q2, q3⟩ := o.push 0 rfl (by simpa using hu) (x := encN (colW ws i)) (bytes := 8) rfl (by simp; omega) (by simp; omega) f1 b1 f2 b2
      simp [q1, e4, wi, hlt]
      rw [hJ]
      refine ⟨by simp, v', some b', by simp, ?_, by simpa using q3⟩
      rw [List.range_succ, List.map_append, List.map_append]
      simpa using q2
    · have hie : i = lngW ws := by omega
      subst hie
      simp only [Nat.lt_irrefl, decide_false] at e6
      simp [e0, e7, e6, e3, hm.isSl, hm.lenM]
      rw [hR]
      exact ⟨o.keeps, bo, o.vec 0 rfl (by simpa [colsW] using hu), fun b hb => by subst hb; exact o.fr 0 rfl⟩
end Go.Proofs.YtcnkhkmapgbodaaDoor.W
end

section
namespace Go.Proofs.YtcnkhkmapgbodaaDoor.W
set_option linter.unusedVariables false
set_option linter.unusedSimpArgs false
open Go.B
variable {base : Nat}
attribute [local simp] wpC_skip wpC_region wpC_seq wpC_true wpC_false wpC_block wpC_exit wpC_ret wpO_nil wpO_n wpO_tt wpO_ff wpO_tf wpO_ft wpO_u wpS_mov wpS_pick wpS_build wpS_load wpS_store wpS_nilck wpS_bin wpS_beq wpS_isnil wpS_eqs wpS_not wpS_neg wpS_conv wpS_lea wpS_fld wpS_idx wpS_idxs wpS_slice wpS_sslice wpS_mkfn wpS_mset wpS_look wpS_ext wpS_len wpS_new wpS_box wpS_mk wpS_mkmap wpS_mksl wpS_app wpS_fn wpS_call after_some pthen_n pthen_x pthen_r pin BExit.outOf puto_some puto_none put_eq put_ne Opd.ev argEnv op1_mov op1_pick op1_new op1_box op1_load op1_nilck op1_bin op1_beq op1_not op1_neg op1_conv op1_lea op1_fld op1_len0 op1_len1 op1_idx op1_ext op1_build op1_mk op1_stw op1_mksl op1_eqs pureBin isShift resOf resVals val_tmp val_cell oneOf one_int cells_int one_bool cells_bool one_str cells_str one_nilp cells_nilp one_ptr cells_ptr one_nils cells_nils one_sl cells_sl one_sle cells_sle one_nilm cells_nilm one_mp cells_mp one_nilf cells_nilf one_fn cells_fn one_nili cells_nili cells_agg isSl_sl slen_sl sat_sl make_of asm rtOk wpS_b2s op1_b2s wpS_imax op1_imax wpS_imin op1_imin wpS_i2s op1_i2s op1_isnil Option.map_some gam_base op1_app op1_idxs wpS_idxa op1_idxa op1_sslice bound_none bound_some nat_of op1_mkmap op1_mset op1_look op1_len2 op1_mkfn Go.B.fillB Has
open Go.Au
theorem _root_.Go.Au.In.take {w : Nat} {cs : List Nat} (h : In w cs) (i : Nat) : In w (cs.take i) := fun c hc => h c (List.mem_of_mem_take hc)
end Go.Proofs.YtcnkhkmapgbodaaDoor.W
end

section
namespace Go.Proofs.YtcnkhkmapgbodaaDoor.W
set_option linter.unusedVariables false
set_option linter.unusedSimpArgs false
open Go.B
variable {base : Nat}
attribute [local simp] wpC_skip wpC_region wpC_seq wpC_true wpC_false wpC_block wpC_exit wpC_ret wpO_nil wpO_n wpO_tt wpO_ff wpO_tf wpO_ft wpO_u wpS_mov wpS_pick wpS_build wpS_load wpS_store wpS_nilck wpS_bin wpS_beq wpS_isnil wpS_eqs wpS_not wpS_neg wpS_conv wpS_lea wpS_fld wpS_idx wpS_idxs wpS_slice wpS_sslice wpS_mkfn wpS_mset wpS_look wpS_ext wpS_len wpS_new wpS_box wpS_mk wpS_mkmap wpS_mksl wpS_app wpS_fn wpS_call after_some pthen_n pthen_x pthen_r pin BExit.outOf puto_some puto_none put_eq put_ne Opd.ev argEnv op1_mov op1_pick op1_new op1_box op1_load op1_nilck op1_bin op1_beq op1_not op1_neg op1_conv op1_lea op1_fld op1_len0 op1_len1 op1_idx op1_ext op1_build op1_mk op1_stw op1_mksl op1_eqs pureBin isShift resOf resVals val_tmp val_cell oneOf one_int cells_int one_bool cells_bool one_str cells_str one_nilp cells_nilp one_ptr cells_ptr one_nils cells_nils one_sl cells_sl one_sle cells_sle one_nilm cells_nilm one_mp cells_mp one_nilf cells_nilf one_fn cells_fn one_nili cells_nili cells_agg isSl_sl slen_sl sat_sl make_of asm rtOk wpS_b2s op1_b2s wpS_imax op1_imax wpS_imin op1_imin wpS_i2s op1_i2s op1_isnil Option.map_some gam_base op1_app op1_idxs wpS_idxa op1_idxa op1_sslice bound_none bound_some nat_of op1_mkmap op1_mset op1_look op1_len2 op1_mkfn Go.B.fillB Has
open Go.Au
def wdN (n : Nat) : List Nat := wordL n (bl n)
theorem wdN_w (n : Nat) : IsW (wdN n) := fun b hb => by
  unfold wdN wordL at hb
  obtain ⟨i, _, rfl⟩ := List.mem_map.1 hb
  unfold ltr
  omega
theorem wdN_len {n : Nat} (h : n ≤ 1000000000) : (wdN n).length ≤ 30 := by
  have := bl_le h
  unfold wdN
  rw [wordL_len]
  omega
theorem wordB_eq (n : Nat) : (BV.str (wordB n)) = encW (wdN n) := rfl
end Go.Proofs.YtcnkhkmapgbodaaDoor.W
end

section
namespace Go.Proofs.YtcnkhkmapgbodaaDoor.W
set_option linter.unusedVariables false
set_option linter.unusedSimpArgs false
open Go.B
variable {base : Nat}
attribute [local simp] wpC_skip wpC_region wpC_seq wpC_true wpC_false wpC_block wpC_exit wpC_ret wpO_nil wpO_n wpO_tt wpO_ff wpO_tf wpO_ft wpO_u wpS_mov wpS_pick wpS_build wpS_load wpS_store wpS_nilck wpS_bin wpS_beq wpS_isnil wpS_eqs wpS_not wpS_neg wpS_conv wpS_lea wpS_fld wpS_idx wpS_idxs wpS_slice wpS_sslice wpS_mkfn wpS_mset wpS_look wpS_ext wpS_len wpS_new wpS_box wpS_mk wpS_mkmap wpS_mksl wpS_app wpS_fn wpS_call after_some pthen_n pthen_x pthen_r pin BExit.outOf puto_some puto_none put_eq put_ne Opd.ev argEnv op1_mov op1_pick op1_new op1_box op1_load op1_nilck op1_bin op1_beq op1_not op1_neg op1_conv op1_lea op1_fld op1_len0 op1_len1 op1_idx op1_ext op1_build op1_mk op1_stw op1_mksl op1_eqs pureBin isShift resOf resVals val_tmp val_cell oneOf one_int cells_int one_bool cells_bool one_str cells_str one_nilp cells_nilp one_ptr cells_ptr one_nils cells_nils one_sl cells_sl one_sle cells_sle one_nilm cells_nilm one_mp cells_mp one_nilf cells_nilf one_fn cells_fn one_nili cells_nili cells_agg isSl_sl slen_sl sat_sl make_of asm rtOk wpS_b2s op1_b2s wpS_imax op1_imax wpS_imin op1_imin wpS_i2s op1_i2s op1_isnil Option.map_some gam_base op1_app op1_idxs wpS_idxa op1_idxa op1_sslice bound_none bound_some nat_of op1_mkmap op1_mset op1_look op1_len2 op1_mkfn Go.B.fillB Has
open Go.Au
end Go.Proofs.YtcnkhkmapgbodaaDoor.W
end

section
namespace Go.Proofs.YtcnkhkmapgbodaaDoor.W
set_option linter.unusedVariables false
set_option linter.unusedSimpArgs false
open Go.B
variable {base : Nat}
attribute [local simp] wpC_skip wpC_region wpC_seq wpC_true wpC_false wpC_block wpC_exit wpC_ret wpO_nil wpO_n wpO_tt wpO_ff wpO_tf wpO_ft wpO_u wpS_mov wpS_pick wpS_build wpS_load wpS_store wpS_nilck wpS_bin wpS_beq wpS_isnil wpS_eqs wpS_not wpS_neg wpS_conv wpS_lea wpS_fld wpS_idx wpS_idxs wpS_slice wpS_sslice wpS_mkfn wpS_mset wpS_look wpS_ext wpS_len wpS_new wpS_box wpS_mk wpS_mkmap wpS_mksl wpS_app wpS_fn wpS_call after_some pthen_n pthen_x pthen_r pin BExit.outOf puto_some puto_none put_eq put_ne Opd.ev argEnv op1_mov op1_pick op1_new op1_box op1_load op1_nilck op1_bin op1_beq op1_not op1_neg op1_conv op1_lea op1_fld op1_len0 op1_len1 op1_idx op1_ext op1_build op1_mk op1_stw op1_mksl op1_eqs pureBin isShift resOf resVals val_tmp val_cell oneOf one_int cells_int one_bool cells_bool one_str cells_str one_nilp cells_nilp one_ptr cells_ptr one_nils cells_nils one_sl cells_sl one_sle cells_sle one_nilm cells_nilm one_mp cells_mp one_nilf cells_nilf one_fn cells_fn one_nili cells_nili cells_agg isSl_sl slen_sl sat_sl make_of asm rtOk wpS_b2s op1_b2s wpS_imax op1_imax wpS_imin op1_imin wpS_i2s op1_i2s op1_isnil Option.map_some gam_base op1_app op1_idxs wpS_idxa op1_idxa op1_sslice bound_none bound_some nat_of op1_mkmap op1_mset op1_look op1_len2 op1_mkfn Go.B.fillB Has
open Go.Au
end Go.Proofs.YtcnkhkmapgbodaaDoor.W
end

section
namespace Go.Proofs.YtcnkhkmapgbodaaDoor.W
set_option linter.unusedVariables false
set_option linter.unusedSimpArgs false
open Go.B
variable {base : Nat}
attribute [local simp] wpC_skip wpC_region wpC_seq wpC_true wpC_false wpC_block wpC_exit wpC_ret wpO_nil wpO_n wpO_tt wpO_ff wpO_tf wpO_ft wpO_u wpS_mov wpS_pick wpS_build wpS_load wpS_store wpS_nilck wpS_bin wpS_beq wpS_isnil wpS_eqs wpS_not wpS_neg wpS_conv wpS_lea wpS_fld wpS_idx wpS_idxs wpS_slice wpS_sslice wpS_mkfn wpS_mset wpS_look wpS_ext wpS_len wpS_new wpS_box wpS_mk wpS_mkmap wpS_mksl wpS_app wpS_fn wpS_call after_some pthen_n pthen_x pthen_r pin BExit.outOf puto_some puto_none put_eq put_ne Opd.ev argEnv op1_mov op1_pick op1_new op1_box op1_load op1_nilck op1_bin op1_beq op1_not op1_neg op1_conv op1_lea op1_fld op1_len0 op1_len1 op1_idx op1_ext op1_build op1_mk op1_stw op1_mksl op1_eqs pureBin isShift resOf resVals val_tmp val_cell oneOf one_int cells_int one_bool cells_bool one_str cells_str one_nilp cells_nilp one_ptr cells_ptr one_nils cells_nils one_sl cells_sl one_sle cells_sle one_nilm cells_nilm one_mp cells_mp one_nilf cells_nilf one_fn cells_fn one_nili cells_nili cells_agg isSl_sl slen_sl sat_sl make_of asm rtOk wpS_b2s op1_b2s wpS_imax op1_imax wpS_imin op1_imin wpS_i2s op1_i2s op1_isnil Option.map_some gam_base op1_app op1_idxs wpS_idxa op1_idxa op1_sslice bound_none bound_some nat_of op1_mkmap op1_mset op1_look op1_len2 op1_mkfn Go.B.fillB Has
open Go.Au
end Go.Proofs.YtcnkhkmapgbodaaDoor.W
end

section
namespace Go.Proofs.YtcnkhkmapgbodaaDoor.W
set_option linter.unusedVariables false
set_option linter.unusedSimpArgs false
open Go.B
variable {base : Nat}
attribute [local simp] wpC_skip wpC_region wpC_seq wpC_true wpC_false wpC_block wpC_exit wpC_ret wpO_nil wpO_n wpO_tt wpO_ff wpO_tf wpO_ft wpO_u wpS_mov wpS_pick wpS_build wpS_load wpS_store wpS_nilck wpS_bin wpS_beq wpS_isnil wpS_eqs wpS_not wpS_neg wpS_conv wpS_lea wpS_fld wpS_idx wpS_idxs wpS_slice wpS_sslice wpS_mkfn wpS_mset wpS_look wpS_ext wpS_len wpS_new wpS_box wpS_mk wpS_mkmap wpS_mksl wpS_app wpS_fn wpS_call after_some pthen_n pthen_x pthen_r pin BExit.outOf puto_some puto_none put_eq put_ne Opd.ev argEnv op1_mov op1_pick op1_new op1_box op1_load op1_nilck op1_bin op1_beq op1_not op1_neg op1_conv op1_lea op1_fld op1_len0 op1_len1 op1_idx op1_ext op1_build op1_mk op1_stw op1_mksl op1_eqs pureBin isShift resOf resVals val_tmp val_cell oneOf one_int cells_int one_bool cells_bool one_str cells_str one_nilp cells_nilp one_ptr cells_ptr one_nils cells_nils one_sl cells_sl one_sle cells_sle one_nilm cells_nilm one_mp cells_mp one_nilf cells_nilf one_fn cells_fn one_nili cells_nili cells_agg isSl_sl slen_sl sat_sl make_of asm rtOk wpS_b2s op1_b2s wpS_imax op1_imax wpS_imin op1_imin wpS_i2s op1_i2s op1_isnil Option.map_some gam_base op1_app op1_idxs wpS_idxa op1_idxa op1_sslice bound_none bound_some nat_of op1_mkmap op1_mset op1_look op1_len2 op1_mkfn Go.B.fillB Has
open Go.Au
end Go.Proofs.YtcnkhkmapgbodaaDoor.W
end

section
namespace Go.Proofs.YtcnkhkmapgbodaaDoor.W
set_option linter.unusedVariables false
set_option linter.unusedSimpArgs false
open Go.B
variable {base : Nat}
attribute [local simp] wpC_skip wpC_region wpC_seq wpC_true wpC_false wpC_block wpC_exit wpC_ret wpO_nil wpO_n wpO_tt wpO_ff wpO_tf wpO_ft wpO_u wpS_mov wpS_pick wpS_build wpS_load wpS_store wpS_nilck wpS_bin wpS_beq wpS_isnil wpS_eqs wpS_not wpS_neg wpS_conv wpS_lea wpS_fld wpS_idx wpS_idxs wpS_slice wpS_sslice wpS_mkfn wpS_mset wpS_look wpS_ext wpS_len wpS_new wpS_box wpS_mk wpS_mkmap wpS_mksl wpS_app wpS_fn wpS_call after_some pthen_n pthen_x pthen_r pin BExit.outOf puto_some puto_none put_eq put_ne Opd.ev argEnv op1_mov op1_pick op1_new op1_box op1_load op1_nilck op1_bin op1_beq op1_not op1_neg op1_conv op1_lea op1_fld op1_len0 op1_len1 op1_idx op1_ext op1_build op1_mk op1_stw op1_mksl op1_eqs pureBin isShift resOf resVals val_tmp val_cell oneOf one_int cells_int one_bool cells_bool one_str cells_str one_nilp cells_nilp one_ptr cells_ptr one_nils cells_nils one_sl cells_sl one_sle cells_sle one_nilm cells_nilm one_mp cells_mp one_nilf cells_nilf one_fn cells_fn one_nili cells_nili cells_agg isSl_sl slen_sl sat_sl make_of asm rtOk wpS_b2s op1_b2s wpS_imax op1_imax wpS_imin op1_imin wpS_i2s op1_i2s op1_isnil Option.map_some gam_base op1_app op1_idxs wpS_idxa op1_idxa op1_sslice bound_none bound_some nat_of op1_mkmap op1_mset op1_look op1_len2 op1_mkfn Go.B.fillB Has
open Go.Au
end Go.Proofs.YtcnkhkmapgbodaaDoor.W
end

section
namespace Go.Proofs.YtcnkhkmapgbodaaDoor.W
set_option linter.unusedVariables false
set_option linter.unusedSimpArgs false
open Go.B
variable {base : Nat}
attribute [local simp] wpC_skip wpC_region wpC_seq wpC_true wpC_false wpC_block wpC_exit wpC_ret wpO_nil wpO_n wpO_tt wpO_ff wpO_tf wpO_ft wpO_u wpS_mov wpS_pick wpS_build wpS_load wpS_store wpS_nilck wpS_bin wpS_beq wpS_isnil wpS_eqs wpS_not wpS_neg wpS_conv wpS_lea wpS_fld wpS_idx wpS_idxs wpS_slice wpS_sslice wpS_mkfn wpS_mset wpS_look wpS_ext wpS_len wpS_new wpS_box wpS_mk wpS_mkmap wpS_mksl wpS_app wpS_fn wpS_call after_some pthen_n pthen_x pthen_r pin BExit.outOf puto_some puto_none put_eq put_ne Opd.ev argEnv op1_mov op1_pick op1_new op1_box op1_load op1_nilck op1_bin op1_beq op1_not op1_neg op1_conv op1_lea op1_fld op1_len0 op1_len1 op1_idx op1_ext op1_build op1_mk op1_stw op1_mksl op1_eqs pureBin isShift resOf resVals val_tmp val_cell oneOf one_int cells_int one_bool cells_bool one_str cells_str one_nilp cells_nilp one_ptr cells_ptr one_nils cells_nils one_sl cells_sl one_sle cells_sle one_nilm cells_nilm one_mp cells_mp one_nilf cells_nilf one_fn cells_fn one_nili cells_nili cells_agg isSl_sl slen_sl sat_sl make_of asm rtOk wpS_b2s op1_b2s wpS_imax op1_imax wpS_imin op1_imin wpS_i2s op1_i2s op1_isnil Option.map_some gam_base op1_app op1_idxs wpS_idxa op1_idxa op1_sslice bound_none bound_some nat_of op1_mkmap op1_mset op1_look op1_len2 op1_mkfn Go.B.fillB Has
open Go.Au
theorem i_isNumber (n : Int) (H : BH) : Runs (gam base) 49 [.int .i64 n] H (.bool (inB n 0 1000000000)) H := by
  refine runs_of (fn := ir49) rfl ?_
  simp [ir49]
  refine callP (i_within n 0 1000000000 H) ?_
  simp
end Go.Proofs.YtcnkhkmapgbodaaDoor.W
end

section
namespace Go.Proofs.YtcnkhkmapgbodaaDoor.W
set_option linter.unusedVariables false
set_option linter.unusedSimpArgs false
open Go.B
variable {base : Nat}
attribute [local simp] wpC_skip wpC_region wpC_seq wpC_true wpC_false wpC_block wpC_exit wpC_ret wpO_nil wpO_n wpO_tt wpO_ff wpO_tf wpO_ft wpO_u wpS_mov wpS_pick wpS_build wpS_load wpS_store wpS_nilck wpS_bin wpS_beq wpS_isnil wpS_eqs wpS_not wpS_neg wpS_conv wpS_lea wpS_fld wpS_idx wpS_idxs wpS_slice wpS_sslice wpS_mkfn wpS_mset wpS_look wpS_ext wpS_len wpS_new wpS_box wpS_mk wpS_mkmap wpS_mksl wpS_app wpS_fn wpS_call after_some pthen_n pthen_x pthen_r pin BExit.outOf puto_some puto_none put_eq put_ne Opd.ev argEnv op1_mov op1_pick op1_new op1_box op1_load op1_nilck op1_bin op1_beq op1_not op1_neg op1_conv op1_lea op1_fld op1_len0 op1_len1 op1_idx op1_ext op1_build op1_mk op1_stw op1_mksl op1_eqs pureBin isShift resOf resVals val_tmp val_cell oneOf one_int cells_int one_bool cells_bool one_str cells_str one_nilp cells_nilp one_ptr cells_ptr one_nils cells_nils one_sl cells_sl one_sle cells_sle one_nilm cells_nilm one_mp cells_mp one_nilf cells_nilf one_fn cells_fn one_nili cells_nili cells_agg isSl_sl slen_sl sat_sl make_of asm rtOk wpS_b2s op1_b2s wpS_imax op1_imax wpS_imin op1_imin wpS_i2s op1_i2s op1_isnil Option.map_some gam_base op1_app op1_idxs wpS_idxa op1_idxa op1_sslice bound_none bound_some nat_of op1_mkmap op1_mset op1_look op1_len2 op1_mkfn Go.B.fillB Has
open Go.Au
theorem RdRs.one {K : BH} {r : Raw4} {n : Nat} {u x : BV} (h : RdRaw K r.1 r.2.1 r.2.2.1 r.2.2.2 (.agg [.int .i64 r.1, .int .i64 r.2.1, u, x])) (hr : K.row n = .arr 29 [.int .i64 r.1, .int .i64 r.2.1, u, x]) : RdRs K (.sl n 0 1) [r] := by
  refine ⟨[[.int .i64 r.1, .int .i64 r.2.1, u, x]], ⟨rfl, rfl, fun i y hi => ?_⟩, rfl, fun i c q hi hq => ?_⟩
  · have : i = 0 := by have := (List.getElem?_eq_some_iff.1 hi).1; simpa using this
    subst this
    simp at hi
    subst hi
    exact ⟨n, 0, _, rfl, hr, by simp, rfl⟩
  · have : i = 0 := by have := (List.getElem?_eq_some_iff.1 hi).1; simpa using this
    subst this
    simp at hi hq
    subst hi hq
    exact h
end Go.Proofs.YtcnkhkmapgbodaaDoor.W
end

section
namespace Go.Proofs.YtcnkhkmapgbodaaDoor.W
set_option linter.unusedVariables false
set_option linter.unusedSimpArgs false
open Go.B
variable {base : Nat}
attribute [local simp] wpC_skip wpC_region wpC_seq wpC_true wpC_false wpC_block wpC_exit wpC_ret wpO_nil wpO_n wpO_tt wpO_ff wpO_tf wpO_ft wpO_u wpS_mov wpS_pick wpS_build wpS_load wpS_store wpS_nilck wpS_bin wpS_beq wpS_isnil wpS_eqs wpS_not wpS_neg wpS_conv wpS_lea wpS_fld wpS_idx wpS_idxs wpS_slice wpS_sslice wpS_mkfn wpS_mset wpS_look wpS_ext wpS_len wpS_new wpS_box wpS_mk wpS_mkmap wpS_mksl wpS_app wpS_fn wpS_call after_some pthen_n pthen_x pthen_r pin BExit.outOf puto_some puto_none put_eq put_ne Opd.ev argEnv op1_mov op1_pick op1_new op1_box op1_load op1_nilck op1_bin op1_beq op1_not op1_neg op1_conv op1_lea op1_fld op1_len0 op1_len1 op1_idx op1_ext op1_build op1_mk op1_stw op1_mksl op1_eqs pureBin isShift resOf resVals val_tmp val_cell oneOf one_int cells_int one_bool cells_bool one_str cells_str one_nilp cells_nilp one_ptr cells_ptr one_nils cells_nils one_sl cells_sl one_sle cells_sle one_nilm cells_nilm one_mp cells_mp one_nilf cells_nilf one_fn cells_fn one_nili cells_nili cells_agg isSl_sl slen_sl sat_sl make_of asm rtOk wpS_b2s op1_b2s wpS_imax op1_imax wpS_imin op1_imin wpS_i2s op1_i2s op1_isnil Option.map_some gam_base op1_app op1_idxs wpS_idxa op1_idxa op1_sslice bound_none bound_some nat_of op1_mkmap op1_mset op1_look op1_len2 op1_mkfn Go.B.fillB Has
open Go.Au
end Go.Proofs.YtcnkhkmapgbodaaDoor.W
end

section
namespace Go.Proofs.YtcnkhkmapgbodaaDoor.W
set_option linter.unusedVariables false
set_option linter.unusedSimpArgs false
open Go.B
variable {base : Nat}
attribute [local simp] wpC_skip wpC_region wpC_seq wpC_true wpC_false wpC_block wpC_exit wpC_ret wpO_nil wpO_n wpO_tt wpO_ff wpO_tf wpO_ft wpO_u wpS_mov wpS_pick wpS_build wpS_load wpS_store wpS_nilck wpS_bin wpS_beq wpS_isnil wpS_eqs wpS_not wpS_neg wpS_conv wpS_lea wpS_fld wpS_idx wpS_idxs wpS_slice wpS_sslice wpS_mkfn wpS_mset wpS_look wpS_ext wpS_len wpS_new wpS_box wpS_mk wpS_mkmap wpS_mksl wpS_app wpS_fn wpS_call after_some pthen_n pthen_x pthen_r pin BExit.outOf puto_some puto_none put_eq put_ne Opd.ev argEnv op1_mov op1_pick op1_new op1_box op1_load op1_nilck op1_bin op1_beq op1_not op1_neg op1_conv op1_lea op1_fld op1_len0 op1_len1 op1_idx op1_ext op1_build op1_mk op1_stw op1_mksl op1_eqs pureBin isShift resOf resVals val_tmp val_cell oneOf one_int cells_int one_bool cells_bool one_str cells_str one_nilp cells_nilp one_ptr cells_ptr one_nils cells_nils one_sl cells_sl one_sle cells_sle one_nilm cells_nilm one_mp cells_mp one_nilf cells_nilf one_fn cells_fn one_nili cells_nili cells_agg isSl_sl slen_sl sat_sl make_of asm rtOk wpS_b2s op1_b2s wpS_imax op1_imax wpS_imin op1_imin wpS_i2s op1_i2s op1_isnil Option.map_some gam_base op1_app op1_idxs wpS_idxa op1_idxa op1_sslice bound_none bound_some nat_of op1_mkmap op1_mset op1_look op1_len2 op1_mkfn Go.B.fillB Has
open Go.Au
theorem rd_keeps {H K : BH} (k : H.Keeps K) {rt n : Option Nat} {p v : BV} (h : H.rd rt n p = some v) : K.rd rt n p = some v := by
  cases p with
  | ptr b o =>
    have hne : H.row b ≠ .fresh := by
      intro he
      simp [BH.rd, he] at h
    have e : K.row b = H.row b := k b hne
    have : K.rd rt n (.ptr b o) = H.rd rt n (.ptr b o) := by simp only [BH.rd, e]
    rw [this, h]
  | _ => simp [BH.rd] at h
end Go.Proofs.YtcnkhkmapgbodaaDoor.W
end

section
namespace Go.Proofs.YtcnkhkmapgbodaaDoor.W
set_option linter.unusedVariables false
set_option linter.unusedSimpArgs false
open Go.B
variable {base : Nat}
attribute [local simp] wpC_skip wpC_region wpC_seq wpC_true wpC_false wpC_block wpC_exit wpC_ret wpO_nil wpO_n wpO_tt wpO_ff wpO_tf wpO_ft wpO_u wpS_mov wpS_pick wpS_build wpS_load wpS_store wpS_nilck wpS_bin wpS_beq wpS_isnil wpS_eqs wpS_not wpS_neg wpS_conv wpS_lea wpS_fld wpS_idx wpS_idxs wpS_slice wpS_sslice wpS_mkfn wpS_mset wpS_look wpS_ext wpS_len wpS_new wpS_box wpS_mk wpS_mkmap wpS_mksl wpS_app wpS_fn wpS_call after_some pthen_n pthen_x pthen_r pin BExit.outOf puto_some puto_none put_eq put_ne Opd.ev argEnv op1_mov op1_pick op1_new op1_box op1_load op1_nilck op1_bin op1_beq op1_not op1_neg op1_conv op1_lea op1_fld op1_len0 op1_len1 op1_idx op1_ext op1_build op1_mk op1_stw op1_mksl op1_eqs pureBin isShift resOf resVals val_tmp val_cell oneOf one_int cells_int one_bool cells_bool one_str cells_str one_nilp cells_nilp one_ptr cells_ptr one_nils cells_nils one_sl cells_sl one_sle cells_sle one_nilm cells_nilm one_mp cells_mp one_nilf cells_nilf one_fn cells_fn one_nili cells_nili cells_agg isSl_sl slen_sl sat_sl make_of asm rtOk wpS_b2s op1_b2s wpS_imax op1_imax wpS_imin op1_imin wpS_i2s op1_i2s op1_isnil Option.map_some gam_base op1_app op1_idxs wpS_idxa op1_idxa op1_sslice bound_none bound_some nat_of op1_mkmap op1_mset op1_look op1_len2 op1_mkfn Go.B.fillB Has
open Go.Au
end Go.Proofs.YtcnkhkmapgbodaaDoor.W
end

section
namespace Go.Proofs.YtcnkhkmapgbodaaDoor.W
set_option linter.unusedVariables false
set_option linter.unusedSimpArgs false
open Go.B
variable {base : Nat}
attribute [local simp] wpC_skip wpC_region wpC_seq wpC_true wpC_false wpC_block wpC_exit wpC_ret wpO_nil wpO_n wpO_tt wpO_ff wpO_tf wpO_ft wpO_u wpS_mov wpS_pick wpS_build wpS_load wpS_store wpS_nilck wpS_bin wpS_beq wpS_isnil wpS_eqs wpS_not wpS_neg wpS_conv wpS_lea wpS_fld wpS_idx wpS_idxs wpS_slice wpS_sslice wpS_mkfn wpS_mset wpS_look wpS_ext wpS_len wpS_new wpS_box wpS_mk wpS_mkmap wpS_mksl wpS_app wpS_fn wpS_call after_some pthen_n pthen_x pthen_r pin BExit.outOf puto_some puto_none put_eq put_ne Opd.ev argEnv op1_mov op1_pick op1_new op1_box op1_load op1_nilck op1_bin op1_beq op1_not op1_neg op1_conv op1_lea op1_fld op1_len0 op1_len1 op1_idx op1_ext op1_build op1_mk op1_stw op1_mksl op1_eqs pureBin isShift resOf resVals val_tmp val_cell oneOf one_int cells_int one_bool cells_bool one_str cells_str one_nilp cells_nilp one_ptr cells_ptr one_nils cells_nils one_sl cells_sl one_sle cells_sle one_nilm cells_nilm one_mp cells_mp one_nilf cells_nilf one_fn cells_fn one_nili cells_nili cells_agg isSl_sl slen_sl sat_sl make_of asm rtOk wpS_b2s op1_b2s wpS_imax op1_imax wpS_imin op1_imin wpS_i2s op1_i2s op1_isnil Option.map_some gam_base op1_app op1_idxs wpS_idxa op1_idxa op1_sslice bound_none bound_some nat_of op1_mkmap op1_mset op1_look op1_len2 op1_mkfn Go.B.fillB Has
open Go.Au
/-- The function gives a value for which something holds, whatever it writes. -/
def FnW (Γ : Ctx) (f : Nat) (args : List BV) (H : BH) (P : BV → BH → Prop) : Prop := ∃ v K, Runs Γ f args H v K ∧ P v K
theorem FnW.of {Γ : Ctx} {f : Nat} {fn : BFun} {args : List BV} {H : BH} {P : BV → BH → Prop} (hf : Γ.fn f = some fn)
    (h : wpC Γ.base (Runs Γ) fn.body (fun x e' K => (x = .normal ∨ x = .ret) ∧ ∃ v, resOf fn.results e' K = some v ∧ P v K) (argEnv args) H) : FnW Γ f args H P :=
  call_of_wp (R := fun v K => P v K) hf h
theorem FnW.step {Γ : Ctx} {f : Nat} {args : List BV} {H : BH} {P : BV → BH → Prop} (h : FnW Γ f args H P) {d : Option Nat} {e : Env} {Kn : Env → BH → Prop}
    (hk : ∀ v K, P v K → Kn (e.puto d v) K) : CallS (Runs Γ) f args [] d Kn e H := by
  obtain ⟨v, K, h1, h3⟩ := h
  exact ⟨v, K, h1, BH.KeepsTys.nil _ _, hk v K h3⟩
/-- Marks from a number on. -/
def mkI (k n : Nat) : List BV := (List.range n).map fun j => encN (k + j)
def mkB (k n : Nat) : List BV := (List.range n).map fun j => .bool (decide ((k + j) % 3 = 0))
theorem mkI_len (k n : Nat) : (mkI k n).length = n := by simp [mkI]
theorem mkB_len (k n : Nat) : (mkB k n).length = n := by simp [mkB]
/-- A list of which the first ones are others. -/
def mixL (f : Nat → BV) (cs : List BV) (i : Nat) : List BV := (List.range i).map f ++ cs.drop i
theorem mixL_len {f : Nat → BV} {cs : List BV} {i : Nat} (h : i ≤ cs.length) : (mixL f cs i).length = cs.length := by simp [mixL]; omega
theorem mixL_zero {f : Nat → BV} {cs : List BV} : mixL f cs 0 = cs := by simp [mixL]
theorem mixL_all {f : Nat → BV} {cs : List BV} : mixL f cs cs.length = (List.range cs.length).map f := by simp [mixL]
theorem mixL_set {f : Nat → BV} {cs : List BV} {i : Nat} (h : i < cs.length) : (mixL f cs i).set i (f i) = mixL f cs (i + 1) := by
  unfold mixL
  rw [List.set_append_right _ _ (by simp), List.length_map, List.length_range, Nat.sub_self, List.drop_eq_getElem_cons h, List.set_cons_zero, List.range_succ, List.map_append]
  simp
theorem tmod3 (k : Nat) : ((k : Int).tmod 3 == 0) = decide (k % 3 = 0) := by
  rw [show (k : Int).tmod 3 = ((k % 3 : Nat) : Int) from tmodN k 3, Bool.eq_iff_iff, beq_iff_eq, decide_eq_true_iff]
  omega
theorem imod3 (k : Nat) : ((k : Int) % 3 == 0) = decide (k % 3 = 0) := by
  rw [Bool.eq_iff_iff, beq_iff_eq, decide_eq_true_iff]
  omega
section
variable {H K : BH} {L : List Sl} {bo : Option Nat} {cs : List BV} {v : BV}
theorem set_self {α : Type} {L : List α} {i : Nat} {x : α} (h : L[i]? = some x) : L.set i x = L := by
  obtain ⟨hi, e⟩ := List.getElem?_eq_some_iff.1 h
  rw [← e]
  exact List.set_getElem_self hi
theorem set_set {α : Type} {L : List α} {i : Nat} {x y : α} : (L.set i x).set i y = L.set i y := by simp
theorem get_set {α : Type} {L : List α} {i : Nat} {x y : α} (h : L[i]? = some x) : (L.set i y)[i]? = some y := by
  have hi := (List.getElem?_eq_some_iff.1 h).1
  simp [hi]
theorem mark_ints (i k : Nat) (o : Own base H K L) (hL : L[i]? = some (bo, .arr 2 cs)) (hv : Vec bo v cs.length) (hk : k + cs.length ≤ 1000000000) :
    FnW (gam base) 20 [v, encN k] K fun u K' => u = encN (k + cs.length) ∧ Own base H K' (L.set i (bo, .arr 2 (mkI k cs.length))) := by
  obtain ⟨R, hR⟩ : ∃ R : BV → BH → Prop, R = fun u K' => u = encN (k + cs.length) ∧ Own base H K' (L.set i (bo, .arr 2 (mkI k cs.length))) := ⟨_, rfl⟩
  rw [← hR]
  refine FnW.of (fn := ir20) rfl ?_
  simp [ir20]
  obtain ⟨I, hI⟩ : ∃ I : Nat → Env → BH → Prop, I = (fun j e K' => e 5 = encN j ∧ e 1 = encN (k + j) ∧ Own base H K' (L.set i (bo, .arr 2 (mixL (fun j => encN (k + j)) cs j)))) := ⟨_, rfl⟩
  refine wpC_countK cs.length [(0, v)] I (i0 := 0) rfl ?_ ?_ (Nat.zero_le _) ?_
  · simp
  · rw [hI]
    refine ⟨by simp, by simp, ?_⟩
    rw [mixL_zero, set_self hL]
    exact o
  rintro j e K' hj ⟨e0, -⟩ hh
  rw [hI] at hh
  obtain ⟨e5, e1, o'⟩ := hh
  simp only [] at e0
  by_cases hlt : j < cs.length
  · have wj := wS (n := j) (by omega)
    have wk := wS (n := k + j) (by omega)
    have wk' : IntKind.i64.wrap ((k : Int) + (j : Int) + 1) = ((k + j + 1 : Nat) : Int) := by rw [← wk]; simp
    obtain ⟨K5, g5, o5⟩ := o'.wr i (get_set hL) (by rw [mixL_len hj]; exact hv) (j := j) (by rw [mixL_len hj]; exact hlt) (u := encN (k + j)) rfl (rt := none) rfl
    simp [e0, e1, e5, hv.isSl, hv.len, hlt, g5, wj, wk, wk']
    rw [hI]
    refine ⟨by simp, by simp; omega, ?_⟩
    rw [set_set, mixL_set hlt] at o5
    exact o5
  · have hje : j = cs.length := by omega
    subst hje
    simp [e0, e1, e5, hv.isSl, hv.len]
    rw [hR]
    rw [mixL_all] at o'
    exact ⟨rfl, o'⟩
theorem mark_bools (i k : Nat) (o : Own base H K L) (hL : L[i]? = some (bo, .arr 4 cs)) (hv : Vec bo v cs.length) (hk : k + cs.length ≤ 1000000000) :
    FnW (gam base) 51 [v, encN k] K fun u K' => u = encN (k + cs.length) ∧ Own base H K' (L.set i (bo, .arr 4 (mkB k cs.length))) := by
  obtain ⟨R, hR⟩ : ∃ R : BV → BH → Prop, R = fun u K' => u = encN (k + cs.length) ∧ Own base H K' (L.set i (bo, .arr 4 (mkB k cs.length))) := ⟨_, rfl⟩
  rw [← hR]
  refine FnW.of (fn := ir51) rfl ?_
  simp [ir51]
  obtain ⟨I, hI⟩ : ∃ I : Nat → Env → BH → Prop, I = (fun j e K' => e 5 = encN j ∧ e 1 = encN (k + j) ∧ Own base H K' (L.set i (bo, .arr 4 (mixL (fun j => .bool (decide ((k + j) % 3 = 0))) cs j)))) := ⟨_, rfl⟩
  refine wpC_countK cs.length [(0, v)] I (i0 := 0) rfl ?_ ?_ (Nat.zero_le _) ?_
  · simp
  · rw [hI]
    refine ⟨by simp, by simp, ?_⟩
    rw [mixL_zero, set_self hL]
    exact o
  rintro j e K' hj ⟨e0, -⟩ hh
  rw [hI] at hh
  obtain ⟨e5, e1, o'⟩ := hh
  simp only [] at e0
  by_cases hlt : j < cs.length
  · have wj := wS (n := j) (by omega)
    have wk := wS (n := k + j) (by omega)
    obtain ⟨m, hm⟩ : ∃ m, m = k + j := ⟨_, rfl⟩
    rw [← hm] at e1 wk
    obtain ⟨K5, g5, o5⟩ := o'.wr i (get_set hL) (by rw [mixL_len hj]; exact hv) (j := j) (by rw [mixL_len hj]; exact hlt) (u := .bool (decide (m % 3 = 0))) rfl (rt := none) rfl
    have t3 := tmod3 m
    have i3 := imod3 m
    simp [e0, e1, e5, hv.isSl, hv.len, hlt, t3, i3, g5, wj, wk]
    rw [hI]
    refine ⟨by simp, by simp [hm]; omega, ?_⟩
    rw [hm, set_set, mixL_set hlt] at o5
    exact o5
  · have hje : j = cs.length := by omega
    subst hje
    simp [e0, e1, e5, hv.isSl, hv.len]
    rw [hR]
    rw [mixL_all] at o'
    exact ⟨rfl, o'⟩
theorem held_ints (n k : Nat) (h : Rd H 2 v (mkI k n)) (hk : k + n ≤ 1000000000) : Runs (gam base) 80 [v, encN k] H (encN (k + n)) H := by
  refine runs_of (fn := ir80) rfl ?_
  simp [ir80]
  have hl := h.len
  rw [mkI_len] at hl
  refine wpC_countK n [(0, v)] (fun j e K' => e 5 = encN j ∧ e 1 = encN (k + j) ∧ K' = H) (i0 := 0) rfl ?_ ?_ (Nat.zero_le _) ?_
  · simp
  · exact ⟨by simp, by simp, rfl⟩
  rintro j e K' hj ⟨e0, -⟩ ⟨e5, e1, rfl⟩
  simp only [] at e0
  by_cases hlt : j < n
  · have wj := wS (n := j) (by omega)
    have wk := wS (n := k + j) (by omega)
    have g1 := h.get (i := j) (by rw [mkI_len]; exact hlt) (rt := none) rfl
    have e2 : (mkI k n)[j]'(by rw [mkI_len]; exact hlt) = encN (k + j) := by simp [mkI]
    rw [e2] at g1
    obtain ⟨m, hm⟩ : ∃ m, m = k + j := ⟨_, rfl⟩
    rw [← hm] at e1 wk g1
    simp [e0, e1, e5, h.isSl, hl, hlt, g1, wj, wk]
    omega
  · have hje : j = n := by omega
    subst hje
    simp [e0, e1, e5, h.isSl, hl]
theorem held_bools (n k : Nat) (h : Rd H 4 v (mkB k n)) (hk : k + n ≤ 1000000000) : Runs (gam base) 53 [v, encN k] H (encN (k + n)) H := by
  refine runs_of (fn := ir53) rfl ?_
  simp [ir53]
  have hl := h.len
  rw [mkB_len] at hl
  refine wpC_countK n [(0, v)] (fun j e K' => e 5 = encN j ∧ e 1 = encN (k + j) ∧ K' = H) (i0 := 0) rfl ?_ ?_ (Nat.zero_le _) ?_
  · simp
  · exact ⟨by simp, by simp, rfl⟩
  rintro j e K' hj ⟨e0, -⟩ ⟨e5, e1, rfl⟩
  simp only [] at e0
  by_cases hlt : j < n
  · have wj := wS (n := j) (by omega)
    have wk := wS (n := k + j) (by omega)
    have g1 := h.get (i := j) (by rw [mkB_len]; exact hlt) (rt := none) rfl
    have e2 : (mkB k n)[j]'(by rw [mkB_len]; exact hlt) = .bool (decide ((k + j) % 3 = 0)) := by simp [mkB]
    rw [e2] at g1
    obtain ⟨m, hm⟩ : ∃ m, m = k + j := ⟨_, rfl⟩
    rw [← hm] at e1 wk g1
    have t3 := tmod3 m
    have i3 := imod3 m
    simp [e0, e1, e5, h.isSl, hl, hlt, g1, t3, i3, wj, wk]
    omega
  · have hje : j = n := by omega
    subst hje
    simp [e0, e1, e5, h.isSl, hl]
/-- Rows, of which the first ones are marked. -/
def mixR (k w : Nat) (xss : List (List BV)) (i : Nat) : List (List BV) := (List.range i).map (fun i => mkI (k + i * w) w) ++ xss.drop i
theorem mixR_set {k w i : Nat} {xss : List (List BV)} (h : i < xss.length) : (mixR k w xss i).set i (mkI (k + i * w) w) = mixR k w xss (i + 1) := by
  unfold mixR
  rw [List.set_append_right _ _ (by simp), List.length_map, List.length_range, Nat.sub_self, List.drop_eq_getElem_cons h, List.set_cons_zero, List.range_succ, List.map_append]
  simp
theorem mixR_get {k w i : Nat} {xss : List (List BV)} (h : i < xss.length) : (mixR k w xss i)[i]? = some xss[i] := by
  unfold mixR
  rw [List.getElem?_append_right (by simp)]
  simp [h]
theorem mixR_all {k w : Nat} {xss : List (List BV)} : mixR k w xss xss.length = (List.range xss.length).map (fun i => mkI (k + i * w) w) := by simp [mixR]
theorem mark_rows {wo : Option Nat} {vs : List BV} {fr Z : List Sl} {bo : Option Nat} {st : BSt} {xss : List (List BV)} (k w : Nat) (o : Own base H K ((bo, st) :: (wo, .arr 37 vs) :: (fr ++ Z))) (hv : Vec wo v vs.length) (hr : RowsOf 2 vs fr xss) (hw : ∀ xs ∈ xss, xs.length = w)
    (hk : k + xss.length * w ≤ 1000000000) (hn : xss.length ≤ 1000000000) :
    FnW (gam base) 52 [v, encN k] K fun u K' => u = encN (k + xss.length * w) ∧ ∃ fr', Own base H K' ((bo, st) :: (wo, .arr 37 vs) :: (fr' ++ Z)) ∧ RowsOf 2 vs fr' ((List.range xss.length).map (fun i => mkI (k + i * w) w)) := by
  obtain ⟨R, hR⟩ : ∃ R : BV → BH → Prop, R = fun u K' => u = encN (k + xss.length * w) ∧ ∃ fr', Own base H K' ((bo, st) :: (wo, .arr 37 vs) :: (fr' ++ Z)) ∧ RowsOf 2 vs fr' ((List.range xss.length).map (fun i => mkI (k + i * w) w)) := ⟨_, rfl⟩
  rw [← hR]
  refine FnW.of (fn := ir52) rfl ?_
  simp [ir52]
  have hvl := hr.len
  obtain ⟨I, hI⟩ : ∃ I : Nat → Env → BH → Prop, I = (fun i e K' => e 5 = encN i ∧ e 1 = encN (k + i * w) ∧ ∃ fr', Own base H K' ((bo, st) :: (wo, .arr 37 vs) :: (fr' ++ Z)) ∧ RowsOf 2 vs fr' (mixR k w xss i)) := ⟨_, rfl⟩
  refine wpC_countK xss.length [(0, v)] I (i0 := 0) rfl ?_ ?_ (Nat.zero_le _) ?_
  · simp
  · rw [hI]
    exact ⟨by simp, by simp, fr, o, by simpa [mixR] using hr⟩
  rintro i e K' hi ⟨e0, -⟩ hh
  rw [hI] at hh
  obtain ⟨e5, e1, fr', o', hr'⟩ := hh
  simp only [] at e0
  by_cases hlt : i < xss.length
  · have wi := wS (n := i) (by omega)
    have hvi : i < vs.length := by omega
    obtain ⟨uo, hfr, huv⟩ := hr'.get (i := i) (u := vs[i]) (by simp [hvi]) (mixR_get hlt)
    have hxl := hw _ (List.getElem_mem hlt)
    have g1 := (o'.rd 1 rfl hv).get (i := i) hvi (rt := none) rfl
    have s1 := (o'.rd 1 rfl hv).isSl
    have l1 := (o'.rd 1 rfl hv).len
    have hmul : i * w + w ≤ xss.length * w := by rw [← Nat.succ_mul]; exact Nat.mul_le_mul_right _ hlt
    simp [e0, e1, e5, s1, l1, hvi, g1]
    refine (mark_ints (base := base) (i + 2) (k + i * w) o' (by simpa [List.getElem?_append_left (show i < fr'.length from (List.getElem?_eq_some_iff.1 hfr).1)] using hfr) huv (by omega)).step fun u K2 hh => ?_
    obtain ⟨rfl, o2⟩ := hh
    simp [e5, wi, hlt]
    rw [hI]
    rw [hxl] at o2 ⊢
    refine ⟨by simp, by simp [Nat.succ_mul, Nat.add_assoc], fr'.set i (uo, .arr 2 (mkI (k + i * w) w)), ?_, ?_⟩
    · rw [← List.set_append_left _ _ (List.getElem?_eq_some_iff.1 hfr).1]
      exact o2
    rw [← mixR_set hlt]
    exact RowsOf.upd (by rw [mkI_len, hxl]) hr' hfr
  · have hie : i = xss.length := by omega
    subst hie
    simp [e0, e1, e5, hv.isSl, hv.len, hvl.1]
    rw [hR]
    rw [mixR_all] at hr'
    exact ⟨rfl, fr', o', hr'⟩
theorem held_rows (n k w : Nat) (h : RdR H 37 2 v (fun c => c) ((List.range n).map (fun i => mkI (k + i * w) w))) (hk : k + n * w ≤ 1000000000) (hn : n ≤ 1000000000) : Runs (gam base) 54 [v, encN k] H (encN (k + n * w)) H := by
  refine runs_of (fn := ir54) rfl ?_
  simp [ir54]
  have hl : v.slen = n := by rw [h.len]; simp
  refine wpC_countK n [(0, v)] (fun i e K' => e 5 = encN i ∧ e 1 = encN (k + i * w) ∧ K' = H) (i0 := 0) rfl ?_ ?_ (Nat.zero_le _) ?_
  · simp
  · exact ⟨by simp, by simp, rfl⟩
  rintro i e K' hi ⟨e0, -⟩ ⟨e5, e1, rfl⟩
  simp only [] at e0
  by_cases hlt : i < n
  · have wi := wS (n := i) (by omega)
    have hmul : i * w + w ≤ n * w := by rw [← Nat.succ_mul]; exact Nat.mul_le_mul_right _ hlt
    obtain ⟨row, q1, q2⟩ := h.at (i := i) (by simpa using hlt)
    have q2 := q2 none rfl
    have q1' : Rd K' 2 row (mkI (k + i * w) w) := by simpa using q1
    simp [e0, e1, e5, h.isSl, hl, hlt, q2]
    refine callP (held_ints w (k + i * w) q1' (by omega)) ?_
    have hnn : ¬ ((k : Int) + (i : Int) * (w : Int) + (w : Int) < 0) := by
      have : (0 : Int) ≤ (i : Int) * (w : Int) := Int.mul_nonneg (by omega) (by omega)
      omega
    simp [hnn, e5, wi, hlt]
    rw [Int.add_mul, Int.add_assoc]
    simp
  · have hie : i = n := by omega
    subst hie
    simp [e0, e1, e5, h.isSl, hl]
end
end Go.Proofs.YtcnkhkmapgbodaaDoor.W
end

section
namespace Go.Proofs.YtcnkhkmapgbodaaDoor.W
set_option linter.unusedVariables false
set_option linter.unusedSimpArgs false
open Go.B
variable {base : Nat}
attribute [local simp] wpC_skip wpC_region wpC_seq wpC_true wpC_false wpC_block wpC_exit wpC_ret wpO_nil wpO_n wpO_tt wpO_ff wpO_tf wpO_ft wpO_u wpS_mov wpS_pick wpS_build wpS_load wpS_store wpS_nilck wpS_bin wpS_beq wpS_isnil wpS_eqs wpS_not wpS_neg wpS_conv wpS_lea wpS_fld wpS_idx wpS_idxs wpS_slice wpS_sslice wpS_mkfn wpS_mset wpS_look wpS_ext wpS_len wpS_new wpS_box wpS_mk wpS_mkmap wpS_mksl wpS_app wpS_fn wpS_call after_some pthen_n pthen_x pthen_r pin BExit.outOf puto_some puto_none put_eq put_ne Opd.ev argEnv op1_mov op1_pick op1_new op1_box op1_load op1_nilck op1_bin op1_beq op1_not op1_neg op1_conv op1_lea op1_fld op1_len0 op1_len1 op1_idx op1_ext op1_build op1_mk op1_stw op1_mksl op1_eqs pureBin isShift resOf resVals val_tmp val_cell oneOf one_int cells_int one_bool cells_bool one_str cells_str one_nilp cells_nilp one_ptr cells_ptr one_nils cells_nils one_sl cells_sl one_sle cells_sle one_nilm cells_nilm one_mp cells_mp one_nilf cells_nilf one_fn cells_fn one_nili cells_nili cells_agg isSl_sl slen_sl sat_sl make_of asm rtOk wpS_b2s op1_b2s wpS_imax op1_imax wpS_imin op1_imin wpS_i2s op1_i2s op1_isnil Option.map_some gam_base op1_app op1_idxs wpS_idxa op1_idxa op1_sslice bound_none bound_some nat_of op1_mkmap op1_mset op1_look op1_len2 op1_mkfn Go.B.fillB Has
open Go.Au
/-- A relation that bears marks from a number on. -/
def MkQ (base : Nat) (H K : BH) (T S : Int) (k n p w : Nat) (m : BV) (Z : List Sl) : Prop := ∃ u x bo wo vs fr, m = .agg [.int .i64 T, .int .i64 S, u, x] ∧ Own base H K ((bo, .arr 4 (mkB k n)) :: (wo, .arr 37 vs) :: (fr ++ Z)) ∧ Vec bo u n ∧ Vec wo x vs.length ∧ RowsOf 2 vs fr ((List.range p).map fun i => mkI (k + n + i * w) w)
theorem OwnQ.call {H K K' : BH} {T S : Int} {acc : List Bool} {rows : List (List Int)} {m : BV} {Z : List Sl} (h : OwnQ base H K T S acc rows m Z) (k : K.Keeps K') : OwnQ base H K' T S acc rows m Z := by
  obtain ⟨u, x, bo, wo, vs, fr, e, o, hu, hx, hr⟩ := h
  exact ⟨u, x, bo, wo, vs, fr, e, o.call k, hu, hx, hr⟩
theorem MkQ.call {H K K' : BH} {T S : Int} {k n p w : Nat} {m : BV} {Z : List Sl} (h : MkQ base H K T S k n p w m Z) (q : K.Keeps K') : MkQ base H K' T S k n p w m Z := by
  obtain ⟨u, x, bo, wo, vs, fr, e, o, hu, hx, hr⟩ := h
  exact ⟨u, x, bo, wo, vs, fr, e, o.call q, hu, hx, hr⟩
theorem MkQ.keeps {H K : BH} {T S : Int} {k n p w : Nat} {m : BV} {Z : List Sl} (h : MkQ base H K T S k n p w m Z) : H.Keeps K := by
  obtain ⟨u, x, bo, wo, vs, fr, e, o, hu, hx, hr⟩ := h
  exact o.keeps
theorem OwnQ.keeps {H K : BH} {T S : Int} {acc : List Bool} {rows : List (List Int)} {m : BV} {Z : List Sl} (h : OwnQ base H K T S acc rows m Z) : H.Keeps K := by
  obtain ⟨u, x, bo, wo, vs, fr, e, o, hu, hx, hr⟩ := h
  exact o.keeps
/-- One relation behind the other: the later one is beside the earlier one. -/
theorem OwnQ.both {H K K1 K2 : BH} {T S T' S' : Int} {acc acc' : List Bool} {rows rows' : List (List Int)} {m m' : BV} {Z : List Sl} (h : OwnQ base H K T S acc rows m Z) (k : K.Keeps K1) (h2 : OwnQ base K1 K2 T' S' acc' rows' m' []) :
    ∃ Y, OwnQ base H K2 T S acc rows m Y ∧ ∀ {K3 : BH} {L : List Sl}, Own base H K3 (L ++ Y) → OwnQ base H K3 T' S' acc' rows' m' [] := by
  obtain ⟨u, x, bo, wo, vs, fr, e, o, hu, hx, hr⟩ := h
  obtain ⟨u', x', bo', wo', vs', fr', e', o', hu', hx', hr'⟩ := h2
  refine ⟨Z ++ ((bo', .arr 4 (acc'.map encB)) :: (wo', .arr 37 vs') :: (fr' ++ [])), ⟨u, x, bo, wo, vs, fr, e, ?_, hu, hx, hr⟩, fun {K3 L} o3 => ⟨u', x', bo', wo', vs', fr', e', o3.sub ?_, hu', hx', hr'⟩⟩
  · have := (o.call k).join o'.keeps o'
    simpa using this
  · exact (List.sublist_append_right _ _).trans (List.sublist_append_right _ _)
theorem mark_rel {H K : BH} {T S : Int} {acc : List Bool} {rows : List (List Int)} {m : BV} {Z : List Sl} (k w : Nat) (h : OwnQ base H K T S acc rows m Z) (hw : ∀ r ∈ rows, r.length = w) (hk : k + acc.length + rows.length * w ≤ 1000000000) (hn : rows.length ≤ 1000000000) :
    FnW (gam base) 21 [m, encN k] K fun v K' => v = encN (k + acc.length + rows.length * w) ∧ MkQ base H K' T S k acc.length rows.length w m Z := by
  obtain ⟨R, hR⟩ : ∃ R : BV → BH → Prop, R = fun v K' => v = encN (k + acc.length + rows.length * w) ∧ MkQ base H K' T S k acc.length rows.length w m Z := ⟨_, rfl⟩
  rw [← hR]
  refine FnW.of (fn := ir21) rfl ?_
  obtain ⟨u, x, bo, wo, vs, fr, rfl, o, hu, hx, hr⟩ := h
  have u1 := hu.one
  have x1 := hx.one
  simp [ir21, u1, x1]
  intro n1 b1 f1
  have o1 := o.new f1 b1 (s := .arr 29 [.int .i64 T, .int .i64 S, u, x])
  have r2 := rd_ptr (o1.at 0 (b := n1) rfl) (rt := none) (j := 2) (c := u) rfl rfl
  simp [make_of f1 b1, r2]
  refine (mark_bools (base := base) 1 k o1 rfl (by simpa using hu) (by simp; omega)).step fun v K1 hh => ?_
  obtain ⟨rfl, o2⟩ := hh
  have o2 : Own base H K1 ((some n1, .arr 29 [.int .i64 T, .int .i64 S, u, x]) :: (bo, .arr 4 (mkB k (acc.map encB).length)) :: (wo, .arr 37 vs) :: (fr ++ Z)) := o2
  have r3 := rd_ptr (o2.at 0 (b := n1) rfl) (rt := none) (j := 3) (c := x) rfl rfl
  rw [List.length_map] at o2
  simp [r3]
  refine (mark_rows (base := base) (k + acc.length) w o2.tail hx hr (fun xs hxs => by
    obtain ⟨r, hr', rfl⟩ := List.mem_map.1 hxs
    rw [List.length_map]; exact hw r hr') (by simpa using hk) (by simpa using hn)).step fun v K2 hh => ?_
  obtain ⟨rfl, fr', o3, hr3⟩ := hh
  rw [List.length_map] at hr3
  simp
  rw [hR]
  exact ⟨by simp, u, x, bo, wo, vs, fr', rfl, o3, hu, hx, hr3⟩
theorem map_id2 (L : List (List BV)) : L.map (fun xs => xs.map fun c => c) = L := by simp
theorem held_rel {H K : BH} {T S : Int} {k n p w : Nat} {m : BV} {Z : List Sl} (h : MkQ base H K T S k n p w m Z) (hk : k + n + p * w ≤ 1000000000) (hn : p ≤ 1000000000) :
    FnDoes (gam base) 22 [m, encN k] K fun v _ => v = encN (k + n + p * w) := by
  refine FnDoes.of (fn := ir22) rfl ?_
  obtain ⟨u, x, bo, wo, vs, fr, rfl, o, hu, hx, hr⟩ := h
  have u1 := hu.one
  have x1 := hx.one
  have o' : Own base H K ((bo, .arr 4 (mkB k n)) :: (wo, .arr 37 vs) :: fr) := o.sub (.cons_cons _ (.cons_cons _ (List.sublist_append_left _ _)))
  have hb := o'.rd 0 rfl (by rw [mkB_len]; exact hu)
  have hrr : RdR K 37 2 x (fun c => c) ((List.range p).map (fun i => mkI (k + n + i * w) w)) := RowsOf.rdR (bo := wo) (F := [(bo, .arr 4 (mkB k n)), (wo, .arr 37 vs)]) o' (by rw [map_id2]; exact hr) (o'.rd 1 rfl hx)
  simp [ir22, u1, x1]
  intro n1 b1 f1
  have o1 := Own.start (base := base) (H := K) |>.new f1 b1 (s := .arr 29 [.int .i64 T, .int .i64 S, u, x])
  have r2 := rd_ptr (o1.at 0 (b := n1) rfl) (rt := none) (j := 2) (c := u) rfl rfl
  have r3 := rd_ptr (o1.at 0 (b := n1) rfl) (rt := none) (j := 3) (c := x) rfl rfl
  simp [make_of f1 b1, r2]
  refine callP (held_bools n k (hb.keeps o1.keeps) (by omega)) ?_
  have h1 : ¬ ((k : Int) + (n : Int) < 0) := by omega
  simp [h1, r3]
  have hh := held_rows (base := base) p (k + n) w (hrr.keeps o1.keeps) (by omega) hn
  refine callP hh ?_
  have h2 : ¬ ((k : Int) + (n : Int) + (p : Int) * (w : Int) < 0) := by
    have : (0 : Int) ≤ (p : Int) * (w : Int) := Int.mul_nonneg (by omega) (by omega)
    omega
  simp [h2]
  exact o1.keeps
/-- What a law's result is. -/
def resQ (t : Nat) (r : Option Aut × Nat) : Raw4 := match r.1 with
  | some A => (t, 0, A.acc, A.nxt.map (·.map fun (q : Nat) => (q : Int)))
  | none => (0, 0, [], [])
def OwnR (base : Nat) (H K : BH) (r : Raw4) (m : BV) (Z : List Sl) : Prop := OwnQ base H K r.1 r.2.1 r.2.2.1 r.2.2.2 m Z
theorem OwnRel.ownQ {H K : BH} {t s : Nat} {A : Aut} {m : BV} (h : OwnRel base H K t s A m) : OwnQ base H K t s A.acc (A.nxt.map (·.map fun (q : Nat) => (q : Int))) m [] := by
  obtain ⟨u, w, bo, wo, vs, fr, e, o, hu, hw, hr⟩ := h
  refine ⟨u, w, bo, wo, vs, fr, e, by simpa using o, hu, hw, ?_⟩
  have : (A.nxt.map (·.map fun (q : Nat) => (q : Int))).map (·.map encI) = A.nxt.map (·.map encN) := by
    rw [List.map_map]
    exact List.map_congr_left fun r _ => by simp [Function.comp_def]
  rw [this]
  exact hr
theorem RelR.ownR {H K : BH} {t : Nat} {r : Option Aut × Nat} {v : BV} (h : RelR base H t r v K) (k : H.Keeps K) : ∃ m, v = .tup [m, encN r.2] ∧ OwnR base H K (resQ t r) m [] := by
  obtain ⟨a, c⟩ := r
  cases a with
  | some A =>
    obtain ⟨m, e, ho⟩ := h
    exact ⟨m, e, ho.ownQ⟩
  | none =>
    refine ⟨_, h, .nils, .nils, none, none, [], [], rfl, ?_, Vec.none, Vec.none, trivial⟩
    exact ((Own.of (base := base) k).nil _).nil _
end Go.Proofs.YtcnkhkmapgbodaaDoor.W
end

section
namespace Go.Proofs.YtcnkhkmapgbodaaDoor.W
set_option linter.unusedVariables false
set_option linter.unusedSimpArgs false
open Go.B
variable {base : Nat}
attribute [local simp] wpC_skip wpC_region wpC_seq wpC_true wpC_false wpC_block wpC_exit wpC_ret wpO_nil wpO_n wpO_tt wpO_ff wpO_tf wpO_ft wpO_u wpS_mov wpS_pick wpS_build wpS_load wpS_store wpS_nilck wpS_bin wpS_beq wpS_isnil wpS_eqs wpS_not wpS_neg wpS_conv wpS_lea wpS_fld wpS_idx wpS_idxs wpS_slice wpS_sslice wpS_mkfn wpS_mset wpS_look wpS_ext wpS_len wpS_new wpS_box wpS_mk wpS_mkmap wpS_mksl wpS_app wpS_fn wpS_call after_some pthen_n pthen_x pthen_r pin BExit.outOf puto_some puto_none put_eq put_ne Opd.ev argEnv op1_mov op1_pick op1_new op1_box op1_load op1_nilck op1_bin op1_beq op1_not op1_neg op1_conv op1_lea op1_fld op1_len0 op1_len1 op1_idx op1_ext op1_build op1_mk op1_stw op1_mksl op1_eqs pureBin isShift resOf resVals val_tmp val_cell oneOf one_int cells_int one_bool cells_bool one_str cells_str one_nilp cells_nilp one_ptr cells_ptr one_nils cells_nils one_sl cells_sl one_sle cells_sle one_nilm cells_nilm one_mp cells_mp one_nilf cells_nilf one_fn cells_fn one_nili cells_nili cells_agg isSl_sl slen_sl sat_sl make_of asm rtOk wpS_b2s op1_b2s wpS_imax op1_imax wpS_imin op1_imin wpS_i2s op1_i2s op1_isnil Option.map_some gam_base op1_app op1_idxs wpS_idxa op1_idxa op1_sslice bound_none bound_some nat_of op1_mkmap op1_mset op1_look op1_len2 op1_mkfn Go.B.fillB Has


def abAt (w : ByteArray) (i : Nat) : Bool := match w[i]? with | some b => b.toNat == 97 || b.toNat == 98 | none => false
def pre (w : ByteArray) (n : Nat) : Bool := (List.range n).all (abAt w)
theorem pre_succ (w : ByteArray) (n : Nat) : pre w (n + 1) = (pre w n && abAt w n) := by simp [pre, List.range_succ]
theorem pre_at {w : ByteArray} {n i : Nat} (h : pre w n = true) (hi : i < n) : abAt w i = true := by
  simp only [pre, List.all_eq_true] at h
  exact h i (by simpa using hi)
theorem pre_not {w : ByteArray} {n i : Nat} (h : abAt w i = false) (hi : i < n) : pre w n = false := by
  cases q : pre w n
  · rfl
  · rw [pre_at q hi] at h; cases h

theorem s_wordB (w : ByteArray) (H : BH) (hs : w.size ≤ 1048576) : Runs (gam base) 104 [.str w] H (.bool (pre w w.size && decide (w.size ≤ 40))) H := by
  refine runs_of (fn := ir104) rfl ?_
  simp [ir104]
  refine wpC_count w.size (fun i e K => e 0 = .str w ∧ e 3 = .int .i64 i ∧ K = H ∧ pre w i = true) (i0 := 0) ?_ (Nat.zero_le _) ?_
  · exact ⟨rfl, rfl, rfl, rfl⟩
  · rintro i e K hi ⟨e0, e3, rfl, hp⟩
    by_cases hlt : i < w.size
    · have hb : w[i]? = some w[i] := getElem?_pos w i hlt
      have w1 : IntKind.i64.wrap ((i : Int) + 1) = (i : Int) + 1 := w64 (by omega) (by omega)
      have hat : abAt w i = (w[i].toNat == 97 || w[i].toNat == 98) := by simp only [abAt, hb]
      by_cases q1 : (w[i].toNat : Int) = 97
      · simp [e0, e3, hlt, q1, w1]
        rw [pre_succ, hp, hat, show w[i].toNat = 97 by omega]; rfl
      · by_cases q2 : (w[i].toNat : Int) = 98
        · have q1' : ((w[i].toNat : Int) != 97) = true := by simpa using q1
          simp [e0, e3, hlt, q1', q2, w1]
          rw [pre_succ, hp, hat, show w[i].toNat = 98 by omega]; rfl
        · have hn : pre w w.size = false := pre_not (i := i) (by rw [hat]; simp; omega) hlt
          have q1' : ((w[i].toNat : Int) != 97) = true := by simpa using q1
          have q2' : ((w[i].toNat : Int) != 98) = true := by simpa using q2
          simp [e0, e3, hlt, q1', q2', hn]
    · have : i = w.size := by omega
      subst this
      simp [e0, e3, hp]
      omega



/-- The set of bytes, when i letters of "ab" are in. -/
def tabAt : Nat → List BV
  | 0 => List.replicate 256 (.bool false)
  | 1 => (List.replicate 256 (.bool false)).set 97 (.bool true)
  | _ => ((List.replicate 256 (.bool false)).set 97 (.bool true)).set 98 (.bool true)
def tab : List BV := tabAt 2
theorem tabAt_len (i : Nat) : (tabAt i).length = 256 := by
  match i with
  | 0 => exact List.length_replicate
  | 1 => exact (List.length_set ..).trans List.length_replicate
  | _ + 2 => exact (List.length_set ..).trans ((List.length_set ..).trans List.length_replicate)
theorem tab_len : tab.length = 256 := tabAt_len 2
theorem tab_one : tab.all BV.one = true := by decide +kernel
theorem tab_get {b : Nat} (h : b < 256) : tab[b]? = some (.bool (b == 97 || b == 98)) := by
  simp only [tab, tabAt, List.getElem?_set, List.getElem?_replicate, List.length_set, List.length_replicate]
  by_cases h1 : b = 98
  · subst h1; rfl
  · by_cases h2 : b = 97
    · subst h2; rfl
    · have h1' : ¬ 98 = b := fun e => h1 e.symm
      have h2' : ¬ 97 = b := fun e => h2 e.symm
      rw [if_neg h1', if_neg h2', if_pos h]
      simp [h1, h2]
theorem rd_tab {H : BH} {p b : Nat} (hr : H.row p = .arr 144 tab) (h : b < 256) : H.rd none none (.ptr p b) = some (.bool (b == 97 || b == 98)) := by
  have hd : (tab.drop b).take 1 = [.bool (b == 97 || b == 98)] := by
    rw [List.take_one, List.head?_drop, tab_get h]; rfl
  simp only [BH.rd, hr, rtOk, Option.getD_none, tab_len, hd, asm, List.head?_cons]
  rw [if_pos ⟨trivial, by omega⟩]
theorem rd_tabs {H : BH} {p : Nat} {rt : Option Nat} (hr : H.row p = .arr 144 tab) (h : rtOk rt 144 = true) : H.rd rt (some 256) (.ptr p 0) = some (.agg tab) := by
  have hd : (tab.drop 0).take 256 = tab := List.take_of_length_le (by rw [List.drop_zero, tab_len]; omega)
  simp only [BH.rd, hr, h, Option.getD_some, tab_len, hd, asm]
  rw [if_pos ⟨trivial, by omega⟩]

theorem x_contains (p : Nat) (b : UInt8) (H : BH) (hr : H.row p = .arr 144 tab) : Runs (gam base) 134 [.ptr p 0, .int .u8 b.toNat] H (.bool (b.toNat == 97 || b.toNat == 98)) H := by
  refine runs_of (fn := ir134) rfl ?_
  have hb : b.toNat < 256 := b.toNat_lt
  have hb' : (b.toNat : Int) < 256 := by omega
  simp [ir134, hb, hb', rd_tab hr hb]

set_option maxRecDepth 100000 in
theorem x_mkset (H : BH) : ∃ H', Runs (gam base) 128 [.str ⟨#[97, 98]⟩] H (.tup [.agg tab, .bool true]) H' ∧ H.Keeps H' := by
  obtain ⟨v, H', h1, h2, h3⟩ : ∃ v H', Runs (gam base) 128 [.str ⟨#[97, 98]⟩] H v H' ∧ v = .tup [.agg tab, .bool true] ∧ H.Keeps H' := by
    refine call_of_wp (fn := ir128) (R := fun v H' => v = .tup [.agg tab, .bool true] ∧ H.Keeps H') rfl ?_
    have sz : (⟨#[97, 98]⟩ : ByteArray).size = 2 := rfl
    obtain ⟨x0, g0, u0⟩ : ∃ x : UInt8, (⟨#[97, 98]⟩ : ByteArray)[0]? = some x ∧ x.toNat = 97 := ⟨97, rfl, rfl⟩
    obtain ⟨x1, g1, u1⟩ : ∃ x : UInt8, (⟨#[97, 98]⟩ : ByteArray)[1]? = some x ∧ x.toNat = 98 := ⟨98, rfl, rfl⟩
    generalize (⟨#[97, 98]⟩ : ByteArray) = w at sz g0 g1
    have u0 : ∀ h, (w[0]'h).toNat = 97 := fun h => by rw [getElem?_pos w 0 h] at g0; cases g0; exact u0
    have u1 : ∀ h, (w[1]'h).toNat = 98 := fun h => by rw [getElem?_pos w 1 h] at g1; cases g1; exact u1
    simp only [ir128, wpC_seq, wpC_region, wpO_n, wpS_new]
    intro nb hb hf
    have hb : base ≤ nb := hb
    simp only [op1_new, gam_base, make_of hf hb, Option.map_some, after_some]
    have key : ∀ i, H.Keeps (H.set nb (.arr 144 (tabAt i))) := fun i => BH.keeps_set _ hf
    simp
    refine wpC_count 2 (fun i e K => e 0 = .str w ∧ e 2 = .ptr nb 0 ∧ e 4 = .int .i64 i ∧ K = H.set nb (.arr 144 (tabAt i))) (i0 := 0) ?_ (Nat.zero_le _) ?_
    · exact ⟨rfl, by simp, rfl, rfl⟩
    · rintro i e K hi ⟨e0, e2, e4, rfl⟩
      have hcase : i = 0 ∨ i = 1 ∨ i = 2 := by omega
      rcases hcase with rfl | rfl | rfl
      · have hwr : (H.set nb (.arr 144 (tabAt 0))).wr base none 1 (.ptr nb 97) (.bool true) = some (H.set nb (.arr 144 (tabAt 1))) := by
          rw [wr_row (rt := none) (n := 1) (v := .bool true) (BH.row_set_eq _ _ _) rfl hb rfl (by rw [tabAt_len]; omega) rfl]
          refine congrArg some (BH.ext fun c => ?_)
          simp only [BH.row_set]; split <;> rfl
        have w1 : IntKind.i64.wrap 1 = 1 := rfl
        simp [e0, e2, e4, sz, u0, hwr, w1]
      · have hwr : (H.set nb (.arr 144 (tabAt 1))).wr base none 1 (.ptr nb 98) (.bool true) = some (H.set nb (.arr 144 (tabAt 2))) := by
          rw [wr_row (rt := none) (n := 1) (v := .bool true) (BH.row_set_eq _ _ _) rfl hb rfl (by rw [tabAt_len]; omega) rfl]
          refine congrArg some (BH.ext fun c => ?_)
          simp only [BH.row_set]; split <;> rfl
        have w1 : IntKind.i64.wrap 2 = 2 := rfl
        simp [e0, e2, e4, sz, u1, hwr, w1]
      · have hr : (H.set nb (.arr 144 (tabAt 2))).row nb = .arr 144 tab := BH.row_set_eq _ _ _
        have hwr : (H.set nb (.arr 144 (tabAt 2))).wr base none 256 (.ptr nb 0) (.agg tab) = some (H.set nb (.arr 144 (tabAt 2))) := by
          rw [wr_row (rt := none) (n := 256) (v := .agg tab) hr rfl hb tab_len (by rw [tab_len]; omega) tab_one]
          refine congrArg some (BH.ext fun c => ?_)
          simp only [BH.row_set]; split <;> rfl
        have hrd := rd_tabs (rt := none) hr rfl
        simp [e0, e2, e4, sz, hrd, hwr]
        exact key 2
  subst h2
  exact ⟨H', h1, h3⟩

theorem ext_full (w : ByteArray) : w.extract 0 w.size = w := by
  have hd : (w.extract 0 w.size).data = w.data := by
    rw [ByteArray.data_extract]
    exact Array.extract_size
  cases w
  exact congrArg _ hd
theorem ext_get {w : ByteArray} {a b i : Nat} (hb : b ≤ w.size) (hi : a + i < b) : (w.extract a b)[i]? = w[a + i]? := by
  have h1 : i < (w.extract a b).size := by rw [ByteArray.size_extract]; omega
  have h2 : a + i < w.size := by omega
  rw [getElem?_pos (w.extract a b) i h1, getElem?_pos w (a + i) h2, ByteArray.getElem_extract]
theorem ext_ext {w : ByteArray} {a b i j : Nat} (hij : a + j ≤ b) : (w.extract a b).extract i j = w.extract (a + i) (a + j) := by
  rw [ByteArray.extract_extract, Nat.min_eq_left hij]
theorem ext_size {w : ByteArray} {a b : Nat} (hb : b ≤ w.size) : (w.extract a b).size = b - a := by rw [ByteArray.size_extract]; omega

theorem x_trimR (w : ByteArray) (p : Nat) (H : BH) (hs : w.size ≤ 1048576) (hr : H.row p = .arr 144 tab) :
    ∃ m, Runs (gam base) 130 [.str w, .ptr p 0] H (.str (w.extract 0 m)) H ∧ m ≤ w.size ∧ (∀ j, m ≤ j → j < w.size → abAt w j = true) ∧ (m = 0 ∨ abAt w (m - 1) = false) := by
  obtain ⟨v, H', h1, rfl, m, rfl, h2⟩ : ∃ v H', Runs (gam base) 130 [.str w, .ptr p 0] H v H' ∧ H' = H ∧ ∃ m, v = .str (w.extract 0 m) ∧ m ≤ w.size ∧ (∀ j, m ≤ j → j < w.size → abAt w j = true) ∧ (m = 0 ∨ abAt w (m - 1) = false) := by
    refine call_of_wp (fn := ir130) (R := fun v H' => H' = H ∧ ∃ m, v = .str (w.extract 0 m) ∧ m ≤ w.size ∧ (∀ j, m ≤ j → j < w.size → abAt w j = true) ∧ (m = 0 ∨ abAt w (m - 1) = false)) rfl ?_
    simp [ir130]
    refine wpC_count w.size (fun i e K => e 0 = .str (w.extract 0 (w.size - i)) ∧ e 1 = .ptr p 0 ∧ K = H ∧ ∀ j, w.size - i ≤ j → j < w.size → abAt w j = true) (i0 := 0) ?_ (Nat.zero_le _) ?_
    · refine ⟨?_, rfl, rfl, fun j h1 h2 => by omega⟩
      simp [ext_full]
    · rintro i e K hi ⟨e0, e1, rfl, hab⟩
      obtain ⟨m, hm⟩ : ∃ m, m = w.size - i := ⟨_, rfl⟩
      rw [← hm] at e0 hab
      have hsz : (w.extract 0 m).size = m := by rw [ext_size (by omega)]; omega
      by_cases h0 : 0 < m
      · have h0' : (0 : Int) < m := by omega
        have hc : (w.extract 0 m)[m - 1]? = w[m - 1]? := by rw [ext_get (by omega) (by omega)]; simp
        have hb : w[m - 1]? = some (w[m - 1]'(by omega)) := getElem?_pos w _ (by omega)
        have hat : abAt w (m - 1) = ((w[m - 1]'(by omega)).toNat == 97 || (w[m - 1]'(by omega)).toNat == 98) := by simp only [abAt, hb]
        rw [hb] at hc
        generalize (w[m - 1]'(by omega)) = b at hat hc
        have w1 : IntKind.i64.wrap ((m : Int) - 1) = ((m - 1 : Nat) : Int) := by rw [w64 (by omega) (by omega)]; omega
        have hex : (w.extract 0 m).extract 0 (m - 1) = w.extract 0 (m - 1) := by rw [ext_ext (by omega)]; simp
        obtain ⟨x, hx⟩ : ∃ x, w.extract 0 m = x := ⟨_, rfl⟩
        rw [hx] at e0 hsz hc hex
        simp [e0, e1, hsz, h0, h0', w1, hc]
        refine ⟨_, K, x_contains p b K hr, BH.KeepsTys.nil _ _, ?_⟩
        cases q : (b.toNat == 97 || b.toNat == 98)
        · rw [q] at hat
          simp only [Bool.or_eq_false_iff] at q
          simp [e0, e1, q]
          exact ⟨m, hx.symm, by omega, hab, .inr hat⟩
        · rw [q] at hat
          have hle : m - 1 ≤ x.size := by omega
          simp [e0, e1, q, hsz, w1, hex]
          refine ⟨by omega, ?_, fun j h1 h2 => ?_⟩
          · rw [show w.size - (i + 1) = m - 1 by omega]
          · by_cases hj : j = m - 1
            · rw [hj]; exact hat
            · exact hab j (by omega) h2
      · have h00 : m = 0 := by omega
        rw [h00] at hsz e0 hab
        simp [e0, e1, hsz]
        exact ⟨0, by simp, by omega, hab, .inl rfl⟩
  exact ⟨m, h1, h2⟩

theorem x_trimL (w : ByteArray) (p : Nat) (H : BH) (hs : w.size ≤ 1048576) (hr : H.row p = .arr 144 tab) :
    ∃ m, Runs (gam base) 129 [.str w, .ptr p 0] H (.str (w.extract m w.size)) H ∧ m ≤ w.size ∧ (∀ j, j < m → abAt w j = true) ∧ (m = w.size ∨ abAt w m = false) := by
  obtain ⟨v, H', h1, rfl, m, rfl, h2⟩ : ∃ v H', Runs (gam base) 129 [.str w, .ptr p 0] H v H' ∧ H' = H ∧ ∃ m, v = .str (w.extract m w.size) ∧ m ≤ w.size ∧ (∀ j, j < m → abAt w j = true) ∧ (m = w.size ∨ abAt w m = false) := by
    refine call_of_wp (fn := ir129) (R := fun v H' => H' = H ∧ ∃ m, v = .str (w.extract m w.size) ∧ m ≤ w.size ∧ (∀ j, j < m → abAt w j = true) ∧ (m = w.size ∨ abAt w m = false)) rfl ?_
    simp [ir129]
    refine wpC_count w.size (fun i e K => e 0 = .str (w.extract i w.size) ∧ e 1 = .ptr p 0 ∧ K = H ∧ ∀ j, j < i → abAt w j = true) (i0 := 0) ?_ (Nat.zero_le _) ?_
    · refine ⟨?_, rfl, rfl, fun j h1 => by omega⟩
      simp [ext_full]
    · rintro i e K hi ⟨e0, e1, rfl, hab⟩
      have hsz : (w.extract i w.size).size = w.size - i := ext_size (by omega)
      by_cases h0 : i < w.size
      · have h0' : (0 : Int) < ((w.size - i : Nat) : Int) := by omega
        have hc : (w.extract i w.size)[0]? = w[i]? := by rw [ext_get (by omega) (by omega)]; simp
        have hb : w[i]? = some w[i] := getElem?_pos w _ (by omega)
        have hat : abAt w i = (w[i].toNat == 97 || w[i].toNat == 98) := by simp only [abAt, hb]
        rw [hb] at hc
        generalize w[i] = b at hat hc
        have hex : (w.extract i w.size).extract 1 (w.size - i) = w.extract (i + 1) w.size := by rw [ext_ext (by omega), show i + (w.size - i) = w.size by omega]
        have hle : 1 ≤ w.size - i := by omega
        obtain ⟨x, hx⟩ : ∃ x, w.extract i w.size = x := ⟨_, rfl⟩
        rw [hx] at e0 hsz hc hex
        obtain ⟨m, hm⟩ : ∃ m, w.size - i = m := ⟨_, rfl⟩
        rw [hm] at hsz hex hle h0'
        have h0i : (0 : Int) < m := by omega
        have hc' : ∀ h, (x[0]'h) = b := fun h => by rw [getElem?_pos x 0 h] at hc; cases hc; rfl
        have h0n : 0 < m := hle
        simp [e0, e1, hsz, h0n, hc']
        refine ⟨_, K, x_contains p b K hr, BH.KeepsTys.nil _ _, ?_⟩
        cases q : (b.toNat == 97 || b.toNat == 98)
        · rw [q] at hat
          simp only [Bool.or_eq_false_iff] at q
          simp [e0, e1, q]
          exact ⟨i, hx.symm, by omega, hab, .inr hat⟩
        · rw [q] at hat
          simp [e0, e1, q, hsz, hex, hle, h0]
          refine fun j h1 => ?_
          by_cases hj : j = i
          · rw [hj]; exact hat
          · exact hab j (by omega)
      · have h00 : i = w.size := by omega
        subst h00
        rw [Nat.sub_self] at hsz
        simp [e0, e1, hsz]
        exact ⟨w.size, by simp, by omega, hab, .inl rfl⟩
  exact ⟨m, h1, h2⟩


theorem listEmpty (w : ByteArray) : w.toList = [] ↔ w.size = 0 := by
  rw [ByteArray.toList_eq]
  constructor
  · intro h
    have : w.data.toList.length = 0 := by rw [h]; rfl
    exact this
  · intro h
    exact List.eq_nil_of_length_eq_zero h
theorem abStr : (⟨#[97, 98]⟩ : ByteArray).toList = [97, 98] := by rw [ByteArray.toList_eq]
theorem noStr : (⟨#[]⟩ : ByteArray).toList = [] := by rw [ByteArray.toList_eq]

theorem trim_all {w : ByteArray} {m k : Nat} (hm : m ≤ w.size) (h1 : ∀ j, m ≤ j → j < w.size → abAt w j = true) (h2 : m = 0 ∨ abAt w (m - 1) = false)
    (hk : k ≤ (w.extract 0 m).size) (h3 : ∀ j, j < k → abAt (w.extract 0 m) j = true) (h4 : k = (w.extract 0 m).size ∨ abAt (w.extract 0 m) k = false) :
    (((w.extract 0 m).extract k (w.extract 0 m).size).toList == []) = pre w w.size := by
  have hsz : (w.extract 0 m).size = m := by rw [ext_size hm]; omega
  rw [hsz] at hk h4 ⊢
  have hat : ∀ j, j < m → abAt (w.extract 0 m) j = abAt w j := fun j hj => by
    simp only [abAt]
    rw [ext_get hm (by omega), Nat.zero_add]
  have hs2 : ((w.extract 0 m).extract k m).size = m - k := by rw [ext_size (by omega)]
  have hi : ((((w.extract 0 m).extract k m).toList == []) = true) ↔ m = k := by
    rw [beq_iff_eq, listEmpty, hs2]; omega
  cases q : pre w w.size
  · rw [Bool.eq_false_iff]
    intro hh
    have hmk := hi.1 hh
    have : pre w w.size = true := by
      simp only [pre, List.all_eq_true]
      intro j hj
      have hj : j < w.size := by simpa using hj
      by_cases hjm : j < m
      · rw [← hat j hjm]; exact h3 j (by omega)
      · exact h1 j (by omega) hj
    rw [q] at this
    cases this
  · rw [hi]
    rcases h2 with h2 | h2
    · omega
    · by_cases h0 : m = 0
      · omega
      · rw [pre_at q (by omega)] at h2; cases h2

set_option maxRecDepth 100000 in
theorem x_trim (w : ByteArray) (H : BH) (hs : w.size ≤ 1048576) : ∃ r, Gives (gam base) 121 [.str w, .str ⟨#[97, 98]⟩] H (.str r) ∧ (r.toList == []) = pre w w.size := by
  have sz : (⟨#[97, 98]⟩ : ByteArray).size = 2 := rfl
  by_cases hw : w.size = 0
  · refine ⟨w, gives_of (fn := ir121) rfl ?_, ?_⟩
    · have hl := (listEmpty w).2 hw
      simp [ir121, hl, noStr]
      exact BH.Keeps.refl H
    · rw [(listEmpty w).2 hw, hw]; rfl
  · have hl : ¬ w.toList = [] := fun h => hw ((listEmpty w).1 h)
    obtain ⟨v, H', h1, r, rfl, h2, h3⟩ : ∃ v H', Runs (gam base) 121 [.str w, .str ⟨#[97, 98]⟩] H v H' ∧ ∃ r, v = .str r ∧ (r.toList == []) = pre w w.size ∧ H.Keeps H' := by
      refine call_of_wp (fn := ir121) (R := fun v H' => ∃ r, v = .str r ∧ (r.toList == []) = pre w w.size ∧ H.Keeps H') rfl ?_
      have hl' : (w.toList == []) = false := by simpa using hl
      have hne : ((⟨#[97, 98]⟩ : ByteArray).toList == []) = false := by rw [abStr]; rfl
      simp [ir121, hl', noStr, hne, sz]
      obtain ⟨H1, r1, k1⟩ := x_mkset (base := base) H
      refine ⟨_, H1, r1, BH.KeepsTys.nil _ _, ?_⟩
      simp
      intro nb hb hf
      simp only [make_of hf hb, Option.map_some, after_some]
      have hrow : ∀ zs : List BV, zs.length = 256 → (H1.set nb (.arr 144 zs)).wr base none 256 (.ptr nb 0) (.agg tab) = some (H1.set nb (.arr 144 tab)) := by
        intro zs hz
        rw [wr_row (rt := none) (n := 256) (v := .agg tab) (BH.row_set_eq _ _ _) rfl hb tab_len (by rw [hz]; omega) tab_one]
        refine congrArg some (BH.ext fun c => ?_)
        have hd : zs.take 0 ++ (BV.agg tab).cells ++ zs.drop (0 + 256) = tab := by
          rw [List.drop_eq_nil_of_le (by omega)]
          show [] ++ tab ++ [] = tab
          rw [List.append_nil, List.nil_append]
        rw [hd]
        simp only [BH.row_set]; split <;> rfl
      have hr2 : (H1.set nb (.arr 144 tab)).row nb = .arr 144 tab := BH.row_set_eq _ _ _
      obtain ⟨m, r2, hm, g1, g2⟩ := x_trimR (base := base) w nb _ hs hr2
      have hsz : (w.extract 0 m).size = m := by rw [ext_size hm]; omega
      obtain ⟨k, r3, hk, g3, g4⟩ := x_trimL (base := base) (w.extract 0 m) nb _ (by omega) hr2
      simp [hrow]
      refine ⟨_, _, r2, BH.KeepsTys.nil _ _, ?_⟩
      simp
      refine ⟨_, _, r3, BH.KeepsTys.nil _ _, ?_⟩
      simp
      have ht := trim_all hm g1 g2 hk g3 g4
      rw [hsz] at ht
      refine ⟨?_, k1.set (k1.fresh hf) _⟩
      rw [← ht, Nat.min_eq_left hm]
      generalize (((w.extract 0 m).extract k m).toList) = l
      cases l <;> rfl
    exact ⟨r, ⟨H', h1, h3⟩, h2⟩

theorem i_wordB (w : ByteArray) (H : BH) (hs : w.size ≤ 1048576) : Gives (gam base) 105 [.str w] H (.bool (pre w w.size && decide (w.size ≤ 40))) := by
  refine gives_of (fn := ir105) rfl ?_
  by_cases h : w.size ≤ 40
  · have h' : (w.size : Int) ≤ 40 := by omega
    obtain ⟨r, ⟨H1, r1, k1⟩, hr⟩ := x_trim (base := base) w H hs
    simp [ir105, h, h']
    refine ⟨_, H1, r1, BH.KeepsTys.nil _ _, ?_⟩
    simp [noStr]
    exact ⟨by rw [← hr]; simp, k1⟩
  · have h' : ¬ (w.size : Int) ≤ 40 := by omega
    simp [ir105, h, h']
    exact BH.Keeps.refl H
end Go.Proofs.YtcnkhkmapgbodaaDoor.W
end

section
namespace Go.Proofs.YtcnkhkmapgbodaaDoor.W
set_option linter.unusedVariables false
set_option linter.unusedSimpArgs false
open Go.B
variable {base : Nat}
attribute [local simp] wpC_skip wpC_region wpC_seq wpC_true wpC_false wpC_block wpC_exit wpC_ret wpO_nil wpO_n wpO_tt wpO_ff wpO_tf wpO_ft wpO_u wpS_mov wpS_pick wpS_build wpS_load wpS_store wpS_nilck wpS_bin wpS_beq wpS_isnil wpS_eqs wpS_not wpS_neg wpS_conv wpS_lea wpS_fld wpS_idx wpS_idxs wpS_slice wpS_sslice wpS_mkfn wpS_mset wpS_look wpS_ext wpS_len wpS_new wpS_box wpS_mk wpS_mkmap wpS_mksl wpS_app wpS_fn wpS_call after_some pthen_n pthen_x pthen_r pin BExit.outOf puto_some puto_none put_eq put_ne Opd.ev argEnv op1_mov op1_pick op1_new op1_box op1_load op1_nilck op1_bin op1_beq op1_not op1_neg op1_conv op1_lea op1_fld op1_len0 op1_len1 op1_idx op1_ext op1_build op1_mk op1_stw op1_mksl op1_eqs pureBin isShift resOf resVals val_tmp val_cell oneOf one_int cells_int one_bool cells_bool one_str cells_str one_nilp cells_nilp one_ptr cells_ptr one_nils cells_nils one_sl cells_sl one_sle cells_sle one_nilm cells_nilm one_mp cells_mp one_nilf cells_nilf one_fn cells_fn one_nili cells_nili cells_agg isSl_sl slen_sl sat_sl make_of asm rtOk wpS_b2s op1_b2s wpS_imax op1_imax wpS_imin op1_imin wpS_i2s op1_i2s op1_isnil Option.map_some gam_base op1_app op1_idxs wpS_idxa op1_idxa op1_sslice bound_none bound_some nat_of op1_mkmap op1_mset op1_look op1_len2 op1_mkfn Go.B.fillB Has
open Go.Au
theorem strL_pre {w : List Nat} (h : IsW w) : pre (strL w) (strL w).size = true := by
  unfold pre
  simp only [List.all_eq_true, List.mem_range]
  intro i hi
  rw [strL_size] at hi
  have := h.get hi
  unfold abAt
  rw [str_get hi h]
  simp only [u8_let this, Bool.or_eq_true, beq_iff_eq]
  exact this
theorem i_wordOk (w : List Nat) (H : BH) (hw : IsW w) (hl : w.length ≤ 40) : FnDoes (gam base) 105 [encW w] H fun v _ => v = .bool true := by
  obtain ⟨K, h1, h2⟩ := i_wordB (base := base) (strL w) H (by rw [strL_size]; omega)
  refine ⟨_, K, h1, h2, ?_⟩
  rw [strL_pre hw, strL_size]
  simp [hl]
theorem s_wordOk (w : List Nat) (H : BH) (hw : IsW w) (hl : w.length ≤ 40) : Runs (gam base) 104 [encW w] H (.bool true) H := by
  have h1 := s_wordB (base := base) (strL w) H (by rw [strL_size]; omega)
  rw [strL_pre hw, strL_size] at h1
  simpa [hl] using h1
theorem i_wordsOk (ws : List (List Nat)) (v : BV) (H : BH) (h : Rd H 9 v (ws.map encW)) (hw : ∀ w ∈ ws, IsW w ∧ w.length ≤ 40) (hn : ws.length ≤ 1000000) : FnDoes (gam base) 77 [v] H fun u _ => u = .bool true := by
  refine FnDoes.of (fn := ir77) rfl ?_
  simp [ir77, h.isSl, h.lenM]
  refine wpC_countK ws.length [(5, v), (6, encN ws.length)] (fun i e K => e 7 = encN i ∧ H.Keeps K) (i0 := 0) rfl ?_ ?_ (Nat.zero_le _) ?_
  · simp
  · exact ⟨by simp, BH.Keeps.refl H⟩
  rintro i e K hi ⟨e5, e6, -⟩ ⟨e7, k⟩
  simp only [] at e5 e6
  have wi := wS (n := i) (by omega)
  by_cases hlt : i < ws.length
  · have g1 := (h.keeps k).at (i := i) hlt (rt := none) rfl
    obtain ⟨a1, a2⟩ := hw _ (List.getElem_mem hlt)
    simp [e5, e6, e7, hlt, h.isSl, h.lenM, g1]
    refine (i_wordOk (base := base) _ K a1 a2).step fun v2 K2 k2 hv => ?_
    subst hv
    simp [e7, wi, hlt]
    exact k.trans k2
  · have hie : i = ws.length := by omega
    subst hie
    simp [e6, e7]
    exact k
theorem s_wordsOk (ws : List (List Nat)) (v : BV) (H : BH) (h : Rd H 9 v (ws.map encW)) (hw : ∀ w ∈ ws, IsW w ∧ w.length ≤ 40) (hn : ws.length ≤ 1000000) : Runs (gam base) 73 [v] H (.bool true) H := by
  refine runs_of (fn := ir73) rfl ?_
  simp [ir73]
  refine wpC_countK ws.length [(0, v)] (fun i e K => e 3 = encN i ∧ K = H) (i0 := 0) rfl ?_ ?_ (Nat.zero_le _) ?_
  · simp
  · exact ⟨by simp, rfl⟩
  rintro i e K hi ⟨e0, -⟩ ⟨e3, rfl⟩
  simp only [] at e0
  have wi := wS (n := i) (by omega)
  by_cases hlt : i < ws.length
  · have g1 := h.at (i := i) hlt (rt := none) rfl
    obtain ⟨a1, a2⟩ := hw _ (List.getElem_mem hlt)
    simp [e0, e3, hlt, h.isSl, h.lenM, g1]
    refine callP (s_wordOk _ K a1 a2) ?_
    simp [e3, wi, hlt]
  · have hie : i = ws.length := by omega
    subst hie
    simp [e0, e3, h.isSl, h.lenM]
/-! ### maps of what is there -/
noncomputable instance memDec (s : ByteArray) (ks : List ByteArray) : Decidable (s ∈ ks) := Classical.propDecidable _
def trueEs (ks : List ByteArray) : List (BV × BV) := ks.map fun s => (BV.str s, BV.bool true)
theorem keyEq_str (a b : ByteArray) : keyEqM 1 (.str a) (.str b) = some (decide (a = b)) := by
  have h1 : keyEqM 1 (.str a) (.str b) = some (a == b) := rfl
  rw [h1]
  congr 1
  have h2 : (a == b) = (a.data == b.data) := rfl
  rw [h2]
  cases a with
  | mk x => cases b with
    | mk y =>
      by_cases h : x = y
      · subst h; simp
      · have : ¬ (⟨x⟩ : ByteArray) = ⟨y⟩ := fun e => h (by injection e)
        simp [h]
theorem true_set (s : ByteArray) : ∀ (ks : List ByteArray), mapSet 1 (trueEs ks) (.str s) (.bool true) = some (trueEs (addK ks s))
  | [] => by simp [trueEs, mapSet, addK]
  | k :: ks => by
    have ih := true_set s ks
    unfold trueEs at ih ⊢
    rw [List.map_cons, mapSet, keyEq_str]
    by_cases h : s = k
    · subst h
      simp [addK]
    · simp only [h, decide_false, ih, Option.map_some]
      unfold addK
      by_cases h2 : s ∈ ks
      · rw [if_pos h2, if_pos (List.mem_cons_of_mem _ h2)]
        rfl
      · rw [if_neg h2, if_neg (by simp [h, h2])]
        rfl
theorem true_get (s : ByteArray) : ∀ (ks : List ByteArray), mapGet 1 (trueEs ks) (.str s) = some (if s ∈ ks then some (.bool true) else none)
  | [] => by simp [trueEs, mapGet]
  | k :: ks => by
    have ih := true_get s ks
    unfold trueEs at ih ⊢
    rw [List.map_cons, mapGet, keyEq_str]
    by_cases h : s = k
    · subst h
      simp
    · simp only [h, decide_false, ih, List.mem_cons, false_or]
section
variable {H K : BH} {L : List Sl} {ks : List ByteArray} {b : Nat}
theorem _root_.Go.B.Own.msetT (o : Own base H K L) (i : Nat) (h : L[i]? = some (some b, .mp (trueEs ks))) (s : ByteArray) : ∃ K', K.msetv base 1 (.mp b) (.str s) (.bool true) = some K' ∧ Own base H K' (L.set i (some b, .mp (trueEs (addK ks s)))) := by
  obtain ⟨h1, h2, h3, h4⟩ := o.row _ (List.mem_of_getElem? h) b rfl
  refine ⟨_, ?_, o.upd i h (s' := .mp (trueEs (addK ks s)))⟩
  have hk : keyOk 1 (.str s) = true := rfl
  simp only [BH.msetv, h1, h2, hk, and_self, if_true, true_set, Option.map_some]
theorem lookT (h : K.row b = .mp (trueEs ks)) (s : ByteArray) : K.mlook 1 false (.bool false) (.mp b) (.str s) = some (.bool (decide (s ∈ ks))) := by
  have hk : keyOk 1 (.str s) = true := rfl
  simp only [BH.mlook, h, hk, if_true, true_get, Option.map_some]
  by_cases hm : s ∈ ks <;> simp [hm]
end
/-- The key of columns. -/
def keyS (cs : List Nat) : ByteArray := strL (cs.map (65 + ·))
theorem keyS_nil : keyS [] = ⟨#[]⟩ := rfl
theorem enc_col {c : Nat} (h : c < 26) : Utf8.encode (IntKind.i32.wrap (IntKind.i64.wrap (65 + (c : Int)))) = strL [65 + c] := by
  have key : ∀ c : Nat, c < 26 → Utf8.encode (IntKind.i32.wrap (IntKind.i64.wrap (65 + (c : Int)))) = strL [65 + c] := by decide +kernel
  exact key c h
theorem keyS_snoc (cs : List Nat) (c : Nat) : keyS cs ++ strL [65 + c] = keyS (cs ++ [c]) := by
  unfold keyS
  rw [strL_snoc, List.map_append]
  rfl
theorem keyS_size (cs : List Nat) : (keyS cs).size = cs.length := by simp [keyS, strL_size]
theorem strL_inj {xs ys : List Nat} (hx : ∀ x ∈ xs, x < 256) (hy : ∀ y ∈ ys, y < 256) (h : strL xs = strL ys) : xs = ys := by
  have h1 : (xs.map UInt8.ofNat).toArray = (ys.map UInt8.ofNat).toArray := congrArg ByteArray.data h
  have h2 : xs.map UInt8.ofNat = ys.map UInt8.ofNat := by simpa using h1
  have h3 : (xs.map UInt8.ofNat).map UInt8.toNat = (ys.map UInt8.ofNat).map UInt8.toNat := by rw [h2]
  rw [List.map_map, List.map_map] at h3
  have e : ∀ zs : List Nat, (∀ z ∈ zs, z < 256) → zs.map (UInt8.toNat ∘ UInt8.ofNat) = zs := by
    intro zs hz
    conv => rhs; rw [← List.map_id zs]
    refine List.map_congr_left fun z hz' => ?_
    have := hz z hz'
    simp [UInt8.toNat_ofNat', Nat.mod_eq_of_lt this]
  rw [e xs hx, e ys hy] at h3
  exact h3
theorem keyS_inj {w : Nat} (hw : w ≤ 26) {cs ds : List Nat} (h1 : In w cs) (h2 : In w ds) (h : keyS cs = keyS ds) : cs = ds := by
  have := strL_inj (xs := cs.map (65 + ·)) (ys := ds.map (65 + ·)) (fun x hx => by
    obtain ⟨c, hc, rfl⟩ := List.mem_map.1 hx
    have := h1 c hc
    omega) (fun x hx => by
    obtain ⟨c, hc, rfl⟩ := List.mem_map.1 hx
    have := h2 c hc
    omega) h
  exact List.map_inj_right (fun a b hab => by omega) |>.1 this
theorem keyS_dash {w : Nat} (hw : w ≤ 26) {cs : List Nat} (h1 : In w cs) : keyS cs ≠ ⟨#[45]⟩ := fun h => by
  have := strL_inj (xs := cs.map (65 + ·)) (ys := [45]) (fun x hx => by
    obtain ⟨c, hc, rfl⟩ := List.mem_map.1 hx
    have := h1 c hc
    omega) (fun x hx => by simp at hx; omega) h
  cases cs with
  | nil => simp at this
  | cons c cs => simp at this; omega
end Go.Proofs.YtcnkhkmapgbodaaDoor.W
end
