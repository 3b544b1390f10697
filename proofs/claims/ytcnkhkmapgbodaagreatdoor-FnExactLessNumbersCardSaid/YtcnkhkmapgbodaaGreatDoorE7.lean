/-
Texts of our own, put together: F4, F5, F6, F7, O1, X1.
-/
import Derived.Test.YtcnkhkmapgbodaaGreatDoorE6
import Derived.Lib.SmallJoins
import Derived.Deep.Grids
import Derived.Deep.Matrix
import Derived.ChangeArms
import Derived.KernelRfl
import Derived.Shelf.Strconv.Itoa3
import Derived.Shelf.Slices.Delete
import Derived.Shelf.Abstract
import Derived.Ground.NamesProg
import Derived.Ground.Names2Prog
section
namespace Go.Proofs.YtcnkhkmapgbodaaGreatDoor.W
set_option linter.unusedVariables false
set_option linter.unusedSimpArgs false
open Go.B
open Go.Au
variable {base : Nat}
attribute [local simp] wpC_skip wpC_region wpC_seq wpC_true wpC_false wpC_block wpC_exit wpC_ret wpO_nil wpO_n wpO_tt wpO_ff wpO_tf wpO_ft wpO_u wpS_mov wpS_pick wpS_build wpS_load wpS_store wpS_nilck wpS_bin wpS_beq wpS_isnil wpS_eqs wpS_not wpS_neg wpS_conv wpS_lea wpS_fld wpS_idx wpS_idxs wpS_slice wpS_sslice wpS_mkfn wpS_mset wpS_look wpS_ext wpS_len wpS_new wpS_box wpS_mk wpS_mkmap wpS_mksl wpS_app wpS_fn wpS_call after_some pthen_n pthen_x pthen_r pin BExit.outOf puto_some puto_none put_eq put_ne Opd.ev argEnv op1_mov op1_pick op1_new op1_box op1_load op1_nilck op1_bin op1_beq op1_not op1_neg op1_conv op1_lea op1_fld op1_len0 op1_len1 op1_idx op1_ext op1_build op1_mk op1_stw op1_mksl op1_eqs pureBin isShift resOf resVals val_tmp val_cell oneOf one_int cells_int one_bool cells_bool one_str cells_str one_nilp cells_nilp one_ptr cells_ptr one_nils cells_nils one_sl cells_sl one_sle cells_sle one_nilm cells_nilm one_mp cells_mp one_nilf cells_nilf one_fn cells_fn one_nili cells_nili cells_agg isSl_sl slen_sl sat_sl make_of asm rtOk wpS_b2s op1_b2s wpS_imax op1_imax wpS_imin op1_imin wpS_i2s op1_i2s op1_isnil Option.map_some gam_base op1_app op1_idxs wpS_idxa op1_idxa op1_sslice bound_none bound_some nat_of op1_mkmap op1_mset op1_look op1_len2 op1_mkfn Go.B.fillB Has
def mvI (k : Int) : Int := if k = oddI then 0 else k
def dZ (ks : List Int) : Int := if oddI ∈ ks then ((pos ks oddI : Nat) : Int) else -1
def fZ (ks : List Int) (l : Int) (n : Nat) : Int := if l ∈ ks.take n then ((pos ks l : Nat) : Int) else -1
theorem half_eq (d : Int) : (d - (d.tmod 2 + 2).tmod 2).tdiv 2 = d / 2 := by
  rcases Int.le_total 0 d with h | h
  · rw [Int.tmod_eq_emod_of_nonneg h, Int.tmod_eq_emod_of_nonneg (by omega)]
    rw [Int.tdiv_eq_ediv_of_nonneg (by omega)]
    omega
  · obtain ⟨n, rfl⟩ : ∃ n, d = -n := ⟨-d, by omega⟩
    rw [Int.neg_tmod, Int.tmod_eq_emod_of_nonneg (by omega : 0 ≤ n), Int.tmod_eq_emod_of_nonneg (by omega)]
    have e : -n - (-(n % 2) + 2) % 2 = -(n + (-(n % 2) + 2) % 2) := by omega
    rw [e, Int.neg_tdiv, Int.tdiv_eq_ediv_of_nonneg (by omega)]
    omega
theorem tmod_2 (d : Int) : -1 ≤ d.tmod 2 ∧ d.tmod 2 ≤ 1 := by
  rcases Int.le_total 0 d with h | h
  · rw [Int.tmod_eq_emod_of_nonneg h]
    omega
  · obtain ⟨n, rfl⟩ : ∃ n, d = -n := ⟨-d, by omega⟩
    rw [Int.neg_tmod, Int.tmod_eq_emod_of_nonneg (by omega : 0 ≤ n)]
    omega
theorem dZ_at {ks : List Int} (hn : ks.Nodup) {i : Nat} {k : Int} (h : ks[i]? = some k) : (((i : Nat) : Int) == dZ ks) = decide (k = oddI) := by
  obtain ⟨hi, he⟩ := List.getElem?_eq_some_iff.1 h
  unfold dZ
  by_cases hk : k = oddI
  · have hm : oddI ∈ ks := by rw [← hk, ← he]; exact List.getElem_mem hi
    have := idx_of_get hn hi
    rw [he, hk] at this
    simp [hm, hk, this]
  · by_cases hm : oddI ∈ ks
    · obtain ⟨hlt, hq⟩ := idx_get hm
      have hne : i ≠ pos ks oddI := by
        intro e
        subst e
        rw [hq] at he
        exact hk he.symm
      have hne' : ¬ ((i : Nat) : Int) = ((pos ks oddI : Nat) : Int) := by omega
      simp [hm, hk, hne']
    · simp [hm, hk]
theorem dZ_neg {ks : List Int} : (dZ ks < 0) ↔ oddI ∉ ks := by
  unfold dZ
  split
  · next h => simp [h]
  · next h => simp [h]
theorem dZ_mem {ks : List Int} (h : oddI ∈ ks) : dZ ks = ((pos ks oddI : Nat) : Int) := if_pos h
theorem dZ_mem_enc {ks : List Int} (h : oddI ∈ ks) : [encI (dZ ks)] = [pos ks oddI].map encN := by rw [dZ_mem h]; rfl
theorem dZ_add {ks : List Int} {l : Int} (h : l ≠ oddI) : dZ (addK ks l) = dZ ks := by
  unfold dZ addK
  by_cases hl : l ∈ ks
  · simp [hl]
  · by_cases hm : oddI ∈ ks
    · have e : pos (ks ++ [l]) oddI = pos ks oddI := idx_pre (List.prefix_append _ _) hm
      simp [hl, hm, e]
    · have : ¬ oddI = l := fun e => h e.symm
      simp [hl, hm, this]
theorem fZ_zero (ks : List Int) (l : Int) : fZ ks l 0 = -1 := by simp [fZ]
theorem fZ_all (ks : List Int) (l : Int) : fZ ks l ks.length = if l ∈ ks then ((pos ks l : Nat) : Int) else -1 := by simp [fZ]
theorem fZ_hit {ks : List Int} (hn : ks.Nodup) {n : Nat} {l : Int} (h : ks[n]? = some l) : fZ ks l (n + 1) = (n : Int) := by
  obtain ⟨hi, he⟩ := List.getElem?_eq_some_iff.1 h
  have := idx_of_get hn hi
  rw [he] at this
  have hm : l ∈ ks.take (n + 1) := by rw [List.take_add_one, h]; simp
  unfold fZ
  rw [if_pos hm, this]
theorem fZ_miss {ks : List Int} {n : Nat} {k l : Int} (h : ks[n]? = some k) (hk : k ≠ l) : fZ ks l (n + 1) = fZ ks l n := by
  unfold fZ
  have e : l ∈ ks.take (n + 1) ↔ l ∈ ks.take n := by
    rw [List.take_add_one, h]
    simp
    intro e
    exact absurd e.symm hk
  simp only [e]
theorem s_raw (kind : Int) (hkd : kind = 1 ∨ kind = 2) (terms : List Int) (hT : Terms terms) (c0 : Int) (hc0 : c0 ≠ oddI) (U : List Int) (hU : Closed (wd terms.length) (nxL kind (sumsF terms)) c0 U) (hUl : U.length ≤ 150)
    (hUb : ∀ s ∈ U, -1100000000000 ≤ s ∧ s ≤ 1100000000000) (v : BV) (H : BH) (hv : Rd H 2 v (terms.map encI)) :
    FnDoes (gam base) 106 [encI kind, v, encI c0] H fun r K => RelR base H terms.length (some (linX kind c0 terms U), 0) r K := by
  obtain ⟨R, hR⟩ : ∃ R : BV → BH → Prop, R = fun r K => RelR base H terms.length (some (linX kind c0 terms U), 0) r K := ⟨_, rfl⟩
  rw [← hR]
  refine FnDoes.of (fn := ir106) rfl ?_
  have hl3 := hT.1
  obtain ⟨KS, hKS⟩ : ∃ KS, KS = metL (succs (wd terms.length) (nxL kind (sumsF terms))) c0 U.length := ⟨_, rfl⟩
  have hKl : KS.length ≤ U.length := by rw [hKS]; exact hU.len _
  have hdone := hU.done
  have hX : linX kind c0 terms U = autOf (wd terms.length) (nxL kind (sumsF terms)) (accL kind) KS := by rw [hKS]; rfl
  rw [hX] at hR
  obtain ⟨nx, hnx⟩ : ∃ nx, nx = nxL kind (sumsF terms) := ⟨_, rfl⟩
  rw [← hnx] at hR hU hdone hKS
  obtain ⟨t, ht⟩ : ∃ t, t = terms.length := ⟨_, rfl⟩
  rw [← ht] at hR hU hdone hKS hl3
  have hw := wd_3 hl3
  have pre : ∀ i, metL (succs (wd t) nx) c0 i <+: KS := fun i => by
    rcases Nat.le_total i U.length with h | h
    · rw [hKS]; exact met_pre h
    · rw [hdone.eq h, hKS]; exact List.prefix_refl _
  have hln : (terms.map encI).length = t := by rw [List.length_map, ht]
  have hvl := hv.lenM
  rw [← ht] at hvl
  simp [ir106, hv.isSl, hvl]
  intro n6 b6 f6
  simp [make_of f6 b6, hv.isSl, hvl]
  intro n9 b9 f9
  have o1 := Own.start (base := base) (H := H) |>.new f6 b6 (s := .arr 29 [.int .i64 0, .int .i64 0, .nils, .nils]) |>.new f9 b9 (s := .arr 29 [.int .i64 0, .int .i64 0, .nils, .nils])
  obtain ⟨K2, g2, o2⟩ := o1.putAll 0 (b := n9) (n := 4) (ds := [encN t, .int .i64 0, .nils, .nils]) rfl rfl rfl rfl (rt := none) rfl
  simp [make_of f9 b9, g2]
  intro n10 b10 f10
  have o3 := o2.new f10 b10 (s := .arr 2 [encI c0])
  simp [make_of f10 b10]
  obtain ⟨I, hI⟩ : ∃ I : Nat → Env → BH → Prop, I = (fun i e K => e 12 = encN i ∧ ∃ v10 u w b10 bo wo vs fr, e 10 = v10 ∧ e 11 = encI (dZ (metL (succs (wd t) nx) c0 i)) ∧ i ≤ (metL (succs (wd t) nx) c0 i).length ∧
      Own base H K ([(wo, .arr 67 vs), (bo, .arr 4 (((KS.take i).map (accL kind)).map encB)), (b10, .arr 2 ((metL (succs (wd t) nx) c0 i).map fun k => encI (mvI k))),
        (some n9, .arr 29 [encN t, .int .i64 0, u, w]), (some n6, .arr 29 [.int .i64 0, .int .i64 0, .nils, .nils])] ++ fr) ∧
      Vec b10 v10 (metL (succs (wd t) nx) c0 i).length ∧ Vec bo u i ∧ Vec wo w i ∧ vs.length = i ∧ RowsOf 2 vs fr (((KS.take i).map fun k => rowU KS nx k (wd t)).map (·.map encN))) := ⟨_, rfl⟩
  refine wpC_countK U.length [(0, encI kind), (1, v), (6, .ptr n6 0), (8, encN t), (9, .ptr n9 0)] I (i0 := 0) ?_ ?_ ?_ (Nat.zero_le _) ?_
  · rfl
  · simp
  · rw [hI]
    refine ⟨by simp, .sl n10 0 1, .nils, .nils, some n10, none, none, [], [], by simp, by simp [metL, dZ, hc0.symm], Nat.zero_le _, ?_, rfl, Vec.none, Vec.none, rfl, trivial⟩
    have e : ((metL (succs (wd t) nx) c0 0).map fun k => encI (mvI k)) = [encI c0] := by simp [metL, mvI, hc0]
    rw [e]
    exact (o3.nil (.arr 4 [])).nil (.arr 67 [])
  clear o1 o2 o3 g2
  rintro i e K hi ⟨e0, e1, e6, e8, e9, -⟩ hh
  rw [hI] at hh
  obtain ⟨e12, v10, u, w, b10, bo, wo, vs, fr, e10, e11, hil, o, hv10, hu, hw', hvs, hrows⟩ := hh
  simp only [] at e0 e1 e6 e8 e9
  have wi := wS (n := i) (by omega)
  by_cases hlt : i < (metL (succs (wd t) nx) c0 i).length
  · have hiN : i < U.length := Nat.lt_of_lt_of_le hlt (hU.len i)
    obtain ⟨k, hkk⟩ : ∃ k, (metL (succs (wd t) nx) c0 i)[i]? = some k := ⟨_, List.getElem?_eq_getElem hlt⟩
    have hkU : k ∈ U := hU.met i k (List.mem_of_getElem? hkk)
    have hKSi : KS[i]? = some k := by
      obtain ⟨r, hr⟩ := pre i
      rw [← hr, List.getElem?_append_left hlt]
      exact hkk
    have hiKS : i < KS.length := (List.getElem?_eq_some_iff.1 hKSi).1
    have hnext : metL (succs (wd t) nx) c0 (i + 1) = lsU (metL (succs (wd t) nx) c0 i) nx k (wd t) := by rw [metL, hkk]; rfl
    have hpre : ∀ c, c ≤ wd t → lsU (metL (succs (wd t) nx) c0 i) nx k c <+: KS := fun c hc => (lsU_pre hc).trans (by rw [← hnext]; exact pre (i + 1))
    simp [e12, e10, hv10.isSl, hv10.len, hlt]
    intro n13 b13 f13
    have o4 := o.new f13 b13 (s := .arr 2 [])
    simp [make_of f13 b13]
    obtain ⟨J, hJ⟩ : ∃ J : Nat → Env → BH → Prop, J = (fun c e K => e 14 = encN c ∧ ∃ v10 v13 b10 b13, e 10 = v10 ∧ e 13 = v13 ∧ e 11 = encI (dZ (lsU (metL (succs (wd t) nx) c0 i) nx k c)) ∧
      Own base H K ([(b13, .arr 2 ((rowU KS nx k c).map encN)), (wo, .arr 67 vs), (bo, .arr 4 (((KS.take i).map (accL kind)).map encB)), (b10, .arr 2 ((lsU (metL (succs (wd t) nx) c0 i) nx k c).map fun k => encI (mvI k))),
        (some n9, .arr 29 [encN t, .int .i64 0, u, w]), (some n6, .arr 29 [.int .i64 0, .int .i64 0, .nils, .nils])] ++ fr) ∧
      Vec b10 v10 (lsU (metL (succs (wd t) nx) c0 i) nx k c).length ∧ Vec b13 v13 c) := ⟨_, rfl⟩
    refine wpC_countK (wd t) [(0, encI kind), (1, v), (6, .ptr n6 0), (8, encN t), (9, .ptr n9 0), (12, encN i)] J (i0 := 0) ?_ ?_ ?_ (Nat.zero_le _) ?_
    · rfl
    · simp [e0, e1, e6, e8, e9, e12]
    · rw [hJ]
      exact ⟨by simp, v10, .sl n13 0 0, b10, some n13, by simp [e10], by simp, by simp [e11, lsU_zero], o4, hv10, rfl⟩
    clear e0 e1 e6 e8 e9 e12 e10 e11 o o4 hv10
    rintro c e K hc ⟨e0, e1, e6, e8, e9, e12, -⟩ hh
    rw [hJ] at hh
    obtain ⟨e14, v10, v13, b10, b13, e10, e13, e11, o, hv10, hv13⟩ := hh
    simp only [] at e0 e1 e6 e8 e9 e12
    have wc := wS (n := c) (by omega)
    obtain ⟨ls, hls⟩ : ∃ ls, ls = lsU (metL (succs (wd t) nx) c0 i) nx k c := ⟨_, rfl⟩
    have hlsp := hpre c hc
    have hlnd : ls.Nodup := by rw [hls]; exact addAll_nodup (met_nodup i)
    have hlsk : ls[i]? = some k := by
      rw [hls]
      obtain ⟨r, hr⟩ := (lsU_pre (ks := metL (succs (wd t) nx) c0 i) (nx := nx) (k := k) (Nat.zero_le c))
      rw [← hr, lsU_zero, List.getElem?_append_left hlt]
      exact hkk
    have hlsU : ∀ x ∈ ls, x ∈ U := fun x hx => by
      rw [hls] at hx
      obtain ⟨r, hr⟩ := hlsp
      have : x ∈ KS := by rw [← hr]; exact List.mem_append_left _ hx
      rw [hKS] at this
      exact hU.met _ x this
    rw [← hls] at o hv10 e11 hlsp
    have hll := hlsp.length_le
    have hil2 : i < ls.length := (List.getElem?_eq_some_iff.1 hlsk).1
    simp [e8, e14]
    refine callP (s_wide t K (by omega)) ?_
    by_cases hcw : c < wd t
    · have hlsp1 := hpre (c + 1) hcw
      have hsu : lsU (metL (succs (wd t) nx) c0 i) nx k (c + 1) = addK ls (nx k c) := by rw [lsU_succ, ← hls]
      rw [hsu] at hlsp1
      have g10 := (o.rd 3 rfl (v := v10) (by simpa using hv10)).at (i := i) (by simpa using hil2) (rt := some 2) rfl
      have gk : ls[i] = k := (List.getElem?_eq_some_iff.1 hlsk).2
      have g10' : K.rd (some 2) none (v10.sat i 1) = some (encI (mvI k)) := by simpa [gk] using g10
      have hl3' := hT.1
      have hsum := s_sum (base := base) terms hT c (by omega) v K (ty := 2) rfl (hv.keeps o.keeps)
      have hb1 := hUb k hkU
      have hb2 := sumN_le hT c terms.length
      have hm : -1100000000000 ≤ mvI k ∧ mvI k ≤ 1100000000000 := by unfold mvI; split <;> omega
      obtain ⟨S, hS⟩ : ∃ S, S = sumN terms c terms.length := ⟨_, rfl⟩
      rw [← hS] at hsum hb2
      have wsub : IntKind.i64.wrap (mvI k - S) = mvI k - S := w64 (by omega) (by omega)
      have hD := dZ_at hlnd hlsk
      have hnk : nx k c = if k = oddI then oddI else if kind = 1 ∧ (k - S).tmod 2 ≠ 0 then oddI else (k - S) / 2 := by rw [hnx, hS]; rfl
      simp [hcw, e10, e12, hv10.isSl, hv10.len, hil2, e1, e14, g10']
      refine callP hsum ?_
      have hadd : (nx k c) ∈ addK ls (nx k c) := mem_addK.2 (.inr rfl)
      have hpk : pos (addK ls (nx k c)) (nx k c) = pos KS (nx k c) := (idx_pre hlsp1 hadd).symm
      have hal := hlsp1.length_le
      have hcases : ((((i : Nat) : Int) == dZ ls) = true ∨ (((i : Nat) : Int) == dZ ls) = false ∧ (kind == 1) = true ∧ ((mvI k - S).tmod 2 != 0) = true) ∧ nx k c = oddI ∨
          (((i : Nat) : Int) == dZ ls) = false ∧ ((kind == 1) = false ∨ (kind == 1) = true ∧ ((mvI k - S).tmod 2 != 0) = false) ∧ nx k c = (mvI k - S) / 2 := by
        by_cases hk : k = oddI
        · exact .inl ⟨.inl (by rw [hD]; simp [hk]), by rw [hnk, if_pos hk]⟩
        · have hmk : mvI k = k := if_neg hk
          rw [hnk, if_neg hk, hD, hmk]
          by_cases h1 : kind = 1
          · by_cases h2 : (k - S).tmod 2 = 0
            · exact .inr ⟨by simp [hk], .inr ⟨by simp [h1], by simp [h2]⟩, by rw [if_neg]; simp [h2]⟩
            · exact .inl ⟨.inr ⟨by simp [hk], by simp [h1], by simp [h2]⟩, by rw [if_pos ⟨h1, h2⟩]⟩
          · exact .inr ⟨by simp [hk], .inl (by simp [h1]), by rw [if_neg]; simp [h1]⟩
      rcases hcases with ⟨hdead, hl⟩ | ⟨hA, hB, hl⟩
      · have hneg := dZ_neg (ks := ls)
        rw [hl] at hadd hpk hal hsu
        rcases hdead with hA | ⟨hA, hB, hC⟩
        · simp [wsub, e0, e11, e12, hA]
          by_cases hm : oddI ∈ ls
          · have h0 : ¬ dZ ls < 0 := fun h => hneg.1 h hm
            have he : addK ls oddI = ls := if_pos hm
            rw [he] at hpk hsu
            simp [h0, e11, e13]
            intro n1 b1 f1
            simp [make_of f1 b1]
            intro n2 b2 f2
            obtain ⟨v', K', b', q1, q2, q3⟩ := o.push 0 rfl (by simpa [rowU_len] using hv13) (x := encI (dZ ls)) (bytes := 8) rfl (by simp [rowU_len]; omega) (by simp [rowU_len]; omega) f1 b1 f2 b2
            simp [q1, e14, wc, hcw]
            rw [hJ]
            simp only [hsu]
            refine ⟨by simp, v10, v', b10, some b', by simp [e10], by simp, by simp [e11], ?_, hv10, by simpa [rowU_len] using q3⟩
            rw [rowU_succ, hl, ← hpk, List.map_append, ← dZ_mem_enc hm]
            exact q2
          · have h0 : dZ ls < 0 := hneg.2 hm
            have he : addK ls oddI = ls ++ [oddI] := if_neg hm
            rw [he] at hpk hsu hal
            simp at hal
            have hp2 : pos (ls ++ [oddI]) oddI = ls.length := by rw [← he]; exact idx_new hm
            have hdz : dZ (ls ++ [oddI]) = (ls.length : Int) := by rw [dZ_mem (by simp), hp2]
            simp [h0, e10, hv10.isSl, hv10.len]
            intro n3 b3 f3
            simp [make_of f3 b3]
            intro n4 b4 f4
            obtain ⟨v3, K3, b3', p1, p2, p3⟩ := o.push 3 rfl (by simpa using hv10) (x := .int .i64 0) (bytes := 8) rfl (by simp; omega) (by simp; omega) f3 b3 f4 b4
            simp [p1, e13]
            intro n1 b1 f1
            simp [make_of f1 b1]
            intro n2 b2 f2
            have p2 : Own base H K3 ((b13, .arr 2 ((rowU KS nx k c).map encN)) :: (wo, .arr 67 vs) :: (bo, .arr 4 (((KS.take i).map (accL kind)).map encB)) :: (some b3', .arr 2 ((ls ++ [oddI]).map fun k => encI (mvI k))) :: (some n9, .arr 29 [encN t, .int .i64 0, u, w]) :: (some n6, .arr 29 [.int .i64 0, .int .i64 0, .nils, .nils]) :: fr) := by simpa [mvI] using p2
            obtain ⟨v', K', b', q1, q2, q3⟩ := p2.push 0 rfl (by simpa [rowU_len] using hv13) (x := encN ls.length) (bytes := 8) rfl (by simp [rowU_len]; omega) (by simp [rowU_len]; omega) f1 b1 f2 b2
            simp [q1, e14, wc, hcw]
            rw [hJ]
            simp only [hsu]
            refine ⟨by simp, v3, v', some b3', some b', by simp, by simp, ?_, ?_, by simpa using p3, by simpa [rowU_len] using q3⟩
            · simp [hdz]
            · rw [rowU_succ, hl, ← hpk, hp2, List.map_append]
              exact q2
        · simp [wsub, e0, e11, e12, hA, hB, hC]
          by_cases hm : oddI ∈ ls
          · have h0 : ¬ dZ ls < 0 := fun h => hneg.1 h hm
            have he : addK ls oddI = ls := if_pos hm
            rw [he] at hpk hsu
            simp [h0, e11, e13]
            intro n1 b1 f1
            simp [make_of f1 b1]
            intro n2 b2 f2
            obtain ⟨v', K', b', q1, q2, q3⟩ := o.push 0 rfl (by simpa [rowU_len] using hv13) (x := encI (dZ ls)) (bytes := 8) rfl (by simp [rowU_len]; omega) (by simp [rowU_len]; omega) f1 b1 f2 b2
            simp [q1, e14, wc, hcw]
            rw [hJ]
            simp only [hsu]
            refine ⟨by simp, v10, v', b10, some b', by simp [e10], by simp, by simp [e11], ?_, hv10, by simpa [rowU_len] using q3⟩
            rw [rowU_succ, hl, ← hpk, List.map_append, ← dZ_mem_enc hm]
            exact q2
          · have h0 : dZ ls < 0 := hneg.2 hm
            have he : addK ls oddI = ls ++ [oddI] := if_neg hm
            rw [he] at hpk hsu hal
            simp at hal
            have hp2 : pos (ls ++ [oddI]) oddI = ls.length := by rw [← he]; exact idx_new hm
            have hdz : dZ (ls ++ [oddI]) = (ls.length : Int) := by rw [dZ_mem (by simp), hp2]
            simp [h0, e10, hv10.isSl, hv10.len]
            intro n3 b3 f3
            simp [make_of f3 b3]
            intro n4 b4 f4
            obtain ⟨v3, K3, b3', p1, p2, p3⟩ := o.push 3 rfl (by simpa using hv10) (x := .int .i64 0) (bytes := 8) rfl (by simp; omega) (by simp; omega) f3 b3 f4 b4
            simp [p1, e13]
            intro n1 b1 f1
            simp [make_of f1 b1]
            intro n2 b2 f2
            have p2 : Own base H K3 ((b13, .arr 2 ((rowU KS nx k c).map encN)) :: (wo, .arr 67 vs) :: (bo, .arr 4 (((KS.take i).map (accL kind)).map encB)) :: (some b3', .arr 2 ((ls ++ [oddI]).map fun k => encI (mvI k))) :: (some n9, .arr 29 [encN t, .int .i64 0, u, w]) :: (some n6, .arr 29 [.int .i64 0, .int .i64 0, .nils, .nils]) :: fr) := by simpa [mvI] using p2
            obtain ⟨v', K', b', q1, q2, q3⟩ := p2.push 0 rfl (by simpa [rowU_len] using hv13) (x := encN ls.length) (bytes := 8) rfl (by simp [rowU_len]; omega) (by simp [rowU_len]; omega) f1 b1 f2 b2
            simp [q1, e14, wc, hcw]
            rw [hJ]
            simp only [hsu]
            refine ⟨by simp, v3, v', some b3', some b', by simp, by simp, ?_, ?_, by simpa using p3, by simpa [rowU_len] using q3⟩
            · simp [hdz]
            · rw [rowU_succ, hl, ← hpk, hp2, List.map_append]
              exact q2
      · obtain ⟨l, hll2⟩ : ∃ l, l = (mvI k - S) / 2 := ⟨_, rfl⟩
        have hlo : l ≠ oddI := by unfold oddI; omega
        have hr1 := tmod_2 (mvI k - S)
        have hr2 := tmod_2 ((mvI k - S).tmod 2 + 2)
        have wr1 : IntKind.i64.wrap ((mvI k - S).tmod 2 + 2) = (mvI k - S).tmod 2 + 2 := w64 (by omega) (by omega)
        have wr2 : IntKind.i64.wrap (mvI k - S - ((mvI k - S).tmod 2 + 2).tmod 2) = mvI k - S - ((mvI k - S).tmod 2 + 2).tmod 2 := w64 (by omega) (by omega)
        have hhe := half_eq (mvI k - S)
        rw [← hll2] at hhe
        have wr3 : IntKind.i64.wrap l = l := w64 (by omega) (by omega)
        rcases hB with hB | ⟨hB, hC⟩
        · simp [wsub, e0, e11, e12, hA, hB, wr1, wr2, hhe, wr3]
          have hnl : nx k c = l := by rw [hl, hll2]
          rw [hnl] at hadd hpk hal hsu
          obtain ⟨T, hT2⟩ : ∃ T : Nat → Env → BH → Prop, T = (fun n e L => e 18 = encN n ∧ e 17 = encI (fZ ls l n) ∧ L = K) := ⟨_, rfl⟩
          refine wpC_countK ls.length [(0, encI kind), (1, v), (6, .ptr n6 0), (8, encN t), (9, .ptr n9 0), (12, encN i), (10, v10), (11, encI (dZ ls)), (13, v13), (14, encN c), (16, encI l)] T (i0 := 0) ?_ ?_ ?_ (Nat.zero_le _) ?_
          · rfl
          · simp [e0, e1, e6, e8, e9, e12, e10, e11, e13, e14]
          · rw [hT2]
            exact ⟨by simp, by simp [fZ_zero], rfl⟩
          clear e0 e1 e6 e8 e9 e12 e10 e11 e13 e14
          rintro n e L hn ⟨e0, e1, e6, e8, e9, e12, e10, e11, e13, e14, e16, -⟩ hh
          rw [hT2] at hh
          obtain ⟨e18, e17, rfl⟩ := hh
          simp only [] at e0 e1 e6 e8 e9 e12 e10 e11 e13 e14 e16
          have wn := wS (n := n) (by omega)
          by_cases hln : n < ls.length
          · obtain ⟨kn, hkn⟩ : ∃ kn, ls[n]? = some kn := ⟨_, List.getElem?_eq_getElem hln⟩
            have hkn' : ls[n] = kn := (List.getElem?_eq_some_iff.1 hkn).2
            have hDn := dZ_at hlnd hkn
            have gn := (o.rd 3 rfl (v := v10) (by simpa using hv10)).at (i := n) (by simpa using hln) (rt := none) rfl
            have gn' : L.rd none none (v10.sat n 1) = some (encI (mvI kn)) := by simpa [hkn'] using gn
            by_cases hko : kn = oddI
            · have hA2 : (((n : Nat) : Int) != dZ ls) = false := by rw [bne, hDn]; simp [hko]
              have hmi := fZ_miss hkn (l := l) (by rw [hko]; exact hlo.symm)
              simp [e18, e10, hv10.isSl, hv10.len, hln, e11, hA2, wn]
              rw [hT2]
              exact ⟨by simp, by simp [e17, hmi], rfl⟩
            · have hA2 : (((n : Nat) : Int) != dZ ls) = true := by rw [bne, hDn]; simp [hko]
              have hmv : mvI kn = kn := if_neg hko
              rw [hmv] at gn'
              by_cases hkl : kn = l
              · have hhi := fZ_hit hlnd (hkn.trans (by rw [hkl]))
                have hA3 : (kn == l) = true := by simp [hkl]
                simp [e18, e10, hv10.isSl, hv10.len, hln, e11, hA2, gn', e16, hA3, wn]
                rw [hT2]
                exact ⟨by simp, by simp [hhi], rfl⟩
              · have hmi := fZ_miss hkn hkl
                have hA3 : (kn == l) = false := by simp [hkl]
                simp [e18, e10, hv10.isSl, hv10.len, hln, e11, hA2, gn', e16, hA3, wn]
                rw [hT2]
                exact ⟨by simp, by simp [e17, hmi], rfl⟩
          · have hne : n = ls.length := by omega
            subst hne
            rw [fZ_all] at e17
            simp [e18, e10, hv10.isSl, hv10.len]
            by_cases hm : l ∈ ls
            · have he : addK ls l = ls := if_pos hm
              rw [if_pos hm] at e17
              rw [he] at hpk hsu
              have h0 : ¬ ((pos ls l : Nat) : Int) < 0 := by omega
              simp [e17, h0, e13]
              intro n1 b1 f1
              simp [make_of f1 b1]
              intro n2 b2 f2
              obtain ⟨v', K', b', q1, q2, q3⟩ := o.push 0 rfl (by simpa [rowU_len] using hv13) (x := encN (pos ls l)) (bytes := 8) rfl (by simp [rowU_len]; omega) (by simp [rowU_len]; omega) f1 b1 f2 b2
              simp [q1, e14, wc, hcw]
              rw [hJ]
              simp only [hsu]
              refine ⟨by simp, v10, v', b10, some b', by simp [e10], by simp, by simp [e11], ?_, hv10, by simpa [rowU_len] using q3⟩
              rw [rowU_succ, hnl, ← hpk, List.map_append]
              exact q2
            · have he : addK ls l = ls ++ [l] := if_neg hm
              rw [if_neg hm] at e17
              have hdz := dZ_add (ks := ls) hlo
              rw [he] at hpk hsu hal hdz
              simp at hal
              have hp2 : pos (ls ++ [l]) l = ls.length := by rw [← he]; exact idx_new hm
              have hml : mvI l = l := if_neg hlo
              simp [e17, e10, hv10.isSl, hv10.len]
              intro n3 b3 f3
              simp [make_of f3 b3, e16]
              intro n4 b4 f4
              obtain ⟨v3, K3, b3', p1, p2, p3⟩ := o.push 3 rfl (by simpa using hv10) (x := encI l) (bytes := 8) rfl (by simp; omega) (by simp; omega) f3 b3 f4 b4
              simp [p1, e13]
              intro n1 b1 f1
              simp [make_of f1 b1]
              intro n2 b2 f2
              have p2 : Own base H K3 ((b13, .arr 2 ((rowU KS nx k c).map encN)) :: (wo, .arr 67 vs) :: (bo, .arr 4 (((KS.take i).map (accL kind)).map encB)) :: (some b3', .arr 2 ((ls ++ [l]).map fun k => encI (mvI k))) :: (some n9, .arr 29 [encN t, .int .i64 0, u, w]) :: (some n6, .arr 29 [.int .i64 0, .int .i64 0, .nils, .nils]) :: fr) := by simpa [hml] using p2
              obtain ⟨v', K', b', q1, q2, q3⟩ := p2.push 0 rfl (by simpa [rowU_len] using hv13) (x := encN ls.length) (bytes := 8) rfl (by simp [rowU_len]; omega) (by simp [rowU_len]; omega) f1 b1 f2 b2
              simp [q1, e14, wc, hcw]
              rw [hJ]
              simp only [hsu]
              refine ⟨by simp, v3, v', some b3', some b', by simp, by simp, by simp [e11, hdz], ?_, by simpa using p3, by simpa [rowU_len] using q3⟩
              rw [rowU_succ, hnl, ← hpk, hp2, List.map_append]
              exact q2
        · simp [wsub, e0, e11, e12, hA, hB, hC, wr1, wr2, hhe, wr3]
          have hnl : nx k c = l := by rw [hl, hll2]
          rw [hnl] at hadd hpk hal hsu
          obtain ⟨T, hT2⟩ : ∃ T : Nat → Env → BH → Prop, T = (fun n e L => e 18 = encN n ∧ e 17 = encI (fZ ls l n) ∧ L = K) := ⟨_, rfl⟩
          refine wpC_countK ls.length [(0, encI kind), (1, v), (6, .ptr n6 0), (8, encN t), (9, .ptr n9 0), (12, encN i), (10, v10), (11, encI (dZ ls)), (13, v13), (14, encN c), (16, encI l)] T (i0 := 0) ?_ ?_ ?_ (Nat.zero_le _) ?_
          · rfl
          · simp [e0, e1, e6, e8, e9, e12, e10, e11, e13, e14]
          · rw [hT2]
            exact ⟨by simp, by simp [fZ_zero], rfl⟩
          clear e0 e1 e6 e8 e9 e12 e10 e11 e13 e14
          rintro n e L hn ⟨e0, e1, e6, e8, e9, e12, e10, e11, e13, e14, e16, -⟩ hh
          rw [hT2] at hh
          obtain ⟨e18, e17, rfl⟩ := hh
          simp only [] at e0 e1 e6 e8 e9 e12 e10 e11 e13 e14 e16
          have wn := wS (n := n) (by omega)
          by_cases hln : n < ls.length
          · obtain ⟨kn, hkn⟩ : ∃ kn, ls[n]? = some kn := ⟨_, List.getElem?_eq_getElem hln⟩
            have hkn' : ls[n] = kn := (List.getElem?_eq_some_iff.1 hkn).2
            have hDn := dZ_at hlnd hkn
            have gn := (o.rd 3 rfl (v := v10) (by simpa using hv10)).at (i := n) (by simpa using hln) (rt := none) rfl
            have gn' : L.rd none none (v10.sat n 1) = some (encI (mvI kn)) := by simpa [hkn'] using gn
            by_cases hko : kn = oddI
            · have hA2 : (((n : Nat) : Int) != dZ ls) = false := by rw [bne, hDn]; simp [hko]
              have hmi := fZ_miss hkn (l := l) (by rw [hko]; exact hlo.symm)
              simp [e18, e10, hv10.isSl, hv10.len, hln, e11, hA2, wn]
              rw [hT2]
              exact ⟨by simp, by simp [e17, hmi], rfl⟩
            · have hA2 : (((n : Nat) : Int) != dZ ls) = true := by rw [bne, hDn]; simp [hko]
              have hmv : mvI kn = kn := if_neg hko
              rw [hmv] at gn'
              by_cases hkl : kn = l
              · have hhi := fZ_hit hlnd (hkn.trans (by rw [hkl]))
                have hA3 : (kn == l) = true := by simp [hkl]
                simp [e18, e10, hv10.isSl, hv10.len, hln, e11, hA2, gn', e16, hA3, wn]
                rw [hT2]
                exact ⟨by simp, by simp [hhi], rfl⟩
              · have hmi := fZ_miss hkn hkl
                have hA3 : (kn == l) = false := by simp [hkl]
                simp [e18, e10, hv10.isSl, hv10.len, hln, e11, hA2, gn', e16, hA3, wn]
                rw [hT2]
                exact ⟨by simp, by simp [e17, hmi], rfl⟩
          · have hne : n = ls.length := by omega
            subst hne
            rw [fZ_all] at e17
            simp [e18, e10, hv10.isSl, hv10.len]
            by_cases hm : l ∈ ls
            · have he : addK ls l = ls := if_pos hm
              rw [if_pos hm] at e17
              rw [he] at hpk hsu
              have h0 : ¬ ((pos ls l : Nat) : Int) < 0 := by omega
              simp [e17, h0, e13]
              intro n1 b1 f1
              simp [make_of f1 b1]
              intro n2 b2 f2
              obtain ⟨v', K', b', q1, q2, q3⟩ := o.push 0 rfl (by simpa [rowU_len] using hv13) (x := encN (pos ls l)) (bytes := 8) rfl (by simp [rowU_len]; omega) (by simp [rowU_len]; omega) f1 b1 f2 b2
              simp [q1, e14, wc, hcw]
              rw [hJ]
              simp only [hsu]
              refine ⟨by simp, v10, v', b10, some b', by simp [e10], by simp, by simp [e11], ?_, hv10, by simpa [rowU_len] using q3⟩
              rw [rowU_succ, hnl, ← hpk, List.map_append]
              exact q2
            · have he : addK ls l = ls ++ [l] := if_neg hm
              rw [if_neg hm] at e17
              have hdz := dZ_add (ks := ls) hlo
              rw [he] at hpk hsu hal hdz
              simp at hal
              have hp2 : pos (ls ++ [l]) l = ls.length := by rw [← he]; exact idx_new hm
              have hml : mvI l = l := if_neg hlo
              simp [e17, e10, hv10.isSl, hv10.len]
              intro n3 b3 f3
              simp [make_of f3 b3, e16]
              intro n4 b4 f4
              obtain ⟨v3, K3, b3', p1, p2, p3⟩ := o.push 3 rfl (by simpa using hv10) (x := encI l) (bytes := 8) rfl (by simp; omega) (by simp; omega) f3 b3 f4 b4
              simp [p1, e13]
              intro n1 b1 f1
              simp [make_of f1 b1]
              intro n2 b2 f2
              have p2 : Own base H K3 ((b13, .arr 2 ((rowU KS nx k c).map encN)) :: (wo, .arr 67 vs) :: (bo, .arr 4 (((KS.take i).map (accL kind)).map encB)) :: (some b3', .arr 2 ((ls ++ [l]).map fun k => encI (mvI k))) :: (some n9, .arr 29 [encN t, .int .i64 0, u, w]) :: (some n6, .arr 29 [.int .i64 0, .int .i64 0, .nils, .nils]) :: fr) := by simpa [hml] using p2
              obtain ⟨v', K', b', q1, q2, q3⟩ := p2.push 0 rfl (by simpa [rowU_len] using hv13) (x := encN ls.length) (bytes := 8) rfl (by simp [rowU_len]; omega) (by simp [rowU_len]; omega) f1 b1 f2 b2
              simp [q1, e14, wc, hcw]
              rw [hJ]
              simp only [hsu]
              refine ⟨by simp, v3, v', some b3', some b', by simp, by simp, by simp [e11, hdz], ?_, by simpa using p3, by simpa [rowU_len] using q3⟩
              rw [rowU_succ, hnl, ← hpk, hp2, List.map_append]
              exact q2
    · have hcc : c = wd t := by omega
      subst hcc
      have nb : ¬ (1000 : Int) < (ls.length : Int) := by omega
      have gk : ls[i] = k := (List.getElem?_eq_some_iff.1 hlsk).2
      have g10 := (o.rd 3 rfl (v := v10) (by simpa using hv10)).at (i := i) (by simpa using hil2) (rt := none) rfl
      have g10' : K.rd none none (v10.sat i 1) = some (encI (mvI k)) := by simpa [gk] using g10
      have hD := dZ_at hlnd hlsk
      have u1 := rd_ptr (o.at 4 (b := n9) rfl) (rt := none) (j := 2) (c := u) rfl rfl
      have hti : (KS.take i).length = i := by simp; omega
      have hta : (KS.take (i + 1)).map (accL kind) = (KS.take i).map (accL kind) ++ [accL kind k] := by rw [List.take_add_one, hKSi]; simp
      have htr : ((KS.take (i + 1)).map fun k => rowU KS nx k (wd t)).map (·.map encN) = ((KS.take i).map fun k => rowU KS nx k (wd t)).map (·.map encN) ++ [(rowU KS nx k (wd t)).map encN] := by rw [List.take_add_one, hKSi]; simp
      have hin : i + 1 ≤ (metL (succs (wd t) nx) c0 (i + 1)).length := by
        have := (met_pre1 (sx := succs (wd t) nx) (s := c0) i).length_le
        omega
      have hacc : (((i : Nat) : Int) != dZ ls) = false ∧ accL kind k = false ∨ (((i : Nat) : Int) != dZ ls) = true ∧ mvI k = k ∧ ((k == 0) = true ∧ accL kind k = true ∨ (k == 0) = false ∧ ((kind == 2) = false ∧ accL kind k = false ∨ (kind == 2) = true ∧ accL kind k = decide (0 < k))) := by
        rw [bne, hD]
        by_cases hk : k = oddI
        · exact .inl ⟨by simp [hk], by simp [hk, accL, oddI]⟩
        · refine .inr ⟨by simp [hk], if_neg hk, ?_⟩
          by_cases h0 : k = 0
          · exact .inl ⟨by simp [h0], by simp [h0, accL]⟩
          · refine .inr ⟨by simp [h0], ?_⟩
            by_cases h2 : kind = 2
            · exact .inr ⟨by simp [h2], by simp [accL, h0, h2, hk]⟩
            · exact .inl ⟨by simp [h2], by simp [accL, h0, h2]⟩
      rcases hacc with ⟨hA, hav⟩ | ⟨hA, hmk, hB⟩
      · simp [e10, hv10.isSl, hv10.len, nb, e9, u1, e12, e11, hA]
        intro n1 b1 f1
        simp [make_of f1 b1]
        intro n2 b2 f2
        rw [← hav] at f2
        obtain ⟨v', K3, b', q1, o2, q3⟩ := o.push 2 rfl (v := u) (by simp only [List.length_map, hti]; exact hu) (x := encB (accL kind k)) (bytes := 1) rfl (by simp; omega) (by simp; omega) f1 b1 f2 b2
        rw [hav] at q1
        obtain ⟨K4, q2, o3⟩ := o2.put 4 rfl (j := 2) (u := v') (by simp) q3.one (rt := none) rfl
        simp [q1, q2, e9]
        have u2 := rd_ptr (o3.at 4 (b := n9) rfl) (rt := none) (j := 3) (c := w) rfl rfl
        have h17 := hv13.one
        simp [u2, e13, h17, cells_one h17]
        intro n3 b3' f3
        simp [make_of f3 b3']
        intro n4 b4 f4
        obtain ⟨w', K5, c', p1, o4, p3⟩ := o3.push 1 rfl (v := w) (by rw [hvs]; exact hw') (x := v13) (bytes := 24) h17 (by omega) (by omega) f3 b3' f4 b4
        obtain ⟨K6, p2, o5⟩ := o4.put 4 rfl (j := 3) (u := w') (by simp) p3.one (rt := none) rfl
        simp [p1, p2, e9, e12, wi, hiN]
        rw [hI]
        refine ⟨by simp, v10, v', w', b10, some b', some c', vs ++ [v13], fr ++ [(b13, .arr 2 ((rowU KS nx k (wd t)).map encN))], by simp [e10], by simp [e11, hls, hnext], hin, ?_, by rw [hnext, ← hls]; exact hv10, ?_, ?_, by simp [hvs], ?_⟩
        · refine Own.last (F := [(some c', .arr 67 (vs ++ [v13])), (some b', .arr 4 (((KS.take (i + 1)).map (accL kind)).map encB)), (b10, .arr 2 ((metL (succs (wd t) nx) c0 (i + 1)).map fun k => encI (mvI k))),
            (some n9, .arr 29 [encN t, .int .i64 0, v', w']), (some n6, .arr 29 [.int .i64 0, .int .i64 0, .nils, .nils])]) ?_
          rw [hta, hnext, ← hls]
          simpa using o5
        · simp only [List.length_map, hti] at q3
          exact q3
        · simpa [hvs] using p3
        · rw [htr]
          exact hrows.snoc (by simpa [rowU_len] using hv13)
      rw [hmk] at g10'
      rcases hB with ⟨hB, hav⟩ | ⟨hB, ⟨hC, hav⟩ | ⟨hC, hav⟩⟩
      · simp [e10, hv10.isSl, hv10.len, nb, e9, u1, e12, e11, hA, hil2, g10', hB]
        intro n1 b1 f1
        simp [make_of f1 b1]
        intro n2 b2 f2
        rw [← hav] at f2
        obtain ⟨v', K3, b', q1, o2, q3⟩ := o.push 2 rfl (v := u) (by simp only [List.length_map, hti]; exact hu) (x := encB (accL kind k)) (bytes := 1) rfl (by simp; omega) (by simp; omega) f1 b1 f2 b2
        rw [hav] at q1
        obtain ⟨K4, q2, o3⟩ := o2.put 4 rfl (j := 2) (u := v') (by simp) q3.one (rt := none) rfl
        simp [q1, q2, e9]
        have u2 := rd_ptr (o3.at 4 (b := n9) rfl) (rt := none) (j := 3) (c := w) rfl rfl
        have h17 := hv13.one
        simp [u2, e13, h17, cells_one h17]
        intro n3 b3' f3
        simp [make_of f3 b3']
        intro n4 b4 f4
        obtain ⟨w', K5, c', p1, o4, p3⟩ := o3.push 1 rfl (v := w) (by rw [hvs]; exact hw') (x := v13) (bytes := 24) h17 (by omega) (by omega) f3 b3' f4 b4
        obtain ⟨K6, p2, o5⟩ := o4.put 4 rfl (j := 3) (u := w') (by simp) p3.one (rt := none) rfl
        simp [p1, p2, e9, e12, wi, hiN]
        rw [hI]
        refine ⟨by simp, v10, v', w', b10, some b', some c', vs ++ [v13], fr ++ [(b13, .arr 2 ((rowU KS nx k (wd t)).map encN))], by simp [e10], by simp [e11, hls, hnext], hin, ?_, by rw [hnext, ← hls]; exact hv10, ?_, ?_, by simp [hvs], ?_⟩
        · refine Own.last (F := [(some c', .arr 67 (vs ++ [v13])), (some b', .arr 4 (((KS.take (i + 1)).map (accL kind)).map encB)), (b10, .arr 2 ((metL (succs (wd t) nx) c0 (i + 1)).map fun k => encI (mvI k))),
            (some n9, .arr 29 [encN t, .int .i64 0, v', w']), (some n6, .arr 29 [.int .i64 0, .int .i64 0, .nils, .nils])]) ?_
          rw [hta, hnext, ← hls]
          simpa using o5
        · simp only [List.length_map, hti] at q3
          exact q3
        · simpa [hvs] using p3
        · rw [htr]
          exact hrows.snoc (by simpa [rowU_len] using hv13)
      · simp [e10, hv10.isSl, hv10.len, nb, e9, u1, e12, e11, hA, hil2, g10', hB, e0, hC]
        intro n1 b1 f1
        simp [make_of f1 b1]
        intro n2 b2 f2
        rw [← hav] at f2
        obtain ⟨v', K3, b', q1, o2, q3⟩ := o.push 2 rfl (v := u) (by simp only [List.length_map, hti]; exact hu) (x := encB (accL kind k)) (bytes := 1) rfl (by simp; omega) (by simp; omega) f1 b1 f2 b2
        rw [hav] at q1
        obtain ⟨K4, q2, o3⟩ := o2.put 4 rfl (j := 2) (u := v') (by simp) q3.one (rt := none) rfl
        simp [q1, q2, e9]
        have u2 := rd_ptr (o3.at 4 (b := n9) rfl) (rt := none) (j := 3) (c := w) rfl rfl
        have h17 := hv13.one
        simp [u2, e13, h17, cells_one h17]
        intro n3 b3' f3
        simp [make_of f3 b3']
        intro n4 b4 f4
        obtain ⟨w', K5, c', p1, o4, p3⟩ := o3.push 1 rfl (v := w) (by rw [hvs]; exact hw') (x := v13) (bytes := 24) h17 (by omega) (by omega) f3 b3' f4 b4
        obtain ⟨K6, p2, o5⟩ := o4.put 4 rfl (j := 3) (u := w') (by simp) p3.one (rt := none) rfl
        simp [p1, p2, e9, e12, wi, hiN]
        rw [hI]
        refine ⟨by simp, v10, v', w', b10, some b', some c', vs ++ [v13], fr ++ [(b13, .arr 2 ((rowU KS nx k (wd t)).map encN))], by simp [e10], by simp [e11, hls, hnext], hin, ?_, by rw [hnext, ← hls]; exact hv10, ?_, ?_, by simp [hvs], ?_⟩
        · refine Own.last (F := [(some c', .arr 67 (vs ++ [v13])), (some b', .arr 4 (((KS.take (i + 1)).map (accL kind)).map encB)), (b10, .arr 2 ((metL (succs (wd t) nx) c0 (i + 1)).map fun k => encI (mvI k))),
            (some n9, .arr 29 [encN t, .int .i64 0, v', w']), (some n6, .arr 29 [.int .i64 0, .int .i64 0, .nils, .nils])]) ?_
          rw [hta, hnext, ← hls]
          simpa using o5
        · simp only [List.length_map, hti] at q3
          exact q3
        · simpa [hvs] using p3
        · rw [htr]
          exact hrows.snoc (by simpa [rowU_len] using hv13)
      · simp [e10, hv10.isSl, hv10.len, nb, e9, u1, e12, e11, hA, hil2, g10', hB, e0, hC]
        intro n1 b1 f1
        simp [make_of f1 b1]
        intro n2 b2 f2
        rw [← hav] at f2
        obtain ⟨v', K3, b', q1, o2, q3⟩ := o.push 2 rfl (v := u) (by simp only [List.length_map, hti]; exact hu) (x := encB (accL kind k)) (bytes := 1) rfl (by simp; omega) (by simp; omega) f1 b1 f2 b2
        rw [hav] at q1
        obtain ⟨K4, q2, o3⟩ := o2.put 4 rfl (j := 2) (u := v') (by simp) q3.one (rt := none) rfl
        simp [q1, q2, e9]
        have u2 := rd_ptr (o3.at 4 (b := n9) rfl) (rt := none) (j := 3) (c := w) rfl rfl
        have h17 := hv13.one
        simp [u2, e13, h17, cells_one h17]
        intro n3 b3' f3
        simp [make_of f3 b3']
        intro n4 b4 f4
        obtain ⟨w', K5, c', p1, o4, p3⟩ := o3.push 1 rfl (v := w) (by rw [hvs]; exact hw') (x := v13) (bytes := 24) h17 (by omega) (by omega) f3 b3' f4 b4
        obtain ⟨K6, p2, o5⟩ := o4.put 4 rfl (j := 3) (u := w') (by simp) p3.one (rt := none) rfl
        simp [p1, p2, e9, e12, wi, hiN]
        rw [hI]
        refine ⟨by simp, v10, v', w', b10, some b', some c', vs ++ [v13], fr ++ [(b13, .arr 2 ((rowU KS nx k (wd t)).map encN))], by simp [e10], by simp [e11, hls, hnext], hin, ?_, by rw [hnext, ← hls]; exact hv10, ?_, ?_, by simp [hvs], ?_⟩
        · refine Own.last (F := [(some c', .arr 67 (vs ++ [v13])), (some b', .arr 4 (((KS.take (i + 1)).map (accL kind)).map encB)), (b10, .arr 2 ((metL (succs (wd t) nx) c0 (i + 1)).map fun k => encI (mvI k))),
            (some n9, .arr 29 [encN t, .int .i64 0, v', w']), (some n6, .arr 29 [.int .i64 0, .int .i64 0, .nils, .nils])]) ?_
          rw [hta, hnext, ← hls]
          simpa using o5
        · simp only [List.length_map, hti] at q3
          exact q3
        · simpa [hvs] using p3
        · rw [htr]
          exact hrows.snoc (by simpa [rowU_len] using hv13)
  · have hie : i = (metL (succs (wd t) nx) c0 i).length := by omega
    have hdi : Done (wd t) nx c0 i := by unfold Done DoneL; omega
    have hKi : metL (succs (wd t) nx) c0 i = KS := by
      rw [hKS]
      exact DoneL.same hdi hdone
    rw [hKi] at hie o
    have htk : KS.take i = KS := by rw [hie, List.take_length]
    rw [htk] at o hrows
    have r1 := rd_all (o.at 3 (b := n9) rfl) (n := 4) (rt := none) rfl rfl
    obtain ⟨K9, q9, o9⟩ := o.putAll 4 (b := n6) (n := 4) (ds := [encN t, .int .i64 0, u, w]) rfl rfl rfl (by simp [hu.one, hw'.one]) (rt := none) rfl
    have r9 := rd_all (o9.at 4 (b := n6) rfl) (n := 4) (rt := none) rfl rfl
    have hlt' : ¬ i < (metL (succs (wd t) nx) c0 i).length := hlt
    simp [e12, e10, hv10.isSl, hv10.len, hlt', e9, r1, e6, q9, r9]
    rw [hR]
    refine ⟨o9.keeps, _, rfl, u, w, bo, wo, vs, fr, rfl, ?_, by simpa [autOf, ← hie] using hu, by rw [hvs]; exact hw', by simpa [autOf, rowU] using hrows⟩
    have o10 : Own base H K9 ((wo, .arr 67 vs) :: (bo, .arr 4 ((KS.map (accL kind)).map encB)) :: fr) := o9.sub (.cons_cons _ (.cons_cons _ (.cons _ (.cons _ (.cons _ (List.Sublist.refl _))))))
    exact o10.perm (List.Perm.swap _ _ _)
def plU2 (t n : Nat) : List Pl := none :: ((List.range n).flatMap fun q => (List.range (2 ^ t)).map fun m => some (q, m))
theorem plU2_len (t n : Nat) : (plU2 t n).length = 2 ^ t * n + 1 := by
  have : ∀ n, ((List.range n).flatMap fun q => (List.range (2 ^ t)).map fun m => (some (q, m) : Pl)).length = 2 ^ t * n := by
    intro n
    induction n with
    | zero => rfl
    | succ n ih => rw [List.range_succ (n := n), List.flatMap_append, List.length_append, ih]; simp [Nat.mul_succ]
  simp only [plU2, List.length_cons, this]
theorem mem_plU2 {t n q m : Nat} : some (q, m) ∈ plU2 t n ↔ q < n ∧ m < 2 ^ t := by
  simp [plU2]
theorem plU2_closed {t : Nat} {X : Aut} (h : X.Ok (wd t)) {s : Nat} (hs : s < X.acc.length) : Closed (wd t) (plNx t X) (some (s, 0)) (plU2 t X.acc.length) := by
  refine ⟨mem_plU2.2 ⟨hs, Nat.two_pow_pos t⟩, fun k hk c hc => ?_⟩
  cases k with
  | none => exact List.mem_cons_self
  | some p =>
    obtain ⟨q, m⟩ := p
    obtain ⟨h1, h2⟩ := mem_plU2.1 hk
    rw [plNx_some]
    split
    · exact mem_plU2.2 ⟨h.to h1 hc, padsN_lt t c⟩
    · exact List.mem_cons_self
theorem TA_len2 {t : Nat} {X : Aut} (h : X.Ok (wd t)) {s : Nat} (hs : s < X.acc.length) : (TA t (X.lang s)).acc.length ≤ 2 ^ t * X.acc.length + 1 := by
  obtain ⟨h1, h2, h3⟩ := autOf_met (a := plAcc X) (plU2_closed h hs)
  exact Nat.le_trans (TA_small h1 h1.pos fun cs hc => (h3 cs hc).trans (pl_lang t X cs s 0)).2 (Nat.le_trans h2 (Nat.le_of_eq (plU2_len _ _)))
theorem TA_idem {t : Nat} (ht : t ≤ 3) {X : Aut} (h : X.Ok (wd t)) {s : Nat} (hs : s < X.acc.length) : TA t ((TA t (X.lang s)).lang 0) = TA t (X.lang s) := TA_congr fun cs hc hr => by
  rw [(TA_spec ht h hs).1.lang hc]
  simp [rl, hr]
theorem joinN_TA {t : Nat} (ht : t ≤ 3) {op : Bool → Bool → Bool} {X : Aut} (h : X.Ok (wd t)) {s : Nat} (hs : s < X.acc.length) (M : List Nat → Bool) : joinN t op ((TA t (X.lang s)).lang 0) M = joinN t op (X.lang s) M := by
  have e : TA t (fun cs => op ((TA t (X.lang s)).lang 0 cs) (M cs)) = TA t fun cs => op (X.lang s cs) (M cs) := TA_congr fun cs hc hr => by
    rw [(TA_spec ht h hs).1.lang hc]
    simp [rl, hr]
  unfold joinN
  rw [TA_idem ht h hs, e]
theorem linN_book {kind c0 : Int} {terms U : List Int} (h3 : terms.length ≤ 3) (hU : Closed (wd terms.length) (nxL kind (sumsF terms)) c0 U) (hU2 : 2 ^ terms.length * U.length + 1 ≤ 150) :
    linN kind c0 terms U = joinN terms.length (fun a b => a && b) ((linX kind c0 terms U).lang 0) ((TA terms.length (LD (List.range terms.length))).lang 0) := by
  obtain ⟨hX, hl, -⟩ := linX_ok hU
  have h1 := TA_len2 hX hX.pos
  have h2 : 2 ^ terms.length * (linX kind c0 terms U).acc.length ≤ 2 ^ terms.length * U.length := Nat.mul_le_mul_left _ hl
  unfold linN told
  rw [if_neg (by omega)]
  exact joinN_TA h3 hX hX.pos _
theorem s_LinearRelation (kind : Int) (hkd : kind = 1 ∨ kind = 2) (terms : List Int) (hT : Terms terms) (h0 : 1 ≤ terms.length) (c0 : Int) (hc : -1000 ≤ c0 ∧ c0 ≤ 1000) (U : List Int) (hU : Closed (wd terms.length) (nxL kind (sumsF terms)) c0 U) (hU2 : 2 ^ terms.length * U.length + 1 ≤ 150)
    (hUb : ∀ s ∈ U, -1100000000000 ≤ s ∧ s ≤ 1100000000000) (v : BV) (H : BH) (hv : Rd H 2 v (terms.map encI)) :
    FnDoes (gam base) 61 [encI kind, v, encI c0] H fun r K => RelR base H terms.length (linN kind c0 terms U) r K := by
  have hl3 := hT.1
  have hp2 : 1 ≤ 2 ^ terms.length := Nat.one_le_two_pow
  have hUl : U.length ≤ 150 := by
    have : 1 * U.length ≤ 2 ^ terms.length * U.length := Nat.mul_le_mul_right _ hp2
    omega
  rw [linN_book hl3 hU hU2]
  obtain ⟨R, hR⟩ : ∃ R : BV → BH → Prop, R = fun r K => RelR base H terms.length (joinN terms.length (fun a b => a && b) ((linX kind c0 terms U).lang 0) ((TA terms.length (LD (List.range terms.length))).lang 0)) r K := ⟨_, rfl⟩
  rw [← hR]
  refine FnDoes.of (fn := ir61) rfl ?_
  obtain ⟨hX, hXl, -⟩ := linX_ok hU
  obtain ⟨X, hXe⟩ : ∃ X, X = linX kind c0 terms U := ⟨_, rfl⟩
  have hraw := s_raw (base := base) kind hkd terms hT c0 (by unfold oddI; omega) U hU hUl hUb v
  rw [← hXe] at hR hX hXl hraw
  obtain ⟨t, ht⟩ : ∃ t, t = terms.length := ⟨_, rfl⟩
  have hvl := hv.lenM
  rw [← ht] at hR hX hraw hvl
  simp [ir61]
  intro n6 b6 f6
  have o1 := Own.start (base := base) (H := H) |>.new f6 b6 (s := .arr 29 [.int .i64 0, .int .i64 0, .nils, .nils])
  have hk : ((kind != 1) = true ∧ (kind != 2) = false) ∨ (kind != 1) = false := by
    rcases hkd with rfl | rfl
    · exact .inr rfl
    · exact .inl ⟨rfl, rfl⟩
  have hin1 : inB (t : Int) 1 3 = true := by unfold inB; simp; omega
  have hin2 : inB c0 (-1000) 1000 = true := by unfold inB; simp; omega
  have hs1 := s_in (base := base) (t : Int) 1 3 (H.set n6 (.arr 29 [.int .i64 0, .int .i64 0, .nils, .nils]))
  have hs2 := s_in (base := base) c0 (-1000) 1000 (H.set n6 (.arr 29 [.int .i64 0, .int .i64 0, .nils, .nils]))
  rw [hin1] at hs1
  rw [hin2] at hs2
  rcases hk with ⟨hk1, hk2⟩ | hk1
  · simp [make_of f6 b6, hk1, hk2, hv.isSl, hvl]
    refine callP hs1 ?_
    simp
    refine callP hs2 ?_
    simp
    obtain ⟨H1, hH1⟩ : ∃ H1, H1 = H.set n6 (.arr 29 [.int .i64 0, .int .i64 0, .nils, .nils]) := ⟨_, rfl⟩
    rw [← hH1] at o1
    rw [← hH1]
    obtain ⟨I, hI⟩ : ∃ I : Nat → Env → BH → Prop, I = (fun i e K => e 8 = encN i ∧ K = H1) := ⟨_, rfl⟩
    refine wpC_countK t [(0, encI kind), (1, v), (2, encI c0), (6, .ptr n6 0)] I (i0 := 0) ?_ ?_ ?_ (Nat.zero_le _) ?_
    · rfl
    · simp
    · rw [hI]
      exact ⟨by simp, rfl⟩
    rintro i e K hi ⟨e0, e1, e2, e6, -⟩ hh
    rw [hI] at hh
    obtain ⟨e8, rfl⟩ := hh
    simp only [] at e0 e1 e2 e6
    have wi := wS (n := i) (by omega)
    by_cases hlt : i < t
    · have gi := (hv.keeps o1.keeps).at (i := i) (by omega) (rt := none) rfl
      have hti : i < terms.length := by omega
      have gi' : K.rd none none (v.sat i 1) = some (encI terms[i]) := by simpa using gi
      have hg := hT.2 _ (List.getElem_mem hti)
      have hin3 : inB terms[i] (-20) 20 = true := by unfold inB; simp; omega
      have hs3 := s_in (base := base) terms[i] (-20) 20 K
      rw [hin3] at hs3
      simp [e1, e8, hv.isSl, hvl, hlt, gi']
      refine callP hs3 ?_
      simp [e8, wi, hlt]
      rw [hI]
      exact ⟨by simp, rfl⟩
    · simp [e0, e1, e2, e8, hv.isSl, hvl, hlt]
      refine (hraw K (hv.keeps o1.keeps)).step fun r K1 k1 hr => ?_
      obtain ⟨m, rfl, hm⟩ := hr
      have hm := hm.rd
      obtain ⟨u, w, rfl, hu, hw⟩ := id hm
      have u1 := hu.one
      have w1 := one_of_isSl hw.isSl
      simp [u1, w1]
      intro n9 b9 f9
      obtain ⟨K2, g2, o2⟩ := (Own.start (base := base) (H := K1) |>.new f9 b9 (s := .arr 29 [.int .i64 0, .int .i64 0, .nils, .nils])).putAll 0 (b := n9) rfl (n := 4) (ds := [encN t, encN 0, u, w]) rfl rfl (by simp [u1, w1]) (rt := none) rfl
      have r9 := rd_all (o2.at 0 (b := n9) rfl) (n := 4) (rt := none) rfl rfl
      simp [make_of f9 b9, g2, r9]
      have hm2 := hm.keeps o2.keeps
      refine (s_told (base := base) t 0 X _ K2 hm2 (by omega)).step fun r K3 k3 hr => ?_
      rw [if_neg (by omega)] at hr
      subst hr
      simp [u1, w1]
      intro n11 b11 f11
      obtain ⟨K4, g4, o4⟩ := (Own.start (base := base) (H := K3) |>.new f11 b11 (s := .arr 29 [.int .i64 0, .int .i64 0, .nils, .nils])).putAll 0 (b := n11) rfl (n := 4) (ds := [encN t, encN 0, u, w]) rfl rfl (by simp [u1, w1]) (rt := none) rfl
      have hm4 := hm2.keeps (k3.trans o4.keeps)
      simp [make_of f11 b11, g4]
      refine (s_domain (base := base) K4).step fun r K5 k5 hr => ?_
      rw [LD_dom] at hr
      have hd := hr.rd
      obtain ⟨du, dw, rfl, hdu, hdw⟩ := id hd
      have du1 := hdu.one
      have dw1 := one_of_isSl hdw.isSl
      simp [du1, dw1]
      intro n13 b13 f13
      obtain ⟨K6, g6, o6⟩ := (Own.start (base := base) (H := K5) |>.new f13 b13 (s := .arr 101 [.int .i64 0, .int .i64 0, .nils, .nils, .nils])).putAll 0 (b := n13) rfl (n := 5) (ds := [encN 1, encN 0, du, dw, .nils]) rfl rfl (by simp [du1, dw1]) (rt := none) rfl
      simp [make_of f13 b13, g6, e1, hv.isSl, hvl]
      refine (s_frame (base := base) t n13 (by omega) (by omega) du dw .nils K6 (o6.at 0 (b := n13) rfl) (hd.keeps o6.keeps)).step fun r K7 k7 hr => ?_
      obtain ⟨mf, rfl, hmf⟩ := hr
      obtain ⟨fu, fw, rfl, hfu, hfw⟩ := id hmf
      have fu1 := hfu.one
      have fw1 := one_of_isSl hfw.isSl
      simp [fu1, fw1]
      intro n14 b14 f14
      obtain ⟨K8, g8, o8⟩ := (Own.start (base := base) (H := K7) |>.new f14 b14 (s := .arr 29 [.int .i64 0, .int .i64 0, .nils, .nils])).putAll 0 (b := n14) rfl (n := 4) (ds := [encN t, encN 0, fu, fw]) rfl rfl (by simp [fu1, fw1]) (rt := none) rfl
      have k8 := ((k5.trans o6.keeps).trans k7).trans o8.keeps
      have p11 := rd_keeps k8 (rd_all (o4.at 0 (b := n11) rfl) (n := 4) (rt := none) rfl rfl)
      have p14 := rd_all (o8.at 0 (b := n14) rfl) (n := 4) (rt := none) rfl rfl
      simp [make_of f14 b14, g8, p11, p14]
      obtain ⟨hD1, hD2⟩ := LD_small (t := t) (by omega) (S := List.range t) (fun k hk => List.mem_range.1 hk)
      refine (s_both (base := base) t 0 0 (by omega) (by omega) _ _ _ _ K8 (hm4.keeps k8) (hmf.keeps o8.keeps) hX hD1.ok hX.pos hD1.ok.pos (by omega) (by omega)).step fun r K9 k9 hr => ?_
      obtain ⟨m, K10, e8', g10, r10, kk, hrel⟩ := rel_end (base := base) (o1.call (k1.trans (o2.keeps.trans (k3.trans (o4.keeps.trans k8))))) (i := 0) (n2 := n6) rfl rfl k9 hr
      subst e8'
      simp [e6, g10, r10]
      rw [hR]
      exact ⟨kk, hrel⟩
  · simp [make_of f6 b6, hk1, hv.isSl, hvl]
    refine callP hs1 ?_
    simp
    refine callP hs2 ?_
    simp
    obtain ⟨H1, hH1⟩ : ∃ H1, H1 = H.set n6 (.arr 29 [.int .i64 0, .int .i64 0, .nils, .nils]) := ⟨_, rfl⟩
    rw [← hH1] at o1
    rw [← hH1]
    obtain ⟨I, hI⟩ : ∃ I : Nat → Env → BH → Prop, I = (fun i e K => e 8 = encN i ∧ K = H1) := ⟨_, rfl⟩
    refine wpC_countK t [(0, encI kind), (1, v), (2, encI c0), (6, .ptr n6 0)] I (i0 := 0) ?_ ?_ ?_ (Nat.zero_le _) ?_
    · rfl
    · simp
    · rw [hI]
      exact ⟨by simp, rfl⟩
    rintro i e K hi ⟨e0, e1, e2, e6, -⟩ hh
    rw [hI] at hh
    obtain ⟨e8, rfl⟩ := hh
    simp only [] at e0 e1 e2 e6
    have wi := wS (n := i) (by omega)
    by_cases hlt : i < t
    · have gi := (hv.keeps o1.keeps).at (i := i) (by omega) (rt := none) rfl
      have hti : i < terms.length := by omega
      have gi' : K.rd none none (v.sat i 1) = some (encI terms[i]) := by simpa using gi
      have hg := hT.2 _ (List.getElem_mem hti)
      have hin3 : inB terms[i] (-20) 20 = true := by unfold inB; simp; omega
      have hs3 := s_in (base := base) terms[i] (-20) 20 K
      rw [hin3] at hs3
      simp [e1, e8, hv.isSl, hvl, hlt, gi']
      refine callP hs3 ?_
      simp [e8, wi, hlt]
      rw [hI]
      exact ⟨by simp, rfl⟩
    · simp [e0, e1, e2, e8, hv.isSl, hvl, hlt]
      refine (hraw K (hv.keeps o1.keeps)).step fun r K1 k1 hr => ?_
      obtain ⟨m, rfl, hm⟩ := hr
      have hm := hm.rd
      obtain ⟨u, w, rfl, hu, hw⟩ := id hm
      have u1 := hu.one
      have w1 := one_of_isSl hw.isSl
      simp [u1, w1]
      intro n9 b9 f9
      obtain ⟨K2, g2, o2⟩ := (Own.start (base := base) (H := K1) |>.new f9 b9 (s := .arr 29 [.int .i64 0, .int .i64 0, .nils, .nils])).putAll 0 (b := n9) rfl (n := 4) (ds := [encN t, encN 0, u, w]) rfl rfl (by simp [u1, w1]) (rt := none) rfl
      have r9 := rd_all (o2.at 0 (b := n9) rfl) (n := 4) (rt := none) rfl rfl
      simp [make_of f9 b9, g2, r9]
      have hm2 := hm.keeps o2.keeps
      refine (s_told (base := base) t 0 X _ K2 hm2 (by omega)).step fun r K3 k3 hr => ?_
      rw [if_neg (by omega)] at hr
      subst hr
      simp [u1, w1]
      intro n11 b11 f11
      obtain ⟨K4, g4, o4⟩ := (Own.start (base := base) (H := K3) |>.new f11 b11 (s := .arr 29 [.int .i64 0, .int .i64 0, .nils, .nils])).putAll 0 (b := n11) rfl (n := 4) (ds := [encN t, encN 0, u, w]) rfl rfl (by simp [u1, w1]) (rt := none) rfl
      have hm4 := hm2.keeps (k3.trans o4.keeps)
      simp [make_of f11 b11, g4]
      refine (s_domain (base := base) K4).step fun r K5 k5 hr => ?_
      rw [LD_dom] at hr
      have hd := hr.rd
      obtain ⟨du, dw, rfl, hdu, hdw⟩ := id hd
      have du1 := hdu.one
      have dw1 := one_of_isSl hdw.isSl
      simp [du1, dw1]
      intro n13 b13 f13
      obtain ⟨K6, g6, o6⟩ := (Own.start (base := base) (H := K5) |>.new f13 b13 (s := .arr 101 [.int .i64 0, .int .i64 0, .nils, .nils, .nils])).putAll 0 (b := n13) rfl (n := 5) (ds := [encN 1, encN 0, du, dw, .nils]) rfl rfl (by simp [du1, dw1]) (rt := none) rfl
      simp [make_of f13 b13, g6, e1, hv.isSl, hvl]
      refine (s_frame (base := base) t n13 (by omega) (by omega) du dw .nils K6 (o6.at 0 (b := n13) rfl) (hd.keeps o6.keeps)).step fun r K7 k7 hr => ?_
      obtain ⟨mf, rfl, hmf⟩ := hr
      obtain ⟨fu, fw, rfl, hfu, hfw⟩ := id hmf
      have fu1 := hfu.one
      have fw1 := one_of_isSl hfw.isSl
      simp [fu1, fw1]
      intro n14 b14 f14
      obtain ⟨K8, g8, o8⟩ := (Own.start (base := base) (H := K7) |>.new f14 b14 (s := .arr 29 [.int .i64 0, .int .i64 0, .nils, .nils])).putAll 0 (b := n14) rfl (n := 4) (ds := [encN t, encN 0, fu, fw]) rfl rfl (by simp [fu1, fw1]) (rt := none) rfl
      have k8 := ((k5.trans o6.keeps).trans k7).trans o8.keeps
      have p11 := rd_keeps k8 (rd_all (o4.at 0 (b := n11) rfl) (n := 4) (rt := none) rfl rfl)
      have p14 := rd_all (o8.at 0 (b := n14) rfl) (n := 4) (rt := none) rfl rfl
      simp [make_of f14 b14, g8, p11, p14]
      obtain ⟨hD1, hD2⟩ := LD_small (t := t) (by omega) (S := List.range t) (fun k hk => List.mem_range.1 hk)
      refine (s_both (base := base) t 0 0 (by omega) (by omega) _ _ _ _ K8 (hm4.keeps k8) (hmf.keeps o8.keeps) hX hD1.ok hX.pos hD1.ok.pos (by omega) (by omega)).step fun r K9 k9 hr => ?_
      obtain ⟨m, K10, e8', g10, r10, kk, hrel⟩ := rel_end (base := base) (o1.call (k1.trans (o2.keeps.trans (k3.trans (o4.keeps.trans k8))))) (i := 0) (n2 := n6) rfl rfl k9 hr
      subst e8'
      simp [e6, g10, r10]
      rw [hR]
      exact ⟨kk, hrel⟩
theorem s_LessNumbers (H : BH) : FnDoes (gam base) 30 [] H fun v K => RelR base H 2 lessN2 (.tup [v, encN lessN2.2]) K := by
  obtain ⟨R, hR⟩ : ∃ R : BV → BH → Prop, R = fun v K => RelR base H 2 lessN2 (.tup [v, encN lessN2.2]) K := ⟨_, rfl⟩
  rw [← hR]
  refine FnDoes.of (fn := ir30) rfl ?_
  simp [ir30]
  intro n0 b0 f0
  simp [make_of f0 b0]
  intro n4 b4 f4
  have o1 := Own.start (base := base) (H := H) |>.new f0 b0 (s := .arr 29 [.int .i64 0, .int .i64 0, .nils, .nils]) |>.new f4 b4 (s := .arr 2 [.int .i64 1, .int .i64 (-1)])
  simp [make_of f4 b4]
  have hv : Rd _ 2 (.sl n4 0 2) (([1, -1] : List Int).map encI) := o1.rd 0 rfl rfl
  have hl := s_LinearRelation (base := base) 2 (.inr rfl) [1, -1] less_terms (by decide) (-1) (by decide) [-1, 0] less_closed (by decide) (by decide) (.sl n4 0 2) _ hv
  refine hl.step fun r K1 k1 hr => ?_
  have hr : RelR base _ 2 lessN2 r K1 := hr
  obtain ⟨G, hG⟩ : ∃ G, G = lessN2 := ⟨_, rfl⟩
  rw [← hG] at hr hR
  obtain ⟨m, e, hm⟩ := hr.out
  obtain ⟨a1, a2, u, x, e2, p1, p2, p3, p4⟩ := hm.ones
  subst e
  simp [e2, p1, p2, p3, p4]
  intro n1 b1 f1
  obtain ⟨K2, g2, o2⟩ := (Own.start (base := base) (H := K1) |>.new f1 b1 (s := .arr 29 [.int .i64 0, .int .i64 0, .nils, .nils])).putAll 0 (b := n1) rfl (n := 4) (ds := [a1, a2, u, x]) rfl rfl (by simp [p1, p2, p3, p4]) (rt := none) rfl
  have r2 := rd_all (o2.at 0 (b := n1) rfl) (n := 4) (rt := none) rfl rfl
  simp [make_of f1 b1, g2, r2]
  obtain ⟨m', K8, e8, g8, r8, kk, hrel⟩ := rel_end (base := base) o1 (i := 1) (n2 := n0) rfl rfl (k1.trans o2.keeps) (hr.call o2.keeps)
  simp only [BV.tup.injEq, List.cons.injEq, and_true] at e8
  obtain rfl := e8
  rw [e2] at g8 r8 hrel
  simp [g8, r8]
  rw [hR]
  exact ⟨kk, hrel⟩
/-- The law of a relation without arguments. -/
theorem law_LessNumbers (H : BH) : FnDoes (gam base) 10 [] H fun u _ => u = .bool true := by
  refine FnDoes.of (fn := ir10) rfl ?_
  obtain ⟨G, hG⟩ : ∃ G, G = lessN2 := ⟨_, rfl⟩
  have hgood : GoodC 2 G := by rw [hG]; exact linN_good (terms := [1, -1]) (by decide) less_closed
  have gd := GoodR.facts hgood.good
  have hs := fun H => s_LessNumbers (base := base) H
  have hi := fun H => i_LessNumbers (base := base) H
  rw [← hG] at hs hi
  obtain ⟨gd1, gd2, gd3⟩ := gd
  obtain ⟨T, S, acc, rows, hr4⟩ : ∃ T S acc rows, resQ 2 G = (T, S, acc, rows) := ⟨_, _, _, _, rfl⟩
  rw [hr4] at gd1 gd2 gd3
  rw [show wd 2 = 8 from by decide] at gd3
  simp only [] at gd1 gd2 gd3
  have take : ∀ {H K : BH} {v : BV}, RelR base H 2 G (.tup [v, encN G.2]) K → H.Keeps K → OwnQ base H K T S acc rows v [] := fun {H K v} h k => by
    obtain ⟨m, e, h⟩ := h.ownR k
    simp only [BV.tup.injEq, List.cons.injEq, and_true] at e
    obtain rfl := e
    unfold OwnR at h
    rw [hr4] at h
    exact h
  have big1 : acc.length ≤ 4611686018427387904 := by omega
  have big2 : rows.length ≤ 4611686018427387904 := by omega
  have big3 : ∀ r ∈ rows, r.length ≤ 4611686018427387904 := fun r hr => by rw [gd3 r hr]; decide
  simp [ir10]
  refine (hs H).step fun vE K2 k2 hE0 => ?_
  have hE := take hE0 k2
  obtain ⟨uE, xE, eE, uE1, xE1⟩ := OwnQ.one hE
  have hEr := hE.rd
  subst eE
  simp [uE1, xE1]
  intro n3 b3 f3
  obtain ⟨K3, g3, o3⟩ := (Own.start (base := base) (H := K2) |>.new f3 b3 (s := .arr 29 [.int .i64 0, .int .i64 0, .nils, .nils])).putAll 0 (b := n3) (n := 4) (ds := [.int .i64 T, .int .i64 S, uE, xE]) rfl rfl rfl (by simp [uE1, xE1]) (rt := none) rfl
  have r3 := rd_all (o3.at 0 (b := n3) rfl) (n := 4) (rt := none) rfl rfl
  simp [make_of f3 b3, g3]
  have hEr := hEr.keeps o3.keeps
  have kk := k2.trans o3.keeps
  refine (hi K3).step fun vG K6 k6 hG0 => ?_
  have hG1 := take hG0 k6
  obtain ⟨uG, xG, eG, uG1, xG1⟩ := OwnQ.one hG1
  subst eG
  obtain ⟨Y, oY, hY⟩ := hG1.rows
  simp [uG1, xG1]
  intro n6 b6 f6
  obtain ⟨K7, g7, o7⟩ := (oY.new f6 b6 (s := .arr 29 [.int .i64 0, .int .i64 0, .nils, .nils])).putAll 0 (b := n6) (n := 4) (ds := [.int .i64 T, .int .i64 S, uG, xG]) rfl rfl rfl (by simp [uG1, xG1]) (rt := none) rfl
  have o7 : Own base K3 K7 ((some n6, .arr 29 [.int .i64 T, .int .i64 S, uG, xG]) :: Y) := o7
  have r6 := rd_all (o7.at 0 (b := n6) rfl) (n := 4) (rt := none) rfl rfl
  have r3' := rd_keeps o7.keeps r3
  simp [make_of f6 b6, g7, r6, r3']
  have q7 := hY (H' := K3) (K' := K7) (Z := [(some n6, .arr 29 [.int .i64 T, .int .i64 S, uG, xG])]) (o7.perm (List.perm_append_comm (l₂ := [_])))
  refine (q_rel (base := base) T S acc rows _ _ K7 q7.rd (hEr.keeps o7.keeps) big1 big2 big3).step fun v' K8 k8 hv' => ?_
  subst hv'
  have q8 := q7.call k8
  have r6 := rd_keeps k8 r6
  simp [r6]
  have hpw : rows.length * 8 ≤ 150 * 8 := by omega
  refine (mark_rel (base := base) 1 8 q8 gd3 (by omega) (by omega)).step fun v13 K13 hh => ?_
  obtain ⟨rfl, q13⟩ := hh
  have o13 := q13.rest
  have r6 := rd_all (o13.at 0 (b := n6) rfl) (n := 4) (rt := none) rfl rfl
  simp [r6]
  refine (held_rel (base := base) q13 (by omega) (by omega)).step fun v14 K14 k14 hv14 => ?_
  subst hv14
  have neg2 : ¬ (1 : Int) + (acc.length : Int) + (rows.length : Int) * 8 < 0 := by omega
  simp [neg2]
  refine (hi K14).step fun vN K16 k16 hN0 => ?_
  have hN := take hN0 k16
  obtain ⟨uN, xN, eN, uN1, xN1⟩ := OwnQ.one hN
  subst eN
  simp [uN1, xN1]
  intro n11 b11 f11
  obtain ⟨K17, g17, o17⟩ := (Own.start (base := base) (H := K16) |>.new f11 b11 (s := .arr 29 [.int .i64 0, .int .i64 0, .nils, .nils])).putAll 0 (b := n11) (n := 4) (ds := [.int .i64 T, .int .i64 S, uN, xN]) rfl rfl rfl (by simp [uN1, xN1]) (rt := none) rfl
  have r11 := rd_all (o17.at 0 (b := n11) rfl) (n := 4) (rt := none) rfl rfl
  have q17 := ((q13.call k14).call k16).call o17.keeps
  have r3' := rd_keeps q17.keeps r3
  simp [make_of f11 b11, g17, r11, r3']
  refine (q_rel (base := base) T S acc rows _ _ K17 (hN.rd.keeps o17.keeps) (hEr.keeps q17.keeps) big1 big2 big3).step fun v' K18 k18 hv' => ?_
  subst hv'
  have q18 := q17.call k18
  have r6 := rd_all (q18.rest.at 0 (b := n6) rfl) (n := 4) (rt := none) rfl rfl
  simp [r6]
  refine (held_rel (base := base) q18 (by omega) (by omega)).step fun v19 K19 k19 hv19 => ?_
  subst hv19
  simp [neg2]
  exact kk.trans (q18.keeps.trans k19)
end Go.Proofs.YtcnkhkmapgbodaaGreatDoor.W
end

section
namespace Go.Proofs.YtcnkhkmapgbodaaGreatDoor.W
set_option linter.unusedVariables false
set_option linter.unusedSimpArgs false
open Go.B
variable {base : Nat}
attribute [local simp] wpC_skip wpC_region wpC_seq wpC_true wpC_false wpC_block wpC_exit wpC_ret wpO_nil wpO_n wpO_tt wpO_ff wpO_tf wpO_ft wpO_u wpS_mov wpS_pick wpS_build wpS_load wpS_store wpS_nilck wpS_bin wpS_beq wpS_isnil wpS_eqs wpS_not wpS_neg wpS_conv wpS_lea wpS_fld wpS_idx wpS_idxs wpS_slice wpS_sslice wpS_mkfn wpS_mset wpS_look wpS_ext wpS_len wpS_new wpS_box wpS_mk wpS_mkmap wpS_mksl wpS_app wpS_fn wpS_call after_some pthen_n pthen_x pthen_r pin BExit.outOf puto_some puto_none put_eq put_ne Opd.ev argEnv op1_mov op1_pick op1_new op1_box op1_load op1_nilck op1_bin op1_beq op1_not op1_neg op1_conv op1_lea op1_fld op1_len0 op1_len1 op1_idx op1_ext op1_build op1_mk op1_stw op1_mksl op1_eqs pureBin isShift resOf resVals val_tmp val_cell oneOf one_int cells_int one_bool cells_bool one_str cells_str one_nilp cells_nilp one_ptr cells_ptr one_nils cells_nils one_sl cells_sl one_sle cells_sle one_nilm cells_nilm one_mp cells_mp one_nilf cells_nilf one_fn cells_fn one_nili cells_nili cells_agg isSl_sl slen_sl sat_sl make_of asm rtOk wpS_b2s op1_b2s wpS_imax op1_imax wpS_imin op1_imin wpS_i2s op1_i2s op1_isnil Option.map_some gam_base op1_app op1_idxs wpS_idxa op1_idxa op1_sslice bound_none bound_some nat_of op1_mkmap op1_mset op1_look op1_len2 op1_mkfn Go.B.fillB Has
section
variable {H : Type} {enc : TypeId × Value → H} {W : World} {held : Bool}
theorem u2 : Tryz.prog.underlying 2 = some (.int .i64) := by kernel_rfl
theorem u4 : Tryz.prog.underlying 4 = some .bool := by kernel_rfl
end
end Go.Proofs.YtcnkhkmapgbodaaGreatDoor.W
end

section
namespace Go.Proofs
open Go.Shelf Go.B
def Tryz.laysItoa_ren : Go.Shelf.Ren := ⟨fun | 171 => 206 | 243 => 217 | 246 => 220 | 283 => 222 | 284 => 223 | 285 => 224 | 286 => 225 | 129 => 193 | 317 => 226 | 318 => 227 | 319 => 228 | 320 => 229 | 337 => 230 | 338 => 231 | n => n, fun | 3 => 3 | 9 => 9 | 2 => 2 | 4 => 4 | 171 => 202 | 0 => 0 | 53 => 172 | 37 => 116 | 5 => 5 | 173 => 204 | 212 => 207 | 51 => 170 | 20 => 20 | 213 => 208 | 46 => 108 | 232 => 209 | 233 => 210 | n => n, fun | 17 => 0 | 18 => 1 | 19 => 2 | n => n⟩
theorem Tryz.laysItoa : Go.Proofs.LaysM.n171 Tryz.prog Tryz.laysItoa_ren where
  mixed := by kernel_rfl
  f129 := Tryz.func193.trans (congrArg some (by kernel_rfl))
  f171 := Tryz.func206.trans (congrArg some (by kernel_rfl))
  f243 := Tryz.func217.trans (congrArg some (by kernel_rfl))
  f246 := Tryz.func220.trans (congrArg some (by kernel_rfl))
  f283 := Tryz.func222.trans (congrArg some (by kernel_rfl))
  f284 := Tryz.func223.trans (congrArg some (by kernel_rfl))
  f285 := Tryz.func224.trans (congrArg some (by kernel_rfl))
  f286 := Tryz.func225.trans (congrArg some (by kernel_rfl))
  f317 := Tryz.func226.trans (congrArg some (by kernel_rfl))
  f318 := Tryz.func227.trans (congrArg some (by kernel_rfl))
  f319 := Tryz.func228.trans (congrArg some (by kernel_rfl))
  f320 := Tryz.func229.trans (congrArg some (by kernel_rfl))
  f337 := Tryz.func230.trans (congrArg some (by kernel_rfl))
  f338 := Tryz.func231.trans (congrArg some (by kernel_rfl))
  t0 := Tryz.underlying0
  a0 := Tryz.isAgg0
  z0 := Tryz.sizeOf0
  v0 := Tryz.zeroValue0
  t2 := Tryz.underlying2
  a2 := Tryz.isAgg2
  z2 := Tryz.sizeOf2
  v2 := Tryz.zeroValue2
  t3 := Tryz.underlying3
  a3 := Tryz.isAgg3
  z3 := Tryz.sizeOf3
  v3 := Tryz.zeroValue3
  t4 := Tryz.underlying4
  a4 := Tryz.isAgg4
  z4 := Tryz.sizeOf4
  v4 := Tryz.zeroValue4
  t5 := Tryz.underlying5
  a5 := Tryz.isAgg5
  z5 := Tryz.sizeOf5
  v5 := Tryz.zeroValue5
  t9 := Tryz.underlying9
  a9 := Tryz.isAgg9
  z9 := Tryz.sizeOf9
  v9 := Tryz.zeroValue9
  t20 := Tryz.underlying20
  a20 := Tryz.isAgg20
  z20 := Tryz.sizeOf20
  v20 := Tryz.zeroValue20
  t37 := Tryz.underlying116
  a37 := Tryz.isAgg116
  z37 := Tryz.sizeOf116
  v37 := Tryz.zeroValue116
  t46 := Tryz.underlying108
  a46 := Tryz.isAgg108
  z46 := Tryz.sizeOf108
  v46 := Tryz.zeroValue108
  t51 := Tryz.underlying170
  a51 := Tryz.isAgg170
  z51 := Tryz.sizeOf170
  v51 := Tryz.zeroValue170
  t53 := Tryz.underlying172
  a53 := Tryz.isAgg172
  z53 := Tryz.sizeOf172
  v53 := Tryz.zeroValue172
  t171 := Tryz.underlying202
  a171 := Tryz.isAgg202
  z171 := Tryz.sizeOf202
  v171 := Tryz.zeroValue202
  t173 := Tryz.underlying204
  a173 := Tryz.isAgg204
  z173 := Tryz.sizeOf204
  v173 := Tryz.zeroValue204
  t212 := Tryz.underlying207
  a212 := Tryz.isAgg207
  z212 := Tryz.sizeOf207
  v212 := Tryz.zeroValue207
  t213 := Tryz.underlying208
  a213 := Tryz.isAgg208
  z213 := Tryz.sizeOf208
  t232 := Tryz.underlying209
  a232 := Tryz.isAgg209
  z232 := Tryz.sizeOf209
  v232 := Tryz.zeroValue209
  t233 := Tryz.underlying210
  a233 := Tryz.isAgg210
  z233 := Tryz.sizeOf210
  v233 := Tryz.zeroValue210
  g17 := by kernel_rfl
  g18 := by kernel_rfl
  g19 := by kernel_rfl
  i0 := by kernel_rfl
  i2 := by kernel_rfl
  i3 := by kernel_rfl
  i4 := by kernel_rfl
  i5 := by kernel_rfl
  i9 := by kernel_rfl
  i20 := by kernel_rfl
  i37 := by kernel_rfl
  i46 := by kernel_rfl
  i51 := by kernel_rfl
  i53 := by kernel_rfl
  i171 := by kernel_rfl
  i173 := by kernel_rfl
  i212 := by kernel_rfl
  i232 := by kernel_rfl
  i233 := by kernel_rfl
  m17 := by kernel_rfl
  m18 := by kernel_rfl
  m19 := by kernel_rfl
def Tryz.laysDel_ren : Go.Shelf.Ren := ⟨fun | 23 => 146 | n => n, fun | 22 => 84 | 3 => 3 | 4 => 4 | 0 => 0 | n => n, fun | n => n⟩
theorem Tryz.laysDel : Go.Proofs.Lays2.n23 Tryz.prog Tryz.laysDel_ren where
  mixed := by kernel_rfl
  f23 := Tryz.func146.trans (congrArg some (by kernel_rfl))
  t0 := Tryz.underlying0
  a0 := Tryz.isAgg0
  z0 := Tryz.sizeOf0
  v0 := Tryz.zeroValue0
  t3 := Tryz.underlying3
  a3 := Tryz.isAgg3
  z3 := Tryz.sizeOf3
  v3 := Tryz.zeroValue3
  t4 := Tryz.underlying4
  a4 := Tryz.isAgg4
  z4 := Tryz.sizeOf4
  v4 := Tryz.zeroValue4
  t22 := Tryz.underlying84
  a22 := Tryz.isAgg84
  z22 := Tryz.sizeOf84
  v22 := Tryz.zeroValue84
  i3 := by kernel_rfl
def Tryz.laysIns_ren : Go.Shelf.Ren := ⟨fun | 21 => 198 | 27 => 215 | 28 => 216 | 35 => 219 | 39 => 221 | n => n, fun | 22 => 84 | 3 => 3 | 4 => 4 | 0 => 0 | n => n, fun | n => n⟩
theorem Tryz.laysIns : Go.Proofs.Lays2.n21 Tryz.prog Tryz.laysIns_ren where
  mixed := by kernel_rfl
  f21 := Tryz.func198.trans (congrArg some (by kernel_rfl))
  f27 := Tryz.func215.trans (congrArg some (by kernel_rfl))
  f28 := Tryz.func216.trans (congrArg some (by kernel_rfl))
  f35 := Tryz.func219.trans (congrArg some (by kernel_rfl))
  f39 := Tryz.func221.trans (congrArg some (by kernel_rfl))
  t0 := Tryz.underlying0
  a0 := Tryz.isAgg0
  z0 := Tryz.sizeOf0
  v0 := Tryz.zeroValue0
  t3 := Tryz.underlying3
  a3 := Tryz.isAgg3
  z3 := Tryz.sizeOf3
  v3 := Tryz.zeroValue3
  t4 := Tryz.underlying4
  a4 := Tryz.isAgg4
  z4 := Tryz.sizeOf4
  v4 := Tryz.zeroValue4
  t22 := Tryz.underlying84
  a22 := Tryz.isAgg84
  z22 := Tryz.sizeOf84
  v22 := Tryz.zeroValue84
  i3 := by kernel_rfl
theorem tryz_ext {base : Nat} {w0 : World} (htab : Lib.TabIs Tryz.prog w0 "internal/strconv.uint64pow10" .u64 Lib.pow10Tab) : Sound Tryz.prog base w0 False (orC (itoaB 206) (orC (delB base 146 3) (insB base 198 3))) :=
  orC_sound (itoaB_sound (enters_of Tryz.func206 rfl rfl) htab fun n h0 h1 w ht => Any.strconv_Itoa Tryz.laysItoa n h0 h1 w ht)
    (orC_sound (delB_sound (enters_of Tryz.func146 rfl rfl) (by kernel_rfl) fun blk off cap i j zs w hH hc hm hij hj => Any.slices_Delete_int Tryz.laysDel blk off cap i j zs w hH hc hm hij hj)
      (insB_sound (enters_of Tryz.func198 rfl rfl) (by kernel_rfl) (insDoes_of Tryz.laysIns)))
theorem tryz_framed {base : Nat} : Framed (orC (itoaB 206) (orC (delB base 146 3) (insB base 198 3))) := orC_framed (itoaB_framed 206) (orC_framed (delB_framed base 146 3) (insB_framed base 198 3))
end Go.Proofs
end
