/-
Texts of our own, put together: H10, H11, H12, J1, J2, J3, J4, J5, J6, J7, O1, X1.
-/
import Derived.Test.YtcnkhkmapgbodaaGreatDoorQ7
import Derived.Lib.SmallJoins
import Derived.Deep.Grids
import Derived.Deep.Matrix
import Derived.ChangeArms
import Derived.KernelRfl
import Derived.Shelf.Strconv.Itoa3
import Derived.Shelf.Slices.Delete
import Derived.Shelf.Abstract
import Derived.Ground.NamesProg
import Derived.Ground.Names2Prog
section
namespace Go.Proofs.YtcnkhkmapgbodaaGreatDoor.W
set_option linter.unusedVariables false
set_option linter.unusedSimpArgs false
open Go.B
open Go.Au
variable {base : Nat}
attribute [local simp] wpC_skip wpC_region wpC_seq wpC_true wpC_false wpC_block wpC_exit wpC_ret wpO_nil wpO_n wpO_tt wpO_ff wpO_tf wpO_ft wpO_u wpS_mov wpS_pick wpS_build wpS_load wpS_store wpS_nilck wpS_bin wpS_beq wpS_isnil wpS_eqs wpS_not wpS_neg wpS_conv wpS_lea wpS_fld wpS_idx wpS_idxs wpS_slice wpS_sslice wpS_mkfn wpS_mset wpS_look wpS_ext wpS_len wpS_new wpS_box wpS_mk wpS_mkmap wpS_mksl wpS_app wpS_fn wpS_call after_some pthen_n pthen_x pthen_r pin BExit.outOf puto_some puto_none put_eq put_ne Opd.ev argEnv op1_mov op1_pick op1_new op1_box op1_load op1_nilck op1_bin op1_beq op1_not op1_neg op1_conv op1_lea op1_fld op1_len0 op1_len1 op1_idx op1_ext op1_build op1_mk op1_stw op1_mksl op1_eqs pureBin isShift resOf resVals val_tmp val_cell oneOf one_int cells_int one_bool cells_bool one_str cells_str one_nilp cells_nilp one_ptr cells_ptr one_nils cells_nils one_sl cells_sl one_sle cells_sle one_nilm cells_nilm one_mp cells_mp one_nilf cells_nilf one_fn cells_fn one_nili cells_nili cells_agg isSl_sl slen_sl sat_sl make_of asm rtOk wpS_b2s op1_b2s wpS_imax op1_imax wpS_imin op1_imin wpS_i2s op1_i2s op1_isnil Option.map_some gam_base op1_app op1_idxs wpS_idxa op1_idxa op1_sslice bound_none bound_some nat_of op1_mkmap op1_mset op1_look op1_len2 op1_mkfn Go.B.fillB Has
theorem _root_.Go.B.Own.last2 {H K : BH} {p : Sl} {F fr gr : List Sl} (o : Own base H K (p :: (F ++ (fr ++ gr)))) : Own base H K (F ++ ((fr ++ [p]) ++ gr)) := o.perm (by
  have h1 : (p :: (F ++ (fr ++ gr))).Perm ((F ++ fr) ++ p :: gr) := by
    rw [← List.append_assoc]
    exact List.perm_middle.symm
  refine (h1.trans ?_).symm
  simp only [List.append_assoc, List.singleton_append]
  exact List.Perm.refl _)
theorem addAll_len {κ : Type} [DecidableEq κ] : ∀ (xs ks : List κ), (addAll ks xs).length ≤ ks.length + xs.length
  | [], ks => Nat.le_refl _
  | x :: xs, ks => by
    have h1 := addAll_len xs (addK ks x)
    have h2 : (addK ks x).length ≤ ks.length + 1 := by
      unfold addK
      split
      · omega
      · simp
    show (addAll (addK ks x) xs).length ≤ _
    simp only [List.length_cons]
    omega
theorem lsU_len {κ : Type} [DecidableEq κ] (ks : List κ) (nx : κ → Nat → κ) (k : κ) (c : Nat) : (lsU ks nx k c).length ≤ ks.length + c := by
  have := addAll_len ((List.range c).map (nx k)) ks
  unfold lsU
  simpa using this
theorem setL_start {n : Nat} (h : 0 < n) : setL (startB n 0) = [0] := by
  unfold setL setLI
  rw [startB_len]
  have hg : ∀ q, q < n → (startB n 0).getD q false = decide (q = 0) := fun q hq => by
    unfold startB
    rw [List.getD_eq_getElem?_getD, List.getElem?_map, List.getElem?_range hq]
    rfl
  have e : (List.range n).filter (fun q => (startB n 0).getD q false) = (List.range n).filter (fun q => decide (q = 0)) := List.filter_congr fun q hq => hg q (List.mem_range.1 hq)
  rw [e]
  obtain ⟨m, rfl⟩ : ∃ m, n = m + 1 := ⟨n - 1, by omega⟩
  rw [List.range_succ_eq_map, List.filter_cons, if_pos (by simp)]
  congr 1
  rw [List.filter_eq_nil_iff]
  intro q hq
  obtain ⟨r, _, rfl⟩ := List.mem_map.1 hq
  simp
theorem s_SomeOn2 (l : Nat) (hl : l = 1000) (t s tape rb : Nat) (ht1 : 1 ≤ t) (ht : t + 1 ≤ 3) (htape : tape ≤ t) (A : Aut) (H : BH) (hA : RdP H rb (t + 1) s A) (hok : A.Ok (wd (t + 1))) (hs : s < A.acc.length) (hn : A.acc.length ≤ 150) :
    FnDoes (gam base) 90 [.ptr rb 0, encN tape] H fun v K => RelR base H t (someN l t tape (TA (t + 1) (A.lang s))) v K := by
  obtain ⟨R, hR⟩ : ∃ R : BV → BH → Prop, R = fun v K => RelR base H t (someN l t tape (TA (t + 1) (A.lang s))) v K := ⟨_, rfl⟩
  rw [← hR]
  refine FnDoes.of (fn := ir90) rfl ?_
  obtain ⟨hT1, hl1⟩ := TA_spec ht hok hs
  simp [ir90]
  intro n4 b4 f4
  have o1 := Own.start (base := base) (H := H) |>.new f4 b4 (s := .arr 29 [.int .i64 0, .int .i64 0, .nils, .nils])
  simp [make_of f4 b4]
  refine (s_tidied (base := base) (t + 1) s rb ht A _ (hA.keeps o1.keeps) hok hs (by omega)).step fun v K1 k1 hv => ?_
  obtain ⟨B, hB⟩ : ∃ B, B = TA (t + 1) (A.lang s) := ⟨_, rfl⟩
  rw [← hB] at hR hv hT1 hl1
  have hBok := hT1.ok
  have hBp := hBok.pos
  have hv := hv.rd
  obtain ⟨u0, x0, rfl, hu0, hx0⟩ := id hv
  have u01 := hu0.one
  have x01 := one_of_isSl hx0.isSl
  obtain ⟨T, hT⟩ : ∃ T, T = t + 1 := ⟨_, rfl⟩
  have eT : (encN (t + 1)) = encN T := by rw [hT]
  simp only [eT]
  simp [u01, x01]
  intro n6 b6 f6
  obtain ⟨K2, g2, o2⟩ := ((o1.call k1).new f6 b6 (s := .arr 29 [.int .i64 0, .int .i64 0, .nils, .nils])).putAll 0 (b := n6) rfl (n := 4) (ds := [encN T, encN 0, u0, x0]) rfl rfl (by simp [u01, x01]) (rt := none) rfl
  have o2 : Own base H K2 [(some n6, .arr 29 [encN T, encN 0, u0, x0]), (some n4, .arr 29 [.int .i64 0, .int .i64 0, .nils, .nils])] := o2
  have o26 := (Own.start (base := base) (H := K1) |>.new f6 b6 (s := .arr 29 [.int .i64 0, .int .i64 0, .nils, .nils])).putAll 0 (b := n6) rfl (n := 4) (ds := [encN T, encN 0, u0, x0]) rfl rfl (by simp [u01, x01]) (rt := none) rfl
  obtain ⟨K2', g2', o26⟩ := o26
  have ek : K2' = K2 := by rw [g2] at g2'; exact (Option.some.inj g2').symm
  subst ek
  have hP : RdP K2' n6 (t + 1) 0 B := by
    have := hv.at (n := n6) o26.keeps (by rw [eT]; exact o26.at 0 (b := n6) rfl)
    exact this
  have q0 := rd_ptr (o2.at 0 (b := n6) rfl) (rt := none) (j := 0) (c := encN T) rfl rfl
  have q1 := rd_ptr (o2.at 0 (b := n6) rfl) (rt := none) (j := 1) (c := encN 0) rfl rfl
  simp only [encN] at q1
  simp [make_of f6 b6, g2, q1]
  intro n19 b19 f19
  have o3 := (Own.start (base := base) (H := K2')).new f19 b19 (s := .arr 2 [.int .i64 0])
  simp [make_of f19 b19]
  intro n7 b7 f7
  have o4 := o3.new f7 b7 (s := .arr 67 [.sl n19 0 1])
  have q0' := rd_keeps o4.keeps q0
  have wt : IntKind.i64.wrap (t : Int) = (t : Int) := wN (by omega)
  rw [hT] at q0'
  simp only [encN] at q0'
  simp [make_of f7 b7, q0', wt]
  intro n8 b8 f8
  obtain ⟨K5, g5, o5⟩ := (o4.new f8 b8 (s := .arr 29 [.int .i64 0, .int .i64 0, .nils, .nils])).putAll 0 (b := n8) rfl (n := 4) (ds := [encN t, .int .i64 0, .nils, .nils]) rfl rfl rfl (rt := none) rfl
  simp [make_of f8 b8, g5]
  have o5 : Own base K2' K5 [(some n8, .arr 29 [encN t, .int .i64 0, .nils, .nils]), (some n7, .arr 67 [.sl n19 0 1]), (some n19, .arr 2 [.int .i64 0])] := o5
  obtain ⟨n, hnn⟩ : ∃ n, n = B.acc.length := ⟨_, rfl⟩
  obtain ⟨nx, hnx⟩ : ∃ nx, nx = nxB B t tape := ⟨_, rfl⟩
  obtain ⟨ac, hac⟩ : ∃ ac, ac = acB B t tape := ⟨_, rfl⟩
  obtain ⟨s0, hs0⟩ : ∃ s0, s0 = startB B.acc.length 0 := ⟨_, rfl⟩
  obtain ⟨KS, hKS⟩ : ∃ KS, KS = metL (succs (wd t) nx) s0 l := ⟨_, rfl⟩
  have hX : setA l t tape B = autOf (wd t) nx ac KS := by rw [hKS, hnx, hac, hs0]; rfl
  have hXl : (setA l t tape B).acc.length = KS.length := by rw [hX]; simp [autOf]
  have hnxl : ∀ S c, (nx S c).length = n := fun S c => by rw [hnx, nxB_len, hnn]
  have hs0l : s0.length = n := by rw [hs0, startB_len, hnn]
  have hmet : ∀ i, ∀ S ∈ metL (succs (wd t) nx) s0 i, S.length = n := met_all hs0l fun k _ S hS => by
    obtain ⟨c, _, rfl⟩ := List.mem_map.1 hS
    exact hnxl k c
  have pre : ∀ i, i ≤ l → metL (succs (wd t) nx) s0 i <+: KS := fun i h => by rw [hKS]; exact met_pre h
  have hw := wd_3 (t := t) (by omega)
  have hstart : setL s0 = [0] := by rw [hs0]; exact setL_start hBp
  clear g2 g5 q0 q1 q0' o26 g2'
  obtain ⟨F, hF⟩ : ∃ F : BV → BV → List Sl, F = fun u w => [(some n8, .arr 29 [encN t, .int .i64 0, u, w])] := ⟨_, rfl⟩
  obtain ⟨I, hI⟩ : ∃ I : Nat → Env → BH → Prop, I = (fun i e K => e 9 = encN i ∧ ∃ v7 u w b7 bo wo vs7 vs fr7 fr, e 7 = v7 ∧ i ≤ (metL (succs (wd t) nx) s0 i).length ∧ (metL (succs (wd t) nx) s0 i).length ≤ l ∧
      Own base K2' K ([(wo, .arr 67 vs), (bo, .arr 4 (((KS.take i).map ac).map encB)), (b7, .arr 67 vs7)] ++ F u w ++ (fr7 ++ fr)) ∧
      Vec b7 v7 (metL (succs (wd t) nx) s0 i).length ∧ vs7.length = (metL (succs (wd t) nx) s0 i).length ∧ Vec bo u i ∧ Vec wo w i ∧ vs.length = i ∧
      RowsOf 2 vs7 fr7 (((metL (succs (wd t) nx) s0 i).map setL).map (·.map encN)) ∧ RowsOf 2 vs fr (((KS.take i).map fun k => rowU KS nx k (wd t)).map (·.map encN))) := ⟨_, rfl⟩
  refine wpC_countK l [(0, .ptr rb 0), (1, encN tape), (4, .ptr n4 0), (6, .ptr n6 0), (8, .ptr n8 0)] I (i0 := 0) ?_ ?_ ?_ (Nat.zero_le _) ?_
  · rfl
  · simp
  · rw [hI]
    refine ⟨by simp, .sl n7 0 1, .nils, .nils, some n7, none, none, [.sl n19 0 1], [], [(some n19, .arr 2 [.int .i64 0])], [], by simp, Nat.zero_le _, by simp [metL]; omega, ?_, rfl, rfl, Vec.none, Vec.none, rfl, ?_, trivial⟩
    · rw [hF]
      have := ((o5.nil (.arr 4 [])).nil (.arr 67 []))
      have e1 : ((none, BSt.arr 67 ([] : List BV)) :: (none, BSt.arr 4 ([] : List BV)) :: (some n8, BSt.arr 29 [encN t, .int .i64 0, .nils, .nils]) :: (some n7, BSt.arr 67 [.sl n19 0 1]) :: (some n19, BSt.arr 2 [.int .i64 0]) :: ([] : List Sl)).Perm
          ([(none, .arr 67 []), (none, .arr 4 []), (some n7, .arr 67 [.sl n19 0 1])] ++ [(some n8, .arr 29 [encN t, .int .i64 0, .nils, .nils])] ++ ([(some n19, .arr 2 [.int .i64 0])] ++ [])) :=
        List.Perm.cons _ (List.Perm.cons _ (List.Perm.swap _ _ _))
      exact this.perm e1.symm
    · simp only [metL, List.map_cons, List.map_nil, hstart]
      exact RowsOf.snoc (vs := []) (fr := []) (xss := []) (v := .sl n19 0 1) (bo := some n19) (xs := [.int .i64 0]) rfl trivial
  clear o3 o4 o5
  rintro i e K hi ⟨e0, e1, e4, e6, e8, -⟩ hh
  rw [hI] at hh
  obtain ⟨e9, v7, u, w, b7, bo, wo, vs7, vs, fr7, fr, e7, hil, hlim, o, hv7, hv7l, hu, hw', hvs, hr7, hrows⟩ := hh
  simp only [] at e0 e1 e4 e6 e8
  have wi := wS (n := i) (by omega)
  by_cases hlt : i < (metL (succs (wd t) nx) s0 i).length
  · have hiN : i < l := by omega
    obtain ⟨k, hkk⟩ : ∃ k, (metL (succs (wd t) nx) s0 i)[i]? = some k := ⟨_, List.getElem?_eq_getElem hlt⟩
    have hkl : k.length = n := hmet i k (List.mem_of_getElem? hkk)
    have hKSi : KS[i]? = some k := by
      obtain ⟨r, hr⟩ := pre i (by omega)
      rw [← hr, List.getElem?_append_left hlt]
      exact hkk
    have hiKS : i < KS.length := (List.getElem?_eq_some_iff.1 hKSi).1
    have hnext : metL (succs (wd t) nx) s0 (i + 1) = lsU (metL (succs (wd t) nx) s0 i) nx k (wd t) := by rw [metL, hkk]; rfl
    have hpre : ∀ c, c ≤ wd t → lsU (metL (succs (wd t) nx) s0 i) nx k c <+: KS := fun c hc => (lsU_pre hc).trans (by rw [← hnext]; exact pre (i + 1) (by omega))
    simp [e9, e7, hv7.isSl, hv7.len, hlt]
    intro n10 b10 f10
    have o6 := o.new f10 b10 (s := .arr 2 [])
    simp [make_of f10 b10]
    obtain ⟨J, hJ⟩ : ∃ J : Nat → Env → BH → Prop, J = (fun c e K => e 11 = encN c ∧ ∃ v7 v10 b7 b10 vs7 fr7, e 7 = v7 ∧ e 10 = v10 ∧
      Own base K2' K ([(b10, .arr 2 ((rowU KS nx k c).map encN)), (wo, .arr 67 vs), (bo, .arr 4 (((KS.take i).map ac).map encB)), (b7, .arr 67 vs7)] ++ F u w ++ (fr7 ++ fr)) ∧
      Vec b7 v7 (lsU (metL (succs (wd t) nx) s0 i) nx k c).length ∧ vs7.length = (lsU (metL (succs (wd t) nx) s0 i) nx k c).length ∧ Vec b10 v10 c ∧
      RowsOf 2 vs7 fr7 (((lsU (metL (succs (wd t) nx) s0 i) nx k c).map setL).map (·.map encN))) := ⟨_, rfl⟩
    refine wpC_countK (wd t) [(0, .ptr rb 0), (1, encN tape), (4, .ptr n4 0), (6, .ptr n6 0), (8, .ptr n8 0), (9, encN i)] J (i0 := 0) ?_ ?_ ?_ (Nat.zero_le _) ?_
    · rfl
    · simp [e0, e1, e4, e6, e8, e9]
    · rw [hJ]
      refine ⟨by simp, v7, .sl n10 0 0, b7, some n10, vs7, fr7, by simp [e7], by simp, o6, by rw [lsU_zero]; exact hv7, by rw [lsU_zero]; exact hv7l, rfl, by rw [lsU_zero]; exact hr7⟩
    clear e0 e1 e4 e6 e7 e8 e9 o o6 hv7 hv7l hr7
    rintro c e K hc ⟨e0, e1, e4, e6, e8, e9, -⟩ hh
    rw [hJ] at hh
    obtain ⟨e11, v7, v10, b7, b10, vs7, fr7, e7, e10, o, hv7, hv7l, hv10, hr7⟩ := hh
    simp only [] at e0 e1 e4 e6 e8 e9
    have wc := wS (n := c) (by omega)
    have hlsp := hpre c hc
    obtain ⟨ls, hls⟩ : ∃ ls, ls = lsU (metL (succs (wd t) nx) s0 i) nx k c := ⟨_, rfl⟩
    have hlsnd : ls.Nodup := by rw [hls]; exact addAll_nodup (met_nodup i)
    have hlsk : ls[i]? = some k := by
      rw [hls]
      obtain ⟨r, hr⟩ := (lsU_pre (ks := metL (succs (wd t) nx) s0 i) (nx := nx) (k := k) (Nat.zero_le c))
      rw [← hr, lsU_zero, List.getElem?_append_left hlt]
      exact hkk
    have hlsl : ls.length ≤ l + c := by
      rw [hls]
      exact Nat.le_trans (lsU_len _ _ _ c) (by omega)
    have hKSl : ∀ S ∈ KS, S.length = n := fun S hS => hmet l S (by rw [← hKS]; exact hS)
    have hlsn : ∀ S ∈ ls, S.length = n := fun S hS => by
      obtain ⟨r, hr⟩ := hlsp
      exact hKSl S (by rw [← hr, ← hls]; exact List.mem_append_left _ hS)
    rw [← hls] at hv7 hv7l hr7 hlsp
    have hil2 : i < ls.length := (List.getElem?_eq_some_iff.1 hlsk).1
    have o' := o
    rw [hF] at o'
    have r8 := rd_ptr (o'.at 4 (b := n8) rfl) (rt := none) (j := 0) (c := encN t) rfl rfl
    simp [e8, e11, r8]
    refine callP (s_wide t K (by omega)) ?_
    have hset : ∀ {L : BH}, K.Keeps L → RdR L 67 2 v7 encN (ls.map setL) := fun kL => (RowsOf.rdR (bo := b7) (F := [(b10, .arr 2 ((rowU KS nx k c).map encN)), (wo, .arr 67 vs), (bo, .arr 4 (((KS.take i).map ac).map encB)), (b7, .arr 67 vs7)] ++ F u w) (o.sub (List.Sublist.append (List.Sublist.refl _) (List.sublist_append_left _ _))) hr7 (o.rd 3 rfl (by rw [hv7l]; exact hv7))).keeps kL
    have hPK := hP.keeps o.keeps
    by_cases hcw : c < wd t
    · have hlsp1 := hpre (c + 1) hcw
      obtain ⟨ln, hln⟩ : ∃ ln, ln = nx k c := ⟨_, rfl⟩
      have hsu : lsU (metL (succs (wd t) nx) s0 i) nx k (c + 1) = addK ls ln := by rw [lsU_succ, ← hls, hln]
      rw [hsu] at hlsp1
      have hpk : pos (addK ls ln) ln = pos KS ln := (idx_pre hlsp1 (mem_addK.2 (.inr rfl))).symm
      have hlnl : ln.length = n := by rw [hln]; exact hnxl k c
      obtain ⟨ux, q1, q2⟩ := (hset (BH.Keeps.refl K)).at (i := i) (by simpa using hil2)
      have q2 := q2 none rfl
      have hgk : (ls.map setL)[i]'(by simpa using hil2) = setL k := by
        have : ls[i] = k := (List.getElem?_eq_some_iff.1 hlsk).2
        simp [this]
      rw [hgk] at q1
      simp [hcw, e7, e9, hv7.isSl, hv7.len, hil2, q2, e1, e6, e11]
      refine (s_Some (base := base) t tape n6 c ht1 ht htape B k ux K hPK hBok (by omega) (by omega) hcw q1).step fun r K1 k1 hr => ?_
      obtain ⟨b12, hr12, hfr12⟩ := hr
      rw [← hnx, ← hln] at hr12
      have o2 := o.take k1 hr12 hfr12
      have hr12v : Vec b12 r (setL ln).length := by simpa using hr12.vec
      have hr12d : Rd K1 2 r ((setL ln).map encN) := hr12.rd
      simp
      obtain ⟨T2, hT2⟩ : ∃ T2 : Nat → Env → BH → Prop, T2 = (fun m e L => e 14 = encN m ∧ L = K1 ∧ ((e 13 = encI (-1) ∧ ∀ j, j < m → ls[j]? ≠ some ln) ∨ (ln ∈ ls ∧ e 13 = encN (pos ls ln)))) := ⟨_, rfl⟩
      refine wpC_countK ls.length [(0, .ptr rb 0), (1, encN tape), (4, .ptr n4 0), (6, .ptr n6 0), (8, .ptr n8 0), (9, encN i), (7, v7), (10, v10), (11, encN c), (12, r)] T2 (i0 := 0) ?_ ?_ ?_ (Nat.zero_le _) ?_
      · rfl
      · simp [e0, e1, e4, e6, e8, e9, e7, e10, e11]
      · rw [hT2]
        exact ⟨by simp, rfl, .inl ⟨by simp, fun j hj => by omega⟩⟩
      clear e0 e1 e4 e6 e7 e8 e9 e10 e11 q2 r8 o'
      rintro m e L hm0 ⟨e0, e1, e4, e6, e8, e9, e7, e10, e11, e12, -⟩ hh
      rw [hT2] at hh
      obtain ⟨e14, rfl, hor⟩ := hh
      simp only [] at e0 e1 e4 e6 e8 e9 e7 e10 e11 e12
      have wm := wS (n := m) (by omega)
      rcases hor with ⟨e13, hno⟩ | ⟨hm, e13⟩
      · by_cases hml : m < ls.length
        · obtain ⟨uy, p1, p2⟩ := (hset k1).at (i := m) (by simpa using hml)
          have p2 := p2 none rfl
          have hgm : (ls.map setL)[m]'(by simpa using hml) = setL ls[m] := by simp
          rw [hgm] at p1
          have hlm := hlsn _ (List.getElem_mem hml)
          have hsl1 := setL_len ls[m]
          have hsl2 := setL_len ln
          have hsame := s_Same (base := base) (setL ls[m]) (setL ln) uy r L p1 hr12d (by omega) (by omega)
          simp [e14, e7, hv7.isSl, hv7.len, hml, e13, p2, e12]
          refine callP hsame ?_
          by_cases heq : ls[m] = ln
          · have hpos : pos ls ln = m := by rw [← heq]; exact idx_of_get hlsnd hml
            have hd : decide (setL ls[m] = setL ln) = true := by rw [heq]; simp
            rw [hd]
            simp [e14, wm, hml]
            rw [hT2]
            exact ⟨by simp, rfl, .inr ⟨by rw [← heq]; exact List.getElem_mem hml, by simp [hpos]⟩⟩
          · have hd : decide (setL ls[m] = setL ln) = false := by
              rw [decide_eq_false_iff_not]
              exact fun h => heq (setL_inj (by omega) h)
            rw [hd]
            simp [e14, wm, hml]
            rw [hT2]
            refine ⟨by simp, rfl, .inl ⟨by simp [e13], fun j hj hjl => ?_⟩⟩
            by_cases hjm : j = m
            · subst hjm
              rw [List.getElem?_eq_getElem hml] at hjl
              exact heq (Option.some.inj hjl)
            · exact hno j (by omega) hjl
        · have hme : m = ls.length := by omega
          have hnm : ln ∉ ls := fun h => by
            obtain ⟨j, hj⟩ := List.getElem?_of_mem h
            have hjl := (List.getElem?_eq_some_iff.1 hj).1
            exact hno j (by omega) hj
          have hadd : addK ls ln = ls ++ [ln] := if_neg hnm
          have hp2 : pos (ls ++ [ln]) ln = ls.length := by rw [← hadd]; exact idx_new hnm
          rw [hadd] at hpk hsu hlsp1
          simp [e14, e7, hv7.isSl, hv7.len, hml, e13, e12, hr12v.one, cells_one hr12v.one]
          intro n3 b3 f3
          simp [make_of f3 b3]
          intro n4' b4' f4'
          obtain ⟨w7, K3, b7', p1, p2, p3⟩ := o2.push 4 rfl (v := v7) (by rw [hv7l]; exact hv7) (x := r) (bytes := 24) hr12v.one (by omega) (by omega) f3 b3 f4' b4'
          simp [p1, e10]
          intro n1 b1 f1
          simp [make_of f1 b1]
          intro n2 b2 f2
          have p2 : Own base K2' K3 ((b12, .arr 2 ((setL ln).map encN)) :: (b10, .arr 2 ((rowU KS nx k c).map encN)) :: ([(wo, .arr 67 vs), (bo, .arr 4 (((KS.take i).map ac).map encB)), (some b7', .arr 67 (vs7 ++ [r]))] ++ F u w ++ (fr7 ++ fr))) := p2
          obtain ⟨v', K', b', t1, t2, t3⟩ := p2.push 1 rfl (by simpa [rowU_len] using hv10) (x := encN ls.length) (bytes := 8) rfl (by simp [rowU_len]; omega) (by simp [rowU_len]; omega) f1 b1 f2 b2
          simp [t1, e11, wc, hcw]
          rw [hJ]
          simp only [hsu]
          refine ⟨by simp, w7, v', some b7', some b', vs7 ++ [r], fr7 ++ [(b12, .arr 2 ((setL ln).map encN))], by simp, by simp, ?_, by simpa [hv7l] using p3, by simp [hv7l], by simpa [rowU_len] using t3, ?_⟩
          · rw [rowU_succ, ← hln, ← hpk, hp2, List.map_append]
            exact Own.last2 (p := (b12, .arr 2 ((setL ln).map encN))) (F := [(some b', .arr 2 ((rowU KS nx k c).map encN ++ [encN ls.length])), (wo, .arr 67 vs), (bo, .arr 4 (((KS.take i).map ac).map encB)), (some b7', .arr 67 (vs7 ++ [r]))] ++ F u w) t2
          · simp only [List.map_append, List.map_cons, List.map_nil]
            exact hr7.snoc (by simpa using hr12v)
      · have hp0 : ¬ ((pos ls ln : Nat) : Int) < 0 := by omega
        by_cases hml : m < ls.length
        · simp [e14, e7, hv7.isSl, hv7.len, hml, e13, hp0]
          have hadd : addK ls ln = ls := if_pos hm
          rw [hadd] at hpk hsu
          simp [e13, hp0, e10]
          intro n1 b1 f1
          simp [make_of f1 b1]
          intro n2 b2 f2
          have o3 : Own base K2' L ((b10, .arr 2 ((rowU KS nx k c).map encN)) :: ([(wo, .arr 67 vs), (bo, .arr 4 (((KS.take i).map ac).map encB)), (b7, .arr 67 vs7)] ++ F u w ++ (fr7 ++ fr))) := o2.tail
          obtain ⟨v', K', b', p1, p2, p3⟩ := o3.push 0 rfl (by simpa [rowU_len] using hv10) (x := encN (pos ls ln)) (bytes := 8) rfl (by simp [rowU_len]; omega) (by simp [rowU_len]; omega) f1 b1 f2 b2
          simp [p1, e11, wc, hcw]
          rw [hJ]
          simp only [hsu]
          refine ⟨by simp, v7, v', b7, some b', vs7, fr7, by simp [e7], by simp, ?_, hv7, hv7l, by simpa [rowU_len] using p3, hr7⟩
          rw [rowU_succ, ← hln, ← hpk, List.map_append]
          exact p2
        · simp [e14, e7, hv7.isSl, hv7.len, hml]
          have hadd : addK ls ln = ls := if_pos hm
          rw [hadd] at hpk hsu
          simp [e13, hp0, e10]
          intro n1 b1 f1
          simp [make_of f1 b1]
          intro n2 b2 f2
          have o3 : Own base K2' L ((b10, .arr 2 ((rowU KS nx k c).map encN)) :: ([(wo, .arr 67 vs), (bo, .arr 4 (((KS.take i).map ac).map encB)), (b7, .arr 67 vs7)] ++ F u w ++ (fr7 ++ fr))) := o2.tail
          obtain ⟨v', K', b', p1, p2, p3⟩ := o3.push 0 rfl (by simpa [rowU_len] using hv10) (x := encN (pos ls ln)) (bytes := 8) rfl (by simp [rowU_len]; omega) (by simp [rowU_len]; omega) f1 b1 f2 b2
          simp [p1, e11, wc, hcw]
          rw [hJ]
          simp only [hsu]
          refine ⟨by simp, v7, v', b7, some b', vs7, fr7, by simp [e7], by simp, ?_, hv7, hv7l, by simpa [rowU_len] using p3, hr7⟩
          rw [rowU_succ, ← hln, ← hpk, List.map_append]
          exact p2
    · have hcc : c = wd t := by omega
      subst hcc
      by_cases hbig : l < ls.length
      · have hb1 : 1000 < ls.length := by omega
        have hb2 : (1000 : Int) < (ls.length : Int) := by omega
        obtain ⟨m, K7, e7', g7, r7, kk, hrel⟩ := rel_end (base := base) (t := t) (r := (none, 3)) (Own.join o2 o.keeps o) (i := 1) (n2 := n4) rfl rfl (BH.Keeps.refl _) rfl
        cases e7'
        have g7' : K.wr base none 4 (.ptr n4 0) (.agg [.int .i64 0, .int .i64 0, .nils, .nils]) = some K7 := g7
        simp [e4, e7, hv7.isSl, hv7.len, hb1, hb2, g7', r7]
        have hsm : someN l t tape B = (none, 3) := by
          unfold someN
          rw [if_pos (by rw [hXl]; have := hlsp.length_le; omega)]
        rw [hR, hsm]
        exact ⟨kk, hrel⟩
      · have hb1 : ¬ 1000 < ls.length := by omega
        have hb2 : ¬ (1000 : Int) < (ls.length : Int) := by omega
        have u1 := rd_ptr (o'.at 4 (b := n8) rfl) (rt := some 29) (j := 2) (c := u) rfl rfl
        obtain ⟨ux, q1, q2⟩ := (hset (BH.Keeps.refl K)).at (i := i) (by simpa using hil2)
        have q2 := q2 none rfl
        have hgk : (ls.map setL)[i]'(by simpa using hil2) = setL k := by
          have : ls[i] = k := (List.getElem?_eq_some_iff.1 hlsk).2
          simp [this]
        rw [hgk] at q1
        have hti : (KS.take i).length = i := by simp; omega
        have hta : (KS.take (i + 1)).map ac = (KS.take i).map ac ++ [ac k] := by rw [List.take_add_one, hKSi]; simp
        have htr : ((KS.take (i + 1)).map fun k => rowU KS nx k (wd t)).map (·.map encN) = ((KS.take i).map fun k => rowU KS nx k (wd t)).map (·.map encN) ++ [(rowU KS nx k (wd t)).map encN] := by rw [List.take_add_one, hKSi]; simp
        have hin : i + 1 ≤ (metL (succs (wd t) nx) s0 (i + 1)).length := by
          have := (met_pre1 (sx := succs (wd t) nx) (s := s0) i).length_le
          omega
        simp [e1, e6, e7, e8, e9, hv7.isSl, hv7.len, hb1, hb2, u1, hil2, q2]
        refine (s_Ends (base := base) t tape n6 ht1 ht htape B k ux K hPK hBok (by omega) (by omega) q1).step fun r K1 k1 hr => ?_
        rw [← hac] at hr
        subst hr
        have o1' := o.call k1
        simp
        intro n1 b1 f1
        simp [make_of f1 b1]
        intro n2 b2 f2
        obtain ⟨v', K3, b', q1, o3, q3⟩ := o1'.push 2 rfl (v := u) (by simp only [List.length_map, hti]; exact hu) (x := encB (ac k)) (bytes := 1) rfl (by simp; omega) (by simp; omega) f1 b1 f2 b2
        have o3 : Own base K2' K3 ([(b10, .arr 2 ((rowU KS nx k (wd t)).map encN)), (wo, .arr 67 vs), (some b', .arr 4 (((KS.take i).map ac).map encB ++ [encB (ac k)])), (b7, .arr 67 vs7)] ++ F u w ++ (fr7 ++ fr)) := o3
        rw [hF] at o3
        obtain ⟨K4, q2, o4⟩ := o3.put 4 (b := n8) rfl (j := 2) (u := v') (by simp) q3.one (rt := none) rfl
        simp [q1, q2, e8]
        have u2 := rd_ptr (o4.at 4 (b := n8) rfl) (rt := none) (j := 3) (c := w) rfl rfl
        have h17 := hv10.one
        simp [u2, e10, h17, cells_one h17]
        intro n3 b3' f3
        simp [make_of f3 b3']
        intro n4' b4' f4'
        obtain ⟨w', K5', c', p1, o5, p3⟩ := o4.push 1 rfl (v := w) (by rw [hvs]; exact hw') (x := v10) (bytes := 24) h17 (by omega) (by omega) f3 b3' f4' b4'
        obtain ⟨K6, p2, o6⟩ := o5.put 4 (b := n8) rfl (j := 3) (u := w') (by simp) p3.one (rt := none) rfl
        simp [p1, p2, e8, e9, wi, hiN]
        rw [hI]
        refine ⟨by simp, v7, v', w', b7, some b', some c', vs7, vs ++ [v10], fr7, fr ++ [(b10, .arr 2 ((rowU KS nx k (wd t)).map encN))], by simp [e7], hin, by rw [hnext, ← hls]; omega, ?_, by rw [hnext, ← hls]; exact hv7, by rw [hnext, ← hls]; exact hv7l, ?_, ?_, by simp [hvs], by rw [hnext, ← hls]; exact hr7, ?_⟩
        · have o7 : Own base K2' K6 ((b10, .arr 2 ((rowU KS nx k (wd t)).map encN)) :: (([(some c', .arr 67 (vs ++ [v10])), (some b', .arr 4 (((KS.take i).map ac).map encB ++ [encB (ac k)])), (b7, .arr 67 vs7)] ++ [(some n8, .arr 29 [encN t, .int .i64 0, v', w'])] ++ fr7) ++ fr)) := by
            simpa [List.append_assoc] using o6
          have o8 := Own.last o7
          rw [hta, hF]
          simpa [List.append_assoc] using o8
        · simp only [List.length_map, hti] at q3
          exact q3
        · simpa [hvs] using p3
        · rw [htr]
          exact hrows.snoc (by simpa [rowU_len] using hv10)
  · have hie : i = (metL (succs (wd t) nx) s0 i).length := by omega
    have hdi : Done (wd t) nx s0 i := by unfold Done DoneL; omega
    have hKi : metL (succs (wd t) nx) s0 i = KS := by
      rw [hKS]
      exact (DoneL.eq hdi (by omega)).symm
    rw [hKi] at hie
    have htk : KS.take i = KS := by rw [hie, List.take_length]
    rw [htk] at o hrows
    have hlt' : ¬ i < (metL (succs (wd t) nx) s0 i).length := hlt
    obtain ⟨X, hXe⟩ : ∃ X, X = setA l t tape B := ⟨_, rfl⟩
    have hXok := setA_ok (l := l) (t := t) (tape := tape) (A := B) (by rw [hXl, ← hie]; omega)
    rw [← hXe] at hX hXl hXok
    have o' := o
    rw [hF] at o'
    have hRd : RdP K n8 t 0 X := by
      refine ⟨u, w, o'.at 3 (b := n8) rfl, ?_, ?_⟩
      · rw [hX]
        show Rd K 4 u ((KS.map ac).map encB)
        exact o'.rd 1 rfl (by rw [List.length_map, List.length_map, ← hie]; exact hu)
      · rw [hX]
        exact RowsOf.rdR (bo := wo) (F := [(wo, .arr 67 vs), (bo, .arr 4 ((KS.map ac).map encB)), (b7, .arr 67 vs7)] ++ [(some n8, .arr 29 [encN t, .int .i64 0, u, w])] ++ fr7) (by simpa [List.append_assoc] using o') (by simpa [autOf, rowU] using hrows) (o'.rd 0 rfl (by rw [hvs]; exact hw'))
    simp [e7, e8, e9, hv7.isSl, hv7.len, hlt']
    refine (s_tidied (base := base) t 0 n8 (by omega) X K hRd hXok.1 hXok.1.pos (by omega)).step fun v K6 k6 hv => ?_
    have hXs := (TA_spec (by omega : t ≤ 3) hXok.1 hXok.1.pos).2
    simp
    refine (s_toldR (base := base) t _ v _ K6 hv (by omega)).step fun v3 K7 k7 hv3 => ?_
    rw [hXok.2] at hv3
    obtain ⟨m, K8, rfl, g8, r8, kk, hrel⟩ := rel_end (base := base) (o2.call o.keeps) (i := 1) (n2 := n4) rfl rfl (k6.trans k7) hv3
    simp [e4, g8, r8]
    have hsm : someN l t tape B = told (TA t (langK (nxB B t tape) (acB B t tape) (startB B.acc.length 0))) := by
      unfold someN
      rw [← hXe, if_neg (by rw [hXl, ← hie]; omega)]
    rw [hR, hsm]
    exact ⟨kk, hrel⟩
theorem s_Fewer (t s tape rb : Nat) (ht1 : 1 ≤ t) (ht : t + 1 ≤ 3) (htape : tape ≤ t) (A : Aut) (H : BH) (hA : RdP H rb (t + 1) s A) (hok : A.Ok (wd (t + 1))) (hs : s < A.acc.length) (hn : A.acc.length ≤ 150) :
    Runs (gam base) 89 [.ptr rb 0, encN tape] H (encN 0) H := by
  obtain ⟨T, hT⟩ : ∃ T, T = t + 1 := ⟨_, rfl⟩
  rw [← hT] at hA hok
  obtain ⟨u, x, hr, hu, hx⟩ := id hA
  have r0 := rd_ptr hr (rt := none) (j := 0) (c := encN T) rfl rfl
  have c1 := s_ok (base := base) rb T s _ _ _ hA.raw (by omega)
  rw [ok_valid (by omega) (by omega) hok hs hn] at c1
  have wT : IntKind.i64.wrap ((T : Int) - 1) = (T : Int) - 1 := w64 (by omega) (by omega)
  have hone : Runs (gam base) 140 [.ptr rb 0, encN tape] H (encN 0) H := by
    refine runs_of (fn := ir140) rfl ?_
    simp [ir140]
    refine callP c1 ?_
    simp [r0, wT]
    refine callP (s_in tape 0 ((T : Int) - 1) H) ?_
    have hin : inB tape 0 ((T : Int) - 1) = true := by simp [inB]; omega
    rw [hin]
    simp
  refine runs_of (fn := ir89) rfl ?_
  have hT1 : ((T : Int) == 1) = false := by simp; omega
  simp [ir89]
  refine callP hone ?_
  simp [r0, hT1]
theorem s_SomeOn (l : Nat) (hl : l = 1000) (t s tape : Nat) (ht1 : 1 ≤ t) (ht : t + 1 ≤ 3) (htape : tape ≤ t) (A : Aut) (m : BV) (H : BH) (hA : RdRel H (t + 1) s A m) (hok : A.Ok (wd (t + 1))) (hs : s < A.acc.length) (hn : A.acc.length ≤ 150) :
    FnDoes (gam base) 46 [m, encN tape] H fun v K => RelR base H t (someN l t tape (TA (t + 1) (A.lang s))) v K := by
  obtain ⟨R, hR⟩ : ∃ R : BV → BH → Prop, R = fun v K => RelR base H t (someN l t tape (TA (t + 1) (A.lang s))) v K := ⟨_, rfl⟩
  rw [← hR]
  refine FnDoes.of (fn := ir46) rfl ?_
  have g1 := hA
  obtain ⟨u, x, rfl, hu, hx⟩ := hA
  have u1 := hu.one
  have x1 := one_of_isSl hx.isSl
  obtain ⟨T, hT⟩ : ∃ T, T = t + 1 := ⟨_, rfl⟩
  have e1 : (encN (t + 1)) = encN T := by rw [hT]
  rw [e1] at g1 ⊢
  simp [ir46, u1, x1]
  intro n2 b2 f2
  simp [make_of f2 b2]
  intro n4 b4 f4
  have o1 := Own.start (base := base) (H := H) |>.new f2 b2 (s := .arr 29 [encN T, encN s, u, x]) |>.new f4 b4 (s := .arr 29 [.int .i64 0, .int .i64 0, .nils, .nils])
  have p1 : RdP _ n2 (t + 1) s A := RdRel.at (n := n2) (by rw [e1]; exact g1) o1.keeps (by rw [e1]; exact o1.at 1 (b := n2) rfl)
  simp [make_of f4 b4]
  refine callP (s_Fewer (base := base) t s tape n2 ht1 ht htape A _ p1 hok hs hn) ?_
  simp
  refine (s_SomeOn2 (base := base) l hl t s tape n2 ht1 ht htape A _ p1 hok hs hn).step fun r K5 k5 hr => ?_
  obtain ⟨m, K8, rfl, g8, r8, kk, hrel⟩ := rel_end (base := base) o1 (i := 0) (n2 := n4) rfl rfl k5 hr
  simp [g8, r8]
  rw [hR]
  exact ⟨kk, hrel⟩
noncomputable def thenN (f : Aut → Option Aut × Nat) (r : Option Aut × Nat) : Option Aut × Nat := match r with
  | (none, c) => (none, c)
  | (some A, _) => f A
theorem thenN_good {t : Nat} {f : Aut → Option Aut × Nat} {t' : Nat} {r : Option Aut × Nat} (h : GoodC t' r) (hf : ∀ A, A.Ok (wd t') → A.acc.length ≤ 150 → GoodC t (f A)) : GoodC t (thenN f r) := by
  obtain ⟨a, c⟩ := r
  cases a with
  | none => exact h
  | some A => exact hf A h.2.1 h.2.2
theorem wpC_unroll {C : CRel} {b : BCode} {Q : Post} {e : Env} {H : BH} (h : wpC base C b (Post.then (wpC base C (.loop b) Q) Q) e H) : wpC base C (.loop b) Q e H := by
  obtain ⟨x, e1, H1, hx, hQ⟩ := wpC_elim h
  cases x with
  | normal =>
    obtain ⟨x2, e2, H2, hx2, hQ2⟩ := hQ
    exact ⟨x2, e2, H2, .loopn hx hx2, hQ2⟩
  | exit i => exact ⟨_, e1, H1, .loopx hx (by simp), hQ⟩
  | ret => exact ⟨_, e1, H1, .loopx hx (by simp), hQ⟩
theorem Has.put {e : Env} {t : Nat} {v : BV} {kp : List (Nat × BV)} (h : Has e kp) (ht : kp.all (fun p => !(p.1 == t)) = true) : Has (e.put t v) kp := Has.frame (W := [t]) (fun s hs => by
  have : s ≠ t := fun he => hs (by simp [he])
  simp [Env.put, this]) (by
  rw [List.all_eq_true] at ht ⊢
  intro p hp
  have := ht p hp
  simp only [List.contains_cons, List.contains_nil, Bool.or_false]
  exact this) h
abbrev zR4 : List BV := [.int .i64 0, .int .i64 0, .nils, .nils]
theorem rel_step {C : CRel} {H K0 K1 : BH} {L : List Sl} {i n4 t : Nat} {zs : List BV} {G : Option Aut × Nat} {v : BV} {e : Env} {rest : BCode} {Q : Post} {Kn : Env → BH → Prop} {cd d a b x y p q z w r4 r5 : Nat}
    (o : Own base H K0 L) (hL : L[i]? = some (some n4, .arr 29 zs)) (hz : zs.length = 4) (k : K0.Keeps K1) (hr : RelR base K0 t G v K1) (hg : GoodC t G) (kp : List (Nat × BV)) (hkp : Has e ((r4, .ptr n4 0) :: kp)) (hv : e cd = v)
    (hfr : (((r4, BV.ptr n4 0) :: kp).all fun s => !(s.1 == d || s.1 == a || s.1 == b || s.1 == x || s.1 == y || s.1 == p || s.1 == q || s.1 == z || s.1 == w || s.1 == r5)) = true)
    (hne : (decide (a ≠ d) && decide (b ≠ d) && decide (a ≠ b) && decide (x ≠ a) && decide (x ≠ b) && decide (y ≠ x) && decide (p ≠ x) && decide (q ≠ x) && decide (p ≠ y) && decide (q ≠ y) && decide (z ≠ y) && decide (w ≠ z)) = true)
    (hKn : ∀ e K, wpC base C (.seq (.seq (.region [⟨some p, .mov (.t y), none, []⟩, ⟨some q, .bin .neq (.t p) (.c (.int .i64 0)), none, []⟩]) (.cond (.t q) (.seq (.region [⟨some z, .build zR4 [], none, []⟩, ⟨some w, .mov (.t y), none, []⟩, ⟨none, .store none 4 (.t r4) (.t z), none, []⟩, ⟨some r5, .mov (.t w), none, []⟩]) .ret) .skip)) rest) Q e K → Kn e K)
    (good : ∀ (e' : Env) (n : Nat) (K2 : BH) (A : Aut) (ms : List BV), G = (some A, 0) → Has e' ((x, .ptr n 0) :: (y, encN 0) :: (r4, .ptr n4 0) :: kp) → Own base H K2 ((some n, .arr 29 ms) :: L) → K1.Keeps K2 → OwnRel base K0 K2 t 0 A (.agg ms) → K2.rd none (some 4) (.ptr n 0) = some (.agg ms) → wpC base C rest Q e' K2)
    (bad : ∀ (e' : Env) (K2 : BH) (c : Nat), G = (none, c) → Has e' ((r5, encN c) :: (r4, .ptr n4 0) :: kp) → K2.rd none (some 4) (.ptr n4 0) = some (.agg zR4) → H.Keeps K2 → Q .ret e' K2) :
    wpO base C [⟨some d, .mov (.t cd), none, []⟩, ⟨some a, .ext 0 (.t d), none, []⟩, ⟨some b, .ext 1 (.t d), none, []⟩, ⟨some x, .new 29 zR4, none, []⟩, ⟨none, .store none 4 (.t x) (.t a), none, []⟩, ⟨some y, .mov (.t b), none, []⟩] Kn e K1 := by
  simp only [Bool.and_eq_true, decide_eq_true_eq] at hne
  obtain ⟨⟨⟨⟨⟨⟨⟨⟨⟨⟨⟨h1, h2⟩, h3⟩, h4⟩, h5⟩, h6⟩, h7⟩, h8⟩, h9⟩, h10⟩, h11⟩, h12⟩ := hne
  have hr0 := hr
  obtain ⟨m, rfl, hm⟩ := hr.out
  obtain ⟨c1, c2, u, w', e2, p1, p2, p3, p4⟩ := hm.ones
  subst e2
  have hfr' : ∀ s ∈ (r4, BV.ptr n4 0) :: kp, s.1 ≠ d ∧ s.1 ≠ a ∧ s.1 ≠ b ∧ s.1 ≠ x ∧ s.1 ≠ y ∧ s.1 ≠ p ∧ s.1 ≠ q ∧ s.1 ≠ z ∧ s.1 ≠ w ∧ s.1 ≠ r5 := fun s hs => by
    have := List.all_eq_true.1 hfr s hs
    simp only [Bool.not_eq_true', Bool.or_eq_false_iff, beq_eq_false_iff_ne] at this
    obtain ⟨⟨⟨⟨⟨⟨⟨⟨⟨q1, q2⟩, q3⟩, q4⟩, q5⟩, q6⟩, q7⟩, q8⟩, q9⟩, q10⟩ := this
    exact ⟨q1, q2, q3, q4, q5, q6, q7, q8, q9, q10⟩
  have fr : ∀ (e' : Env), (∀ s, s ≠ d → s ≠ a → s ≠ b → s ≠ x → s ≠ y → s ≠ p → s ≠ q → s ≠ z → s ≠ w → s ≠ r5 → e' s = e s) → Has e' ((r4, .ptr n4 0) :: kp) := fun e' he => Has.frame (W := [d, a, b, x, y, p, q, z, w, r5]) (fun s hs => by
      simp only [List.mem_cons, List.not_mem_nil, or_false, not_or] at hs
      obtain ⟨q1, q2, q3, q4, q5, q6, q7, q8, q9, q10⟩ := hs
      exact he s q1 q2 q3 q4 q5 q6 q7 q8 q9 q10) (by
      rw [List.all_eq_true]
      intro s hs
      obtain ⟨q1, q2, q3, q4, q5, q6, q7, q8, q9, q10⟩ := hfr' s hs
      simp [q1, q2, q3, q4, q5, q6, q7, q8, q9, q10]) hkp
  obtain ⟨r1, r2, r3, r4', r5', r6, r7, r8, r9, r10⟩ := hfr' _ (List.mem_cons_self)
  simp only [] at r1 r2 r3 r4' r5' r6 r7 r8 r9 r10
  have e4 : e r4 = .ptr n4 0 := hkp.1
  simp [zR4, hv, p1, p2, p3, p4, h1, h2, h3, h4, h5, h6, Ne.symm h1, Ne.symm h2, Ne.symm h3, Ne.symm h4, Ne.symm h5, Ne.symm h6]
  intro n bn fn
  have o2 := (o.call k).new fn bn (s := .arr 29 [.int .i64 0, .int .i64 0, .nils, .nils])
  obtain ⟨K3, g3, o3⟩ := o2.putAll 0 (b := n) rfl (n := 4) (ds := [c1, c2, u, w']) rfl rfl (by simp [p1, p2, p3, p4]) (rt := none) rfl
  obtain ⟨K3', g3', o3'⟩ := ((Own.start (base := base) (H := K1)).new fn bn (s := .arr 29 [.int .i64 0, .int .i64 0, .nils, .nils])).putAll 0 (b := n) rfl (n := 4) (ds := [c1, c2, u, w']) rfl rfl (by simp [p1, p2, p3, p4]) (rt := none) rfl
  have ek : K3' = K3 := by rw [g3] at g3'; exact (Option.some.inj g3').symm
  subst ek
  have r3x := rd_all (o3.at 0 (b := n) rfl) (n := 4) (rt := none) rfl rfl
  simp [zR4, make_of fn bn, g3, h1, h2, h3, h4, h5, h6, Ne.symm h1, Ne.symm h2, Ne.symm h3, Ne.symm h4, Ne.symm h5, Ne.symm h6]
  refine hKn _ _ ?_
  obtain ⟨zG, cG⟩ := G
  cases zG with
  | none =>
    have hc := code_ne hg.1
    have hc' : ¬ cG = 0 := by have : 0 < cG := hg.1; omega
    obtain ⟨m8, K8, e8, g8, r8x, kk8, hrel8⟩ := rel_end (base := base) (t := t) (r := (none, cG)) (o3.tail) (i := i) (n2 := n4) hL hz (BH.Keeps.refl _) rfl
    cases e8
    have g8' : K3'.wr base none 4 (.ptr n4 0) (.agg zR4) = some K8 := g8
    simp [zR4, h1, h2, h3, h4, h5, h6, h7, h8, h9, h10, h11, h12, Ne.symm h1, Ne.symm h2, Ne.symm h3, Ne.symm h4, Ne.symm h5, Ne.symm h6, Ne.symm h7, Ne.symm h8, Ne.symm h9, Ne.symm h10, Ne.symm h11, Ne.symm h12, hc, hc', r1, r2, r3, r4', r5', r6, r7, r8, r9, r10, Ne.symm r1, e4, g8']
    refine bad _ K8 cG rfl ⟨by simp, fr _ fun s s1 s2 s3 s4 s5 s6 s7 s8 s9 s10 => by simp [Env.put, s1, s2, s3, s4, s5, s6, s7, s8, s9, s10]⟩ r8x kk8
  | some A =>
    have ec : cG = 0 := hg.1
    subst ec
    simp [h1, h2, h3, h4, h5, h6, h7, h8, h9, h10, Ne.symm h1, Ne.symm h2, Ne.symm h3, Ne.symm h4, Ne.symm h5, Ne.symm h6, Ne.symm h7, Ne.symm h8, Ne.symm h9, Ne.symm h10]
    refine good _ n K3' A [c1, c2, u, w'] rfl ⟨by simp [Ne.symm h6, Ne.symm h7, Ne.symm h8, h6, h7, h8], by simp [Ne.symm h9, Ne.symm h10, h9, h10], fr _ fun s s1 s2 s3 s4 s5 s6 s7 s8 s9 s10 => by simp [Env.put, s1, s2, s3, s4, s5, s6, s7, s8, s9, s10]⟩ o3 o3'.keeps (by
      obtain ⟨m', e', ho⟩ := hr0
      simp only [BV.tup.injEq, List.cons.injEq, and_true] at e'
      rw [e']
      exact ho.keeps o3'.keeps) r3x
theorem OwnRel.rows2 {H K : BH} {t s : Nat} {A : Aut} {m : BV} (h : OwnRel base H K t s A m) : ∃ Y, Own base H K Y ∧ ∀ {H' K' : BH} {Z : List Sl}, Own base H' K' (Z ++ Y) → OwnRel base H' K' t s A m := by
  obtain ⟨u, w, bo, wo, vs, fr, e, o, hu, hw, hr⟩ := h
  exact ⟨_, o, fun {H' K' Z} o' => ⟨u, w, bo, wo, vs, fr, e, o'.sub (List.sublist_append_right _ _), hu, hw, hr⟩⟩
theorem OwnRel.cells {H K : BH} {t s : Nat} {A : Aut} {m : BV} (h : OwnRel base H K t s A m) : ∃ u x : BV, m = .agg [encN t, encN s, u, x] ∧ u.one = true ∧ x.one = true := by
  obtain ⟨u, w, bo, wo, vs, fr, e, o, hu, hw, hr⟩ := h
  exact ⟨u, w, e, hu.one, hw.one⟩
theorem z_bools2 {ty : Nat} (cs : List BV) (left : Int) (v : BV) (H : BH) (h : Rd H ty v cs) (h0 : 0 ≤ left) (h1 : left ≤ 1048576) (hn : cs.length ≤ 9223372036854775807) :
    ∃ z : Int, Runs (gam base) 32 [v, encI left] H (encI z) H ∧ z ≤ left ∧ -1 ≤ z ∧ (0 ≤ z → z + (cs.length : Int) = left) := by
  have hw : IntKind.i64.wrap (left - (cs.length : Int)) = left - (cs.length : Int) := w64 (by omega) (by omega)
  by_cases hz : left - (cs.length : Int) < 0
  · refine ⟨-1, ?_, by omega, by omega, by omega⟩
    refine runs_of (fn := ir32) rfl ?_
    simp [ir32, h.isSl, h.len, hw, hz]
  · refine ⟨left - (cs.length : Int), ?_, by omega, by omega, by omega⟩
    refine runs_of (fn := ir32) rfl ?_
    simp [ir32, h.isSl, h.len, hw, hz]

theorem z_longs2 {ty : Nat} (cs : List BV) (left : Int) (v : BV) (H : BH) (h : Rd H ty v cs) (h0 : 0 ≤ left) (h1 : left ≤ 1048576) (hn : cs.length ≤ 9223372036854775807) :
    ∃ z : Int, Runs (gam base) 66 [v, encI left] H (encI z) H ∧ z ≤ left ∧ -1 ≤ z ∧ (0 ≤ z → z + (cs.length : Int) = left) := by
  have hw : IntKind.i64.wrap (left - (cs.length : Int)) = left - (cs.length : Int) := w64 (by omega) (by omega)
  by_cases hz : left - (cs.length : Int) < 0
  · refine ⟨-1, ?_, by omega, by omega, by omega⟩
    refine runs_of (fn := ir66) rfl ?_
    simp [ir66, h.isSl, h.len, hw, hz]
  · refine ⟨left - (cs.length : Int), ?_, by omega, by omega, by omega⟩
    refine runs_of (fn := ir66) rfl ?_
    simp [ir66, h.isSl, h.len, hw, hz]

def tot {α : Type} (xss : List (List α)) (i : Nat) : Nat := ((xss.take i).map List.length).sum
theorem tot_zero {α : Type} (xss : List (List α)) : tot xss 0 = 0 := by simp [tot]
theorem tot_succ {α : Type} {xss : List (List α)} {i : Nat} (h : i < xss.length) : tot xss (i + 1) = tot xss i + xss[i].length := by
  unfold tot
  have e : xss.take (i + 1) = xss.take i ++ [xss[i]] := by rw [List.take_add_one, List.getElem?_eq_getElem h]; rfl
  rw [e, List.map_append, List.sum_append]
  simp only [List.map_cons, List.map_nil, List.sum_cons, List.sum_nil, Nat.add_zero]
theorem tot_le {α : Type} (xss : List (List α)) (i : Nat) : tot xss i ≤ tot xss xss.length := by
  unfold tot
  rw [List.take_length]
  conv => rhs; rw [← List.take_append_drop i xss]
  rw [List.map_append, List.sum_append]
  omega
theorem tot_map {α β : Type} (f : α → β) (xss : List (List α)) (i : Nat) : tot (xss.map (·.map f)) i = tot xss i := by
  unfold tot
  rw [← List.map_take, List.map_map]
  congr 1
  exact List.map_congr_left fun xs _ => by simp
theorem z_rows2 (xss : List (List BV)) (left : Int) (v : BV) (H : BH) {ty : Nat} (h : RdQ H ty v (fun c => c) xss) (h0 : 0 ≤ left) (h1 : left ≤ 1048576) (hn : xss.length ≤ 9223372036854775807) (hr : ∀ xs ∈ xss, xs.length ≤ 9223372036854775807) :
    ∃ z : Int, Runs (gam base) 33 [v, encI left] H (encI z) H ∧ z ≤ left ∧ (0 ≤ z → z + (xss.length : Int) + (tot xss xss.length : Int) = left) := by
  obtain ⟨R, hR⟩ : ∃ R : Int → Prop, R = fun z => z ≤ left ∧ (0 ≤ z → z + (xss.length : Int) + (tot xss xss.length : Int) = left) := ⟨_, rfl⟩
  suffices hh : FnDoes (gam base) 33 [v, encI left] H fun u K => K = H ∧ ∃ z, u = encI z ∧ R z by
    obtain ⟨u, K, r1, r2, rfl, z, rfl, r3⟩ := hh
    rw [hR] at r3
    exact ⟨z, r1, r3⟩
  refine FnDoes.of (fn := ir33) rfl ?_
  have hw : IntKind.i64.wrap (left - (xss.length : Int)) = left - (xss.length : Int) := w64 (by omega) (by omega)
  have hl := h.len
  by_cases hz : left - (xss.length : Int) < 0
  · simp [ir33, h.isSl, hl, hw, hz]
    rw [hR]
    exact ⟨BH.Keeps.refl _, by omega, fun h => by omega⟩
  · simp [ir33, h.isSl, hl, hw, hz]
    obtain ⟨I, hI⟩ : ∃ I : Nat → Env → BH → Prop, I = (fun i e K => e 5 = encN i ∧ K = H ∧ ∃ l : Int, e 1 = encI l ∧ 0 ≤ l ∧ l + (xss.length : Int) + (tot xss i : Int) = left) := ⟨_, rfl⟩
    refine wpC_countK xss.length [(0, v)] I (i0 := 0) ?_ ?_ ?_ (Nat.zero_le _) ?_
    · rfl
    · simp
    · rw [hI]
      exact ⟨by simp, rfl, left - (xss.length : Int), by simp, by omega, by rw [tot_zero]; omega⟩
    rintro i e K hi ⟨e0, -⟩ hh
    rw [hI] at hh
    obtain ⟨e5, rfl, l, e1, hl0, hl1⟩ := hh
    simp only [] at e0
    have wi := wS (n := i) (by omega)
    by_cases hlt : i < xss.length
    · obtain ⟨ri, ⟨tq, hri⟩, hrr⟩ := h.at hlt
      have hrr := hrr none rfl
      rw [List.map_id'] at hri
      obtain ⟨z, c1, c2, c3, c4⟩ := z_longs2 (base := base) xss[i] l ri K hri hl0 (by omega) (hr _ (List.getElem_mem hlt))
      have hts := tot_succ hlt
      simp [e0, e5, h.isSl, hl, hlt, hrr, e1]
      refine callP c1 ?_
      by_cases hz2 : z < 0
      · simp [hz2]
        rw [hR]
        exact ⟨BH.Keeps.refl _, by omega, fun h => by omega⟩
      · simp [hz2, e5, wi, hlt]
        rw [hI]
        refine ⟨by simp, rfl, z, by simp, by omega, ?_⟩
        have := c4 (by omega)
        rw [hts]
        omega
    · have hie : i = xss.length := by omega
      simp [e0, e5, h.isSl, hl, hlt, e1]
      rw [hR]
      refine ⟨BH.Keeps.refl _, by omega, fun _ => ?_⟩
      rw [hie] at hl1
      exact hl1
theorem z_rel2 (T S : Int) (acc : List Bool) (rows : List (List Int)) (left : Int) (m : BV) (H : BH) (h : RdL H T S acc rows m) (h0 : 0 ≤ left) (h1 : left ≤ 1048576) (hn1 : acc.length ≤ 9223372036854775807) (hn : rows.length ≤ 9223372036854775807) (hr : ∀ xs ∈ rows, xs.length ≤ 9223372036854775807) :
    FnDoes (gam base) 11 [m, encI left] H fun v _ => ∃ z : Int, v = encI z ∧ z ≤ left ∧ (0 ≤ z → z + (acc.length : Int) + (rows.length : Int) + (tot rows rows.length : Int) = left) := by
  refine FnDoes.of (fn := ir11) rfl ?_
  obtain ⟨u, x, tb, tw, rfl, hu, hx⟩ := h
  have u1 := hu.one
  have x1 := one_of_isSl hx.isSl
  simp [ir11, u1, x1]
  intro n1 b1 f1
  have o1 := Own.start (base := base) (H := H) |>.new f1 b1 (s := .arr 25 [.int .i64 T, .int .i64 S, u, x])
  have r2 := rd_ptr (o1.at 0 (b := n1) rfl) (rt := none) (j := 2) (c := u) rfl rfl
  have r3 := rd_ptr (o1.at 0 (b := n1) rfl) (rt := none) (j := 3) (c := x) rfl rfl
  obtain ⟨z, c1, c2, c3, c4⟩ := z_bools2 (base := base) (acc.map encB) left u _ (hu.keeps o1.keeps) h0 h1 (by simpa using hn1)
  simp [make_of f1 b1, r2]
  refine callP c1 ?_
  by_cases hz : z < 0
  · simp [hz]
    exact ⟨o1.keeps, by omega⟩
  · obtain ⟨z2, d1, d2, d3⟩ := z_rows2 (base := base) (rows.map (·.map encI)) z x _ (RdQ.cells (hx.keeps o1.keeps)) (by omega) (by omega) (by simpa using hn) (fun xs hxs => by
      obtain ⟨r, hr', rfl⟩ := List.mem_map.1 hxs
      rw [List.length_map]
      exact hr r hr')
    simp [hz, r3]
    refine callP d1 ?_
    have k3 := c4 (by omega)
    rw [List.length_map] at k3 d3
    rw [tot_map] at d3
    by_cases hz2 : z2 < 0
    · simp [hz2]
      exact ⟨o1.keeps, by omega⟩
    · simp [hz2]
      refine ⟨o1.keeps, by omega, fun h0 => ?_⟩
      have := d3 h0
      omega
theorem mark_rowsF {H K : BH} {v : BV} {wo : Option Nat} {vs : List BV} {fr Z : List Sl} {bo : Option Nat} {st : BSt} {xss : List (List BV)} (k : Nat) (o : Own base H K ((bo, st) :: (wo, .arr 67 vs) :: (fr ++ Z))) (hv : Vec wo v vs.length) (hr : RowsOf 2 vs fr xss)
    (hk : k + tot xss xss.length ≤ 1000000000) (hn : xss.length ≤ 1000000000) :
    FnW (gam base) 53 [v, encN k] K fun u K' => u = encN (k + tot xss xss.length) ∧ Own base H K' Z := by
  obtain ⟨R, hR⟩ : ∃ R : BV → BH → Prop, R = fun u K' => u = encN (k + tot xss xss.length) ∧ Own base H K' Z := ⟨_, rfl⟩
  rw [← hR]
  refine FnW.of (fn := ir53) rfl ?_
  simp [ir53]
  have hvl := hr.len
  obtain ⟨I, hI⟩ : ∃ I : Nat → Env → BH → Prop, I = (fun i e K' => e 5 = encN i ∧ e 1 = encN (k + tot xss i) ∧ ∃ fr' yss, Own base H K' ((bo, st) :: (wo, .arr 67 vs) :: (fr' ++ Z)) ∧ RowsOf 2 vs fr' yss ∧ yss.map List.length = xss.map List.length) := ⟨_, rfl⟩
  refine wpC_countK xss.length [(0, v)] I (i0 := 0) rfl ?_ ?_ (Nat.zero_le _) ?_
  · simp
  · rw [hI]
    exact ⟨by simp, by simp [tot_zero], fr, xss, o, hr, rfl⟩
  rintro i e K' hi ⟨e0, -⟩ hh
  rw [hI] at hh
  obtain ⟨e5, e1, fr', yss, o', hr', hlen⟩ := hh
  simp only [] at e0
  by_cases hlt : i < xss.length
  · have wi := wS (n := i) (by omega)
    have hvi : i < vs.length := by omega
    have hyl : yss.length = xss.length := by simpa using congrArg List.length hlen
    have hiy : i < yss.length := by omega
    have hle : yss[i].length = xss[i].length := by
      have h1 : (yss.map List.length)[i]'(by simpa using hiy) = (xss.map List.length)[i]'(by simpa using hlt) := by simp only [hlen]
      simpa using h1
    obtain ⟨uo, hfr, huv⟩ := hr'.get (i := i) (u := vs[i]) (by simp [hvi]) (xs := yss[i]) (List.getElem?_eq_getElem hiy)
    have g1 := (o'.rd 1 rfl hv).get (i := i) hvi (rt := none) rfl
    have s1 := (o'.rd 1 rfl hv).isSl
    have l1 := (o'.rd 1 rfl hv).len
    have hts := tot_succ hlt
    have htl := tot_le xss (i + 1)
    simp [e0, e1, e5, s1, l1, hvi, g1]
    refine (mark_ints (base := base) (i + 2) (k + tot xss i) o' (by simpa [List.getElem?_append_left (show i < fr'.length from (List.getElem?_eq_some_iff.1 hfr).1)] using hfr) huv (by omega)).step fun u K2 hh => ?_
    obtain ⟨rfl, o2⟩ := hh
    simp [e5, wi, hlt]
    rw [hI]
    refine ⟨by simp, by rw [hts, hle]; simp; omega, fr'.set i (uo, .arr 2 (mkI (k + tot xss i) yss[i].length)), yss.set i (mkI (k + tot xss i) yss[i].length), ?_, ?_, ?_⟩
    · rw [← List.set_append_left _ _ (List.getElem?_eq_some_iff.1 hfr).1]
      exact o2
    · exact RowsOf.upd (by rw [mkI_len]) hr' hfr
    · rw [List.map_set, mkI_len, ← hlen]
      exact set_self (by simp [hiy])
  · have hie : i = xss.length := by omega
    subst hie
    simp [e0, e1, e5, hv.isSl, hv.len, hvl.1]
    rw [hR]
    exact ⟨rfl, o'.sub ((List.sublist_append_right _ _).trans ((List.sublist_cons_self _ _).trans (List.sublist_cons_self _ _)))⟩
theorem mark_relF {H K : BH} {T S : Int} {acc : List Bool} {rows : List (List Int)} {m : BV} {Z : List Sl} (k : Nat) (h : OwnQ base H K T S acc rows m Z) (hk : k + acc.length + tot rows rows.length ≤ 1000000000) (hn : rows.length ≤ 1000000000) :
    FnW (gam base) 18 [m, encN k] K fun v K' => v = encN (k + acc.length + tot rows rows.length) ∧ Own base H K' Z := by
  obtain ⟨R, hR⟩ : ∃ R : BV → BH → Prop, R = fun v K' => v = encN (k + acc.length + tot rows rows.length) ∧ Own base H K' Z := ⟨_, rfl⟩
  rw [← hR]
  refine FnW.of (fn := ir18) rfl ?_
  obtain ⟨u, x, bo, wo, vs, fr, rfl, o, hu, hx, hr⟩ := h
  have u1 := hu.one
  have x1 := hx.one
  simp [ir18, u1, x1]
  intro n1 b1 f1
  have o1 := o.new f1 b1 (s := .arr 29 [.int .i64 T, .int .i64 S, u, x])
  have r2 := rd_ptr (o1.at 0 (b := n1) rfl) (rt := none) (j := 2) (c := u) rfl rfl
  simp [make_of f1 b1, r2]
  refine (mark_bools (base := base) 1 k o1 rfl (by simpa using hu) (by simp; omega)).step fun v K1 hh => ?_
  obtain ⟨rfl, o2⟩ := hh
  have o2 : Own base H K1 ((some n1, .arr 29 [.int .i64 T, .int .i64 S, u, x]) :: (bo, .arr 4 (mkB k (acc.map encB).length)) :: (wo, .arr 67 vs) :: (fr ++ Z)) := o2
  have r3 := rd_ptr (o2.at 0 (b := n1) rfl) (rt := none) (j := 3) (c := x) rfl rfl
  rw [List.length_map] at o2
  simp [r3]
  have htm := tot_map encI rows rows.length
  have hmr := mark_rowsF (base := base) (k + acc.length) o2.tail hx hr (by rw [List.length_map, htm]; exact hk) (by simpa using hn)
  rw [List.length_map, htm] at hmr
  refine hmr.step fun v K2 hh => ?_
  obtain ⟨rfl, o3⟩ := hh
  simp
  rw [hR]
  exact ⟨by simp, o3⟩
noncomputable def add2N (p1 p2 : Nat) (L : List Nat → Bool) : Option Aut × Nat := thenN (fun B => addN 2 p2 (B.lang 0)) (addN 1 p1 L)
theorem add2N_good {p1 p2 s : Nat} {A : Aut} (hok : A.Ok (wd 1)) (hs : s < A.acc.length) : GoodC 3 (add2N p1 p2 (A.lang s)) :=
  thenN_good (t' := 2) (addN_goodC (t := 1) (by decide) hok hs) fun B hB _ => addN_goodC (t := 2) (by decide) hB hB.pos
theorem i_addTapes2 (s p1 p2 : Nat) (h1 : p1 ≤ 1) (h2 : p2 ≤ 2) (A : Aut) (m v : BV) (H : BH) (hA : RdRel H 1 s A m) (hv : Rd H 2 v [encN p1, encN p2]) (hok : A.Ok (wd 1)) (hs : s < A.acc.length) (hn : A.acc.length ≤ 150) :
    FnDoes (gam base) 47 [m, v] H fun r K => RelR base H 3 (add2N p1 p2 (A.lang s)) r K := by
  obtain ⟨R, hR⟩ : ∃ R : BV → BH → Prop, R = fun r K => RelR base H 3 (add2N p1 p2 (A.lang s)) r K := ⟨_, rfl⟩
  rw [← hR]
  refine FnDoes.of (fn := ir47) rfl ?_
  have g1 := hA
  obtain ⟨u, x, rfl, hu, hx⟩ := hA
  have u1 := hu.one
  have x1 := one_of_isSl hx.isSl
  have hvl := hv.len
  simp [ir47, u1, x1]
  intro n2 b2 f2
  simp [make_of f2 b2]
  intro n4 b4 f4
  have o1 := Own.start (base := base) (H := H) |>.new f2 b2 (s := .arr 29 [encN 1, encN s, u, x]) |>.new f4 b4 (s := .arr 29 [.int .i64 0, .int .i64 0, .nils, .nils])
  have r2 := rd_all (o1.at 1 (b := n2) rfl) (n := 4) (rt := none) rfl rfl
  have gv0 := (hv.keeps o1.keeps).get (i := 0) (by simp) (rt := none) rfl
  have w1 : IntKind.i64.wrap 1 = 1 := by decide
  have w2 : IntKind.i64.wrap 2 = 2 := by decide
  have hvl2 : v.slen = 2 := by rw [hv.len]; rfl
  simp only [List.getElem_cons_zero] at gv0
  simp [make_of f4 b4, hv.isSl, hvl2]
  refine wpC_unroll ?_
  simp [hv.isSl, hvl2, gv0, r2]
  have hadd := i_AddTape (base := base) 1 s p1 (by omega) (by omega) h1 A _ _ (g1.keeps o1.keeps) hok hs hn
  refine hadd.step fun r K1 k1 hr => ?_
  have hr : RelR base _ 2 (addN 1 p1 (A.lang s)) r K1 := hr
  have hg : GoodC 2 (addN 1 p1 (A.lang s)) := addN_goodC (t := 1) (by decide) hok hs
  obtain ⟨G, hG⟩ : ∃ G, G = addN 1 p1 (A.lang s) := ⟨_, rfl⟩
  have hres : add2N p1 p2 (A.lang s) = thenN (fun B => addN 2 p2 (B.lang 0)) G := by rw [hG]; rfl
  rw [← hG] at hr hg
  refine rel_step (d := 16) (a := 20) (b := 21) (x := 8) (y := 9) (p := 22) (q := 23) (z := 24) (w := 25) (r4 := 4) (r5 := 5) (t := 2) o1 (L := _) (i := 0) (n4 := n4) rfl rfl k1 hr hg [(2, .ptr n2 0), (10, v), (12, encN 0), (11, encN 2)] ?_ ?_ (by simp) (by decide) (fun _ _ h => h) ?_ ?_
  · simp [Has]
  · simp
  · rintro e1 n K2 B ms eG ⟨e8, e9, e4, e2, e10, e12, e11, -⟩ - - hrel g8
    simp only [] at e8 e9 e4 e2 e10 e12 e11
    rw [eG] at hres hg
    have hB : B.Ok (wd 2) := hg.2.1
    obtain ⟨u', x', em, u1', x1'⟩ := hrel.cells
    cases em
    obtain ⟨Y, oY, hY⟩ := hrel.rows2
    have oj := Own.join o1 oY.keeps oY
    obtain ⟨K6, g6, o6⟩ := oj.putAll 1 (b := n2) rfl (n := 4) (ds := [encN 2, encN 0, u', x']) rfl rfl (by simp [u1', x1']) (rt := none) rfl
    have o6 : Own base H K6 ([(some n4, .arr 29 [.int .i64 0, .int .i64 0, .nils, .nils]), (some n2, .arr 29 [encN 2, encN 0, u', x'])] ++ Y) := o6
    have r2 := rd_all (o6.at 1 (b := n2) rfl) (n := 4) (rt := none) rfl rfl
    have gv1 := (hv.keeps o6.keeps).get (i := 1) (by simp) (rt := none) rfl
    simp only [List.getElem_cons_succ, List.getElem_cons_zero] at gv1
    have hBr : RdRel K6 2 0 B (.agg [encN 2, encN 0, u', x']) := (hY o6).rd
    simp [e8, e2, g8, g6, e12, w1]
    refine wpC_unroll ?_
    simp [e10, e11, e12, hv.isSl, hvl2, gv1, e2, r2, w1]
    have hadd := i_AddTape (base := base) 2 0 p2 (by omega) (by omega) h2 B _ _ hBr hB hB.pos hg.2.2
    refine hadd.step fun r K1' k1' hr' => ?_
    have hr' : RelR base _ 3 (addN 2 p2 (B.lang 0)) r K1' := hr'
    have hg' : GoodC 3 (addN 2 p2 (B.lang 0)) := addN_goodC (t := 2) (by decide) hB hB.pos
    obtain ⟨G', hG'⟩ : ∃ G', G' = addN 2 p2 (B.lang 0) := ⟨_, rfl⟩
    have hres' : add2N p1 p2 (A.lang s) = G' := by rw [hres, hG']; rfl
    rw [← hG'] at hr' hg'
    refine rel_step (d := 16) (a := 20) (b := 21) (x := 8) (y := 9) (p := 22) (q := 23) (z := 24) (w := 25) (r4 := 4) (r5 := 5) (t := 3) o6 (L := _) (i := 0) (n4 := n4) rfl rfl k1' hr' hg' [(2, .ptr n2 0), (10, v), (12, encN 1), (11, encN 2)] ?_ ?_ (by simp) (by decide) (fun _ _ h => h) ?_ ?_
    · simp [Has, e4, e2, e10, e12, e11]
    · simp
    · rintro e3 n' K3 B' ms' eG' ⟨e8', e9', e4', e2', e10', e12', e11', -⟩ - - hrel' g8'
      simp only [] at e8' e9' e4' e2' e10' e12' e11'
      rw [eG'] at hres'
      obtain ⟨u3, x3, em, u31, x31⟩ := hrel'.cells
      cases em
      obtain ⟨Y', oY', hY'⟩ := hrel'.rows2
      have oj' := Own.join (o6.sub (List.sublist_append_left _ _)) oY'.keeps oY'
      obtain ⟨K7, g7, o7⟩ := oj'.putAll 1 (b := n2) rfl (n := 4) (ds := [encN 3, encN 0, u3, x3]) rfl rfl (by simp [u31, x31]) (rt := none) rfl
      have r7 := rd_all (o7.at 1 (b := n2) rfl) (n := 4) (rt := none) rfl rfl
      obtain ⟨K8, g9, o8⟩ := o7.putAll 0 (b := n4) rfl (n := 4) (ds := [encN 3, encN 0, u3, x3]) rfl rfl (by simp [u31, x31]) (rt := none) rfl
      have o8 : Own base H K8 ([(some n4, .arr 29 [encN 3, encN 0, u3, x3]), (some n2, .arr 29 [encN 3, encN 0, u3, x3])] ++ Y') := o8
      have r8 := rd_all (o8.at 0 (b := n4) rfl) (n := 4) (rt := none) rfl rfl
      simp [e8', e2', g8', g7, e12', w2]
      refine wpC_unroll ?_
      simp [e11', e2', e4', r7, g9, r8, w2]
      rw [hR, hres']
      exact ⟨o8.keeps, _, rfl, hY' o8⟩
    · intro e3 K3 c eG' hh r4 kk
      rw [eG'] at hres'
      obtain ⟨e5, e4, -⟩ := hh
      simp [e4, e5, r4]
      rw [hR, hres']
      exact ⟨kk, rfl⟩
  · intro e1 K2 c eG hh r4 kk
    rw [eG] at hres
    obtain ⟨e5, e4, -⟩ := hh
    simp [e4, e5, r4]
    rw [hR, hres]
    exact ⟨kk, rfl⟩
theorem addN3_some : ∃ B, addN3 = (some B, 0) := by
  have hU := add_closed
  obtain ⟨hX, hXl, -⟩ := linX_ok (terms := [1, 1, -1]) hU
  obtain ⟨X, hXX⟩ : ∃ X, X = linX 1 0 [1, 1, -1] [0, oddI, -1] := ⟨_, rfl⟩
  rw [← hXX] at hX hXl
  have hX : X.Ok (wd 3) := hX
  have hXl : X.acc.length ≤ 3 := hXl
  obtain ⟨hD, hDl⟩ := LD_small (t := 3) (by decide) (S := List.range 3) (fun k hk => List.mem_range.1 hk)
  obtain ⟨D, hDD⟩ : ∃ D, D = TA 3 (LD (List.range 3)) := ⟨_, rfl⟩
  have hT := TA_len2 (t := 3) hX hX.pos
  have hTS := (TA_spec (by decide) hX hX.pos).1
  have e1 : told (TA 3 (X.lang 0)) = (some (TA 3 (X.lang 0)), 0) := by
    unfold told
    rw [if_neg (by omega)]
  have e2 : addN3 = joinN 3 (fun a b => a && b) ((TA 3 (X.lang 0)).lang 0) ((TA 3 (LD (List.range 3))).lang 0) := by
    unfold addN3 linN
    have : told (TA ([1, 1, -1] : List Int).length ((linX 1 0 [1, 1, -1] [0, oddI, -1]).lang 0)) = (some (TA 3 (X.lang 0)), 0) := by rw [← hXX]; exact e1
    rw [this]
    rfl
  have hDD2 : TA 3 (D.lang 0) = D := by
    rw [hDD]
    exact TA_congr fun cs hc hr => by
      rw [hD.lang hc]
      simp [rl, hr]
  rw [← hDD] at e2 hD hDl
  have hp := prodA_ok (op := fun a b => a && b) hX hD.ok
  have hpl : (prodA (wd 3) X D (fun a b => a && b)).acc.length = X.acc.length * D.acc.length := prodA_len
  have hle : X.acc.length * D.acc.length ≤ 3 * 28 := Nat.mul_le_mul hXl hDl
  have hs := (TA_small (t := 3) hp hp.pos (L := fun cs => X.lang 0 cs && D.lang 0 cs) fun cs hc => by
    have := prodA_lang (op := fun a b => a && b) hX hD.ok cs 0 0 hX.pos hD.ok.pos hc
    rw [Nat.zero_mul, Nat.zero_add] at this
    rw [this]
    show _ = (rightF 3 0 cs && (X.lang 0 cs && D.lang 0 cs))
    rw [show D.lang 0 cs = (rightF 3 0 cs && LD (List.range 3) cs) from hD.lang hc]
    cases rightF 3 0 cs <;> simp).2
  rw [e2, joinN_TA (by decide) hX hX.pos]
  unfold joinN
  have h7 : (TA 3 (X.lang 0)).acc.length * (TA 3 (D.lang 0)).acc.length ≤ 25 * 28 := Nat.mul_le_mul (by omega) (by rw [hDD2]; exact hDl)
  rw [if_neg (by omega)]
  exact ⟨TA 3 (fun cs => X.lang 0 cs && D.lang 0 cs), if_neg (show ¬ 150 < (TA 3 (fun cs => X.lang 0 cs && D.lang 0 cs)).acc.length from by rw [hpl] at hs; omega)⟩
noncomputable def some0 (l t : Nat) (A : Aut) : Option Aut × Nat := someN l t 0 (TA (t + 1) (A.lang 0))
theorem some0_good {l t : Nat} (ht : t + 1 ≤ 3) {A : Aut} : GoodC t (some0 l t A) := someN_good (s := 0) ht
theorem i_SumSets1 (l : Nat) (hl : l = 1000) (t : Nat) (ht1 : 1 ≤ t) (ht : t + 1 ≤ 3) (A : Aut) (m : BV) (H : BH) (hA : RdRel H (t + 1) 0 A m) (hok : A.Ok (wd (t + 1))) (hn : A.acc.length ≤ 150) :
    FnDoes (gam base) 49 [m] H fun v K => RelR base H t (some0 l t A) v K := by
  refine FnDoes.of (fn := ir49) rfl ?_
  have g1 := hA
  obtain ⟨u, x, rfl, hu, hx⟩ := hA
  have u1 := hu.one
  have x1 := one_of_isSl hx.isSl
  obtain ⟨T, hT⟩ : ∃ T, T = t + 1 := ⟨_, rfl⟩
  rw [← hT] at g1 hok
  have e1 : (encN (t + 1)) = encN T := by rw [hT]
  rw [e1]
  simp [ir49, u1, x1]
  intro n1 b1 f1
  simp [make_of f1 b1]
  intro n2 b2 f2
  have o1 := Own.start (base := base) (H := H) |>.new f1 b1 (s := .arr 29 [encN T, encN 0, u, x]) |>.new f2 b2 (s := .arr 29 [.int .i64 0, .int .i64 0, .nils, .nils])
  have r1 := rd_all (o1.at 1 (b := n1) rfl) (n := 4) (rt := none) rfl rfl
  simp [make_of f2 b2, r1]
  have g2 := g1.keeps o1.keeps
  rw [hT] at g2 hok
  have hso := i_SomeOn (base := base) l hl t 0 0 ht1 ht (by omega) A _ _ g2 hok hok.pos hn
  rw [e1] at hso
  refine hso.step fun r K1 k1 hr => ?_
  obtain ⟨m', K7, rfl, g7, r7, kk, hrel⟩ := rel_end (base := base) o1 (i := 0) (n2 := n2) rfl rfl k1 hr
  simp [g7, r7]
  exact ⟨kk, hrel⟩
theorem i_chain2 (l : Nat) (hl : l = 1000) (A : Aut) (m v : BV) (H : BH) (hA : RdRel H 3 0 A m) (hv : Rd H 62 v [.fn 49 [], .fn 49 []]) (hok : A.Ok (wd 3)) (hn : A.acc.length ≤ 150) :
    FnDoes (gam base) 51 [m, v] H fun r K => RelR base H 1 (thenN (some0 l 1) (some0 l 2 A)) r K := by
  obtain ⟨R, hR⟩ : ∃ R : BV → BH → Prop, R = fun r K => RelR base H 1 (thenN (some0 l 1) (some0 l 2 A)) r K := ⟨_, rfl⟩
  rw [← hR]
  refine FnDoes.of (fn := ir51) rfl ?_
  have g1 := hA
  obtain ⟨u, x, rfl, hu, hx⟩ := hA
  have u1 := hu.one
  have x1 := one_of_isSl hx.isSl
  simp [ir51, u1, x1]
  intro n2 b2 f2
  simp [make_of f2 b2]
  intro n4 b4 f4
  have o1 := Own.start (base := base) (H := H) |>.new f2 b2 (s := .arr 29 [encN 3, encN 0, u, x]) |>.new f4 b4 (s := .arr 29 [.int .i64 0, .int .i64 0, .nils, .nils])
  have r2 := rd_all (o1.at 1 (b := n2) rfl) (n := 4) (rt := none) rfl rfl
  have gv0 := (hv.keeps o1.keeps).get (i := 0) (by simp) (rt := none) rfl
  have w1 : IntKind.i64.wrap 1 = 1 := by decide
  have w2 : IntKind.i64.wrap 2 = 2 := by decide
  have hvl2 : v.slen = 2 := by rw [hv.len]; rfl
  simp only [List.getElem_cons_zero] at gv0
  simp [make_of f4 b4, hv.isSl, hvl2]
  refine wpC_unroll ?_
  simp [hv.isSl, hvl2, gv0, r2]
  have hadd := i_SumSets1 (base := base) l hl 2 (by decide) (by decide) A _ _ (g1.keeps o1.keeps) hok hn
  refine hadd.step fun r K1 k1 hr => ?_
  have hg : GoodC 2 (some0 l 2 A) := some0_good (by decide)
  obtain ⟨G, hG⟩ : ∃ G, G = some0 l 2 A := ⟨_, rfl⟩
  rw [← hG] at hr hg hR
  refine rel_step (d := 16) (a := 20) (b := 21) (x := 8) (y := 9) (p := 22) (q := 23) (z := 24) (w := 25) (r4 := 4) (r5 := 5) (t := 2) o1 (L := _) (i := 0) (n4 := n4) rfl rfl k1 hr hg [(2, .ptr n2 0), (10, v), (12, encN 0), (11, encN 2)] ?_ ?_ (by simp) (by decide) (fun _ _ h => h) ?_ ?_
  · simp [Has]
  · simp
  · rintro e1 n K2 B ms eG ⟨e8, e9, e4, e2, e10, e12, e11, -⟩ - - hrel g8
    simp only [] at e8 e9 e4 e2 e10 e12 e11
    rw [eG] at hR hg
    have hB : B.Ok (wd 2) := hg.2.1
    obtain ⟨u', x', em, u1', x1'⟩ := hrel.cells
    cases em
    obtain ⟨Y, oY, hY⟩ := hrel.rows2
    have oj := Own.join o1 oY.keeps oY
    obtain ⟨K6, g6, o6⟩ := oj.putAll 1 (b := n2) rfl (n := 4) (ds := [encN 2, encN 0, u', x']) rfl rfl (by simp [u1', x1']) (rt := none) rfl
    have o6 : Own base H K6 ([(some n4, .arr 29 [.int .i64 0, .int .i64 0, .nils, .nils]), (some n2, .arr 29 [encN 2, encN 0, u', x'])] ++ Y) := o6
    have r2 := rd_all (o6.at 1 (b := n2) rfl) (n := 4) (rt := none) rfl rfl
    have gv1 := (hv.keeps o6.keeps).get (i := 1) (by simp) (rt := none) rfl
    simp only [List.getElem_cons_succ, List.getElem_cons_zero] at gv1
    have hBr : RdRel K6 2 0 B (.agg [encN 2, encN 0, u', x']) := (hY o6).rd
    simp [e8, e2, g8, g6, e12, w1]
    refine wpC_unroll ?_
    simp [e10, e11, e12, hv.isSl, hvl2, gv1, e2, r2, w1]
    have hadd := i_SumSets1 (base := base) l hl 1 (by decide) (by decide) B _ _ hBr hB hg.2.2
    refine hadd.step fun r K1' k1' hr' => ?_
    have hg' : GoodC 1 (some0 l 1 B) := some0_good (by decide)
    have hR' : R = fun r K => RelR base H 1 (some0 l 1 B) r K := hR
    obtain ⟨G', hG'⟩ : ∃ G', G' = some0 l 1 B := ⟨_, rfl⟩
    rw [← hG'] at hr' hg' hR'
    refine rel_step (d := 16) (a := 20) (b := 21) (x := 8) (y := 9) (p := 22) (q := 23) (z := 24) (w := 25) (r4 := 4) (r5 := 5) (t := 1) o6 (L := _) (i := 0) (n4 := n4) rfl rfl k1' hr' hg' [(2, .ptr n2 0), (10, v), (12, encN 1), (11, encN 2)] ?_ ?_ (by simp) (by decide) (fun _ _ h => h) ?_ ?_
    · simp [Has, e4, e2, e10, e12, e11]
    · simp
    · rintro e3 n' K3 B' ms' eG' ⟨e8', e9', e4', e2', e10', e12', e11', -⟩ - - hrel' g8'
      simp only [] at e8' e9' e4' e2' e10' e12' e11'
      rw [eG'] at hR'
      obtain ⟨u3, x3, em, u31, x31⟩ := hrel'.cells
      cases em
      obtain ⟨Y', oY', hY'⟩ := hrel'.rows2
      have oj' := Own.join (o6.sub (List.sublist_append_left _ _)) oY'.keeps oY'
      obtain ⟨K7, g7, o7⟩ := oj'.putAll 1 (b := n2) rfl (n := 4) (ds := [encN 1, encN 0, u3, x3]) rfl rfl (by simp [u31, x31]) (rt := none) rfl
      have r7 := rd_all (o7.at 1 (b := n2) rfl) (n := 4) (rt := none) rfl rfl
      obtain ⟨K8, g9, o8⟩ := o7.putAll 0 (b := n4) rfl (n := 4) (ds := [encN 1, encN 0, u3, x3]) rfl rfl (by simp [u31, x31]) (rt := none) rfl
      have o8 : Own base H K8 ([(some n4, .arr 29 [encN 1, encN 0, u3, x3]), (some n2, .arr 29 [encN 1, encN 0, u3, x3])] ++ Y') := o8
      have r8 := rd_all (o8.at 0 (b := n4) rfl) (n := 4) (rt := none) rfl rfl
      simp [e8', e2', g8', g7, e12', w2]
      refine wpC_unroll ?_
      simp [e11', e2', e4', r7, g9, r8, w2]
      rw [hR']
      exact ⟨o8.keeps, _, rfl, hY' o8⟩
    · intro e3 K3 c eG' hh r4 kk
      rw [eG'] at hR'
      obtain ⟨e5, e4, -⟩ := hh
      simp [e4, e5, r4]
      rw [hR']
      exact ⟨kk, rfl⟩
  · intro e1 K2 c eG hh r4 kk
    rw [eG] at hR
    obtain ⟨e5, e4, -⟩ := hh
    simp [e4, e5, r4]
    rw [hR]
    exact ⟨kk, rfl⟩
theorem RdRs.two {K : BH} {r q : Raw4} {n : Nat} {u x u' x' : BV} (h : RdRaw K r.1 r.2.1 r.2.2.1 r.2.2.2 (.agg [.int .i64 r.1, .int .i64 r.2.1, u, x])) (h' : RdRaw K q.1 q.2.1 q.2.2.1 q.2.2.2 (.agg [.int .i64 q.1, .int .i64 q.2.1, u', x']))
    (hr : K.row n = .arr 29 [.int .i64 r.1, .int .i64 r.2.1, u, x, .int .i64 q.1, .int .i64 q.2.1, u', x']) : RdRs K (.sl n 0 2) [r, q] := by
  refine ⟨[[.int .i64 r.1, .int .i64 r.2.1, u, x], [.int .i64 q.1, .int .i64 q.2.1, u', x']], ⟨rfl, rfl, fun i y hi => ?_⟩, rfl, fun i c s hi hq => ?_⟩
  · have hi2 := (List.getElem?_eq_some_iff.1 hi).1
    have : i = 0 ∨ i = 1 := by have : i < 2 := hi2; omega
    rcases this with rfl | rfl
    · simp at hi
      subst hi
      exact ⟨n, 0, _, rfl, hr, by simp, rfl⟩
    · simp at hi
      subst hi
      exact ⟨n, 4, _, rfl, hr, by simp, rfl⟩
  · have hi2 := (List.getElem?_eq_some_iff.1 hi).1
    have : i = 0 ∨ i = 1 := by have : i < 2 := hi2; omega
    rcases this with rfl | rfl
    · simp at hi hq
      subst hi hq
      exact h
    · simp at hi hq
      subst hi hq
      exact h'
theorem sets_two {r q : Raw4} (h : setsN [r, q] = 0) : setsN [r] = 0 ∧ setsN [q] = 0 := by
  unfold setsN at h ⊢
  split at h
  · next h1 =>
    split at h
    · next h2 =>
      simp at h1 h2
      simp [h1, h2]
    · omega
  · omega
noncomputable def langR (r : Raw4) : List Nat → Bool := (autR r).lang r.2.1.toNat
noncomputable def sumC (L M : List Nat → Bool) : Option Aut × Nat := bothN 3 (fun a b => a && b) (bothN 3 (fun a b => a && b) (add2N 1 2 L) (add2N 0 2 M)) addN3
noncomputable def sumR (l : Nat) (r q : Raw4) : Option Aut × Nat := if setsN [r, q] = 0 then thenN (some0 l 1) (thenN (some0 l 2) (sumC (langR r) (langR q))) else (none, setsN [r, q])
theorem lay {K : BH} {n : Nat} {a b c d : BV} (f : K.row n = .fresh) (hb : base ≤ n) (p : ([a, b, c, d] : List BV).all BV.one = true) : ∃ K', (K.set n (.arr 29 [.int .i64 0, .int .i64 0, .nils, .nils])).wr base none 4 (.ptr n 0) (.agg [a, b, c, d]) = some K' ∧
    K.Keeps K' ∧ K'.rd none (some 4) (.ptr n 0) = some (.agg [a, b, c, d]) ∧ K'.row n = .arr 29 [a, b, c, d] ∧ ∀ {H : BH} {L : List Sl}, Own base H K L → Own base H K' ((some n, .arr 29 [a, b, c, d]) :: L) := by
  obtain ⟨K', g, o⟩ := ((Own.start (base := base) (H := K)).new f hb (s := .arr 29 [.int .i64 0, .int .i64 0, .nils, .nils])).putAll 0 (b := n) rfl (n := 4) (ds := [a, b, c, d]) rfl rfl p (rt := none) rfl
  refine ⟨K', g, o.keeps, rd_all (o.at 0 (b := n) rfl) rfl rfl, o.at 0 (b := n) rfl, fun {H L} oh => ?_⟩
  obtain ⟨K2, g2, o2⟩ := (oh.new f hb (s := .arr 29 [.int .i64 0, .int .i64 0, .nils, .nils])).putAll 0 (b := n) rfl (n := 4) (ds := [a, b, c, d]) rfl rfl p (rt := none) rfl
  have ek : K2 = K' := by rw [g] at g2; exact (Option.some.inj g2).symm
  subst ek
  exact o2
theorem i_SumOfSets (l : Nat) (hl : l = 1000) (r q : Raw4) (m m' : BV) (H : BH) (h : RdRaw H r.1 r.2.1 r.2.2.1 r.2.2.2 m) (h' : RdRaw H q.1 q.2.1 q.2.2.1 q.2.2.2 m') (hn : r.2.2.1.length ≤ 4611686018427387904) (hn' : q.2.2.1.length ≤ 4611686018427387904) :
    FnDoes (gam base) 17 [m, m'] H fun v K => RelR base H 1 (sumR l r q) v K := by
  obtain ⟨R, hR⟩ : ∃ R : BV → BH → Prop, R = fun v K => RelR base H 1 (sumR l r q) v K := ⟨_, rfl⟩
  rw [← hR]
  refine FnDoes.of (fn := ir17) rfl ?_
  have g := h
  have g' := h'
  obtain ⟨u, x, rfl, hu, hx⟩ := h
  obtain ⟨u', x', rfl, hu', hx'⟩ := h'
  have u1 := hu.one
  have x1 := one_of_isSl hx.isSl
  have u1' := hu'.one
  have x1' := one_of_isSl hx'.isSl
  simp [ir17, u1, x1]
  intro n2 b2 f2
  simp [make_of f2 b2, u1', x1']
  intro n3 b3 f3
  simp [make_of f3 b3]
  intro n4 b4 f4
  have o1 := Own.start (base := base) (H := H) |>.new f2 b2 (s := .arr 29 [.int .i64 r.1, .int .i64 r.2.1, u, x]) |>.new f3 b3 (s := .arr 29 [.int .i64 q.1, .int .i64 q.2.1, u', x']) |>.new f4 b4 (s := .arr 29 [.int .i64 0, .int .i64 0, .nils, .nils])
  have r2 := rd_all (o1.at 2 (b := n2) rfl) (n := 4) (rt := none) rfl rfl
  have r3 := rd_all (o1.at 1 (b := n3) rfl) (n := 4) (rt := none) rfl rfl
  simp [make_of f4 b4, r2, r3, u1, x1, u1', x1']
  intro n15 b15 f15
  have o2 := o1.new f15 b15 (s := .arr 29 [.int .i64 r.1, .int .i64 r.2.1, u, x, .int .i64 q.1, .int .i64 q.2.1, u', x'])
  simp [make_of f15 b15]
  refine (i_checkSets (base := base) [r, q] (.sl n15 0 2) _ (RdRs.two (g.keeps o2.keeps) (g'.keeps o2.keeps) (o2.at 0 rfl)) (by simp) (by simp; exact ⟨hn, hn'⟩)).step fun v K3 k3 hv => ?_
  subst hv
  have o3 := (o2.call k3).tail
  by_cases h0 : setsN [r, q] = 0
  case neg =>
    obtain ⟨mz, K7, e7, g7, r7, kk, hrel⟩ := rel_end (base := base) (t := 1) (r := (none, setsN [r, q])) o3 (i := 0) (n2 := n4) rfl rfl (BH.Keeps.refl _) rfl
    cases e7
    have g7' : K3.wr base none 4 (.ptr n4 0) (.agg [.int .i64 0, .int .i64 0, .nils, .nils]) = some K7 := g7
    simp [sets_ne h0, g7', r7]
    rw [hR]
    have hres : sumR l r q = (none, setsN [r, q]) := if_neg h0
    rw [hres]
    exact ⟨kk, hrel⟩
  obtain ⟨h01, h02⟩ := sets_two h0
  obtain ⟨s, A, e1, e2, e3, e4, hok, hs, hlen, hA, -⟩ := ns_elim h01
  obtain ⟨s', A', e1', e2', e3', e4', hok', hs', hlen', hA', -⟩ := ns_elim h02
  have hrel : RdRel K3 1 s A (.agg [.int .i64 r.1, .int .i64 r.2.1, u, x]) := by
    have := g.keeps o3.keeps
    rw [e1, e2, e3, e4] at this
    rw [e1, e2]
    exact this.rel
  have hrel' : RdRel K3 1 s' A' (.agg [.int .i64 q.1, .int .i64 q.2.1, u', x']) := by
    have := g'.keeps o3.keeps
    rw [e1', e2', e3', e4'] at this
    rw [e1', e2']
    exact this.rel
  have hres : sumR l r q = thenN (some0 l 1) (thenN (some0 l 2) (sumC (A.lang s) (A'.lang s'))) := by
    unfold sumR langR
    rw [if_pos h0, hA, hA', e2, e2']
    rfl
  have r2 := rd_all (o3.at 2 (b := n2) rfl) (n := 4) (rt := none) rfl rfl
  simp [h0, r2]
  intro n23 b23 f23
  have o4 := (Own.start (base := base) (H := K3)).new f23 b23 (s := .arr 2 [.int .i64 1, .int .i64 2])
  have hv : Rd _ 2 (.sl n23 0 2) [encN 1, encN 2] := o4.rd 0 rfl rfl
  simp [make_of f23 b23]
  refine (i_addTapes2 (base := base) s 1 2 (by decide) (by decide) A _ _ _ (hrel.keeps o4.keeps) hv hok hs hlen).step fun v1 K4 k4 hr1 => ?_
  have gg1 := add2N_good (p1 := 1) (p2 := 2) hok hs
  obtain ⟨G1, hG1⟩ : ∃ G, G = add2N 1 2 (A.lang s) := ⟨_, rfl⟩
  rw [← hG1] at hr1 gg1
  obtain ⟨m1, rfl, hm1⟩ := hr1.out
  obtain ⟨a1, a2, a3, a4, em, p1, p2, p3, p4⟩ := hm1.ones
  subst em
  simp [p1, p2, p3, p4]
  intro n7 b7 f7
  obtain ⟨K5, g5, k5, r5, w5, l5⟩ := lay f7 b7 (a := a1) (b := a2) (c := a3) (d := a4) (by simp [p1, p2, p3, p4])
  have o5 := l5 (o3.call (o4.keeps.trans k4))
  have r3 := rd_all (o5.at 2 (b := n3) rfl) (n := 4) (rt := none) rfl rfl
  simp [make_of f7 b7, g5, r3]
  intro n29 b29 f29
  have o6 := (Own.start (base := base) (H := K5)).new f29 b29 (s := .arr 2 [.int .i64 0, .int .i64 2])
  have hv' : Rd _ 2 (.sl n29 0 2) [encN 0, encN 2] := o6.rd 0 rfl rfl
  simp [make_of f29 b29]
  refine (i_addTapes2 (base := base) s' 0 2 (by decide) (by decide) A' _ _ _ (hrel'.keeps (o4.keeps.trans (k4.trans (k5.trans o6.keeps)))) hv' hok' hs' hlen').step fun v2 K6 k6 hr2 => ?_
  have gg2 := add2N_good (p1 := 0) (p2 := 2) hok' hs'
  obtain ⟨G2, hG2⟩ : ∃ G, G = add2N 0 2 (A'.lang s') := ⟨_, rfl⟩
  rw [← hG2] at hr2 gg2
  obtain ⟨m2, rfl, hm2⟩ := hr2.out
  obtain ⟨c1, c2, c3, c4, em, q1, q2, q3, q4⟩ := hm2.ones
  subst em
  simp [q1, q2, q3, q4]
  intro n9 b9 f9
  obtain ⟨K7, g7, k7, r7, w7, l7⟩ := lay f9 b9 (a := c1) (b := c2) (c := c3) (d := c4) (by simp [q1, q2, q3, q4])
  have o7 := l7 (o5.call (o6.keeps.trans k6))
  have r5' := rd_all (o7.at 1 (b := n7) rfl) (n := 4) (rt := none) rfl rfl
  simp [make_of f9 b9, g7, r5', r7]
  refine (i_bothN (base := base) 3 (by decide) (by decide) G1 G2 _ _ K7 (hm1.keeps (k5.trans (o6.keeps.trans (k6.trans k7)))) (hm2.keeps k7) gg1 gg2).step fun v3 K8 k8 hr3 => ?_
  have gg3 := bothN_good (t := 3) (by decide) (op := fun a b => a && b) gg1 gg2
  obtain ⟨G3, hG3⟩ : ∃ G, G = bothN 3 (fun a b => a && b) G1 G2 := ⟨_, rfl⟩
  rw [← hG3] at hr3 gg3
  obtain ⟨m3, rfl, hm3⟩ := hr3.out
  obtain ⟨d1, d2, d3, d4, em, s1, s2, s3, s4⟩ := hm3.ones
  subst em
  simp [s1, s2, s3, s4]
  intro n11 b11 f11
  obtain ⟨K9, g9, k9, r9, w9, l9⟩ := lay f11 b11 (a := d1) (b := d2) (c := d3) (d := d4) (by simp [s1, s2, s3, s4])
  have o9 := l9 (o7.call k8)
  have r9x := rd_all (o9.at 0 (b := n11) rfl) (n := 4) (rt := some 29) rfl rfl
  simp [make_of f11 b11, g9, r9x]
  refine (i_AddRelation (base := base) K9).step fun v4 K10 k10 hr4 => ?_
  obtain ⟨B3, hB3⟩ := addN3_some
  have gg4 : GoodC 3 addN3 := linN_good (terms := [1, 1, -1]) (by decide) add_closed
  obtain ⟨m4, em4, hm4⟩ := hr4.out
  simp only [BV.tup.injEq, List.cons.injEq, and_true] at em4
  subst em4
  have hm4' : RdO K10 3 (some B3, 0) v4 := by rw [← hB3]; exact hm4
  rw [hB3] at gg4
  have hbo := i_bothN (base := base) 3 (by decide) (by decide) G3 (some B3, 0) _ v4 K10 (hm3.keeps (k9.trans k10)) hm4' gg3 gg4
  simp
  refine hbo.step fun v5 K11 k11 hr5 => ?_
  have gg5 := bothN_good (t := 3) (by decide) (op := fun a b => a && b) gg3 gg4
  have hsum : sumC (A.lang s) (A'.lang s') = bothN 3 (fun a b => a && b) G3 (some B3, 0) := by
    rw [hG3, hG1, hG2, ← hB3]
    rfl
  rw [hsum] at hres
  obtain ⟨G4, hG4⟩ : ∃ G, G = bothN 3 (fun a b => a && b) G3 (some B3, 0) := ⟨_, rfl⟩
  rw [← hG4] at hr5 gg5 hres
  have o10 := o9.call k10
  obtain ⟨G4a, c⟩ := G4
  cases G4a with
  | none =>
    have hr5 : v5 = .tup [.agg [.int .i64 0, .int .i64 0, .nils, .nils], encN c] := hr5
    subst hr5
    have hc := code_ne gg5.1
    have hc' : ¬ c = 0 := by have : 0 < c := gg5.1; omega
    obtain ⟨K12, g12, o12⟩ := (o10.call k11).putAll 0 (b := n11) rfl (n := 4) (ds := [.int .i64 0, .int .i64 0, .nils, .nils]) rfl rfl rfl (rt := none) rfl
    obtain ⟨m8, K13, e8, g8, r8x, kk8, hrel8⟩ := rel_end (base := base) (t := 1) (r := (none, c)) o12 (i := 3) (n2 := n4) rfl rfl (BH.Keeps.refl _) rfl
    cases e8
    have g8' : K12.wr base none 4 (.ptr n4 0) (.agg [.int .i64 0, .int .i64 0, .nils, .nils]) = some K13 := g8
    simp [g12, hc, hc', g8', r8x]
    rw [hR, hres]
    exact ⟨kk8, hrel8⟩
  | some B =>
    have ec : c = 0 := gg5.1
    subst ec
    obtain ⟨m5, rfl, ho⟩ := hr5
    obtain ⟨uu, xx, em, uu1, xx1⟩ := ho.cells
    subst em
    obtain ⟨Y, oY, hY⟩ := ho.rows2
    have oj := Own.join o10 k11 oY
    obtain ⟨K12, g12, o12⟩ := oj.putAll 0 (b := n11) rfl (n := 4) (ds := [encN 3, encN 0, uu, xx]) rfl rfl (by simp [uu1, xx1]) (rt := none) rfl
    have o12 : Own base H K12 ([(some n11, .arr 29 [encN 3, encN 0, uu, xx]), (some n9, .arr 29 [c1, c2, c3, c4]), (some n7, .arr 29 [a1, a2, a3, a4]), (some n4, .arr 29 [.int .i64 0, .int .i64 0, .nils, .nils]), (some n3, .arr 29 [.int .i64 q.1, .int .i64 q.2.1, u', x']), (some n2, .arr 29 [.int .i64 r.1, .int .i64 r.2.1, u, x])] ++ Y) := o12
    have r12 := rd_all (o12.at 0 (b := n11) rfl) (n := 4) (rt := none) rfl rfl
    simp [uu1, xx1, g12, r12]
    intro n55 b55 f55
    have o13 := (Own.start (base := base) (H := K12)).new f55 b55 (s := .arr 62 [.fn 49 [], .fn 49 []])
    have hvf : Rd _ 62 (.sl n55 0 2) [.fn 49 [], .fn 49 []] := o13.rd 0 rfl rfl
    simp [make_of f55 b55]
    refine (i_chain2 (base := base) l hl B _ _ _ (((hY o12).rd).keeps o13.keeps) hvf gg5.2.1 gg5.2.2).step fun v6 K14 k14 hr6 => ?_
    obtain ⟨m8, K15, rfl, g8, r8x, kk8, hrel8⟩ := rel_end (base := base) (o12.call o13.keeps) (i := 3) (n2 := n4) rfl rfl k14 hr6
    simp [g8, r8x]
    rw [hR, hres]
    exact ⟨kk8, hrel8⟩
theorem sets_bad1 {r q : Raw4} (h : ¬ (valR r = true ∧ valR q = true)) : setsN [r, q] = 1 := by
  unfold setsN
  rw [if_neg (by simpa using h)]
theorem sets_bad4 {r q : Raw4} (h : valR r = true ∧ valR q = true) (h2 : ¬ (nsR r = true ∧ nsR q = true)) : setsN [r, q] = 4 := by
  unfold setsN
  rw [if_pos (by simpa using h), if_neg (by simpa using h2)]
theorem sets_good {r q : Raw4} (h : valR r = true ∧ valR q = true) (h2 : nsR r = true ∧ nsR q = true) : setsN [r, q] = 0 := by
  unfold setsN
  rw [if_pos (by simpa using h), if_pos (by simpa using h2)]
noncomputable def add22 (B : Aut) : Option Aut × Nat := addN 2 2 (B.lang 0)
noncomputable def sum5 (l : Nat) (G : Option Aut × Nat) : Option Aut × Nat := thenN (some0 l 1) (thenN (some0 l 2) (bothN 3 (fun a b => a && b) G addN3))
noncomputable def sum4 (l : Nat) (G G' : Option Aut × Nat) : Option Aut × Nat := sum5 l (bothN 3 (fun a b => a && b) G G')
theorem s_SumOfSets (l : Nat) (hl : l = 1000) (r q : Raw4) (m m' : BV) (H : BH) (h : RdRaw H r.1 r.2.1 r.2.2.1 r.2.2.2 m) (h' : RdRaw H q.1 q.2.1 q.2.2.1 q.2.2.2 m') (hn : r.2.2.1.length ≤ 4611686018427387904) (hn' : q.2.2.1.length ≤ 4611686018427387904) :
    FnDoes (gam base) 16 [m, m'] H fun v K => RelR base H 1 (sumR l r q) v K := by
  obtain ⟨R, hR⟩ : ∃ R : BV → BH → Prop, R = fun v K => RelR base H 1 (sumR l r q) v K := ⟨_, rfl⟩
  rw [← hR]
  refine FnDoes.of (fn := ir16) rfl ?_
  have g := h
  have g' := h'
  obtain ⟨u, x, rfl, hu, hx⟩ := h
  obtain ⟨u', x', rfl, hu', hx'⟩ := h'
  have u1 := hu.one
  have x1 := one_of_isSl hx.isSl
  have u1' := hu'.one
  have x1' := one_of_isSl hx'.isSl
  simp [ir16, u1, x1]
  intro n2 b2 f2
  simp [make_of f2 b2, u1', x1']
  intro n3 b3 f3
  simp [make_of f3 b3]
  intro n4 b4 f4
  have o1 := Own.start (base := base) (H := H) |>.new f2 b2 (s := .arr 29 [.int .i64 r.1, .int .i64 r.2.1, u, x]) |>.new f3 b3 (s := .arr 29 [.int .i64 q.1, .int .i64 q.2.1, u', x']) |>.new f4 b4 (s := .arr 29 [.int .i64 0, .int .i64 0, .nils, .nils])
  have r2 := rd_all (o1.at 2 (b := n2) rfl) (n := 4) (rt := none) rfl rfl
  have r3 := rd_all (o1.at 1 (b := n3) rfl) (n := 4) (rt := none) rfl rfl
  simp [make_of f4 b4, r2, r3, u1, x1, u1', x1']
  intro n15 b15 f15
  obtain ⟨K3, hK3⟩ : ∃ K3, K3 = ((((H.set n2 (BSt.arr 29 [.int .i64 r.1, .int .i64 r.2.1, u, x])).set n3 (BSt.arr 29 [.int .i64 q.1, .int .i64 q.2.1, u', x'])).set n4 (BSt.arr 29 [.int .i64 0, .int .i64 0, .nils, .nils])).set n15 (.arr 29 [.int .i64 r.1, .int .i64 r.2.1, u, x, .int .i64 q.1, .int .i64 q.2.1, u', x'])) := ⟨_, rfl⟩
  have o2 := o1.new f15 b15 (s := .arr 29 [.int .i64 r.1, .int .i64 r.2.1, u, x, .int .i64 q.1, .int .i64 q.2.1, u', x'])
  simp [make_of f15 b15]
  rw [← hK3] at o2 ⊢
  clear r2 r3
  have hrs : RdRs K3 (.sl n15 0 2) [r, q] := RdRs.two (g.keeps o2.keeps) (g'.keeps o2.keeps) (o2.at 0 rfl)
  have o3 := o2.tail
  have k3 := o2.keeps
  clear hK3 o1 o2
  have badEnd : ∀ (K : BH) (c : Nat), K3.Keeps K → ∃ K7, K.wr base none 4 (.ptr n4 0) (.agg [.int .i64 0, .int .i64 0, .nils, .nils]) = some K7 ∧ K7.rd none (some 4) (.ptr n4 0) = some (.agg [.int .i64 0, .int .i64 0, .nils, .nils]) ∧ H.Keeps K7 := fun K c k => by
    obtain ⟨mz, K7, e7, g7, r7, kk, hrel⟩ := rel_end (base := base) (t := 1) (r := (none, c)) (o3.call k) (i := 0) (n2 := n4) rfl rfl (BH.Keeps.refl _) rfl
    cases e7
    exact ⟨K7, g7, r7, kk⟩
  have w1 : IntKind.i64.wrap 1 = 1 := by decide
  have w2 : IntKind.i64.wrap 2 = 2 := by decide
  obtain ⟨ua, xa, ra, ga⟩ := hrs.get (i := 0) (by simp)
  simp only [List.getElem_cons_zero] at ra ga
  have ra : K3.rd none (some 4) (.ptr n15 0) = some (.agg [.int .i64 r.1, .int .i64 r.2.1, ua, xa]) := ra
  have ua1 : ua.one = true := by obtain ⟨_, _, e, h1, h2⟩ := ga; simp at e; rw [e.1]; exact h1.one
  have xa1 : xa.one = true := by obtain ⟨_, _, e, h1, h2⟩ := ga; simp at e; rw [e.2]; exact one_of_isSl h2.isSl
  refine wpC_unroll ?_
  simp [ra, ua1, xa1]
  intro n7 b7 f7
  obtain ⟨K4, g4, k4, r4, w4, l4⟩ := lay f7 b7 (a := .int .i64 r.1) (b := .int .i64 r.2.1) (c := ua) (d := xa) (by simp [ua1, xa1])
  have p4 : RdRawP K4 n7 r.1 r.2.1 r.2.2.1 r.2.2.2 := by
    obtain ⟨_, _, e, h1, h2⟩ := ga.keeps k4
    simp at e
    rw [← e.1] at h1
    rw [← e.2] at h2
    exact ⟨ua, xa, w4, h1, h2⟩
  simp [make_of f7 b7, g4]
  refine callP (s_ok (base := base) n7 r.1 r.2.1 r.2.2.1 r.2.2.2 K4 p4 hn) ?_
  have hvr : valR r = validB r.1 r.2.1 r.2.2.1 r.2.2.2 := rfl
  rw [← hvr]
  by_cases hv : valR r = true
  case neg =>
    obtain ⟨K7, g7, r7, kk⟩ := badEnd K4 1 k4
    have hv' : valR r = false := by simpa using hv
    simp [hv', g7, r7]
    rw [hR]
    have hres : sumR l r q = (none, 1) := by
      have := sets_bad1 (r := r) (q := q) (fun h => hv h.1)
      unfold sumR
      rw [this, if_neg (by omega)]
    rw [hres]
    exact ⟨kk, rfl⟩
  simp [hv, w1]
  obtain ⟨ub, xb, rb, gb⟩ := (hrs.keeps k4).get (i := 1) (by simp)
  simp only [List.getElem_cons_succ, List.getElem_cons_zero] at rb gb
  have rb : K4.rd none (some 4) (.ptr n15 4) = some (.agg [.int .i64 q.1, .int .i64 q.2.1, ub, xb]) := rb
  have ub1 : ub.one = true := by obtain ⟨_, _, e, h1, h2⟩ := gb; simp at e; rw [e.1]; exact h1.one
  have xb1 : xb.one = true := by obtain ⟨_, _, e, h1, h2⟩ := gb; simp at e; rw [e.2]; exact one_of_isSl h2.isSl
  refine wpC_unroll ?_
  simp [rb, ub1, xb1]
  intro n8 b8 f8
  obtain ⟨K5, g5, k5, r5, w5, l5⟩ := lay f8 b8 (a := .int .i64 q.1) (b := .int .i64 q.2.1) (c := ub) (d := xb) (by simp [ub1, xb1])
  have p5 : RdRawP K5 n8 q.1 q.2.1 q.2.2.1 q.2.2.2 := by
    obtain ⟨_, _, e, h1, h2⟩ := gb.keeps k5
    simp at e
    rw [← e.1] at h1
    rw [← e.2] at h2
    exact ⟨ub, xb, w5, h1, h2⟩
  simp [make_of f8 b8, g5]
  refine callP (s_ok (base := base) n8 q.1 q.2.1 q.2.2.1 q.2.2.2 K5 p5 hn') ?_
  have hvr' : valR q = validB q.1 q.2.1 q.2.2.1 q.2.2.2 := rfl
  rw [← hvr']
  by_cases hv2 : valR q = true
  case neg =>
    obtain ⟨K7, g7, r7, kk⟩ := badEnd K5 1 (k4.trans k5)
    have hv' : valR q = false := by simpa using hv2
    simp [hv', g7, r7]
    rw [hR]
    have hres : sumR l r q = (none, 1) := by
      have := sets_bad1 (r := r) (q := q) (fun h => hv2 h.2)
      unfold sumR
      rw [this, if_neg (by omega)]
    rw [hres]
    exact ⟨kk, rfl⟩
  simp [hv2, w2]
  refine wpC_unroll ?_
  have o5 := o3.call (k4.trans k5)
  have q2 : RdRawP K5 n2 r.1 r.2.1 r.2.2.1 r.2.2.2 := ⟨u, x, o5.at 2 (b := n2) rfl, hu.keeps (k3.trans (k4.trans k5)), hx.keeps (k3.trans (k4.trans k5))⟩
  simp
  refine (s_isNSr (base := base) r n2 K5 hv q2).step fun v K6 k6 hvv => ?_
  subst hvv
  have kz := (k4.trans k5).trans k6
  have hbad4 : ¬ (nsR r = true ∧ nsR q = true) → sumR l r q = (none, 4) := fun hh => by
    have := sets_bad4 (r := r) (q := q) ⟨hv, hv2⟩ hh
    unfold sumR
    rw [this, if_neg (by omega)]
  by_cases hs1 : nsR r = true
  case neg =>
    obtain ⟨K7, g7, r7, kk⟩ := badEnd K6 4 kz
    have hv' : nsR r = false := by simpa using hs1
    simp [hv', g7, r7]
    rw [hR, hbad4 fun h => hs1 h.1]
    exact ⟨kk, rfl⟩
  simp [hs1]
  have o6 := o5.call k6
  have q3 : RdRawP K6 n3 q.1 q.2.1 q.2.2.1 q.2.2.2 := ⟨u', x', o6.at 1 (b := n3) rfl, hu'.keeps (k3.trans kz), hx'.keeps (k3.trans kz)⟩
  refine (s_isNSr (base := base) q n3 K6 hv2 q3).step fun v K7 k7 hvv => ?_
  subst hvv
  by_cases hs2 : nsR q = true
  case neg =>
    obtain ⟨K8, g7, r7, kk⟩ := badEnd K7 4 (kz.trans k7)
    have hv' : nsR q = false := by simpa using hs2
    simp [hv', g7, r7]
    rw [hR, hbad4 fun h => hs2 h.2]
    exact ⟨kk, rfl⟩
  have h0 := sets_good ⟨hv, hv2⟩ ⟨hs1, hs2⟩
  have o7 := o6.call k7
  have k7' := k3.trans (kz.trans k7)
  obtain ⟨h01, h02⟩ := sets_two h0
  obtain ⟨s, A, e1, e2, e3, e4, hok, hs, hlen, hA, -⟩ := ns_elim h01
  obtain ⟨s', A', e1', e2', e3', e4', hok', hs', hlen', hA', -⟩ := ns_elim h02
  have hrel : RdRel K7 1 s A (.agg [.int .i64 r.1, .int .i64 r.2.1, u, x]) := by
    have := g.keeps k7'
    rw [e1, e2, e3, e4] at this
    rw [e1, e2]
    exact this.rel
  have hrel' : RdRel K7 1 s' A' (.agg [.int .i64 q.1, .int .i64 q.2.1, u', x']) := by
    have := g'.keeps k7'
    rw [e1', e2', e3', e4'] at this
    rw [e1', e2']
    exact this.rel
  have hres : sumR l r q = sum4 l (thenN add22 (addN 1 1 (A.lang s))) (thenN add22 (addN 1 0 (A'.lang s'))) := by
    unfold sumR langR
    rw [if_pos h0, hA, hA', e2, e2']
    rfl
  rw [hres] at hR
  have r2 := rd_all (o7.at 2 (b := n2) rfl) (n := 4) (rt := none) rfl rfl
  simp [hs2, r2]
  clear hres hbad4 badEnd q2 q3 p4 p5 g4 g5 l4 l5 w4 w5 r4 r5 rb gb ra ga
  have hb0 := hrel
  have hc0 := hrel'
  have o1 := o7
  have ga1 : GoodC 2 (addN 1 1 (A.lang s)) := addN_goodC (t := 1) (by decide) hok hs
  obtain ⟨G1, hG1⟩ : ∃ G, G = addN 1 1 (A.lang s) := ⟨_, rfl⟩
  refine (s_AddTape (base := base) 1 s 1 (by decide) (by decide) (by decide) A _ _ hrel hok hs hlen).step fun r1 L1 l1 hr1 => ?_
  have hr1 : RelR base _ 2 (addN 1 1 (A.lang s)) r1 L1 := hr1
  rw [← hG1] at hr1 ga1 hR
  refine rel_step (d := 41) (a := 44) (b := 45) (x := 8) (y := 9) (p := 46) (q := 47) (z := 48) (w := 49) (r4 := 4) (r5 := 5) (t := 2) o1 (i := 0) (n4 := n4) rfl rfl l1 hr1 ga1 [(3, .ptr n3 0)] ?_ ?_ (by simp) (by decide) (fun _ _ h => h) (fun e1 m1 M1 B1 ms1 eG1 hh1 oN1 kk1 hb1 g1 => ?_) (fun e K2 c eG hh r4 kk => ?_)
  · simp [Has]
  · simp
  rotate_left
  · rw [eG] at hR
    obtain ⟨e5, e4, -⟩ := hh
    simp [e4, e5, r4]
    rw [hR]
    exact ⟨kk, rfl⟩
  obtain ⟨e1x, -, e14, e13, -⟩ := hh1
  simp only [] at e1x e14 e13
  rw [eG1] at hR ga1
  have hR : R = fun v K => RelR base H 1 (sum4 l (addN 2 2 (B1.lang 0)) (thenN add22 (addN 1 0 (A'.lang s')))) v K := hR
  have o2 := o1.call (l1.trans kk1)
  simp [e1x, g1]
  have ga2 : GoodC 3 (addN 2 2 (B1.lang 0)) := addN_goodC (t := 2) (by decide) ga1.2.1 ga1.2.1.pos
  obtain ⟨G2, hG2⟩ : ∃ G, G = addN 2 2 (B1.lang 0) := ⟨_, rfl⟩
  refine (s_AddTape (base := base) 2 0 2 (by decide) (by decide) (by decide) B1 _ _ hb1.rd ga1.2.1 ga1.2.1.pos ga1.2.2).step fun r2 L2 l2 hr2 => ?_
  have hr2 : RelR base _ 3 (addN 2 2 (B1.lang 0)) r2 L2 := hr2
  rw [← hG2] at hr2 ga2 hR
  refine rel_step (d := 50) (a := 53) (b := 54) (x := 10) (y := 11) (p := 55) (q := 56) (z := 57) (w := 58) (r4 := 4) (r5 := 5) (t := 3) o2 (i := 0) (n4 := n4) rfl rfl l2 hr2 ga2 [(3, .ptr n3 0)] ?_ ?_ (by simp) (by decide) (fun _ _ h => h) (fun e2 m2 M2 B2 ms2 eG2 hh2 oN2 kk2 hb2 g2 => ?_) (fun e K2 c eG hh r4 kk => ?_)
  · simp [Has, e14, e13]
  · simp
  rotate_left
  · rw [eG] at hR
    obtain ⟨e5, e4, -⟩ := hh
    simp [e4, e5, r4]
    rw [hR]
    exact ⟨kk, rfl⟩
  obtain ⟨e2x, -, e24, e23, -⟩ := hh2
  simp only [] at e2x e24 e23
  rw [eG2] at hR ga2
  have o3 := o2.call (l2.trans kk2)
  have rr3 := rd_all (o3.at 1 (b := n3) rfl) (n := 4) (rt := none) rfl rfl
  have kc : K7.Keeps M2 := (l1.trans kk1).trans (l2.trans kk2)
  simp [e23, rr3]
  have ga3 : GoodC 2 (addN 1 0 (A'.lang s')) := addN_goodC (t := 1) (by decide) hok' hs'
  obtain ⟨G3, hG3⟩ : ∃ G, G = addN 1 0 (A'.lang s') := ⟨_, rfl⟩
  refine (s_AddTape (base := base) 1 s' 0 (by decide) (by decide) (by decide) A' _ _ (hrel'.keeps kc) hok' hs' hlen').step fun r3 L3 l3 hr3 => ?_
  have hr3 : RelR base _ 2 (addN 1 0 (A'.lang s')) r3 L3 := hr3
  rw [← hG3] at hr3 ga3 hR
  refine rel_step (d := 59) (a := 62) (b := 63) (x := 12) (y := 13) (p := 64) (q := 65) (z := 66) (w := 67) (r4 := 4) (r5 := 5) (t := 2) o3 (i := 0) (n4 := n4) rfl rfl l3 hr3 ga3 [(10, .ptr m2 0)] ?_ ?_ (by simp) (by decide) (fun _ _ h => h) (fun e3 m3 M3 B3 ms3 eG3 hh3 oN3 kk3 hb3 g3 => ?_) (fun e K2 c eG hh r4 kk => ?_)
  · simp [Has, e24, e2x]
  · simp
  rotate_left
  · rw [eG] at hR
    obtain ⟨e5, e4, -⟩ := hh
    simp [e4, e5, r4]
    rw [hR]
    exact ⟨kk, rfl⟩
  obtain ⟨e3x, -, e34, e3y, -⟩ := hh3
  simp only [] at e3x e34 e3y
  rw [eG3] at hR ga3
  have hR : R = fun v K => RelR base H 1 (sum4 l (some B2, 0) (addN 2 2 (B3.lang 0))) v K := hR
  have o4 := o3.call (l3.trans kk3)
  simp [e3x, g3]
  have ga4 : GoodC 3 (addN 2 2 (B3.lang 0)) := addN_goodC (t := 2) (by decide) ga3.2.1 ga3.2.1.pos
  obtain ⟨G4, hG4⟩ : ∃ G, G = addN 2 2 (B3.lang 0) := ⟨_, rfl⟩
  refine (s_AddTape (base := base) 2 0 2 (by decide) (by decide) (by decide) B3 _ _ hb3.rd ga3.2.1 ga3.2.1.pos ga3.2.2).step fun r4 L4 l4 hr4 => ?_
  have hr4 : RelR base _ 3 (addN 2 2 (B3.lang 0)) r4 L4 := hr4
  rw [← hG4] at hr4 ga4 hR
  refine rel_step (d := 68) (a := 71) (b := 72) (x := 14) (y := 15) (p := 73) (q := 74) (z := 75) (w := 76) (r4 := 4) (r5 := 5) (t := 3) o4 (i := 0) (n4 := n4) rfl rfl l4 hr4 ga4 [(10, .ptr m2 0)] ?_ ?_ (by simp) (by decide) (fun _ _ h => h) (fun e4 m4 M4 B4 ms4 eG4 hh4 oN4 kk4 hb4 g4 => ?_) (fun e K2 c eG hh r4 kk => ?_)
  · simp [Has, e34, e3y]
  · simp
  rotate_left
  · rw [eG] at hR
    obtain ⟨e5, e4, -⟩ := hh
    simp [e4, e5, r4]
    rw [hR]
    exact ⟨kk, rfl⟩
  obtain ⟨e4x, -, e44, e4y, -⟩ := hh4
  simp only [] at e4x e44 e4y
  rw [eG4] at hR ga4
  have hR : R = fun v K => RelR base H 1 (sum5 l (joinN 3 (fun a b => a && b) (B2.lang 0) (B4.lang 0))) v K := hR
  have o5 := o4.call (l4.trans kk4)
  have kd : M2.Keeps M4 := (l3.trans kk3).trans (l4.trans kk4)
  have g2' := rd_keeps kd g2
  simp [e4x, g4, e4y, g2']
  have ga5 : GoodC 3 (joinN 3 (fun a b => a && b) (B2.lang 0) (B4.lang 0)) := joinN_goodC (by decide) ga2.2.1 ga4.2.1 ga2.2.1.pos ga4.2.1.pos
  obtain ⟨G5, hG5⟩ : ∃ G, G = joinN 3 (fun a b => a && b) (B2.lang 0) (B4.lang 0) := ⟨_, rfl⟩
  refine (s_both (base := base) 3 0 0 (by decide) (by decide) B2 B4 _ _ _ (hb2.rd.keeps kd) hb4.rd ga2.2.1 ga4.2.1 ga2.2.1.pos ga4.2.1.pos ga2.2.2 ga4.2.2).step fun r5 L5 l5 hr5 => ?_
  have hr5 : RelR base _ 3 (joinN 3 (fun a b => a && b) (B2.lang 0) (B4.lang 0)) r5 L5 := hr5
  rw [← hG5] at hr5 ga5 hR
  refine rel_step (d := 77) (a := 81) (b := 82) (x := 16) (y := 17) (p := 83) (q := 84) (z := 85) (w := 86) (r4 := 4) (r5 := 5) (t := 3) o5 (i := 0) (n4 := n4) rfl rfl l5 hr5 ga5 [] ?_ ?_ (by simp) (by decide) (fun _ _ h => h) (fun e5 m5 M5 B5 ms5 eG5 hh5 oN5 kk5 hb5 g5 => ?_) (fun e K2 c eG hh r4 kk => ?_)
  · simp [Has, e44]
  · simp
  rotate_left
  · rw [eG] at hR
    obtain ⟨e5, e4, -⟩ := hh
    simp [e4, e5, r4]
    rw [hR]
    exact ⟨kk, rfl⟩
  obtain ⟨e5x, -, e54, -⟩ := hh5
  simp only [] at e5x e54
  rw [eG5] at hR ga5
  have o6a := o5.call (l5.trans kk5)
  obtain ⟨ux, xx, em, -, -⟩ := id hb5.cells
  cases em
  have g5' := rd_all (oN5.at 0 (b := m5) rfl) (n := 4) (rt := some 29) rfl rfl
  simp [e5x, g5']
  refine (s_AddRelation (base := base) M5).step fun v6 K10 k10 hr4 => ?_
  have o6 := o6a.call k10
  obtain ⟨B0, hB0⟩ := addN3_some
  have gg4 : GoodC 3 addN3 := linN_good (terms := [1, 1, -1]) (by decide) add_closed
  obtain ⟨m4, em4, hm4⟩ := hr4.out
  simp only [BV.tup.injEq, List.cons.injEq, and_true] at em4
  subst em4
  have hR : R = fun v K => RelR base H 1 (thenN (some0 l 1) (thenN (some0 l 2) (bothN 3 (fun a b => a && b) (some B5, 0) addN3))) v K := hR
  rw [hB0] at gg4 hR
  have hm4' : RdO K10 3 (some B0, 0) v6 := by rw [← hB0]; exact hm4
  have hm4' : RdRel K10 3 0 B0 v6 := hm4'
  have hR : R = fun v K => RelR base H 1 (thenN (some0 l 1) (thenN (some0 l 2) (joinN 3 (fun a b => a && b) (B5.lang 0) (B0.lang 0)))) v K := hR
  simp
  have ga6 : GoodC 3 (joinN 3 (fun a b => a && b) (B5.lang 0) (B0.lang 0)) := joinN_goodC (by decide) ga5.2.1 gg4.2.1 ga5.2.1.pos gg4.2.1.pos
  obtain ⟨G6, hG6⟩ : ∃ G, G = joinN 3 (fun a b => a && b) (B5.lang 0) (B0.lang 0) := ⟨_, rfl⟩
  refine (s_both (base := base) 3 0 0 (by decide) (by decide) B5 B0 _ _ _ (hb5.rd.keeps k10) hm4' ga5.2.1 gg4.2.1 ga5.2.1.pos gg4.2.1.pos ga5.2.2 gg4.2.2).step fun r6 L6 l6 hr6 => ?_
  have hr6 : RelR base _ 3 (joinN 3 (fun a b => a && b) (B5.lang 0) (B0.lang 0)) r6 L6 := hr6
  rw [← hG6] at hr6 ga6 hR
  refine rel_step (d := 87) (a := 91) (b := 92) (x := 18) (y := 19) (p := 93) (q := 94) (z := 95) (w := 96) (r4 := 4) (r5 := 5) (t := 3) o6 (i := 0) (n4 := n4) rfl rfl l6 hr6 ga6 [] ?_ ?_ (by simp) (by decide) (fun _ _ h => h) (fun e6 m6 M6 B6 ms6 eG6 hh6 oN6 kk6 hb6 g6 => ?_) (fun e K2 c eG hh r4 kk => ?_)
  · simp [Has, e54]
  · simp
  rotate_left
  · rw [eG] at hR
    obtain ⟨e5, e4, -⟩ := hh
    simp [e4, e5, r4]
    rw [hR]
    exact ⟨kk, rfl⟩
  obtain ⟨e6x, -, e64, -⟩ := hh6
  simp only [] at e6x e64
  rw [eG6] at hR ga6
  have hR : R = fun v K => RelR base H 1 (thenN (some0 l 1) (some0 l 2 B6)) v K := hR
  have o7 := o6.call (l6.trans kk6)
  simp [e6x, g6]
  have ga7 : GoodC 2 (some0 l 2 B6) := some0_good (l := l) (t := 2) (by decide)
  obtain ⟨G7, hG7⟩ : ∃ G, G = some0 l 2 B6 := ⟨_, rfl⟩
  refine (s_SomeOn (base := base) l hl 2 0 0 (by decide) (by decide) (by decide) B6 _ _ hb6.rd ga6.2.1 ga6.2.1.pos ga6.2.2).step fun r7 L7 l7 hr7 => ?_
  have hr7 : RelR base _ 2 (some0 l 2 B6) r7 L7 := hr7
  rw [← hG7] at hr7 ga7 hR
  refine rel_step (d := 97) (a := 100) (b := 101) (x := 20) (y := 21) (p := 102) (q := 103) (z := 104) (w := 105) (r4 := 4) (r5 := 5) (t := 2) o7 (i := 0) (n4 := n4) rfl rfl l7 hr7 ga7 [] ?_ ?_ (by simp) (by decide) (fun _ _ h => h) (fun e7 m7 M7 B7 ms7 eG7 hh7 oN7 kk7 hb7 g7 => ?_) (fun e K2 c eG hh r4 kk => ?_)
  · simp [Has, e64]
  · simp
  rotate_left
  · rw [eG] at hR
    obtain ⟨e5, e4, -⟩ := hh
    simp [e4, e5, r4]
    rw [hR]
    exact ⟨kk, rfl⟩
  obtain ⟨e7x, -, e74, -⟩ := hh7
  simp only [] at e7x e74
  rw [eG7] at hR ga7
  have hR : R = fun v K => RelR base H 1 (some0 l 1 B7) v K := hR
  have o8 := o7.call (l7.trans kk7)
  simp [e7x, g7]
  refine (s_SomeOn (base := base) l hl 1 0 0 (by decide) (by decide) (by decide) B7 _ _ hb7.rd ga7.2.1 ga7.2.1.pos ga7.2.2).step fun r8 L8 l8 hr8 => ?_
  obtain ⟨m8, K8, rfl, g8, r8x, kk8, hrel8⟩ := rel_end (base := base) o8 (i := 0) (n2 := n4) rfl rfl l8 hr8
  simp [e74, g8, r8x]
  rw [hR]
  exact ⟨kk8, hrel8⟩
theorem perm2 {α : Type} (a b : α) (A B : List α) : (A ++ (a :: b :: B)).Perm (a :: b :: (A ++ B)) := List.perm_middle.trans (List.perm_middle.cons _)
theorem tot_ge {α : Type} {xss : List (List α)} {xs : List α} (h : xs ∈ xss) : xs.length ≤ tot xss xss.length := by
  unfold tot
  rw [List.take_length]
  induction xss with
  | nil => simp at h
  | cons y ys ih =>
    rw [List.map_cons, List.sum_cons]
    rcases List.mem_cons.1 h with rfl | h
    · omega
    · have := ih h
      omega
theorem someN_goodS {l : Nat} {r q : Raw4} : GoodC 1 (sumR l r q) := by
  unfold sumR
  split
  · next h0 =>
    obtain ⟨h01, h02⟩ := sets_two h0
    obtain ⟨s, A, e1, e2, e3, e4, hok, hs, hlen, hA, -⟩ := ns_elim h01
    obtain ⟨s', A', e1', e2', e3', e4', hok', hs', hlen', hA', -⟩ := ns_elim h02
    have hL : langR r = A.lang s := by unfold langR; rw [hA, e2]; rfl
    have hM : langR q = A'.lang s' := by unfold langR; rw [hA', e2']; rfl
    rw [hL, hM]
    exact thenN_good (t' := 2) (thenN_good (t' := 3) (bothN_good (by decide) (bothN_good (by decide) (add2N_good hok hs) (add2N_good hok' hs')) (linN_good (terms := [1, 1, -1]) (by decide) add_closed)) fun B _ _ => some0_good (by decide)) fun B _ _ => some0_good (by decide)
  · next h0 =>
    refine .none _ _ ⟨by omega, ?_⟩
    unfold setsN
    split
    · split <;> omega
    · omega
theorem law_SumOfSets (T S : Int) (acc : List Bool) (rows : List (List Int)) (T' S' : Int) (acc' : List Bool) (rows' : List (List Int)) (m m' : BV) (H : BH) (h : RdL H T S acc rows m) (h' : RdL H T' S' acc' rows' m') (hn1 : acc.length ≤ 9223372036854775807) (hn : rows.length ≤ 9223372036854775807) (hr : ∀ xs ∈ rows, xs.length ≤ 9223372036854775807) (hn1' : acc'.length ≤ 9223372036854775807) (hn' : rows'.length ≤ 9223372036854775807) (hr' : ∀ xs ∈ rows', xs.length ≤ 9223372036854775807) :
    FnDoes (gam base) 4 [m, m'] H fun v _ => v = .bool true := by
  refine FnDoes.of (fn := ir4) rfl ?_
  obtain ⟨l, hl⟩ : ∃ l : Nat, l = 1000 := ⟨_, rfl⟩
  obtain ⟨G, hG⟩ : ∃ G, G = sumR l (T, S, acc, rows) (T', S', acc', rows') := ⟨_, rfl⟩
  have hgood : GoodC 1 G := by rw [hG]; exact someN_goodS
  have gd := GoodR.facts hgood.good
  have hs := fun (m m' : BV) (H : BH) h h' => s_SumOfSets (base := base) l hl (T, S, acc, rows) (T', S', acc', rows') m m' H h h'
  have hi := fun (m m' : BV) (H : BH) h h' => i_SumOfSets (base := base) l hl (T, S, acc, rows) (T', S', acc', rows') m m' H h h'
  rw [← hG] at hs hi
  obtain ⟨gd1, gd2, gd3⟩ := gd
  obtain ⟨TG, SG, accG, rowsG, hr4⟩ : ∃ T S acc rows, resQ 1 G = (T, S, acc, rows) := ⟨_, _, _, _, rfl⟩
  rw [hr4] at gd1 gd2 gd3
  rw [show wd 1 = 2 from by decide] at gd3
  simp only [] at gd1 gd2 gd3 hs hi
  have take : ∀ {H K : BH} {v : BV}, RelR base H 1 G v K → H.Keeps K → ∃ m, v = .tup [m, encN G.2] ∧ OwnQ base H K TG SG accG rowsG m [] := fun {H K v} h k => by
    obtain ⟨m, e, h⟩ := h.ownR k
    unfold OwnR at h
    rw [hr4] at h
    exact ⟨m, e, h⟩
  obtain ⟨cG, hcG⟩ : ∃ cG, cG = G.2 := ⟨_, rfl⟩
  rw [← hcG] at take
  clear hr4 hgood hG hcG
  have big1 : accG.length ≤ 4611686018427387904 := by omega
  have big2 : rowsG.length ≤ 4611686018427387904 := by omega
  have big3 : ∀ r ∈ rowsG, r.length ≤ 4611686018427387904 := fun r hr => by rw [gd3 r hr]; decide
  have g := h
  have g' := h'
  obtain ⟨u, x, tb, tw, rfl, hu, hx⟩ := h
  obtain ⟨u', x', tb', tw', rfl, hu', hx'⟩ := h'
  have u1 := hu.one
  have x1 := one_of_isSl hx.isSl
  have u1' := hu'.one
  have x1' := one_of_isSl hx'.isSl
  simp [ir4, u1, x1]
  intro n2 b2 f2
  simp [make_of f2 b2, u1', x1']
  intro n3 b3 f3
  have o1 := Own.start (base := base) (H := H) |>.new f2 b2 (s := .arr 25 [.int .i64 T, .int .i64 S, u, x]) |>.new f3 b3 (s := .arr 25 [.int .i64 T', .int .i64 S', u', x'])
  obtain ⟨H1, hH1⟩ : ∃ H1, H1 = (H.set n2 (.arr 25 [.int .i64 T, .int .i64 S, u, x])).set n3 (.arr 25 [.int .i64 T', .int .i64 S', u', x']) := ⟨_, rfl⟩
  simp [make_of f3 b3]
  rw [← hH1] at o1 ⊢
  have k1 := o1.keeps
  have r2 := rd_all (o1.at 1 (b := n2) rfl) (n := 4) (rt := none) rfl rfl
  have r3 := rd_all (o1.at 0 (b := n3) rfl) (n := 4) (rt := none) rfl rfl
  have r3s := rd_all (o1.at 0 (b := n3) rfl) (n := 4) (rt := some 25) rfl rfl
  have g1 := g.keeps k1
  have g1' := g'.keeps k1
  simp [r2]
  refine (z_rel2 (base := base) T S acc rows 1048576 _ H1 g1 (by omega) (by omega) hn1 hn hr).step fun v H2 k2 hv => ?_
  obtain ⟨z, rfl, z1, z2⟩ := hv
  by_cases hz : z < 0
  · simp [hz]
    exact k1.trans k2
  have z3 := z2 (by omega)
  have r3 := rd_keeps k2 r3
  simp [hz, r3]
  refine (z_rel2 (base := base) T' S' acc' rows' z _ H2 (g1'.keeps k2) (by omega) (by omega) hn1' hn' hr').step fun v H3 k3 hv => ?_
  obtain ⟨y, rfl, y1, y2⟩ := hv
  by_cases hy : y < 0
  · simp [hy]
    exact k1.trans (k2.trans k3)
  have y3 := y2 (by omega)
  have a1 : acc.length ≤ 1048576 := by omega
  have a2 : rows.length ≤ 1048576 := by omega
  have a3 : ∀ xs ∈ rows, xs.length ≤ 1048576 := fun xs hxs => by have := tot_ge hxs; omega
  have a1' : acc'.length ≤ 1048576 := by omega
  have a2' : rows'.length ≤ 1048576 := by omega
  have a3' : ∀ xs ∈ rows', xs.length ≤ 1048576 := fun xs hxs => by have := tot_ge hxs; omega
  have tk := fun (m : BV) (H : BH) h => t_relO (base := base) T S acc rows m H h a1 a2 a3
  have tk' := fun (m : BV) (H : BH) h => t_relO (base := base) T' S' acc' rows' m H h a1' a2' a3'
  have hkA : 1 + acc.length + tot rows rows.length ≤ 1000000000 := by omega
  have hkB : 1 + acc.length + tot rows rows.length + acc'.length + tot rows' rows'.length ≤ 1000000000 := by omega
  clear z1 z2 z3 y1 y2 y3 hn1 hn hr hn1' hn' hr'
  obtain ⟨kA, hkA0⟩ : ∃ k, k = 1 + acc.length + tot rows rows.length := ⟨_, rfl⟩
  have mkA := fun {H K : BH} {m : BV} {Z : List Sl} (h : OwnQ base H K T S acc rows m Z) => mark_relF (base := base) 1 h hkA (by omega)
  rw [← hkA0] at mkA hkB
  obtain ⟨kB, hkB0⟩ : ∃ k, k = kA + acc'.length + tot rows' rows'.length := ⟨_, rfl⟩
  have mkB := fun {H K : BH} {m : BV} {Z : List Sl} (h : OwnQ base H K T' S' acc' rows' m Z) => mark_relF (base := base) kA h hkB (by omega)
  rw [← hkB0] at mkB
  have kk3 := k2.trans k3
  have r2 := rd_keeps kk3 r2
  have r3 := rd_keeps k3 r3
  have r3s := rd_keeps kk3 r3s
  have g1 := g1.keeps kk3
  have g1' := g1'.keeps kk3
  have kH := k1.trans kk3
  clear k1 k2 k3 kk3 hkA hkB hkA0 hkB0 o1 hH1 hu hx hu' hx' g g'
  simp [hy, r2, r3s]
  refine (tk _ H3 g1).step fun c0 H4 k4 hc0 => ?_
  refine (tk' _ H4 (g1'.keeps k4)).step fun c1 H5 k5 hc1 => ?_
  simp
  refine (hs c0 c1 H5 (hc0.rd.keeps k5) hc1.rd (by omega) (by omega)).step fun vE K2 k2 hE0 => ?_
  have k5 := (k4.trans k5).trans k2
  obtain ⟨mE, rfl, hE⟩ := take hE0 k2
  obtain ⟨uE, xE, eE, uE1, xE1⟩ := OwnQ.one hE
  have hEr := hE.rd
  subst eE
  simp [uE1, xE1]
  intro n6 b6 f6
  obtain ⟨K3, g3, kk3, r6, -, -⟩ := lay f6 b6 (a := .int .i64 TG) (b := .int .i64 SG) (c := uE) (d := xE) (by simp [uE1, xE1])
  have hEr := hEr.keeps kk3
  have kk := k5.trans kk3
  have r2 := rd_keeps kk r2
  have r3 := rd_keeps kk r3
  have r3s := rd_keeps kk r3s
  have g1 := g1.keeps kk
  have g1' := g1'.keeps kk
  have kH := kH.trans kk
  clear kk kk3 k5 k4 k2 hE0 hE hc0 hc1
  simp [make_of f6 b6, g3, r2]
  refine (tk _ K3 g1).step fun mA K4 k4 hA => ?_
  obtain ⟨uA, xA, eA, uA1, xA1⟩ := OwnQ.one hA
  subst eA
  obtain ⟨YA, oYA, hYA⟩ := hA.rows
  simp [uA1, xA1]
  intro n8 b8 f8
  obtain ⟨K5, g5, k5, r8, -, l5⟩ := lay f8 b8 (a := .int .i64 T) (b := .int .i64 S) (c := uA) (d := xA) (by simp [uA1, xA1])
  have o5 := l5 oYA
  have r3a := rd_keeps (k4.trans k5) r3
  simp [make_of f8 b8, g5, r3a]
  refine (tk' _ K5 (g1'.keeps (k4.trans k5))).step fun mB K6 k6 hB => ?_
  obtain ⟨uB, xB, eB, uB1, xB1⟩ := OwnQ.one hB
  subst eB
  obtain ⟨YB, oYB, hYB⟩ := hB.rows
  have o6 := Own.join o5 k6 oYB
  simp [uB1, xB1]
  intro n9 b9 f9
  obtain ⟨K7, g7, k7, r9, -, l7⟩ := lay f9 b9 (a := .int .i64 T') (b := .int .i64 S') (c := uB) (d := xB) (by simp [uB1, xB1])
  have o7 := l7 o6
  have r8 := rd_keeps (k6.trans k7) r8
  simp [make_of f9 b9, g7, r8, r9]
  have hAr := hA.rd.keeps (k5.trans (k6.trans k7))
  have hBr := hB.rd.keeps k7
  refine (hi _ _ K7 hAr hBr (by omega) (by omega)).step fun vG K8 k8 hG0 => ?_
  obtain ⟨mG, rfl, hG1⟩ := take hG0 k8
  obtain ⟨uG, xG, eG, uG1, xG1⟩ := OwnQ.one hG1
  subst eG
  obtain ⟨Y, oY, hY⟩ := hG1.rows
  have o8 := Own.join o7 k8 oY
  simp [uG1, xG1]
  intro n10 b10 f10
  obtain ⟨K9, g9, k9, r10, -, l9⟩ := lay f10 b10 (a := .int .i64 TG) (b := .int .i64 SG) (c := uG) (d := xG) (by simp [uG1, xG1])
  have o9 := l9 o8
  have r6a := rd_keeps o9.keeps r6
  simp [make_of f10 b10, g9, r10, r6a]
  refine (q_rel (base := base) TG SG accG rowsG _ _ K9 (hG1.rd.keeps k9) (hEr.keeps o9.keeps) big1 big2 big3).step fun v' K10 k10 hv' => ?_
  subst hv'
  have o10 := o9.call k10
  have r8a := rd_all (o10.at 2 (b := n8) rfl) (n := 4) (rt := some 29) rfl rfl
  have ko := o10.keeps
  have r2a := rd_keeps ko r2
  simp [r8a, r2a]
  refine (tk _ K10 (g1.keeps ko)).step fun d0 K11 k11 hd0 => ?_
  simp
  refine (q_rel (base := base) T S acc rows _ _ K11 (hAr.keeps (k8.trans (k9.trans (k10.trans k11)))) hd0.rd (by omega) (by omega) (fun r hr => by have := a3 r hr; omega)).step fun v' K12 k12 hv' => ?_
  subst hv'
  have o12 := (o10.call k11).call k12
  have r9a := rd_all (o12.at 1 (b := n9) rfl) (n := 4) (rt := some 29) rfl rfl
  have r3a := rd_keeps o12.keeps r3
  simp [r9a, r3a]
  refine (tk' _ K12 (g1'.keeps o12.keeps)).step fun d1 K13 k13 hd1 => ?_
  simp
  refine (q_rel (base := base) T' S' acc' rows' _ _ K13 (hBr.keeps (k8.trans (k9.trans (k10.trans (k11.trans (k12.trans k13)))))) hd1.rd (by omega) (by omega) (fun r hr => by have := a3' r hr; omega)).step fun v' K14 k14 hv' => ?_
  subst hv'
  have o14 := (o12.call k13).call k14
  have r8b := rd_all (o14.at 2 (b := n8) rfl) (n := 4) (rt := none) rfl rfl
  simp [r8b]
  have o14a : Own base K3 K14 ((some n10, .arr 29 [.int .i64 TG, .int .i64 SG, uG, xG]) :: (some n9, .arr 29 [.int .i64 T', .int .i64 S', uB, xB]) :: (YA ++ (YB ++ Y))) := by
    refine o14.sub ?_
    simp only [List.cons_append, List.append_assoc]
    exact .cons_cons _ (.cons_cons _ (List.sublist_cons_self _ _))
  refine (mkA (hYA (o14a.perm (perm2 _ _ YA (YB ++ Y))))).step fun v15 K15 hh => ?_
  obtain ⟨rfl, o15⟩ := hh
  have r9b := rd_all (o15.at 1 (b := n9) rfl) (n := 4) (rt := none) rfl rfl
  simp [r9b]
  refine (mkB (hYB (o15.perm (perm2 _ _ YB Y)))).step fun v16 K16 hh => ?_
  obtain ⟨rfl, o16⟩ := hh
  have pp : ∀ a b : Sl, (Y ++ [a, b]).Perm (a :: b :: Y) := fun a b => by have := perm2 a b Y []; rwa [List.append_nil] at this
  have q16 := hY (o16.perm (pp _ _))
  have r10 := rd_all (o16.at 0 (b := n10) rfl) (n := 4) (rt := none) rfl rfl
  have r6a := rd_keeps o16.keeps r6
  have negB : ¬ (kB : Int) < 0 := by omega
  simp [negB, r10, r6a]
  refine (q_rel (base := base) TG SG accG rowsG _ _ K16 q16.rd (hEr.keeps o16.keeps) big1 big2 big3).step fun v' K17 k17 hv' => ?_
  subst hv'
  have q17 := q16.call k17
  have r10 := rd_keeps k17 r10
  simp [r10]
  have hpw : rowsG.length * 2 ≤ 150 * 2 := by omega
  refine (mark_rel (base := base) 1 2 q17 gd3 (by omega) (by omega)).step fun v13 K18 hh => ?_
  obtain ⟨rfl, q18⟩ := hh
  have r10 := rd_all (q18.rest.at 0 (b := n10) rfl) (n := 4) (rt := none) rfl rfl
  simp [r10]
  refine (held_rel (base := base) q18 (by omega) (by omega)).step fun v14 K19 k19 hv14 => ?_
  subst hv14
  have neg2 : ¬ (1 : Int) + (accG.length : Int) + (rowsG.length : Int) * 2 < 0 := by omega
  have q19 := q18.call k19
  have r2b := rd_keeps q19.keeps r2
  have r3b := rd_keeps q19.keeps r3s
  simp [neg2, r2b, r3b]
  have g1b := g1.keeps q19.keeps
  refine (tk _ K19 g1b).step fun c0 K20 k20 hc0 => ?_
  refine (tk' _ K20 ((g1'.keeps q19.keeps).keeps k20)).step fun c1 K21 k21 hc1 => ?_
  simp
  refine (hi c0 c1 K21 (hc0.rd.keeps k21) hc1.rd (by omega) (by omega)).step fun vN K22 k22 hN0 => ?_
  obtain ⟨mN, rfl, hN⟩ := take hN0 k22
  obtain ⟨uN, xN, eN, uN1, xN1⟩ := OwnQ.one hN
  subst eN
  simp [uN1, xN1]
  intro n15 b15 f15
  obtain ⟨K23, g23, k23, r15, -, -⟩ := lay f15 b15 (a := .int .i64 TG) (b := .int .i64 SG) (c := uN) (d := xN) (by simp [uN1, xN1])
  have q23 := (((q19.call k20).call k21).call k22).call k23
  have r6a := rd_keeps q23.keeps r6
  simp [make_of f15 b15, g23, r15, r6a]
  refine (q_rel (base := base) TG SG accG rowsG _ _ K23 (hN.rd.keeps k23) (hEr.keeps q23.keeps) big1 big2 big3).step fun v' K24 k24 hv' => ?_
  subst hv'
  have q24 := q23.call k24
  have r10 := rd_all (q24.rest.at 0 (b := n10) rfl) (n := 4) (rt := none) rfl rfl
  simp [r10]
  refine (held_rel (base := base) q24 (by omega) (by omega)).step fun v25 K25 k25 hv25 => ?_
  subst hv25
  simp [neg2]
  exact kH.trans (q24.keeps.trans k25)
end Go.Proofs.YtcnkhkmapgbodaaGreatDoor.W
end

section
namespace Go.Proofs.YtcnkhkmapgbodaaGreatDoor.W
set_option linter.unusedVariables false
set_option linter.unusedSimpArgs false
open Go.B
variable {base : Nat}
attribute [local simp] wpC_skip wpC_region wpC_seq wpC_true wpC_false wpC_block wpC_exit wpC_ret wpO_nil wpO_n wpO_tt wpO_ff wpO_tf wpO_ft wpO_u wpS_mov wpS_pick wpS_build wpS_load wpS_store wpS_nilck wpS_bin wpS_beq wpS_isnil wpS_eqs wpS_not wpS_neg wpS_conv wpS_lea wpS_fld wpS_idx wpS_idxs wpS_slice wpS_sslice wpS_mkfn wpS_mset wpS_look wpS_ext wpS_len wpS_new wpS_box wpS_mk wpS_mkmap wpS_mksl wpS_app wpS_fn wpS_call after_some pthen_n pthen_x pthen_r pin BExit.outOf puto_some puto_none put_eq put_ne Opd.ev argEnv op1_mov op1_pick op1_new op1_box op1_load op1_nilck op1_bin op1_beq op1_not op1_neg op1_conv op1_lea op1_fld op1_len0 op1_len1 op1_idx op1_ext op1_build op1_mk op1_stw op1_mksl op1_eqs pureBin isShift resOf resVals val_tmp val_cell oneOf one_int cells_int one_bool cells_bool one_str cells_str one_nilp cells_nilp one_ptr cells_ptr one_nils cells_nils one_sl cells_sl one_sle cells_sle one_nilm cells_nilm one_mp cells_mp one_nilf cells_nilf one_fn cells_fn one_nili cells_nili cells_agg isSl_sl slen_sl sat_sl make_of asm rtOk wpS_b2s op1_b2s wpS_imax op1_imax wpS_imin op1_imin wpS_i2s op1_i2s op1_isnil Option.map_some gam_base op1_app op1_idxs wpS_idxa op1_idxa op1_sslice bound_none bound_some nat_of op1_mkmap op1_mset op1_look op1_len2 op1_mkfn Go.B.fillB Has
section
variable {H : Type} {enc : TypeId × Value → H} {W : World} {held : Bool}
theorem sls_nil (w : World) (ty sz : Nat) : Sls (heap0 w) ty sz (absV w (.slice none 0 0)) [] := ⟨rfl, rfl, fun i x hi => by simp at hi⟩
def fs25 : Array Field := #[⟨"Tapes", 2, 0, false, "", "", 0⟩, ⟨"Start", 2, 1, false, "", "", 8⟩, ⟨"Accept", 22, 2, false, "", "", 16⟩, ⟨"Next", 23, 3, false, "", "", 40⟩]
theorem u25 : Tryz.prog.underlying 25 = some (.struct fs25) := by kernel_rfl
theorem u2 : Tryz.prog.underlying 2 = some (.int .i64) := by kernel_rfl
theorem u4 : Tryz.prog.underlying 4 = some .bool := by kernel_rfl
theorem u22 : Tryz.prog.underlying 22 = some (.slice 4) := by kernel_rfl
theorem u23 : Tryz.prog.underlying 23 = some (.slice 67) := by kernel_rfl
theorem u37 : Tryz.prog.underlying 67 = some (.slice 2) := by kernel_rfl
theorem open_flags {fuel : Nat} {c : Value} {x : DataW H × List MemPlace} (h : DataW.trod enc Tryz.prog W 0 (fun _ => true) held fuel 22 [c] = some x) :
    ∃ (bs : List Bool) (ty : Nat), Rd (heap0 W) ty (absV W c) (bs.map encB) ∧ bs.length ≤ 9223372036854775807 := by
  rcases Deep.open_bools u22 u4 (by kernel_rfl) h with ⟨e, _⟩ | ⟨a, len, cap, B, e, _, hl, hm, _, hcell⟩
  · simp at e
    subst e
    exact ⟨[], 0, sls_nil W 0 1, by simp⟩
  · simp at e
    subst e
    obtain ⟨ty, hs⟩ := Sls.start (w := W) (a := a) (n := len) (c := cap) (sz := 1) (xs := (List.range len).map fun i => [Value.bool (B i)]) (by simp) hl (by omega) (by simp) (by
      intro i x hi j v hj
      rw [List.getElem?_map] at hi
      simp only [Option.map_eq_some_iff] at hi
      obtain ⟨k, hk, rfl⟩ := hi
      obtain ⟨hlt, hkv⟩ := List.getElem?_eq_some_iff.1 hk
      simp at hlt hkv
      subst hkv
      cases j with
      | zero =>
        simp at hj
        subst hj
        simpa using hcell i (by omega)
      | succ j => simp at hj)
    refine ⟨(List.range len).map B, ty, ?_, ?_⟩
    · unfold Rd
      simpa [List.map_map, Function.comp_def, absV, toB1, one1, encB] using hs
    · simp [maxLen] at hm ⊢
      omega
theorem open_longs {a : Addr} {L C : Nat} {Z : List Int} (hl : L ≤ C) (hz : Z.length = C) (hcell : ∀ c, c < C → W.cell? (a.add c) = some (.int .i64 (Z.getD c 0))) :
    ∃ ty, Rd (heap0 W) ty (absV W (.slice (some a) L C)) ((Z.take L).map encI) := by
  obtain ⟨ty, hs⟩ := Sls.start (w := W) (a := a) (n := L) (c := C) (sz := 1) (xs := (Z.take L).map fun z => [Value.int .i64 z]) (by simp; omega) hl (by omega) (fun x hx => by
    obtain ⟨z, _, rfl⟩ := List.mem_map.1 hx
    rfl) (by
    intro i x hi j v hj
    rw [List.getElem?_map] at hi
    simp only [Option.map_eq_some_iff] at hi
    obtain ⟨k, hk, rfl⟩ := hi
    obtain ⟨hlt, hkv⟩ := List.getElem?_eq_some_iff.1 hk
    rw [List.length_take] at hlt
    rw [List.getElem_take] at hkv
    cases j with
    | zero =>
      simp at hj
      subst hj
      have := hcell i (by omega)
      rw [List.getD_eq_getElem?_getD, List.getElem?_eq_getElem (by omega)] at this
      rw [← hkv]
      simpa using this
    | succ j => simp at hj)
  refine ⟨ty, ?_⟩
  unfold Rd
  simpa [List.map_map, Function.comp_def, absV, toB1, one1, encI] using hs
theorem open_rows {fuel : Nat} {c : Value} {x : DataW H × List MemPlace} (h : DataW.trod enc Tryz.prog W 0 (fun _ => true) held fuel 23 [c] = some x) :
    ∃ (rows : List (List Int)) (ty : Nat), RdQ (heap0 W) ty (absV W c) encI rows ∧ rows.length ≤ 9223372036854775807 ∧ ∀ xs ∈ rows, xs.length ≤ 9223372036854775807 := by
  rcases Deep.open_int_rows u23 u37 u2 (by kernel_rfl) (by kernel_rfl) h with ⟨e, _⟩ | ⟨a, len, cap, A, L, C, Z, e, _, hl, hm, _, hr⟩
  · simp at e
    subst e
    exact ⟨[], 0, ⟨[], sls_nil W 0 1, rfl, fun i u xs hu => by simp at hu⟩, by simp, by simp⟩
  · simp at e
    subst e
    obtain ⟨ty, hs⟩ := Sls.start (w := W) (a := a) (n := len) (c := cap) (sz := 1) (xs := (List.range len).map fun r => [Value.slice (A r) (L r) (C r)]) (by simp) hl (by omega) (by simp) (by
      intro i x hi j v hj
      rw [List.getElem?_map] at hi
      simp only [Option.map_eq_some_iff] at hi
      obtain ⟨k, hk, rfl⟩ := hi
      obtain ⟨hlt, hkv⟩ := List.getElem?_eq_some_iff.1 hk
      simp at hlt hkv
      subst hkv
      cases j with
      | zero =>
        simp at hj
        subst hj
        simpa using (hr i (by omega)).1
      | succ j => simp at hj)
    refine ⟨(List.range len).map fun r => (Z r).take (L r), ty, ⟨(List.range len).map fun r => absV W (.slice (A r) (L r) (C r)), ?_, by simp, ?_⟩, ?_, ?_⟩
    · unfold Rd
      simpa [List.map_map, Function.comp_def, one1] using hs
    · intro i u xs hu hx
      have hil : i < len := by have := (List.getElem?_eq_some_iff.1 hu).1; simpa using this
      rw [List.getElem?_map, List.getElem?_range hil] at hu hx
      simp at hu hx
      subst hu hx
      obtain ⟨_, g2, g3, g4, _, g6, g7⟩ := hr i (by omega)
      cases hA : A i with
      | none =>
        have hc := g6 hA
        have hL : L i = 0 := by omega
        rw [hc, hL]
        exact ⟨0, sls_nil W 0 1⟩
      | some a' => exact open_longs g2 g4 (g7 a' hA).2
    · simp [maxLen] at hm ⊢
      omega
    · intro xs hxs
      obtain ⟨r, hr', rfl⟩ := List.mem_map.1 hxs
      obtain ⟨_, g2, g3, g4, _⟩ := hr r (by have := List.mem_range.1 hr'; omega)
      simp [maxLen] at g3 ⊢
      omega
end
end Go.Proofs.YtcnkhkmapgbodaaGreatDoor.W
end

section
namespace Go.Proofs
open Go.Shelf Go.B
def Tryz.laysItoa_ren : Go.Shelf.Ren := ⟨fun | 171 => 206 | 243 => 217 | 246 => 220 | 283 => 222 | 284 => 223 | 285 => 224 | 286 => 225 | 129 => 193 | 317 => 226 | 318 => 227 | 319 => 228 | 320 => 229 | 337 => 230 | 338 => 231 | n => n, fun | 3 => 3 | 9 => 9 | 2 => 2 | 4 => 4 | 171 => 202 | 0 => 0 | 53 => 172 | 37 => 116 | 5 => 5 | 173 => 204 | 212 => 207 | 51 => 170 | 20 => 20 | 213 => 208 | 46 => 108 | 232 => 209 | 233 => 210 | n => n, fun | 17 => 0 | 18 => 1 | 19 => 2 | n => n⟩
theorem Tryz.laysItoa : Go.Proofs.LaysM.n171 Tryz.prog Tryz.laysItoa_ren where
  mixed := by kernel_rfl
  f129 := Tryz.func193.trans (congrArg some (by kernel_rfl))
  f171 := Tryz.func206.trans (congrArg some (by kernel_rfl))
  f243 := Tryz.func217.trans (congrArg some (by kernel_rfl))
  f246 := Tryz.func220.trans (congrArg some (by kernel_rfl))
  f283 := Tryz.func222.trans (congrArg some (by kernel_rfl))
  f284 := Tryz.func223.trans (congrArg some (by kernel_rfl))
  f285 := Tryz.func224.trans (congrArg some (by kernel_rfl))
  f286 := Tryz.func225.trans (congrArg some (by kernel_rfl))
  f317 := Tryz.func226.trans (congrArg some (by kernel_rfl))
  f318 := Tryz.func227.trans (congrArg some (by kernel_rfl))
  f319 := Tryz.func228.trans (congrArg some (by kernel_rfl))
  f320 := Tryz.func229.trans (congrArg some (by kernel_rfl))
  f337 := Tryz.func230.trans (congrArg some (by kernel_rfl))
  f338 := Tryz.func231.trans (congrArg some (by kernel_rfl))
  t0 := Tryz.underlying0
  a0 := Tryz.isAgg0
  z0 := Tryz.sizeOf0
  v0 := Tryz.zeroValue0
  t2 := Tryz.underlying2
  a2 := Tryz.isAgg2
  z2 := Tryz.sizeOf2
  v2 := Tryz.zeroValue2
  t3 := Tryz.underlying3
  a3 := Tryz.isAgg3
  z3 := Tryz.sizeOf3
  v3 := Tryz.zeroValue3
  t4 := Tryz.underlying4
  a4 := Tryz.isAgg4
  z4 := Tryz.sizeOf4
  v4 := Tryz.zeroValue4
  t5 := Tryz.underlying5
  a5 := Tryz.isAgg5
  z5 := Tryz.sizeOf5
  v5 := Tryz.zeroValue5
  t9 := Tryz.underlying9
  a9 := Tryz.isAgg9
  z9 := Tryz.sizeOf9
  v9 := Tryz.zeroValue9
  t20 := Tryz.underlying20
  a20 := Tryz.isAgg20
  z20 := Tryz.sizeOf20
  v20 := Tryz.zeroValue20
  t37 := Tryz.underlying116
  a37 := Tryz.isAgg116
  z37 := Tryz.sizeOf116
  v37 := Tryz.zeroValue116
  t46 := Tryz.underlying108
  a46 := Tryz.isAgg108
  z46 := Tryz.sizeOf108
  v46 := Tryz.zeroValue108
  t51 := Tryz.underlying170
  a51 := Tryz.isAgg170
  z51 := Tryz.sizeOf170
  v51 := Tryz.zeroValue170
  t53 := Tryz.underlying172
  a53 := Tryz.isAgg172
  z53 := Tryz.sizeOf172
  v53 := Tryz.zeroValue172
  t171 := Tryz.underlying202
  a171 := Tryz.isAgg202
  z171 := Tryz.sizeOf202
  v171 := Tryz.zeroValue202
  t173 := Tryz.underlying204
  a173 := Tryz.isAgg204
  z173 := Tryz.sizeOf204
  v173 := Tryz.zeroValue204
  t212 := Tryz.underlying207
  a212 := Tryz.isAgg207
  z212 := Tryz.sizeOf207
  v212 := Tryz.zeroValue207
  t213 := Tryz.underlying208
  a213 := Tryz.isAgg208
  z213 := Tryz.sizeOf208
  t232 := Tryz.underlying209
  a232 := Tryz.isAgg209
  z232 := Tryz.sizeOf209
  v232 := Tryz.zeroValue209
  t233 := Tryz.underlying210
  a233 := Tryz.isAgg210
  z233 := Tryz.sizeOf210
  v233 := Tryz.zeroValue210
  g17 := by kernel_rfl
  g18 := by kernel_rfl
  g19 := by kernel_rfl
  i0 := by kernel_rfl
  i2 := by kernel_rfl
  i3 := by kernel_rfl
  i4 := by kernel_rfl
  i5 := by kernel_rfl
  i9 := by kernel_rfl
  i20 := by kernel_rfl
  i37 := by kernel_rfl
  i46 := by kernel_rfl
  i51 := by kernel_rfl
  i53 := by kernel_rfl
  i171 := by kernel_rfl
  i173 := by kernel_rfl
  i212 := by kernel_rfl
  i232 := by kernel_rfl
  i233 := by kernel_rfl
  m17 := by kernel_rfl
  m18 := by kernel_rfl
  m19 := by kernel_rfl
def Tryz.laysDel_ren : Go.Shelf.Ren := ⟨fun | 23 => 146 | n => n, fun | 22 => 84 | 3 => 3 | 4 => 4 | 0 => 0 | n => n, fun | n => n⟩
theorem Tryz.laysDel : Go.Proofs.Lays2.n23 Tryz.prog Tryz.laysDel_ren where
  mixed := by kernel_rfl
  f23 := Tryz.func146.trans (congrArg some (by kernel_rfl))
  t0 := Tryz.underlying0
  a0 := Tryz.isAgg0
  z0 := Tryz.sizeOf0
  v0 := Tryz.zeroValue0
  t3 := Tryz.underlying3
  a3 := Tryz.isAgg3
  z3 := Tryz.sizeOf3
  v3 := Tryz.zeroValue3
  t4 := Tryz.underlying4
  a4 := Tryz.isAgg4
  z4 := Tryz.sizeOf4
  v4 := Tryz.zeroValue4
  t22 := Tryz.underlying84
  a22 := Tryz.isAgg84
  z22 := Tryz.sizeOf84
  v22 := Tryz.zeroValue84
  i3 := by kernel_rfl
def Tryz.laysIns_ren : Go.Shelf.Ren := ⟨fun | 21 => 198 | 27 => 215 | 28 => 216 | 35 => 219 | 39 => 221 | n => n, fun | 22 => 84 | 3 => 3 | 4 => 4 | 0 => 0 | n => n, fun | n => n⟩
theorem Tryz.laysIns : Go.Proofs.Lays2.n21 Tryz.prog Tryz.laysIns_ren where
  mixed := by kernel_rfl
  f21 := Tryz.func198.trans (congrArg some (by kernel_rfl))
  f27 := Tryz.func215.trans (congrArg some (by kernel_rfl))
  f28 := Tryz.func216.trans (congrArg some (by kernel_rfl))
  f35 := Tryz.func219.trans (congrArg some (by kernel_rfl))
  f39 := Tryz.func221.trans (congrArg some (by kernel_rfl))
  t0 := Tryz.underlying0
  a0 := Tryz.isAgg0
  z0 := Tryz.sizeOf0
  v0 := Tryz.zeroValue0
  t3 := Tryz.underlying3
  a3 := Tryz.isAgg3
  z3 := Tryz.sizeOf3
  v3 := Tryz.zeroValue3
  t4 := Tryz.underlying4
  a4 := Tryz.isAgg4
  z4 := Tryz.sizeOf4
  v4 := Tryz.zeroValue4
  t22 := Tryz.underlying84
  a22 := Tryz.isAgg84
  z22 := Tryz.sizeOf84
  v22 := Tryz.zeroValue84
  i3 := by kernel_rfl
theorem tryz_ext {base : Nat} {w0 : World} (htab : Lib.TabIs Tryz.prog w0 "internal/strconv.uint64pow10" .u64 Lib.pow10Tab) : Sound Tryz.prog base w0 False (orC (itoaB 206) (orC (delB base 146 3) (insB base 198 3))) :=
  orC_sound (itoaB_sound (enters_of Tryz.func206 rfl rfl) htab fun n h0 h1 w ht => Any.strconv_Itoa Tryz.laysItoa n h0 h1 w ht)
    (orC_sound (delB_sound (enters_of Tryz.func146 rfl rfl) (by kernel_rfl) fun blk off cap i j zs w hH hc hm hij hj => Any.slices_Delete_int Tryz.laysDel blk off cap i j zs w hH hc hm hij hj)
      (insB_sound (enters_of Tryz.func198 rfl rfl) (by kernel_rfl) (insDoes_of Tryz.laysIns)))
theorem tryz_framed {base : Nat} : Framed (orC (itoaB 206) (orC (delB base 146 3) (insB base 198 3))) := orC_framed (itoaB_framed 206) (orC_framed (delB_framed base 146 3) (insB_framed base 198 3))
end Go.Proofs
end
