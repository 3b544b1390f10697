/-
Texts of our own, put together: F4, F5, F6, F7, H1, H2, H3, H4, H5, H6, H7, H8, H9, H10, H11, H12, J1, J2, J3, J4, J8, J9, J10, J11, J12, J13, J14, T1, T2, I1, I2, I3, I4, I5, I6, O1, O3, X1.
-/
import Derived.Test.YtbnmhbmhafbmiaaGreatDoorK6
import Derived.Laws.Strings
import Derived.Lib.SmallJoins
import Derived.Deep.Grids
import Derived.Deep.Matrix
import Derived.ChangeArms
import Derived.KernelRfl
import Derived.ChangeSlices
import Derived.WideShapes
import Derived.Shelf.Strconv.Itoa3
import Derived.Shelf.Slices.Delete
import Derived.Shelf.Abstract
import Derived.Ground.NamesProg
import Derived.Ground.Names2Prog
section
namespace Go.Proofs.YtbnmhbmhafbmiaaGreatDoor.W
set_option linter.unusedVariables false
set_option linter.unusedSimpArgs false
open Go.B
open Go.Au
variable {base : Nat}
attribute [local simp] wpC_skip wpC_region wpC_seq wpC_true wpC_false wpC_block wpC_exit wpC_ret wpO_nil wpO_n wpO_tt wpO_ff wpO_tf wpO_ft wpO_u wpS_mov wpS_pick wpS_build wpS_load wpS_store wpS_nilck wpS_bin wpS_beq wpS_isnil wpS_eqs wpS_not wpS_neg wpS_conv wpS_lea wpS_fld wpS_idx wpS_idxs wpS_slice wpS_sslice wpS_mkfn wpS_mset wpS_look wpS_ext wpS_len wpS_new wpS_box wpS_mk wpS_mkmap wpS_mksl wpS_app wpS_fn wpS_call after_some pthen_n pthen_x pthen_r pin BExit.outOf puto_some puto_none put_eq put_ne Opd.ev argEnv op1_mov op1_pick op1_new op1_box op1_load op1_nilck op1_bin op1_beq op1_not op1_neg op1_conv op1_lea op1_fld op1_len0 op1_len1 op1_idx op1_ext op1_build op1_mk op1_stw op1_mksl op1_eqs pureBin isShift resOf resVals val_tmp val_cell oneOf one_int cells_int one_bool cells_bool one_str cells_str one_nilp cells_nilp one_ptr cells_ptr one_nils cells_nils one_sl cells_sl one_sle cells_sle one_nilm cells_nilm one_mp cells_mp one_nilf cells_nilf one_fn cells_fn one_nili cells_nili cells_agg isSl_sl slen_sl sat_sl make_of asm rtOk wpS_b2s op1_b2s wpS_imax op1_imax wpS_imin op1_imin wpS_i2s op1_i2s op1_isnil Option.map_some gam_base op1_app op1_idxs wpS_idxa op1_idxa op1_sslice bound_none bound_some nat_of op1_mkmap op1_mset op1_look op1_len2 op1_mkfn Go.B.fillB Has
def mvI (k : Int) : Int:=if k = oddI then 0 else k
def dZ (ks : List Int) : Int:=if oddI∈ks then ((pos ks oddI : Nat) : Int) else -1
def fZ (ks : List Int) (l : Int) (n : Nat) : Int:=if l∈ks.take n then ((pos ks l : Nat) : Int) else -1
theorem half_eq (d : Int) : (d - (d.tmod 2 + 2).tmod 2).tdiv 2 = d / 2:=by
  rcases Int.le_total 0 d with h | h
  · rw [Int.tmod_eq_emod_of_nonneg h,Int.tmod_eq_emod_of_nonneg (by omega)]
    rw [Int.tdiv_eq_ediv_of_nonneg (by omega)]
    omega
  · obtain ⟨n,rfl⟩ : ∃ n,d = -n:=⟨-d,by omega⟩
    rw [Int.neg_tmod,Int.tmod_eq_emod_of_nonneg (by omega : 0≤n),Int.tmod_eq_emod_of_nonneg (by omega)]
    have e : -n - (-(n % 2) + 2) % 2 = -(n + (-(n % 2) + 2) % 2):=by omega
    rw [e,Int.neg_tdiv,Int.tdiv_eq_ediv_of_nonneg (by omega)]
    omega
theorem tmod_2 (d : Int) : -1≤d.tmod 2∧d.tmod 2≤1:=by
  rcases Int.le_total 0 d with h | h
  · rw [Int.tmod_eq_emod_of_nonneg h]
    omega
  · obtain ⟨n,rfl⟩ : ∃ n,d = -n:=⟨-d,by omega⟩
    rw [Int.neg_tmod,Int.tmod_eq_emod_of_nonneg (by omega : 0≤n)]
    omega
theorem dZ_at {ks : List Int} (hn : ks.Nodup) {i : Nat} {k : Int} (h : ks[i]? = some k) : (((i : Nat) : Int) == dZ ks) = decide (k = oddI):=by
  obtain ⟨hi,he⟩:=List.getElem?_eq_some_iff.1 h
  unfold dZ
  by_cases hk : k = oddI
  · have hm : oddI∈ks:=by rw [← hk,← he]; exact List.getElem_mem hi
    have:=idx_of_get hn hi
    rw [he,hk] at this
    simp [hm,hk,this]
  · by_cases hm : oddI∈ks
    · obtain ⟨hlt,hq⟩:=idx_get hm
      have hne : i≠pos ks oddI:=by
        intro e
        subst e
        rw [hq] at he
        exact hk he.symm
      have hne' : ¬ ((i : Nat) : Int) = ((pos ks oddI : Nat) : Int):=by omega
      simp [hm,hk,hne']
    · simp [hm,hk]
theorem dZ_neg {ks : List Int} : (dZ ks < 0)↔oddI ∉ ks:=by
  unfold dZ
  split
  · next h => simp [h]
  · next h => simp [h]
theorem dZ_mem {ks : List Int} (h : oddI∈ks) : dZ ks = ((pos ks oddI : Nat) : Int):=if_pos h
theorem dZ_mem_enc {ks : List Int} (h : oddI∈ks) : [encI (dZ ks)] = [pos ks oddI].map encN:=by rw [dZ_mem h]; rfl
theorem dZ_add {ks : List Int} {l : Int} (h : l≠oddI) : dZ (addK ks l) = dZ ks:=by
  unfold dZ addK
  by_cases hl : l∈ks
  · simp [hl]
  · by_cases hm : oddI∈ks
    · have e : pos (ks++[l]) oddI = pos ks oddI:=idx_pre (List.prefix_append _ _) hm
      simp [hl,hm,e]
    · have : ¬ oddI = l:=fun e => h e.symm
      simp [hl,hm,this]
theorem fZ_zero (ks : List Int) (l : Int) : fZ ks l 0 = -1:=by simp [fZ]
theorem fZ_all (ks : List Int) (l : Int) : fZ ks l ks.length = if l∈ks then ((pos ks l : Nat) : Int) else -1:=by simp [fZ]
theorem fZ_hit {ks : List Int} (hn : ks.Nodup) {n : Nat} {l : Int} (h : ks[n]? = some l) : fZ ks l (n + 1) = (n : Int):=by
  obtain ⟨hi,he⟩:=List.getElem?_eq_some_iff.1 h
  have:=idx_of_get hn hi
  rw [he] at this
  have hm : l∈ks.take (n + 1):=by rw [List.take_add_one,h]; simp
  unfold fZ
  rw [if_pos hm,this]
theorem fZ_miss {ks : List Int} {n : Nat} {k l : Int} (h : ks[n]? = some k) (hk : k≠l) : fZ ks l (n + 1) = fZ ks l n:=by
  unfold fZ
  have e : l∈ks.take (n + 1)↔l∈ks.take n:=by
    rw [List.take_add_one,h]
    simp
    intro e
    exact absurd e.symm hk
  simp only [e]
theorem s_raw (kind : Int) (hkd : kind = 1∨kind = 2) (terms : List Int) (hT : Terms terms) (c0 : Int) (hc0 : c0≠oddI) (U : List Int) (hU : Closed (wd terms.length) (nxL kind (sumsF terms)) c0 U) (hUl : U.length≤150)
    (hUb : ∀ s∈U,-1100000000000≤s∧s≤1100000000000) (v : BV) (H : BH) (hv : Rd H 2 v (terms.map encI)) :
    FnDoes (gam base) 49 [encI kind,v,encI c0] H fun r K => RelR base H terms.length (some (linX kind c0 terms U),0) r K:=by
  obtain ⟨R,hR⟩ : ∃ R : BV→BH→Prop,R = fun r K => RelR base H terms.length (some (linX kind c0 terms U),0) r K:=⟨_,rfl⟩
  rw [← hR]
  refine FnDoes.of (fn:=ir49) rfl ?_
  have hl3:=hT.1
  obtain ⟨KS,hKS⟩ : ∃ KS,KS = metL (succs (wd terms.length) (nxL kind (sumsF terms))) c0 U.length:=⟨_,rfl⟩
  have hKl : KS.length≤U.length:=by rw [hKS]; exact hU.len _
  have hdone:=hU.done
  have hX : linX kind c0 terms U = autOf (wd terms.length) (nxL kind (sumsF terms)) (accL kind) KS:=by rw [hKS]; rfl
  rw [hX] at hR
  obtain ⟨nx,hnx⟩ : ∃ nx,nx = nxL kind (sumsF terms):=⟨_,rfl⟩
  rw [← hnx] at hR hU hdone hKS
  obtain ⟨t,ht⟩ : ∃ t,t = terms.length:=⟨_,rfl⟩
  rw [← ht] at hR hU hdone hKS hl3
  have hw:=wd_3 hl3
  have pre : ∀ i,metL (succs (wd t) nx) c0 i <+: KS:=fun i => by
    rcases Nat.le_total i U.length with h | h
    · rw [hKS]; exact met_pre h
    · rw [hdone.eq h,hKS]; exact List.prefix_refl _
  have hln : (terms.map encI).length = t:=by rw [List.length_map,ht]
  have hvl:=hv.lenM
  rw [← ht] at hvl
  simp [ir49,hv.isSl,hvl]
  intro n6 b6 f6
  simp [make_of f6 b6,hv.isSl,hvl]
  intro n9 b9 f9
  have o1:=Own.start (base:=base) (H:=H) |>.new f6 b6 (s:=.arr 25 [.int .i64 0,.int .i64 0,.nils,.nils]) |>.new f9 b9 (s:=.arr 25 [.int .i64 0,.int .i64 0,.nils,.nils])
  obtain ⟨K2,g2,o2⟩:=o1.putAll 0 (b:=n9) (n:=4) (ds:=[encN t,.int .i64 0,.nils,.nils]) rfl rfl rfl rfl (rt:=none) rfl
  simp [make_of f9 b9,g2]
  intro n10 b10 f10
  have o3:=o2.new f10 b10 (s:=.arr 2 [encI c0])
  simp [make_of f10 b10]
  obtain ⟨I,hI⟩ : ∃ I : Nat→Env→BH→Prop,I = (fun i e K => e 12 = encN i∧∃ v10 u w b10 bo wo vs fr,e 10 = v10∧e 11 = encI (dZ (metL (succs (wd t) nx) c0 i))∧i≤(metL (succs (wd t) nx) c0 i).length ∧
      Own base H K ([(wo,.arr 36 vs),(bo,.arr 4 (((KS.take i).map (accL kind)).map encB)),(b10,.arr 2 ((metL (succs (wd t) nx) c0 i).map fun k => encI (mvI k))),
        (some n9,.arr 25 [encN t,.int .i64 0,u,w]),(some n6,.arr 25 [.int .i64 0,.int .i64 0,.nils,.nils])]++fr) ∧
      Vec b10 v10 (metL (succs (wd t) nx) c0 i).length∧Vec bo u i∧Vec wo w i∧vs.length = i∧RowsOf 2 vs fr (((KS.take i).map fun k => rowU KS nx k (wd t)).map (·.map encN))):=⟨_,rfl⟩
  refine wpC_countK U.length [(0,encI kind),(1,v),(6,.ptr n6 0),(8,encN t),(9,.ptr n9 0)] I (i0:=0) ?_ ?_ ?_ (Nat.zero_le _) ?_
  · rfl
  · simp
  · rw [hI]
    refine ⟨by simp,.sl n10 0 1,.nils,.nils,some n10,none,none,[],[],by simp,by simp [metL,dZ,hc0.symm],Nat.zero_le _,?_,rfl,Vec.none,Vec.none,rfl,trivial⟩
    have e : ((metL (succs (wd t) nx) c0 0).map fun k => encI (mvI k)) = [encI c0]:=by simp [metL,mvI,hc0]
    rw [e]
    exact (o3.nil (.arr 4 [])).nil (.arr 36 [])
  clear o1 o2 o3 g2
  rintro i e K hi ⟨e0,e1,e6,e8,e9,-⟩ hh
  rw [hI] at hh
  obtain ⟨e12,v10,u,w,b10,bo,wo,vs,fr,e10,e11,hil,o,hv10,hu,hw',hvs,hrows⟩:=hh
  simp only [] at e0 e1 e6 e8 e9
  have wi:=wS (n:=i) (by omega)
  by_cases hlt : i < (metL (succs (wd t) nx) c0 i).length
  · have hiN : i < U.length:=Nat.lt_of_lt_of_le hlt (hU.len i)
    obtain ⟨k,hkk⟩ : ∃ k,(metL (succs (wd t) nx) c0 i)[i]? = some k:=⟨_,List.getElem?_eq_getElem hlt⟩
    have hkU : k∈U:=hU.met i k (List.mem_of_getElem? hkk)
    have hKSi : KS[i]? = some k:=by
      obtain ⟨r,hr⟩:=pre i
      rw [← hr,List.getElem?_append_left hlt]
      exact hkk
    have hiKS : i < KS.length:=(List.getElem?_eq_some_iff.1 hKSi).1
    have hnext : metL (succs (wd t) nx) c0 (i + 1) = lsU (metL (succs (wd t) nx) c0 i) nx k (wd t):=by rw [metL,hkk]; rfl
    have hpre : ∀ c,c≤wd t→lsU (metL (succs (wd t) nx) c0 i) nx k c <+: KS:=fun c hc => (lsU_pre hc).trans (by rw [← hnext]; exact pre (i + 1))
    simp [e12,e10,hv10.isSl,hv10.len,hlt]
    intro n13 b13 f13
    have o4:=o.new f13 b13 (s:=.arr 2 [])
    simp [make_of f13 b13]
    obtain ⟨J,hJ⟩ : ∃ J : Nat→Env→BH→Prop,J = (fun c e K => e 14 = encN c∧∃ v10 v13 b10 b13,e 10 = v10∧e 13 = v13∧e 11 = encI (dZ (lsU (metL (succs (wd t) nx) c0 i) nx k c)) ∧
      Own base H K ([(b13,.arr 2 ((rowU KS nx k c).map encN)),(wo,.arr 36 vs),(bo,.arr 4 (((KS.take i).map (accL kind)).map encB)),(b10,.arr 2 ((lsU (metL (succs (wd t) nx) c0 i) nx k c).map fun k => encI (mvI k))),
        (some n9,.arr 25 [encN t,.int .i64 0,u,w]),(some n6,.arr 25 [.int .i64 0,.int .i64 0,.nils,.nils])]++fr) ∧
      Vec b10 v10 (lsU (metL (succs (wd t) nx) c0 i) nx k c).length∧Vec b13 v13 c):=⟨_,rfl⟩
    refine wpC_countK (wd t) [(0,encI kind),(1,v),(6,.ptr n6 0),(8,encN t),(9,.ptr n9 0),(12,encN i)] J (i0:=0) ?_ ?_ ?_ (Nat.zero_le _) ?_
    · rfl
    · simp [e0,e1,e6,e8,e9,e12]
    · rw [hJ]
      exact ⟨by simp,v10,.sl n13 0 0,b10,some n13,by simp [e10],by simp,by simp [e11,lsU_zero],o4,hv10,rfl⟩
    clear e0 e1 e6 e8 e9 e12 e10 e11 o o4 hv10
    rintro c e K hc ⟨e0,e1,e6,e8,e9,e12,-⟩ hh
    rw [hJ] at hh
    obtain ⟨e14,v10,v13,b10,b13,e10,e13,e11,o,hv10,hv13⟩:=hh
    simp only [] at e0 e1 e6 e8 e9 e12
    have wc:=wS (n:=c) (by omega)
    obtain ⟨ls,hls⟩ : ∃ ls,ls = lsU (metL (succs (wd t) nx) c0 i) nx k c:=⟨_,rfl⟩
    have hlsp:=hpre c hc
    have hlnd : ls.Nodup:=by rw [hls]; exact addAll_nodup (met_nodup i)
    have hlsk : ls[i]? = some k:=by
      rw [hls]
      obtain ⟨r,hr⟩:=(lsU_pre (ks:=metL (succs (wd t) nx) c0 i) (nx:=nx) (k:=k) (Nat.zero_le c))
      rw [← hr,lsU_zero,List.getElem?_append_left hlt]
      exact hkk
    have hlsU : ∀ x∈ls,x∈U:=fun x hx => by
      rw [hls] at hx
      obtain ⟨r,hr⟩:=hlsp
      have : x∈KS:=by rw [← hr]; exact List.mem_append_left _ hx
      rw [hKS] at this
      exact hU.met _ x this
    rw [← hls] at o hv10 e11 hlsp
    have hll:=hlsp.length_le
    have hil2 : i < ls.length:=(List.getElem?_eq_some_iff.1 hlsk).1
    simp [e8,e14]
    refine callP (s_wide t K (by omega)) ?_
    by_cases hcw : c < wd t
    · have hlsp1:=hpre (c + 1) hcw
      have hsu : lsU (metL (succs (wd t) nx) c0 i) nx k (c + 1) = addK ls (nx k c):=by rw [lsU_succ,← hls]
      rw [hsu] at hlsp1
      have g10:=(o.rd 3 rfl (v:=v10) (by simpa using hv10)).at (i:=i) (by simpa using hil2) (rt:=some 2) rfl
      have gk : ls[i] = k:=(List.getElem?_eq_some_iff.1 hlsk).2
      have g10' : K.rd (some 2) none (v10.sat i 1) = some (encI (mvI k)):=by simpa [gk] using g10
      have hl3':=hT.1
      have hsum:=s_sum (base:=base) terms hT c (by omega) v K (ty:=2) rfl (hv.keeps o.keeps)
      have hb1:=hUb k hkU
      have hb2:=sumN_le hT c terms.length
      have hm : -1100000000000≤mvI k∧mvI k≤1100000000000:=by unfold mvI; split <;> omega
      obtain ⟨S,hS⟩ : ∃ S,S = sumN terms c terms.length:=⟨_,rfl⟩
      rw [← hS] at hsum hb2
      have wsub : IntKind.i64.wrap (mvI k - S) = mvI k - S:=w64 (by omega) (by omega)
      have hD:=dZ_at hlnd hlsk
      have hnk : nx k c = if k = oddI then oddI else if kind = 1∧(k - S).tmod 2≠0 then oddI else (k - S) / 2:=by rw [hnx,hS]; rfl
      simp [hcw,e10,e12,hv10.isSl,hv10.len,hil2,e1,e14,g10']
      refine callP hsum ?_
      have hadd : (nx k c)∈addK ls (nx k c):=mem_addK.2 (.inr rfl)
      have hpk : pos (addK ls (nx k c)) (nx k c) = pos KS (nx k c):=(idx_pre hlsp1 hadd).symm
      have hal:=hlsp1.length_le
      have hcases : ((((i : Nat) : Int) == dZ ls) = true∨(((i : Nat) : Int) == dZ ls) = false∧(kind == 1) = true∧((mvI k - S).tmod 2 != 0) = true)∧nx k c = oddI ∨
          (((i : Nat) : Int) == dZ ls) = false∧((kind == 1) = false∨(kind == 1) = true∧((mvI k - S).tmod 2 != 0) = false)∧nx k c = (mvI k - S) / 2:=by
        by_cases hk : k = oddI
        · exact .inl ⟨.inl (by rw [hD]; simp [hk]),by rw [hnk,if_pos hk]⟩
        · have hmk : mvI k = k:=if_neg hk
          rw [hnk,if_neg hk,hD,hmk]
          by_cases h1 : kind = 1
          · by_cases h2 : (k - S).tmod 2 = 0
            · exact .inr ⟨by simp [hk],.inr ⟨by simp [h1],by simp [h2]⟩,by rw [if_neg]; simp [h2]⟩
            · exact .inl ⟨.inr ⟨by simp [hk],by simp [h1],by simp [h2]⟩,by rw [if_pos ⟨h1,h2⟩]⟩
          · exact .inr ⟨by simp [hk],.inl (by simp [h1]),by rw [if_neg]; simp [h1]⟩
      rcases hcases with ⟨hdead,hl⟩ | ⟨hA,hB,hl⟩
      · have hneg:=dZ_neg (ks:=ls)
        rw [hl] at hadd hpk hal hsu
        rcases hdead with hA | ⟨hA,hB,hC⟩
        · simp [wsub,e0,e11,e12,hA]
          by_cases hm : oddI∈ls
          · have h0 : ¬ dZ ls < 0:=fun h => hneg.1 h hm
            have he : addK ls oddI = ls:=if_pos hm
            rw [he] at hpk hsu
            simp [h0,e11,e13]
            intro n1 b1 f1
            simp [make_of f1 b1]
            intro n2 b2 f2
            obtain ⟨v',K',b',q1,q2,q3⟩:=o.push 0 rfl (by simpa [rowU_len] using hv13) (x:=encI (dZ ls)) (bytes:=8) rfl (by simp [rowU_len]; omega) (by simp [rowU_len]; omega) f1 b1 f2 b2
            simp [q1,e14,wc,hcw]
            rw [hJ]
            simp only [hsu]
            refine ⟨by simp,v10,v',b10,some b',by simp [e10],by simp,by simp [e11],?_,hv10,by simpa [rowU_len] using q3⟩
            rw [rowU_succ,hl,← hpk,List.map_append,← dZ_mem_enc hm]
            exact q2
          · have h0 : dZ ls < 0:=hneg.2 hm
            have he : addK ls oddI = ls++[oddI]:=if_neg hm
            rw [he] at hpk hsu hal
            simp at hal
            have hp2 : pos (ls++[oddI]) oddI = ls.length:=by rw [← he]; exact idx_new hm
            have hdz : dZ (ls++[oddI]) = (ls.length : Int):=by rw [dZ_mem (by simp),hp2]
            simp [h0,e10,hv10.isSl,hv10.len]
            intro n3 b3 f3
            simp [make_of f3 b3]
            intro n4 b4 f4
            obtain ⟨v3,K3,b3',p1,p2,p3⟩:=o.push 3 rfl (by simpa using hv10) (x:=.int .i64 0) (bytes:=8) rfl (by simp; omega) (by simp; omega) f3 b3 f4 b4
            simp [p1,e13]
            intro n1 b1 f1
            simp [make_of f1 b1]
            intro n2 b2 f2
            have p2 : Own base H K3 ((b13,.arr 2 ((rowU KS nx k c).map encN))::(wo,.arr 36 vs)::(bo,.arr 4 (((KS.take i).map (accL kind)).map encB))::(some b3',.arr 2 ((ls++[oddI]).map fun k => encI (mvI k)))::(some n9,.arr 25 [encN t,.int .i64 0,u,w])::(some n6,.arr 25 [.int .i64 0,.int .i64 0,.nils,.nils])::fr):=by simpa [mvI] using p2
            obtain ⟨v',K',b',q1,q2,q3⟩:=p2.push 0 rfl (by simpa [rowU_len] using hv13) (x:=encN ls.length) (bytes:=8) rfl (by simp [rowU_len]; omega) (by simp [rowU_len]; omega) f1 b1 f2 b2
            simp [q1,e14,wc,hcw]
            rw [hJ]
            simp only [hsu]
            refine ⟨by simp,v3,v',some b3',some b',by simp,by simp,?_,?_,by simpa using p3,by simpa [rowU_len] using q3⟩
            · simp [hdz]
            · rw [rowU_succ,hl,← hpk,hp2,List.map_append]
              exact q2
        · simp [wsub,e0,e11,e12,hA,hB,hC]
          by_cases hm : oddI∈ls
          · have h0 : ¬ dZ ls < 0:=fun h => hneg.1 h hm
            have he : addK ls oddI = ls:=if_pos hm
            rw [he] at hpk hsu
            simp [h0,e11,e13]
            intro n1 b1 f1
            simp [make_of f1 b1]
            intro n2 b2 f2
            obtain ⟨v',K',b',q1,q2,q3⟩:=o.push 0 rfl (by simpa [rowU_len] using hv13) (x:=encI (dZ ls)) (bytes:=8) rfl (by simp [rowU_len]; omega) (by simp [rowU_len]; omega) f1 b1 f2 b2
            simp [q1,e14,wc,hcw]
            rw [hJ]
            simp only [hsu]
            refine ⟨by simp,v10,v',b10,some b',by simp [e10],by simp,by simp [e11],?_,hv10,by simpa [rowU_len] using q3⟩
            rw [rowU_succ,hl,← hpk,List.map_append,← dZ_mem_enc hm]
            exact q2
          · have h0 : dZ ls < 0:=hneg.2 hm
            have he : addK ls oddI = ls++[oddI]:=if_neg hm
            rw [he] at hpk hsu hal
            simp at hal
            have hp2 : pos (ls++[oddI]) oddI = ls.length:=by rw [← he]; exact idx_new hm
            have hdz : dZ (ls++[oddI]) = (ls.length : Int):=by rw [dZ_mem (by simp),hp2]
            simp [h0,e10,hv10.isSl,hv10.len]
            intro n3 b3 f3
            simp [make_of f3 b3]
            intro n4 b4 f4
            obtain ⟨v3,K3,b3',p1,p2,p3⟩:=o.push 3 rfl (by simpa using hv10) (x:=.int .i64 0) (bytes:=8) rfl (by simp; omega) (by simp; omega) f3 b3 f4 b4
            simp [p1,e13]
            intro n1 b1 f1
            simp [make_of f1 b1]
            intro n2 b2 f2
            have p2 : Own base H K3 ((b13,.arr 2 ((rowU KS nx k c).map encN))::(wo,.arr 36 vs)::(bo,.arr 4 (((KS.take i).map (accL kind)).map encB))::(some b3',.arr 2 ((ls++[oddI]).map fun k => encI (mvI k)))::(some n9,.arr 25 [encN t,.int .i64 0,u,w])::(some n6,.arr 25 [.int .i64 0,.int .i64 0,.nils,.nils])::fr):=by simpa [mvI] using p2
            obtain ⟨v',K',b',q1,q2,q3⟩:=p2.push 0 rfl (by simpa [rowU_len] using hv13) (x:=encN ls.length) (bytes:=8) rfl (by simp [rowU_len]; omega) (by simp [rowU_len]; omega) f1 b1 f2 b2
            simp [q1,e14,wc,hcw]
            rw [hJ]
            simp only [hsu]
            refine ⟨by simp,v3,v',some b3',some b',by simp,by simp,?_,?_,by simpa using p3,by simpa [rowU_len] using q3⟩
            · simp [hdz]
            · rw [rowU_succ,hl,← hpk,hp2,List.map_append]
              exact q2
      · obtain ⟨l,hll2⟩ : ∃ l,l = (mvI k - S) / 2:=⟨_,rfl⟩
        have hlo : l≠oddI:=by unfold oddI; omega
        have hr1:=tmod_2 (mvI k - S)
        have hr2:=tmod_2 ((mvI k - S).tmod 2 + 2)
        have wr1 : IntKind.i64.wrap ((mvI k - S).tmod 2 + 2) = (mvI k - S).tmod 2 + 2:=w64 (by omega) (by omega)
        have wr2 : IntKind.i64.wrap (mvI k - S - ((mvI k - S).tmod 2 + 2).tmod 2) = mvI k - S - ((mvI k - S).tmod 2 + 2).tmod 2:=w64 (by omega) (by omega)
        have hhe:=half_eq (mvI k - S)
        rw [← hll2] at hhe
        have wr3 : IntKind.i64.wrap l = l:=w64 (by omega) (by omega)
        rcases hB with hB | ⟨hB,hC⟩
        · simp [wsub,e0,e11,e12,hA,hB,wr1,wr2,hhe,wr3]
          have hnl : nx k c = l:=by rw [hl,hll2]
          rw [hnl] at hadd hpk hal hsu
          obtain ⟨T,hT2⟩ : ∃ T : Nat→Env→BH→Prop,T = (fun n e L => e 18 = encN n∧e 17 = encI (fZ ls l n)∧L = K):=⟨_,rfl⟩
          refine wpC_countK ls.length [(0,encI kind),(1,v),(6,.ptr n6 0),(8,encN t),(9,.ptr n9 0),(12,encN i),(10,v10),(11,encI (dZ ls)),(13,v13),(14,encN c),(16,encI l)] T (i0:=0) ?_ ?_ ?_ (Nat.zero_le _) ?_
          · rfl
          · simp [e0,e1,e6,e8,e9,e12,e10,e11,e13,e14]
          · rw [hT2]
            exact ⟨by simp,by simp [fZ_zero],rfl⟩
          clear e0 e1 e6 e8 e9 e12 e10 e11 e13 e14
          rintro n e L hn ⟨e0,e1,e6,e8,e9,e12,e10,e11,e13,e14,e16,-⟩ hh
          rw [hT2] at hh
          obtain ⟨e18,e17,rfl⟩:=hh
          simp only [] at e0 e1 e6 e8 e9 e12 e10 e11 e13 e14 e16
          have wn:=wS (n:=n) (by omega)
          by_cases hln : n < ls.length
          · obtain ⟨kn,hkn⟩ : ∃ kn,ls[n]? = some kn:=⟨_,List.getElem?_eq_getElem hln⟩
            have hkn' : ls[n] = kn:=(List.getElem?_eq_some_iff.1 hkn).2
            have hDn:=dZ_at hlnd hkn
            have gn:=(o.rd 3 rfl (v:=v10) (by simpa using hv10)).at (i:=n) (by simpa using hln) (rt:=none) rfl
            have gn' : L.rd none none (v10.sat n 1) = some (encI (mvI kn)):=by simpa [hkn'] using gn
            by_cases hko : kn = oddI
            · have hA2 : (((n : Nat) : Int) != dZ ls) = false:=by rw [bne,hDn]; simp [hko]
              have hmi:=fZ_miss hkn (l:=l) (by rw [hko]; exact hlo.symm)
              simp [e18,e10,hv10.isSl,hv10.len,hln,e11,hA2,wn]
              rw [hT2]
              exact ⟨by simp,by simp [e17,hmi],rfl⟩
            · have hA2 : (((n : Nat) : Int) != dZ ls) = true:=by rw [bne,hDn]; simp [hko]
              have hmv : mvI kn = kn:=if_neg hko
              rw [hmv] at gn'
              by_cases hkl : kn = l
              · have hhi:=fZ_hit hlnd (hkn.trans (by rw [hkl]))
                have hA3 : (kn == l) = true:=by simp [hkl]
                simp [e18,e10,hv10.isSl,hv10.len,hln,e11,hA2,gn',e16,hA3,wn]
                rw [hT2]
                exact ⟨by simp,by simp [hhi],rfl⟩
              · have hmi:=fZ_miss hkn hkl
                have hA3 : (kn == l) = false:=by simp [hkl]
                simp [e18,e10,hv10.isSl,hv10.len,hln,e11,hA2,gn',e16,hA3,wn]
                rw [hT2]
                exact ⟨by simp,by simp [e17,hmi],rfl⟩
          · have hne : n = ls.length:=by omega
            subst hne
            rw [fZ_all] at e17
            simp [e18,e10,hv10.isSl,hv10.len]
            by_cases hm : l∈ls
            · have he : addK ls l = ls:=if_pos hm
              rw [if_pos hm] at e17
              rw [he] at hpk hsu
              have h0 : ¬ ((pos ls l : Nat) : Int) < 0:=by omega
              simp [e17,h0,e13]
              intro n1 b1 f1
              simp [make_of f1 b1]
              intro n2 b2 f2
              obtain ⟨v',K',b',q1,q2,q3⟩:=o.push 0 rfl (by simpa [rowU_len] using hv13) (x:=encN (pos ls l)) (bytes:=8) rfl (by simp [rowU_len]; omega) (by simp [rowU_len]; omega) f1 b1 f2 b2
              simp [q1,e14,wc,hcw]
              rw [hJ]
              simp only [hsu]
              refine ⟨by simp,v10,v',b10,some b',by simp [e10],by simp,by simp [e11],?_,hv10,by simpa [rowU_len] using q3⟩
              rw [rowU_succ,hnl,← hpk,List.map_append]
              exact q2
            · have he : addK ls l = ls++[l]:=if_neg hm
              rw [if_neg hm] at e17
              have hdz:=dZ_add (ks:=ls) hlo
              rw [he] at hpk hsu hal hdz
              simp at hal
              have hp2 : pos (ls++[l]) l = ls.length:=by rw [← he]; exact idx_new hm
              have hml : mvI l = l:=if_neg hlo
              simp [e17,e10,hv10.isSl,hv10.len]
              intro n3 b3 f3
              simp [make_of f3 b3,e16]
              intro n4 b4 f4
              obtain ⟨v3,K3,b3',p1,p2,p3⟩:=o.push 3 rfl (by simpa using hv10) (x:=encI l) (bytes:=8) rfl (by simp; omega) (by simp; omega) f3 b3 f4 b4
              simp [p1,e13]
              intro n1 b1 f1
              simp [make_of f1 b1]
              intro n2 b2 f2
              have p2 : Own base H K3 ((b13,.arr 2 ((rowU KS nx k c).map encN))::(wo,.arr 36 vs)::(bo,.arr 4 (((KS.take i).map (accL kind)).map encB))::(some b3',.arr 2 ((ls++[l]).map fun k => encI (mvI k)))::(some n9,.arr 25 [encN t,.int .i64 0,u,w])::(some n6,.arr 25 [.int .i64 0,.int .i64 0,.nils,.nils])::fr):=by simpa [hml] using p2
              obtain ⟨v',K',b',q1,q2,q3⟩:=p2.push 0 rfl (by simpa [rowU_len] using hv13) (x:=encN ls.length) (bytes:=8) rfl (by simp [rowU_len]; omega) (by simp [rowU_len]; omega) f1 b1 f2 b2
              simp [q1,e14,wc,hcw]
              rw [hJ]
              simp only [hsu]
              refine ⟨by simp,v3,v',some b3',some b',by simp,by simp,by simp [e11,hdz],?_,by simpa using p3,by simpa [rowU_len] using q3⟩
              rw [rowU_succ,hnl,← hpk,hp2,List.map_append]
              exact q2
        · simp [wsub,e0,e11,e12,hA,hB,hC,wr1,wr2,hhe,wr3]
          have hnl : nx k c = l:=by rw [hl,hll2]
          rw [hnl] at hadd hpk hal hsu
          obtain ⟨T,hT2⟩ : ∃ T : Nat→Env→BH→Prop,T = (fun n e L => e 18 = encN n∧e 17 = encI (fZ ls l n)∧L = K):=⟨_,rfl⟩
          refine wpC_countK ls.length [(0,encI kind),(1,v),(6,.ptr n6 0),(8,encN t),(9,.ptr n9 0),(12,encN i),(10,v10),(11,encI (dZ ls)),(13,v13),(14,encN c),(16,encI l)] T (i0:=0) ?_ ?_ ?_ (Nat.zero_le _) ?_
          · rfl
          · simp [e0,e1,e6,e8,e9,e12,e10,e11,e13,e14]
          · rw [hT2]
            exact ⟨by simp,by simp [fZ_zero],rfl⟩
          clear e0 e1 e6 e8 e9 e12 e10 e11 e13 e14
          rintro n e L hn ⟨e0,e1,e6,e8,e9,e12,e10,e11,e13,e14,e16,-⟩ hh
          rw [hT2] at hh
          obtain ⟨e18,e17,rfl⟩:=hh
          simp only [] at e0 e1 e6 e8 e9 e12 e10 e11 e13 e14 e16
          have wn:=wS (n:=n) (by omega)
          by_cases hln : n < ls.length
          · obtain ⟨kn,hkn⟩ : ∃ kn,ls[n]? = some kn:=⟨_,List.getElem?_eq_getElem hln⟩
            have hkn' : ls[n] = kn:=(List.getElem?_eq_some_iff.1 hkn).2
            have hDn:=dZ_at hlnd hkn
            have gn:=(o.rd 3 rfl (v:=v10) (by simpa using hv10)).at (i:=n) (by simpa using hln) (rt:=none) rfl
            have gn' : L.rd none none (v10.sat n 1) = some (encI (mvI kn)):=by simpa [hkn'] using gn
            by_cases hko : kn = oddI
            · have hA2 : (((n : Nat) : Int) != dZ ls) = false:=by rw [bne,hDn]; simp [hko]
              have hmi:=fZ_miss hkn (l:=l) (by rw [hko]; exact hlo.symm)
              simp [e18,e10,hv10.isSl,hv10.len,hln,e11,hA2,wn]
              rw [hT2]
              exact ⟨by simp,by simp [e17,hmi],rfl⟩
            · have hA2 : (((n : Nat) : Int) != dZ ls) = true:=by rw [bne,hDn]; simp [hko]
              have hmv : mvI kn = kn:=if_neg hko
              rw [hmv] at gn'
              by_cases hkl : kn = l
              · have hhi:=fZ_hit hlnd (hkn.trans (by rw [hkl]))
                have hA3 : (kn == l) = true:=by simp [hkl]
                simp [e18,e10,hv10.isSl,hv10.len,hln,e11,hA2,gn',e16,hA3,wn]
                rw [hT2]
                exact ⟨by simp,by simp [hhi],rfl⟩
              · have hmi:=fZ_miss hkn hkl
                have hA3 : (kn == l) = false:=by simp [hkl]
                simp [e18,e10,hv10.isSl,hv10.len,hln,e11,hA2,gn',e16,hA3,wn]
                rw [hT2]
                exact ⟨by simp,by simp [e17,hmi],rfl⟩
          · have hne : n = ls.length:=by omega
            subst hne
            rw [fZ_all] at e17
            simp [e18,e10,hv10.isSl,hv10.len]
            by_cases hm : l∈ls
            · have he : addK ls l = ls:=if_pos hm
              rw [if_pos hm] at e17
              rw [he] at hpk hsu
              have h0 : ¬ ((pos ls l : Nat) : Int) < 0:=by omega
              simp [e17,h0,e13]
              intro n1 b1 f1
              simp [make_of f1 b1]
              intro n2 b2 f2
              obtain ⟨v',K',b',q1,q2,q3⟩:=o.push 0 rfl (by simpa [rowU_len] using hv13) (x:=encN (pos ls l)) (bytes:=8) rfl (by simp [rowU_len]; omega) (by simp [rowU_len]; omega) f1 b1 f2 b2
              simp [q1,e14,wc,hcw]
              rw [hJ]
              simp only [hsu]
              refine ⟨by simp,v10,v',b10,some b',by simp [e10],by simp,by simp [e11],?_,hv10,by simpa [rowU_len] using q3⟩
              rw [rowU_succ,hnl,← hpk,List.map_append]
              exact q2
            · have he : addK ls l = ls++[l]:=if_neg hm
              rw [if_neg hm] at e17
              have hdz:=dZ_add (ks:=ls) hlo
              rw [he] at hpk hsu hal hdz
              simp at hal
              have hp2 : pos (ls++[l]) l = ls.length:=by rw [← he]; exact idx_new hm
              have hml : mvI l = l:=if_neg hlo
              simp [e17,e10,hv10.isSl,hv10.len]
              intro n3 b3 f3
              simp [make_of f3 b3,e16]
              intro n4 b4 f4
              obtain ⟨v3,K3,b3',p1,p2,p3⟩:=o.push 3 rfl (by simpa using hv10) (x:=encI l) (bytes:=8) rfl (by simp; omega) (by simp; omega) f3 b3 f4 b4
              simp [p1,e13]
              intro n1 b1 f1
              simp [make_of f1 b1]
              intro n2 b2 f2
              have p2 : Own base H K3 ((b13,.arr 2 ((rowU KS nx k c).map encN))::(wo,.arr 36 vs)::(bo,.arr 4 (((KS.take i).map (accL kind)).map encB))::(some b3',.arr 2 ((ls++[l]).map fun k => encI (mvI k)))::(some n9,.arr 25 [encN t,.int .i64 0,u,w])::(some n6,.arr 25 [.int .i64 0,.int .i64 0,.nils,.nils])::fr):=by simpa [hml] using p2
              obtain ⟨v',K',b',q1,q2,q3⟩:=p2.push 0 rfl (by simpa [rowU_len] using hv13) (x:=encN ls.length) (bytes:=8) rfl (by simp [rowU_len]; omega) (by simp [rowU_len]; omega) f1 b1 f2 b2
              simp [q1,e14,wc,hcw]
              rw [hJ]
              simp only [hsu]
              refine ⟨by simp,v3,v',some b3',some b',by simp,by simp,by simp [e11,hdz],?_,by simpa using p3,by simpa [rowU_len] using q3⟩
              rw [rowU_succ,hnl,← hpk,hp2,List.map_append]
              exact q2
    · have hcc : c = wd t:=by omega
      subst hcc
      have nb : ¬ (1000 : Int) < (ls.length : Int):=by omega
      have gk : ls[i] = k:=(List.getElem?_eq_some_iff.1 hlsk).2
      have g10:=(o.rd 3 rfl (v:=v10) (by simpa using hv10)).at (i:=i) (by simpa using hil2) (rt:=none) rfl
      have g10' : K.rd none none (v10.sat i 1) = some (encI (mvI k)):=by simpa [gk] using g10
      have hD:=dZ_at hlnd hlsk
      have u1:=rd_ptr (o.at 4 (b:=n9) rfl) (rt:=none) (j:=2) (c:=u) rfl rfl
      have hti : (KS.take i).length = i:=by simp; omega
      have hta : (KS.take (i + 1)).map (accL kind) = (KS.take i).map (accL kind)++[accL kind k]:=by rw [List.take_add_one,hKSi]; simp
      have htr : ((KS.take (i + 1)).map fun k => rowU KS nx k (wd t)).map (·.map encN) = ((KS.take i).map fun k => rowU KS nx k (wd t)).map (·.map encN)++[(rowU KS nx k (wd t)).map encN]:=by rw [List.take_add_one,hKSi]; simp
      have hin : i + 1≤(metL (succs (wd t) nx) c0 (i + 1)).length:=by
        have:=(met_pre1 (sx:=succs (wd t) nx) (s:=c0) i).length_le
        omega
      have hacc : (((i : Nat) : Int) != dZ ls) = false∧accL kind k = false∨(((i : Nat) : Int) != dZ ls) = true∧mvI k = k∧((k == 0) = true∧accL kind k = true∨(k == 0) = false∧((kind == 2) = false∧accL kind k = false∨(kind == 2) = true∧accL kind k = decide (0 < k))):=by
        rw [bne,hD]
        by_cases hk : k = oddI
        · exact .inl ⟨by simp [hk],by simp [hk,accL,oddI]⟩
        · refine .inr ⟨by simp [hk],if_neg hk,?_⟩
          by_cases h0 : k = 0
          · exact .inl ⟨by simp [h0],by simp [h0,accL]⟩
          · refine .inr ⟨by simp [h0],?_⟩
            by_cases h2 : kind = 2
            · exact .inr ⟨by simp [h2],by simp [accL,h0,h2,hk]⟩
            · exact .inl ⟨by simp [h2],by simp [accL,h0,h2]⟩
      rcases hacc with ⟨hA,hav⟩ | ⟨hA,hmk,hB⟩
      · simp [e10,hv10.isSl,hv10.len,nb,e9,u1,e12,e11,hA]
        intro n1 b1 f1
        simp [make_of f1 b1]
        intro n2 b2 f2
        rw [← hav] at f2
        obtain ⟨v',K3,b',q1,o2,q3⟩:=o.push 2 rfl (v:=u) (by simp only [List.length_map,hti]; exact hu) (x:=encB (accL kind k)) (bytes:=1) rfl (by simp; omega) (by simp; omega) f1 b1 f2 b2
        rw [hav] at q1
        obtain ⟨K4,q2,o3⟩:=o2.put 4 rfl (j:=2) (u:=v') (by simp) q3.one (rt:=none) rfl
        simp [q1,q2,e9]
        have u2:=rd_ptr (o3.at 4 (b:=n9) rfl) (rt:=none) (j:=3) (c:=w) rfl rfl
        have h17:=hv13.one
        simp [u2,e13,h17,cells_one h17]
        intro n3 b3' f3
        simp [make_of f3 b3']
        intro n4 b4 f4
        obtain ⟨w',K5,c',p1,o4,p3⟩:=o3.push 1 rfl (v:=w) (by rw [hvs]; exact hw') (x:=v13) (bytes:=24) h17 (by omega) (by omega) f3 b3' f4 b4
        obtain ⟨K6,p2,o5⟩:=o4.put 4 rfl (j:=3) (u:=w') (by simp) p3.one (rt:=none) rfl
        simp [p1,p2,e9,e12,wi,hiN]
        rw [hI]
        refine ⟨by simp,v10,v',w',b10,some b',some c',vs++[v13],fr++[(b13,.arr 2 ((rowU KS nx k (wd t)).map encN))],by simp [e10],by simp [e11,hls,hnext],hin,?_,by rw [hnext,← hls]; exact hv10,?_,?_,by simp [hvs],?_⟩
        · refine Own.last (F:=[(some c',.arr 36 (vs++[v13])),(some b',.arr 4 (((KS.take (i + 1)).map (accL kind)).map encB)),(b10,.arr 2 ((metL (succs (wd t) nx) c0 (i + 1)).map fun k => encI (mvI k))),
            (some n9,.arr 25 [encN t,.int .i64 0,v',w']),(some n6,.arr 25 [.int .i64 0,.int .i64 0,.nils,.nils])]) ?_
          rw [hta,hnext,← hls]
          simpa using o5
        · simp only [List.length_map,hti] at q3
          exact q3
        · simpa [hvs] using p3
        · rw [htr]
          exact hrows.snoc (by simpa [rowU_len] using hv13)
      rw [hmk] at g10'
      rcases hB with ⟨hB,hav⟩ | ⟨hB,⟨hC,hav⟩ | ⟨hC,hav⟩⟩
      · simp [e10,hv10.isSl,hv10.len,nb,e9,u1,e12,e11,hA,hil2,g10',hB]
        intro n1 b1 f1
        simp [make_of f1 b1]
        intro n2 b2 f2
        rw [← hav] at f2
        obtain ⟨v',K3,b',q1,o2,q3⟩:=o.push 2 rfl (v:=u) (by simp only [List.length_map,hti]; exact hu) (x:=encB (accL kind k)) (bytes:=1) rfl (by simp; omega) (by simp; omega) f1 b1 f2 b2
        rw [hav] at q1
        obtain ⟨K4,q2,o3⟩:=o2.put 4 rfl (j:=2) (u:=v') (by simp) q3.one (rt:=none) rfl
        simp [q1,q2,e9]
        have u2:=rd_ptr (o3.at 4 (b:=n9) rfl) (rt:=none) (j:=3) (c:=w) rfl rfl
        have h17:=hv13.one
        simp [u2,e13,h17,cells_one h17]
        intro n3 b3' f3
        simp [make_of f3 b3']
        intro n4 b4 f4
        obtain ⟨w',K5,c',p1,o4,p3⟩:=o3.push 1 rfl (v:=w) (by rw [hvs]; exact hw') (x:=v13) (bytes:=24) h17 (by omega) (by omega) f3 b3' f4 b4
        obtain ⟨K6,p2,o5⟩:=o4.put 4 rfl (j:=3) (u:=w') (by simp) p3.one (rt:=none) rfl
        simp [p1,p2,e9,e12,wi,hiN]
        rw [hI]
        refine ⟨by simp,v10,v',w',b10,some b',some c',vs++[v13],fr++[(b13,.arr 2 ((rowU KS nx k (wd t)).map encN))],by simp [e10],by simp [e11,hls,hnext],hin,?_,by rw [hnext,← hls]; exact hv10,?_,?_,by simp [hvs],?_⟩
        · refine Own.last (F:=[(some c',.arr 36 (vs++[v13])),(some b',.arr 4 (((KS.take (i + 1)).map (accL kind)).map encB)),(b10,.arr 2 ((metL (succs (wd t) nx) c0 (i + 1)).map fun k => encI (mvI k))),
            (some n9,.arr 25 [encN t,.int .i64 0,v',w']),(some n6,.arr 25 [.int .i64 0,.int .i64 0,.nils,.nils])]) ?_
          rw [hta,hnext,← hls]
          simpa using o5
        · simp only [List.length_map,hti] at q3
          exact q3
        · simpa [hvs] using p3
        · rw [htr]
          exact hrows.snoc (by simpa [rowU_len] using hv13)
      · simp [e10,hv10.isSl,hv10.len,nb,e9,u1,e12,e11,hA,hil2,g10',hB,e0,hC]
        intro n1 b1 f1
        simp [make_of f1 b1]
        intro n2 b2 f2
        rw [← hav] at f2
        obtain ⟨v',K3,b',q1,o2,q3⟩:=o.push 2 rfl (v:=u) (by simp only [List.length_map,hti]; exact hu) (x:=encB (accL kind k)) (bytes:=1) rfl (by simp; omega) (by simp; omega) f1 b1 f2 b2
        rw [hav] at q1
        obtain ⟨K4,q2,o3⟩:=o2.put 4 rfl (j:=2) (u:=v') (by simp) q3.one (rt:=none) rfl
        simp [q1,q2,e9]
        have u2:=rd_ptr (o3.at 4 (b:=n9) rfl) (rt:=none) (j:=3) (c:=w) rfl rfl
        have h17:=hv13.one
        simp [u2,e13,h17,cells_one h17]
        intro n3 b3' f3
        simp [make_of f3 b3']
        intro n4 b4 f4
        obtain ⟨w',K5,c',p1,o4,p3⟩:=o3.push 1 rfl (v:=w) (by rw [hvs]; exact hw') (x:=v13) (bytes:=24) h17 (by omega) (by omega) f3 b3' f4 b4
        obtain ⟨K6,p2,o5⟩:=o4.put 4 rfl (j:=3) (u:=w') (by simp) p3.one (rt:=none) rfl
        simp [p1,p2,e9,e12,wi,hiN]
        rw [hI]
        refine ⟨by simp,v10,v',w',b10,some b',some c',vs++[v13],fr++[(b13,.arr 2 ((rowU KS nx k (wd t)).map encN))],by simp [e10],by simp [e11,hls,hnext],hin,?_,by rw [hnext,← hls]; exact hv10,?_,?_,by simp [hvs],?_⟩
        · refine Own.last (F:=[(some c',.arr 36 (vs++[v13])),(some b',.arr 4 (((KS.take (i + 1)).map (accL kind)).map encB)),(b10,.arr 2 ((metL (succs (wd t) nx) c0 (i + 1)).map fun k => encI (mvI k))),
            (some n9,.arr 25 [encN t,.int .i64 0,v',w']),(some n6,.arr 25 [.int .i64 0,.int .i64 0,.nils,.nils])]) ?_
          rw [hta,hnext,← hls]
          simpa using o5
        · simp only [List.length_map,hti] at q3
          exact q3
        · simpa [hvs] using p3
        · rw [htr]
          exact hrows.snoc (by simpa [rowU_len] using hv13)
      · simp [e10,hv10.isSl,hv10.len,nb,e9,u1,e12,e11,hA,hil2,g10',hB,e0,hC]
        intro n1 b1 f1
        simp [make_of f1 b1]
        intro n2 b2 f2
        rw [← hav] at f2
        obtain ⟨v',K3,b',q1,o2,q3⟩:=o.push 2 rfl (v:=u) (by simp only [List.length_map,hti]; exact hu) (x:=encB (accL kind k)) (bytes:=1) rfl (by simp; omega) (by simp; omega) f1 b1 f2 b2
        rw [hav] at q1
        obtain ⟨K4,q2,o3⟩:=o2.put 4 rfl (j:=2) (u:=v') (by simp) q3.one (rt:=none) rfl
        simp [q1,q2,e9]
        have u2:=rd_ptr (o3.at 4 (b:=n9) rfl) (rt:=none) (j:=3) (c:=w) rfl rfl
        have h17:=hv13.one
        simp [u2,e13,h17,cells_one h17]
        intro n3 b3' f3
        simp [make_of f3 b3']
        intro n4 b4 f4
        obtain ⟨w',K5,c',p1,o4,p3⟩:=o3.push 1 rfl (v:=w) (by rw [hvs]; exact hw') (x:=v13) (bytes:=24) h17 (by omega) (by omega) f3 b3' f4 b4
        obtain ⟨K6,p2,o5⟩:=o4.put 4 rfl (j:=3) (u:=w') (by simp) p3.one (rt:=none) rfl
        simp [p1,p2,e9,e12,wi,hiN]
        rw [hI]
        refine ⟨by simp,v10,v',w',b10,some b',some c',vs++[v13],fr++[(b13,.arr 2 ((rowU KS nx k (wd t)).map encN))],by simp [e10],by simp [e11,hls,hnext],hin,?_,by rw [hnext,← hls]; exact hv10,?_,?_,by simp [hvs],?_⟩
        · refine Own.last (F:=[(some c',.arr 36 (vs++[v13])),(some b',.arr 4 (((KS.take (i + 1)).map (accL kind)).map encB)),(b10,.arr 2 ((metL (succs (wd t) nx) c0 (i + 1)).map fun k => encI (mvI k))),
            (some n9,.arr 25 [encN t,.int .i64 0,v',w']),(some n6,.arr 25 [.int .i64 0,.int .i64 0,.nils,.nils])]) ?_
          rw [hta,hnext,← hls]
          simpa using o5
        · simp only [List.length_map,hti] at q3
          exact q3
        · simpa [hvs] using p3
        · rw [htr]
          exact hrows.snoc (by simpa [rowU_len] using hv13)
  · have hie : i = (metL (succs (wd t) nx) c0 i).length:=by omega
    have hdi : Done (wd t) nx c0 i:=by unfold Done DoneL; omega
    have hKi : metL (succs (wd t) nx) c0 i = KS:=by
      rw [hKS]
      exact DoneL.same hdi hdone
    rw [hKi] at hie o
    have htk : KS.take i = KS:=by rw [hie,List.take_length]
    rw [htk] at o hrows
    have r1:=rd_all (o.at 3 (b:=n9) rfl) (n:=4) (rt:=none) rfl rfl
    obtain ⟨K9,q9,o9⟩:=o.putAll 4 (b:=n6) (n:=4) (ds:=[encN t,.int .i64 0,u,w]) rfl rfl rfl (by simp [hu.one,hw'.one]) (rt:=none) rfl
    have r9:=rd_all (o9.at 4 (b:=n6) rfl) (n:=4) (rt:=none) rfl rfl
    have hlt' : ¬ i < (metL (succs (wd t) nx) c0 i).length:=hlt
    simp [e12,e10,hv10.isSl,hv10.len,hlt',e9,r1,e6,q9,r9]
    rw [hR]
    refine ⟨o9.keeps,_,rfl,u,w,bo,wo,vs,fr,rfl,?_,by simpa [autOf,← hie] using hu,by rw [hvs]; exact hw',by simpa [autOf,rowU] using hrows⟩
    have o10 : Own base H K9 ((wo,.arr 36 vs)::(bo,.arr 4 ((KS.map (accL kind)).map encB))::fr):=o9.sub (.cons_cons _ (.cons_cons _ (.cons _ (.cons _ (.cons _ (List.Sublist.refl _))))))
    exact o10.perm (List.Perm.swap _ _ _)
def plU2 (t n : Nat) : List Pl:=none::((List.range n).flatMap fun q => (List.range (2 ^ t)).map fun m => some (q,m))
theorem plU2_len (t n : Nat) : (plU2 t n).length = 2 ^ t * n + 1:=by
  have : ∀ n,((List.range n).flatMap fun q => (List.range (2 ^ t)).map fun m => (some (q,m) : Pl)).length = 2 ^ t * n:=by
    intro n
    induction n with
    | zero => rfl
    | succ n ih => rw [List.range_succ (n:=n),List.flatMap_append,List.length_append,ih]; simp [Nat.mul_succ]
  simp only [plU2,List.length_cons,this]
theorem mem_plU2 {t n q m : Nat} : some (q,m)∈plU2 t n↔q < n∧m < 2 ^ t:=by
  simp [plU2]
theorem plU2_closed {t : Nat} {X : Aut} (h : X.Ok (wd t)) {s : Nat} (hs : s < X.acc.length) : Closed (wd t) (plNx t X) (some (s,0)) (plU2 t X.acc.length):=by
  refine ⟨mem_plU2.2 ⟨hs,Nat.two_pow_pos t⟩,fun k hk c hc => ?_⟩
  cases k with
  | none => exact List.mem_cons_self
  | some p =>
    obtain ⟨q,m⟩:=p
    obtain ⟨h1,h2⟩:=mem_plU2.1 hk
    rw [plNx_some]
    split
    · exact mem_plU2.2 ⟨h.to h1 hc,padsN_lt t c⟩
    · exact List.mem_cons_self
theorem TA_len2 {t : Nat} {X : Aut} (h : X.Ok (wd t)) {s : Nat} (hs : s < X.acc.length) : (TA t (X.lang s)).acc.length≤2 ^ t * X.acc.length + 1:=by
  obtain ⟨h1,h2,h3⟩:=autOf_met (a:=plAcc X) (plU2_closed h hs)
  exact Nat.le_trans (TA_small h1 h1.pos fun cs hc => (h3 cs hc).trans (pl_lang t X cs s 0)).2 (Nat.le_trans h2 (Nat.le_of_eq (plU2_len _ _)))
theorem TA_idem {t : Nat} (ht : t≤3) {X : Aut} (h : X.Ok (wd t)) {s : Nat} (hs : s < X.acc.length) : TA t ((TA t (X.lang s)).lang 0) = TA t (X.lang s):=TA_congr fun cs hc hr => by
  rw [(TA_spec ht h hs).1.lang hc]
  simp [rl,hr]
theorem joinN_TA {t : Nat} (ht : t≤3) {op : Bool→Bool→Bool} {X : Aut} (h : X.Ok (wd t)) {s : Nat} (hs : s < X.acc.length) (M : List Nat→Bool) : joinN t op ((TA t (X.lang s)).lang 0) M = joinN t op (X.lang s) M:=by
  have e : TA t (fun cs => op ((TA t (X.lang s)).lang 0 cs) (M cs)) = TA t fun cs => op (X.lang s cs) (M cs):=TA_congr fun cs hc hr => by
    rw [(TA_spec ht h hs).1.lang hc]
    simp [rl,hr]
  unfold joinN
  rw [TA_idem ht h hs,e]
theorem linN_book {kind c0 : Int} {terms U : List Int} (h3 : terms.length≤3) (hU : Closed (wd terms.length) (nxL kind (sumsF terms)) c0 U) (hU2 : 2 ^ terms.length * U.length + 1≤150) :
    linN kind c0 terms U = joinN terms.length (fun a b => a && b) ((linX kind c0 terms U).lang 0) ((TA terms.length (LD (List.range terms.length))).lang 0):=by
  obtain ⟨hX,hl,-⟩:=linX_ok hU
  have h1:=TA_len2 hX hX.pos
  have h2 : 2 ^ terms.length * (linX kind c0 terms U).acc.length≤2 ^ terms.length * U.length:=Nat.mul_le_mul_left _ hl
  unfold linN told
  rw [if_neg (by omega)]
  exact joinN_TA h3 hX hX.pos _
theorem s_LinearRelation (kind : Int) (hkd : kind = 1∨kind = 2) (terms : List Int) (hT : Terms terms) (h0 : 1≤terms.length) (c0 : Int) (hc : -1000≤c0∧c0≤1000) (U : List Int) (hU : Closed (wd terms.length) (nxL kind (sumsF terms)) c0 U) (hU2 : 2 ^ terms.length * U.length + 1≤150)
    (hUb : ∀ s∈U,-1100000000000≤s∧s≤1100000000000) (v : BV) (H : BH) (hv : Rd H 2 v (terms.map encI)) :
    FnDoes (gam base) 18 [encI kind,v,encI c0] H fun r K => RelR base H terms.length (linN kind c0 terms U) r K:=by
  have hl3:=hT.1
  have hp2 : 1≤2 ^ terms.length:=Nat.one_le_two_pow
  have hUl : U.length≤150:=by
    have : 1 * U.length≤2 ^ terms.length * U.length:=Nat.mul_le_mul_right _ hp2
    omega
  rw [linN_book hl3 hU hU2]
  obtain ⟨R,hR⟩ : ∃ R : BV→BH→Prop,R = fun r K => RelR base H terms.length (joinN terms.length (fun a b => a && b) ((linX kind c0 terms U).lang 0) ((TA terms.length (LD (List.range terms.length))).lang 0)) r K:=⟨_,rfl⟩
  rw [← hR]
  refine FnDoes.of (fn:=ir18) rfl ?_
  obtain ⟨hX,hXl,-⟩:=linX_ok hU
  obtain ⟨X,hXe⟩ : ∃ X,X = linX kind c0 terms U:=⟨_,rfl⟩
  have hraw:=s_raw (base:=base) kind hkd terms hT c0 (by unfold oddI; omega) U hU hUl hUb v
  rw [← hXe] at hR hX hXl hraw
  obtain ⟨t,ht⟩ : ∃ t,t = terms.length:=⟨_,rfl⟩
  have hvl:=hv.lenM
  rw [← ht] at hR hX hraw hvl
  simp [ir18]
  intro n6 b6 f6
  have o1:=Own.start (base:=base) (H:=H) |>.new f6 b6 (s:=.arr 25 [.int .i64 0,.int .i64 0,.nils,.nils])
  have hk : ((kind != 1) = true∧(kind != 2) = false)∨(kind != 1) = false:=by
    rcases hkd with rfl | rfl
    · exact .inr rfl
    · exact .inl ⟨rfl,rfl⟩
  have hin1 : inB (t : Int) 1 3 = true:=by unfold inB; simp; omega
  have hin2 : inB c0 (-1000) 1000 = true:=by unfold inB; simp; omega
  have hs1:=s_in (base:=base) (t : Int) 1 3 (H.set n6 (.arr 25 [.int .i64 0,.int .i64 0,.nils,.nils]))
  have hs2:=s_in (base:=base) c0 (-1000) 1000 (H.set n6 (.arr 25 [.int .i64 0,.int .i64 0,.nils,.nils]))
  rw [hin1] at hs1
  rw [hin2] at hs2
  rcases hk with ⟨hk1,hk2⟩ | hk1
  · simp [make_of f6 b6,hk1,hk2,hv.isSl,hvl]
    refine callP hs1 ?_
    simp
    refine callP hs2 ?_
    simp
    obtain ⟨H1,hH1⟩ : ∃ H1,H1 = H.set n6 (.arr 25 [.int .i64 0,.int .i64 0,.nils,.nils]):=⟨_,rfl⟩
    rw [← hH1] at o1
    rw [← hH1]
    obtain ⟨I,hI⟩ : ∃ I : Nat→Env→BH→Prop,I = (fun i e K => e 8 = encN i∧K = H1):=⟨_,rfl⟩
    refine wpC_countK t [(0,encI kind),(1,v),(2,encI c0),(6,.ptr n6 0)] I (i0:=0) ?_ ?_ ?_ (Nat.zero_le _) ?_
    · rfl
    · simp
    · rw [hI]
      exact ⟨by simp,rfl⟩
    rintro i e K hi ⟨e0,e1,e2,e6,-⟩ hh
    rw [hI] at hh
    obtain ⟨e8,rfl⟩:=hh
    simp only [] at e0 e1 e2 e6
    have wi:=wS (n:=i) (by omega)
    by_cases hlt : i < t
    · have gi:=(hv.keeps o1.keeps).at (i:=i) (by omega) (rt:=none) rfl
      have hti : i < terms.length:=by omega
      have gi' : K.rd none none (v.sat i 1) = some (encI terms[i]):=by simpa using gi
      have hg:=hT.2 _ (List.getElem_mem hti)
      have hin3 : inB terms[i] (-20) 20 = true:=by unfold inB; simp; omega
      have hs3:=s_in (base:=base) terms[i] (-20) 20 K
      rw [hin3] at hs3
      simp [e1,e8,hv.isSl,hvl,hlt,gi']
      refine callP hs3 ?_
      simp [e8,wi,hlt]
      rw [hI]
      exact ⟨by simp,rfl⟩
    · simp [e0,e1,e2,e8,hv.isSl,hvl,hlt]
      refine (hraw K (hv.keeps o1.keeps)).step fun r K1 k1 hr => ?_
      obtain ⟨m,rfl,hm⟩:=hr
      have hm:=hm.rd
      obtain ⟨u,w,rfl,hu,hw⟩:=id hm
      have u1:=hu.one
      have w1:=one_of_isSl hw.isSl
      simp [u1,w1]
      intro n9 b9 f9
      obtain ⟨K2,g2,o2⟩:=(Own.start (base:=base) (H:=K1) |>.new f9 b9 (s:=.arr 25 [.int .i64 0,.int .i64 0,.nils,.nils])).putAll 0 (b:=n9) rfl (n:=4) (ds:=[encN t,encN 0,u,w]) rfl rfl (by simp [u1,w1]) (rt:=none) rfl
      have r9:=rd_all (o2.at 0 (b:=n9) rfl) (n:=4) (rt:=none) rfl rfl
      simp [make_of f9 b9,g2,r9]
      have hm2:=hm.keeps o2.keeps
      refine (s_told (base:=base) t 0 X _ K2 hm2 (by omega)).step fun r K3 k3 hr => ?_
      rw [if_neg (by omega)] at hr
      subst hr
      simp [u1,w1]
      intro n11 b11 f11
      obtain ⟨K4,g4,o4⟩:=(Own.start (base:=base) (H:=K3) |>.new f11 b11 (s:=.arr 25 [.int .i64 0,.int .i64 0,.nils,.nils])).putAll 0 (b:=n11) rfl (n:=4) (ds:=[encN t,encN 0,u,w]) rfl rfl (by simp [u1,w1]) (rt:=none) rfl
      have hm4:=hm2.keeps (k3.trans o4.keeps)
      simp [make_of f11 b11,g4]
      refine (s_domain (base:=base) K4).step fun r K5 k5 hr => ?_
      rw [LD_dom] at hr
      have hd:=hr.rd
      obtain ⟨du,dw,rfl,hdu,hdw⟩:=id hd
      have du1:=hdu.one
      have dw1:=one_of_isSl hdw.isSl
      simp [du1,dw1]
      intro n13 b13 f13
      obtain ⟨K6,g6,o6⟩:=(Own.start (base:=base) (H:=K5) |>.new f13 b13 (s:=.arr 28 [.int .i64 0,.int .i64 0,.nils,.nils,.nils])).putAll 0 (b:=n13) rfl (n:=5) (ds:=[encN 1,encN 0,du,dw,.nils]) rfl rfl (by simp [du1,dw1]) (rt:=none) rfl
      simp [make_of f13 b13,g6,e1,hv.isSl,hvl]
      refine (s_frame (base:=base) t n13 (by omega) (by omega) du dw .nils K6 (o6.at 0 (b:=n13) rfl) (hd.keeps o6.keeps)).step fun r K7 k7 hr => ?_
      obtain ⟨mf,rfl,hmf⟩:=hr
      obtain ⟨fu,fw,rfl,hfu,hfw⟩:=id hmf
      have fu1:=hfu.one
      have fw1:=one_of_isSl hfw.isSl
      simp [fu1,fw1]
      intro n14 b14 f14
      obtain ⟨K8,g8,o8⟩:=(Own.start (base:=base) (H:=K7) |>.new f14 b14 (s:=.arr 25 [.int .i64 0,.int .i64 0,.nils,.nils])).putAll 0 (b:=n14) rfl (n:=4) (ds:=[encN t,encN 0,fu,fw]) rfl rfl (by simp [fu1,fw1]) (rt:=none) rfl
      have k8:=((k5.trans o6.keeps).trans k7).trans o8.keeps
      have p11:=rd_keeps k8 (rd_all (o4.at 0 (b:=n11) rfl) (n:=4) (rt:=none) rfl rfl)
      have p14:=rd_all (o8.at 0 (b:=n14) rfl) (n:=4) (rt:=none) rfl rfl
      simp [make_of f14 b14,g8,p11,p14]
      obtain ⟨hD1,hD2⟩:=LD_small (t:=t) (by omega) (S:=List.range t) (fun k hk => List.mem_range.1 hk)
      refine (s_both (base:=base) t 0 0 (by omega) (by omega) _ _ _ _ K8 (hm4.keeps k8) (hmf.keeps o8.keeps) hX hD1.ok hX.pos hD1.ok.pos (by omega) (by omega)).step fun r K9 k9 hr => ?_
      obtain ⟨m,K10,e8',g10,r10,kk,hrel⟩:=rel_end (base:=base) (o1.call (k1.trans (o2.keeps.trans (k3.trans (o4.keeps.trans k8))))) (i:=0) (n2:=n6) rfl rfl k9 hr
      subst e8'
      simp [e6,g10,r10]
      rw [hR]
      exact ⟨kk,hrel⟩
  · simp [make_of f6 b6,hk1,hv.isSl,hvl]
    refine callP hs1 ?_
    simp
    refine callP hs2 ?_
    simp
    obtain ⟨H1,hH1⟩ : ∃ H1,H1 = H.set n6 (.arr 25 [.int .i64 0,.int .i64 0,.nils,.nils]):=⟨_,rfl⟩
    rw [← hH1] at o1
    rw [← hH1]
    obtain ⟨I,hI⟩ : ∃ I : Nat→Env→BH→Prop,I = (fun i e K => e 8 = encN i∧K = H1):=⟨_,rfl⟩
    refine wpC_countK t [(0,encI kind),(1,v),(2,encI c0),(6,.ptr n6 0)] I (i0:=0) ?_ ?_ ?_ (Nat.zero_le _) ?_
    · rfl
    · simp
    · rw [hI]
      exact ⟨by simp,rfl⟩
    rintro i e K hi ⟨e0,e1,e2,e6,-⟩ hh
    rw [hI] at hh
    obtain ⟨e8,rfl⟩:=hh
    simp only [] at e0 e1 e2 e6
    have wi:=wS (n:=i) (by omega)
    by_cases hlt : i < t
    · have gi:=(hv.keeps o1.keeps).at (i:=i) (by omega) (rt:=none) rfl
      have hti : i < terms.length:=by omega
      have gi' : K.rd none none (v.sat i 1) = some (encI terms[i]):=by simpa using gi
      have hg:=hT.2 _ (List.getElem_mem hti)
      have hin3 : inB terms[i] (-20) 20 = true:=by unfold inB; simp; omega
      have hs3:=s_in (base:=base) terms[i] (-20) 20 K
      rw [hin3] at hs3
      simp [e1,e8,hv.isSl,hvl,hlt,gi']
      refine callP hs3 ?_
      simp [e8,wi,hlt]
      rw [hI]
      exact ⟨by simp,rfl⟩
    · simp [e0,e1,e2,e8,hv.isSl,hvl,hlt]
      refine (hraw K (hv.keeps o1.keeps)).step fun r K1 k1 hr => ?_
      obtain ⟨m,rfl,hm⟩:=hr
      have hm:=hm.rd
      obtain ⟨u,w,rfl,hu,hw⟩:=id hm
      have u1:=hu.one
      have w1:=one_of_isSl hw.isSl
      simp [u1,w1]
      intro n9 b9 f9
      obtain ⟨K2,g2,o2⟩:=(Own.start (base:=base) (H:=K1) |>.new f9 b9 (s:=.arr 25 [.int .i64 0,.int .i64 0,.nils,.nils])).putAll 0 (b:=n9) rfl (n:=4) (ds:=[encN t,encN 0,u,w]) rfl rfl (by simp [u1,w1]) (rt:=none) rfl
      have r9:=rd_all (o2.at 0 (b:=n9) rfl) (n:=4) (rt:=none) rfl rfl
      simp [make_of f9 b9,g2,r9]
      have hm2:=hm.keeps o2.keeps
      refine (s_told (base:=base) t 0 X _ K2 hm2 (by omega)).step fun r K3 k3 hr => ?_
      rw [if_neg (by omega)] at hr
      subst hr
      simp [u1,w1]
      intro n11 b11 f11
      obtain ⟨K4,g4,o4⟩:=(Own.start (base:=base) (H:=K3) |>.new f11 b11 (s:=.arr 25 [.int .i64 0,.int .i64 0,.nils,.nils])).putAll 0 (b:=n11) rfl (n:=4) (ds:=[encN t,encN 0,u,w]) rfl rfl (by simp [u1,w1]) (rt:=none) rfl
      have hm4:=hm2.keeps (k3.trans o4.keeps)
      simp [make_of f11 b11,g4]
      refine (s_domain (base:=base) K4).step fun r K5 k5 hr => ?_
      rw [LD_dom] at hr
      have hd:=hr.rd
      obtain ⟨du,dw,rfl,hdu,hdw⟩:=id hd
      have du1:=hdu.one
      have dw1:=one_of_isSl hdw.isSl
      simp [du1,dw1]
      intro n13 b13 f13
      obtain ⟨K6,g6,o6⟩:=(Own.start (base:=base) (H:=K5) |>.new f13 b13 (s:=.arr 28 [.int .i64 0,.int .i64 0,.nils,.nils,.nils])).putAll 0 (b:=n13) rfl (n:=5) (ds:=[encN 1,encN 0,du,dw,.nils]) rfl rfl (by simp [du1,dw1]) (rt:=none) rfl
      simp [make_of f13 b13,g6,e1,hv.isSl,hvl]
      refine (s_frame (base:=base) t n13 (by omega) (by omega) du dw .nils K6 (o6.at 0 (b:=n13) rfl) (hd.keeps o6.keeps)).step fun r K7 k7 hr => ?_
      obtain ⟨mf,rfl,hmf⟩:=hr
      obtain ⟨fu,fw,rfl,hfu,hfw⟩:=id hmf
      have fu1:=hfu.one
      have fw1:=one_of_isSl hfw.isSl
      simp [fu1,fw1]
      intro n14 b14 f14
      obtain ⟨K8,g8,o8⟩:=(Own.start (base:=base) (H:=K7) |>.new f14 b14 (s:=.arr 25 [.int .i64 0,.int .i64 0,.nils,.nils])).putAll 0 (b:=n14) rfl (n:=4) (ds:=[encN t,encN 0,fu,fw]) rfl rfl (by simp [fu1,fw1]) (rt:=none) rfl
      have k8:=((k5.trans o6.keeps).trans k7).trans o8.keeps
      have p11:=rd_keeps k8 (rd_all (o4.at 0 (b:=n11) rfl) (n:=4) (rt:=none) rfl rfl)
      have p14:=rd_all (o8.at 0 (b:=n14) rfl) (n:=4) (rt:=none) rfl rfl
      simp [make_of f14 b14,g8,p11,p14]
      obtain ⟨hD1,hD2⟩:=LD_small (t:=t) (by omega) (S:=List.range t) (fun k hk => List.mem_range.1 hk)
      refine (s_both (base:=base) t 0 0 (by omega) (by omega) _ _ _ _ K8 (hm4.keeps k8) (hmf.keeps o8.keeps) hX hD1.ok hX.pos hD1.ok.pos (by omega) (by omega)).step fun r K9 k9 hr => ?_
      obtain ⟨m,K10,e8',g10,r10,kk,hrel⟩:=rel_end (base:=base) (o1.call (k1.trans (o2.keeps.trans (k3.trans (o4.keeps.trans k8))))) (i:=0) (n2:=n6) rfl rfl k9 hr
      subst e8'
      simp [e6,g10,r10]
      rw [hR]
      exact ⟨kk,hrel⟩
def withC (t tape c d : Nat) : Nat:=colD ((digs t c).insertIdx tape d)
noncomputable def endQ (A : Aut) (t tape q : Nat) : Bool:=by
  classical
  exact decide (∃ ds : List Nat,(∀ d∈ds,d < 2)∧A.lang q (ds.map (withC t tape (wd t))) = true)
theorem endQ_iff {A : Aut} {t tape q : Nat} : endQ A t tape q = true↔∃ ds : List Nat,(∀ d∈ds,d < 2)∧A.lang q (ds.map (withC t tape (wd t))) = true:=by
  classical
  unfold endQ
  rw [decide_eq_true_iff]
theorem endQ_acc {A : Aut} {t tape q : Nat} (h : A.acc.getD q false = true) : endQ A t tape q = true:=endQ_iff.2 ⟨[],by simp,h⟩
theorem endQ_step {A : Aut} {t tape q d : Nat} (hd : d < 2) (h : endQ A t tape (A.to q (withC t tape (wd t) d)) = true) : endQ A t tape q = true:=by
  obtain ⟨ds,h1,h2⟩:=endQ_iff.1 h
  refine endQ_iff.2 ⟨d::ds,fun x hx => ?_,h2⟩
  rcases List.mem_cons.1 hx with rfl | hx
  · exact hd
  · exact h1 x hx
theorem endQ_closed {A : Aut} {t tape : Nat} {P : Nat→Prop} (hacc : ∀ q,P q→A.acc.getD q false = false) (hst : ∀ q,P q→∀ d,d < 2→P (A.to q (withC t tape (wd t) d))) {q : Nat} (hq : P q) : endQ A t tape q = false:=by
  cases he : endQ A t tape q with
  | false => rfl
  | true =>
    obtain ⟨ds,h1,h2⟩:=endQ_iff.1 he
    have key : ∀ (ds : List Nat) (q : Nat),P q→(∀ d∈ds,d < 2)→A.lang q (ds.map (withC t tape (wd t))) = false:=by
      intro ds
      induction ds with
      | nil => intro q hq _; exact hacc q hq
      | cons d ds ih => intro q hq hd; exact ih _ (hst q hq d (hd d List.mem_cons_self)) fun x hx => hd x (List.mem_cons_of_mem _ hx)
    rw [key ds q hq h1] at h2
    cases h2
structure EndI (A : Aut) (t tape : Nat) (E : List Bool) : Prop where
  len : E.length = A.acc.length
  acc : ∀ q,A.acc.getD q false = true→E.getD q false = true
  ok : ∀ q,E.getD q false = true→endQ A t tape q = true
theorem EndI.start {A : Aut} {t tape : Nat} : EndI A t tape A.acc:=⟨rfl,fun _ h => h,fun _ h => endQ_acc h⟩
theorem EndI.set {A : Aut} {t tape : Nat} {E : List Bool} (h : EndI A t tape E) {q d : Nat} (hq : q < E.length) (hd : d < 2) (he : E.getD (A.to q (withC t tape (wd t) d)) false = true) : EndI A t tape (E.set q true):=by
  refine ⟨by rw [List.length_set]; exact h.len,fun p hp => ?_,fun p hp => ?_⟩
  · rw [List.getD_eq_getElem?_getD,List.getElem?_set]
    split
    · rfl
    · rw [← List.getD_eq_getElem?_getD]
      exact h.acc p hp
  · rw [List.getD_eq_getElem?_getD,List.getElem?_set] at hp
    split at hp
    · rename_i e
      subst e
      exact endQ_step hd (h.ok _ he)
    · rw [← List.getD_eq_getElem?_getD] at hp
      exact h.ok p hp
theorem EndI.done {A : Aut} {t tape : Nat} {E : List Bool} (h : EndI A t tape E) (hok : ∀ q,q < A.acc.length→∀ d,d < 2→A.to q (withC t tape (wd t) d) < A.acc.length)
    (hcl : ∀ q,q < E.length→E.getD q false = false→∀ d,d < 2→E.getD (A.to q (withC t tape (wd t) d)) false = false) {q : Nat} (hq : q < A.acc.length) : E.getD q false = endQ A t tape q:=by
  cases he : E.getD q false with
  | true => exact (h.ok q he).symm
  | false =>
    refine (endQ_closed (P:=fun q => q < A.acc.length∧E.getD q false = false) (fun p hp => ?_) (fun p hp d hd => ?_) ⟨hq,he⟩).symm
    · cases ha : A.acc.getD p false with
      | false => rfl
      | true => rw [h.acc p ha] at hp; exact absurd hp.2 (by simp)
    · exact ⟨hok p hp.1 d hd,hcl p (by rw [h.len]; exact hp.1) hp.2 d hd⟩
structure EndS (A : Aut) (t tape : Nat) (ks ls : List Nat) : Prop where
  nodup : ls.Nodup
  lt : ∀ q∈ls,q < A.acc.length
  sub : ∀ q∈ks,q∈ls
  back : ∀ q∈ls,endQ A t tape q = true→∃ k∈ks,endQ A t tape k = true
theorem EndS.len {A : Aut} {t tape : Nat} {ks ls : List Nat} (h : EndS A t tape ks ls) : ls.length≤A.acc.length:=by
  have:=nodup_le h.nodup (ys:=List.range A.acc.length) fun q hq => List.mem_range.2 (h.lt q hq)
  simpa using this
theorem EndS.push {A : Aut} {t tape : Nat} {ks ls : List Nat} (h : EndS A t tape ks ls) {p d : Nat} (hp : p∈ls) (hd : d < 2) (hlt : A.to p (withC t tape (wd t) d) < A.acc.length) (hn : A.to p (withC t tape (wd t) d) ∉ ls) : EndS A t tape ks (ls++[A.to p (withC t tape (wd t) d)]):=by
  refine ⟨?_,fun q hq => ?_,fun q hq => List.mem_append_left _ (h.sub q hq),fun q hq he => ?_⟩
  · rw [List.nodup_append]
    refine ⟨h.nodup,by simp,fun a ha b hb => ?_⟩
    simp at hb
    subst hb
    rintro rfl
    exact hn ha
  · rcases List.mem_append.1 hq with hq | hq
    · exact h.lt q hq
    · simp at hq
      subst hq
      exact hlt
  · rcases List.mem_append.1 hq with hq | hq
    · exact h.back q hq he
    · simp at hq
      subst hq
      exact h.back p hp (endQ_step hd he)
def rangeU (lo : Int) (n : Nat) : List Int:=oddI::(List.range n).map fun (i : Nat) => lo + (i : Int)
theorem mem_rangeU {lo : Int} {n : Nat} {s : Int} : s∈rangeU lo n↔s = oddI∨(lo≤s∧s < lo + n):=by
  unfold rangeU
  rw [List.mem_cons,List.mem_map]
  constructor
  · rintro (h | ⟨i,hi,rfl⟩)
    · exact .inl h
    · have:=List.mem_range.1 hi
      exact .inr ⟨by omega,by omega⟩
  · rintro (h | ⟨h1,h2⟩)
    · exact .inl h
    · exact .inr ⟨(s - lo).toNat,List.mem_range.2 (by omega),by omega⟩
theorem rangeU_len (lo : Int) (n : Nat) : (rangeU lo n).length = n + 1:=by simp [rangeU]
theorem range_closed {w : Nat} {kind c0 lo : Int} {n : Nat} {sums : Nat→Int} (h0 : lo≤c0∧c0 < lo + n) (hs : ∀ c,c < w→∀ s,lo≤s→s < lo + n→lo≤(s - sums c) / 2∧(s - sums c) / 2 < lo + n) : Closed w (nxL kind sums) c0 (rangeU lo n):=by
  refine ⟨mem_rangeU.2 (.inr h0),fun s hsU c hc => ?_⟩
  unfold nxL
  split
  · exact mem_rangeU.2 (.inl rfl)
  · next hne =>
    split
    · exact mem_rangeU.2 (.inl rfl)
    · rcases mem_rangeU.1 hsU with h | ⟨h1,h2⟩
      · exact absurd h hne
      · exact mem_rangeU.2 (.inr (hs c hc s h1 h2))
theorem rangeU_big {lo : Int} {n : Nat} (h : -1000000≤lo∧lo + n≤1000000) : ∀ s∈rangeU lo n,-1100000000000≤s∧s≤1100000000000:=fun s hs => by
  rcases mem_rangeU.1 hs with rfl | h
  · exact ⟨by unfold oddI; omega,by unfold oddI; omega⟩
  · omega
theorem Has.put {e : Env} {t : Nat} {v : BV} {kp : List (Nat × BV)} (h : Has e kp) (ht : kp.all (fun p => !(p.1 == t)) = true) : Has (e.put t v) kp:=Has.frame (W:=[t]) (fun s hs => by
  have : s≠t:=fun he => hs (by simp [he])
  simp [Env.put,this]) (by
  rw [List.all_eq_true] at ht ⊢
  intro p hp
  have:=ht p hp
  simp only [List.contains_cons,List.contains_nil,Bool.or_false]
  exact this) h
theorem OwnRel.rows2 {H K : BH} {t s : Nat} {A : Aut} {m : BV} (h : OwnRel base H K t s A m) : ∃ Y,Own base H K Y∧∀ {H' K' : BH} {Z : List Sl},Own base H' K' (Z++Y)→OwnRel base H' K' t s A m:=by
  obtain ⟨u,w,bo,wo,vs,fr,e,o,hu,hw,hr⟩:=h
  exact ⟨_,o,fun {H' K' Z} o' => ⟨u,w,bo,wo,vs,fr,e,o'.sub (List.sublist_append_right _ _),hu,hw,hr⟩⟩
theorem OwnRel.cells {H K : BH} {t s : Nat} {A : Aut} {m : BV} (h : OwnRel base H K t s A m) : ∃ u x : BV,m = .agg [encN t,encN s,u,x]∧u.one = true∧x.one = true:=by
  obtain ⟨u,w,bo,wo,vs,fr,e,o,hu,hw,hr⟩:=h
  exact ⟨u,w,e,hu.one,hw.one⟩
theorem lay {K : BH} {n : Nat} {a b c d : BV} (f : K.row n = .fresh) (hb : base≤n) (p : ([a,b,c,d] : List BV).all BV.one = true) : ∃ K',(K.set n (.arr 25 [.int .i64 0,.int .i64 0,.nils,.nils])).wr base none 4 (.ptr n 0) (.agg [a,b,c,d]) = some K' ∧
    K.Keeps K'∧K'.rd none (some 4) (.ptr n 0) = some (.agg [a,b,c,d])∧K'.row n = .arr 25 [a,b,c,d]∧∀ {H : BH} {L : List Sl},Own base H K L→Own base H K' ((some n,.arr 25 [a,b,c,d])::L):=by
  obtain ⟨K',g,o⟩:=((Own.start (base:=base) (H:=K)).new f hb (s:=.arr 25 [.int .i64 0,.int .i64 0,.nils,.nils])).putAll 0 (b:=n) rfl (n:=4) (ds:=[a,b,c,d]) rfl rfl p (rt:=none) rfl
  refine ⟨K',g,o.keeps,rd_all (o.at 0 (b:=n) rfl) rfl rfl,o.at 0 (b:=n) rfl,fun {H L} oh => ?_⟩
  obtain ⟨K2,g2,o2⟩:=(oh.new f hb (s:=.arr 25 [.int .i64 0,.int .i64 0,.nils,.nils])).putAll 0 (b:=n) rfl (n:=4) (ds:=[a,b,c,d]) rfl rfl p (rt:=none) rfl
  have ek : K2 = K':=by rw [g] at g2; exact (Option.some.inj g2).symm
  subst ek
  exact o2
def clsW (v : Int) : Nat:=if v = oddI then 0 else if v = 0 then 1 else if 0 < v then 2 else 3
def kd2 (a fx fy : Nat) : Nat:=if a = 0 then 0 else if a = 1 then (if fx = 1∨fy = 1 then (if fx = 2∨fy = 2 then 0 else 3) else if fx = 2∨fy = 2 then 1 else 2)
  else if a = 2 then (if fx = 2 then 0 else if fy = 2 then 6 else if fy = 1 then 5 else 4) else (if fy = 2 then 0 else if fx = 2 then 6 else if fx = 1 then 5 else 4)
def kdW (a : Nat) : Ks→Nat
  | none => 0
  | some q => kd2 a (q.getD 0 0) (q.getD 1 0)
def hW (v : Int) (k : Ks) : Nat × Int:=(kdW (clsW v) k,if kdW (clsW v) k < 4 then 0 else v)
theorem linN_some {kind c0 : Int} {terms U : List Int} {W : Aut} {c : Nat} (h : linN kind c0 terms U = (some W,c)) : W = TA terms.length (fun cs => (TA terms.length ((linX kind c0 terms U).lang 0)).lang 0 cs && (TA terms.length (LD (List.range terms.length))).lang 0 cs):=by
  unfold linN at h
  obtain ⟨G,hG⟩ : ∃ G,G = told (TA terms.length ((linX kind c0 terms U).lang 0)):=⟨_,rfl⟩
  rw [← hG] at h
  obtain ⟨a,d⟩:=G
  cases a with
  | none => cases h
  | some X =>
    have hX : X = TA terms.length ((linX kind c0 terms U).lang 0):=by
      unfold told at hG
      split at hG
      · cases hG
      · cases hG; rfl
    subst hX
    have h : joinN terms.length (fun a b => a && b) ((TA terms.length ((linX kind c0 terms U).lang 0)).lang 0) ((TA terms.length (LD (List.range terms.length))).lang 0) = (some W,c):=h
    unfold joinN at h
    split at h
    · cases h
    · unfold told at h
      split at h
      · cases h
      · cases h; rfl
theorem rtape_pre : ∀ {u ds : List Nat},(∀ d∈u,d≠2)→rtape false (u++ds) = rtape false ds
  | [],_,_ => rfl
  | d::u,ds,h => by
    have hd:=h d List.mem_cons_self
    have ih:=rtape_pre (u:=u) (ds:=ds) fun x hx => h x (List.mem_cons_of_mem _ hx)
    simp only [List.cons_append,rtape]
    simpa [hd] using ih
theorem rtape_twos : ∀ {b : Bool} {ds : List Nat},(∀ d∈ds,d = 2)→rtape b ds = true
  | b,[],_ => rfl
  | b,d::ds,h => by
    have hd:=h d List.mem_cons_self
    have ih:=rtape_twos (b:=true) (ds:=ds) fun x hx => h x (List.mem_cons_of_mem _ hx)
    simp only [rtape]
    simp [hd,ih]
variable {t at_ : Nat} {W : Aut}
end Go.Proofs.YtbnmhbmhafbmiaaGreatDoor.W
end

section
namespace Go.Proofs.YtbnmhbmhafbmiaaGreatDoor.W
set_option linter.unusedVariables false
set_option linter.unusedSimpArgs false
open Go.B
variable {base : Nat}
attribute [local simp] wpC_skip wpC_region wpC_seq wpC_true wpC_false wpC_block wpC_exit wpC_ret wpO_nil wpO_n wpO_tt wpO_ff wpO_tf wpO_ft wpO_u wpS_mov wpS_pick wpS_build wpS_load wpS_store wpS_nilck wpS_bin wpS_beq wpS_isnil wpS_eqs wpS_not wpS_neg wpS_conv wpS_lea wpS_fld wpS_idx wpS_idxs wpS_slice wpS_sslice wpS_mkfn wpS_mset wpS_look wpS_ext wpS_len wpS_new wpS_box wpS_mk wpS_mkmap wpS_mksl wpS_app wpS_fn wpS_call after_some pthen_n pthen_x pthen_r pin BExit.outOf puto_some puto_none put_eq put_ne Opd.ev argEnv op1_mov op1_pick op1_new op1_box op1_load op1_nilck op1_bin op1_beq op1_not op1_neg op1_conv op1_lea op1_fld op1_len0 op1_len1 op1_idx op1_ext op1_build op1_mk op1_stw op1_mksl op1_eqs pureBin isShift resOf resVals val_tmp val_cell oneOf one_int cells_int one_bool cells_bool one_str cells_str one_nilp cells_nilp one_ptr cells_ptr one_nils cells_nils one_sl cells_sl one_sle cells_sle one_nilm cells_nilm one_mp cells_mp one_nilf cells_nilf one_fn cells_fn one_nili cells_nili cells_agg isSl_sl slen_sl sat_sl make_of asm rtOk wpS_b2s op1_b2s wpS_imax op1_imax wpS_imin op1_imin wpS_i2s op1_i2s op1_isnil Option.map_some gam_base op1_app op1_idxs wpS_idxa op1_idxa op1_sslice bound_none bound_some nat_of op1_mkmap op1_mset op1_look op1_len2 op1_mkfn Go.B.fillB Has


def abAt (w : ByteArray) (i : Nat) : Bool:=match w[i]? with | some b => b.toNat == 97 || b.toNat == 98 | none => false
def pre (w : ByteArray) (n : Nat) : Bool:=(List.range n).all (abAt w)
theorem pre_at {w : ByteArray} {n i : Nat} (h : pre w n = true) (hi : i < n) : abAt w i = true:=by
  simp only [pre,List.all_eq_true] at h
  exact h i (by simpa using hi)
def tabAt : Nat→List BV
  | 0 => List.replicate 256 (.bool false)
  | 1 => (List.replicate 256 (.bool false)).set 97 (.bool true)
  | _ => ((List.replicate 256 (.bool false)).set 97 (.bool true)).set 98 (.bool true)
def tab : List BV:=tabAt 2
theorem tabAt_len (i : Nat) : (tabAt i).length = 256:=by
  match i with
  | 0 => exact List.length_replicate
  | 1 => exact (List.length_set ..).trans List.length_replicate
  | _ + 2 => exact (List.length_set ..).trans ((List.length_set ..).trans List.length_replicate)
theorem tab_len : tab.length = 256:=tabAt_len 2
theorem tab_one : tab.all BV.one = true:=by decide +kernel
theorem tab_get {b : Nat} (h : b < 256) : tab[b]? = some (.bool (b == 97 || b == 98)):=by
  simp only [tab,tabAt,List.getElem?_set,List.getElem?_replicate,List.length_set,List.length_replicate]
  by_cases h1 : b = 98
  · subst h1; rfl
  · by_cases h2 : b = 97
    · subst h2; rfl
    · have h1' : ¬ 98 = b:=fun e => h1 e.symm
      have h2' : ¬ 97 = b:=fun e => h2 e.symm
      rw [if_neg h1',if_neg h2',if_pos h]
      simp [h1,h2]
theorem rd_tab {H : BH} {p b : Nat} (hr : H.row p = .arr 143 tab) (h : b < 256) : H.rd none none (.ptr p b) = some (.bool (b == 97 || b == 98)):=by
  have hd : (tab.drop b).take 1 = [.bool (b == 97 || b == 98)]:=by
    rw [List.take_one,List.head?_drop,tab_get h]; rfl
  simp only [BH.rd,hr,rtOk,Option.getD_none,tab_len,hd,asm,List.head?_cons]
  rw [if_pos ⟨trivial,by omega⟩]
theorem rd_tabs {H : BH} {p : Nat} {rt : Option Nat} (hr : H.row p = .arr 143 tab) (h : rtOk rt 143 = true) : H.rd rt (some 256) (.ptr p 0) = some (.agg tab):=by
  have hd : (tab.drop 0).take 256 = tab:=List.take_of_length_le (by rw [List.drop_zero,tab_len]; omega)
  simp only [BH.rd,hr,h,Option.getD_some,tab_len,hd,asm]
  rw [if_pos ⟨trivial,by omega⟩]

theorem x_contains (p : Nat) (b : UInt8) (H : BH) (hr : H.row p = .arr 143 tab) : Runs (gam base) 206 [.ptr p 0,.int .u8 b.toNat] H (.bool (b.toNat == 97 || b.toNat == 98)) H:=by
  refine runs_of (fn:=ir206) rfl ?_
  have hb : b.toNat < 256:=b.toNat_lt
  have hb' : (b.toNat : Int) < 256:=by omega
  simp [ir206,hb,hb',rd_tab hr hb]

set_option maxRecDepth 100000 in
theorem x_mkset (H : BH) : ∃ H',Runs (gam base) 159 [.str ⟨#[97,98]⟩] H (.tup [.agg tab,.bool true]) H'∧H.Keeps H':=by
  obtain ⟨v,H',h1,h2,h3⟩ : ∃ v H',Runs (gam base) 159 [.str ⟨#[97,98]⟩] H v H'∧v = .tup [.agg tab,.bool true]∧H.Keeps H':=by
    refine call_of_wp (fn:=ir159) (R:=fun v H' => v = .tup [.agg tab,.bool true]∧H.Keeps H') rfl ?_
    have sz : (⟨#[97,98]⟩ : ByteArray).size = 2:=rfl
    obtain ⟨x0,g0,u0⟩ : ∃ x : UInt8,(⟨#[97,98]⟩ : ByteArray)[0]? = some x∧x.toNat = 97:=⟨97,rfl,rfl⟩
    obtain ⟨x1,g1,u1⟩ : ∃ x : UInt8,(⟨#[97,98]⟩ : ByteArray)[1]? = some x∧x.toNat = 98:=⟨98,rfl,rfl⟩
    generalize (⟨#[97,98]⟩ : ByteArray) = w at sz g0 g1
    have u0 : ∀ h,(w[0]'h).toNat = 97:=fun h => by rw [getElem?_pos w 0 h] at g0; cases g0; exact u0
    have u1 : ∀ h,(w[1]'h).toNat = 98:=fun h => by rw [getElem?_pos w 1 h] at g1; cases g1; exact u1
    simp only [ir159,wpC_seq,wpC_region,wpO_n,wpS_new]
    intro nb hb hf
    have hb : base≤nb:=hb
    simp only [op1_new,gam_base,make_of hf hb,Option.map_some,after_some]
    have key : ∀ i,H.Keeps (H.set nb (.arr 143 (tabAt i))):=fun i => BH.keeps_set _ hf
    simp
    refine wpC_count 2 (fun i e K => e 0 = .str w∧e 2 = .ptr nb 0∧e 4 = .int .i64 i∧K = H.set nb (.arr 143 (tabAt i))) (i0:=0) ?_ (Nat.zero_le _) ?_
    · exact ⟨rfl,by simp,rfl,rfl⟩
    · rintro i e K hi ⟨e0,e2,e4,rfl⟩
      have hcase : i = 0∨i = 1∨i = 2:=by omega
      rcases hcase with rfl | rfl | rfl
      · have hwr : (H.set nb (.arr 143 (tabAt 0))).wr base none 1 (.ptr nb 97) (.bool true) = some (H.set nb (.arr 143 (tabAt 1))):=by
          rw [wr_row (rt:=none) (n:=1) (v:=.bool true) (BH.row_set_eq _ _ _) rfl hb rfl (by rw [tabAt_len]; omega) rfl]
          refine congrArg some (BH.ext fun c => ?_)
          simp only [BH.row_set]; split <;> rfl
        have w1 : IntKind.i64.wrap 1 = 1:=rfl
        simp [e0,e2,e4,sz,u0,hwr,w1]
      · have hwr : (H.set nb (.arr 143 (tabAt 1))).wr base none 1 (.ptr nb 98) (.bool true) = some (H.set nb (.arr 143 (tabAt 2))):=by
          rw [wr_row (rt:=none) (n:=1) (v:=.bool true) (BH.row_set_eq _ _ _) rfl hb rfl (by rw [tabAt_len]; omega) rfl]
          refine congrArg some (BH.ext fun c => ?_)
          simp only [BH.row_set]; split <;> rfl
        have w1 : IntKind.i64.wrap 2 = 2:=rfl
        simp [e0,e2,e4,sz,u1,hwr,w1]
      · have hr : (H.set nb (.arr 143 (tabAt 2))).row nb = .arr 143 tab:=BH.row_set_eq _ _ _
        have hwr : (H.set nb (.arr 143 (tabAt 2))).wr base none 256 (.ptr nb 0) (.agg tab) = some (H.set nb (.arr 143 (tabAt 2))):=by
          rw [wr_row (rt:=none) (n:=256) (v:=.agg tab) hr rfl hb tab_len (by rw [tab_len]; omega) tab_one]
          refine congrArg some (BH.ext fun c => ?_)
          simp only [BH.row_set]; split <;> rfl
        have hrd:=rd_tabs (rt:=none) hr rfl
        simp [e0,e2,e4,sz,hrd,hwr]
        exact key 2
  subst h2
  exact ⟨H',h1,h3⟩

theorem ext_full (w : ByteArray) : w.extract 0 w.size = w:=by
  have hd : (w.extract 0 w.size).data = w.data:=by
    rw [ByteArray.data_extract]
    exact Array.extract_size
  cases w
  exact congrArg _ hd
theorem ext_get {w : ByteArray} {a b i : Nat} (hb : b≤w.size) (hi : a + i < b) : (w.extract a b)[i]? = w[a + i]?:=by
  have h1 : i < (w.extract a b).size:=by rw [ByteArray.size_extract]; omega
  have h2 : a + i < w.size:=by omega
  rw [getElem?_pos (w.extract a b) i h1,getElem?_pos w (a + i) h2,ByteArray.getElem_extract]
theorem ext_ext {w : ByteArray} {a b i j : Nat} (hij : a + j≤b) : (w.extract a b).extract i j = w.extract (a + i) (a + j):=by
  rw [ByteArray.extract_extract,Nat.min_eq_left hij]
theorem ext_size {w : ByteArray} {a b : Nat} (hb : b≤w.size) : (w.extract a b).size = b - a:=by rw [ByteArray.size_extract]; omega

theorem x_trimR (w : ByteArray) (p : Nat) (H : BH) (hs : w.size≤1048576) (hr : H.row p = .arr 143 tab) :
    ∃ m,Runs (gam base) 161 [.str w,.ptr p 0] H (.str (w.extract 0 m)) H∧m≤w.size∧(∀ j,m≤j→j < w.size→abAt w j = true)∧(m = 0∨abAt w (m - 1) = false):=by
  obtain ⟨v,H',h1,rfl,m,rfl,h2⟩ : ∃ v H',Runs (gam base) 161 [.str w,.ptr p 0] H v H'∧H' = H∧∃ m,v = .str (w.extract 0 m)∧m≤w.size∧(∀ j,m≤j→j < w.size→abAt w j = true)∧(m = 0∨abAt w (m - 1) = false):=by
    refine call_of_wp (fn:=ir161) (R:=fun v H' => H' = H∧∃ m,v = .str (w.extract 0 m)∧m≤w.size∧(∀ j,m≤j→j < w.size→abAt w j = true)∧(m = 0∨abAt w (m - 1) = false)) rfl ?_
    simp [ir161]
    refine wpC_count w.size (fun i e K => e 0 = .str (w.extract 0 (w.size - i))∧e 1 = .ptr p 0∧K = H∧∀ j,w.size - i≤j→j < w.size→abAt w j = true) (i0:=0) ?_ (Nat.zero_le _) ?_
    · refine ⟨?_,rfl,rfl,fun j h1 h2 => by omega⟩
      simp [ext_full]
    · rintro i e K hi ⟨e0,e1,rfl,hab⟩
      obtain ⟨m,hm⟩ : ∃ m,m = w.size - i:=⟨_,rfl⟩
      rw [← hm] at e0 hab
      have hsz : (w.extract 0 m).size = m:=by rw [ext_size (by omega)]; omega
      by_cases h0 : 0 < m
      · have h0' : (0 : Int) < m:=by omega
        have hc : (w.extract 0 m)[m - 1]? = w[m - 1]?:=by rw [ext_get (by omega) (by omega)]; simp
        have hb : w[m - 1]? = some (w[m - 1]'(by omega)):=getElem?_pos w _ (by omega)
        have hat : abAt w (m - 1) = ((w[m - 1]'(by omega)).toNat == 97 || (w[m - 1]'(by omega)).toNat == 98):=by simp only [abAt,hb]
        rw [hb] at hc
        generalize (w[m - 1]'(by omega)) = b at hat hc
        have w1 : IntKind.i64.wrap ((m : Int) - 1) = ((m - 1 : Nat) : Int):=by rw [w64 (by omega) (by omega)]; omega
        have hex : (w.extract 0 m).extract 0 (m - 1) = w.extract 0 (m - 1):=by rw [ext_ext (by omega)]; simp
        obtain ⟨x,hx⟩ : ∃ x,w.extract 0 m = x:=⟨_,rfl⟩
        rw [hx] at e0 hsz hc hex
        simp [e0,e1,hsz,h0,h0',w1,hc]
        refine ⟨_,K,x_contains p b K hr,BH.KeepsTys.nil _ _,?_⟩
        cases q : (b.toNat == 97 || b.toNat == 98)
        · rw [q] at hat
          simp only [Bool.or_eq_false_iff] at q
          simp [e0,e1,q]
          exact ⟨m,hx.symm,by omega,hab,.inr hat⟩
        · rw [q] at hat
          have hle : m - 1≤x.size:=by omega
          simp [e0,e1,q,hsz,w1,hex]
          refine ⟨by omega,?_,fun j h1 h2 => ?_⟩
          · rw [show w.size - (i + 1) = m - 1 by omega]
          · by_cases hj : j = m - 1
            · rw [hj]; exact hat
            · exact hab j (by omega) h2
      · have h00 : m = 0:=by omega
        rw [h00] at hsz e0 hab
        simp [e0,e1,hsz]
        exact ⟨0,by simp,by omega,hab,.inl rfl⟩
  exact ⟨m,h1,h2⟩

theorem x_trimL (w : ByteArray) (p : Nat) (H : BH) (hs : w.size≤1048576) (hr : H.row p = .arr 143 tab) :
    ∃ m,Runs (gam base) 160 [.str w,.ptr p 0] H (.str (w.extract m w.size)) H∧m≤w.size∧(∀ j,j < m→abAt w j = true)∧(m = w.size∨abAt w m = false):=by
  obtain ⟨v,H',h1,rfl,m,rfl,h2⟩ : ∃ v H',Runs (gam base) 160 [.str w,.ptr p 0] H v H'∧H' = H∧∃ m,v = .str (w.extract m w.size)∧m≤w.size∧(∀ j,j < m→abAt w j = true)∧(m = w.size∨abAt w m = false):=by
    refine call_of_wp (fn:=ir160) (R:=fun v H' => H' = H∧∃ m,v = .str (w.extract m w.size)∧m≤w.size∧(∀ j,j < m→abAt w j = true)∧(m = w.size∨abAt w m = false)) rfl ?_
    simp [ir160]
    refine wpC_count w.size (fun i e K => e 0 = .str (w.extract i w.size)∧e 1 = .ptr p 0∧K = H∧∀ j,j < i→abAt w j = true) (i0:=0) ?_ (Nat.zero_le _) ?_
    · refine ⟨?_,rfl,rfl,fun j h1 => by omega⟩
      simp [ext_full]
    · rintro i e K hi ⟨e0,e1,rfl,hab⟩
      have hsz : (w.extract i w.size).size = w.size - i:=ext_size (by omega)
      by_cases h0 : i < w.size
      · have h0' : (0 : Int) < ((w.size - i : Nat) : Int):=by omega
        have hc : (w.extract i w.size)[0]? = w[i]?:=by rw [ext_get (by omega) (by omega)]; simp
        have hb : w[i]? = some w[i]:=getElem?_pos w _ (by omega)
        have hat : abAt w i = (w[i].toNat == 97 || w[i].toNat == 98):=by simp only [abAt,hb]
        rw [hb] at hc
        generalize w[i] = b at hat hc
        have hex : (w.extract i w.size).extract 1 (w.size - i) = w.extract (i + 1) w.size:=by rw [ext_ext (by omega),show i + (w.size - i) = w.size by omega]
        have hle : 1≤w.size - i:=by omega
        obtain ⟨x,hx⟩ : ∃ x,w.extract i w.size = x:=⟨_,rfl⟩
        rw [hx] at e0 hsz hc hex
        obtain ⟨m,hm⟩ : ∃ m,w.size - i = m:=⟨_,rfl⟩
        rw [hm] at hsz hex hle h0'
        have h0i : (0 : Int) < m:=by omega
        have hc' : ∀ h,(x[0]'h) = b:=fun h => by rw [getElem?_pos x 0 h] at hc; cases hc; rfl
        have h0n : 0 < m:=hle
        simp [e0,e1,hsz,h0n,hc']
        refine ⟨_,K,x_contains p b K hr,BH.KeepsTys.nil _ _,?_⟩
        cases q : (b.toNat == 97 || b.toNat == 98)
        · rw [q] at hat
          simp only [Bool.or_eq_false_iff] at q
          simp [e0,e1,q]
          exact ⟨i,hx.symm,by omega,hab,.inr hat⟩
        · rw [q] at hat
          simp [e0,e1,q,hsz,hex,hle,h0]
          refine fun j h1 => ?_
          by_cases hj : j = i
          · rw [hj]; exact hat
          · exact hab j (by omega)
      · have h00 : i = w.size:=by omega
        subst h00
        rw [Nat.sub_self] at hsz
        simp [e0,e1,hsz]
        exact ⟨w.size,by simp,by omega,hab,.inl rfl⟩
  exact ⟨m,h1,h2⟩


theorem listEmpty (w : ByteArray) : w.toList = []↔w.size = 0:=by
  rw [ByteArray.toList_eq]
  constructor
  · intro h
    have : w.data.toList.length = 0:=by rw [h]; rfl
    exact this
  · intro h
    exact List.eq_nil_of_length_eq_zero h
theorem abStr : (⟨#[97,98]⟩ : ByteArray).toList = [97,98]:=by rw [ByteArray.toList_eq]
theorem noStr : (⟨#[]⟩ : ByteArray).toList = []:=by rw [ByteArray.toList_eq]

theorem trim_all {w : ByteArray} {m k : Nat} (hm : m≤w.size) (h1 : ∀ j,m≤j→j < w.size→abAt w j = true) (h2 : m = 0∨abAt w (m - 1) = false)
    (hk : k≤(w.extract 0 m).size) (h3 : ∀ j,j < k→abAt (w.extract 0 m) j = true) (h4 : k = (w.extract 0 m).size∨abAt (w.extract 0 m) k = false) :
    (((w.extract 0 m).extract k (w.extract 0 m).size).toList == []) = pre w w.size:=by
  have hsz : (w.extract 0 m).size = m:=by rw [ext_size hm]; omega
  rw [hsz] at hk h4 ⊢
  have hat : ∀ j,j < m→abAt (w.extract 0 m) j = abAt w j:=fun j hj => by
    simp only [abAt]
    rw [ext_get hm (by omega),Nat.zero_add]
  have hs2 : ((w.extract 0 m).extract k m).size = m - k:=by rw [ext_size (by omega)]
  have hi : ((((w.extract 0 m).extract k m).toList == []) = true)↔m = k:=by
    rw [beq_iff_eq,listEmpty,hs2]; omega
  cases q : pre w w.size
  · rw [Bool.eq_false_iff]
    intro hh
    have hmk:=hi.1 hh
    have : pre w w.size = true:=by
      simp only [pre,List.all_eq_true]
      intro j hj
      have hj : j < w.size:=by simpa using hj
      by_cases hjm : j < m
      · rw [← hat j hjm]; exact h3 j (by omega)
      · exact h1 j (by omega) hj
    rw [q] at this
    cases this
  · rw [hi]
    rcases h2 with h2 | h2
    · omega
    · by_cases h0 : m = 0
      · omega
      · rw [pre_at q (by omega)] at h2; cases h2

set_option maxRecDepth 100000 in
theorem x_trim (w : ByteArray) (H : BH) (hs : w.size≤1048576) : ∃ r,Gives (gam base) 108 [.str w,.str ⟨#[97,98]⟩] H (.str r)∧(r.toList == []) = pre w w.size:=by
  have sz : (⟨#[97,98]⟩ : ByteArray).size = 2:=rfl
  by_cases hw : w.size = 0
  · refine ⟨w,gives_of (fn:=ir108) rfl ?_,?_⟩
    · have hl:=(listEmpty w).2 hw
      simp [ir108,hl,noStr]
      exact BH.Keeps.refl H
    · rw [(listEmpty w).2 hw,hw]; rfl
  · have hl : ¬ w.toList = []:=fun h => hw ((listEmpty w).1 h)
    obtain ⟨v,H',h1,r,rfl,h2,h3⟩ : ∃ v H',Runs (gam base) 108 [.str w,.str ⟨#[97,98]⟩] H v H'∧∃ r,v = .str r∧(r.toList == []) = pre w w.size∧H.Keeps H':=by
      refine call_of_wp (fn:=ir108) (R:=fun v H' => ∃ r,v = .str r∧(r.toList == []) = pre w w.size∧H.Keeps H') rfl ?_
      have hl' : (w.toList == []) = false:=by simpa using hl
      have hne : ((⟨#[97,98]⟩ : ByteArray).toList == []) = false:=by rw [abStr]; rfl
      simp [ir108,hl',noStr,hne,sz]
      obtain ⟨H1,r1,k1⟩:=x_mkset (base:=base) H
      refine ⟨_,H1,r1,BH.KeepsTys.nil _ _,?_⟩
      simp
      intro nb hb hf
      simp only [make_of hf hb,Option.map_some,after_some]
      have hrow : ∀ zs : List BV,zs.length = 256→(H1.set nb (.arr 143 zs)).wr base none 256 (.ptr nb 0) (.agg tab) = some (H1.set nb (.arr 143 tab)):=by
        intro zs hz
        rw [wr_row (rt:=none) (n:=256) (v:=.agg tab) (BH.row_set_eq _ _ _) rfl hb tab_len (by rw [hz]; omega) tab_one]
        refine congrArg some (BH.ext fun c => ?_)
        have hd : zs.take 0++(BV.agg tab).cells++zs.drop (0 + 256) = tab:=by
          rw [List.drop_eq_nil_of_le (by omega)]
          show []++tab++[] = tab
          rw [List.append_nil,List.nil_append]
        rw [hd]
        simp only [BH.row_set]; split <;> rfl
      have hr2 : (H1.set nb (.arr 143 tab)).row nb = .arr 143 tab:=BH.row_set_eq _ _ _
      obtain ⟨m,r2,hm,g1,g2⟩:=x_trimR (base:=base) w nb _ hs hr2
      have hsz : (w.extract 0 m).size = m:=by rw [ext_size hm]; omega
      obtain ⟨k,r3,hk,g3,g4⟩:=x_trimL (base:=base) (w.extract 0 m) nb _ (by omega) hr2
      simp [hrow]
      refine ⟨_,_,r2,BH.KeepsTys.nil _ _,?_⟩
      simp
      refine ⟨_,_,r3,BH.KeepsTys.nil _ _,?_⟩
      simp
      have ht:=trim_all hm g1 g2 hk g3 g4
      rw [hsz] at ht
      refine ⟨?_,k1.set (k1.fresh hf) _⟩
      rw [← ht,Nat.min_eq_left hm]
      generalize (((w.extract 0 m).extract k m).toList) = l
      cases l <;> rfl
    exact ⟨r,⟨H',h1,h3⟩,h2⟩

theorem i_wordB (w : ByteArray) (H : BH) (hs : w.size≤1048576) : Gives (gam base) 63 [.str w] H (.bool (pre w w.size && decide (w.size≤40))):=by
  refine gives_of (fn:=ir63) rfl ?_
  by_cases h : w.size≤40
  · have h' : (w.size : Int)≤40:=by omega
    obtain ⟨r,⟨H1,r1,k1⟩,hr⟩:=x_trim (base:=base) w H hs
    simp [ir63,h,h']
    refine ⟨_,H1,r1,BH.KeepsTys.nil _ _,?_⟩
    simp [noStr]
    exact ⟨by rw [← hr]; simp,k1⟩
  · have h' : ¬ (w.size : Int)≤40:=by omega
    simp [ir63,h,h']
    exact BH.Keeps.refl H
end Go.Proofs.YtbnmhbmhafbmiaaGreatDoor.W
end

section
namespace Go.Proofs.YtbnmhbmhafbmiaaGreatDoor.W
set_option linter.unusedVariables false
set_option linter.unusedSimpArgs false
open Go.B
open Go.Au
variable {base : Nat}
attribute [local simp] wpC_skip wpC_region wpC_seq wpC_true wpC_false wpC_block wpC_exit wpC_ret wpO_nil wpO_n wpO_tt wpO_ff wpO_tf wpO_ft wpO_u wpS_mov wpS_pick wpS_build wpS_load wpS_store wpS_nilck wpS_bin wpS_beq wpS_isnil wpS_eqs wpS_not wpS_neg wpS_conv wpS_lea wpS_fld wpS_idx wpS_idxs wpS_slice wpS_sslice wpS_mkfn wpS_mset wpS_look wpS_ext wpS_len wpS_new wpS_box wpS_mk wpS_mkmap wpS_mksl wpS_app wpS_fn wpS_call after_some pthen_n pthen_x pthen_r pin BExit.outOf puto_some puto_none put_eq put_ne Opd.ev argEnv op1_mov op1_pick op1_new op1_box op1_load op1_nilck op1_bin op1_beq op1_not op1_neg op1_conv op1_lea op1_fld op1_len0 op1_len1 op1_idx op1_ext op1_build op1_mk op1_stw op1_mksl op1_eqs pureBin isShift resOf resVals val_tmp val_cell oneOf one_int cells_int one_bool cells_bool one_str cells_str one_nilp cells_nilp one_ptr cells_ptr one_nils cells_nils one_sl cells_sl one_sle cells_sle one_nilm cells_nilm one_mp cells_mp one_nilf cells_nilf one_fn cells_fn one_nili cells_nili cells_agg isSl_sl slen_sl sat_sl make_of asm rtOk wpS_b2s op1_b2s wpS_imax op1_imax wpS_imin op1_imin wpS_i2s op1_i2s op1_isnil Option.map_some gam_base op1_app op1_idxs wpS_idxa op1_idxa op1_sslice bound_none bound_some nat_of op1_mkmap op1_mset op1_look op1_len2 op1_mkfn Go.B.fillB Has
theorem strL_pre {w : List Nat} (h : IsW w) : pre (strL w) (strL w).size = true:=by
  unfold pre
  simp only [List.all_eq_true,List.mem_range]
  intro i hi
  rw [strL_size] at hi
  have:=h.get hi
  unfold abAt
  rw [str_get hi h]
  simp only [u8_let this,Bool.or_eq_true,beq_iff_eq]
  exact this
theorem i_wordOk (w : List Nat) (H : BH) (hw : IsW w) (hl : w.length≤40) : FnDoes (gam base) 63 [encW w] H fun v _ => v = .bool true:=by
  obtain ⟨K,h1,h2⟩:=i_wordB (base:=base) (strL w) H (by rw [strL_size]; omega)
  refine ⟨_,K,h1,h2,?_⟩
  rw [strL_pre hw,strL_size]
  simp [hl]
theorem i_wordsOk (ws : List (List Nat)) (v : BV) (H : BH) (h : Rd H 9 v (ws.map encW)) (hw : ∀ w∈ws,IsW w∧w.length≤40) (hn : ws.length≤1000000) : FnDoes (gam base) 59 [v] H fun u _ => u = .bool true:=by
  refine FnDoes.of (fn:=ir59) rfl ?_
  simp [ir59,h.isSl,h.lenM]
  refine wpC_countK ws.length [(5,v),(6,encN ws.length)] (fun i e K => e 7 = encN i∧H.Keeps K) (i0:=0) rfl ?_ ?_ (Nat.zero_le _) ?_
  · simp
  · exact ⟨by simp,BH.Keeps.refl H⟩
  rintro i e K hi ⟨e5,e6,-⟩ ⟨e7,k⟩
  simp only [] at e5 e6
  have wi:=wS (n:=i) (by omega)
  by_cases hlt : i < ws.length
  · have g1:=(h.keeps k).at (i:=i) hlt (rt:=none) rfl
    obtain ⟨a1,a2⟩:=hw _ (List.getElem_mem hlt)
    simp [e5,e6,e7,hlt,h.isSl,h.lenM,g1]
    refine (i_wordOk (base:=base) _ K a1 a2).step fun v2 K2 k2 hv => ?_
    subst hv
    simp [e7,wi,hlt]
    exact k.trans k2
  · have hie : i = ws.length:=by omega
    subst hie
    simp [e6,e7]
    exact k
/-! ### maps of what is there -/
noncomputable instance memDec (s : ByteArray) (ks : List ByteArray) : Decidable (s∈ks):=Classical.propDecidable _
section
variable {H K : BH} {L : List Sl} {ks : List ByteArray} {b : Nat}
end
def dotN (terms : List Int) (xs : List Nat) (j : Nat) : Nat→Int
  | 0 => 0
  | n + 1 => dotN terms xs j n + terms.getD n 0 * ((xs.getD n 0 / 2 ^ j : Nat) : Int)
theorem wdN_length (n : Nat) : (wdN n).length = bl n:=wordL_len n _
theorem dgW_num (n i : Nat) : dgW i (wdN n) = if i < bl n then n / 2 ^ i % 2 else 2:=by
  unfold dgW
  rw [wdN_length]
  split
  · next h =>
    have h2 : (wdN n).getD i 97 = ltr n i:=by
      unfold wdN wordL
      rw [List.getD_eq_getElem?_getD,List.getElem?_map,List.getElem?_range h]
      rfl
    rw [h2]
    unfold ltr
    omega
  · rfl
theorem isW_nums (xs : List Nat) : ∀ w∈xs.map wdN,IsW w:=fun w hw => by
  obtain ⟨n,_,rfl⟩:=List.mem_map.1 hw
  exact wdN_w n
theorem dg_colW {xs : List Nat} {k : Nat} (hk : k < xs.length) (i : Nat) : dg (colW (xs.map wdN) i) k = dgW i (wdN xs[k]):=by
  unfold colW
  rw [dg_colD k (col_dig (isW_nums xs) i) (by simpa using hk)]
  simp [List.getD_eq_getElem?_getD,hk]
theorem bl_lng {xs : List Nat} {k : Nat} (hk : k < xs.length) : bl xs[k]≤lngW (xs.map wdN):=by
  rcases Nat.lt_or_ge (lngW (xs.map wdN)) (bl xs[k]) with h | h
  · have:=lng_lt (ws:=xs.map wdN) (i:=lngW (xs.map wdN))
    exact absurd (this.2 ⟨wdN xs[k],List.mem_map.2 ⟨_,List.getElem_mem hk,rfl⟩,by rw [wdN_length]; exact h⟩) (Nat.lt_irrefl _)
  · exact h
theorem tape_num {xs : List Nat} {k : Nat} (hk : k < xs.length) : ∃ r,(colsW (xs.map wdN)).map (dg · k) = (List.range (bl xs[k])).map (fun i => xs[k] / 2 ^ i % 2)++List.replicate r 2:=by
  obtain ⟨r,hr⟩:=Nat.exists_eq_add_of_le (bl_lng hk)
  refine ⟨r,?_⟩
  unfold colsW
  rw [hr,List.range_add,List.map_append,List.map_append]
  congr 1
  · rw [List.map_map]
    refine List.map_congr_left fun i hi => ?_
    have hi:=List.mem_range.1 hi
    show dg (colW (xs.map wdN) i) k = _
    rw [dg_colW hk,dgW_num,if_pos hi]
  · rw [List.map_map,List.map_map]
    refine List.eq_replicate_iff.2 ⟨by simp,fun d hd => ?_⟩
    obtain ⟨i,hi,rfl⟩:=List.mem_map.1 hd
    show dg (colW (xs.map wdN) (bl xs[k] + i)) k = 2
    rw [dg_colW hk,dgW_num,if_neg (by omega)]
theorem right_nums (xs : List Nat) : rightF xs.length 0 (colsW (xs.map wdN)) = true:=by
  rw [rightF_iff _ 0 (Nat.two_pow_pos _)]
  intro k hk
  obtain ⟨r,e⟩:=tape_num hk
  rw [e,Nat.zero_testBit,rtape_pre fun d hd => by
    obtain ⟨i,_,rfl⟩:=List.mem_map.1 hd
    omega]
  exact rtape_twos fun d hd => (List.mem_replicate.1 hd).2
theorem top_bit {n m : Nat} (h : bl n = m + 1) : n / 2 ^ m % 2 = 1:=by
  have h1:=(bl_pos (n:=n) (r:=m)).2 (by omega)
  have h2 : ¬ 0 < n / 2 ^ (m + 1):=fun hh => by have:=(bl_pos (n:=n) (r:=m + 1)).1 hh; omega
  rw [← half] at h2
  omega
theorem LD_nums (xs : List Nat) : LD (List.range xs.length) (colsW (xs.map wdN)) = true:=by
  unfold LD
  rw [List.all_eq_true]
  intro k hk
  have hk:=List.mem_range.1 hk
  obtain ⟨r,e⟩:=tape_num hk
  unfold dT lettersT
  rw [e,List.filter_append]
  have e1 : ((List.range (bl xs[k])).map (fun i => xs[k] / 2 ^ i % 2)).filter (fun d => decide (d≠2)) = (List.range (bl xs[k])).map (fun i => xs[k] / 2 ^ i % 2):=List.filter_eq_self.2 fun d hd => by
    obtain ⟨i,_,rfl⟩:=List.mem_map.1 hd
    simp; omega
  have e2 : (List.replicate r 2).filter (fun d => decide (d≠2)) = []:=List.filter_eq_nil_iff.2 fun d hd => by simp [(List.mem_replicate.1 hd).2]
  rw [e1,e2,List.append_nil,decide_eq_true_iff]
  cases hb : bl xs[k] with
  | zero => simp
  | succ m =>
    rw [List.range_succ,List.map_append]
    simp [top_bit hb]
def sumOk (kind S s : Int) : Bool:=if kind = 1 then decide (S = s) else decide (S≤s)
theorem dot_step (terms : List Int) (xs : List Nat) (j : Nat) : ∀ n,n≤xs.length→dotN terms xs j n = sumN terms (colW (xs.map wdN) j) n + 2 * dotN terms xs (j + 1) n
  | 0,_ => rfl
  | n + 1,h => by
    have ih:=dot_step terms xs j n (by omega)
    have hn : n < xs.length:=by omega
    have hx : xs.getD n 0 = xs[n]:=by simp [List.getD_eq_getElem?_getD,hn]
    simp only [dotN,sumN]
    rw [ih,dg_colW hn,dgW_num,hx]
    obtain ⟨x,hxe⟩ : ∃ x,x = xs[n]:=⟨_,rfl⟩
    rw [← hxe]
    obtain ⟨a,ha⟩ : ∃ a,a = terms.getD n 0:=⟨_,rfl⟩
    rw [← ha]
    have h2:=half x j
    obtain ⟨q,hq⟩ : ∃ q,q = x / 2 ^ j:=⟨_,rfl⟩
    have hp:=bl_pos (n:=x) (r:=j)
    rw [← hq] at h2 hp ⊢
    rw [← h2]
    have hqi : (q : Int) = ((q % 2 : Nat) : Int) + 2 * ((q / 2 : Nat) : Int):=by omega
    have hm : a * (q : Int) = a * ((q % 2 : Nat) : Int) + 2 * (a * ((q / 2 : Nat) : Int)):=by
      rw [hqi,Int.mul_add]
      congr 1
      rw [← Int.mul_assoc,← Int.mul_assoc,Int.mul_comm a 2]
    rw [hm]
    by_cases hb : j < bl x
    · rw [if_pos hb]
      have h01 : q % 2 = 0∨q % 2 = 1:=by omega
      rcases h01 with h01 | h01
      · rw [h01]; simp; omega
      · rw [h01]; simp; omega
    · rw [if_neg hb]
      have hq0 : q = 0:=by have:=mt hp.1 hb; omega
      subst hq0
      simp
theorem dot_zero (terms : List Int) (xs : List Nat) {j : Nat} (hj : ∀ k,(h : k < xs.length)→bl xs[k]≤j) : ∀ n,n≤xs.length→dotN terms xs j n = 0
  | 0,_ => rfl
  | n + 1,h => by
    have ih:=dot_zero terms xs hj n (by omega)
    have hn : n < xs.length:=by omega
    have hx : xs.getD n 0 = xs[n]:=by simp [List.getD_eq_getElem?_getD,hn]
    have h0 : xs[n] / 2 ^ j = 0:=Nat.eq_zero_of_not_pos (mt (bl_pos (n:=xs[n]) (r:=j)).1 (by have:=hj n hn; omega))
    simp only [dotN]
    rw [ih,hx,h0]
    simp
theorem lin_odd (kind : Int) (sums : Nat→Int) : ∀ cs : List Nat,langK (nxL kind sums) (accL kind) oddI cs = false
  | [] => by
    show accL kind oddI = false
    unfold accL
    simp [oddI]
  | c::cs => by
    have ih:=lin_odd kind sums cs
    show langK (nxL kind sums) (accL kind) (nxL kind sums oddI c) cs = false
    unfold nxL
    rw [if_pos rfl]
    exact ih
theorem lin_nums (kind : Int) (hk : kind = 1∨kind = 2) (terms : List Int) (hT : Terms terms) (xs : List Nat) (hl : xs.length = terms.length) : ∀ (r j : Nat) (s : Int),j + r = lngW (xs.map wdN)→-5000≤s∧s≤5000 →
    langK (nxL kind (sumsF terms)) (accL kind) s ((List.range' j r).map (colW (xs.map wdN))) = sumOk kind (dotN terms xs j terms.length) s
  | 0,j,s,hj,hs => by
    rw [dot_zero terms xs (fun k h => by have:=bl_lng h; omega) terms.length (by omega)]
    show accL kind s = _
    unfold accL sumOk
    have ho : s≠oddI:=by unfold oddI; omega
    rcases hk with rfl | rfl
    · by_cases h0 : s = 0
      · simp [h0]
      · simp [h0]; omega
    · by_cases h0 : s = 0
      · simp [h0]
      · by_cases h1 : 0 < s
        · simp [h0,h1,ho]; omega
        · simp [h0,h1]; omega
  | r + 1,j,s,hj,hs => by
    have hd:=dot_step terms xs j terms.length (by omega)
    have hb:=sumN_le hT (colW (xs.map wdN) j) terms.length
    have h3:=hT.1
    have ho : s≠oddI:=by unfold oddI; omega
    obtain ⟨b,hbe⟩ : ∃ b,b = sumN terms (colW (xs.map wdN) j) terms.length:=⟨_,rfl⟩
    rw [← hbe] at hd hb
    have hsf : sumsF terms (colW (xs.map wdN) j) = b:=hbe.symm
    rw [List.range'_succ,List.map_cons]
    show langK (nxL kind (sumsF terms)) (accL kind) (nxL kind (sumsF terms) s (colW (xs.map wdN) j)) _ = _
    unfold nxL
    rw [if_neg ho,hsf]
    by_cases hodd : kind = 1∧(s - b).tmod 2≠0
    · rw [if_pos hodd]
      have:=lin_odd kind (sumsF terms) ((List.range' (j + 1) r).map (colW (xs.map wdN)))
      unfold nxL at this
      rw [this]
      unfold sumOk
      rw [if_pos hodd.1]
      have hne : (s - b) % 2≠0:=fun h => hodd.2 (Int.tmod_eq_zero_of_dvd (Int.dvd_of_emod_eq_zero h))
      symm
      rw [decide_eq_false_iff_not]
      omega
    · rw [if_neg hodd]
      have ih:=lin_nums kind hk terms hT xs hl r (j + 1) ((s - b) / 2) (by omega) (by omega)
      unfold nxL at ih
      rw [ih]
      unfold sumOk
      rcases hk with rfl | rfl
      · rw [if_pos rfl,if_pos rfl,decide_eq_decide]
        have he : (s - b) % 2 = 0:=by
          have h : (s - b).tmod 2 = 0:=by
            by_cases h : (s - b).tmod 2 = 0
            · exact h
            · exact absurd ⟨rfl,h⟩ hodd
          exact Int.emod_eq_zero_of_dvd (Int.dvd_of_tmod_eq_zero h)
        omega
      · rw [if_neg (by decide),if_neg (by decide),decide_eq_decide]
        omega
theorem linN_holds {kind c0 : Int} {terms U : List Int} {W : Aut} {d : Nat} (hk : kind = 1∨kind = 2) (hT : Terms terms) (hU : Closed (wd terms.length) (nxL kind (sumsF terms)) c0 U) (hc : -5000≤c0∧c0≤5000) (h : linN kind c0 terms U = (some W,d)) (xs : List Nat) (hl : xs.length = terms.length) :
    W.lang 0 (colsW (xs.map wdN)) = sumOk kind (dotN terms xs 0 terms.length) c0:=by
  have h3:=hT.1
  have hW:=linN_some h
  obtain ⟨hX,-,hXl⟩:=linX_ok (terms:=terms) hU
  have hTX:=(TA_spec h3 hX hX.pos).1
  have hD:=(LD_small h3 (S:=List.range terms.length) (fun k hk => List.mem_range.1 hk)).1
  have hp:=prodA_ok (op:=fun a b => a && b) hTX.ok hD.ok
  have hT2:=(TA_spec h3 hp hp.pos).1
  have e : TA terms.length ((prodA (wd terms.length) (TA terms.length ((linX kind c0 terms U).lang 0)) (TA terms.length (LD (List.range terms.length))) fun a b => a && b).lang 0) = W:=by
    rw [hW]
    exact TA_congr fun cs hcs _ => by
      have:=prodA_lang (op:=fun a b => a && b) hTX.ok hD.ok cs 0 0 hTX.ok.pos hD.ok.pos hcs
      rw [Nat.zero_mul,Nat.zero_add] at this
      exact this
  rw [e] at hT2
  have hcs : In (wd terms.length) (colsW (xs.map wdN)):=by
    have:=cols_in (isW_nums xs)
    rwa [List.length_map,hl] at this
  have hr : rightF terms.length 0 (colsW (xs.map wdN)) = true:=by rw [← hl]; exact right_nums xs
  have hld : LD (List.range terms.length) (colsW (xs.map wdN)) = true:=by rw [← hl]; exact LD_nums xs
  rw [hT2.lang hcs]
  unfold rl
  rw [hr,Bool.true_and]
  have hpl:=prodA_lang (op:=fun a b => a && b) hTX.ok hD.ok (colsW (xs.map wdN)) 0 0 hTX.ok.pos hD.ok.pos hcs
  rw [Nat.zero_mul,Nat.zero_add] at hpl
  rw [hpl,hTX.lang hcs,hD.lang hcs]
  unfold rl
  rw [hr,hld,hXl _ hcs]
  simp only [Bool.true_and,Bool.and_true]
  have hln:=lin_nums kind hk terms hT xs hl (lngW (xs.map wdN)) 0 c0 (by omega) hc
  rw [← List.range_eq_range'] at hln
  exact hln
theorem i_Holds (t s : Nat) (ht1 : 1≤t) (ht : t≤3) (A : Aut) (ws : List (List Nat)) (m v : BV) (H : BH) (hA : RdRel H t s A m) (hok : A.Ok (wd t)) (hs : s < A.acc.length) (hn : A.acc.length≤150) (hv : Rd H 9 v (ws.map encW)) (hw : ∀ w∈ws,IsW w∧w.length≤40) (hl : ws.length = t) :
    FnDoes (gam base) 21 [m,v] H fun r _ => r = .tup [.bool (A.lang s (colsW ws)),encN 0]:=by
  refine FnDoes.of (fn:=ir21) rfl ?_
  have g1:=hA
  obtain ⟨u,x,rfl,hu,hx⟩:=hA
  have u1:=hu.one
  have x1:=one_of_isSl hx.isSl
  simp [ir21,u1,x1]
  intro n2 b2 f2
  have o1:=Own.start (base:=base) (H:=H) |>.new f2 b2 (s:=.arr 25 [encN t,encN s,u,x])
  have r2:=rd_all (o1.at 0 (b:=n2) rfl) (n:=4) (rt:=none) rfl rfl
  simp [make_of f2 b2,r2]
  refine (i_valid (base:=base) t s _ _ _ _ (g1.keeps o1.keeps).raw (by omega)).step fun v' K2 k2 hv' => ?_
  rw [ok_valid ht1 ht hok hs hn] at hv'
  subst hv'
  have o2:=o1.call k2
  simp
  refine (i_wordsOk (base:=base) ws v K2 (hv.keeps o2.keeps) hw (by omega)).step fun v' K3 k3 hv' => ?_
  subst hv'
  have o3:=o2.call k3
  have r0:=rd_ptr (o3.at 0 (b:=n2) rfl) (rt:=none) (j:=0) (c:=encN t) rfl rfl
  have r2:=rd_all (o3.at 0 (b:=n2) rfl) (n:=4) (rt:=none) rfl rfl
  simp [hv.isSl,hv.lenM,hl,r0,r2]
  refine (i_machineOf (base:=base) t s (wd t) A _ K3 (g1.keeps o3.keeps) (by have:=wd_3 ht; omega) hok (by omega)).step fun mm K4 k4 hm => ?_
  have hmr:=hm.rd
  have o4:=o3.call k4
  simp
  refine (i_columnsOf (base:=base) ws v K4 (hv.keeps o4.keeps) (fun w h => (hw w h).1) (by omega) (fun w h => by have:=(hw w h).2; omega)).step fun cv K5 k5 hcv => ?_
  obtain ⟨bo,ov,-⟩:=hcv
  have hcl:=lng_le (ws:=ws) (N:=40) fun w h => (hw w h).2
  rw [← colsW_len] at hcl
  simp
  refine (i_takes (base:=base) t s (wd t) A mm cv (colsW ws) K5 (hmr.keeps k5) hok hs ov.rd (by have:=cols_in (ws:=ws) fun w h => (hw w h).1; rwa [hl] at this) (by omega)).step fun v' K6 k6 hv' => ?_
  subst hv'
  simp
  exact (o4.call k5).keeps.trans k6
theorem i_LinearRelation (kind : Int) (hkd : kind = 1∨kind = 2) (terms : List Int) (hT : Terms terms) (h0 : 1≤terms.length) (c0 : Int) (hc : -1000≤c0∧c0≤1000) (U : List Int) (hU : Closed (wd terms.length) (nxL kind (sumsF terms)) c0 U) (hUl : U.length≤150)
    (hUb : ∀ s∈U,-1100000000000≤s∧s≤1100000000000) (v : BV) (H : BH) (hv : Rd H 2 v (terms.map encI)) :
    FnDoes (gam base) 17 [encI kind,v,encI c0] H fun r K => RelR base H terms.length (linN kind c0 terms U) r K:=by
  obtain ⟨R,hR⟩ : ∃ R : BV→BH→Prop,R = fun r K => RelR base H terms.length (linN kind c0 terms U) r K:=⟨_,rfl⟩
  rw [← hR]
  refine FnDoes.of (fn:=ir17) rfl ?_
  have hvl:=hv.lenM
  have h3:=hT.1
  have hlin:=fun K (hv : Rd K 2 v (terms.map encI)) => i_linear (base:=base) kind terms hT h0 c0 U hU hUl hUb v K hv
  obtain ⟨G,hG⟩ : ∃ G,G = linN kind c0 terms U:=⟨_,rfl⟩
  rw [← hG] at hlin hR
  obtain ⟨t,ht⟩ : ∃ t,t = terms.length:=⟨_,rfl⟩
  rw [← ht] at hlin hR hvl
  simp [ir17]
  intro n4 b4 f4
  have o1:=Own.start (base:=base) (H:=H) |>.new f4 b4 (s:=.arr 25 [.int .i64 0,.int .i64 0,.nils,.nils])
  obtain ⟨H1,hH1⟩ : ∃ H1,H1 = H.set n4 (.arr 25 [.int .i64 0,.int .i64 0,.nils,.nils]):=⟨_,rfl⟩
  simp [make_of f4 b4]
  rw [← hH1] at o1 ⊢
  have hin1 : inB kind 1 2 = true:=by rcases hkd with rfl | rfl <;> decide
  have hin2 : inB (t : Int) 1 3 = true:=by unfold inB; simp; omega
  have hin3 : inB c0 (-1000) 1000 = true:=by unfold inB; simp; omega
  have c1:=i_within (base:=base) kind 1 2 H1
  have c2:=i_areTapes (base:=base) (t : Int) H1
  have c3:=i_within (base:=base) c0 (-1000) 1000 H1
  rw [hin1] at c1
  rw [hin2] at c2
  rw [hin3] at c3
  refine callP c1 ?_
  simp [hv.isSl,hvl]
  refine callP c2 ?_
  simp
  refine callP c3 ?_
  simp [hv.isSl,hvl]
  have hv1:=hv.keeps o1.keeps
  obtain ⟨I,hI⟩ : ∃ I : Nat→Env→BH→Prop,I = (fun i e K => e 27 = encN i∧K = H1):=⟨_,rfl⟩
  refine wpC_countK t [(0,encI kind),(1,v),(2,encI c0),(6,.ptr n4 0),(25,v),(26,encN t)] I (i0:=0) rfl ?_ ?_ (Nat.zero_le _) ?_
  · simp
  · rw [hI]
    exact ⟨by simp,rfl⟩
  rintro i e K hi ⟨e0,e1,e2,e6,e25,e26,-⟩ hh
  rw [hI] at hh
  obtain ⟨e27,hKH⟩:=hh
  rw [hKH]
  simp only [] at e0 e1 e2 e6 e25 e26
  have wi:=wS (n:=i) (by omega)
  by_cases hlt : i < t
  · have gi:=hv1.at (i:=i) (by omega) (rt:=none) rfl
    have hti : i < terms.length:=by omega
    have gi' : H1.rd none none (v.sat i 1) = some (encI terms[i]):=by simpa using gi
    have hg:=hT.2 _ (List.getElem_mem hti)
    have hin4 : inB terms[i] (-20) 20 = true:=by unfold inB; simp; omega
    have c4:=i_within (base:=base) terms[i] (-20) 20 H1
    rw [hin4] at c4
    simp [e25,e26,e27,hv.isSl,hvl,hlt,gi']
    refine callP c4 ?_
    simp [e27,wi,hlt]
    rw [hI]
    exact ⟨by simp,rfl⟩
  · simp [e0,e1,e2,e25,e26,e27,hlt]
    refine (hlin H1 hv1).step fun r K1 k1 hr => ?_
    obtain ⟨m8,K8,rfl,g8,r8,kk,hrel⟩:=rel_end (base:=base) o1 (i:=0) (n2:=n4) rfl rfl k1 hr
    simp [e6,g8,r8]
    rw [hR]
    exact ⟨kk,hrel⟩
theorem sq_bools (bs : List Bool) (v w : BV) (H : BH) {ty ty2 : Nat} (h : Rd H ty v (bs.map encB)) (k : Rd H ty2 w (bs.map encB)) (hn : bs.length≤4611686018427387904) :
    Runs (gam base) 54 [v,w] H (.bool true) H:=by
  refine runs_of (fn:=ir54) rfl ?_
  simp [ir54,h.isSl,h.lenM,k.isSl,k.lenM]
  refine wpC_countK bs.length [(0,v),(1,w)] (fun i e K => e 5 = encN i∧K = H) (i0:=0) ?_ ?_ ?_ (Nat.zero_le _) ?_
  · rfl
  · simp
  · exact ⟨by simp,rfl⟩
  rintro i e K hi ⟨e0,e1,-⟩ ⟨e5,rfl⟩
  simp only [] at e0 e1
  have wi:=wS (n:=i) (by omega)
  by_cases hlt : i < bs.length
  · have g1:=h.at hlt (rt:=none) rfl
    have g2:=k.at hlt (rt:=none) rfl
    simp [e0,e1,e5,h.isSl,h.lenM,k.isSl,k.lenM,hlt,g1,g2,wi]
  · simp [e0,e1,e5,h.isSl,h.lenM,k.isSl,k.lenM,hlt]
theorem sq_longs (bs : List Int) (v w : BV) (H : BH) {ty ty2 : Nat} (h : Rd H ty v (bs.map encI)) (k : Rd H ty2 w (bs.map encI)) (hn : bs.length≤4611686018427387904) :
    Runs (gam base) 55 [v,w] H (.bool true) H:=by
  refine runs_of (fn:=ir55) rfl ?_
  simp [ir55,h.isSl,h.lenM,k.isSl,k.lenM]
  refine wpC_countK bs.length [(0,v),(1,w)] (fun i e K => e 5 = encN i∧K = H) (i0:=0) ?_ ?_ ?_ (Nat.zero_le _) ?_
  · rfl
  · simp
  · exact ⟨by simp,rfl⟩
  rintro i e K hi ⟨e0,e1,-⟩ ⟨e5,rfl⟩
  simp only [] at e0 e1
  have wi:=wS (n:=i) (by omega)
  by_cases hlt : i < bs.length
  · have g1:=h.at hlt (rt:=none) rfl
    have g2:=k.at hlt (rt:=none) rfl
    simp [e0,e1,e5,h.isSl,h.lenM,k.isSl,k.lenM,hlt,g1,g2,wi]
  · simp [e0,e1,e5,h.isSl,h.lenM,k.isSl,k.lenM,hlt]
theorem s_SameRel (T S : Int) (acc : List Bool) (rows : List (List Int)) (m m2 : BV) (H : BH) (h : RdRaw H T S acc rows m) (k : RdRaw H T S acc rows m2) (hn1 : acc.length≤4611686018427387904) (hn : rows.length≤4611686018427387904) (hr : ∀ r∈rows,r.length≤4611686018427387904) :
    FnDoes (gam base) 19 [m,m2] H fun v _ => v = .bool true:=by
  refine FnDoes.of (fn:=ir19) rfl ?_
  obtain ⟨u,x,rfl,hu,hx⟩:=h
  obtain ⟨u',x',rfl,hu',hx'⟩:=k
  have u1:=hu.one
  have x1:=one_of_isSl hx.isSl
  have u1':=hu'.one
  have x1':=one_of_isSl hx'.isSl
  simp [ir19,u1,x1,u1',x1']
  intro n2 b2 f2
  simp [make_of f2 b2,u1',x1']
  intro n3 b3 f3
  have o1:=Own.start (base:=base) (H:=H) |>.new f2 b2 (s:=.arr 25 [.int .i64 T,.int .i64 S,u,x]) |>.new f3 b3 (s:=.arr 25 [.int .i64 T,.int .i64 S,u',x'])
  obtain ⟨H1,hH1⟩ : ∃ H1,H1 = (H.set n2 (.arr 25 [.int .i64 T,.int .i64 S,u,x])).set n3 (.arr 25 [.int .i64 T,.int .i64 S,u',x']):=⟨_,rfl⟩
  simp [make_of f3 b3]
  rw [← hH1] at o1 ⊢
  have p0:=rd_ptr (o1.at 1 (b:=n2) rfl) (rt:=none) (j:=0) (c:=encI T) rfl rfl
  have p1:=rd_ptr (o1.at 1 (b:=n2) rfl) (rt:=none) (j:=1) (c:=encI S) rfl rfl
  have p2:=rd_ptr (o1.at 1 (b:=n2) rfl) (rt:=none) (j:=2) (c:=u) rfl rfl
  have p3:=rd_ptr (o1.at 1 (b:=n2) rfl) (rt:=none) (j:=3) (c:=x) rfl rfl
  have q0:=rd_ptr (o1.at 0 (b:=n3) rfl) (rt:=none) (j:=0) (c:=encI T) rfl rfl
  have q1:=rd_ptr (o1.at 0 (b:=n3) rfl) (rt:=none) (j:=1) (c:=encI S) rfl rfl
  have q2:=rd_ptr (o1.at 0 (b:=n3) rfl) (rt:=none) (j:=2) (c:=u') rfl rfl
  have q3:=rd_ptr (o1.at 0 (b:=n3) rfl) (rt:=none) (j:=3) (c:=x') rfl rfl
  simp [p0,p1,p2,q0,q1,q2]
  refine callP (sq_bools (base:=base) acc u u' _ (hu.keeps o1.keeps) (hu'.keeps o1.keeps) hn1) ?_
  have hxk:=hx.keeps o1.keeps
  have hxk':=hx'.keeps o1.keeps
  simp [p3,q3,hxk.isSl,hxk.len,hxk'.isSl,hxk'.len]
  refine wpC_countK rows.length [(2,.ptr n2 0),(3,.ptr n3 0)] (fun i e K => e 5 = encN i∧K = H1) (i0:=0) ?_ ?_ ?_ (Nat.zero_le _) ?_
  · rfl
  · simp
  · exact ⟨by simp,rfl⟩
  rintro i e K hi ⟨e0,e1,-⟩ ⟨e5,rfl⟩
  simp only [] at e0 e1
  have wi:=wS (n:=i) (by omega)
  by_cases hlt : i < rows.length
  · obtain ⟨ri,hri,hrr⟩:=hxk.at hlt
    obtain ⟨rj,hrj,hrk⟩:=hxk'.at hlt
    have hrr:=hrr none rfl
    have hrk:=hrk none rfl
    simp [e0,e1,e5,p3,q3,hxk.isSl,hxk.len,hxk'.isSl,hxk'.len,hlt,hrr,hrk]
    refine callP (sq_longs (base:=base) rows[i] ri rj K hri hrj (hr _ (List.getElem_mem hlt))) ?_
    simp [e5,wi,hlt]
  · simp [e0,e1,e5,p3,q3,hxk.isSl,hxk.len,hxk'.isSl,hxk'.len,hlt]
    exact o1.keeps
def encY (b : Int) : BV:=.int .u8 b
theorem l_long (bs cs : List Int) (v w : BV) (H : BH) {ty ty2 : Nat} (h : Rd H ty v (bs.map encY)) (k : Rd H ty2 w (cs.map encY)) : ∃ b,Runs (gam base) 15 [v,w] H (.bool b) H∧(b = false→bs.length≤3000∧cs.length≤3000):=by
  refine ⟨decide (3000 < bs.length) || decide (3000 < cs.length),runs_of (fn:=ir15) rfl ?_,fun h => by simp at h; omega⟩
  have hl : v.slen = bs.length:=by simpa using h.len
  have kl : w.slen = cs.length:=by simpa using k.len
  by_cases h1 : 3000 < bs.length
  · have h1' : (3000 : Int) < (bs.length : Int):=by omega
    simp [ir15,h.isSl,hl,h1,h1']
  · have h1' : ¬ (3000 : Int) < (bs.length : Int):=by omega
    by_cases h2 : 3000 < cs.length
    · have h2' : (3000 : Int) < (cs.length : Int):=by omega
      simp [ir15,h.isSl,hl,k.isSl,kl,h1,h1',h2,h2']
    · have h2' : ¬ (3000 : Int) < (cs.length : Int):=by omega
      simp [ir15,h.isSl,hl,k.isSl,kl,h1,h1',h2,h2']
theorem l_at (bs : List Int) (v : BV) (a n : Nat) (H : BH) {ty : Nat} (h : Rd H ty v (bs.map encY)) (hb : ∀ b∈bs,0≤b∧b < 256) (hl : bs.length≤3000) (hn : 1≤n∧n≤1000000) :
    ∃ z : Nat,z < n∧Runs (gam base) 16 [v,encN a,encN n] H (encN z) H:=by
  have hvl : v.slen = bs.length:=by simpa using h.len
  by_cases hlt : a < bs.length
  · have hbi:=hb _ (List.getElem_mem hlt)
    have g1:=h.at (i:=a) (by simpa using hlt) (rt:=none) rfl
    have g1' : H.rd none none (v.sat a 1) = some (.int .u8 bs[a]):=by simpa [encY] using g1
    obtain ⟨c,hc⟩ : ∃ c : Nat,bs[a] = c:=⟨bs[a].toNat,by omega⟩
    rw [hc] at g1' hbi
    refine ⟨c % n,Nat.mod_lt _ (by omega),runs_of (fn:=ir16) rfl ?_⟩
    have h1 : ¬ (bs.length : Int)≤(a : Int):=by omega
    have h2 : ¬ (n : Int) < 1:=by omega
    have h3 : (n : Int)≠0:=by omega
    have h4 : ¬ n = 0:=by omega
    have wc : IntKind.i64.wrap (c : Int) = c:=w64 (by omega) (by omega)
    have hm : (c : Int).tmod (n : Int) = ((c % n : Nat) : Int):=tmodN c n
    simp [ir16,h.isSl,hvl,h1,h2,h3,h4,hlt,g1',wc,hm]
  · refine ⟨0,by omega,runs_of (fn:=ir16) rfl ?_⟩
    have h1 : (bs.length : Int)≤(a : Int):=by omega
    simp [ir16,h.isSl,hvl,h1]
theorem i_NumberWord (n : Nat) (hn : n≤1000000000) (H : BH) : FnDoes (gam base) 20 [encN n] H fun v _ => v = .tup [encW (wdN n),encN 0]:=by
  refine FnDoes.of (fn:=ir20) rfl ?_
  simp [ir20]
  refine callP (i_isNumber _ H) ?_
  have : inB (n : Int) 0 1000000000 = true:=by simp [inB]; omega
  rw [this]
  simp
  refine (i_word (base:=base) n hn H).step fun v K k hv => ?_
  subst hv
  rw [wordB_eq]
  simp
  exact k
theorem two_sum {a b : Int} (ha : -3≤a∧a≤3) (hb : -3≤b∧b≤3) (c : Nat) : -6≤sumsF [a,b] c∧sumsF [a,b] c≤6:=by
  show -6≤sumN [a,b] c 2∧sumN [a,b] c 2≤6
  simp only [sumN]
  split <;> split <;> simp <;> omega
theorem two_closed {a b c0 : Int} {kind : Int} (ha : -3≤a∧a≤3) (hb : -3≤b∧b≤3) (hc : -10≤c0∧c0≤10) : Closed (wd 2) (nxL kind (sumsF [a,b])) c0 (rangeU (-11) 23):=range_closed (by omega) fun c _ s h1 h2 => by
  have:=two_sum ha hb c
  omega
theorem two_terms {a b : Int} (ha : -3≤a∧a≤3) (hb : -3≤b∧b≤3) : Terms [a,b]:=⟨by simp,fun x hx => by
  simp at hx
  rcases hx with rfl | rfl <;> omega⟩
theorem mul_small {a : Int} {x : Nat} (ha : -3≤a∧a≤3) (hx : x < 64) : -200≤a * (x : Int)∧a * (x : Int)≤200:=by
  have : a = -3∨a = -2∨a = -1∨a = 0∨a = 1∨a = 2∨a = 3:=by omega
  rcases this with rfl | rfl | rfl | rfl | rfl | rfl | rfl <;> omega
theorem told_none {A : Aut} {c : Nat} (h : told A = (none,c)) : c = 3:=by
  unfold told at h
  split at h
  · cases h; rfl
  · cases h
theorem linN_none {kind c0 : Int} {terms U : List Int} {d : Nat} (h : linN kind c0 terms U = (none,d)) : d = 3:=by
  unfold linN at h
  obtain ⟨G,hG⟩ : ∃ G,G = told (TA terms.length ((linX kind c0 terms U).lang 0)):=⟨_,rfl⟩
  rw [← hG] at h
  obtain ⟨a,e⟩:=G
  cases a with
  | none =>
    have h : (none,e) = ((none,d) : Option Aut × Nat):=h
    have e3:=told_none hG.symm
    cases h
    exact e3
  | some X =>
    have h : joinN terms.length (fun a b => a && b) (X.lang 0) ((TA terms.length (LD (List.range terms.length))).lang 0) = (none,d):=h
    unfold joinN at h
    split at h
    · cases h; rfl
    · exact told_none h
theorem dot_two (a b : Int) (x y : Nat) : dotN [a,b] [x,y] 0 2 = a * (x : Int) + b * (y : Int):=by
  simp [dotN]
theorem law_Linear (bs cs : List Int) (v w : BV) (H : BH) {ty ty2 : Nat} (h : Rd H ty v (bs.map encY)) (k : Rd H ty2 w (cs.map encY)) (hb : ∀ b∈bs,0≤b∧b < 256) (hc : ∀ b∈cs,0≤b∧b < 256) :
    FnDoes (gam base) 4 [v,w] H fun r _ => r = .bool true:=by
  refine FnDoes.of (fn:=ir4) rfl ?_
  obtain ⟨b0,r0,hlen⟩:=l_long (base:=base) bs cs v w H h k
  simp [ir4]
  refine callP r0 ?_
  cases b0
  case true =>
    simp
    exact BH.Keeps.refl _
  obtain ⟨n1,n2⟩:=hlen rfl
  obtain ⟨x0,hx0,c0⟩:=l_at (base:=base) bs v 0 7 H h hb n1 (by omega)
  obtain ⟨x1,hx1,c1⟩:=l_at (base:=base) bs v 1 7 H h hb n1 (by omega)
  obtain ⟨a,ha⟩ : ∃ a : Int,a = (x0 : Int) - 3:=⟨_,rfl⟩
  obtain ⟨b,hbb⟩ : ∃ b : Int,b = (x1 : Int) - 3:=⟨_,rfl⟩
  have wa : IntKind.i64.wrap ((x0 : Int) - 3) = a:=by rw [w64 (by omega) (by omega),ha]
  have wb : IntKind.i64.wrap ((x1 : Int) - 3) = b:=by rw [w64 (by omega) (by omega),hbb]
  simp
  refine callP c0 ?_
  simp [wa]
  refine callP c1 ?_
  simp [wb]
  intro n5 b5 f5
  have o1:=Own.start (base:=base) (H:=H) |>.new f5 b5 (s:=.arr 2 [.int .i64 a,.int .i64 b])
  obtain ⟨H1,hH1⟩ : ∃ H1,H1 = H.set n5 (.arr 2 [.int .i64 a,.int .i64 b]):=⟨_,rfl⟩
  have hv5 : Rd _ 2 (.sl n5 0 2) (([a,b] : List Int).map encI):=o1.rd 0 rfl rfl
  simp [make_of f5 b5]
  rw [← hH1] at o1 hv5 ⊢
  have h1:=h.keeps o1.keeps
  have k1:=k.keeps o1.keeps
  obtain ⟨x2,hx2,c2⟩:=l_at (base:=base) bs v 2 21 H1 h1 hb n1 (by omega)
  obtain ⟨x3,hx3,c3⟩:=l_at (base:=base) bs v 3 2 H1 h1 hb n1 (by omega)
  obtain ⟨c,hcc⟩ : ∃ c : Int,c = (x2 : Int) - 10:=⟨_,rfl⟩
  obtain ⟨kind,hkk⟩ : ∃ kind : Int,kind = 1 + (x3 : Int):=⟨_,rfl⟩
  have wc : IntKind.i64.wrap ((x2 : Int) - 10) = c:=by rw [w64 (by omega) (by omega),hcc]
  have wk : IntKind.i64.wrap (1 + (x3 : Int)) = kind:=by rw [w64 (by omega) (by omega),hkk]
  have hkd : kind = 1∨kind = 2:=by omega
  have hA : -3≤a∧a≤3:=by omega
  have hB : -3≤b∧b≤3:=by omega
  have hC : -10≤c∧c≤10:=by omega
  clear ha hbb hcc hkk wa wb c0 c1
  refine callP c2 ?_
  simp [wc]
  refine callP c3 ?_
  simp [wk]
  clear c2 c3 wc wk hx0 hx1 hx2 hx3
  have hU:=two_closed (kind:=kind) hA hB hC
  have hT:=two_terms hA hB
  have hbig:=rangeU_big (lo:=-11) (n:=23) (by decide)
  have hli:=fun (K : BH) (hv : Rd K 2 (.sl n5 0 2) (([a,b] : List Int).map encI)) => i_LinearRelation (base:=base) kind hkd [a,b] hT (by simp) c (by omega) (rangeU (-11) 23) hU (by rw [rangeU_len]; omega) hbig _ K hv
  have hls:=fun (K : BH) (hv : Rd K 2 (.sl n5 0 2) (([a,b] : List Int).map encI)) => s_LinearRelation (base:=base) kind hkd [a,b] hT (by simp) c (by omega) (rangeU (-11) 23) hU (by show 2 ^ 2 * (rangeU (-11) 23).length + 1≤150; rw [rangeU_len]; decide) hbig _ K hv
  have hg : GoodC 2 (linN kind c [a,b] (rangeU (-11) 23)):=linN_good (terms:=[a,b]) (by simp) hU
  have hno:=fun d => linN_none (kind:=kind) (c0:=c) (terms:=[a,b]) (U:=rangeU (-11) 23) (d:=d)
  have hho:=fun (W : Aut) (d : Nat) (e : linN kind c [a,b] (rangeU (-11) 23) = (some W,d)) (x y : Nat) => linN_holds hkd hT hU (by omega) e [x,y] rfl
  have hli : ∀ (K : BH),Rd K 2 (.sl n5 0 2) (([a,b] : List Int).map encI)→FnDoes (gam base) 17 [encI kind,.sl n5 0 2,encI c] K fun r K' => RelR base K 2 (linN kind c [a,b] (rangeU (-11) 23)) r K':=hli
  have hls : ∀ (K : BH),Rd K 2 (.sl n5 0 2) (([a,b] : List Int).map encI)→FnDoes (gam base) 18 [encI kind,.sl n5 0 2,encI c] K fun r K' => RelR base K 2 (linN kind c [a,b] (rangeU (-11) 23)) r K':=hls
  obtain ⟨G,hG⟩ : ∃ G,G = linN kind c [a,b] (rangeU (-11) 23):=⟨_,rfl⟩
  rw [← hG] at hli hls hg hno hho
  refine (hli H1 hv5).step fun r1 L1 l1 hr1 => ?_
  obtain ⟨m1,rfl,hm1⟩:=hr1.out
  obtain ⟨ta,tb,ut,xt,e1,p1,p2,p3,p4⟩:=hm1.ones
  subst e1
  simp [p1,p2,p3,p4]
  intro n8 b8 f8
  obtain ⟨K2,g2,k2,r8,-,-⟩:=lay f8 b8 (a:=ta) (b:=tb) (c:=ut) (d:=xt) (by simp [p1,p2,p3,p4])
  have hm1:=hm1.keeps k2
  have o2:=o1.call (l1.trans k2)
  simp [make_of f8 b8,g2]
  refine (hls K2 (hv5.keeps (l1.trans k2))).step fun r2 L2 l2 hr2 => ?_
  obtain ⟨m2,rfl,hm2⟩:=hr2.out
  obtain ⟨sa,sb,su,sx,e2,q1,q2,q3,q4⟩:=hm2.ones
  subst e2
  simp [q1,q2,q3,q4]
  intro n10 b10 f10
  obtain ⟨K3,g3,k3,r10,-,-⟩:=lay f10 b10 (a:=sa) (b:=sb) (c:=su) (d:=sx) (by simp [q1,q2,q3,q4])
  have hm1:=hm1.keeps (l2.trans k3)
  have hm2:=hm2.keeps k3
  have r8:=rd_keeps (l2.trans k3) r8
  have o3:=o2.call (l2.trans k3)
  obtain ⟨z,cG⟩:=G
  cases z with
  | none =>
    have e3 : cG = 3:=hno cG rfl
    subst e3
    simp [make_of f10 b10,g3]
    exact o3.keeps
  | some W =>
    have e0 : cG = 0:=hg.1
    subst e0
    simp [make_of f10 b10,g3,r8,r10]
    have w1:=RdRel.raw (H:=K3) (t:=2) (s:=0) (A:=W) hm1
    have w2:=RdRel.raw (H:=K3) (t:=2) (s:=0) (A:=W) hm2
    have hl150:=hg.2.2
    have hnx : W.nxt.length = W.acc.length:=hg.2.1.len
    refine (s_SameRel (base:=base) _ _ _ _ _ _ K3 w1 w2 (by omega) (by simp; omega) (fun r hr => by
      obtain ⟨r',hr',rfl⟩:=List.mem_map.1 hr
      have:=(hg.2.1.row r' hr').1
      rw [List.length_map,this]
      decide)).step fun v4 K4 k4 hv4 => ?_
    subst hv4
    simp
    have o4:=o3.call k4
    have k4':=k.keeps o4.keeps
    obtain ⟨x,hx,cx⟩:=l_at (base:=base) cs w 0 64 K4 k4' hc n2 (by omega)
    obtain ⟨y,hy,cy⟩:=l_at (base:=base) cs w 1 64 K4 k4' hc n2 (by omega)
    refine callP cx ?_
    simp
    refine callP cy ?_
    simp
    refine (i_NumberWord (base:=base) x (by omega) K4).step fun v5 K5 k5 hv5' => ?_
    subst hv5'
    simp
    refine (i_NumberWord (base:=base) y (by omega) K5).step fun v6 K6 k6 hv6 => ?_
    subst hv6
    have r8:=rd_keeps (k4.trans (k5.trans k6)) r8
    simp [r8]
    intro n86 b86 f86
    have o7:=(Own.start (base:=base) (H:=K6)).new f86 b86 (s:=.arr 9 [encW (wdN x),encW (wdN y)])
    have hws : Rd _ 9 (.sl n86 0 2) (([wdN x,wdN y] : List (List Nat)).map encW):=o7.rd 0 rfl rfl
    simp [make_of f86 b86]
    have o6:=(o4.call (k5.trans k6)).call o7.keeps
    have lx:=wdN_len (n:=x) (by omega)
    have ly:=wdN_len (n:=y) (by omega)
    refine (i_Holds (base:=base) 2 0 (by decide) (by decide) W [wdN x,wdN y] _ (.sl n86 0 2) _ (RdRel.keeps hm1 (k4.trans (k5.trans (k6.trans o7.keeps)))) hg.2.1 hg.2.1.pos hg.2.2 hws (fun u hu => by
      simp only [List.mem_cons,List.not_mem_nil,or_false] at hu
      rcases hu with rfl | rfl
      · exact ⟨wdN_w x,by omega⟩
      · exact ⟨wdN_w y,by omega⟩) rfl).step fun v8 K8 k8 hv8 => ?_
    have hans : W.lang 0 (colsW [wdN x,wdN y]) = sumOk kind (dotN [a,b] [x,y] 0 2) c:=hho W 0 rfl x y
    rw [dot_two] at hans
    have ma:=mul_small hA hx
    have mb:=mul_small hB hy
    obtain ⟨P,hP⟩ : ∃ P,P = a * (x : Int):=⟨_,rfl⟩
    obtain ⟨Q,hQ⟩ : ∃ Q,Q = b * (y : Int):=⟨_,rfl⟩
    obtain ⟨S,hS⟩ : ∃ S,S = P + Q:=⟨_,rfl⟩
    rw [← hP] at ma
    rw [← hQ] at mb
    rw [← hP,← hQ,← hS] at hans
    have wP : IntKind.i64.wrap P = P:=w64 (by omega) (by omega)
    have wQ : IntKind.i64.wrap Q = Q:=w64 (by omega) (by omega)
    have wS : IntKind.i64.wrap (P + Q) = S:=by rw [w64 (by omega) (by omega),hS]
    have hso : sumOk kind S c = (decide (S = c) || (decide (kind = 2) && decide (S < c))):=by
      unfold sumOk
      rcases hkd with h | h <;> subst h
      · simp
      · by_cases h1 : S = c
        · simp [h1]
        · by_cases h2 : S < c
          · have : S≤c:=by omega
            simp [h1,h2,this]
          · have : ¬ S≤c:=by omega
            simp [h1,h2,this]
    rw [hans,hso] at hv8
    clear hans hso hS hno hho hli hls
    subst hv8
    have o8:=o6.call k8
    have t0:=rd_ptr (o8.at 0 (b:=n5) rfl) (rt:=none) (j:=0) (c:=.int .i64 a) rfl rfl
    have t1:=rd_ptr (o8.at 0 (b:=n5) rfl) (rt:=none) (j:=1) (c:=.int .i64 b) rfl rfl
    have hfin:=o8.keeps
    by_cases h1 : S = c
    · have h1' : (S == c) = true:=by simpa using h1
      simp [t0,t1,← hP,← hQ,wP,wQ,wS,h1,h1',hfin]
    · have h1' : (S == c) = false:=by simpa using h1
      by_cases h2 : kind = 2
      · have h2' : (kind == 2) = true:=by simpa using h2
        by_cases h3 : S < c
        · simp [t0,t1,← hP,← hQ,wP,wQ,wS,h1,h1',h2,h2',h3,hfin]
        · simp [t0,t1,← hP,← hQ,wP,wQ,wS,h1,h1',h2,h2',h3,hfin]
      · have h2' : (kind == 2) = false:=by simpa using h2
        simp [t0,t1,← hP,← hQ,wP,wQ,wS,h1,h1',h2,h2',hfin]
end Go.Proofs.YtbnmhbmhafbmiaaGreatDoor.W
end

section
namespace Go.Proofs.YtbnmhbmhafbmiaaGreatDoor.W
set_option linter.unusedVariables false
set_option linter.unusedSimpArgs false
open Go.B
variable {base : Nat}
attribute [local simp] wpC_skip wpC_region wpC_seq wpC_true wpC_false wpC_block wpC_exit wpC_ret wpO_nil wpO_n wpO_tt wpO_ff wpO_tf wpO_ft wpO_u wpS_mov wpS_pick wpS_build wpS_load wpS_store wpS_nilck wpS_bin wpS_beq wpS_isnil wpS_eqs wpS_not wpS_neg wpS_conv wpS_lea wpS_fld wpS_idx wpS_idxs wpS_slice wpS_sslice wpS_mkfn wpS_mset wpS_look wpS_ext wpS_len wpS_new wpS_box wpS_mk wpS_mkmap wpS_mksl wpS_app wpS_fn wpS_call after_some pthen_n pthen_x pthen_r pin BExit.outOf puto_some puto_none put_eq put_ne Opd.ev argEnv op1_mov op1_pick op1_new op1_box op1_load op1_nilck op1_bin op1_beq op1_not op1_neg op1_conv op1_lea op1_fld op1_len0 op1_len1 op1_idx op1_ext op1_build op1_mk op1_stw op1_mksl op1_eqs pureBin isShift resOf resVals val_tmp val_cell oneOf one_int cells_int one_bool cells_bool one_str cells_str one_nilp cells_nilp one_ptr cells_ptr one_nils cells_nils one_sl cells_sl one_sle cells_sle one_nilm cells_nilm one_mp cells_mp one_nilf cells_nilf one_fn cells_fn one_nili cells_nili cells_agg isSl_sl slen_sl sat_sl make_of asm rtOk wpS_b2s op1_b2s wpS_imax op1_imax wpS_imin op1_imin wpS_i2s op1_i2s op1_isnil Option.map_some gam_base op1_app op1_idxs wpS_idxa op1_idxa op1_sslice bound_none bound_some nat_of op1_mkmap op1_mset op1_look op1_len2 op1_mkfn Go.B.fillB Has
section
variable {H : Type} {enc : TypeId × Value→H} {W : World} {held : Bool}
theorem sls_nil (w : World) (ty sz : Nat) : Sls (heap0 w) ty sz (absV w (.slice none 0 0)) []:=⟨rfl,rfl,fun i x hi => by simp at hi⟩
theorem u2 : Tryz.prog.underlying 2 = some (.int .i64):=by kernel_rfl
theorem u4 : Tryz.prog.underlying 4 = some .bool:=by kernel_rfl
end
section
variable {H : Type} {enc : TypeId × Value→H} {W : World} {held : Bool}
theorem u8s : Tryz.prog.underlying 33 = some (.slice 5):=by kernel_rfl
theorem u8k : Tryz.prog.underlying 5 = some (.int .u8):=by kernel_rfl
theorem open_u8s {a : Addr} {L C : Nat} {Z : List Int} (hl : L≤C) (hz : Z.length = C) (hcell : ∀ c,c < C→W.cell? (a.add c) = some (.int .u8 (Z.getD c 0))) :
    ∃ ty,Rd (heap0 W) ty (absV W (.slice (some a) L C)) ((Z.take L).map encY):=by
  obtain ⟨ty,hs⟩:=Sls.start (w:=W) (a:=a) (n:=L) (c:=C) (sz:=1) (xs:=(Z.take L).map fun z => [Value.int .u8 z]) (by simp; omega) hl (by omega) (fun x hx => by
    obtain ⟨z,_,rfl⟩:=List.mem_map.1 hx
    rfl) (by
    intro i x hi j v hj
    rw [List.getElem?_map] at hi
    simp only [Option.map_eq_some_iff] at hi
    obtain ⟨k,hk,rfl⟩:=hi
    obtain ⟨hlt,hkv⟩:=List.getElem?_eq_some_iff.1 hk
    rw [List.length_take] at hlt
    rw [List.getElem_take] at hkv
    cases j with
    | zero =>
      simp at hj
      subst hj
      have:=hcell i (by omega)
      rw [List.getD_eq_getElem?_getD,List.getElem?_eq_getElem (by omega)] at this
      rw [← hkv]
      simpa using this
    | succ j => simp at hj)
  refine ⟨ty,?_⟩
  unfold Rd
  simpa [List.map_map,Function.comp_def,absV,toB1,one1,encY] using hs
set_option maxRecDepth 100000 in
theorem open_bytesL {r : Reach} {b0 : Nat} {c : Value} {d : DataW H} {ps : List MemPlace} (hval : Value.okWide Tryz.prog W r b0 33 c) (h : DataW.Trod enc Tryz.prog W 0 (fun _ => true) held 33 c d ps) :
    ∃ (ns : List Int) (ty : Nat),Rd (heap0 W) ty (absV W c) (ns.map encY)∧∀ b∈ns,0≤b∧b < 256:=by
  obtain ⟨fuel,h⟩:=h
  obtain ⟨a0,len0,cap0,rfl⟩:=Go.WideShapes.okWide_slice u8s hval
  rw [show (Value.slice a0 len0 cap0).cells.toList = [.slice a0 len0 cap0] from rfl] at h
  rcases Go.ChangeShapes.open_ints u8s u8k (by kernel_rfl) h with ⟨e,_⟩ | ⟨a,len,cap,zs,e,hb,hl,hm,hz,hy,hcell,hwz⟩
  · simp at e
    obtain ⟨rfl,rfl,rfl⟩:=e
    exact ⟨[],0,sls_nil W 0 1,by simp⟩
  · simp at e
    obtain ⟨rfl,rfl,rfl⟩:=e
    simp only [if_true] at hz
    obtain ⟨ty,hty⟩:=open_u8s (W:=W) (a:=a) hl hz (fun i hi => hcell i (by rw [hz]; exact hi))
    refine ⟨zs.take len0,ty,hty,fun b hb => ?_⟩
    have:=hwz b (List.mem_of_mem_take hb)
    simp only [Lit.wf,Bool.and_eq_true,decide_eq_true_eq] at this
    have e1 : IntKind.min .u8 = 0:=by decide
    have e2 : IntKind.max .u8 = 255:=by decide
    rw [e1,e2] at this
    omega
end
end Go.Proofs.YtbnmhbmhafbmiaaGreatDoor.W
end

section
namespace Go.Proofs
open Go.Shelf Go.B
def Tryz.laysItoa_ren : Go.Shelf.Ren:=⟨fun | 171 => 210 | 243 => 239 | 246 => 256 | 283 => 260 | 284 => 261 | 285 => 262 | 286 => 263 | 129 => 233 | 317 => 266 | 318 => 267 | 319 => 268 | 320 => 269 | 337 => 270 | 338 => 271 | n => n,fun | 3 => 3 | 9 => 9 | 2 => 2 | 4 => 4 | 171 => 234 | 0 => 0 | 53 => 204 | 37 => 33 | 5 => 5 | 173 => 236 | 212 => 239 | 51 => 202 | 20 => 20 | 213 => 240 | 46 => 105 | 232 => 241 | 233 => 242 | n => n,fun | 17 => 3 | 18 => 4 | 19 => 5 | n => n⟩
theorem Tryz.laysItoa : Go.Proofs.LaysM.n171 Tryz.prog Tryz.laysItoa_ren where
  mixed:=by kernel_rfl
  f129:=Tryz.func233.trans (congrArg some (by kernel_rfl))
  f171:=Tryz.func210.trans (congrArg some (by kernel_rfl))
  f243:=Tryz.func239.trans (congrArg some (by kernel_rfl))
  f246:=Tryz.func256.trans (congrArg some (by kernel_rfl))
  f283:=Tryz.func260.trans (congrArg some (by kernel_rfl))
  f284:=Tryz.func261.trans (congrArg some (by kernel_rfl))
  f285:=Tryz.func262.trans (congrArg some (by kernel_rfl))
  f286:=Tryz.func263.trans (congrArg some (by kernel_rfl))
  f317:=Tryz.func266.trans (congrArg some (by kernel_rfl))
  f318:=Tryz.func267.trans (congrArg some (by kernel_rfl))
  f319:=Tryz.func268.trans (congrArg some (by kernel_rfl))
  f320:=Tryz.func269.trans (congrArg some (by kernel_rfl))
  f337:=Tryz.func270.trans (congrArg some (by kernel_rfl))
  f338:=Tryz.func271.trans (congrArg some (by kernel_rfl))
  t0:=Tryz.underlying0
  a0:=Tryz.isAgg0
  z0:=Tryz.sizeOf0
  v0:=Tryz.zeroValue0
  t2:=Tryz.underlying2
  a2:=Tryz.isAgg2
  z2:=Tryz.sizeOf2
  v2:=Tryz.zeroValue2
  t3:=Tryz.underlying3
  a3:=Tryz.isAgg3
  z3:=Tryz.sizeOf3
  v3:=Tryz.zeroValue3
  t4:=Tryz.underlying4
  a4:=Tryz.isAgg4
  z4:=Tryz.sizeOf4
  v4:=Tryz.zeroValue4
  t5:=Tryz.underlying5
  a5:=Tryz.isAgg5
  z5:=Tryz.sizeOf5
  v5:=Tryz.zeroValue5
  t9:=Tryz.underlying9
  a9:=Tryz.isAgg9
  z9:=Tryz.sizeOf9
  v9:=Tryz.zeroValue9
  t20:=Tryz.underlying20
  a20:=Tryz.isAgg20
  z20:=Tryz.sizeOf20
  v20:=Tryz.zeroValue20
  t37:=Tryz.underlying33
  a37:=Tryz.isAgg33
  z37:=Tryz.sizeOf33
  v37:=Tryz.zeroValue33
  t46:=Tryz.underlying105
  a46:=Tryz.isAgg105
  z46:=Tryz.sizeOf105
  v46:=Tryz.zeroValue105
  t51:=Tryz.underlying202
  a51:=Tryz.isAgg202
  z51:=Tryz.sizeOf202
  v51:=Tryz.zeroValue202
  t53:=Tryz.underlying204
  a53:=Tryz.isAgg204
  z53:=Tryz.sizeOf204
  v53:=Tryz.zeroValue204
  t171:=Tryz.underlying234
  a171:=Tryz.isAgg234
  z171:=Tryz.sizeOf234
  v171:=Tryz.zeroValue234
  t173:=Tryz.underlying236
  a173:=Tryz.isAgg236
  z173:=Tryz.sizeOf236
  v173:=Tryz.zeroValue236
  t212:=Tryz.underlying239
  a212:=Tryz.isAgg239
  z212:=Tryz.sizeOf239
  v212:=Tryz.zeroValue239
  t213:=Tryz.underlying240
  a213:=Tryz.isAgg240
  z213:=Tryz.sizeOf240
  t232:=Tryz.underlying241
  a232:=Tryz.isAgg241
  z232:=Tryz.sizeOf241
  v232:=Tryz.zeroValue241
  t233:=Tryz.underlying242
  a233:=Tryz.isAgg242
  z233:=Tryz.sizeOf242
  v233:=Tryz.zeroValue242
  g17:=by kernel_rfl
  g18:=by kernel_rfl
  g19:=by kernel_rfl
  i0:=by kernel_rfl
  i2:=by kernel_rfl
  i3:=by kernel_rfl
  i4:=by kernel_rfl
  i5:=by kernel_rfl
  i9:=by kernel_rfl
  i20:=by kernel_rfl
  i37:=by kernel_rfl
  i46:=by kernel_rfl
  i51:=by kernel_rfl
  i53:=by kernel_rfl
  i171:=by kernel_rfl
  i173:=by kernel_rfl
  i212:=by kernel_rfl
  i232:=by kernel_rfl
  i233:=by kernel_rfl
  m17:=by kernel_rfl
  m18:=by kernel_rfl
  m19:=by kernel_rfl
def Tryz.laysDel_ren : Go.Shelf.Ren:=⟨fun | 23 => 185 | n => n,fun | 22 => 80 | 3 => 3 | 4 => 4 | 0 => 0 | n => n,fun | n => n⟩
theorem Tryz.laysDel : Go.Proofs.Lays2.n23 Tryz.prog Tryz.laysDel_ren where
  mixed:=by kernel_rfl
  f23:=Tryz.func185.trans (congrArg some (by kernel_rfl))
  t0:=Tryz.underlying0
  a0:=Tryz.isAgg0
  z0:=Tryz.sizeOf0
  v0:=Tryz.zeroValue0
  t3:=Tryz.underlying3
  a3:=Tryz.isAgg3
  z3:=Tryz.sizeOf3
  v3:=Tryz.zeroValue3
  t4:=Tryz.underlying4
  a4:=Tryz.isAgg4
  z4:=Tryz.sizeOf4
  v4:=Tryz.zeroValue4
  t22:=Tryz.underlying80
  a22:=Tryz.isAgg80
  z22:=Tryz.sizeOf80
  v22:=Tryz.zeroValue80
  i3:=by kernel_rfl
def Tryz.laysIns_ren : Go.Shelf.Ren:=⟨fun | 21 => 213 | 27 => 240 | 28 => 241 | 35 => 257 | 39 => 264 | n => n,fun | 22 => 80 | 3 => 3 | 4 => 4 | 0 => 0 | n => n,fun | n => n⟩
theorem Tryz.laysIns : Go.Proofs.Lays2.n21 Tryz.prog Tryz.laysIns_ren where
  mixed:=by kernel_rfl
  f21:=Tryz.func213.trans (congrArg some (by kernel_rfl))
  f27:=Tryz.func240.trans (congrArg some (by kernel_rfl))
  f28:=Tryz.func241.trans (congrArg some (by kernel_rfl))
  f35:=Tryz.func257.trans (congrArg some (by kernel_rfl))
  f39:=Tryz.func264.trans (congrArg some (by kernel_rfl))
  t0:=Tryz.underlying0
  a0:=Tryz.isAgg0
  z0:=Tryz.sizeOf0
  v0:=Tryz.zeroValue0
  t3:=Tryz.underlying3
  a3:=Tryz.isAgg3
  z3:=Tryz.sizeOf3
  v3:=Tryz.zeroValue3
  t4:=Tryz.underlying4
  a4:=Tryz.isAgg4
  z4:=Tryz.sizeOf4
  v4:=Tryz.zeroValue4
  t22:=Tryz.underlying80
  a22:=Tryz.isAgg80
  z22:=Tryz.sizeOf80
  v22:=Tryz.zeroValue80
  i3:=by kernel_rfl
theorem tryz_ext {base : Nat} {w0 : World} (htab : Lib.TabIs Tryz.prog w0 "internal/strconv.uint64pow10" .u64 Lib.pow10Tab) : Sound Tryz.prog base w0 False (orC (itoaB 210) (orC (delB base 185 3) (insB base 213 3))) :=
  orC_sound (itoaB_sound (enters_of Tryz.func210 rfl rfl) htab fun n h0 h1 w ht => Any.strconv_Itoa Tryz.laysItoa n h0 h1 w ht)
    (orC_sound (delB_sound (enters_of Tryz.func185 rfl rfl) (by kernel_rfl) fun blk off cap i j zs w hH hc hm hij hj => Any.slices_Delete_int Tryz.laysDel blk off cap i j zs w hH hc hm hij hj)
      (insB_sound (enters_of Tryz.func213 rfl rfl) (by kernel_rfl) (insDoes_of Tryz.laysIns)))
theorem tryz_framed {base : Nat} : Framed (orC (itoaB 210) (orC (delB base 185 3) (insB base 213 3))):=orC_framed (itoaB_framed 210) (orC_framed (delB_framed base 185 3) (insB_framed base 213 3))
end Go.Proofs
end
