/-
Texts of our own, put together: F4, F5, F6, F7, H1, H2, H3, H4, H5, H6, H7, H8, H9, H10, H11, H12, J1, J2, J3, J4, J5, Y1, Y2, Y3, Y4, Y5, O1, X1.
-/
import Derived.Test.YtbnmhbmhafbmiaaGreatDoorK6
import Derived.Lib.SmallJoins
import Derived.Deep.Grids
import Derived.Deep.Matrix
import Derived.ChangeArms
import Derived.KernelRfl
import Derived.Shelf.Strconv.Itoa3
import Derived.Shelf.Slices.Delete
import Derived.Shelf.Abstract
import Derived.Ground.NamesProg
import Derived.Ground.Names2Prog
section
namespace Go.Proofs.YtbnmhbmhafbmiaaGreatDoor.W
set_option linter.unusedVariables false
set_option linter.unusedSimpArgs false
open Go.B
open Go.Au
variable {base : Nat}
attribute [local simp] wpC_skip wpC_region wpC_seq wpC_true wpC_false wpC_block wpC_exit wpC_ret wpO_nil wpO_n wpO_tt wpO_ff wpO_tf wpO_ft wpO_u wpS_mov wpS_pick wpS_build wpS_load wpS_store wpS_nilck wpS_bin wpS_beq wpS_isnil wpS_eqs wpS_not wpS_neg wpS_conv wpS_lea wpS_fld wpS_idx wpS_idxs wpS_slice wpS_sslice wpS_mkfn wpS_mset wpS_look wpS_ext wpS_len wpS_new wpS_box wpS_mk wpS_mkmap wpS_mksl wpS_app wpS_fn wpS_call after_some pthen_n pthen_x pthen_r pin BExit.outOf puto_some puto_none put_eq put_ne Opd.ev argEnv op1_mov op1_pick op1_new op1_box op1_load op1_nilck op1_bin op1_beq op1_not op1_neg op1_conv op1_lea op1_fld op1_len0 op1_len1 op1_idx op1_ext op1_build op1_mk op1_stw op1_mksl op1_eqs pureBin isShift resOf resVals val_tmp val_cell oneOf one_int cells_int one_bool cells_bool one_str cells_str one_nilp cells_nilp one_ptr cells_ptr one_nils cells_nils one_sl cells_sl one_sle cells_sle one_nilm cells_nilm one_mp cells_mp one_nilf cells_nilf one_fn cells_fn one_nili cells_nili cells_agg isSl_sl slen_sl sat_sl make_of asm rtOk wpS_b2s op1_b2s wpS_imax op1_imax wpS_imin op1_imin wpS_i2s op1_i2s op1_isnil Option.map_some gam_base op1_app op1_idxs wpS_idxa op1_idxa op1_sslice bound_none bound_some nat_of op1_mkmap op1_mset op1_look op1_len2 op1_mkfn Go.B.fillB Has
def mvI (k : Int) : Int:=if k = oddI then 0 else k
def dZ (ks : List Int) : Int:=if oddI∈ks then ((pos ks oddI : Nat) : Int) else -1
def fZ (ks : List Int) (l : Int) (n : Nat) : Int:=if l∈ks.take n then ((pos ks l : Nat) : Int) else -1
theorem half_eq (d : Int) : (d - (d.tmod 2 + 2).tmod 2).tdiv 2 = d / 2:=by
  rcases Int.le_total 0 d with h | h
  · rw [Int.tmod_eq_emod_of_nonneg h,Int.tmod_eq_emod_of_nonneg (by omega)]
    rw [Int.tdiv_eq_ediv_of_nonneg (by omega)]
    omega
  · obtain ⟨n,rfl⟩ : ∃ n,d = -n:=⟨-d,by omega⟩
    rw [Int.neg_tmod,Int.tmod_eq_emod_of_nonneg (by omega : 0≤n),Int.tmod_eq_emod_of_nonneg (by omega)]
    have e : -n - (-(n % 2) + 2) % 2 = -(n + (-(n % 2) + 2) % 2):=by omega
    rw [e,Int.neg_tdiv,Int.tdiv_eq_ediv_of_nonneg (by omega)]
    omega
theorem tmod_2 (d : Int) : -1≤d.tmod 2∧d.tmod 2≤1:=by
  rcases Int.le_total 0 d with h | h
  · rw [Int.tmod_eq_emod_of_nonneg h]
    omega
  · obtain ⟨n,rfl⟩ : ∃ n,d = -n:=⟨-d,by omega⟩
    rw [Int.neg_tmod,Int.tmod_eq_emod_of_nonneg (by omega : 0≤n)]
    omega
theorem dZ_at {ks : List Int} (hn : ks.Nodup) {i : Nat} {k : Int} (h : ks[i]? = some k) : (((i : Nat) : Int) == dZ ks) = decide (k = oddI):=by
  obtain ⟨hi,he⟩:=List.getElem?_eq_some_iff.1 h
  unfold dZ
  by_cases hk : k = oddI
  · have hm : oddI∈ks:=by rw [← hk,← he]; exact List.getElem_mem hi
    have:=idx_of_get hn hi
    rw [he,hk] at this
    simp [hm,hk,this]
  · by_cases hm : oddI∈ks
    · obtain ⟨hlt,hq⟩:=idx_get hm
      have hne : i≠pos ks oddI:=by
        intro e
        subst e
        rw [hq] at he
        exact hk he.symm
      have hne' : ¬ ((i : Nat) : Int) = ((pos ks oddI : Nat) : Int):=by omega
      simp [hm,hk,hne']
    · simp [hm,hk]
theorem dZ_neg {ks : List Int} : (dZ ks < 0)↔oddI ∉ ks:=by
  unfold dZ
  split
  · next h => simp [h]
  · next h => simp [h]
theorem dZ_mem {ks : List Int} (h : oddI∈ks) : dZ ks = ((pos ks oddI : Nat) : Int):=if_pos h
theorem dZ_mem_enc {ks : List Int} (h : oddI∈ks) : [encI (dZ ks)] = [pos ks oddI].map encN:=by rw [dZ_mem h]; rfl
theorem dZ_add {ks : List Int} {l : Int} (h : l≠oddI) : dZ (addK ks l) = dZ ks:=by
  unfold dZ addK
  by_cases hl : l∈ks
  · simp [hl]
  · by_cases hm : oddI∈ks
    · have e : pos (ks++[l]) oddI = pos ks oddI:=idx_pre (List.prefix_append _ _) hm
      simp [hl,hm,e]
    · have : ¬ oddI = l:=fun e => h e.symm
      simp [hl,hm,this]
theorem fZ_zero (ks : List Int) (l : Int) : fZ ks l 0 = -1:=by simp [fZ]
theorem fZ_all (ks : List Int) (l : Int) : fZ ks l ks.length = if l∈ks then ((pos ks l : Nat) : Int) else -1:=by simp [fZ]
theorem fZ_hit {ks : List Int} (hn : ks.Nodup) {n : Nat} {l : Int} (h : ks[n]? = some l) : fZ ks l (n + 1) = (n : Int):=by
  obtain ⟨hi,he⟩:=List.getElem?_eq_some_iff.1 h
  have:=idx_of_get hn hi
  rw [he] at this
  have hm : l∈ks.take (n + 1):=by rw [List.take_add_one,h]; simp
  unfold fZ
  rw [if_pos hm,this]
theorem fZ_miss {ks : List Int} {n : Nat} {k l : Int} (h : ks[n]? = some k) (hk : k≠l) : fZ ks l (n + 1) = fZ ks l n:=by
  unfold fZ
  have e : l∈ks.take (n + 1)↔l∈ks.take n:=by
    rw [List.take_add_one,h]
    simp
    intro e
    exact absurd e.symm hk
  simp only [e]
theorem s_raw (kind : Int) (hkd : kind = 1∨kind = 2) (terms : List Int) (hT : Terms terms) (c0 : Int) (hc0 : c0≠oddI) (U : List Int) (hU : Closed (wd terms.length) (nxL kind (sumsF terms)) c0 U) (hUl : U.length≤150)
    (hUb : ∀ s∈U,-1100000000000≤s∧s≤1100000000000) (v : BV) (H : BH) (hv : Rd H 2 v (terms.map encI)) :
    FnDoes (gam base) 49 [encI kind,v,encI c0] H fun r K => RelR base H terms.length (some (linX kind c0 terms U),0) r K:=by
  obtain ⟨R,hR⟩ : ∃ R : BV→BH→Prop,R = fun r K => RelR base H terms.length (some (linX kind c0 terms U),0) r K:=⟨_,rfl⟩
  rw [← hR]
  refine FnDoes.of (fn:=ir49) rfl ?_
  have hl3:=hT.1
  obtain ⟨KS,hKS⟩ : ∃ KS,KS = metL (succs (wd terms.length) (nxL kind (sumsF terms))) c0 U.length:=⟨_,rfl⟩
  have hKl : KS.length≤U.length:=by rw [hKS]; exact hU.len _
  have hdone:=hU.done
  have hX : linX kind c0 terms U = autOf (wd terms.length) (nxL kind (sumsF terms)) (accL kind) KS:=by rw [hKS]; rfl
  rw [hX] at hR
  obtain ⟨nx,hnx⟩ : ∃ nx,nx = nxL kind (sumsF terms):=⟨_,rfl⟩
  rw [← hnx] at hR hU hdone hKS
  obtain ⟨t,ht⟩ : ∃ t,t = terms.length:=⟨_,rfl⟩
  rw [← ht] at hR hU hdone hKS hl3
  have hw:=wd_3 hl3
  have pre : ∀ i,metL (succs (wd t) nx) c0 i <+: KS:=fun i => by
    rcases Nat.le_total i U.length with h | h
    · rw [hKS]; exact met_pre h
    · rw [hdone.eq h,hKS]; exact List.prefix_refl _
  have hln : (terms.map encI).length = t:=by rw [List.length_map,ht]
  have hvl:=hv.lenM
  rw [← ht] at hvl
  simp [ir49,hv.isSl,hvl]
  intro n6 b6 f6
  simp [make_of f6 b6,hv.isSl,hvl]
  intro n9 b9 f9
  have o1:=Own.start (base:=base) (H:=H) |>.new f6 b6 (s:=.arr 25 [.int .i64 0,.int .i64 0,.nils,.nils]) |>.new f9 b9 (s:=.arr 25 [.int .i64 0,.int .i64 0,.nils,.nils])
  obtain ⟨K2,g2,o2⟩:=o1.putAll 0 (b:=n9) (n:=4) (ds:=[encN t,.int .i64 0,.nils,.nils]) rfl rfl rfl rfl (rt:=none) rfl
  simp [make_of f9 b9,g2]
  intro n10 b10 f10
  have o3:=o2.new f10 b10 (s:=.arr 2 [encI c0])
  simp [make_of f10 b10]
  obtain ⟨I,hI⟩ : ∃ I : Nat→Env→BH→Prop,I = (fun i e K => e 12 = encN i∧∃ v10 u w b10 bo wo vs fr,e 10 = v10∧e 11 = encI (dZ (metL (succs (wd t) nx) c0 i))∧i≤(metL (succs (wd t) nx) c0 i).length ∧
      Own base H K ([(wo,.arr 36 vs),(bo,.arr 4 (((KS.take i).map (accL kind)).map encB)),(b10,.arr 2 ((metL (succs (wd t) nx) c0 i).map fun k => encI (mvI k))),
        (some n9,.arr 25 [encN t,.int .i64 0,u,w]),(some n6,.arr 25 [.int .i64 0,.int .i64 0,.nils,.nils])]++fr) ∧
      Vec b10 v10 (metL (succs (wd t) nx) c0 i).length∧Vec bo u i∧Vec wo w i∧vs.length = i∧RowsOf 2 vs fr (((KS.take i).map fun k => rowU KS nx k (wd t)).map (·.map encN))):=⟨_,rfl⟩
  refine wpC_countK U.length [(0,encI kind),(1,v),(6,.ptr n6 0),(8,encN t),(9,.ptr n9 0)] I (i0:=0) ?_ ?_ ?_ (Nat.zero_le _) ?_
  · rfl
  · simp
  · rw [hI]
    refine ⟨by simp,.sl n10 0 1,.nils,.nils,some n10,none,none,[],[],by simp,by simp [metL,dZ,hc0.symm],Nat.zero_le _,?_,rfl,Vec.none,Vec.none,rfl,trivial⟩
    have e : ((metL (succs (wd t) nx) c0 0).map fun k => encI (mvI k)) = [encI c0]:=by simp [metL,mvI,hc0]
    rw [e]
    exact (o3.nil (.arr 4 [])).nil (.arr 36 [])
  clear o1 o2 o3 g2
  rintro i e K hi ⟨e0,e1,e6,e8,e9,-⟩ hh
  rw [hI] at hh
  obtain ⟨e12,v10,u,w,b10,bo,wo,vs,fr,e10,e11,hil,o,hv10,hu,hw',hvs,hrows⟩:=hh
  simp only [] at e0 e1 e6 e8 e9
  have wi:=wS (n:=i) (by omega)
  by_cases hlt : i < (metL (succs (wd t) nx) c0 i).length
  · have hiN : i < U.length:=Nat.lt_of_lt_of_le hlt (hU.len i)
    obtain ⟨k,hkk⟩ : ∃ k,(metL (succs (wd t) nx) c0 i)[i]? = some k:=⟨_,List.getElem?_eq_getElem hlt⟩
    have hkU : k∈U:=hU.met i k (List.mem_of_getElem? hkk)
    have hKSi : KS[i]? = some k:=by
      obtain ⟨r,hr⟩:=pre i
      rw [← hr,List.getElem?_append_left hlt]
      exact hkk
    have hiKS : i < KS.length:=(List.getElem?_eq_some_iff.1 hKSi).1
    have hnext : metL (succs (wd t) nx) c0 (i + 1) = lsU (metL (succs (wd t) nx) c0 i) nx k (wd t):=by rw [metL,hkk]; rfl
    have hpre : ∀ c,c≤wd t→lsU (metL (succs (wd t) nx) c0 i) nx k c <+: KS:=fun c hc => (lsU_pre hc).trans (by rw [← hnext]; exact pre (i + 1))
    simp [e12,e10,hv10.isSl,hv10.len,hlt]
    intro n13 b13 f13
    have o4:=o.new f13 b13 (s:=.arr 2 [])
    simp [make_of f13 b13]
    obtain ⟨J,hJ⟩ : ∃ J : Nat→Env→BH→Prop,J = (fun c e K => e 14 = encN c∧∃ v10 v13 b10 b13,e 10 = v10∧e 13 = v13∧e 11 = encI (dZ (lsU (metL (succs (wd t) nx) c0 i) nx k c)) ∧
      Own base H K ([(b13,.arr 2 ((rowU KS nx k c).map encN)),(wo,.arr 36 vs),(bo,.arr 4 (((KS.take i).map (accL kind)).map encB)),(b10,.arr 2 ((lsU (metL (succs (wd t) nx) c0 i) nx k c).map fun k => encI (mvI k))),
        (some n9,.arr 25 [encN t,.int .i64 0,u,w]),(some n6,.arr 25 [.int .i64 0,.int .i64 0,.nils,.nils])]++fr) ∧
      Vec b10 v10 (lsU (metL (succs (wd t) nx) c0 i) nx k c).length∧Vec b13 v13 c):=⟨_,rfl⟩
    refine wpC_countK (wd t) [(0,encI kind),(1,v),(6,.ptr n6 0),(8,encN t),(9,.ptr n9 0),(12,encN i)] J (i0:=0) ?_ ?_ ?_ (Nat.zero_le _) ?_
    · rfl
    · simp [e0,e1,e6,e8,e9,e12]
    · rw [hJ]
      exact ⟨by simp,v10,.sl n13 0 0,b10,some n13,by simp [e10],by simp,by simp [e11,lsU_zero],o4,hv10,rfl⟩
    clear e0 e1 e6 e8 e9 e12 e10 e11 o o4 hv10
    rintro c e K hc ⟨e0,e1,e6,e8,e9,e12,-⟩ hh
    rw [hJ] at hh
    obtain ⟨e14,v10,v13,b10,b13,e10,e13,e11,o,hv10,hv13⟩:=hh
    simp only [] at e0 e1 e6 e8 e9 e12
    have wc:=wS (n:=c) (by omega)
    obtain ⟨ls,hls⟩ : ∃ ls,ls = lsU (metL (succs (wd t) nx) c0 i) nx k c:=⟨_,rfl⟩
    have hlsp:=hpre c hc
    have hlnd : ls.Nodup:=by rw [hls]; exact addAll_nodup (met_nodup i)
    have hlsk : ls[i]? = some k:=by
      rw [hls]
      obtain ⟨r,hr⟩:=(lsU_pre (ks:=metL (succs (wd t) nx) c0 i) (nx:=nx) (k:=k) (Nat.zero_le c))
      rw [← hr,lsU_zero,List.getElem?_append_left hlt]
      exact hkk
    have hlsU : ∀ x∈ls,x∈U:=fun x hx => by
      rw [hls] at hx
      obtain ⟨r,hr⟩:=hlsp
      have : x∈KS:=by rw [← hr]; exact List.mem_append_left _ hx
      rw [hKS] at this
      exact hU.met _ x this
    rw [← hls] at o hv10 e11 hlsp
    have hll:=hlsp.length_le
    have hil2 : i < ls.length:=(List.getElem?_eq_some_iff.1 hlsk).1
    simp [e8,e14]
    refine callP (s_wide t K (by omega)) ?_
    by_cases hcw : c < wd t
    · have hlsp1:=hpre (c + 1) hcw
      have hsu : lsU (metL (succs (wd t) nx) c0 i) nx k (c + 1) = addK ls (nx k c):=by rw [lsU_succ,← hls]
      rw [hsu] at hlsp1
      have g10:=(o.rd 3 rfl (v:=v10) (by simpa using hv10)).at (i:=i) (by simpa using hil2) (rt:=some 2) rfl
      have gk : ls[i] = k:=(List.getElem?_eq_some_iff.1 hlsk).2
      have g10' : K.rd (some 2) none (v10.sat i 1) = some (encI (mvI k)):=by simpa [gk] using g10
      have hl3':=hT.1
      have hsum:=s_sum (base:=base) terms hT c (by omega) v K (ty:=2) rfl (hv.keeps o.keeps)
      have hb1:=hUb k hkU
      have hb2:=sumN_le hT c terms.length
      have hm : -1100000000000≤mvI k∧mvI k≤1100000000000:=by unfold mvI; split <;> omega
      obtain ⟨S,hS⟩ : ∃ S,S = sumN terms c terms.length:=⟨_,rfl⟩
      rw [← hS] at hsum hb2
      have wsub : IntKind.i64.wrap (mvI k - S) = mvI k - S:=w64 (by omega) (by omega)
      have hD:=dZ_at hlnd hlsk
      have hnk : nx k c = if k = oddI then oddI else if kind = 1∧(k - S).tmod 2≠0 then oddI else (k - S) / 2:=by rw [hnx,hS]; rfl
      simp [hcw,e10,e12,hv10.isSl,hv10.len,hil2,e1,e14,g10']
      refine callP hsum ?_
      have hadd : (nx k c)∈addK ls (nx k c):=mem_addK.2 (.inr rfl)
      have hpk : pos (addK ls (nx k c)) (nx k c) = pos KS (nx k c):=(idx_pre hlsp1 hadd).symm
      have hal:=hlsp1.length_le
      have hcases : ((((i : Nat) : Int) == dZ ls) = true∨(((i : Nat) : Int) == dZ ls) = false∧(kind == 1) = true∧((mvI k - S).tmod 2 != 0) = true)∧nx k c = oddI ∨
          (((i : Nat) : Int) == dZ ls) = false∧((kind == 1) = false∨(kind == 1) = true∧((mvI k - S).tmod 2 != 0) = false)∧nx k c = (mvI k - S) / 2:=by
        by_cases hk : k = oddI
        · exact .inl ⟨.inl (by rw [hD]; simp [hk]),by rw [hnk,if_pos hk]⟩
        · have hmk : mvI k = k:=if_neg hk
          rw [hnk,if_neg hk,hD,hmk]
          by_cases h1 : kind = 1
          · by_cases h2 : (k - S).tmod 2 = 0
            · exact .inr ⟨by simp [hk],.inr ⟨by simp [h1],by simp [h2]⟩,by rw [if_neg]; simp [h2]⟩
            · exact .inl ⟨.inr ⟨by simp [hk],by simp [h1],by simp [h2]⟩,by rw [if_pos ⟨h1,h2⟩]⟩
          · exact .inr ⟨by simp [hk],.inl (by simp [h1]),by rw [if_neg]; simp [h1]⟩
      rcases hcases with ⟨hdead,hl⟩ | ⟨hA,hB,hl⟩
      · have hneg:=dZ_neg (ks:=ls)
        rw [hl] at hadd hpk hal hsu
        rcases hdead with hA | ⟨hA,hB,hC⟩
        · simp [wsub,e0,e11,e12,hA]
          by_cases hm : oddI∈ls
          · have h0 : ¬ dZ ls < 0:=fun h => hneg.1 h hm
            have he : addK ls oddI = ls:=if_pos hm
            rw [he] at hpk hsu
            simp [h0,e11,e13]
            intro n1 b1 f1
            simp [make_of f1 b1]
            intro n2 b2 f2
            obtain ⟨v',K',b',q1,q2,q3⟩:=o.push 0 rfl (by simpa [rowU_len] using hv13) (x:=encI (dZ ls)) (bytes:=8) rfl (by simp [rowU_len]; omega) (by simp [rowU_len]; omega) f1 b1 f2 b2
            simp [q1,e14,wc,hcw]
            rw [hJ]
            simp only [hsu]
            refine ⟨by simp,v10,v',b10,some b',by simp [e10],by simp,by simp [e11],?_,hv10,by simpa [rowU_len] using q3⟩
            rw [rowU_succ,hl,← hpk,List.map_append,← dZ_mem_enc hm]
            exact q2
          · have h0 : dZ ls < 0:=hneg.2 hm
            have he : addK ls oddI = ls++[oddI]:=if_neg hm
            rw [he] at hpk hsu hal
            simp at hal
            have hp2 : pos (ls++[oddI]) oddI = ls.length:=by rw [← he]; exact idx_new hm
            have hdz : dZ (ls++[oddI]) = (ls.length : Int):=by rw [dZ_mem (by simp),hp2]
            simp [h0,e10,hv10.isSl,hv10.len]
            intro n3 b3 f3
            simp [make_of f3 b3]
            intro n4 b4 f4
            obtain ⟨v3,K3,b3',p1,p2,p3⟩:=o.push 3 rfl (by simpa using hv10) (x:=.int .i64 0) (bytes:=8) rfl (by simp; omega) (by simp; omega) f3 b3 f4 b4
            simp [p1,e13]
            intro n1 b1 f1
            simp [make_of f1 b1]
            intro n2 b2 f2
            have p2 : Own base H K3 ((b13,.arr 2 ((rowU KS nx k c).map encN))::(wo,.arr 36 vs)::(bo,.arr 4 (((KS.take i).map (accL kind)).map encB))::(some b3',.arr 2 ((ls++[oddI]).map fun k => encI (mvI k)))::(some n9,.arr 25 [encN t,.int .i64 0,u,w])::(some n6,.arr 25 [.int .i64 0,.int .i64 0,.nils,.nils])::fr):=by simpa [mvI] using p2
            obtain ⟨v',K',b',q1,q2,q3⟩:=p2.push 0 rfl (by simpa [rowU_len] using hv13) (x:=encN ls.length) (bytes:=8) rfl (by simp [rowU_len]; omega) (by simp [rowU_len]; omega) f1 b1 f2 b2
            simp [q1,e14,wc,hcw]
            rw [hJ]
            simp only [hsu]
            refine ⟨by simp,v3,v',some b3',some b',by simp,by simp,?_,?_,by simpa using p3,by simpa [rowU_len] using q3⟩
            · simp [hdz]
            · rw [rowU_succ,hl,← hpk,hp2,List.map_append]
              exact q2
        · simp [wsub,e0,e11,e12,hA,hB,hC]
          by_cases hm : oddI∈ls
          · have h0 : ¬ dZ ls < 0:=fun h => hneg.1 h hm
            have he : addK ls oddI = ls:=if_pos hm
            rw [he] at hpk hsu
            simp [h0,e11,e13]
            intro n1 b1 f1
            simp [make_of f1 b1]
            intro n2 b2 f2
            obtain ⟨v',K',b',q1,q2,q3⟩:=o.push 0 rfl (by simpa [rowU_len] using hv13) (x:=encI (dZ ls)) (bytes:=8) rfl (by simp [rowU_len]; omega) (by simp [rowU_len]; omega) f1 b1 f2 b2
            simp [q1,e14,wc,hcw]
            rw [hJ]
            simp only [hsu]
            refine ⟨by simp,v10,v',b10,some b',by simp [e10],by simp,by simp [e11],?_,hv10,by simpa [rowU_len] using q3⟩
            rw [rowU_succ,hl,← hpk,List.map_append,← dZ_mem_enc hm]
            exact q2
          · have h0 : dZ ls < 0:=hneg.2 hm
            have he : addK ls oddI = ls++[oddI]:=if_neg hm
            rw [he] at hpk hsu hal
            simp at hal
            have hp2 : pos (ls++[oddI]) oddI = ls.length:=by rw [← he]; exact idx_new hm
            have hdz : dZ (ls++[oddI]) = (ls.length : Int):=by rw [dZ_mem (by simp),hp2]
            simp [h0,e10,hv10.isSl,hv10.len]
            intro n3 b3 f3
            simp [make_of f3 b3]
            intro n4 b4 f4
            obtain ⟨v3,K3,b3',p1,p2,p3⟩:=o.push 3 rfl (by simpa using hv10) (x:=.int .i64 0) (bytes:=8) rfl (by simp; omega) (by simp; omega) f3 b3 f4 b4
            simp [p1,e13]
            intro n1 b1 f1
            simp [make_of f1 b1]
            intro n2 b2 f2
            have p2 : Own base H K3 ((b13,.arr 2 ((rowU KS nx k c).map encN))::(wo,.arr 36 vs)::(bo,.arr 4 (((KS.take i).map (accL kind)).map encB))::(some b3',.arr 2 ((ls++[oddI]).map fun k => encI (mvI k)))::(some n9,.arr 25 [encN t,.int .i64 0,u,w])::(some n6,.arr 25 [.int .i64 0,.int .i64 0,.nils,.nils])::fr):=by simpa [mvI] using p2
            obtain ⟨v',K',b',q1,q2,q3⟩:=p2.push 0 rfl (by simpa [rowU_len] using hv13) (x:=encN ls.length) (bytes:=8) rfl (by simp [rowU_len]; omega) (by simp [rowU_len]; omega) f1 b1 f2 b2
            simp [q1,e14,wc,hcw]
            rw [hJ]
            simp only [hsu]
            refine ⟨by simp,v3,v',some b3',some b',by simp,by simp,?_,?_,by simpa using p3,by simpa [rowU_len] using q3⟩
            · simp [hdz]
            · rw [rowU_succ,hl,← hpk,hp2,List.map_append]
              exact q2
      · obtain ⟨l,hll2⟩ : ∃ l,l = (mvI k - S) / 2:=⟨_,rfl⟩
        have hlo : l≠oddI:=by unfold oddI; omega
        have hr1:=tmod_2 (mvI k - S)
        have hr2:=tmod_2 ((mvI k - S).tmod 2 + 2)
        have wr1 : IntKind.i64.wrap ((mvI k - S).tmod 2 + 2) = (mvI k - S).tmod 2 + 2:=w64 (by omega) (by omega)
        have wr2 : IntKind.i64.wrap (mvI k - S - ((mvI k - S).tmod 2 + 2).tmod 2) = mvI k - S - ((mvI k - S).tmod 2 + 2).tmod 2:=w64 (by omega) (by omega)
        have hhe:=half_eq (mvI k - S)
        rw [← hll2] at hhe
        have wr3 : IntKind.i64.wrap l = l:=w64 (by omega) (by omega)
        rcases hB with hB | ⟨hB,hC⟩
        · simp [wsub,e0,e11,e12,hA,hB,wr1,wr2,hhe,wr3]
          have hnl : nx k c = l:=by rw [hl,hll2]
          rw [hnl] at hadd hpk hal hsu
          obtain ⟨T,hT2⟩ : ∃ T : Nat→Env→BH→Prop,T = (fun n e L => e 18 = encN n∧e 17 = encI (fZ ls l n)∧L = K):=⟨_,rfl⟩
          refine wpC_countK ls.length [(0,encI kind),(1,v),(6,.ptr n6 0),(8,encN t),(9,.ptr n9 0),(12,encN i),(10,v10),(11,encI (dZ ls)),(13,v13),(14,encN c),(16,encI l)] T (i0:=0) ?_ ?_ ?_ (Nat.zero_le _) ?_
          · rfl
          · simp [e0,e1,e6,e8,e9,e12,e10,e11,e13,e14]
          · rw [hT2]
            exact ⟨by simp,by simp [fZ_zero],rfl⟩
          clear e0 e1 e6 e8 e9 e12 e10 e11 e13 e14
          rintro n e L hn ⟨e0,e1,e6,e8,e9,e12,e10,e11,e13,e14,e16,-⟩ hh
          rw [hT2] at hh
          obtain ⟨e18,e17,rfl⟩:=hh
          simp only [] at e0 e1 e6 e8 e9 e12 e10 e11 e13 e14 e16
          have wn:=wS (n:=n) (by omega)
          by_cases hln : n < ls.length
          · obtain ⟨kn,hkn⟩ : ∃ kn,ls[n]? = some kn:=⟨_,List.getElem?_eq_getElem hln⟩
            have hkn' : ls[n] = kn:=(List.getElem?_eq_some_iff.1 hkn).2
            have hDn:=dZ_at hlnd hkn
            have gn:=(o.rd 3 rfl (v:=v10) (by simpa using hv10)).at (i:=n) (by simpa using hln) (rt:=none) rfl
            have gn' : L.rd none none (v10.sat n 1) = some (encI (mvI kn)):=by simpa [hkn'] using gn
            by_cases hko : kn = oddI
            · have hA2 : (((n : Nat) : Int) != dZ ls) = false:=by rw [bne,hDn]; simp [hko]
              have hmi:=fZ_miss hkn (l:=l) (by rw [hko]; exact hlo.symm)
              simp [e18,e10,hv10.isSl,hv10.len,hln,e11,hA2,wn]
              rw [hT2]
              exact ⟨by simp,by simp [e17,hmi],rfl⟩
            · have hA2 : (((n : Nat) : Int) != dZ ls) = true:=by rw [bne,hDn]; simp [hko]
              have hmv : mvI kn = kn:=if_neg hko
              rw [hmv] at gn'
              by_cases hkl : kn = l
              · have hhi:=fZ_hit hlnd (hkn.trans (by rw [hkl]))
                have hA3 : (kn == l) = true:=by simp [hkl]
                simp [e18,e10,hv10.isSl,hv10.len,hln,e11,hA2,gn',e16,hA3,wn]
                rw [hT2]
                exact ⟨by simp,by simp [hhi],rfl⟩
              · have hmi:=fZ_miss hkn hkl
                have hA3 : (kn == l) = false:=by simp [hkl]
                simp [e18,e10,hv10.isSl,hv10.len,hln,e11,hA2,gn',e16,hA3,wn]
                rw [hT2]
                exact ⟨by simp,by simp [e17,hmi],rfl⟩
          · have hne : n = ls.length:=by omega
            subst hne
            rw [fZ_all] at e17
            simp [e18,e10,hv10.isSl,hv10.len]
            by_cases hm : l∈ls
            · have he : addK ls l = ls:=if_pos hm
              rw [if_pos hm] at e17
              rw [he] at hpk hsu
              have h0 : ¬ ((pos ls l : Nat) : Int) < 0:=by omega
              simp [e17,h0,e13]
              intro n1 b1 f1
              simp [make_of f1 b1]
              intro n2 b2 f2
              obtain ⟨v',K',b',q1,q2,q3⟩:=o.push 0 rfl (by simpa [rowU_len] using hv13) (x:=encN (pos ls l)) (bytes:=8) rfl (by simp [rowU_len]; omega) (by simp [rowU_len]; omega) f1 b1 f2 b2
              simp [q1,e14,wc,hcw]
              rw [hJ]
              simp only [hsu]
              refine ⟨by simp,v10,v',b10,some b',by simp [e10],by simp,by simp [e11],?_,hv10,by simpa [rowU_len] using q3⟩
              rw [rowU_succ,hnl,← hpk,List.map_append]
              exact q2
            · have he : addK ls l = ls++[l]:=if_neg hm
              rw [if_neg hm] at e17
              have hdz:=dZ_add (ks:=ls) hlo
              rw [he] at hpk hsu hal hdz
              simp at hal
              have hp2 : pos (ls++[l]) l = ls.length:=by rw [← he]; exact idx_new hm
              have hml : mvI l = l:=if_neg hlo
              simp [e17,e10,hv10.isSl,hv10.len]
              intro n3 b3 f3
              simp [make_of f3 b3,e16]
              intro n4 b4 f4
              obtain ⟨v3,K3,b3',p1,p2,p3⟩:=o.push 3 rfl (by simpa using hv10) (x:=encI l) (bytes:=8) rfl (by simp; omega) (by simp; omega) f3 b3 f4 b4
              simp [p1,e13]
              intro n1 b1 f1
              simp [make_of f1 b1]
              intro n2 b2 f2
              have p2 : Own base H K3 ((b13,.arr 2 ((rowU KS nx k c).map encN))::(wo,.arr 36 vs)::(bo,.arr 4 (((KS.take i).map (accL kind)).map encB))::(some b3',.arr 2 ((ls++[l]).map fun k => encI (mvI k)))::(some n9,.arr 25 [encN t,.int .i64 0,u,w])::(some n6,.arr 25 [.int .i64 0,.int .i64 0,.nils,.nils])::fr):=by simpa [hml] using p2
              obtain ⟨v',K',b',q1,q2,q3⟩:=p2.push 0 rfl (by simpa [rowU_len] using hv13) (x:=encN ls.length) (bytes:=8) rfl (by simp [rowU_len]; omega) (by simp [rowU_len]; omega) f1 b1 f2 b2
              simp [q1,e14,wc,hcw]
              rw [hJ]
              simp only [hsu]
              refine ⟨by simp,v3,v',some b3',some b',by simp,by simp,by simp [e11,hdz],?_,by simpa using p3,by simpa [rowU_len] using q3⟩
              rw [rowU_succ,hnl,← hpk,hp2,List.map_append]
              exact q2
        · simp [wsub,e0,e11,e12,hA,hB,hC,wr1,wr2,hhe,wr3]
          have hnl : nx k c = l:=by rw [hl,hll2]
          rw [hnl] at hadd hpk hal hsu
          obtain ⟨T,hT2⟩ : ∃ T : Nat→Env→BH→Prop,T = (fun n e L => e 18 = encN n∧e 17 = encI (fZ ls l n)∧L = K):=⟨_,rfl⟩
          refine wpC_countK ls.length [(0,encI kind),(1,v),(6,.ptr n6 0),(8,encN t),(9,.ptr n9 0),(12,encN i),(10,v10),(11,encI (dZ ls)),(13,v13),(14,encN c),(16,encI l)] T (i0:=0) ?_ ?_ ?_ (Nat.zero_le _) ?_
          · rfl
          · simp [e0,e1,e6,e8,e9,e12,e10,e11,e13,e14]
          · rw [hT2]
            exact ⟨by simp,by simp [fZ_zero],rfl⟩
          clear e0 e1 e6 e8 e9 e12 e10 e11 e13 e14
          rintro n e L hn ⟨e0,e1,e6,e8,e9,e12,e10,e11,e13,e14,e16,-⟩ hh
          rw [hT2] at hh
          obtain ⟨e18,e17,rfl⟩:=hh
          simp only [] at e0 e1 e6 e8 e9 e12 e10 e11 e13 e14 e16
          have wn:=wS (n:=n) (by omega)
          by_cases hln : n < ls.length
          · obtain ⟨kn,hkn⟩ : ∃ kn,ls[n]? = some kn:=⟨_,List.getElem?_eq_getElem hln⟩
            have hkn' : ls[n] = kn:=(List.getElem?_eq_some_iff.1 hkn).2
            have hDn:=dZ_at hlnd hkn
            have gn:=(o.rd 3 rfl (v:=v10) (by simpa using hv10)).at (i:=n) (by simpa using hln) (rt:=none) rfl
            have gn' : L.rd none none (v10.sat n 1) = some (encI (mvI kn)):=by simpa [hkn'] using gn
            by_cases hko : kn = oddI
            · have hA2 : (((n : Nat) : Int) != dZ ls) = false:=by rw [bne,hDn]; simp [hko]
              have hmi:=fZ_miss hkn (l:=l) (by rw [hko]; exact hlo.symm)
              simp [e18,e10,hv10.isSl,hv10.len,hln,e11,hA2,wn]
              rw [hT2]
              exact ⟨by simp,by simp [e17,hmi],rfl⟩
            · have hA2 : (((n : Nat) : Int) != dZ ls) = true:=by rw [bne,hDn]; simp [hko]
              have hmv : mvI kn = kn:=if_neg hko
              rw [hmv] at gn'
              by_cases hkl : kn = l
              · have hhi:=fZ_hit hlnd (hkn.trans (by rw [hkl]))
                have hA3 : (kn == l) = true:=by simp [hkl]
                simp [e18,e10,hv10.isSl,hv10.len,hln,e11,hA2,gn',e16,hA3,wn]
                rw [hT2]
                exact ⟨by simp,by simp [hhi],rfl⟩
              · have hmi:=fZ_miss hkn hkl
                have hA3 : (kn == l) = false:=by simp [hkl]
                simp [e18,e10,hv10.isSl,hv10.len,hln,e11,hA2,gn',e16,hA3,wn]
                rw [hT2]
                exact ⟨by simp,by simp [e17,hmi],rfl⟩
          · have hne : n = ls.length:=by omega
            subst hne
            rw [fZ_all] at e17
            simp [e18,e10,hv10.isSl,hv10.len]
            by_cases hm : l∈ls
            · have he : addK ls l = ls:=if_pos hm
              rw [if_pos hm] at e17
              rw [he] at hpk hsu
              have h0 : ¬ ((pos ls l : Nat) : Int) < 0:=by omega
              simp [e17,h0,e13]
              intro n1 b1 f1
              simp [make_of f1 b1]
              intro n2 b2 f2
              obtain ⟨v',K',b',q1,q2,q3⟩:=o.push 0 rfl (by simpa [rowU_len] using hv13) (x:=encN (pos ls l)) (bytes:=8) rfl (by simp [rowU_len]; omega) (by simp [rowU_len]; omega) f1 b1 f2 b2
              simp [q1,e14,wc,hcw]
              rw [hJ]
              simp only [hsu]
              refine ⟨by simp,v10,v',b10,some b',by simp [e10],by simp,by simp [e11],?_,hv10,by simpa [rowU_len] using q3⟩
              rw [rowU_succ,hnl,← hpk,List.map_append]
              exact q2
            · have he : addK ls l = ls++[l]:=if_neg hm
              rw [if_neg hm] at e17
              have hdz:=dZ_add (ks:=ls) hlo
              rw [he] at hpk hsu hal hdz
              simp at hal
              have hp2 : pos (ls++[l]) l = ls.length:=by rw [← he]; exact idx_new hm
              have hml : mvI l = l:=if_neg hlo
              simp [e17,e10,hv10.isSl,hv10.len]
              intro n3 b3 f3
              simp [make_of f3 b3,e16]
              intro n4 b4 f4
              obtain ⟨v3,K3,b3',p1,p2,p3⟩:=o.push 3 rfl (by simpa using hv10) (x:=encI l) (bytes:=8) rfl (by simp; omega) (by simp; omega) f3 b3 f4 b4
              simp [p1,e13]
              intro n1 b1 f1
              simp [make_of f1 b1]
              intro n2 b2 f2
              have p2 : Own base H K3 ((b13,.arr 2 ((rowU KS nx k c).map encN))::(wo,.arr 36 vs)::(bo,.arr 4 (((KS.take i).map (accL kind)).map encB))::(some b3',.arr 2 ((ls++[l]).map fun k => encI (mvI k)))::(some n9,.arr 25 [encN t,.int .i64 0,u,w])::(some n6,.arr 25 [.int .i64 0,.int .i64 0,.nils,.nils])::fr):=by simpa [hml] using p2
              obtain ⟨v',K',b',q1,q2,q3⟩:=p2.push 0 rfl (by simpa [rowU_len] using hv13) (x:=encN ls.length) (bytes:=8) rfl (by simp [rowU_len]; omega) (by simp [rowU_len]; omega) f1 b1 f2 b2
              simp [q1,e14,wc,hcw]
              rw [hJ]
              simp only [hsu]
              refine ⟨by simp,v3,v',some b3',some b',by simp,by simp,by simp [e11,hdz],?_,by simpa using p3,by simpa [rowU_len] using q3⟩
              rw [rowU_succ,hnl,← hpk,hp2,List.map_append]
              exact q2
    · have hcc : c = wd t:=by omega
      subst hcc
      have nb : ¬ (1000 : Int) < (ls.length : Int):=by omega
      have gk : ls[i] = k:=(List.getElem?_eq_some_iff.1 hlsk).2
      have g10:=(o.rd 3 rfl (v:=v10) (by simpa using hv10)).at (i:=i) (by simpa using hil2) (rt:=none) rfl
      have g10' : K.rd none none (v10.sat i 1) = some (encI (mvI k)):=by simpa [gk] using g10
      have hD:=dZ_at hlnd hlsk
      have u1:=rd_ptr (o.at 4 (b:=n9) rfl) (rt:=none) (j:=2) (c:=u) rfl rfl
      have hti : (KS.take i).length = i:=by simp; omega
      have hta : (KS.take (i + 1)).map (accL kind) = (KS.take i).map (accL kind)++[accL kind k]:=by rw [List.take_add_one,hKSi]; simp
      have htr : ((KS.take (i + 1)).map fun k => rowU KS nx k (wd t)).map (·.map encN) = ((KS.take i).map fun k => rowU KS nx k (wd t)).map (·.map encN)++[(rowU KS nx k (wd t)).map encN]:=by rw [List.take_add_one,hKSi]; simp
      have hin : i + 1≤(metL (succs (wd t) nx) c0 (i + 1)).length:=by
        have:=(met_pre1 (sx:=succs (wd t) nx) (s:=c0) i).length_le
        omega
      have hacc : (((i : Nat) : Int) != dZ ls) = false∧accL kind k = false∨(((i : Nat) : Int) != dZ ls) = true∧mvI k = k∧((k == 0) = true∧accL kind k = true∨(k == 0) = false∧((kind == 2) = false∧accL kind k = false∨(kind == 2) = true∧accL kind k = decide (0 < k))):=by
        rw [bne,hD]
        by_cases hk : k = oddI
        · exact .inl ⟨by simp [hk],by simp [hk,accL,oddI]⟩
        · refine .inr ⟨by simp [hk],if_neg hk,?_⟩
          by_cases h0 : k = 0
          · exact .inl ⟨by simp [h0],by simp [h0,accL]⟩
          · refine .inr ⟨by simp [h0],?_⟩
            by_cases h2 : kind = 2
            · exact .inr ⟨by simp [h2],by simp [accL,h0,h2,hk]⟩
            · exact .inl ⟨by simp [h2],by simp [accL,h0,h2]⟩
      rcases hacc with ⟨hA,hav⟩ | ⟨hA,hmk,hB⟩
      · simp [e10,hv10.isSl,hv10.len,nb,e9,u1,e12,e11,hA]
        intro n1 b1 f1
        simp [make_of f1 b1]
        intro n2 b2 f2
        rw [← hav] at f2
        obtain ⟨v',K3,b',q1,o2,q3⟩:=o.push 2 rfl (v:=u) (by simp only [List.length_map,hti]; exact hu) (x:=encB (accL kind k)) (bytes:=1) rfl (by simp; omega) (by simp; omega) f1 b1 f2 b2
        rw [hav] at q1
        obtain ⟨K4,q2,o3⟩:=o2.put 4 rfl (j:=2) (u:=v') (by simp) q3.one (rt:=none) rfl
        simp [q1,q2,e9]
        have u2:=rd_ptr (o3.at 4 (b:=n9) rfl) (rt:=none) (j:=3) (c:=w) rfl rfl
        have h17:=hv13.one
        simp [u2,e13,h17,cells_one h17]
        intro n3 b3' f3
        simp [make_of f3 b3']
        intro n4 b4 f4
        obtain ⟨w',K5,c',p1,o4,p3⟩:=o3.push 1 rfl (v:=w) (by rw [hvs]; exact hw') (x:=v13) (bytes:=24) h17 (by omega) (by omega) f3 b3' f4 b4
        obtain ⟨K6,p2,o5⟩:=o4.put 4 rfl (j:=3) (u:=w') (by simp) p3.one (rt:=none) rfl
        simp [p1,p2,e9,e12,wi,hiN]
        rw [hI]
        refine ⟨by simp,v10,v',w',b10,some b',some c',vs++[v13],fr++[(b13,.arr 2 ((rowU KS nx k (wd t)).map encN))],by simp [e10],by simp [e11,hls,hnext],hin,?_,by rw [hnext,← hls]; exact hv10,?_,?_,by simp [hvs],?_⟩
        · refine Own.last (F:=[(some c',.arr 36 (vs++[v13])),(some b',.arr 4 (((KS.take (i + 1)).map (accL kind)).map encB)),(b10,.arr 2 ((metL (succs (wd t) nx) c0 (i + 1)).map fun k => encI (mvI k))),
            (some n9,.arr 25 [encN t,.int .i64 0,v',w']),(some n6,.arr 25 [.int .i64 0,.int .i64 0,.nils,.nils])]) ?_
          rw [hta,hnext,← hls]
          simpa using o5
        · simp only [List.length_map,hti] at q3
          exact q3
        · simpa [hvs] using p3
        · rw [htr]
          exact hrows.snoc (by simpa [rowU_len] using hv13)
      rw [hmk] at g10'
      rcases hB with ⟨hB,hav⟩ | ⟨hB,⟨hC,hav⟩ | ⟨hC,hav⟩⟩
      · simp [e10,hv10.isSl,hv10.len,nb,e9,u1,e12,e11,hA,hil2,g10',hB]
        intro n1 b1 f1
        simp [make_of f1 b1]
        intro n2 b2 f2
        rw [← hav] at f2
        obtain ⟨v',K3,b',q1,o2,q3⟩:=o.push 2 rfl (v:=u) (by simp only [List.length_map,hti]; exact hu) (x:=encB (accL kind k)) (bytes:=1) rfl (by simp; omega) (by simp; omega) f1 b1 f2 b2
        rw [hav] at q1
        obtain ⟨K4,q2,o3⟩:=o2.put 4 rfl (j:=2) (u:=v') (by simp) q3.one (rt:=none) rfl
        simp [q1,q2,e9]
        have u2:=rd_ptr (o3.at 4 (b:=n9) rfl) (rt:=none) (j:=3) (c:=w) rfl rfl
        have h17:=hv13.one
        simp [u2,e13,h17,cells_one h17]
        intro n3 b3' f3
        simp [make_of f3 b3']
        intro n4 b4 f4
        obtain ⟨w',K5,c',p1,o4,p3⟩:=o3.push 1 rfl (v:=w) (by rw [hvs]; exact hw') (x:=v13) (bytes:=24) h17 (by omega) (by omega) f3 b3' f4 b4
        obtain ⟨K6,p2,o5⟩:=o4.put 4 rfl (j:=3) (u:=w') (by simp) p3.one (rt:=none) rfl
        simp [p1,p2,e9,e12,wi,hiN]
        rw [hI]
        refine ⟨by simp,v10,v',w',b10,some b',some c',vs++[v13],fr++[(b13,.arr 2 ((rowU KS nx k (wd t)).map encN))],by simp [e10],by simp [e11,hls,hnext],hin,?_,by rw [hnext,← hls]; exact hv10,?_,?_,by simp [hvs],?_⟩
        · refine Own.last (F:=[(some c',.arr 36 (vs++[v13])),(some b',.arr 4 (((KS.take (i + 1)).map (accL kind)).map encB)),(b10,.arr 2 ((metL (succs (wd t) nx) c0 (i + 1)).map fun k => encI (mvI k))),
            (some n9,.arr 25 [encN t,.int .i64 0,v',w']),(some n6,.arr 25 [.int .i64 0,.int .i64 0,.nils,.nils])]) ?_
          rw [hta,hnext,← hls]
          simpa using o5
        · simp only [List.length_map,hti] at q3
          exact q3
        · simpa [hvs] using p3
        · rw [htr]
          exact hrows.snoc (by simpa [rowU_len] using hv13)
      · simp [e10,hv10.isSl,hv10.len,nb,e9,u1,e12,e11,hA,hil2,g10',hB,e0,hC]
        intro n1 b1 f1
        simp [make_of f1 b1]
        intro n2 b2 f2
        rw [← hav] at f2
        obtain ⟨v',K3,b',q1,o2,q3⟩:=o.push 2 rfl (v:=u) (by simp only [List.length_map,hti]; exact hu) (x:=encB (accL kind k)) (bytes:=1) rfl (by simp; omega) (by simp; omega) f1 b1 f2 b2
        rw [hav] at q1
        obtain ⟨K4,q2,o3⟩:=o2.put 4 rfl (j:=2) (u:=v') (by simp) q3.one (rt:=none) rfl
        simp [q1,q2,e9]
        have u2:=rd_ptr (o3.at 4 (b:=n9) rfl) (rt:=none) (j:=3) (c:=w) rfl rfl
        have h17:=hv13.one
        simp [u2,e13,h17,cells_one h17]
        intro n3 b3' f3
        simp [make_of f3 b3']
        intro n4 b4 f4
        obtain ⟨w',K5,c',p1,o4,p3⟩:=o3.push 1 rfl (v:=w) (by rw [hvs]; exact hw') (x:=v13) (bytes:=24) h17 (by omega) (by omega) f3 b3' f4 b4
        obtain ⟨K6,p2,o5⟩:=o4.put 4 rfl (j:=3) (u:=w') (by simp) p3.one (rt:=none) rfl
        simp [p1,p2,e9,e12,wi,hiN]
        rw [hI]
        refine ⟨by simp,v10,v',w',b10,some b',some c',vs++[v13],fr++[(b13,.arr 2 ((rowU KS nx k (wd t)).map encN))],by simp [e10],by simp [e11,hls,hnext],hin,?_,by rw [hnext,← hls]; exact hv10,?_,?_,by simp [hvs],?_⟩
        · refine Own.last (F:=[(some c',.arr 36 (vs++[v13])),(some b',.arr 4 (((KS.take (i + 1)).map (accL kind)).map encB)),(b10,.arr 2 ((metL (succs (wd t) nx) c0 (i + 1)).map fun k => encI (mvI k))),
            (some n9,.arr 25 [encN t,.int .i64 0,v',w']),(some n6,.arr 25 [.int .i64 0,.int .i64 0,.nils,.nils])]) ?_
          rw [hta,hnext,← hls]
          simpa using o5
        · simp only [List.length_map,hti] at q3
          exact q3
        · simpa [hvs] using p3
        · rw [htr]
          exact hrows.snoc (by simpa [rowU_len] using hv13)
      · simp [e10,hv10.isSl,hv10.len,nb,e9,u1,e12,e11,hA,hil2,g10',hB,e0,hC]
        intro n1 b1 f1
        simp [make_of f1 b1]
        intro n2 b2 f2
        rw [← hav] at f2
        obtain ⟨v',K3,b',q1,o2,q3⟩:=o.push 2 rfl (v:=u) (by simp only [List.length_map,hti]; exact hu) (x:=encB (accL kind k)) (bytes:=1) rfl (by simp; omega) (by simp; omega) f1 b1 f2 b2
        rw [hav] at q1
        obtain ⟨K4,q2,o3⟩:=o2.put 4 rfl (j:=2) (u:=v') (by simp) q3.one (rt:=none) rfl
        simp [q1,q2,e9]
        have u2:=rd_ptr (o3.at 4 (b:=n9) rfl) (rt:=none) (j:=3) (c:=w) rfl rfl
        have h17:=hv13.one
        simp [u2,e13,h17,cells_one h17]
        intro n3 b3' f3
        simp [make_of f3 b3']
        intro n4 b4 f4
        obtain ⟨w',K5,c',p1,o4,p3⟩:=o3.push 1 rfl (v:=w) (by rw [hvs]; exact hw') (x:=v13) (bytes:=24) h17 (by omega) (by omega) f3 b3' f4 b4
        obtain ⟨K6,p2,o5⟩:=o4.put 4 rfl (j:=3) (u:=w') (by simp) p3.one (rt:=none) rfl
        simp [p1,p2,e9,e12,wi,hiN]
        rw [hI]
        refine ⟨by simp,v10,v',w',b10,some b',some c',vs++[v13],fr++[(b13,.arr 2 ((rowU KS nx k (wd t)).map encN))],by simp [e10],by simp [e11,hls,hnext],hin,?_,by rw [hnext,← hls]; exact hv10,?_,?_,by simp [hvs],?_⟩
        · refine Own.last (F:=[(some c',.arr 36 (vs++[v13])),(some b',.arr 4 (((KS.take (i + 1)).map (accL kind)).map encB)),(b10,.arr 2 ((metL (succs (wd t) nx) c0 (i + 1)).map fun k => encI (mvI k))),
            (some n9,.arr 25 [encN t,.int .i64 0,v',w']),(some n6,.arr 25 [.int .i64 0,.int .i64 0,.nils,.nils])]) ?_
          rw [hta,hnext,← hls]
          simpa using o5
        · simp only [List.length_map,hti] at q3
          exact q3
        · simpa [hvs] using p3
        · rw [htr]
          exact hrows.snoc (by simpa [rowU_len] using hv13)
  · have hie : i = (metL (succs (wd t) nx) c0 i).length:=by omega
    have hdi : Done (wd t) nx c0 i:=by unfold Done DoneL; omega
    have hKi : metL (succs (wd t) nx) c0 i = KS:=by
      rw [hKS]
      exact DoneL.same hdi hdone
    rw [hKi] at hie o
    have htk : KS.take i = KS:=by rw [hie,List.take_length]
    rw [htk] at o hrows
    have r1:=rd_all (o.at 3 (b:=n9) rfl) (n:=4) (rt:=none) rfl rfl
    obtain ⟨K9,q9,o9⟩:=o.putAll 4 (b:=n6) (n:=4) (ds:=[encN t,.int .i64 0,u,w]) rfl rfl rfl (by simp [hu.one,hw'.one]) (rt:=none) rfl
    have r9:=rd_all (o9.at 4 (b:=n6) rfl) (n:=4) (rt:=none) rfl rfl
    have hlt' : ¬ i < (metL (succs (wd t) nx) c0 i).length:=hlt
    simp [e12,e10,hv10.isSl,hv10.len,hlt',e9,r1,e6,q9,r9]
    rw [hR]
    refine ⟨o9.keeps,_,rfl,u,w,bo,wo,vs,fr,rfl,?_,by simpa [autOf,← hie] using hu,by rw [hvs]; exact hw',by simpa [autOf,rowU] using hrows⟩
    have o10 : Own base H K9 ((wo,.arr 36 vs)::(bo,.arr 4 ((KS.map (accL kind)).map encB))::fr):=o9.sub (.cons_cons _ (.cons_cons _ (.cons _ (.cons _ (.cons _ (List.Sublist.refl _))))))
    exact o10.perm (List.Perm.swap _ _ _)
def plU2 (t n : Nat) : List Pl:=none::((List.range n).flatMap fun q => (List.range (2 ^ t)).map fun m => some (q,m))
theorem plU2_len (t n : Nat) : (plU2 t n).length = 2 ^ t * n + 1:=by
  have : ∀ n,((List.range n).flatMap fun q => (List.range (2 ^ t)).map fun m => (some (q,m) : Pl)).length = 2 ^ t * n:=by
    intro n
    induction n with
    | zero => rfl
    | succ n ih => rw [List.range_succ (n:=n),List.flatMap_append,List.length_append,ih]; simp [Nat.mul_succ]
  simp only [plU2,List.length_cons,this]
theorem mem_plU2 {t n q m : Nat} : some (q,m)∈plU2 t n↔q < n∧m < 2 ^ t:=by
  simp [plU2]
theorem plU2_closed {t : Nat} {X : Aut} (h : X.Ok (wd t)) {s : Nat} (hs : s < X.acc.length) : Closed (wd t) (plNx t X) (some (s,0)) (plU2 t X.acc.length):=by
  refine ⟨mem_plU2.2 ⟨hs,Nat.two_pow_pos t⟩,fun k hk c hc => ?_⟩
  cases k with
  | none => exact List.mem_cons_self
  | some p =>
    obtain ⟨q,m⟩:=p
    obtain ⟨h1,h2⟩:=mem_plU2.1 hk
    rw [plNx_some]
    split
    · exact mem_plU2.2 ⟨h.to h1 hc,padsN_lt t c⟩
    · exact List.mem_cons_self
theorem TA_len2 {t : Nat} {X : Aut} (h : X.Ok (wd t)) {s : Nat} (hs : s < X.acc.length) : (TA t (X.lang s)).acc.length≤2 ^ t * X.acc.length + 1:=by
  obtain ⟨h1,h2,h3⟩:=autOf_met (a:=plAcc X) (plU2_closed h hs)
  exact Nat.le_trans (TA_small h1 h1.pos fun cs hc => (h3 cs hc).trans (pl_lang t X cs s 0)).2 (Nat.le_trans h2 (Nat.le_of_eq (plU2_len _ _)))
theorem TA_idem {t : Nat} (ht : t≤3) {X : Aut} (h : X.Ok (wd t)) {s : Nat} (hs : s < X.acc.length) : TA t ((TA t (X.lang s)).lang 0) = TA t (X.lang s):=TA_congr fun cs hc hr => by
  rw [(TA_spec ht h hs).1.lang hc]
  simp [rl,hr]
theorem joinN_TA {t : Nat} (ht : t≤3) {op : Bool→Bool→Bool} {X : Aut} (h : X.Ok (wd t)) {s : Nat} (hs : s < X.acc.length) (M : List Nat→Bool) : joinN t op ((TA t (X.lang s)).lang 0) M = joinN t op (X.lang s) M:=by
  have e : TA t (fun cs => op ((TA t (X.lang s)).lang 0 cs) (M cs)) = TA t fun cs => op (X.lang s cs) (M cs):=TA_congr fun cs hc hr => by
    rw [(TA_spec ht h hs).1.lang hc]
    simp [rl,hr]
  unfold joinN
  rw [TA_idem ht h hs,e]
theorem linN_book {kind c0 : Int} {terms U : List Int} (h3 : terms.length≤3) (hU : Closed (wd terms.length) (nxL kind (sumsF terms)) c0 U) (hU2 : 2 ^ terms.length * U.length + 1≤150) :
    linN kind c0 terms U = joinN terms.length (fun a b => a && b) ((linX kind c0 terms U).lang 0) ((TA terms.length (LD (List.range terms.length))).lang 0):=by
  obtain ⟨hX,hl,-⟩:=linX_ok hU
  have h1:=TA_len2 hX hX.pos
  have h2 : 2 ^ terms.length * (linX kind c0 terms U).acc.length≤2 ^ terms.length * U.length:=Nat.mul_le_mul_left _ hl
  unfold linN told
  rw [if_neg (by omega)]
  exact joinN_TA h3 hX hX.pos _
theorem s_LinearRelation (kind : Int) (hkd : kind = 1∨kind = 2) (terms : List Int) (hT : Terms terms) (h0 : 1≤terms.length) (c0 : Int) (hc : -1000≤c0∧c0≤1000) (U : List Int) (hU : Closed (wd terms.length) (nxL kind (sumsF terms)) c0 U) (hU2 : 2 ^ terms.length * U.length + 1≤150)
    (hUb : ∀ s∈U,-1100000000000≤s∧s≤1100000000000) (v : BV) (H : BH) (hv : Rd H 2 v (terms.map encI)) :
    FnDoes (gam base) 18 [encI kind,v,encI c0] H fun r K => RelR base H terms.length (linN kind c0 terms U) r K:=by
  have hl3:=hT.1
  have hp2 : 1≤2 ^ terms.length:=Nat.one_le_two_pow
  have hUl : U.length≤150:=by
    have : 1 * U.length≤2 ^ terms.length * U.length:=Nat.mul_le_mul_right _ hp2
    omega
  rw [linN_book hl3 hU hU2]
  obtain ⟨R,hR⟩ : ∃ R : BV→BH→Prop,R = fun r K => RelR base H terms.length (joinN terms.length (fun a b => a && b) ((linX kind c0 terms U).lang 0) ((TA terms.length (LD (List.range terms.length))).lang 0)) r K:=⟨_,rfl⟩
  rw [← hR]
  refine FnDoes.of (fn:=ir18) rfl ?_
  obtain ⟨hX,hXl,-⟩:=linX_ok hU
  obtain ⟨X,hXe⟩ : ∃ X,X = linX kind c0 terms U:=⟨_,rfl⟩
  have hraw:=s_raw (base:=base) kind hkd terms hT c0 (by unfold oddI; omega) U hU hUl hUb v
  rw [← hXe] at hR hX hXl hraw
  obtain ⟨t,ht⟩ : ∃ t,t = terms.length:=⟨_,rfl⟩
  have hvl:=hv.lenM
  rw [← ht] at hR hX hraw hvl
  simp [ir18]
  intro n6 b6 f6
  have o1:=Own.start (base:=base) (H:=H) |>.new f6 b6 (s:=.arr 25 [.int .i64 0,.int .i64 0,.nils,.nils])
  have hk : ((kind != 1) = true∧(kind != 2) = false)∨(kind != 1) = false:=by
    rcases hkd with rfl | rfl
    · exact .inr rfl
    · exact .inl ⟨rfl,rfl⟩
  have hin1 : inB (t : Int) 1 3 = true:=by unfold inB; simp; omega
  have hin2 : inB c0 (-1000) 1000 = true:=by unfold inB; simp; omega
  have hs1:=s_in (base:=base) (t : Int) 1 3 (H.set n6 (.arr 25 [.int .i64 0,.int .i64 0,.nils,.nils]))
  have hs2:=s_in (base:=base) c0 (-1000) 1000 (H.set n6 (.arr 25 [.int .i64 0,.int .i64 0,.nils,.nils]))
  rw [hin1] at hs1
  rw [hin2] at hs2
  rcases hk with ⟨hk1,hk2⟩ | hk1
  · simp [make_of f6 b6,hk1,hk2,hv.isSl,hvl]
    refine callP hs1 ?_
    simp
    refine callP hs2 ?_
    simp
    obtain ⟨H1,hH1⟩ : ∃ H1,H1 = H.set n6 (.arr 25 [.int .i64 0,.int .i64 0,.nils,.nils]):=⟨_,rfl⟩
    rw [← hH1] at o1
    rw [← hH1]
    obtain ⟨I,hI⟩ : ∃ I : Nat→Env→BH→Prop,I = (fun i e K => e 8 = encN i∧K = H1):=⟨_,rfl⟩
    refine wpC_countK t [(0,encI kind),(1,v),(2,encI c0),(6,.ptr n6 0)] I (i0:=0) ?_ ?_ ?_ (Nat.zero_le _) ?_
    · rfl
    · simp
    · rw [hI]
      exact ⟨by simp,rfl⟩
    rintro i e K hi ⟨e0,e1,e2,e6,-⟩ hh
    rw [hI] at hh
    obtain ⟨e8,rfl⟩:=hh
    simp only [] at e0 e1 e2 e6
    have wi:=wS (n:=i) (by omega)
    by_cases hlt : i < t
    · have gi:=(hv.keeps o1.keeps).at (i:=i) (by omega) (rt:=none) rfl
      have hti : i < terms.length:=by omega
      have gi' : K.rd none none (v.sat i 1) = some (encI terms[i]):=by simpa using gi
      have hg:=hT.2 _ (List.getElem_mem hti)
      have hin3 : inB terms[i] (-20) 20 = true:=by unfold inB; simp; omega
      have hs3:=s_in (base:=base) terms[i] (-20) 20 K
      rw [hin3] at hs3
      simp [e1,e8,hv.isSl,hvl,hlt,gi']
      refine callP hs3 ?_
      simp [e8,wi,hlt]
      rw [hI]
      exact ⟨by simp,rfl⟩
    · simp [e0,e1,e2,e8,hv.isSl,hvl,hlt]
      refine (hraw K (hv.keeps o1.keeps)).step fun r K1 k1 hr => ?_
      obtain ⟨m,rfl,hm⟩:=hr
      have hm:=hm.rd
      obtain ⟨u,w,rfl,hu,hw⟩:=id hm
      have u1:=hu.one
      have w1:=one_of_isSl hw.isSl
      simp [u1,w1]
      intro n9 b9 f9
      obtain ⟨K2,g2,o2⟩:=(Own.start (base:=base) (H:=K1) |>.new f9 b9 (s:=.arr 25 [.int .i64 0,.int .i64 0,.nils,.nils])).putAll 0 (b:=n9) rfl (n:=4) (ds:=[encN t,encN 0,u,w]) rfl rfl (by simp [u1,w1]) (rt:=none) rfl
      have r9:=rd_all (o2.at 0 (b:=n9) rfl) (n:=4) (rt:=none) rfl rfl
      simp [make_of f9 b9,g2,r9]
      have hm2:=hm.keeps o2.keeps
      refine (s_told (base:=base) t 0 X _ K2 hm2 (by omega)).step fun r K3 k3 hr => ?_
      rw [if_neg (by omega)] at hr
      subst hr
      simp [u1,w1]
      intro n11 b11 f11
      obtain ⟨K4,g4,o4⟩:=(Own.start (base:=base) (H:=K3) |>.new f11 b11 (s:=.arr 25 [.int .i64 0,.int .i64 0,.nils,.nils])).putAll 0 (b:=n11) rfl (n:=4) (ds:=[encN t,encN 0,u,w]) rfl rfl (by simp [u1,w1]) (rt:=none) rfl
      have hm4:=hm2.keeps (k3.trans o4.keeps)
      simp [make_of f11 b11,g4]
      refine (s_domain (base:=base) K4).step fun r K5 k5 hr => ?_
      rw [LD_dom] at hr
      have hd:=hr.rd
      obtain ⟨du,dw,rfl,hdu,hdw⟩:=id hd
      have du1:=hdu.one
      have dw1:=one_of_isSl hdw.isSl
      simp [du1,dw1]
      intro n13 b13 f13
      obtain ⟨K6,g6,o6⟩:=(Own.start (base:=base) (H:=K5) |>.new f13 b13 (s:=.arr 28 [.int .i64 0,.int .i64 0,.nils,.nils,.nils])).putAll 0 (b:=n13) rfl (n:=5) (ds:=[encN 1,encN 0,du,dw,.nils]) rfl rfl (by simp [du1,dw1]) (rt:=none) rfl
      simp [make_of f13 b13,g6,e1,hv.isSl,hvl]
      refine (s_frame (base:=base) t n13 (by omega) (by omega) du dw .nils K6 (o6.at 0 (b:=n13) rfl) (hd.keeps o6.keeps)).step fun r K7 k7 hr => ?_
      obtain ⟨mf,rfl,hmf⟩:=hr
      obtain ⟨fu,fw,rfl,hfu,hfw⟩:=id hmf
      have fu1:=hfu.one
      have fw1:=one_of_isSl hfw.isSl
      simp [fu1,fw1]
      intro n14 b14 f14
      obtain ⟨K8,g8,o8⟩:=(Own.start (base:=base) (H:=K7) |>.new f14 b14 (s:=.arr 25 [.int .i64 0,.int .i64 0,.nils,.nils])).putAll 0 (b:=n14) rfl (n:=4) (ds:=[encN t,encN 0,fu,fw]) rfl rfl (by simp [fu1,fw1]) (rt:=none) rfl
      have k8:=((k5.trans o6.keeps).trans k7).trans o8.keeps
      have p11:=rd_keeps k8 (rd_all (o4.at 0 (b:=n11) rfl) (n:=4) (rt:=none) rfl rfl)
      have p14:=rd_all (o8.at 0 (b:=n14) rfl) (n:=4) (rt:=none) rfl rfl
      simp [make_of f14 b14,g8,p11,p14]
      obtain ⟨hD1,hD2⟩:=LD_small (t:=t) (by omega) (S:=List.range t) (fun k hk => List.mem_range.1 hk)
      refine (s_both (base:=base) t 0 0 (by omega) (by omega) _ _ _ _ K8 (hm4.keeps k8) (hmf.keeps o8.keeps) hX hD1.ok hX.pos hD1.ok.pos (by omega) (by omega)).step fun r K9 k9 hr => ?_
      obtain ⟨m,K10,e8',g10,r10,kk,hrel⟩:=rel_end (base:=base) (o1.call (k1.trans (o2.keeps.trans (k3.trans (o4.keeps.trans k8))))) (i:=0) (n2:=n6) rfl rfl k9 hr
      subst e8'
      simp [e6,g10,r10]
      rw [hR]
      exact ⟨kk,hrel⟩
  · simp [make_of f6 b6,hk1,hv.isSl,hvl]
    refine callP hs1 ?_
    simp
    refine callP hs2 ?_
    simp
    obtain ⟨H1,hH1⟩ : ∃ H1,H1 = H.set n6 (.arr 25 [.int .i64 0,.int .i64 0,.nils,.nils]):=⟨_,rfl⟩
    rw [← hH1] at o1
    rw [← hH1]
    obtain ⟨I,hI⟩ : ∃ I : Nat→Env→BH→Prop,I = (fun i e K => e 8 = encN i∧K = H1):=⟨_,rfl⟩
    refine wpC_countK t [(0,encI kind),(1,v),(2,encI c0),(6,.ptr n6 0)] I (i0:=0) ?_ ?_ ?_ (Nat.zero_le _) ?_
    · rfl
    · simp
    · rw [hI]
      exact ⟨by simp,rfl⟩
    rintro i e K hi ⟨e0,e1,e2,e6,-⟩ hh
    rw [hI] at hh
    obtain ⟨e8,rfl⟩:=hh
    simp only [] at e0 e1 e2 e6
    have wi:=wS (n:=i) (by omega)
    by_cases hlt : i < t
    · have gi:=(hv.keeps o1.keeps).at (i:=i) (by omega) (rt:=none) rfl
      have hti : i < terms.length:=by omega
      have gi' : K.rd none none (v.sat i 1) = some (encI terms[i]):=by simpa using gi
      have hg:=hT.2 _ (List.getElem_mem hti)
      have hin3 : inB terms[i] (-20) 20 = true:=by unfold inB; simp; omega
      have hs3:=s_in (base:=base) terms[i] (-20) 20 K
      rw [hin3] at hs3
      simp [e1,e8,hv.isSl,hvl,hlt,gi']
      refine callP hs3 ?_
      simp [e8,wi,hlt]
      rw [hI]
      exact ⟨by simp,rfl⟩
    · simp [e0,e1,e2,e8,hv.isSl,hvl,hlt]
      refine (hraw K (hv.keeps o1.keeps)).step fun r K1 k1 hr => ?_
      obtain ⟨m,rfl,hm⟩:=hr
      have hm:=hm.rd
      obtain ⟨u,w,rfl,hu,hw⟩:=id hm
      have u1:=hu.one
      have w1:=one_of_isSl hw.isSl
      simp [u1,w1]
      intro n9 b9 f9
      obtain ⟨K2,g2,o2⟩:=(Own.start (base:=base) (H:=K1) |>.new f9 b9 (s:=.arr 25 [.int .i64 0,.int .i64 0,.nils,.nils])).putAll 0 (b:=n9) rfl (n:=4) (ds:=[encN t,encN 0,u,w]) rfl rfl (by simp [u1,w1]) (rt:=none) rfl
      have r9:=rd_all (o2.at 0 (b:=n9) rfl) (n:=4) (rt:=none) rfl rfl
      simp [make_of f9 b9,g2,r9]
      have hm2:=hm.keeps o2.keeps
      refine (s_told (base:=base) t 0 X _ K2 hm2 (by omega)).step fun r K3 k3 hr => ?_
      rw [if_neg (by omega)] at hr
      subst hr
      simp [u1,w1]
      intro n11 b11 f11
      obtain ⟨K4,g4,o4⟩:=(Own.start (base:=base) (H:=K3) |>.new f11 b11 (s:=.arr 25 [.int .i64 0,.int .i64 0,.nils,.nils])).putAll 0 (b:=n11) rfl (n:=4) (ds:=[encN t,encN 0,u,w]) rfl rfl (by simp [u1,w1]) (rt:=none) rfl
      have hm4:=hm2.keeps (k3.trans o4.keeps)
      simp [make_of f11 b11,g4]
      refine (s_domain (base:=base) K4).step fun r K5 k5 hr => ?_
      rw [LD_dom] at hr
      have hd:=hr.rd
      obtain ⟨du,dw,rfl,hdu,hdw⟩:=id hd
      have du1:=hdu.one
      have dw1:=one_of_isSl hdw.isSl
      simp [du1,dw1]
      intro n13 b13 f13
      obtain ⟨K6,g6,o6⟩:=(Own.start (base:=base) (H:=K5) |>.new f13 b13 (s:=.arr 28 [.int .i64 0,.int .i64 0,.nils,.nils,.nils])).putAll 0 (b:=n13) rfl (n:=5) (ds:=[encN 1,encN 0,du,dw,.nils]) rfl rfl (by simp [du1,dw1]) (rt:=none) rfl
      simp [make_of f13 b13,g6,e1,hv.isSl,hvl]
      refine (s_frame (base:=base) t n13 (by omega) (by omega) du dw .nils K6 (o6.at 0 (b:=n13) rfl) (hd.keeps o6.keeps)).step fun r K7 k7 hr => ?_
      obtain ⟨mf,rfl,hmf⟩:=hr
      obtain ⟨fu,fw,rfl,hfu,hfw⟩:=id hmf
      have fu1:=hfu.one
      have fw1:=one_of_isSl hfw.isSl
      simp [fu1,fw1]
      intro n14 b14 f14
      obtain ⟨K8,g8,o8⟩:=(Own.start (base:=base) (H:=K7) |>.new f14 b14 (s:=.arr 25 [.int .i64 0,.int .i64 0,.nils,.nils])).putAll 0 (b:=n14) rfl (n:=4) (ds:=[encN t,encN 0,fu,fw]) rfl rfl (by simp [fu1,fw1]) (rt:=none) rfl
      have k8:=((k5.trans o6.keeps).trans k7).trans o8.keeps
      have p11:=rd_keeps k8 (rd_all (o4.at 0 (b:=n11) rfl) (n:=4) (rt:=none) rfl rfl)
      have p14:=rd_all (o8.at 0 (b:=n14) rfl) (n:=4) (rt:=none) rfl rfl
      simp [make_of f14 b14,g8,p11,p14]
      obtain ⟨hD1,hD2⟩:=LD_small (t:=t) (by omega) (S:=List.range t) (fun k hk => List.mem_range.1 hk)
      refine (s_both (base:=base) t 0 0 (by omega) (by omega) _ _ _ _ K8 (hm4.keeps k8) (hmf.keeps o8.keeps) hX hD1.ok hX.pos hD1.ok.pos (by omega) (by omega)).step fun r K9 k9 hr => ?_
      obtain ⟨m,K10,e8',g10,r10,kk,hrel⟩:=rel_end (base:=base) (o1.call (k1.trans (o2.keeps.trans (k3.trans (o4.keeps.trans k8))))) (i:=0) (n2:=n6) rfl rfl k9 hr
      subst e8'
      simp [e6,g10,r10]
      rw [hR]
      exact ⟨kk,hrel⟩
theorem s_AddRelation (H : BH) : FnDoes (gam base) 92 [] H fun v K => RelR base H 3 addN3 (.tup [v,encN addN3.2]) K:=by
  obtain ⟨R,hR⟩ : ∃ R : BV→BH→Prop,R = fun v K => RelR base H 3 addN3 (.tup [v,encN addN3.2]) K:=⟨_,rfl⟩
  rw [← hR]
  refine FnDoes.of (fn:=ir92) rfl ?_
  simp [ir92]
  intro n0 b0 f0
  simp [make_of f0 b0]
  intro n4 b4 f4
  have o1:=Own.start (base:=base) (H:=H) |>.new f0 b0 (s:=.arr 25 [.int .i64 0,.int .i64 0,.nils,.nils]) |>.new f4 b4 (s:=.arr 2 [.int .i64 1,.int .i64 1,.int .i64 (-1)])
  simp [make_of f4 b4]
  have hv : Rd _ 2 (.sl n4 0 3) (([1,1,-1] : List Int).map encI):=o1.rd 0 rfl rfl
  have hl:=s_LinearRelation (base:=base) 1 (.inl rfl) [1,1,-1] add_terms (by decide) 0 (by decide) [0,oddI,-1] add_closed (by decide) (by decide) (.sl n4 0 3) _ hv
  refine hl.step fun r K1 k1 hr => ?_
  have hr : RelR base _ 3 addN3 r K1:=hr
  obtain ⟨G,hG⟩ : ∃ G,G = addN3:=⟨_,rfl⟩
  rw [← hG] at hr hR
  obtain ⟨m,e,hm⟩:=hr.out
  obtain ⟨a1,a2,u,x,e2,p1,p2,p3,p4⟩:=hm.ones
  subst e
  simp [e2,p1,p2,p3,p4]
  intro n1 b1 f1
  obtain ⟨K2,g2,o2⟩:=(Own.start (base:=base) (H:=K1) |>.new f1 b1 (s:=.arr 25 [.int .i64 0,.int .i64 0,.nils,.nils])).putAll 0 (b:=n1) rfl (n:=4) (ds:=[a1,a2,u,x]) rfl rfl (by simp [p1,p2,p3,p4]) (rt:=none) rfl
  have r2:=rd_all (o2.at 0 (b:=n1) rfl) (n:=4) (rt:=none) rfl rfl
  simp [make_of f1 b1,g2,r2]
  obtain ⟨m',K8,e8,g8,r8,kk,hrel⟩:=rel_end (base:=base) o1 (i:=1) (n2:=n0) rfl rfl (k1.trans o2.keeps) (hr.call o2.keeps)
  simp only [BV.tup.injEq,List.cons.injEq,and_true] at e8
  obtain rfl:=e8
  rw [e2] at g8 r8 hrel
  simp [g8,r8]
  rw [hR]
  exact ⟨kk,hrel⟩
theorem s_LessNumbers (H : BH) : FnDoes (gam base) 93 [] H fun v K => RelR base H 2 lessN2 (.tup [v,encN lessN2.2]) K:=by
  obtain ⟨R,hR⟩ : ∃ R : BV→BH→Prop,R = fun v K => RelR base H 2 lessN2 (.tup [v,encN lessN2.2]) K:=⟨_,rfl⟩
  rw [← hR]
  refine FnDoes.of (fn:=ir93) rfl ?_
  simp [ir93]
  intro n0 b0 f0
  simp [make_of f0 b0]
  intro n4 b4 f4
  have o1:=Own.start (base:=base) (H:=H) |>.new f0 b0 (s:=.arr 25 [.int .i64 0,.int .i64 0,.nils,.nils]) |>.new f4 b4 (s:=.arr 2 [.int .i64 1,.int .i64 (-1)])
  simp [make_of f4 b4]
  have hv : Rd _ 2 (.sl n4 0 2) (([1,-1] : List Int).map encI):=o1.rd 0 rfl rfl
  have hl:=s_LinearRelation (base:=base) 2 (.inr rfl) [1,-1] less_terms (by decide) (-1) (by decide) [-1,0] less_closed (by decide) (by decide) (.sl n4 0 2) _ hv
  refine hl.step fun r K1 k1 hr => ?_
  have hr : RelR base _ 2 lessN2 r K1:=hr
  obtain ⟨G,hG⟩ : ∃ G,G = lessN2:=⟨_,rfl⟩
  rw [← hG] at hr hR
  obtain ⟨m,e,hm⟩:=hr.out
  obtain ⟨a1,a2,u,x,e2,p1,p2,p3,p4⟩:=hm.ones
  subst e
  simp [e2,p1,p2,p3,p4]
  intro n1 b1 f1
  obtain ⟨K2,g2,o2⟩:=(Own.start (base:=base) (H:=K1) |>.new f1 b1 (s:=.arr 25 [.int .i64 0,.int .i64 0,.nils,.nils])).putAll 0 (b:=n1) rfl (n:=4) (ds:=[a1,a2,u,x]) rfl rfl (by simp [p1,p2,p3,p4]) (rt:=none) rfl
  have r2:=rd_all (o2.at 0 (b:=n1) rfl) (n:=4) (rt:=none) rfl rfl
  simp [make_of f1 b1,g2,r2]
  obtain ⟨m',K8,e8,g8,r8,kk,hrel⟩:=rel_end (base:=base) o1 (i:=1) (n2:=n0) rfl rfl (k1.trans o2.keeps) (hr.call o2.keeps)
  simp only [BV.tup.injEq,List.cons.injEq,and_true] at e8
  obtain rfl:=e8
  rw [e2] at g8 r8 hrel
  simp [g8,r8]
  rw [hR]
  exact ⟨kk,hrel⟩
def withC (t tape c d : Nat) : Nat:=colD ((digs t c).insertIdx tape d)
noncomputable def endQ (A : Aut) (t tape q : Nat) : Bool:=by
  classical
  exact decide (∃ ds : List Nat,(∀ d∈ds,d < 2)∧A.lang q (ds.map (withC t tape (wd t))) = true)
theorem endQ_iff {A : Aut} {t tape q : Nat} : endQ A t tape q = true↔∃ ds : List Nat,(∀ d∈ds,d < 2)∧A.lang q (ds.map (withC t tape (wd t))) = true:=by
  classical
  unfold endQ
  rw [decide_eq_true_iff]
theorem endQ_acc {A : Aut} {t tape q : Nat} (h : A.acc.getD q false = true) : endQ A t tape q = true:=endQ_iff.2 ⟨[],by simp,h⟩
theorem endQ_step {A : Aut} {t tape q d : Nat} (hd : d < 2) (h : endQ A t tape (A.to q (withC t tape (wd t) d)) = true) : endQ A t tape q = true:=by
  obtain ⟨ds,h1,h2⟩:=endQ_iff.1 h
  refine endQ_iff.2 ⟨d::ds,fun x hx => ?_,h2⟩
  rcases List.mem_cons.1 hx with rfl | hx
  · exact hd
  · exact h1 x hx
theorem endQ_closed {A : Aut} {t tape : Nat} {P : Nat→Prop} (hacc : ∀ q,P q→A.acc.getD q false = false) (hst : ∀ q,P q→∀ d,d < 2→P (A.to q (withC t tape (wd t) d))) {q : Nat} (hq : P q) : endQ A t tape q = false:=by
  cases he : endQ A t tape q with
  | false => rfl
  | true =>
    obtain ⟨ds,h1,h2⟩:=endQ_iff.1 he
    have key : ∀ (ds : List Nat) (q : Nat),P q→(∀ d∈ds,d < 2)→A.lang q (ds.map (withC t tape (wd t))) = false:=by
      intro ds
      induction ds with
      | nil => intro q hq _; exact hacc q hq
      | cons d ds ih => intro q hq hd; exact ih _ (hst q hq d (hd d List.mem_cons_self)) fun x hx => hd x (List.mem_cons_of_mem _ hx)
    rw [key ds q hq h1] at h2
    cases h2
structure EndI (A : Aut) (t tape : Nat) (E : List Bool) : Prop where
  len : E.length = A.acc.length
  acc : ∀ q,A.acc.getD q false = true→E.getD q false = true
  ok : ∀ q,E.getD q false = true→endQ A t tape q = true
theorem EndI.start {A : Aut} {t tape : Nat} : EndI A t tape A.acc:=⟨rfl,fun _ h => h,fun _ h => endQ_acc h⟩
theorem EndI.set {A : Aut} {t tape : Nat} {E : List Bool} (h : EndI A t tape E) {q d : Nat} (hq : q < E.length) (hd : d < 2) (he : E.getD (A.to q (withC t tape (wd t) d)) false = true) : EndI A t tape (E.set q true):=by
  refine ⟨by rw [List.length_set]; exact h.len,fun p hp => ?_,fun p hp => ?_⟩
  · rw [List.getD_eq_getElem?_getD,List.getElem?_set]
    split
    · rfl
    · rw [← List.getD_eq_getElem?_getD]
      exact h.acc p hp
  · rw [List.getD_eq_getElem?_getD,List.getElem?_set] at hp
    split at hp
    · rename_i e
      subst e
      exact endQ_step hd (h.ok _ he)
    · rw [← List.getD_eq_getElem?_getD] at hp
      exact h.ok p hp
theorem EndI.done {A : Aut} {t tape : Nat} {E : List Bool} (h : EndI A t tape E) (hok : ∀ q,q < A.acc.length→∀ d,d < 2→A.to q (withC t tape (wd t) d) < A.acc.length)
    (hcl : ∀ q,q < E.length→E.getD q false = false→∀ d,d < 2→E.getD (A.to q (withC t tape (wd t) d)) false = false) {q : Nat} (hq : q < A.acc.length) : E.getD q false = endQ A t tape q:=by
  cases he : E.getD q false with
  | true => exact (h.ok q he).symm
  | false =>
    refine (endQ_closed (P:=fun q => q < A.acc.length∧E.getD q false = false) (fun p hp => ?_) (fun p hp d hd => ?_) ⟨hq,he⟩).symm
    · cases ha : A.acc.getD p false with
      | false => rfl
      | true => rw [h.acc p ha] at hp; exact absurd hp.2 (by simp)
    · exact ⟨hok p hp.1 d hd,hcl p (by rw [h.len]; exact hp.1) hp.2 d hd⟩
structure EndS (A : Aut) (t tape : Nat) (ks ls : List Nat) : Prop where
  nodup : ls.Nodup
  lt : ∀ q∈ls,q < A.acc.length
  sub : ∀ q∈ks,q∈ls
  back : ∀ q∈ls,endQ A t tape q = true→∃ k∈ks,endQ A t tape k = true
theorem EndS.len {A : Aut} {t tape : Nat} {ks ls : List Nat} (h : EndS A t tape ks ls) : ls.length≤A.acc.length:=by
  have:=nodup_le h.nodup (ys:=List.range A.acc.length) fun q hq => List.mem_range.2 (h.lt q hq)
  simpa using this
theorem EndS.push {A : Aut} {t tape : Nat} {ks ls : List Nat} (h : EndS A t tape ks ls) {p d : Nat} (hp : p∈ls) (hd : d < 2) (hlt : A.to p (withC t tape (wd t) d) < A.acc.length) (hn : A.to p (withC t tape (wd t) d) ∉ ls) : EndS A t tape ks (ls++[A.to p (withC t tape (wd t) d)]):=by
  refine ⟨?_,fun q hq => ?_,fun q hq => List.mem_append_left _ (h.sub q hq),fun q hq he => ?_⟩
  · rw [List.nodup_append]
    refine ⟨h.nodup,by simp,fun a ha b hb => ?_⟩
    simp at hb
    subst hb
    rintro rfl
    exact hn ha
  · rcases List.mem_append.1 hq with hq | hq
    · exact h.lt q hq
    · simp at hq
      subst hq
      exact hlt
  · rcases List.mem_append.1 hq with hq | hq
    · exact h.back q hq he
    · simp at hq
      subst hq
      exact h.back p hp (endQ_step hd he)
theorem wpC_unroll {C : CRel} {b : BCode} {Q : Post} {e : Env} {H : BH} (h : wpC base C b (Post.then (wpC base C (.loop b) Q) Q) e H) : wpC base C (.loop b) Q e H:=by
  obtain ⟨x,e1,H1,hx,hQ⟩:=wpC_elim h
  cases x with
  | normal =>
    obtain ⟨x2,e2,H2,hx2,hQ2⟩:=hQ
    exact ⟨x2,e2,H2,.loopn hx hx2,hQ2⟩
  | exit i => exact ⟨_,e1,H1,.loopx hx (by simp),hQ⟩
  | ret => exact ⟨_,e1,H1,.loopx hx (by simp),hQ⟩
theorem Has.put {e : Env} {t : Nat} {v : BV} {kp : List (Nat × BV)} (h : Has e kp) (ht : kp.all (fun p => !(p.1 == t)) = true) : Has (e.put t v) kp:=Has.frame (W:=[t]) (fun s hs => by
  have : s≠t:=fun he => hs (by simp [he])
  simp [Env.put,this]) (by
  rw [List.all_eq_true] at ht ⊢
  intro p hp
  have:=ht p hp
  simp only [List.contains_cons,List.contains_nil,Bool.or_false]
  exact this) h
theorem OwnRel.rows2 {H K : BH} {t s : Nat} {A : Aut} {m : BV} (h : OwnRel base H K t s A m) : ∃ Y,Own base H K Y∧∀ {H' K' : BH} {Z : List Sl},Own base H' K' (Z++Y)→OwnRel base H' K' t s A m:=by
  obtain ⟨u,w,bo,wo,vs,fr,e,o,hu,hw,hr⟩:=h
  exact ⟨_,o,fun {H' K' Z} o' => ⟨u,w,bo,wo,vs,fr,e,o'.sub (List.sublist_append_right _ _),hu,hw,hr⟩⟩
theorem OwnRel.cells {H K : BH} {t s : Nat} {A : Aut} {m : BV} (h : OwnRel base H K t s A m) : ∃ u x : BV,m = .agg [encN t,encN s,u,x]∧u.one = true∧x.one = true:=by
  obtain ⟨u,w,bo,wo,vs,fr,e,o,hu,hw,hr⟩:=h
  exact ⟨u,w,e,hu.one,hw.one⟩
theorem lay {K : BH} {n : Nat} {a b c d : BV} (f : K.row n = .fresh) (hb : base≤n) (p : ([a,b,c,d] : List BV).all BV.one = true) : ∃ K',(K.set n (.arr 25 [.int .i64 0,.int .i64 0,.nils,.nils])).wr base none 4 (.ptr n 0) (.agg [a,b,c,d]) = some K' ∧
    K.Keeps K'∧K'.rd none (some 4) (.ptr n 0) = some (.agg [a,b,c,d])∧K'.row n = .arr 25 [a,b,c,d]∧∀ {H : BH} {L : List Sl},Own base H K L→Own base H K' ((some n,.arr 25 [a,b,c,d])::L):=by
  obtain ⟨K',g,o⟩:=((Own.start (base:=base) (H:=K)).new f hb (s:=.arr 25 [.int .i64 0,.int .i64 0,.nils,.nils])).putAll 0 (b:=n) rfl (n:=4) (ds:=[a,b,c,d]) rfl rfl p (rt:=none) rfl
  refine ⟨K',g,o.keeps,rd_all (o.at 0 (b:=n) rfl) rfl rfl,o.at 0 (b:=n) rfl,fun {H L} oh => ?_⟩
  obtain ⟨K2,g2,o2⟩:=(oh.new f hb (s:=.arr 25 [.int .i64 0,.int .i64 0,.nils,.nils])).putAll 0 (b:=n) rfl (n:=4) (ds:=[a,b,c,d]) rfl rfl p (rt:=none) rfl
  have ek : K2 = K':=by rw [g] at g2; exact (Option.some.inj g2).symm
  subst ek
  exact o2
theorem RdRs.two {K : BH} {r q : Raw4} {n : Nat} {u x u' x' : BV} (h : RdRaw K r.1 r.2.1 r.2.2.1 r.2.2.2 (.agg [.int .i64 r.1,.int .i64 r.2.1,u,x])) (h' : RdRaw K q.1 q.2.1 q.2.2.1 q.2.2.2 (.agg [.int .i64 q.1,.int .i64 q.2.1,u',x']))
    (hr : K.row n = .arr 25 [.int .i64 r.1,.int .i64 r.2.1,u,x,.int .i64 q.1,.int .i64 q.2.1,u',x']) : RdRs K (.sl n 0 2) [r,q]:=by
  refine ⟨[[.int .i64 r.1,.int .i64 r.2.1,u,x],[.int .i64 q.1,.int .i64 q.2.1,u',x']],⟨rfl,rfl,fun i y hi => ?_⟩,rfl,fun i c s hi hq => ?_⟩
  · have hi2:=(List.getElem?_eq_some_iff.1 hi).1
    have : i = 0∨i = 1:=by have : i < 2:=hi2; omega
    rcases this with rfl | rfl
    · simp at hi
      subst hi
      exact ⟨n,0,_,rfl,hr,by simp,rfl⟩
    · simp at hi
      subst hi
      exact ⟨n,4,_,rfl,hr,by simp,rfl⟩
  · have hi2:=(List.getElem?_eq_some_iff.1 hi).1
    have : i = 0∨i = 1:=by have : i < 2:=hi2; omega
    rcases this with rfl | rfl
    · simp at hi hq
      subst hi hq
      exact h
    · simp at hi hq
      subst hi hq
      exact h'
def RowsQ (base : Nat) (Y : List Sl) (r : Raw4) (m : BV) : Prop:=∀ (H K : BH) (Z : List Sl),Own base H K (Y++Z)→OwnR base H K r m Z
theorem OwnR.rowsQ {H K : BH} {r : Raw4} {m : BV} (h : OwnR base H K r m []) : ∃ Y,Own base H K Y∧RowsQ base Y r m:=by
  obtain ⟨Y,o,hY⟩:=OwnQ.rows h
  exact ⟨Y,o,fun H K Z o => hY o⟩
theorem OwnR.ones {H K : BH} {r : Raw4} {m : BV} {Z : List Sl} (h : OwnR base H K r m Z) : ∃ u x,m = .agg [.int .i64 r.1,.int .i64 r.2.1,u,x]∧u.one = true∧x.one = true:=OwnQ.one h
def PresO (base : Nat) (H K : BH) (D A L : Raw4) (m : BV) (Z : List Sl) : Prop:=∃ n du dx au ax lu lx YD YA YL,m = .agg [.int .i64 D.1,.int .i64 D.2.1,du,dx,.sl n 0 2] ∧
  Own base H K ((some n,.arr 25 [.int .i64 A.1,.int .i64 A.2.1,au,ax,.int .i64 L.1,.int .i64 L.2.1,lu,lx])::(YD++(YA++(YL++Z)))) ∧
  RowsQ base YD D (.agg [.int .i64 D.1,.int .i64 D.2.1,du,dx])∧RowsQ base YA A (.agg [.int .i64 A.1,.int .i64 A.2.1,au,ax])∧RowsQ base YL L (.agg [.int .i64 L.1,.int .i64 L.2.1,lu,lx])
def RdPres (K : BH) (D A L : Raw4) (m : BV) : Prop:=∃ du dx w,m = .agg [.int .i64 D.1,.int .i64 D.2.1,du,dx,w]∧du.one = true∧dx.one = true∧w.one = true∧RdRaw K D.1 D.2.1 D.2.2.1 D.2.2.2 (.agg [.int .i64 D.1,.int .i64 D.2.1,du,dx])∧RdRs K w [A,L]
theorem RdPres.keeps {H K : BH} {D A L : Raw4} {m : BV} (h : RdPres H D A L m) (k : H.Keeps K) : RdPres K D A L m:=by
  obtain ⟨du,dx,w,e,h1,h2,h3,h4,h5⟩:=h
  exact ⟨du,dx,w,e,h1,h2,h3,h4.keeps k,h5.keeps k⟩
theorem PresO.rd {H K : BH} {D A L : Raw4} {m : BV} {Z : List Sl} (h : PresO base H K D A L m Z) : RdPres K D A L m:=by
  obtain ⟨n,du,dx,au,ax,lu,lx,YD,YA,YL,rfl,o,hD,hA,hL⟩:=h
  have oD:=hD H K _ o.tail
  have oA:=hA H K (YL++Z) (o.tail.sub (List.sublist_append_right _ _))
  have oL:=hL H K Z (o.tail.sub ((List.sublist_append_right _ _).trans (List.sublist_append_right _ _)))
  obtain ⟨u',x',e,h1,h2⟩:=oD.ones
  simp only [BV.agg.injEq,List.cons.injEq,and_true,true_and] at e
  refine ⟨du,dx,_,rfl,by rw [e.1]; exact h1,by rw [e.2]; exact h2,rfl,OwnQ.rd oD,RdRs.two (OwnQ.rd oA) (OwnQ.rd oL) (o.at 0 rfl)⟩
theorem PresO.one {H K : BH} {D A L : Raw4} {m : BV} {Z : List Sl} (h : PresO base H K D A L m Z) : ∃ n du dx,m = .agg [.int .i64 D.1,.int .i64 D.2.1,du,dx,.sl n 0 2]∧du.one = true∧dx.one = true:=by
  obtain ⟨du,dx,w,e,h1,h2,h3,-⟩:=h.rd
  obtain ⟨n,du',dx',au,ax,lu,lx,YD,YA,YL,e',-⟩:=h
  rw [e'] at e
  simp only [BV.agg.injEq,List.cons.injEq,and_true,true_and] at e
  exact ⟨n,du',dx',e',by rw [e.1]; exact h1,by rw [e.2.1]; exact h2⟩
theorem PresO.call {H K K' : BH} {D A L : Raw4} {m : BV} {Z : List Sl} (h : PresO base H K D A L m Z) (k : K.Keeps K') : PresO base H K' D A L m Z:=by
  obtain ⟨n,du,dx,au,ax,lu,lx,YD,YA,YL,e,o,h3⟩:=h
  exact ⟨n,du,dx,au,ax,lu,lx,YD,YA,YL,e,o.call k,h3⟩
theorem i_Arith (D A L : Raw4) (hd : ∀ H,FnDoes (gam base) 25 [] H fun v K => OwnR base H K D v []) (ha : ∀ H,FnDoes (gam base) 23 [] H fun v K => OwnR base H K A v []) (hl : ∀ H,FnDoes (gam base) 24 [] H fun v K => OwnR base H K L v []) (H : BH) :
    FnDoes (gam base) 11 [] H fun v K => PresO base H K D A L v []:=by
  obtain ⟨R,hR⟩ : ∃ R : BV→BH→Prop,R = fun v K => PresO base H K D A L v []:=⟨_,rfl⟩
  rw [← hR]
  refine FnDoes.of (fn:=ir11) rfl ?_
  simp [ir11]
  intro n0 b0 f0
  have o1:=Own.start (base:=base) (H:=H) |>.new f0 b0 (s:=.arr 28 [.int .i64 0,.int .i64 0,.nils,.nils,.nils])
  simp [make_of f0 b0]
  refine (hd _).step fun vD K1 k1 hD => ?_
  obtain ⟨YD,oD,qD⟩:=hD.rowsQ
  obtain ⟨du,dx,eD,du1,dx1⟩:=hD.ones
  subst eD
  simp
  refine (ha K1).step fun vA K2 k2 hA => ?_
  obtain ⟨YA,oA,qA⟩:=hA.rowsQ
  obtain ⟨au,ax,eA,au1,ax1⟩:=hA.ones
  subst eA
  simp
  refine (hl K2).step fun vL K3 k3 hL => ?_
  obtain ⟨YL,oL,qL⟩:=hL.rowsQ
  obtain ⟨lu,lx,eL,lu1,lx1⟩:=hL.ones
  subst eL
  simp [au1,ax1,lu1,lx1]
  intro n4 b4 f4
  have o4:=Own.join (Own.join (Own.join o1 k1 oD) k2 oA) k3 oL
  have o5:=o4.new f4 b4 (s:=.arr 25 [.int .i64 A.1,.int .i64 A.2.1,au,ax,.int .i64 L.1,.int .i64 L.2.1,lu,lx])
  simp [make_of f4 b4]
  refine (i_presented (base:=base) (.int .i64 D.1) (.int .i64 D.2.1) du dx (.sl n4 0 2) _ rfl rfl du1 dx1 rfl).step fun v K5 k5 hv => ?_
  subst hv
  obtain ⟨K6,g6,o6⟩:=(o5.call k5).putAll 1 (b:=n0) rfl (n:=5) (ds:=[.int .i64 D.1,.int .i64 D.2.1,du,dx,.sl n4 0 2]) rfl rfl (by simp [du1,dx1]) (rt:=none) rfl
  have r6:=rd_all (o6.at 1 (b:=n0) rfl) (n:=5) (rt:=none) rfl rfl
  simp [g6,r6]
  rw [hR]
  refine ⟨o6.keeps,n4,du,dx,au,ax,lu,lx,YD,YA,YL,rfl,o6.sub ?_,qD,qA,qL⟩
  refine .cons_cons _ ?_
  simp only [List.append_nil]
  show List.Sublist _ ((_::YD)++YA++YL)
  rw [List.append_assoc,List.cons_append]
  exact List.sublist_cons_self _ _
theorem s_Arith1 (D A L : Raw4) (hd : ∀ H,FnDoes (gam base) 51 [] H fun v K => OwnR base H K D v []) (ha : ∀ H,FnDoes (gam base) 92 [] H fun v K => OwnR base H K A v []) (hl : ∀ H,FnDoes (gam base) 93 [] H fun v K => OwnR base H K L v []) (H : BH) :
    FnDoes (gam base) 40 [] H fun v K => PresO base H K D A L v []:=by
  obtain ⟨R,hR⟩ : ∃ R : BV→BH→Prop,R = fun v K => PresO base H K D A L v []:=⟨_,rfl⟩
  rw [← hR]
  refine FnDoes.of (fn:=ir40) rfl ?_
  simp [ir40]
  intro n0 b0 f0
  have o1:=Own.start (base:=base) (H:=H) |>.new f0 b0 (s:=.arr 28 [.int .i64 0,.int .i64 0,.nils,.nils,.nils])
  simp [make_of f0 b0]
  refine (hd _).step fun vD K1 k1 hD => ?_
  obtain ⟨YD,oD,qD⟩:=hD.rowsQ
  obtain ⟨du,dx,eD,du1,dx1⟩:=hD.ones
  subst eD
  simp
  refine (ha K1).step fun vA K2 k2 hA => ?_
  obtain ⟨YA,oA,qA⟩:=hA.rowsQ
  obtain ⟨au,ax,eA,au1,ax1⟩:=hA.ones
  subst eA
  simp
  refine (hl K2).step fun vL K3 k3 hL => ?_
  obtain ⟨YL,oL,qL⟩:=hL.rowsQ
  obtain ⟨lu,lx,eL,lu1,lx1⟩:=hL.ones
  subst eL
  simp [au1,ax1,lu1,lx1]
  intro n4 b4 f4
  have o4:=Own.join (Own.join (Own.join o1 k1 oD) k2 oA) k3 oL
  have o5:=o4.new f4 b4 (s:=.arr 25 [.int .i64 A.1,.int .i64 A.2.1,au,ax,.int .i64 L.1,.int .i64 L.2.1,lu,lx])
  obtain ⟨K6,g6,o6⟩:=o5.putAll 1 (b:=n0) rfl (n:=5) (ds:=[.int .i64 D.1,.int .i64 D.2.1,du,dx,.sl n4 0 2]) rfl rfl (by simp [du1,dx1]) (rt:=none) rfl
  have r6:=rd_all (o6.at 1 (b:=n0) rfl) (n:=5) (rt:=none) rfl rfl
  simp [make_of f4 b4,du1,dx1,g6,r6]
  rw [hR]
  refine ⟨o6.keeps,n4,du,dx,au,ax,lu,lx,YD,YA,YL,rfl,o6.sub ?_,qD,qA,qL⟩
  refine .cons_cons _ ?_
  simp only [List.append_nil]
  show List.Sublist _ ((_::YD)++YA++YL)
  rw [List.append_assoc,List.cons_append]
  exact List.sublist_cons_self _ _
theorem s_Arith (D A L : Raw4) (hd : ∀ H,FnDoes (gam base) 51 [] H fun v K => OwnR base H K D v []) (ha : ∀ H,FnDoes (gam base) 92 [] H fun v K => OwnR base H K A v []) (hl : ∀ H,FnDoes (gam base) 93 [] H fun v K => OwnR base H K L v []) (H : BH) :
    FnDoes (gam base) 10 [] H fun v K => PresO base H K D A L v []:=by
  refine FnDoes.of (fn:=ir10) rfl ?_
  simp [ir10]
  intro n0 b0 f0
  have o1:=Own.start (base:=base) (H:=H) |>.new f0 b0 (s:=.arr 28 [.int .i64 0,.int .i64 0,.nils,.nils,.nils])
  simp [make_of f0 b0]
  refine (s_Arith1 D A L hd ha hl _).step fun v K1 k1 hv => ?_
  obtain ⟨n,du,dx,e,du1,dx1⟩:=hv.one
  obtain ⟨n',du',dx',au,ax,lu,lx,YD,YA,YL,e',o,q3⟩:=hv
  rw [e] at e'
  simp only [BV.agg.injEq,List.cons.injEq,and_true,true_and] at e'
  subst e
  have o2:=Own.join o1 k1 o
  obtain ⟨K6,g6,o6⟩:=o2.putAll 0 (b:=n0) rfl (n:=5) (ds:=[.int .i64 D.1,.int .i64 D.2.1,du,dx,.sl n 0 2]) rfl rfl (by simp [du1,dx1]) (rt:=none) rfl
  have r6:=rd_all (o6.at 0 (b:=n0) rfl) (n:=5) (rt:=none) rfl rfl
  simp [g6,r6]
  exact ⟨o6.keeps,n',du',dx',au,ax,lu,lx,YD,YA,YL,by simp [e'],o6.tail,q3⟩
theorem q_rels (l : List Raw4) (v w : BV) (H : BH) (h : RdRs H v l) (k : RdRs H w l) (hl : l.length≤1000000) (h1 : ∀ r∈l,r.2.2.1.length≤4611686018427387904) (h2 : ∀ r∈l,r.2.2.2.length≤4611686018427387904) (h3 : ∀ r∈l,∀ xs∈r.2.2.2,xs.length≤4611686018427387904) :
    FnDoes (gam base) 42 [v,w] H fun u _ => u = .bool true:=by
  obtain ⟨R,hR⟩ : ∃ R : BV→BH→Prop,R = fun u _ => u = .bool true:=⟨_,rfl⟩
  rw [← hR]
  refine FnDoes.of (fn:=ir42) rfl ?_
  have hsl : v.isSl = true:=by obtain ⟨cs,h1,_⟩:=h; exact h1.isSl
  have hsn : v.slen = l.length:=by obtain ⟨cs,h1,h2,_⟩:=h; rw [h1.len,h2]
  have ksl : w.isSl = true:=by obtain ⟨cs,h1,_⟩:=k; exact h1.isSl
  have ksn : w.slen = l.length:=by obtain ⟨cs,h1,h2,_⟩:=k; rw [h1.len,h2]
  simp [ir42,hsl,hsn,ksl,ksn]
  obtain ⟨I,hI⟩ : ∃ I : Nat→Env→BH→Prop,I = (fun i e K => e 5 = encN i∧H.Keeps K):=⟨_,rfl⟩
  refine wpC_countK l.length [(0,v),(1,w)] I (i0:=0) rfl ?_ ?_ (Nat.zero_le _) ?_
  · simp
  · rw [hI]
    exact ⟨by simp,BH.Keeps.refl H⟩
  rintro i e K hi ⟨e0,e1,-⟩ hh
  rw [hI] at hh
  obtain ⟨e5,hk⟩:=hh
  simp only [] at e0 e1
  have wi:=wS (n:=i) (by omega)
  by_cases hlt : i < l.length
  · obtain ⟨u,x,r1,g1⟩:=(h.keeps hk).get hlt
    obtain ⟨u',x',r2,g2⟩:=(k.keeps hk).get hlt
    simp [e0,e1,e5,hsl,hsn,ksl,ksn,hlt,r1,r2]
    refine (q_rel (base:=base) _ _ _ _ _ _ K g1 g2 (h1 _ (List.getElem_mem hlt)) (h2 _ (List.getElem_mem hlt)) (h3 _ (List.getElem_mem hlt))).step fun v' K2 k2 hv => ?_
    subst hv
    simp [e5,wi,hlt]
    rw [hI]
    exact ⟨by simp,hk.trans k2⟩
  · simp [e0,e1,e5,hsl,hsn,ksl,ksn,hlt]
    rw [hR]
    exact ⟨hk,rfl⟩
theorem q_pres (D A L : Raw4) (m m' : BV) (H : BH) (h : RdPres H D A L m) (h' : RdPres H D A L m') (hl : ∀ r∈[D,A,L],r.2.2.1.length≤4611686018427387904∧r.2.2.2.length≤4611686018427387904∧∀ xs∈r.2.2.2,xs.length≤4611686018427387904) :
    FnDoes (gam base) 12 [m,m'] H fun u _ => u = .bool true:=by
  refine FnDoes.of (fn:=ir12) rfl ?_
  obtain ⟨u,x,w,rfl,u1,x1,w1,hd,hr⟩:=h
  obtain ⟨u',x',w',rfl,u1',x1',w1',hd',hr'⟩:=h'
  simp [ir12,u1,x1,w1,u1',x1',w1']
  intro n2 b2 f2
  simp [make_of f2 b2,u1',x1',w1']
  intro n3 b3 f3
  have o1:=Own.start (base:=base) (H:=H) |>.new f2 b2 (s:=.arr 28 [.int .i64 D.1,.int .i64 D.2.1,u,x,w]) |>.new f3 b3 (s:=.arr 28 [.int .i64 D.1,.int .i64 D.2.1,u',x',w'])
  obtain ⟨H1,hH1⟩ : ∃ H1,H1 = (H.set n2 (.arr 28 [.int .i64 D.1,.int .i64 D.2.1,u,x,w])).set n3 (.arr 28 [.int .i64 D.1,.int .i64 D.2.1,u',x',w']):=⟨_,rfl⟩
  simp [make_of f3 b3]
  rw [← hH1] at o1 ⊢
  have r2 : H1.rd none (some 4) (.ptr n2 0) = some (.agg [.int .i64 D.1,.int .i64 D.2.1,u,x]):=rd_part (o1.at 1 (b:=n2) rfl) (by simp) rfl
  have r3 : H1.rd none (some 4) (.ptr n3 0) = some (.agg [.int .i64 D.1,.int .i64 D.2.1,u',x']):=rd_part (o1.at 0 (b:=n3) rfl) (by simp) rfl
  simp [r2,r3]
  have hD:=hl D (by simp)
  refine (q_rel (base:=base) D.1 D.2.1 D.2.2.1 D.2.2.2 _ _ H1 (hd.keeps o1.keeps) (hd'.keeps o1.keeps) hD.1 hD.2.1 hD.2.2).step fun v K2 k2 hv => ?_
  subst hv
  have o2:=o1.call k2
  have r2:=rd_ptr (o2.at 1 (b:=n2) rfl) (rt:=none) (j:=4) (c:=w) rfl rfl
  have r3:=rd_ptr (o2.at 0 (b:=n3) rfl) (rt:=none) (j:=4) (c:=w') rfl rfl
  simp [r2,r3]
  refine (q_rels (base:=base) [A,L] w w' K2 (hr.keeps o2.keeps) (hr'.keeps o2.keeps) (by simp) (fun r h => (hl r (List.mem_cons_of_mem _ h)).1) (fun r h => (hl r (List.mem_cons_of_mem _ h)).2.1) (fun r h => (hl r (List.mem_cons_of_mem _ h)).2.2)).step fun v K3 k3 hv => ?_
  subst hv
  simp
  exact o2.keeps.trans k3
def MRowsQ (base : Nat) (Y : List Sl) (T S : Int) (k n p w : Nat) (m : BV) : Prop:=∀ (H K : BH) (Z : List Sl),Own base H K (Y++Z)→MkQ base H K T S k n p w m Z
theorem MkQ.rows {H K : BH} {T S : Int} {k n p w : Nat} {m : BV} {Z : List Sl} (h : MkQ base H K T S k n p w m Z) : ∃ Y,Own base H K (Y++Z)∧MRowsQ base Y T S k n p w m:=by
  obtain ⟨u,x,bo,wo,vs,fr,e,o,hu,hx,hr⟩:=h
  exact ⟨(bo,.arr 4 (mkB k n))::(wo,.arr 36 vs)::fr,by simpa using o,fun H K Z o => ⟨u,x,bo,wo,vs,fr,e,by simpa using o,hu,hx,hr⟩⟩
def HalfQ (base : Nat) (H K : BH) (k n : Nat) (rows : List (List Int)) (u x : BV) (Z : List Sl) : Prop:=∃ bo wo vs fr,Own base H K ((bo,.arr 4 (mkB k n))::(wo,.arr 36 vs)::(fr++Z))∧Vec bo u n∧Vec wo x vs.length∧RowsOf 2 vs fr (rows.map (·.map encI))
theorem HalfQ.rest {H K : BH} {k n : Nat} {rows : List (List Int)} {u x : BV} {Z : List Sl} (h : HalfQ base H K k n rows u x Z) : Own base H K Z:=by
  obtain ⟨bo,wo,vs,fr,o,hu,hx,hr⟩:=h
  exact o.sub ((List.sublist_append_right _ _).trans ((List.sublist_cons_self _ _).trans (List.sublist_cons_self _ _)))
theorem FnW.mono {Γ : Ctx} {f : Nat} {args : List BV} {H : BH} {P Q : BV→BH→Prop} (h : FnW Γ f args H P) (k : ∀ v K,P v K→Q v K) : FnW Γ f args H Q:=by
  obtain ⟨v,K,h1,h2⟩:=h
  exact ⟨v,K,h1,k v K h2⟩
theorem mark_q1 {H K : BH} {T S : Int} {acc : List Bool} {rows : List (List Int)} {u x : BV} {Z : List Sl} (k : Nat) (h : OwnQ base H K T S acc rows (.agg [.int .i64 T,.int .i64 S,u,x]) Z) (hk : k + acc.length≤1000000000) :
    FnW (gam base) 81 [u,encN k] K fun v K' => v = encN (k + acc.length)∧HalfQ base H K' k acc.length rows u x Z:=by
  obtain ⟨u',x',bo,wo,vs,fr,e,o,hu,hx,hr⟩:=h
  simp only [BV.agg.injEq,List.cons.injEq,and_true,true_and] at e
  obtain ⟨rfl,rfl⟩:=e
  refine (mark_bools (base:=base) 0 k o rfl (by simpa using hu) (by simp; omega)).mono fun v K1 hh => ?_
  obtain ⟨rfl,o2⟩:=hh
  rw [List.length_map] at o2 ⊢
  exact ⟨rfl,bo,wo,vs,fr,o2,hu,hx,hr⟩
theorem mark_q2 {H K : BH} {rows : List (List Int)} {u x : BV} {Z : List Sl} (T S : Int) (k n w : Nat) (h : HalfQ base H K k n rows u x Z) (hw : ∀ r∈rows,r.length = w) (hk : k + n + rows.length * w≤1000000000) (hn : rows.length≤1000000000) :
    FnW (gam base) 82 [x,encN (k + n)] K fun v K' => v = encN (k + n + rows.length * w)∧MkQ base H K' T S k n rows.length w (.agg [.int .i64 T,.int .i64 S,u,x]) Z:=by
  obtain ⟨bo,wo,vs,fr,o,hu,hx,hr⟩:=h
  refine (mark_rows (base:=base) (k + n) w o hx hr (fun xs hxs => by
    obtain ⟨r,hr',rfl⟩:=List.mem_map.1 hxs
    rw [List.length_map]; exact hw r hr') (by simpa using hk) (by simpa using hn)).mono fun v K2 hh => ?_
  obtain ⟨rfl,fr',o3,hr3⟩:=hh
  rw [List.length_map] at hr3 ⊢
  exact ⟨rfl,u,x,bo,wo,vs,fr',rfl,o3,hu,hx,hr3⟩
theorem perm_m2 {α : Type} (a : α) (A B C : List α) : (B++(a::(A++C))).Perm (a::(A++(B++C))):=by
  classical
  exact List.perm_iff_count.2 fun x => by simp only [List.count_append,List.count_cons]; omega
theorem mark_rels {H K : BH} {A L : Raw4} {n : Nat} {au ax lu lx : BV} {YA YL Z : List Sl} (k k2 k3 wA wL : Nat)
    (o : Own base H K ((some n,.arr 25 [.int .i64 A.1,.int .i64 A.2.1,au,ax,.int .i64 L.1,.int .i64 L.2.1,lu,lx])::(YA++(YL++Z)))) (qA : RowsQ base YA A (.agg [.int .i64 A.1,.int .i64 A.2.1,au,ax])) (qL : RowsQ base YL L (.agg [.int .i64 L.1,.int .i64 L.2.1,lu,lx]))
    (hA : ∀ r∈A.2.2.2,r.length = wA) (hL : ∀ r∈L.2.2.2,r.length = wL) (e2 : k2 = k + 2 + A.2.2.1.length + A.2.2.2.length * wA) (e3 : k3 = k2 + 2 + L.2.2.1.length + L.2.2.2.length * wL) (hk : k3≤1000000000) (hnA : A.2.2.2.length≤1000000000) (hnL : L.2.2.2.length≤1000000000) :
    FnW (gam base) 43 [.sl n 0 2,encN k] K fun v K' => v = encN k3∧∃ YA' YL',Own base H K' ((some n,.arr 25 [encN k,encN (k + 1),au,ax,encN k2,encN (k2 + 1),lu,lx])::(YA'++(YL'++Z))) ∧
      MRowsQ base YA' (k : Int) ((k + 1 : Nat) : Int) (k + 2) A.2.2.1.length A.2.2.2.length wA (.agg [.int .i64 (k : Int),.int .i64 ((k + 1 : Nat) : Int),au,ax])∧MRowsQ base YL' (k2 : Int) ((k2 + 1 : Nat) : Int) (k2 + 2) L.2.2.1.length L.2.2.2.length wL (.agg [.int .i64 (k2 : Int),.int .i64 ((k2 + 1 : Nat) : Int),lu,lx]):=by
  obtain ⟨T1,S1,accA,rowsA⟩:=A
  obtain ⟨T2,S2,accL,rowsL⟩:=L
  simp only at o qA qL hA hL e2 e3 hnA hnL ⊢
  obtain ⟨R,hR⟩ : ∃ R : BV→BH→Prop,R = fun v K' => v = encN k3∧∃ YA' YL',Own base H K' ((some n,.arr 25 [encN k,encN (k + 1),au,ax,encN k2,encN (k2 + 1),lu,lx])::(YA'++(YL'++Z))) ∧
      MRowsQ base YA' (k : Int) ((k + 1 : Nat) : Int) (k + 2) accA.length rowsA.length wA (.agg [.int .i64 (k : Int),.int .i64 ((k + 1 : Nat) : Int),au,ax])∧MRowsQ base YL' (k2 : Int) ((k2 + 1 : Nat) : Int) (k2 + 2) accL.length rowsL.length wL (.agg [.int .i64 (k2 : Int),.int .i64 ((k2 + 1 : Nat) : Int),lu,lx]):=⟨_,rfl⟩
  rw [← hR]
  have oA0:=qA H K (YL++Z) (o.sub (List.sublist_cons_self _ _))
  obtain ⟨ua,xa,ea,au1,ax1⟩:=OwnR.ones oA0
  simp only [BV.agg.injEq,List.cons.injEq,and_true,true_and] at ea
  have oL0:=qL H K Z (o.sub ((List.sublist_append_right _ _).trans (List.sublist_cons_self _ _)))
  obtain ⟨ul,xl,el,lu1,lx1⟩:=OwnR.ones oL0
  simp only [BV.agg.injEq,List.cons.injEq,and_true,true_and] at el
  obtain ⟨ea1,ea2⟩:=ea
  obtain ⟨el1,el2⟩:=el
  rw [← ea1] at au1
  rw [← ea2] at ax1
  rw [← el1] at lu1
  rw [← el2] at lx1
  clear oA0 oL0 ea1 ea2 el1 el2
  have w1 : IntKind.i64.wrap ((k : Int) + 1) = ((k + 1 : Nat) : Int):=by rw [w64 (by omega) (by omega)]; omega
  have w2 : IntKind.i64.wrap (((k + 1 : Nat) : Int) + 1) = ((k + 2 : Nat) : Int):=by rw [w64 (by omega) (by omega)]; omega
  have w3 : IntKind.i64.wrap ((k2 : Int) + 1) = ((k2 + 1 : Nat) : Int):=by rw [w64 (by omega) (by omega)]; omega
  have w4 : IntKind.i64.wrap (((k2 + 1 : Nat) : Int) + 1) = ((k2 + 2 : Nat) : Int):=by rw [w64 (by omega) (by omega)]; omega
  have v1 : IntKind.i64.wrap 1 = 1:=by decide
  have v2 : IntKind.i64.wrap 2 = 2:=by decide
  obtain ⟨a1,ha1⟩ : ∃ a,a = k + 1:=⟨_,rfl⟩
  obtain ⟨a2,ha2⟩ : ∃ a,a = k + 2:=⟨_,rfl⟩
  obtain ⟨b1,hb1⟩ : ∃ a,a = k2 + 1:=⟨_,rfl⟩
  obtain ⟨b2,hb2⟩ : ∃ a,a = k2 + 2:=⟨_,rfl⟩
  rw [← ha1] at w1 w2 hR
  rw [← ha2] at w2 hR e2
  rw [← hb1] at w3 w4 hR
  rw [← hb2] at w4 hR e3
  refine FnW.of (fn:=ir43) rfl ?_
  simp [ir43]
  refine wpC_unroll ?_
  obtain ⟨K1,g1,o1⟩:=o.put 0 (b:=n) rfl (j:=0) (by simp) (u:=encN k) rfl (rt:=none) rfl
  obtain ⟨K2,g2,o2⟩:=o1.put 0 (b:=n) rfl (j:=1) (by simp) (u:=encN a1) rfl (rt:=none) rfl
  simp at o2
  have ra:=rd_ptr (o2.at 0 (b:=n) rfl) (rt:=none) (j:=2) (c:=au) rfl rfl
  simp [g1,w1,g2,w2,ra]
  refine (mark_q1 (base:=base) (T:=T1) (S:=S1) (acc:=accA) (rows:=rowsA) (u:=au) (x:=ax) a2 (qA H K2 _ (o2.perm List.perm_middle)) (by omega)).step fun v K3 hh => ?_
  obtain ⟨rfl,hq⟩:=hh
  have rx:=rd_ptr (hq.rest.at 0 (b:=n) rfl) (rt:=none) (j:=3) (c:=ax) rfl rfl
  simp [rx]
  refine (mark_q2 (base:=base) (k : Int) (a1 : Int) a2 accA.length wA hq hA (by omega) hnA).step fun v K4 hh => ?_
  obtain ⟨rfl,hm⟩:=hh
  rw [← e2]
  obtain ⟨YA',o4,mA⟩:=hm.rows
  simp [v1]
  refine wpC_unroll ?_
  obtain ⟨K5,g5,o5⟩:=(o4.perm List.perm_middle.symm).put 0 (b:=n) rfl (j:=4) (by simp) (u:=encN k2) rfl (rt:=none) rfl
  obtain ⟨K6,g6,o6⟩:=o5.put 0 (b:=n) rfl (j:=5) (by simp) (u:=encN b1) rfl (rt:=none) rfl
  simp at o6
  have ra:=rd_ptr (o6.at 0 (b:=n) rfl) (rt:=none) (j:=6) (c:=lu) rfl rfl
  simp [g5,w3,g6,w4,ra]
  refine (mark_q1 (base:=base) (T:=T2) (S:=S2) (acc:=accL) (rows:=rowsL) (u:=lu) (x:=lx) b2 (qL H K6 _ (o6.perm (perm_m2 _ YA' YL Z))) (by omega)).step fun v K7 hh => ?_
  obtain ⟨rfl,hq⟩:=hh
  have rx:=rd_ptr (hq.rest.at 0 (b:=n) rfl) (rt:=none) (j:=7) (c:=lx) rfl rfl
  simp [rx]
  refine (mark_q2 (base:=base) (k2 : Int) (b1 : Int) b2 accL.length wL hq hL (by omega) hnL).step fun v K8 hh => ?_
  obtain ⟨rfl,hm⟩:=hh
  rw [← e3]
  obtain ⟨YL',o8,mL⟩:=hm.rows
  simp [v2]
  refine wpC_unroll ?_
  simp
  rw [hR]
  exact ⟨rfl,YA',YL',o8.perm (perm_m2 _ YA' YL' Z).symm,mA,mL⟩
def MkP (base : Nat) (H K : BH) (k k1 k2 k3 : Nat) (D A L : Raw4) (wD wA wL : Nat) (m : BV) (Z : List Sl) : Prop:=∃ n du dx au ax lu lx YD YA YL,m = .agg [.int .i64 D.1,.int .i64 D.2.1,du,dx,.sl n 0 2] ∧
  Own base H K ((some n,.arr 25 [encN k1,encN (k1 + 1),au,ax,encN k2,encN (k2 + 1),lu,lx])::(YD++(YA++(YL++Z)))) ∧
  MRowsQ base YD D.1 D.2.1 k D.2.2.1.length D.2.2.2.length wD (.agg [.int .i64 D.1,.int .i64 D.2.1,du,dx])∧MRowsQ base YA (k1 : Int) ((k1 + 1 : Nat) : Int) (k1 + 2) A.2.2.1.length A.2.2.2.length wA (.agg [.int .i64 (k1 : Int),.int .i64 ((k1 + 1 : Nat) : Int),au,ax]) ∧
  MRowsQ base YL (k2 : Int) ((k2 + 1 : Nat) : Int) (k2 + 2) L.2.2.1.length L.2.2.2.length wL (.agg [.int .i64 (k2 : Int),.int .i64 ((k2 + 1 : Nat) : Int),lu,lx])
theorem MkP.call {H K K' : BH} {k k1 k2 k3 : Nat} {D A L : Raw4} {wD wA wL : Nat} {m : BV} {Z : List Sl} (h : MkP base H K k k1 k2 k3 D A L wD wA wL m Z) (q : K.Keeps K') : MkP base H K' k k1 k2 k3 D A L wD wA wL m Z:=by
  obtain ⟨n,du,dx,au,ax,lu,lx,YD,YA,YL,e,o,h3⟩:=h
  exact ⟨n,du,dx,au,ax,lu,lx,YD,YA,YL,e,o.call q,h3⟩
theorem MkP.rest {H K : BH} {k k1 k2 k3 : Nat} {D A L : Raw4} {wD wA wL : Nat} {m : BV} {Z : List Sl} (h : MkP base H K k k1 k2 k3 D A L wD wA wL m Z) : Own base H K Z:=by
  obtain ⟨n,du,dx,au,ax,lu,lx,YD,YA,YL,e,o,h3⟩:=h
  exact o.tail.sub ((List.sublist_append_right _ _).trans ((List.sublist_append_right _ _).trans (List.sublist_append_right _ _)))
theorem mark_pres {H K : BH} {D A L : Raw4} {m : BV} {Z : List Sl} (k k1 k2 k3 wD wA wL : Nat) (h : PresO base H K D A L m Z) (hD : ∀ r∈D.2.2.2,r.length = wD) (hA : ∀ r∈A.2.2.2,r.length = wA) (hL : ∀ r∈L.2.2.2,r.length = wL)
    (e1 : k1 = k + D.2.2.1.length + D.2.2.2.length * wD) (e2 : k2 = k1 + 2 + A.2.2.1.length + A.2.2.2.length * wA) (e3 : k3 = k2 + 2 + L.2.2.1.length + L.2.2.2.length * wL) (hk : k3≤1000000000) (hnD : D.2.2.2.length≤1000000000) (hnA : A.2.2.2.length≤1000000000) (hnL : L.2.2.2.length≤1000000000) :
    FnW (gam base) 13 [m,encN k] K fun v K' => v = encN k3∧MkP base H K' k k1 k2 k3 D A L wD wA wL m Z:=by
  obtain ⟨R,hR⟩ : ∃ R : BV→BH→Prop,R = fun v K' => v = encN k3∧MkP base H K' k k1 k2 k3 D A L wD wA wL m Z:=⟨_,rfl⟩
  rw [← hR]
  refine FnW.of (fn:=ir13) rfl ?_
  obtain ⟨n',du',dx',eO,du1,dx1⟩:=h.one
  obtain ⟨n,du,dx,au,ax,lu,lx,YD,YA,YL,rfl,o,qD,qA,qL⟩:=h
  simp only [BV.agg.injEq,List.cons.injEq,and_true,true_and] at eO
  rw [← eO.1] at du1
  rw [← eO.2.1] at dx1
  clear eO
  simp [ir13,du1,dx1]
  intro n2 b2 f2
  have o1:=o.new f2 b2 (s:=.arr 28 [.int .i64 D.1,.int .i64 D.2.1,du,dx,.sl n 0 2])
  obtain ⟨K1,hK1⟩ : ∃ K1,K1 = K.set n2 (.arr 28 [.int .i64 D.1,.int .i64 D.2.1,du,dx,.sl n 0 2]):=⟨_,rfl⟩
  simp [make_of f2 b2]
  rw [← hK1] at o1 ⊢
  have r2 : K1.rd none (some 4) (.ptr n2 0) = some (.agg [.int .i64 D.1,.int .i64 D.2.1,du,dx]):=rd_part (o1.at 0 (b:=n2) rfl) (by simp) rfl
  simp [r2]
  obtain ⟨P2,hP2⟩ : ∃ P2 : Sl,P2 = (some n2,.arr 28 [.int .i64 D.1,.int .i64 D.2.1,du,dx,.sl n 0 2]):=⟨_,rfl⟩
  obtain ⟨P,hP⟩ : ∃ P : Sl,P = (some n,.arr 25 [.int .i64 A.1,.int .i64 A.2.1,au,ax,.int .i64 L.1,.int .i64 L.2.1,lu,lx]):=⟨_,rfl⟩
  rw [← hP2,← hP] at o1
  have oD : Own base H K1 (YD++(P2::P::(YA++(YL++Z)))):=o1.perm (List.perm_middle.trans (.cons _ List.perm_middle))
  refine (mark_rel (base:=base) k wD (qD H K1 _ oD) hD (by omega) hnD).step fun v K2 hh => ?_
  obtain ⟨rfl,hm⟩:=hh
  rw [← e1]
  obtain ⟨YD',o3,mD⟩:=hm.rows
  have o4 : Own base H K2 (P2::P::(YA++(YL++(YD'++Z)))):=o3.perm (by
    classical
    exact List.perm_iff_count.2 fun x => by simp only [List.count_append,List.count_cons]; omega)
  rw [hP2] at o4
  have r4:=rd_ptr (o4.at 0 (b:=n2) rfl) (rt:=none) (j:=4) (c:=.sl n 0 2) rfl rfl
  have o5:=o4.tail
  simp only [List.tail_cons] at o5
  rw [hP] at o5
  simp [r4]
  refine (mark_rels (base:=base) (A:=A) (L:=L) k1 k2 k3 wA wL o5 qA qL hA hL e2 e3 hk hnA hnL).step fun v K6 hh => ?_
  obtain ⟨rfl,YA',YL',o6,mA,mL⟩:=hh
  simp
  rw [hR]
  refine ⟨rfl,n,du,dx,au,ax,lu,lx,YD',YA',YL',rfl,o6.perm (.cons _ ?_),mD,mA,mL⟩
  classical
  exact List.perm_iff_count.2 fun x => by simp only [List.count_append]; omega
theorem MkQ.rds {H K : BH} {T S : Int} {k n p w : Nat} {u x : BV} {Z : List Sl} (h : MkQ base H K T S k n p w (.agg [.int .i64 T,.int .i64 S,u,x]) Z) : Rd K 4 u (mkB k n)∧RdR K 36 2 x (fun c => c) ((List.range p).map (fun i => mkI (k + n + i * w) w))∧u.one = true∧x.one = true:=by
  obtain ⟨u',x',bo,wo,vs,fr,e,o,hu,hx,hr⟩:=h
  simp only [BV.agg.injEq,List.cons.injEq,and_true,true_and] at e
  obtain ⟨rfl,rfl⟩:=e
  have o' : Own base H K ((bo,.arr 4 (mkB k n))::(wo,.arr 36 vs)::fr):=o.sub (.cons_cons _ (.cons_cons _ (List.sublist_append_left _ _)))
  exact ⟨o'.rd 0 rfl (by rw [mkB_len]; exact hu),RowsOf.rdR (bo:=wo) (F:=[(bo,.arr 4 (mkB k n)),(wo,.arr 36 vs)]) o' (by rw [map_id2]; exact hr) (o'.rd 1 rfl hx),hu.one,hx.one⟩
theorem held_rels {H K : BH} {n nA pA nL pL : Nat} {au ax lu lx : BV} {YA YL Z : List Sl} (k k2 k3 wA wL : Nat)
    (o : Own base H K ((some n,.arr 25 [encN k,encN (k + 1),au,ax,encN k2,encN (k2 + 1),lu,lx])::(YA++(YL++Z))))
    (mA : MRowsQ base YA (k : Int) ((k + 1 : Nat) : Int) (k + 2) nA pA wA (.agg [.int .i64 (k : Int),.int .i64 ((k + 1 : Nat) : Int),au,ax])) (mL : MRowsQ base YL (k2 : Int) ((k2 + 1 : Nat) : Int) (k2 + 2) nL pL wL (.agg [.int .i64 (k2 : Int),.int .i64 ((k2 + 1 : Nat) : Int),lu,lx]))
    (e2 : k2 = k + 2 + nA + pA * wA) (e3 : k3 = k2 + 2 + nL + pL * wL) (hk : k3≤1000000000) (hpA : pA≤1000000000) (hpL : pL≤1000000000) :
    FnDoes (gam base) 44 [.sl n 0 2,encN k] K fun v _ => v = encN k3:=by
  refine FnDoes.of (fn:=ir44) rfl ?_
  obtain ⟨bA,rA,-,-⟩:=(mA H K (YL++Z) (o.sub (List.sublist_cons_self _ _))).rds
  obtain ⟨bL,rL,-,-⟩:=(mL H K Z (o.sub ((List.sublist_append_right _ _).trans (List.sublist_cons_self _ _)))).rds
  have w1 : IntKind.i64.wrap ((k : Int) + 1) = ((k + 1 : Nat) : Int):=by rw [w64 (by omega) (by omega)]; omega
  have w2 : IntKind.i64.wrap (((k + 1 : Nat) : Int) + 1) = ((k + 2 : Nat) : Int):=by rw [w64 (by omega) (by omega)]; omega
  have w3 : IntKind.i64.wrap ((k2 : Int) + 1) = ((k2 + 1 : Nat) : Int):=by rw [w64 (by omega) (by omega)]; omega
  have w4 : IntKind.i64.wrap (((k2 + 1 : Nat) : Int) + 1) = ((k2 + 2 : Nat) : Int):=by rw [w64 (by omega) (by omega)]; omega
  have v1 : IntKind.i64.wrap 1 = 1:=by decide
  have v2 : IntKind.i64.wrap 2 = 2:=by decide
  have p0:=rd_ptr (o.at 0 (b:=n) rfl) (rt:=none) (j:=0) (c:=encN k) rfl rfl
  have p1:=rd_ptr (o.at 0 (b:=n) rfl) (rt:=none) (j:=1) (c:=encN (k + 1)) rfl rfl
  have p2:=rd_ptr (o.at 0 (b:=n) rfl) (rt:=none) (j:=2) (c:=au) rfl rfl
  have p3:=rd_ptr (o.at 0 (b:=n) rfl) (rt:=none) (j:=3) (c:=ax) rfl rfl
  have p4:=rd_ptr (o.at 0 (b:=n) rfl) (rt:=none) (j:=4) (c:=encN k2) rfl rfl
  have p5:=rd_ptr (o.at 0 (b:=n) rfl) (rt:=none) (j:=5) (c:=encN (k2 + 1)) rfl rfl
  have p6:=rd_ptr (o.at 0 (b:=n) rfl) (rt:=none) (j:=6) (c:=lu) rfl rfl
  have p7:=rd_ptr (o.at 0 (b:=n) rfl) (rt:=none) (j:=7) (c:=lx) rfl rfl
  obtain ⟨a1,ha1⟩ : ∃ a,a = k + 1:=⟨_,rfl⟩
  obtain ⟨a2,ha2⟩ : ∃ a,a = k + 2:=⟨_,rfl⟩
  obtain ⟨b1,hb1⟩ : ∃ a,a = k2 + 1:=⟨_,rfl⟩
  obtain ⟨b2,hb2⟩ : ∃ a,a = k2 + 2:=⟨_,rfl⟩
  rw [← ha1] at p1 w1 w2
  rw [← ha2] at w2 bA rA
  rw [← hb1] at p5 w3 w4
  rw [← hb2] at w4 bL rL
  clear mA mL
  simp [ir44]
  refine wpC_unroll ?_
  simp [p0,w1,p1,w2,p2]
  refine callP (held_bools nA a2 bA (by omega)) ?_
  obtain ⟨a3,ha3⟩ : ∃ a,a = a2 + nA:=⟨_,rfl⟩
  rw [← ha3] at rA ⊢
  have na3 : ¬ (a3 : Int) < 0:=by omega
  simp [na3,p3]
  have hA:=held_rows (base:=base) pA a3 wA rA (by omega) hpA
  rw [show a3 + pA * wA = k2 by omega] at hA
  refine callP hA ?_
  have nk2 : ¬ (k2 : Int) < 0:=by omega
  simp [nk2,v1]
  refine wpC_unroll ?_
  simp [p4,w3,p5,w4,p6]
  refine callP (held_bools nL b2 bL (by omega)) ?_
  obtain ⟨b3,hb3⟩ : ∃ a,a = b2 + nL:=⟨_,rfl⟩
  rw [← hb3] at rL ⊢
  have nb3 : ¬ (b3 : Int) < 0:=by omega
  simp [nb3,p7]
  have hL:=held_rows (base:=base) pL b3 wL rL (by omega) hpL
  rw [show b3 + pL * wL = k3 by omega] at hL
  refine callP hL ?_
  have nk3 : ¬ (k3 : Int) < 0:=by omega
  simp [nk3,v2]
  refine wpC_unroll ?_
  simp
  exact BH.Keeps.refl _
theorem held_pres {H K : BH} {k k1 k2 k3 : Nat} {D A L : Raw4} {wD wA wL : Nat} {m : BV} {Z : List Sl} (h : MkP base H K k k1 k2 k3 D A L wD wA wL m Z)
    (e1 : k1 = k + D.2.2.1.length + D.2.2.2.length * wD) (e2 : k2 = k1 + 2 + A.2.2.1.length + A.2.2.2.length * wA) (e3 : k3 = k2 + 2 + L.2.2.1.length + L.2.2.2.length * wL) (hk : k3≤1000000000) (hnD : D.2.2.2.length≤1000000000) (hnA : A.2.2.2.length≤1000000000) (hnL : L.2.2.2.length≤1000000000) :
    FnDoes (gam base) 14 [m,encN k] K fun v _ => v = encN k3:=by
  refine FnDoes.of (fn:=ir14) rfl ?_
  obtain ⟨n,du,dx,au,ax,lu,lx,YD,YA,YL,rfl,o,mD,mA,mL⟩:=h
  have qD:=mD H K _ o.tail
  obtain ⟨-,-,du1,dx1⟩:=qD.rds
  simp [ir14,du1,dx1]
  intro n2 b2 f2
  have o1:=o.new f2 b2 (s:=.arr 28 [.int .i64 D.1,.int .i64 D.2.1,du,dx,.sl n 0 2])
  have o1':=Own.start (base:=base) (H:=K) |>.new f2 b2 (s:=.arr 28 [.int .i64 D.1,.int .i64 D.2.1,du,dx,.sl n 0 2])
  obtain ⟨K1,hK1⟩ : ∃ K1,K1 = K.set n2 (.arr 28 [.int .i64 D.1,.int .i64 D.2.1,du,dx,.sl n 0 2]):=⟨_,rfl⟩
  simp [make_of f2 b2]
  rw [← hK1] at o1 o1' ⊢
  have r2 : K1.rd none (some 4) (.ptr n2 0) = some (.agg [.int .i64 D.1,.int .i64 D.2.1,du,dx]):=rd_part (o1.at 0 (b:=n2) rfl) (by simp) rfl
  simp [r2]
  refine (held_rel (base:=base) (qD.call o1'.keeps) (by omega) hnD).step fun v K2 k2' hv => ?_
  subst hv
  rw [← e1]
  have o2:=o1.call k2'
  have r4:=rd_ptr (o2.at 0 (b:=n2) rfl) (rt:=none) (j:=4) (c:=.sl n 0 2) rfl rfl
  have nk1 : ¬ (k1 : Int) < 0:=by omega
  have nk3 : ¬ (k3 : Int) < 0:=by omega
  simp [nk1,r4]
  have o3 : Own base H K2 ((some n,.arr 25 [encN k1,encN (k1 + 1),au,ax,encN k2,encN (k2 + 1),lu,lx])::(YA++(YL++Z))):=o2.tail.sub (.cons_cons _ (List.sublist_append_right _ _))
  refine (held_rels (base:=base) k1 k2 k3 wA wL o3 mA mL e2 e3 hk hnA hnL).step fun v K3 k3' hv => ?_
  subst hv
  simp [nk3]
  exact o1'.keeps.trans (k2'.trans k3')
theorem law_Arithmetic (H : BH) : FnDoes (gam base) 3 [] H fun u _ => u = .bool true:=by
  refine FnDoes.of (fn:=ir3) rfl ?_
  have gD:=GoodR.facts (t:=1) (r:=(some (TA 1 domL),0)) (fun A hA => by
    cases hA
    have h:=LD_small (t:=1) (by decide) (S:=[0]) (fun k hk => by simp at hk; omega)
    rw [LD_dom]
    exact ⟨h.1.ok,by omega⟩)
  have gA:=GoodR.facts (linN_good (kind:=1) (c0:=0) (terms:=[1,1,-1]) (by decide) add_closed).good
  have gL:=GoodR.facts (linN_good (kind:=2) (c0:=-1) (terms:=[1,-1]) (by decide) less_closed).good
  have ta : ∀ {t : Nat} {G : Option Aut × Nat} {H K : BH} {v : BV},RelR base H t G (.tup [v,encN G.2]) K→H.Keeps K→OwnR base H K (resQ t G) v []:=fun {t G H K v} h k => by
    obtain ⟨m,e,h⟩:=h.ownR k
    simp only [BV.tup.injEq,List.cons.injEq,and_true] at e
    obtain rfl:=e
    exact h
  have id' : ∀ H,FnDoes (gam base) 25 [] H fun v K => OwnR base H K (resQ 1 (some (TA 1 domL),0)) v []:=fun H => (i_domain H).mono fun v K _ h => h.ownQ
  have ia : ∀ H,FnDoes (gam base) 23 [] H fun v K => OwnR base H K (resQ 3 addN3) v []:=fun H => (i_AddRelation H).mono fun v K k h => ta h k
  have il : ∀ H,FnDoes (gam base) 24 [] H fun v K => OwnR base H K (resQ 2 lessN2) v []:=fun H => (i_LessNumbers H).mono fun v K k h => ta h k
  have sd : ∀ H,FnDoes (gam base) 51 [] H fun v K => OwnR base H K (resQ 1 (some (TA 1 domL),0)) v []:=fun H => (s_domain H).mono fun v K _ h => h.ownQ
  have sa : ∀ H,FnDoes (gam base) 92 [] H fun v K => OwnR base H K (resQ 3 addN3) v []:=fun H => (s_AddRelation H).mono fun v K k h => ta h k
  have sl : ∀ H,FnDoes (gam base) 93 [] H fun v K => OwnR base H K (resQ 2 lessN2) v []:=fun H => (s_LessNumbers H).mono fun v K k h => ta h k
  have hi:=fun H => i_Arith (base:=base) _ _ _ id' ia il H
  have hs:=fun H => s_Arith (base:=base) _ _ _ sd sa sl H
  clear id' ia il sd sa sl ta
  have gA : (resQ 3 addN3).2.2.1.length≤150∧(resQ 3 addN3).2.2.2.length≤150∧∀ xs∈(resQ 3 addN3).2.2.2,xs.length = wd 3:=gA
  have gL : (resQ 2 lessN2).2.2.1.length≤150∧(resQ 2 lessN2).2.2.2.length≤150∧∀ xs∈(resQ 2 lessN2).2.2.2,xs.length = wd 2:=gL
  obtain ⟨D,hD⟩ : ∃ D,D = resQ 1 (some (TA 1 domL),0):=⟨_,rfl⟩
  obtain ⟨A,hA⟩ : ∃ A,A = resQ 3 addN3:=⟨_,rfl⟩
  obtain ⟨L,hL⟩ : ∃ L,L = resQ 2 lessN2:=⟨_,rfl⟩
  rw [← hD,← hA,← hL] at hi hs
  rw [← hD] at gD
  rw [← hA] at gA
  rw [← hL] at gL
  rw [show wd 1 = 2 from by decide] at gD
  rw [show wd 3 = 26 from by decide] at gA
  rw [show wd 2 = 8 from by decide] at gL
  clear hD hA hL
  obtain ⟨d1,d2,d3⟩:=gD
  obtain ⟨a1,a2,a3⟩:=gA
  obtain ⟨l1,l2,l3⟩:=gL
  have big : ∀ r∈[D,A,L],r.2.2.1.length≤4611686018427387904∧r.2.2.2.length≤4611686018427387904∧∀ xs∈r.2.2.2,xs.length≤4611686018427387904:=fun r hr => by
    simp only [List.mem_cons,List.not_mem_nil,or_false] at hr
    rcases hr with rfl | rfl | rfl
    · exact ⟨by omega,by omega,fun xs h => by rw [d3 xs h]; decide⟩
    · exact ⟨by omega,by omega,fun xs h => by rw [a3 xs h]; decide⟩
    · exact ⟨by omega,by omega,fun xs h => by rw [l3 xs h]; decide⟩
  obtain ⟨k1,e1⟩ : ∃ k1,k1 = 1 + D.2.2.1.length + D.2.2.2.length * 2:=⟨_,rfl⟩
  obtain ⟨k2,e2⟩ : ∃ k2,k2 = k1 + 2 + A.2.2.1.length + A.2.2.2.length * 26:=⟨_,rfl⟩
  obtain ⟨k3,e3⟩ : ∃ k3,k3 = k2 + 2 + L.2.2.1.length + L.2.2.2.length * 8:=⟨_,rfl⟩
  have hk3 : k3≤1000000:=by
    have h1 : D.2.2.2.length * 2≤150 * 2:=by omega
    have h2 : A.2.2.2.length * 26≤150 * 26:=by omega
    have h3 : L.2.2.2.length * 8≤150 * 8:=by omega
    omega
  have hmk:=fun {H K : BH} {m : BV} {Z : List Sl} (h : PresO base H K D A L m Z) => mark_pres (base:=base) 1 k1 k2 k3 2 26 8 h d3 a3 l3 e1 e2 e3 (by omega) (by omega) (by omega) (by omega)
  have hhd:=fun {H K : BH} {m : BV} {Z : List Sl} (h : MkP base H K 1 k1 k2 k3 D A L 2 26 8 m Z) => held_pres (base:=base) h e1 e2 e3 (by omega) (by omega) (by omega) (by omega)
  have hq:=fun (m m' : BV) (H : BH) h h' => q_pres (base:=base) D A L m m' H h h' big
  clear big e1 e2 e3 d1 d2 d3 a1 a2 a3 l1 l2 l3
  simp [ir3]
  refine (hs H).step fun vE K1 q1 hE => ?_
  obtain ⟨nE,uE,xE,eE,uE1,xE1⟩:=hE.one
  have rE:=hE.rd
  subst eE
  simp [uE1,xE1]
  intro n1 b1 f1
  obtain ⟨K2,g2,o2⟩:=(Own.start (base:=base) (H:=K1) |>.new f1 b1 (s:=.arr 28 [.int .i64 0,.int .i64 0,.nils,.nils,.nils])).putAll 0 (b:=n1) (n:=5) (ds:=[.int .i64 D.1,.int .i64 D.2.1,uE,xE,.sl nE 0 2]) rfl rfl rfl (by simp [uE1,xE1]) (rt:=none) rfl
  have r1:=rd_all (o2.at 0 (b:=n1) rfl) (n:=5) (rt:=none) rfl rfl
  have rE:=rE.keeps o2.keeps
  have kk:=q1.trans o2.keeps
  simp [make_of f1 b1,g2]
  refine (hi K2).step fun vG K3 q3 hG => ?_
  obtain ⟨nG,uG,xG,eG,uG1,xG1⟩:=hG.one
  obtain ⟨n',du,dx,au,ax,lu,lx,YD,YA,YL,eG',oG,qs⟩:=hG
  rw [eG] at eG'
  simp only [BV.agg.injEq,List.cons.injEq,and_true,true_and,BV.sl.injEq] at eG'
  obtain ⟨eu,ex,en⟩:=eG'
  subst eG eu ex en
  simp [uG1,xG1]
  intro n2 b2 f2
  obtain ⟨K4,g4,o4⟩:=(oG.new f2 b2 (s:=.arr 28 [.int .i64 0,.int .i64 0,.nils,.nils,.nils])).putAll 0 (b:=n2) (n:=5) (ds:=[.int .i64 D.1,.int .i64 D.2.1,uG,xG,.sl nG 0 2]) rfl rfl rfl (by simp [uG1,xG1]) (rt:=none) rfl
  obtain ⟨P,hP⟩ : ∃ P : Sl,P = (some n2,.arr 28 [.int .i64 D.1,.int .i64 D.2.1,uG,xG,.sl nG 0 2]):=⟨_,rfl⟩
  have r2:=rd_all (o4.at 0 (b:=n2) rfl) (n:=5) (rt:=none) rfl rfl
  have pG : PresO base K2 K4 D A L (.agg [.int .i64 D.1,.int .i64 D.2.1,uG,xG,.sl nG 0 2]) [P]:=⟨nG,uG,xG,au,ax,lu,lx,YD,YA,YL,rfl,o4.perm (by
    show List.Perm _ ((some n2,_)::_)
    rw [hP]
    classical
    exact List.perm_iff_count.2 fun x => by simp only [List.count_append,List.count_cons,List.count_nil]; omega),qs⟩
  have r1b:=rd_keeps o4.keeps r1
  simp [make_of f2 b2,g4,r1b,r2]
  refine (hq _ _ K4 pG.rd (rE.keeps o4.keeps)).step fun v K5 q5 hv => ?_
  subst hv
  have pG:=pG.call q5
  have r2:=rd_keeps q5 r2
  simp [r2]
  refine (hmk pG).step fun v K6 hh => ?_
  obtain ⟨rfl,mG⟩:=hh
  have oP:=mG.rest
  rw [hP] at oP
  have r2:=rd_all (oP.at 0 (b:=n2) rfl) (n:=5) (rt:=none) rfl rfl
  simp [r2]
  refine (hhd mG).step fun v K7 q7 hv => ?_
  subst hv
  have nk3 : ¬ (k3 : Int) < 0:=by omega
  simp [nk3]
  refine (hi K7).step fun vN K8 q8 hN => ?_
  obtain ⟨nN,uN,xN,eN,uN1,xN1⟩:=hN.one
  have rN:=hN.rd
  subst eN
  simp [uN1,xN1]
  intro n5 b5 f5
  obtain ⟨K9,g9,o9⟩:=(Own.start (base:=base) (H:=K8) |>.new f5 b5 (s:=.arr 28 [.int .i64 0,.int .i64 0,.nils,.nils,.nils])).putAll 0 (b:=n5) (n:=5) (ds:=[.int .i64 D.1,.int .i64 D.2.1,uN,xN,.sl nN 0 2]) rfl rfl rfl (by simp [uN1,xN1]) (rt:=none) rfl
  have r5:=rd_all (o9.at 0 (b:=n5) rfl) (n:=5) (rt:=none) rfl rfl
  have mG:=mG.call (q7.trans (q8.trans o9.keeps))
  have oP:=mG.rest
  rw [hP] at oP
  have r1d:=rd_keeps oP.keeps r1
  simp [make_of f5 b5,g9,r5,r1d]
  refine (hq _ _ K9 (rN.keeps o9.keeps) (rE.keeps oP.keeps)).step fun v K10 q10 hv => ?_
  subst hv
  have mG:=mG.call q10
  have oP:=mG.rest
  rw [hP] at oP
  have r2:=rd_all (oP.at 0 (b:=n2) rfl) (n:=5) (rt:=none) rfl rfl
  simp [r2]
  refine (hhd mG).step fun v K11 q11 hv => ?_
  subst hv
  simp [nk3]
  exact kk.trans (oP.keeps.trans q11)
end Go.Proofs.YtbnmhbmhafbmiaaGreatDoor.W
end

section
namespace Go.Proofs.YtbnmhbmhafbmiaaGreatDoor.W
set_option linter.unusedVariables false
set_option linter.unusedSimpArgs false
open Go.B
variable {base : Nat}
attribute [local simp] wpC_skip wpC_region wpC_seq wpC_true wpC_false wpC_block wpC_exit wpC_ret wpO_nil wpO_n wpO_tt wpO_ff wpO_tf wpO_ft wpO_u wpS_mov wpS_pick wpS_build wpS_load wpS_store wpS_nilck wpS_bin wpS_beq wpS_isnil wpS_eqs wpS_not wpS_neg wpS_conv wpS_lea wpS_fld wpS_idx wpS_idxs wpS_slice wpS_sslice wpS_mkfn wpS_mset wpS_look wpS_ext wpS_len wpS_new wpS_box wpS_mk wpS_mkmap wpS_mksl wpS_app wpS_fn wpS_call after_some pthen_n pthen_x pthen_r pin BExit.outOf puto_some puto_none put_eq put_ne Opd.ev argEnv op1_mov op1_pick op1_new op1_box op1_load op1_nilck op1_bin op1_beq op1_not op1_neg op1_conv op1_lea op1_fld op1_len0 op1_len1 op1_idx op1_ext op1_build op1_mk op1_stw op1_mksl op1_eqs pureBin isShift resOf resVals val_tmp val_cell oneOf one_int cells_int one_bool cells_bool one_str cells_str one_nilp cells_nilp one_ptr cells_ptr one_nils cells_nils one_sl cells_sl one_sle cells_sle one_nilm cells_nilm one_mp cells_mp one_nilf cells_nilf one_fn cells_fn one_nili cells_nili cells_agg isSl_sl slen_sl sat_sl make_of asm rtOk wpS_b2s op1_b2s wpS_imax op1_imax wpS_imin op1_imin wpS_i2s op1_i2s op1_isnil Option.map_some gam_base op1_app op1_idxs wpS_idxa op1_idxa op1_sslice bound_none bound_some nat_of op1_mkmap op1_mset op1_look op1_len2 op1_mkfn Go.B.fillB Has
section
variable {H : Type} {enc : TypeId × Value→H} {W : World} {held : Bool}
theorem u2 : Tryz.prog.underlying 2 = some (.int .i64):=by kernel_rfl
theorem u4 : Tryz.prog.underlying 4 = some .bool:=by kernel_rfl
end
end Go.Proofs.YtbnmhbmhafbmiaaGreatDoor.W
end

section
namespace Go.Proofs
open Go.Shelf Go.B
def Tryz.laysItoa_ren : Go.Shelf.Ren:=⟨fun | 171 => 210 | 243 => 239 | 246 => 256 | 283 => 260 | 284 => 261 | 285 => 262 | 286 => 263 | 129 => 233 | 317 => 266 | 318 => 267 | 319 => 268 | 320 => 269 | 337 => 270 | 338 => 271 | n => n,fun | 3 => 3 | 9 => 9 | 2 => 2 | 4 => 4 | 171 => 234 | 0 => 0 | 53 => 204 | 37 => 33 | 5 => 5 | 173 => 236 | 212 => 239 | 51 => 202 | 20 => 20 | 213 => 240 | 46 => 105 | 232 => 241 | 233 => 242 | n => n,fun | 17 => 3 | 18 => 4 | 19 => 5 | n => n⟩
theorem Tryz.laysItoa : Go.Proofs.LaysM.n171 Tryz.prog Tryz.laysItoa_ren where
  mixed:=by kernel_rfl
  f129:=Tryz.func233.trans (congrArg some (by kernel_rfl))
  f171:=Tryz.func210.trans (congrArg some (by kernel_rfl))
  f243:=Tryz.func239.trans (congrArg some (by kernel_rfl))
  f246:=Tryz.func256.trans (congrArg some (by kernel_rfl))
  f283:=Tryz.func260.trans (congrArg some (by kernel_rfl))
  f284:=Tryz.func261.trans (congrArg some (by kernel_rfl))
  f285:=Tryz.func262.trans (congrArg some (by kernel_rfl))
  f286:=Tryz.func263.trans (congrArg some (by kernel_rfl))
  f317:=Tryz.func266.trans (congrArg some (by kernel_rfl))
  f318:=Tryz.func267.trans (congrArg some (by kernel_rfl))
  f319:=Tryz.func268.trans (congrArg some (by kernel_rfl))
  f320:=Tryz.func269.trans (congrArg some (by kernel_rfl))
  f337:=Tryz.func270.trans (congrArg some (by kernel_rfl))
  f338:=Tryz.func271.trans (congrArg some (by kernel_rfl))
  t0:=Tryz.underlying0
  a0:=Tryz.isAgg0
  z0:=Tryz.sizeOf0
  v0:=Tryz.zeroValue0
  t2:=Tryz.underlying2
  a2:=Tryz.isAgg2
  z2:=Tryz.sizeOf2
  v2:=Tryz.zeroValue2
  t3:=Tryz.underlying3
  a3:=Tryz.isAgg3
  z3:=Tryz.sizeOf3
  v3:=Tryz.zeroValue3
  t4:=Tryz.underlying4
  a4:=Tryz.isAgg4
  z4:=Tryz.sizeOf4
  v4:=Tryz.zeroValue4
  t5:=Tryz.underlying5
  a5:=Tryz.isAgg5
  z5:=Tryz.sizeOf5
  v5:=Tryz.zeroValue5
  t9:=Tryz.underlying9
  a9:=Tryz.isAgg9
  z9:=Tryz.sizeOf9
  v9:=Tryz.zeroValue9
  t20:=Tryz.underlying20
  a20:=Tryz.isAgg20
  z20:=Tryz.sizeOf20
  v20:=Tryz.zeroValue20
  t37:=Tryz.underlying33
  a37:=Tryz.isAgg33
  z37:=Tryz.sizeOf33
  v37:=Tryz.zeroValue33
  t46:=Tryz.underlying105
  a46:=Tryz.isAgg105
  z46:=Tryz.sizeOf105
  v46:=Tryz.zeroValue105
  t51:=Tryz.underlying202
  a51:=Tryz.isAgg202
  z51:=Tryz.sizeOf202
  v51:=Tryz.zeroValue202
  t53:=Tryz.underlying204
  a53:=Tryz.isAgg204
  z53:=Tryz.sizeOf204
  v53:=Tryz.zeroValue204
  t171:=Tryz.underlying234
  a171:=Tryz.isAgg234
  z171:=Tryz.sizeOf234
  v171:=Tryz.zeroValue234
  t173:=Tryz.underlying236
  a173:=Tryz.isAgg236
  z173:=Tryz.sizeOf236
  v173:=Tryz.zeroValue236
  t212:=Tryz.underlying239
  a212:=Tryz.isAgg239
  z212:=Tryz.sizeOf239
  v212:=Tryz.zeroValue239
  t213:=Tryz.underlying240
  a213:=Tryz.isAgg240
  z213:=Tryz.sizeOf240
  t232:=Tryz.underlying241
  a232:=Tryz.isAgg241
  z232:=Tryz.sizeOf241
  v232:=Tryz.zeroValue241
  t233:=Tryz.underlying242
  a233:=Tryz.isAgg242
  z233:=Tryz.sizeOf242
  v233:=Tryz.zeroValue242
  g17:=by kernel_rfl
  g18:=by kernel_rfl
  g19:=by kernel_rfl
  i0:=by kernel_rfl
  i2:=by kernel_rfl
  i3:=by kernel_rfl
  i4:=by kernel_rfl
  i5:=by kernel_rfl
  i9:=by kernel_rfl
  i20:=by kernel_rfl
  i37:=by kernel_rfl
  i46:=by kernel_rfl
  i51:=by kernel_rfl
  i53:=by kernel_rfl
  i171:=by kernel_rfl
  i173:=by kernel_rfl
  i212:=by kernel_rfl
  i232:=by kernel_rfl
  i233:=by kernel_rfl
  m17:=by kernel_rfl
  m18:=by kernel_rfl
  m19:=by kernel_rfl
def Tryz.laysDel_ren : Go.Shelf.Ren:=⟨fun | 23 => 185 | n => n,fun | 22 => 80 | 3 => 3 | 4 => 4 | 0 => 0 | n => n,fun | n => n⟩
theorem Tryz.laysDel : Go.Proofs.Lays2.n23 Tryz.prog Tryz.laysDel_ren where
  mixed:=by kernel_rfl
  f23:=Tryz.func185.trans (congrArg some (by kernel_rfl))
  t0:=Tryz.underlying0
  a0:=Tryz.isAgg0
  z0:=Tryz.sizeOf0
  v0:=Tryz.zeroValue0
  t3:=Tryz.underlying3
  a3:=Tryz.isAgg3
  z3:=Tryz.sizeOf3
  v3:=Tryz.zeroValue3
  t4:=Tryz.underlying4
  a4:=Tryz.isAgg4
  z4:=Tryz.sizeOf4
  v4:=Tryz.zeroValue4
  t22:=Tryz.underlying80
  a22:=Tryz.isAgg80
  z22:=Tryz.sizeOf80
  v22:=Tryz.zeroValue80
  i3:=by kernel_rfl
def Tryz.laysIns_ren : Go.Shelf.Ren:=⟨fun | 21 => 213 | 27 => 240 | 28 => 241 | 35 => 257 | 39 => 264 | n => n,fun | 22 => 80 | 3 => 3 | 4 => 4 | 0 => 0 | n => n,fun | n => n⟩
theorem Tryz.laysIns : Go.Proofs.Lays2.n21 Tryz.prog Tryz.laysIns_ren where
  mixed:=by kernel_rfl
  f21:=Tryz.func213.trans (congrArg some (by kernel_rfl))
  f27:=Tryz.func240.trans (congrArg some (by kernel_rfl))
  f28:=Tryz.func241.trans (congrArg some (by kernel_rfl))
  f35:=Tryz.func257.trans (congrArg some (by kernel_rfl))
  f39:=Tryz.func264.trans (congrArg some (by kernel_rfl))
  t0:=Tryz.underlying0
  a0:=Tryz.isAgg0
  z0:=Tryz.sizeOf0
  v0:=Tryz.zeroValue0
  t3:=Tryz.underlying3
  a3:=Tryz.isAgg3
  z3:=Tryz.sizeOf3
  v3:=Tryz.zeroValue3
  t4:=Tryz.underlying4
  a4:=Tryz.isAgg4
  z4:=Tryz.sizeOf4
  v4:=Tryz.zeroValue4
  t22:=Tryz.underlying80
  a22:=Tryz.isAgg80
  z22:=Tryz.sizeOf80
  v22:=Tryz.zeroValue80
  i3:=by kernel_rfl
theorem tryz_ext {base : Nat} {w0 : World} (htab : Lib.TabIs Tryz.prog w0 "internal/strconv.uint64pow10" .u64 Lib.pow10Tab) : Sound Tryz.prog base w0 False (orC (itoaB 210) (orC (delB base 185 3) (insB base 213 3))) :=
  orC_sound (itoaB_sound (enters_of Tryz.func210 rfl rfl) htab fun n h0 h1 w ht => Any.strconv_Itoa Tryz.laysItoa n h0 h1 w ht)
    (orC_sound (delB_sound (enters_of Tryz.func185 rfl rfl) (by kernel_rfl) fun blk off cap i j zs w hH hc hm hij hj => Any.slices_Delete_int Tryz.laysDel blk off cap i j zs w hH hc hm hij hj)
      (insB_sound (enters_of Tryz.func213 rfl rfl) (by kernel_rfl) (insDoes_of Tryz.laysIns)))
theorem tryz_framed {base : Nat} : Framed (orC (itoaB 210) (orC (delB base 185 3) (insB base 213 3))):=orC_framed (itoaB_framed 210) (orC_framed (delB_framed base 185 3) (insB_framed base 213 3))
end Go.Proofs
end
