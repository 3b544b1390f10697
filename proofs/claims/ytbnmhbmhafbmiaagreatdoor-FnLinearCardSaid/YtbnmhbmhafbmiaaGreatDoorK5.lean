/-
Texts of our own, put together: S3, S4, S5, S6, S7, V1, V2, P1, P2, P3, P4, P5, N1, N2, N3, L1, L2, L3, M1, M2, M3, M4, M5, M6, M7, M8, M9, A6, C11, C12, C13, C14, C15, S8, S9, S10, U1, U2.
-/
import Derived.Test.YtbnmhbmhafbmiaaGreatDoorK4
section
namespace Go.Proofs.YtbnmhbmhafbmiaaGreatDoor.W
set_option linter.unusedVariables false
set_option linter.unusedSimpArgs false
open Go.B
open Go.Au
variable {base : Nat}
attribute [local simp] wpC_skip wpC_region wpC_seq wpC_true wpC_false wpC_block wpC_exit wpC_ret wpO_nil wpO_n wpO_tt wpO_ff wpO_tf wpO_ft wpO_u wpS_mov wpS_pick wpS_build wpS_load wpS_store wpS_nilck wpS_bin wpS_beq wpS_isnil wpS_eqs wpS_not wpS_neg wpS_conv wpS_lea wpS_fld wpS_idx wpS_idxs wpS_slice wpS_sslice wpS_mkfn wpS_mset wpS_look wpS_ext wpS_len wpS_new wpS_box wpS_mk wpS_mkmap wpS_mksl wpS_app wpS_fn wpS_call after_some pthen_n pthen_x pthen_r pin BExit.outOf puto_some puto_none put_eq put_ne Opd.ev argEnv op1_mov op1_pick op1_new op1_box op1_load op1_nilck op1_bin op1_beq op1_not op1_neg op1_conv op1_lea op1_fld op1_len0 op1_len1 op1_idx op1_ext op1_build op1_mk op1_stw op1_mksl op1_eqs pureBin isShift resOf resVals val_tmp val_cell oneOf one_int cells_int one_bool cells_bool one_str cells_str one_nilp cells_nilp one_ptr cells_ptr one_nils cells_nils one_sl cells_sl one_sle cells_sle one_nilm cells_nilm one_mp cells_mp one_nilf cells_nilf one_fn cells_fn one_nili cells_nili cells_agg isSl_sl slen_sl sat_sl make_of asm rtOk wpS_b2s op1_b2s wpS_imax op1_imax wpS_imin op1_imin wpS_i2s op1_i2s op1_isnil Option.map_some gam_base op1_app op1_idxs wpS_idxa op1_idxa op1_sslice bound_none bound_some nat_of op1_mkmap op1_mset op1_look op1_len2 op1_mkfn Go.B.fillB Has
def rowM (t : Nat) (A : Aut) (KS : List Nat) (kk c : Nat) : List Int:=(List.range c).map fun d => match stepS t A kk d with | none => -1 | some to => ((pos KS to : Nat) : Int)
theorem rowM_len (t : Nat) (A : Aut) (KS : List Nat) (kk c : Nat) : (rowM t A KS kk c).length = c:=by simp [rowM]
theorem rowM_succ (t : Nat) (A : Aut) (KS : List Nat) (kk c : Nat) : rowM t A KS kk (c + 1) = rowM t A KS kk c++[match stepS t A kk c with | none => -1 | some to => ((pos KS to : Nat) : Int)]:=by simp [rowM,List.range_succ]
def lsS (t : Nat) (A : Aut) (ks : List Nat) (kk c : Nat) : List Nat:=addAll ks ((List.range c).filterMap (stepS t A kk))
theorem lsS_succ (t : Nat) (A : Aut) (ks : List Nat) (kk c : Nat) : lsS t A ks kk (c + 1) = match stepS t A kk c with | none => lsS t A ks kk c | some to => addK (lsS t A ks kk c) to:=by
  unfold lsS
  rw [List.range_succ,List.filterMap_append,addAll_append]
  cases h : stepS t A kk c <;> simp [h,addAll]
theorem lsS_pre {t : Nat} {A : Aut} {ks : List Nat} {kk c d : Nat} (h : c≤d) : lsS t A ks kk c <+: lsS t A ks kk d:=by
  induction h with
  | refl => exact List.prefix_refl _
  | step _ ih =>
    refine ih.trans ?_
    rw [lsS_succ]
    split
    · exact List.prefix_refl _
    · exact addK_pre _ _
def Rs2 (base : Nat) (H : BH) (rb t s : Nat) (A : Aut) (e : Env) (K : BH) : Prop:=∃ n2 n8 v7 lo u w bo wo vs fr,Has e [(0,.ptr rb 0),(2,.ptr n2 0),(7,v7),(8,.ptr n8 0)]∧v7.isSl = true∧v7.slen = (keysS t A s).length ∧
  Own base H K ([(wo,.arr 36 vs),(bo,.arr 4 (((keysS t A s).map fun kk => A.acc.getD (kk / 2 ^ t) false).map encB)),(some n8,.arr 25 [encN t,.int .i64 0,u,w]),(lo,.arr 2 ((keysS t A s).map encN)),(some n2,.arr 25 [.int .i64 0,.int .i64 0,.nils,.nils])]++fr) ∧
  Vec bo u (keysS t A s).length∧Vec wo w (keysS t A s).length∧vs.length = (keysS t A s).length∧RowsOf 2 vs fr (((keysS t A s).map fun kk => rowM t A (keysS t A s) kk (wd t)).map (·.map encI))
theorem right_p2 (t s rb : Nat) (ht : t≤3) (A : Aut) (H : BH) (h : RdP H rb t s A) (hok : A.Ok (wd t)) (hs : s < A.acc.length) (hn : A.acc.length≤100000) (Q : Post) (e : Env) (K : BH) (hh : Rs1 base H rb t s A e K) :
    wpC base (Runs (gam base)) ((ir152.body.tl 8).hd 1) (Post.then (Rs2 base H rb t s A) Q) e K:=by
  obtain ⟨u0,x,hr,hu0,hx⟩:=h
  obtain ⟨R,hR⟩ : ∃ R,R = Rs2 base H rb t s A:=⟨_,rfl⟩
  rw [← hR]
  unfold Rs2 at hR
  obtain ⟨n2,n5,n7,n8,⟨e0,e2,e3,e4,e5,e7,e8,-⟩,o⟩:=hh
  simp only [] at e0 e2 e3 e4 e5 e7 e8
  have hT8 : 2 ^ t≤8:=Nat.pow_le_pow_right (n:=2) (by omega) ht
  have hT0 : 0 < 2 ^ t:=Nat.two_pow_pos t
  have hNT : A.acc.length * 2 ^ t≤800000:=by have:=Nat.mul_le_mul hn hT8; omega
  have hcl:=keysS_closed hok hs
  have hdone:=keysS_done hok hs
  have hw:=wd_3 ht
  obtain ⟨KS,hKS⟩ : ∃ KS,KS = keysS t A s:=⟨_,rfl⟩
  have hKl : KS.length≤A.acc.length * 2 ^ t:=by
    rw [hKS]
    have:=hcl.len (A.acc.length * 2 ^ t)
    rwa [List.length_range] at this
  rw [← hKS] at hR
  obtain ⟨N,hN⟩ : ∃ N,N = A.acc.length * 2 ^ t:=⟨_,rfl⟩
  rw [← hN] at o hNT hKl hdone e5
  have hKSm : metL (sxS t A) (s * 2 ^ t) N = KS:=by rw [hKS,hN]; rfl
  have pre : ∀ i,metL (sxS t A) (s * 2 ^ t) i <+: KS:=fun i => by
    rcases Nat.le_total i N with h | h
    · rw [← hKSm]; exact met_pre h
    · rw [hdone.eq h,hKSm]; exact List.prefix_refl _
  have hlen : ∀ i,(metL (sxS t A) (s * 2 ^ t) i).length≤N:=fun i => Nat.le_trans (pre i).length_le hKl
  have hmemN : ∀ k∈KS,k < N:=fun k hk => by
    rw [hKS] at hk
    have:=hcl.met _ k hk
    rw [hN]
    exact List.mem_range.1 this
  simp [ir152,BCode.hd,BCode.tl]
  obtain ⟨I,hI⟩ : ∃ I : Nat→Env→BH→Prop,I = (fun i e K => e 9 = encN i∧∃ v7 lo u w bo wo vs fr,e 7 = v7∧i≤(metL (sxS t A) (s * 2 ^ t) i).length ∧
      Own base H K ([(wo,.arr 36 vs),(bo,.arr 4 (((KS.take i).map fun kk => A.acc.getD (kk / 2 ^ t) false).map encB)),(some n8,.arr 25 [encN t,.int .i64 0,u,w]),(lo,.arr 2 ((metL (sxS t A) (s * 2 ^ t) i).map encN)),(some n5,.arr 2 ((numL N (metL (sxS t A) (s * 2 ^ t) i)).map encI)),
        (some n2,.arr 25 [.int .i64 0,.int .i64 0,.nils,.nils])]++fr)∧Vec lo v7 (metL (sxS t A) (s * 2 ^ t) i).length∧Vec bo u i∧Vec wo w i∧vs.length = i∧RowsOf 2 vs fr (((KS.take i).map fun kk => rowM t A KS kk (wd t)).map (·.map encI))):=⟨_,rfl⟩
  refine wpC_countK N [(0,.ptr rb 0),(2,.ptr n2 0),(4,encN (2 ^ t)),(5,.sl n5 0 N),(8,.ptr n8 0)] I (i0:=0) ?_ ?_ ?_ (Nat.zero_le _) ?_
  · rfl
  · simp [e0,e2,e4,e5,e8]
  · rw [hI]
    refine ⟨by simp,.sl n7 0 1,some n7,.nils,.nils,none,none,[],[],by simp [e7],Nat.zero_le _,?_,rfl,Vec.none,Vec.none,rfl,trivial⟩
    exact (o.nil (.arr 4 [])).nil (.arr 36 [])
  clear e0 e2 e3 e4 e5 e7 e8 o
  rintro i e K hi ⟨e0,e2,e4,e5,e8,-⟩ hh
  rw [hI] at hh
  obtain ⟨e9,v7,lo,u,w,bo,wo,vs,fr,e7,hil,o,hv7,hu,hw',hvs,hrows⟩:=hh
  simp only [] at e0 e2 e4 e5 e8
  by_cases hlt : i < (metL (sxS t A) (s * 2 ^ t) i).length
  · have hiN : i < N:=Nat.lt_of_lt_of_le hlt (hlen i)
    obtain ⟨kk,hkk⟩ : ∃ kk,(metL (sxS t A) (s * 2 ^ t) i)[i]? = some kk:=⟨_,List.getElem?_eq_getElem hlt⟩
    have hKSi : KS[i]? = some kk:=by
      obtain ⟨r,hr⟩:=pre i
      rw [← hr,List.getElem?_append_left hlt]
      exact hkk
    have hiKS : i < KS.length:=(List.getElem?_eq_some_iff.1 hKSi).1
    have hkN : kk < N:=hmemN kk (List.mem_of_getElem? hKSi)
    have hq : kk / 2 ^ t < A.acc.length:=Nat.div_lt_of_lt_mul (by rw [Nat.mul_comm,← hN]; exact hkN)
    have hq' : kk / 2 ^ t < A.nxt.length:=by rw [hok.len]; exact hq
    have hnext : metL (sxS t A) (s * 2 ^ t) (i + 1) = lsS t A (metL (sxS t A) (s * 2 ^ t) i) kk (wd t):=by rw [metL,hkk]; rfl
    have hpre : ∀ c,c≤wd t→lsS t A (metL (sxS t A) (s * 2 ^ t) i) kk c <+: KS:=fun c hc => (lsS_pre hc).trans (by rw [← hnext]; exact pre (i + 1))
    have hkg : (metL (sxS t A) (s * 2 ^ t) i)[i] = kk:=by
      have:=List.getElem?_eq_getElem hlt
      rw [hkk] at this
      simpa using this.symm
    have hrd:=(o.rd 3 rfl (v:=v7) (by simpa using hv7)).at hlt (rt:=none) rfl
    rw [hkg] at hrd
    have wi:=wS (n:=i) (by omega)
    obtain ⟨q,hqd⟩ : ∃ q,q = kk / 2 ^ t:=⟨_,rfl⟩
    have hquo:=pb_quo (a:=kk) (b:=2 ^ t) (by omega) hT0
    rw [← hqd] at hquo hq hq'
    simp [-wpS_bin,e7,e9,hv7.isSl,hv7.len,hlt,hrd,e4]
    refine wpS_binv (encN i) (encN (metL (sxS t A) (s * 2 ^ t) i).length) (.bool true) (by show some (BV.bool (decide ((i : Int) < _))) = _; simp [hlt]) (by simp) (by simp) ?_
    simp [-wpS_bin,e7,e9,hv7.isSl,hv7.len,hlt,hrd,e4]
    refine wpS_binv _ _ (encN q) hquo (by simp) (by simp) ?_
    simp
    intro n11 b11 f11
    simp [make_of f11 b11]
    have o1:=o.new f11 b11 (s:=.arr 2 [])
    obtain ⟨m,hmd⟩ : ∃ m,m = kk % 2 ^ t:=⟨_,rfl⟩
    have hmT : m < 2 ^ t:=by rw [hmd]; exact Nat.mod_lt _ hT0
    have hrem:=pb_rem (a:=kk) (b:=2 ^ t) hT0
    rw [← hmd] at hrem
    obtain ⟨ri,hri,hrr⟩:=hx.at hq'
    obtain ⟨row,er,hrl,hrc⟩ : ∃ r,A.nxt.getD q [] = r∧r.length = wd t∧∀ c,c < wd t→r[c]? = some (A.to q c):=by
      have h1 : A.nxt.getD q [] = A.nxt[q]:=by simp [hq']
      refine ⟨A.nxt[q],h1,(hok.row _ (List.getElem_mem hq')).1,fun c hc => ?_⟩
      obtain ⟨r,g1,g2,g3⟩:=row_get hok hq hc
      rw [h1] at g1
      rw [g1]
      exact g3
    have er2 : A.nxt[q] = row:=by rw [← er]; simp [hq']
    rw [er2] at hri
    obtain ⟨J,hJ⟩ : ∃ J : Nat→Env→BH→Prop,J = (fun c e K => e 12 = encN c∧∃ v7 v11 lo ro,e 7 = v7∧e 11 = v11 ∧
      Own base H K ([(ro,.arr 2 ((rowM t A KS kk c).map encI)),(wo,.arr 36 vs),(bo,.arr 4 (((KS.take i).map fun kk => A.acc.getD (kk / 2 ^ t) false).map encB)),(some n8,.arr 25 [encN t,.int .i64 0,u,w]),(lo,.arr 2 ((lsS t A (metL (sxS t A) (s * 2 ^ t) i) kk c).map encN)),
        (some n5,.arr 2 ((numL N (lsS t A (metL (sxS t A) (s * 2 ^ t) i) kk c)).map encI)),(some n2,.arr 25 [.int .i64 0,.int .i64 0,.nils,.nils])]++fr)∧Vec lo v7 (lsS t A (metL (sxS t A) (s * 2 ^ t) i) kk c).length∧Vec ro v11 c):=⟨_,rfl⟩
    refine wpC_countK (wd t) [(0,.ptr rb 0),(2,.ptr n2 0),(4,encN (2 ^ t)),(5,.sl n5 0 N),(8,.ptr n8 0),(9,encN i),(10,encN q)] J (i0:=0) ?_ ?_ ?_ (Nat.zero_le _) ?_
    · rfl
    · simp [e0,e2,e4,e5,e8,e9]
    · rw [hJ]
      exact ⟨by simp,v7,.sl n11 0 0,lo,some n11,by simp [e7],by simp,o1,hv7,rfl⟩
    clear e0 e2 e4 e5 e7 e8 e9 o o1 hrd
    rintro c e M hc ⟨e0,e2,e4,e5,e8,e9,e10,-⟩ hh
    rw [hJ] at hh
    obtain ⟨e12,v7,v11,lo,ro,e7,e11,o,hv7,hv11⟩:=hh
    simp only [] at e0 e2 e4 e5 e8 e9 e10
    have wc:=wS (n:=c) (by omega)
    have r0:=rd_keeps o.keeps (rd_ptr hr (rt:=none) (j:=0) (c:=encN t) rfl rfl)
    have r3:=rd_keeps o.keeps (rd_ptr hr (rt:=none) (j:=3) (c:=x) rfl rfl)
    simp [e0,e12,r0]
    refine callP (s_wide t M (by omega)) ?_
    by_cases hcw : c < wd t
    · obtain ⟨ls,hls⟩ : ∃ ls,ls = lsS t A (metL (sxS t A) (s * 2 ^ t) i) kk c:=⟨_,rfl⟩
      have hlsp:=hpre c hc
      have hlsp1:=hpre (c + 1) hcw
      rw [← hls] at o hv7 hlsp
      have hll:=hlsp.length_le
      have hsu:=lsS_succ t A (metL (sxS t A) (s * 2 ^ t) i) kk c
      rw [← hls] at hsu
      have hle : i < ls.length:=Nat.lt_of_lt_of_le hlt (by rw [hls]; exact (addAll_pre _ _).length_le)
      have hlk : ls[i] = kk:=by
        have h1 : (metL (sxS t A) (s * 2 ^ t) i) <+: ls:=by rw [hls]; exact addAll_pre _ _
        obtain ⟨r,hr⟩:=h1
        simp only [← hr]
        rw [List.getElem_append_left hlt]
        exact hkg
      have hrk:=(o.rd 4 rfl (v:=v7) (by simpa using hv7)).at hle (rt:=none) rfl
      rw [hlk] at hrk
      simp [-wpS_bin,hcw]
      refine wpS_binv (encN c) (encN (wd t)) (.bool true) (by show some (BV.bool (decide ((c : Int) < _))) = _; simp [hcw]) (by simp [e12]) (by simp) ?_
      simp [-wpS_bin,e0,r0,e7,hv7.isSl,hv7.len,hle,e9,hrk,e4]
      refine wpS_binv _ _ (encN m) hrem (by simp) (by simp) ?_
      simp [e12]
      refine callP (s_ended t m c ht hmT (by omega) M) ?_
      have hst : stepS t A kk c = if m &&& padsN t c = m then some (A.to q c * 2 ^ t + padsN t c) else none:=by unfold stepS; rw [← hmd,← hqd]
      by_cases hp : m &&& padsN t c = m
      · rw [if_pos hp] at hst ⊢
        obtain ⟨z,hz⟩ : ∃ z,z = A.to q c:=⟨_,rfl⟩
        obtain ⟨p,hpd⟩ : ∃ p,p = padsN t c:=⟨_,rfl⟩
        have hz1 : z < A.acc.length:=by rw [hz]; exact hok.to hq hcw
        have hp8 : p < 8:=by rw [hpd]; exact padsN_8 ht c
        obtain ⟨zT,hzT⟩ : ∃ zT,zT = z * 2 ^ t:=⟨_,rfl⟩
        have hzb : zT≤800000:=by rw [hzT]; have:=Nat.mul_le_mul (Nat.le_of_lt hz1) hT8; omega
        have hmz : IntKind.i64.wrap ((z : Int) * ((2 ^ t : Nat) : Int)) = (zT : Int):=by rw [← Int.natCast_mul,← hzT]; exact wN (by omega)
        have hmz' : IntKind.i64.wrap ((z : Int) * (2 : Int) ^ t) = (zT : Int):=by rw [show (2 : Int) ^ t = ((2 ^ t : Nat) : Int) by simp]; exact hmz
        obtain ⟨to,hto⟩ : ∃ to,to = zT + p:=⟨_,rfl⟩
        have hma : IntKind.i64.wrap ((zT : Int) + (p : Int)) = (to : Int):=by rw [← Int.natCast_add,← hto]; exact wN (by omega)
        have hst' : stepS t A kk c = some to:=by rw [hst,hto,hzT,hz,hpd]
        have htoN : to < N:=by rw [hN]; exact stepS_lt hok (by rw [← hN]; exact hkN) hcw hst'
        rw [hst'] at hsu
        simp only at hsu
        have hrr':=rd_keeps o.keeps (hrr none rfl)
        have hrc':=(hri.keeps o.keeps).at (i:=c) (by rw [hrl]; exact hcw) (rt:=none) rfl
        have hrg : row[c]'(by rw [hrl]; exact hcw) = z:=by
          have:=hrc c hcw
          rw [List.getElem?_eq_getElem (by rw [hrl]; exact hcw)] at this
          rw [hz]
          simpa using this
        rw [hrg] at hrc'
        have hrn:=rd_ptr (o.at 5 (b:=n5) rfl) (rt:=none) (j:=to) (c:=encI (if to∈ls then ((pos ls to : Nat) : Int) else -1)) rfl (by
          rw [List.getElem?_map,List.getElem?_eq_getElem (by rw [numL_len]; exact htoN),numL_get htoN]
          rfl)
        have hpn : ¬ ((p : Int) < 0):=by omega
        have hrowz : (match stepS t A kk c with | none => (-1 : Int) | some to => ((pos KS to : Nat) : Int)) = ((pos KS to : Nat) : Int):=by rw [hst']
        rw [← hpd]
        simp [hpn,e0,r3,e10,hx.isSl,hx.len,hq',hrr',e12,hri.isSl,hri.lenM,hrl,hcw,hrc',e4,hmz',hma,e5,htoN,hrn]
        by_cases hm : to∈ls
        · have hadd : addK ls to = ls:=by unfold addK; rw [if_pos hm]
          rw [hadd] at hsu
          have hpos : pos ls to = pos KS to:=(idx_pre hlsp hm).symm
          have hnn : ¬ ((pos KS to : Int) < 0):=by omega
          simp [hm,hpos] at hrn
          simp [hm,hpos,hnn,e11,e5,htoN,hrn]
          intro n1 b1 f1
          simp [make_of f1 b1]
          intro n4 b4 f4
          obtain ⟨v',K',b',q1,q2,q3⟩:=o.push 0 rfl (v:=v11) (by simpa [rowM_len] using hv11) (x:=encN (pos KS to)) (bytes:=8) rfl (by simp [rowM_len]; omega) (by simp [rowM_len]; omega) f1 b1 f4 b4
          simp [q1,e12,wc,hcw]
          rw [hJ]
          refine ⟨by simp,v7,v',lo,some b',by simp [e7],by simp,?_,by rw [hsu]; exact hv7,by simpa [rowM_len] using q3⟩
          rw [hsu,rowM_succ,hrowz]
          simpa using q2
        · have hadd : addK ls to = ls++[to]:=by unfold addK; rw [if_neg hm]
          rw [hadd] at hsu
          rw [hsu] at hlsp1
          have hl1:=hlsp1.length_le
          simp at hl1
          have hpos : ls.length = pos KS to:=by rw [← idx_new hm,hadd]; exact (idx_pre hlsp1 (by simp)).symm
          simp [hm] at hrn
          obtain ⟨K5,g5,o5⟩:=o.put 5 (b:=n5) rfl (j:=to) (u:=encI (ls.length : Nat)) (by simp [numL_len,htoN]) rfl (rt:=none) rfl
          have g5' : M.wr base none 1 (.ptr n5 to) (.int .i64 (ls.length : Nat)) = some K5:=g5
          have hset:=numL_set htoN hm
          simp [hm,e5,htoN,hrn,e7,hv7.isSl,hv7.len,g5']
          intro n1 b1 f1
          simp [make_of f1 b1]
          intro n4 b4 f4
          obtain ⟨v',K',b',q1,q2,q3⟩:=o5.push 4 rfl (v:=v7) (by simpa using hv7) (x:=encN to) (bytes:=8) rfl (by simp; omega) (by simp; omega) f1 b1 f4 b4
          have hrn2:=rd_ptr (q2.at 5 (b:=n5) rfl) (rt:=none) (j:=to) (c:=encN (pos KS to)) rfl (by
            rw [hpos]
            simp [numL_len,htoN])
          simp [q1,e11,e5,htoN,hrn2]
          intro n5' b5' f5'
          simp [make_of f5' b5']
          intro n6 b6 f6
          obtain ⟨v'',K'',b'',p1,p2,p3⟩:=q2.push 0 rfl (v:=v11) (by simpa [rowM_len] using hv11) (x:=encN (pos KS to)) (bytes:=8) rfl (by simp [rowM_len]; omega) (by simp [rowM_len]; omega) f5' b5' f6 b6
          simp [p1,e12,wc,hcw]
          rw [hJ]
          refine ⟨by simp,v',v'',some b',some b'',by simp,by simp,?_,by rw [hsu]; simpa using q3,by simpa [rowM_len] using p3⟩
          rw [hsu,rowM_succ,hrowz,← hset]
          simpa [List.map_set] using p2
      · rw [if_neg hp] at hst ⊢
        rw [hst] at hsu
        simp only at hsu
        simp [e11]
        intro n1 b1 f1
        simp [make_of f1 b1]
        intro n4 b4 f4
        obtain ⟨v',K',b',q1,q2,q3⟩:=o.push 0 rfl (v:=v11) (by simpa [rowM_len] using hv11) (x:=encI (-1)) (bytes:=8) rfl (by simp [rowM_len]; omega) (by simp [rowM_len]; omega) f1 b1 f4 b4
        simp [q1,e12,wc,hcw]
        rw [hJ]
        refine ⟨by simp,v7,v',lo,some b',by simp [e7],by simp,?_,by rw [hsu]; exact hv7,by simpa [rowM_len] using q3⟩
        rw [hsu,rowM_succ,hst]
        simpa using q2
    · have hce : c = wd t:=by omega
      subst hce
      rw [← hnext] at o hv7
      have u1:=rd_ptr (o.at 3 (b:=n8) rfl) (rt:=none) (j:=2) (c:=u) rfl rfl
      have ra:=rd_keeps o.keeps (rd_ptr hr (rt:=none) (j:=2) (c:=u0) rfl rfl)
      have rq:=(hu0.keeps o.keeps).at hq (rt:=none) rfl
      have hga : A.acc.getD q false = A.acc[q]:=by simp [hq]
      simp [e12,e8,u1,e0,ra,e10,hu0.isSl,hu0.lenM,hq,rq]
      intro n1 b1 f1
      simp [make_of f1 b1]
      intro n4 b4 f4
      have hti : (KS.take i).length = i:=by simp; omega
      obtain ⟨v',K2,b',q1,o2,q3⟩:=o.push 2 rfl (v:=u) (by simp only [List.length_map,hti]; exact hu) (x:=encB A.acc[q]) (bytes:=1) rfl (by simp; omega) (by simp; omega) f1 b1 f4 b4
      obtain ⟨K3,q2,o3⟩:=o2.put 3 (b:=n8) rfl (j:=2) (u:=v') (by simp) q3.one (rt:=none) rfl
      have u2:=rd_ptr (o3.at 3 (b:=n8) rfl) (rt:=none) (j:=3) (c:=w) rfl rfl
      have h11:=hv11.one
      simp [q1,q2,e8,u2,e11,h11,cells_one h11]
      intro n5' b5' f5'
      simp [make_of f5' b5']
      intro n6 b6 f6
      obtain ⟨w',K4,c',p1,o4,p3⟩:=o3.push 1 rfl (v:=w) (by rw [hvs]; exact hw') (x:=v11) (bytes:=24) h11 (by omega) (by omega) f5' b5' f6 b6
      obtain ⟨K5,p2,o5⟩:=o4.put 3 (b:=n8) rfl (j:=3) (u:=w') (by simp) p3.one (rt:=none) rfl
      simp [p1,p2,e8,e9,wi,hiN]
      rw [hI]
      have hta : (KS.take (i + 1)).map (fun kk => A.acc.getD (kk / 2 ^ t) false) = (KS.take i).map (fun kk => A.acc.getD (kk / 2 ^ t) false)++[A.acc[q]]:=by
        rw [List.take_add_one,hKSi,List.map_append]
        show _++[A.acc.getD (kk / 2 ^ t) false] = _
        rw [← hqd,hga]
      have htr : ((KS.take (i + 1)).map fun kk => rowM t A KS kk (wd t)).map (·.map encI) = ((KS.take i).map fun kk => rowM t A KS kk (wd t)).map (·.map encI)++[(rowM t A KS kk (wd t)).map encI]:=by rw [List.take_add_one,hKSi]; simp
      have hin : i + 1≤(metL (sxS t A) (s * 2 ^ t) (i + 1)).length:=by
        have:=(met_pre1 (sx:=sxS t A) (s:=s * 2 ^ t) i).length_le
        omega
      refine ⟨by simp,v7,lo,v',w',some b',some c',vs++[v11],fr++[(ro,.arr 2 ((rowM t A KS kk (wd t)).map encI))],by simp [e7],hin,?_,hv7,?_,?_,by simp [hvs],?_⟩
      · refine Own.last (F:=[(some c',.arr 36 (vs++[v11])),(some b',.arr 4 (((KS.take (i + 1)).map fun kk => A.acc.getD (kk / 2 ^ t) false).map encB)),(some n8,.arr 25 [encN t,.int .i64 0,v',w']),(lo,.arr 2 ((metL (sxS t A) (s * 2 ^ t) (i + 1)).map encN)),(some n5,.arr 2 ((numL N (metL (sxS t A) (s * 2 ^ t) (i + 1))).map encI)),
          (some n2,.arr 25 [.int .i64 0,.int .i64 0,.nils,.nils])]) ?_
        rw [hta]
        simpa using o5
      · simp only [List.length_map,hti] at q3
        exact q3
      · rw [hvs] at p3
        exact p3
      · rw [htr]
        exact hrows.snoc (by simpa [rowM_len] using hv11)
  · have hie : i = (metL (sxS t A) (s * 2 ^ t) i).length:=by omega
    have hdi : DoneL (sxS t A) (s * 2 ^ t) i:=by unfold DoneL; omega
    have hKi : metL (sxS t A) (s * 2 ^ t) i = KS:=by
      rw [← hKSm]
      exact DoneL.same hdi hdone
    have hlt' : ¬ i < (metL (sxS t A) (s * 2 ^ t) i).length:=hlt
    rw [hKi] at hie o hv7 hlt'
    have htk : KS.take i = KS:=by rw [hie,List.take_length]
    rw [htk] at o hrows
    simp [e7,e9,hv7.isSl,hv7.len,hlt']
    rw [hR]
    rw [← hie]
    exact ⟨n2,n8,v7,lo,u,w,bo,wo,vs,fr,by simp [e0,e2,e7,e8],hv7.isSl,by rw [hv7.len,hie],o.sub (.cons_cons _ (.cons_cons _ (.cons_cons _ (.cons_cons _ (.cons _ (List.Sublist.refl _)))))),hu,hw',hvs,hrows⟩
def ded (D : Nat) (v : Int) : Int:=if v < 0 then (D : Int) else v
def dedj (D j : Nat) (r : List Int) : List Int:=(r.take j).map (ded D)++r.drop j
theorem dedj_len (D j : Nat) (r : List Int) : (dedj D j r).length = r.length:=by simp [dedj]; omega
theorem dedj_zero (D : Nat) (r : List Int) : dedj D 0 r = r:=by simp [dedj]
theorem dedj_all (D : Nat) (r : List Int) : dedj D r.length r = r.map (ded D):=by simp [dedj]
theorem dedj_get {D j : Nat} {r : List Int} (h : j < r.length) : (dedj D j r)[j]'(by rw [dedj_len]; exact h) = r[j]:=by
  have hm : min j r.length = j:=by omega
  simp [dedj,hm]
theorem dedj_set {D j : Nat} {r : List Int} (h : j < r.length) : (dedj D j r).set j (ded D r[j]) = dedj D (j + 1) r:=by
  unfold dedj
  rw [List.set_append_right _ _ (by simp; omega),List.take_add_one,List.getElem?_eq_getElem h,List.map_append]
  simp [show j - min j r.length = 0 by omega]
  rw [List.drop_eq_getElem_cons h]
  rfl
theorem dedj_skip {D j : Nat} {r : List Int} (h : j < r.length) (h0 : ¬ r[j] < 0) : dedj D (j + 1) r = dedj D j r:=by
  rw [← dedj_set h]
  have : ded D r[j] = r[j]:=by unfold ded; rw [if_neg h0]
  rw [this]
  have h2:=dedj_get (D:=D) h
  apply List.ext_getElem
  · simp
  · intro i h3 h4
    rw [List.getElem_set]
    split
    · rename_i e; subst e; exact h2.symm
    · rfl
def stR (D : Nat) (rows : List (List Int)) (i : Nat) (r : List Int) : List (List Int):=(rows.take i).map (·.map (ded D))++r::rows.drop (i + 1)
def oR (D : Nat) (rows : List (List Int)) (i : Nat) : List (List Int):=(rows.take i).map (·.map (ded D))++rows.drop i
theorem stR_set {D i : Nat} {rows : List (List Int)} (h : i < rows.length) (a b : List Int) : (stR D rows i a).set i b = stR D rows i b:=by
  unfold stR
  rw [List.set_append_right _ _ (by simp; omega)]
  simp [show i - min i rows.length = 0 by omega]
theorem stR_get {D i : Nat} {rows : List (List Int)} (h : i < rows.length) (a : List Int) : (stR D rows i a)[i]? = some a:=by
  unfold stR
  rw [List.getElem?_append_right (by simp; omega)]
  simp [show i - min i rows.length = 0 by omega]
theorem stR_first {D i : Nat} {rows : List (List Int)} (h : i < rows.length) : stR D rows i rows[i] = oR D rows i:=by
  unfold stR oR
  rw [← List.drop_eq_getElem_cons h]
theorem stR_last {D i : Nat} {rows : List (List Int)} (h : i < rows.length) : stR D rows i (rows[i].map (ded D)) = oR D rows (i + 1):=by
  unfold stR oR
  rw [List.take_add_one,List.getElem?_eq_getElem h,List.map_append,List.append_assoc]
  rfl
theorem RowsOf.upd {ty : Nat} {bo : Option Nat} {xs ys : List BV} (hl : ys.length = xs.length) : ∀ {vs : List BV} {fr : List Sl} {xss : List (List BV)},RowsOf ty vs fr xss→∀ {i : Nat},fr[i]? = some (bo,.arr ty xs)→RowsOf ty vs (fr.set i (bo,.arr ty ys)) (xss.set i ys)
  | [],[],[],_,i,hf => by simp at hf
  | v::vs,p::fr,zs::xss,h,0,hf => by
    simp at hf
    subst hf
    have h1:=h.1
    simp only [BSt.arr.injEq,true_and] at h1
    exact ⟨rfl,by rw [hl,h1]; exact h.2.1,h.2.2⟩
  | v::vs,p::fr,zs::xss,h,i + 1,hf => ⟨h.1,h.2.1,RowsOf.upd hl h.2.2 (by simpa using hf)⟩
def Rs3 (base : Nat) (H : BH) (rb t s : Nat) (A : Aut) (e : Env) (K : BH) : Prop:=∃ n2 n8 u w bo wo vs fr,Has e [(0,.ptr rb 0),(2,.ptr n2 0),(8,.ptr n8 0),(15,encN (keysS t A s).length)] ∧
  Own base H K ([(wo,.arr 36 vs),(bo,.arr 4 (((keysS t A s).map fun kk => A.acc.getD (kk / 2 ^ t) false).map encB)),(some n8,.arr 25 [encN t,.int .i64 0,u,w]),(some n2,.arr 25 [.int .i64 0,.int .i64 0,.nils,.nils])]++fr) ∧
  Vec bo u (keysS t A s).length∧Vec wo w (keysS t A s).length∧vs.length = (keysS t A s).length∧RowsOf 2 vs fr (((keysS t A s).map fun kk => (rowM t A (keysS t A s) kk (wd t)).map (ded (keysS t A s).length)).map (·.map encI))
theorem right_p3 (t s rb : Nat) (ht : t≤3) (A : Aut) (H : BH) (hok : A.Ok (wd t)) (hs : s < A.acc.length) (hn : A.acc.length≤100000) (Q : Post) (e : Env) (K : BH) (hh : Rs2 base H rb t s A e K) :
    wpC base (Runs (gam base)) (((ir152.body.tl 8).tl 1).hd 2) (Post.then (Rs3 base H rb t s A) Q) e K:=by
  obtain ⟨R,hR⟩ : ∃ R,R = Rs3 base H rb t s A:=⟨_,rfl⟩
  rw [← hR]
  unfold Rs3 at hR
  obtain ⟨n2,n8,v7,lo,u,w,bo,wo,vs,fr,⟨e0,e2,e7,e8,-⟩,h7,hl7,o,hu,hw',hvs,hrows⟩:=hh
  simp only [] at e0 e2 e7 e8
  have hT8 : 2 ^ t≤8:=Nat.pow_le_pow_right (n:=2) (by omega) ht
  have hNT : A.acc.length * 2 ^ t≤800000:=by have:=Nat.mul_le_mul hn hT8; omega
  have hKl : (keysS t A s).length≤800000:=by
    have:=(keysS_closed hok hs).len (A.acc.length * 2 ^ t)
    rw [List.length_range] at this
    unfold keysS
    omega
  have hw:=wd_3 ht
  obtain ⟨KS,hKS⟩ : ∃ KS,KS = keysS t A s:=⟨_,rfl⟩
  rw [← hKS] at hl7 o hu hw' hvs hrows hKl hR
  obtain ⟨rows,hrw⟩ : ∃ rows,rows = KS.map fun kk => rowM t A KS kk (wd t):=⟨_,rfl⟩
  rw [← hrw] at hrows
  have hrl : rows.length = KS.length:=by rw [hrw]; simp
  have hrwl : ∀ r∈rows,r.length = wd t:=fun r hr => by
    rw [hrw] at hr
    obtain ⟨kk,_,rfl⟩:=List.mem_map.1 hr
    exact rowM_len t A KS kk (wd t)
  simp [ir152,BCode.hd,BCode.tl,e7,h7,hl7]
  obtain ⟨I,hI⟩ : ∃ I : Nat→Env→BH→Prop,I = (fun i e K => e 16 = encN i∧∃ fr,Own base H K ([(wo,.arr 36 vs),(bo,.arr 4 ((KS.map fun kk => A.acc.getD (kk / 2 ^ t) false).map encB)),(some n8,.arr 25 [encN t,.int .i64 0,u,w]),(some n2,.arr 25 [.int .i64 0,.int .i64 0,.nils,.nils])]++fr) ∧
    RowsOf 2 vs fr ((oR KS.length rows i).map (·.map encI))):=⟨_,rfl⟩
  refine wpC_countK KS.length [(0,.ptr rb 0),(2,.ptr n2 0),(8,.ptr n8 0),(15,encN KS.length)] I (i0:=0) ?_ ?_ ?_ (Nat.zero_le _) ?_
  · rfl
  · simp [e0,e2,e8]
  · rw [hI]
    refine ⟨by simp,fr,o.sub (.cons_cons _ (.cons_cons _ (.cons_cons _ (.cons _ (.cons_cons _ (List.Sublist.refl _)))))),?_⟩
    simpa [oR] using hrows
  clear e0 e2 e7 e8 o hrows
  rintro i e K hi ⟨e0,e2,e8,e15,-⟩ hh
  rw [hI] at hh
  obtain ⟨e16,fr,o,hrows⟩:=hh
  simp only [] at e0 e2 e8 e15
  have wi:=wS (n:=i) (by omega)
  have u3:=rd_ptr (o.at 2 (b:=n8) rfl) (rt:=none) (j:=3) (c:=w) rfl rfl
  by_cases hlt : i < KS.length
  · have hir : i < rows.length:=by omega
    simp [e16,e8,u3,hw'.isSl,hw'.len,hlt]
    obtain ⟨J,hJ⟩ : ∃ J : Nat→Env→BH→Prop,J = (fun j e K => e 17 = encN j∧∃ fr,Own base H K ([(wo,.arr 36 vs),(bo,.arr 4 ((KS.map fun kk => A.acc.getD (kk / 2 ^ t) false).map encB)),(some n8,.arr 25 [encN t,.int .i64 0,u,w]),(some n2,.arr 25 [.int .i64 0,.int .i64 0,.nils,.nils])]++fr) ∧
      RowsOf 2 vs fr ((stR KS.length rows i (dedj KS.length j rows[i])).map (·.map encI))):=⟨_,rfl⟩
    refine wpC_countK (wd t) [(0,.ptr rb 0),(2,.ptr n2 0),(8,.ptr n8 0),(15,encN KS.length),(16,encN i)] J (i0:=0) ?_ ?_ ?_ (Nat.zero_le _) ?_
    · rfl
    · simp [e0,e2,e8,e15,e16]
    · rw [hJ]
      exact ⟨by simp,fr,o,by rw [dedj_zero,stR_first hir]; exact hrows⟩
    clear e0 e2 e8 e15 e16 o hrows u3
    rintro j e M hj ⟨e0,e2,e8,e15,e16,-⟩ hh
    rw [hJ] at hh
    obtain ⟨e17,fr,o,hrows⟩:=hh
    simp only [] at e0 e2 e8 e15 e16
    have wj:=wS (n:=j) (by omega)
    have hrwi : rows[i].length = wd t:=hrwl _ (List.getElem_mem hir)
    have u3:=rd_ptr (o.at 2 (b:=n8) rfl) (rt:=none) (j:=3) (c:=w) rfl rfl
    have hiv : i < vs.length:=by omega
    have hvi:=(o.rd 0 rfl (v:=w) (by rw [hvs]; exact hw')).get hiv (rt:=none) rfl
    obtain ⟨ro,hro,hrv⟩:=hrows.get (i:=i) (u:=vs[i]) (xs:=(dedj KS.length j rows[i]).map encI) (by simp [hiv]) (by rw [List.getElem?_map,stR_get hir]; rfl)
    have hdl : (dedj KS.length j rows[i]).length = wd t:=by rw [dedj_len,hrwi]
    have hat : ([(wo,BSt.arr 36 vs),(bo,.arr 4 ((KS.map fun kk => A.acc.getD (kk / 2 ^ t) false).map encB)),(some n8,.arr 25 [encN t,.int .i64 0,u,w]),(some n2,.arr 25 [.int .i64 0,.int .i64 0,.nils,.nils])]++fr)[4 + i]? = some (ro,.arr 2 ((dedj KS.length j rows[i]).map encI)):=by
      rw [List.getElem?_append_right (by simp),← hro]
      simp
    have hvl : vs[i].slen = wd t:=by rw [hrv.len]; simp [hdl]
    by_cases hlj : j < wd t
    · have hrd:=(o.rd (4 + i) hat hrv).at (i:=j) (by rw [hdl]; exact hlj) (rt:=none) rfl
      rw [dedj_get (by rw [hrwi]; exact hlj)] at hrd
      simp [e8,u3,e16,e17,hw'.isSl,hw'.len,hlt,hvi,hrv.isSl,hvl,hlj,hrd]
      by_cases hneg : rows[i][j]'(by rw [hrwi]; exact hlj) < 0
      · obtain ⟨K5,g5,o5⟩:=o.wr (4 + i) hat hrv (j:=j) (by simp [hdl,hlj]) (u:=encI (KS.length : Nat)) rfl (rt:=none) rfl
        have g5' : M.wr base none 1 (vs[i].sat j 1) (encN KS.length) = some K5:=g5
        simp [hneg,e8,u3,e16,e17,hw'.isSl,hw'.len,hlt,hvi,hrv.isSl,hvl,hlj,e15,g5',wj]
        rw [hJ]
        refine ⟨by simp,fr.set i (ro,.arr 2 ((dedj KS.length (j + 1) rows[i]).map encI)),?_,?_⟩
        · rw [List.set_append_right _ _ (by simp)] at o5
          have hde : ((dedj KS.length j rows[i]).map encI).set j (encI (KS.length : Nat)) = (dedj KS.length (j + 1) rows[i]).map encI:=by
            rw [← dedj_set (D:=KS.length) (by rw [hrwi]; exact hlj),List.map_set]
            unfold ded
            rw [if_pos hneg]
          rw [hde] at o5
          simpa using o5
        · have:=RowsOf.upd (ys:=(dedj KS.length (j + 1) rows[i]).map encI) (by simp [dedj_len]) hrows hro
          rw [← stR_set hir (dedj KS.length j rows[i]) (dedj KS.length (j + 1) rows[i]),List.map_set]
          exact this
      · simp [hneg,e17,wj,hlj]
        rw [hJ]
        refine ⟨by simp,fr,o,?_⟩
        rw [dedj_skip (by rw [hrwi]; exact hlj) hneg]
        exact hrows
    · have hje : j = wd t:=by omega
      subst hje
      have hda : dedj KS.length (wd t) rows[i] = rows[i].map (ded KS.length):=by rw [← hrwi,dedj_all]
      rw [hda,stR_last hir] at hrows
      simp [e8,u3,e16,e17,hw'.isSl,hw'.len,hlt,hvi,hrv.isSl,hvl,wi]
      rw [hI]
      exact ⟨by simp,fr,o,hrows⟩
  · have hie : i = KS.length:=by omega
    subst hie
    have hall : oR KS.length rows KS.length = KS.map fun kk => (rowM t A KS kk (wd t)).map (ded KS.length):=by
      unfold oR
      rw [← hrl,List.take_length,List.drop_length,hrl,hrw]
      simp
    rw [hall] at hrows
    simp [e16,e8,u3,hw'.isSl,hw'.len]
    rw [hR]
    exact ⟨n2,n8,u,w,bo,wo,vs,fr,by simp [e0,e2,e8,e15],o,hu,hw',hvs,hrows⟩

theorem right_row (t : Nat) (A : Aut) (s : Nat) (kk : Nat) (c : Nat) : (rowM t A (keysS t A s) kk c).map (ded (keysS t A s).length) = ((List.range c).map fun c => numS (keysS t A s) (stepS t A kk c)).map fun (n : Nat) => (n : Int):=by
  unfold rowM
  rw [List.map_map,List.map_map]
  refine List.map_congr_left fun c _ => ?_
  show ded _ (match stepS t A kk c with | none => (-1 : Int) | some to => ((pos (keysS t A s) to : Nat) : Int)) = ((numS (keysS t A s) (stepS t A kk c) : Nat) : Int)
  cases stepS t A kk c with
  | none => rfl
  | some to =>
    show ded _ ((pos (keysS t A s) to : Nat) : Int) = ((pos (keysS t A s) to : Nat) : Int)
    unfold ded
    rw [if_neg (by omega)]
theorem RdRel.of {H K : BH} {t s : Nat} {A : Aut} {u w : BV} {bo wo : Option Nat} {vs : List BV} {fr : List Sl} (o : Own base H K ([(wo,.arr 36 vs),(bo,.arr 4 (A.acc.map encB))]++fr)) (hu : Vec bo u A.acc.length) (hw : Vec wo w vs.length) (hr : RowsOf 2 vs fr (A.nxt.map (·.map encN))) :
    RdRel K t s A (.agg [encN t,encN s,u,w]):=⟨u,w,rfl,o.rd 1 rfl (by simpa using hu),RowsOf.rdR (bo:=wo) (F:=[(wo,.arr 36 vs),(bo,.arr 4 (A.acc.map encB))]) o hr (o.rd 0 rfl hw)⟩
theorem right_p4 (t s rb : Nat) (ht : t≤3) (A : Aut) (H : BH) (h : RdP H rb t s A) (hok : A.Ok (wd t)) (hs : s < A.acc.length) (hn : A.acc.length≤100000) (e : Env) (K : BH) (hh : Rs3 base H rb t s A e K) :
    wpC base (Runs (gam base)) (((ir152.body.tl 8).tl 1).tl 2) (fun x e' K => (x = .normal∨x = .ret)∧∃ v,resOf ir152.results e' K = some v∧H.Keeps K∧RdRel K t 0 (rightS t A s) v) e K:=by
  obtain ⟨u0,x,hr,hu0,hx⟩:=h
  obtain ⟨R,hR⟩ : ∃ R : BV→BH→Prop,R = fun v K => H.Keeps K∧RdRel K t 0 (rightS t A s) v:=⟨_,rfl⟩
  have hR' : (fun (x : BExit) (e' : Env) (K : BH) => (x = .normal∨x = .ret)∧∃ v,resOf ir152.results e' K = some v∧H.Keeps K∧RdRel K t 0 (rightS t A s) v) = fun x e' K => (x = .normal∨x = .ret)∧∃ v,resOf ir152.results e' K = some v∧R v K:=by rw [hR]
  rw [hR']
  obtain ⟨n2,n8,u,w,bo,wo,vs,fr,⟨e0,e2,e8,e15,-⟩,o,hu,hw',hvs,hrows⟩:=hh
  simp only [] at e0 e2 e8 e15
  have hT8 : 2 ^ t≤8:=Nat.pow_le_pow_right (n:=2) (by omega) ht
  have hNT : A.acc.length * 2 ^ t≤800000:=by have:=Nat.mul_le_mul hn hT8; omega
  have hKl : (keysS t A s).length≤800000:=by
    have:=(keysS_closed hok hs).len (A.acc.length * 2 ^ t)
    rw [List.length_range] at this
    unfold keysS
    omega
  have hw:=wd_3 ht
  have hacc:=rightS_acc (t:=t) (X:=A) (s:=s)
  have hnxt:=rightS_nxt hok hs
  have hro : ((keysS t A s).map fun kk => (rowM t A (keysS t A s) kk (wd t)).map (ded (keysS t A s).length)).map (·.map encI) = ((keysS t A s).map fun kk => (List.range (wd t)).map fun c => numS (keysS t A s) (stepS t A kk c)).map (·.map encN):=by
    rw [List.map_map,List.map_map]
    refine List.map_congr_left fun kk _ => ?_
    show ((rowM t A (keysS t A s) kk (wd t)).map (ded (keysS t A s).length)).map encI = _
    rw [right_row,List.map_map]
    rfl
  rw [hro] at hrows
  obtain ⟨D,hD⟩ : ∃ D,D = (keysS t A s).length:=⟨_,rfl⟩
  rw [← hD] at e15 hu hw' hvs hnxt hKl
  obtain ⟨ac,hac⟩ : ∃ ac,ac = (keysS t A s).map fun kk => A.acc.getD (kk / 2 ^ t) false:=⟨_,rfl⟩
  rw [← hac] at o hacc
  have hacl : ac.length = D:=by rw [hac,hD]; simp
  simp [ir152,BCode.tl,BCode.hd]
  intro n18 b18 f18
  have o1:=o.new f18 b18 (s:=.arr 2 [])
  simp [make_of f18 b18]
  obtain ⟨I,hI⟩ : ∃ I : Nat→Env→BH→Prop,I = (fun i e K => e 19 = encN i∧∃ v18 ro,e 18 = v18∧Own base H K ([(ro,.arr 2 ((List.replicate i D).map encN)),(wo,.arr 36 vs),(bo,.arr 4 (ac.map encB)),(some n8,.arr 25 [encN t,.int .i64 0,u,w]),(some n2,.arr 25 [.int .i64 0,.int .i64 0,.nils,.nils])]++fr)∧Vec ro v18 i):=⟨_,rfl⟩
  refine wpC_countK (wd t) [(0,.ptr rb 0),(2,.ptr n2 0),(8,.ptr n8 0),(15,encN D)] I (i0:=0) ?_ ?_ ?_ (Nat.zero_le _) ?_
  · rfl
  · simp [e0,e2,e8,e15]
  · rw [hI]
    exact ⟨by simp,.sl n18 0 0,some n18,by simp,o1,rfl⟩
  clear e0 e2 e8 e15 o o1
  rintro i e K hi ⟨e0,e2,e8,e15,-⟩ hh
  rw [hI] at hh
  obtain ⟨e19,v18,ro,e18,o,hv18⟩:=hh
  simp only [] at e0 e2 e8 e15
  have wi:=wS (n:=i) (by omega)
  have r0:=rd_keeps o.keeps (rd_ptr hr (rt:=none) (j:=0) (c:=encN t) rfl rfl)
  simp [e0,e19,r0]
  refine callP (s_wide t K (by omega)) ?_
  by_cases hlt : i < wd t
  · simp [hlt,e18,e15]
    intro n1 b1 f1
    simp [make_of f1 b1]
    intro n4 b4 f4
    obtain ⟨v',K',b',q1,q2,q3⟩:=o.push 0 rfl (v:=v18) (by simpa using hv18) (x:=encN D) (bytes:=8) rfl (by simp; omega) (by simp; omega) f1 b1 f4 b4
    simp [q1,e19,wi,hlt]
    rw [hI]
    refine ⟨by simp,v',some b',by simp,?_,by simpa using q3⟩
    rw [List.replicate_succ',List.map_append]
    exact q2
  · have hie : i = wd t:=by omega
    subst hie
    have u1:=rd_ptr (o.at 3 (b:=n8) rfl) (rt:=none) (j:=2) (c:=u) rfl rfl
    simp [e8,u1]
    intro n1 b1 f1
    simp [make_of f1 b1]
    intro n4 b4 f4
    obtain ⟨v',K2,b',q1,o2,q3⟩:=o.push 2 rfl (v:=u) (by rw [List.length_map,hacl]; exact hu) (x:=encB false) (bytes:=1) rfl (by simp; omega) (by simp; omega) f1 b1 f4 b4
    obtain ⟨K3,q2,o3⟩:=o2.put 3 (b:=n8) rfl (j:=2) (u:=v') (by simp) q3.one (rt:=none) rfl
    have u2:=rd_ptr (o3.at 3 (b:=n8) rfl) (rt:=none) (j:=3) (c:=w) rfl rfl
    have h18:=hv18.one
    simp [q1,q2,e8,u2,e18,h18,cells_one h18]
    intro n5' b5' f5'
    simp [make_of f5' b5']
    intro n6 b6 f6
    obtain ⟨w',K4,c',p1,o4,p3⟩:=o3.push 1 rfl (v:=w) (by rw [hvs]; exact hw') (x:=v18) (bytes:=24) h18 (by omega) (by omega) f5' b5' f6 b6
    obtain ⟨K5,p2,o5⟩:=o4.put 3 (b:=n8) rfl (j:=3) (u:=w') (by simp) p3.one (rt:=none) rfl
    have r9:=rd_all (o5.at 3 (b:=n8) rfl) (n:=4) (rt:=none) rfl rfl
    obtain ⟨K6,p4,o6⟩:=o5.putAll 4 (b:=n2) (n:=4) (ds:=[encN t,.int .i64 0,v',w']) rfl rfl rfl (by simp [q3.one,p3.one]) (rt:=none) rfl
    have r10:=rd_all (o6.at 4 (b:=n2) rfl) (n:=4) (rt:=none) rfl rfl
    have r9' : K5.rd none (some 4) (.ptr n8 0) = some (.agg [encN t,.int .i64 0,v',w']):=r9
    simp [p1,p2,e8,e2,r9',p4,r10]
    rw [hR]
    refine ⟨o6.keeps,?_⟩
    have o7:=Own.last (p:=(ro,.arr 2 ((List.replicate (wd t) D).map encN))) (F:=[(some c',.arr 36 (vs++[v18])),(some b',.arr 4 (ac.map encB++[encB false])),(some n8,.arr 25 [encN t,.int .i64 0,v',w']),(some n2,.arr 25 [encN t,.int .i64 0,v',w'])]) (by simpa using o6)
    have o8 : Own base H K6 ([(some c',.arr 36 (vs++[v18])),(some b',.arr 4 ((rightS t A s).acc.map encB))]++(fr++[(ro,.arr 2 ((List.replicate (wd t) D).map encN))])):=by
      rw [hacc,List.map_append]
      exact o7.sub (.cons_cons _ (.cons_cons _ (.cons _ (.cons _ (List.Sublist.refl _)))))
    refine RdRel.of (t:=t) (s:=0) o8 ?_ ?_ ?_
    · rw [hacc]
      simpa [hacl] using q3
    · simpa using p3
    · rw [hnxt,List.map_append]
      exact hrows.snoc (by simpa using hv18)
theorem s_right (t s rb : Nat) (ht : t≤3) (A : Aut) (H : BH) (h : RdP H rb t s A) (hok : A.Ok (wd t)) (hs : s < A.acc.length) (hn : A.acc.length≤100000) :
    FnDoes (gam base) 152 [.ptr rb 0] H fun v K => RdRel K t 0 (rightS t A s) v:=by
  refine FnDoes.of (fn:=ir152) rfl ?_
  refine wpC_part 8 (Rs1 base H rb t s A) (right_p1 t s rb ht A H h hs hn _) fun e K h1 => ?_
  refine wpC_part 1 (Rs2 base H rb t s A) (right_p2 t s rb ht A H h hok hs hn _ e K h1) fun e K h2 => ?_
  refine wpC_part 2 (Rs3 base H rb t s A) (right_p3 t s rb ht A H hok hs hn _ e K h2) fun e K h3 => ?_
  exact right_p4 t s rb ht A H h hok hs hn e K h3
theorem s_alike (t s rb w : Nat) (A : Aut) (g : List Nat) (cv : BV) (H : BH) (h : RdP H rb t s A) (hok : A.Ok w) (hw : w≤1000) (hg : Rd H 2 cv (g.map encN)) (hgl : g.length = A.acc.length) (a b : Nat) (ha : a < A.acc.length) (hb : b < A.acc.length) :
    Runs (gam base) 203 [.ptr rb 0,cv,encN a,encN b] H (.bool (decide ((keyA A g a).2 = (keyA A g b).2))) H:=by
  refine runs_of (fn:=ir203) rfl ?_
  obtain ⟨u,x,hr,hu,hx⟩:=h
  have r3:=rd_ptr hr (rt:=none) (j:=3) (c:=x) rfl rfl
  have ha' : a < A.nxt.length:=by rw [hok.len]; exact ha
  have hb' : b < A.nxt.length:=by rw [hok.len]; exact hb
  obtain ⟨ra,hra,hra2⟩:=hx.at ha'
  obtain ⟨rb',hrb,hrb2⟩:=hx.at hb'
  have hra2:=hra2 none rfl
  have hrb2:=hrb2 none rfl
  have hla:=hok.row _ (List.getElem_mem ha')
  have hlb:=hok.row _ (List.getElem_mem hb')
  have hka : (keyA A g a).2 = A.nxt[a].map fun q => g.getD q 0:=by unfold keyA; simp [ha']
  have hkb : (keyA A g b).2 = A.nxt[b].map fun q => g.getD q 0:=by unfold keyA; simp [hb']
  simp [ir203]
  refine wpC_countK w [(0,.ptr rb 0),(1,cv),(2,encN a),(3,encN b)] (fun c e K => e 9 = encN c∧(∀ d,d < c→(keyA A g a).2[d]? = (keyA A g b).2[d]?)∧K = H) (i0:=0) ?_ ?_ ?_ (Nat.zero_le _) ?_
  · rfl
  · simp
  · exact ⟨rfl,fun d hd => by omega,rfl⟩
  rintro c e K hc ⟨e0,e1,e2,e3,-⟩ ⟨e9,hsame,rfl⟩
  simp only [] at e0 e1 e2 e3
  have wc:=wS (n:=c) (by omega)
  by_cases hlt : c < w
  · have ca : c < A.nxt[a].length:=by omega
    have cb : c < A.nxt[b].length:=by omega
    have h1:=hra.at ca (rt:=none) rfl
    have h2:=hrb.at cb (rt:=none) rfl
    have q1:=hla.2 _ (List.getElem_mem ca)
    have q2:=hlb.2 _ (List.getElem_mem cb)
    have q1' : A.nxt[a][c] < g.length:=by omega
    have q2' : A.nxt[b][c] < g.length:=by omega
    have h3:=hg.at q1' (rt:=none) rfl
    have h4:=hg.at q2' (rt:=none) rfl
    have k1 : (keyA A g a).2[c]? = some g[A.nxt[a][c]]:=by rw [hka,List.getElem?_map,List.getElem?_eq_getElem ca]; simp [q1']
    have k2 : (keyA A g b).2[c]? = some g[A.nxt[b][c]]:=by rw [hkb,List.getElem?_map,List.getElem?_eq_getElem cb]; simp [q2']
    simp [e0,e1,e2,e3,e9,r3,hx.isSl,hx.len,ha',hb',hra2,hrb2,hra.isSl,hra.lenM,hrb.isSl,hrb.lenM,ca,cb,hla.1,hlb.1,hlt,h1,h2,hg.isSl,hg.lenM,q1',q2',h3,h4]
    by_cases he : g[A.nxt[a][c]] = g[A.nxt[b][c]]
    · have he' : ((g[A.nxt[a][c]] : Nat) : Int) = ((g[A.nxt[b][c]] : Nat) : Int):=by omega
      simp [he,e9,wc,hlt]
      intro d hd
      by_cases hdc : d = c
      · subst hdc; rw [k1,k2,he]
      · exact hsame d (by omega)
    · have hne : ((g[A.nxt[a][c]] : Nat) : Int)≠((g[A.nxt[b][c]] : Nat) : Int):=by omega
      have hbn : (((g[A.nxt[a][c]] : Nat) : Int) != ((g[A.nxt[b][c]] : Nat) : Int)) = true:=by simpa using hne
      simp [hbn]
      intro e5
      rw [e5,k2] at k1
      simp at k1
      exact he k1.symm
  · have hce : c = w:=by omega
    subst hce
    simp [e0,e2,e9,r3,hx.isSl,hx.len,ha',hra2,hra.isSl,hra.lenM,hla.1]
    apply List.ext_getElem?
    intro d
    by_cases hd : d < c
    · exact hsame d hd
    · rw [List.getElem?_eq_none,List.getElem?_eq_none]
      · rw [hkb,List.length_map]; omega
      · rw [hka,List.length_map]; omega
theorem pos_first {α : Type} [DecidableEq α] : ∀ {ks : List α} {k : α} {n : Nat} (h : n < ks.length),ks[n] = k→(∀ j,(hj : j < n)→ks[j]≠k)→pos ks k = n
  | [],k,n,h,_,_ => by simp at h
  | x::ks,k,0,h,h1,_ => by
    simp at h1
    subst h1
    simp [pos]
  | x::ks,k,n + 1,h,h1,h2 => by
    have hx : x≠k:=h2 0 (by omega)
    have h3:=pos_first (ks:=ks) (k:=k) (n:=n) (by simpa using h) (by simpa using h1) fun j hj => by
      have:=h2 (j + 1) (by omega)
      simpa using this
    unfold pos at h3 ⊢
    rw [List.idxOf_cons]
    have : (x == k) = false:=by simpa using hx
    rw [this,cond_false,h3]
theorem s_finer (t s rb w : Nat) (A : Aut) (g : List Nat) (cv : BV) (H : BH) (h : RdP H rb t s A) (hok : A.Ok w) (hw : w≤1000) (hg : Rd H 2 cv (g.map encN)) (hgl : g.length = A.acc.length) (hn : A.acc.length≤1000000) :
    FnDoes (gam base) 153 [.ptr rb 0,cv] H fun v K => ∃ y bo,v = .tup [y,encN (kindsA A g).length]∧OwnV base K 2 y ((finer A g).map encN) bo∧Fr H bo:=by
  refine FnDoes.of (fn:=ir153) rfl ?_
  obtain ⟨n,hnn⟩ : ∃ n,n = A.acc.length:=⟨_,rfl⟩
  have hcl : cv.slen = n:=by rw [hg.lenM,hgl,hnn]
  have c1 : (n : Int)≤140737488355328:=by omega
  have c8 : 8 * (n : Int)≤140737488355328:=by omega
  simp [ir153,hg.isSl,hcl,c1,c8]
  intro n7 b7 f7
  simp [make_of f7 b7]
  intro n8 b8 f8
  have o1:=Own.start (base:=base) (H:=H) |>.new f7 b7 (s:=.arr 2 (List.replicate n (.int .i64 0))) |>.new f8 b8 (s:=.arr 2 [])
  simp [make_of f8 b8]
  obtain ⟨F,hF⟩ : ∃ F : Nat→Int,F = fun j => ((pos (kindsA A g) (keyA A g j) : Nat) : Int):=⟨_,rfl⟩
  obtain ⟨I,hI⟩ : ∃ I : Nat→Env→BH→Prop,I = (fun i e K => e 9 = encN i∧∃ v8 lo,∃ fs : List Nat,e 8 = v8∧fs.map (keyA A g) = kindsI A g i∧(∀ f∈fs,f < n)∧Own base H K [(lo,.arr 2 (fs.map encN)),(some n7,.arr 2 ((fillZ n F i).map encI))]∧Vec lo v8 fs.length):=⟨_,rfl⟩
  refine wpC_countK n [(0,.ptr rb 0),(1,cv),(6,encN n),(7,.sl n7 0 n)] I (i0:=0) ?_ ?_ ?_ (Nat.zero_le _) ?_
  · rfl
  · simp
  · rw [hI]
    refine ⟨rfl,.sl n8 0 0,some n8,[],rfl,rfl,fun f hf => by simp at hf,?_,rfl⟩
    rw [fillZ_zero,repl0Z]
    exact o1
  clear o1
  rintro i e K hi ⟨e0,e1,e6,e7,-⟩ hh
  rw [hI] at hh
  obtain ⟨e9,v8,lo,fs,e8,hfs,hfn,o,hv8⟩:=hh
  simp only [] at e0 e1 e6 e7
  have wi:=wS (n:=i) (by omega)
  by_cases hlt : i < n
  · have hltA : i < A.acc.length:=by omega
    have hltg : i < g.length:=by omega
    obtain ⟨K2,g2,o2⟩:=o.put 1 (b:=n7) rfl (j:=i) (u:=encI (-1)) (by simp [fillZ_len F hi,hlt]) rfl (rt:=none) rfl
    have hfsl : fs.length≤i:=by
      have h1:=congrArg List.length hfs
      rw [List.length_map] at h1
      have h2:=nodup_le (xs:=kindsI A g i) (ys:=(List.range i).map (keyA A g)) (addAll_nodup List.nodup_nil) fun x hx => addAll_all.1 hx
      simp at h2
      omega
    have hkl : fs.length = (kindsI A g i).length:=by rw [← hfs,List.length_map]
    have hkg : ∀ k,(hk : k < fs.length)→(kindsI A g i)[k]'(by omega) = keyA A g fs[k]:=fun k hk => by simp [← hfs]
    simp [e6,e7,e9,hlt,g2]
    obtain ⟨J,hJ⟩ : ∃ J : Nat→Env→BH→Prop,J = (fun k e K => e 10 = encN k∧∃ v : Int,Own base H K [(lo,.arr 2 (fs.map encN)),(some n7,.arr 2 (((fillZ n F i).set i v).map encI))] ∧
      ((v = -1∧∀ j,(hj : j < k)→(hj2 : j < fs.length)→keyA A g fs[j]≠keyA A g i)∨(∃ k',k = k' + 1∧v = (k' : Nat)∧∃ hk : k' < fs.length,keyA A g fs[k'] = keyA A g i∧∀ j,(hj : j < k')→keyA A g fs[j]≠keyA A g i))):=⟨_,rfl⟩
    refine wpC_countK fs.length [(0,.ptr rb 0),(1,cv),(6,encN n),(7,.sl n7 0 n),(8,v8),(9,encN i)] J (i0:=0) ?_ ?_ ?_ (Nat.zero_le _) ?_
    · rfl
    · simp [e0,e1,e6,e7,e8,e9]
    · rw [hJ]
      refine ⟨by simp,-1,?_,.inl ⟨rfl,fun j hj => by omega⟩⟩
      simpa [List.map_set] using o2
    clear e0 e1 e6 e7 e8 e9 o o2 g2
    rintro k e M hk ⟨e0,e1,e6,e7,e8,e9,-⟩ hh
    rw [hJ] at hh
    obtain ⟨e10,v,o,hv⟩:=hh
    simp only [] at e0 e1 e6 e7 e8 e9
    have wk:=wS (n:=k) (by omega)
    have hrd:=rd_ptr (o.at 1 (b:=n7) rfl) (rt:=none) (j:=i) (c:=encI v) rfl (by simp [fillZ_len F hi,hlt])
    have hpre:=kindsI_pre A g (show i≤A.acc.length by omega)
    have hpre1:=kindsI_pre A g (show i + 1≤A.acc.length from hltA)
    have hsu:=kindsI_succ A g i
    have found : ∀ k',v = (k' : Nat)→(∃ hk : k' < fs.length,keyA A g fs[k'] = keyA A g i∧∀ j,(hj : j < k')→keyA A g fs[j]≠keyA A g i)→v = F i∧kindsI A g (i + 1) = kindsI A g i:=by
      rintro k' hv' ⟨hk1,hk2,hk3⟩
      have hp : pos (kindsI A g i) (keyA A g i) = k':=pos_first (by omega) (by rw [hkg k' hk1,hk2]) fun j hj => by rw [hkg j (by omega)]; exact hk3 j hj
      have hm : keyA A g i∈kindsI A g i:=by
        have:=List.getElem_mem (l:=kindsI A g i) (n:=k') (by omega)
        rw [hkg k' hk1,hk2] at this
        exact this
      refine ⟨?_,by rw [hsu]; unfold addK; rw [if_pos hm]⟩
      rw [hv',hF]
      show ((k' : Nat) : Int) = ((pos (kindsA A g) (keyA A g i) : Nat) : Int)
      rw [idx_pre hpre hm,hp]
    rcases hv with ⟨rfl,hno⟩ | ⟨k',rfl,hv',hk'⟩
    · by_cases hlk : k < fs.length
      · have hrf:=(o.rd 0 rfl (v:=v8) (by simpa using hv8)).at hlk (rt:=none) rfl
        have hfk:=hfn _ (List.getElem_mem hlk)
        have hfkg : fs[k] < g.length:=by omega
        have hgk:=(hg.keeps o.keeps).at hfkg (rt:=none) rfl
        have hgi:=(hg.keeps o.keeps).at hltg (rt:=none) rfl
        have hg1 : (keyA A g fs[k]).1 = g[fs[k]]:=by unfold keyA; simp [hfkg]
        have hg2 : (keyA A g i).1 = g[i]:=by unfold keyA; simp [hltg]
        simp [e7,e8,e9,e10,hv8.isSl,hv8.len,hlk,hlt,hrd,e1,hrf,hg.isSl,hcl,hfk,hgk,hgi]
        by_cases hge : g[fs[k]] = g[i]
        · have hal:=s_alike (base:=base) t s rb w A g cv M (h.keeps o.keeps) hok hw (hg.keeps o.keeps) hgl fs[k] i (by omega) hltA
          simp [hge,e0,e1,e8,e9,e10,hv8.isSl,hv8.len,hlk,hrf]
          refine callP hal ?_
          by_cases hk2 : (keyA A g fs[k]).2 = (keyA A g i).2
          · have hkey : keyA A g fs[k] = keyA A g i:=Prod.ext (by rw [hg1,hg2,hge]) hk2
            obtain ⟨K3,g3,o3⟩:=o.put 1 (b:=n7) rfl (j:=i) (u:=encI (k : Nat)) (by simp [fillZ_len F hi,hlt]) rfl (rt:=none) rfl
            have g3' : M.wr base none 1 (.ptr n7 i) (encN k) = some K3:=g3
            simp [hk2,e7,e9,e10,hlt,g3',wk,hlk]
            rw [hJ]
            refine ⟨by simp,(k : Nat),?_,.inr ⟨k,rfl,rfl,hlk,hkey,fun j hj => hno j hj (by omega)⟩⟩
            simpa [List.map_set] using o3
          · simp [hk2,e10,wk,hlk]
            rw [hJ]
            refine ⟨by simp,-1,o,.inl ⟨rfl,fun j hj hj2 => ?_⟩⟩
            by_cases hjk : j = k
            · subst hjk
              intro e
              exact hk2 (by rw [e])
            · exact hno j (by omega) hj2
        · have hgi' : ¬ ((g[fs[k]] : Nat) : Int) = ((g[i] : Nat) : Int):=by omega
          have hgb : (((g[fs[k]] : Nat) : Int) == ((g[i] : Nat) : Int)) = false:=by simpa using hgi'
          simp [hgb,e10,wk,hlk]
          rw [hJ]
          refine ⟨by simp,-1,o,.inl ⟨rfl,fun j hj hj2 => ?_⟩⟩
          by_cases hjk : j = k
          · subst hjk
            intro e
            exact hge (by rw [← hg1,← hg2,e])
          · exact hno j (by omega) hj2
      · -- a new class
        have hke : k = fs.length:=by omega
        have hm : keyA A g i ∉ kindsI A g i:=fun hm => by
          obtain ⟨j,hj⟩:=List.getElem_of_mem hm
          obtain ⟨hjl,hje⟩:=hj
          rw [hkg j (by omega)] at hje
          exact hno j (by omega) (by omega) hje
        have hadd : kindsI A g (i + 1) = kindsI A g i++[keyA A g i]:=by rw [hsu]; unfold addK; rw [if_neg hm]
        have hFi : F i = (fs.length : Nat):=by
          rw [hF,hkl,← idx_new hm,← hsu]
          show ((pos (kindsA A g) (keyA A g i) : Nat) : Int) = _
          rw [idx_pre hpre1 (by rw [hsu]; exact mem_addK.2 (.inr rfl))]
        obtain ⟨K3,g3,o3⟩:=o.put 1 (b:=n7) rfl (j:=i) (u:=encI (fs.length : Nat)) (by simp [fillZ_len F hi,hlt]) rfl (rt:=none) rfl
        have g3' : M.wr base none 1 (.ptr n7 i) (.int .i64 (fs.length : Nat)) = some K3:=g3
        simp [e7,e8,e9,e10,hv8.isSl,hv8.len,hlk,hlt,hrd,g3']
        intro n1 b1 f1
        simp [make_of f1 b1]
        intro n4 b4 f4
        obtain ⟨v',K',b',q1,q2,q3⟩:=o3.push 0 rfl (v:=v8) (by simpa using hv8) (x:=encN i) (bytes:=8) rfl (by simp; omega) (by simp; omega) f1 b1 f4 b4
        simp [q1,e9,wi,hlt]
        rw [hI]
        refine ⟨by simp,v',some b',fs++[i],by simp,by rw [List.map_append,hfs,hadd]; rfl,fun f hf => ?_,?_,by simpa using q3⟩
        · rcases List.mem_append.1 hf with hf | hf
          · exact hfn f hf
          · rw [List.mem_singleton] at hf; omega
        · rw [← fillZ_set F hlt,hFi]
          simpa [List.map_set] using q2
    · obtain ⟨hvF,hks⟩:=found k' hv' hk'
      have hnn : ¬ v < 0:=by omega
      have fin : ∀ e : Env,e 9 = encN (i + 1)→e 8 = v8→I (i + 1) e M:=fun e h9 h8 => by
        rw [hI]
        refine ⟨h9,v8,lo,fs,h8,by rw [hks]; exact hfs,hfn,?_,hv8⟩
        rw [← fillZ_set F hlt,← hvF]
        exact o
      by_cases hlk : k' + 1 < fs.length
      · have hlk1 : (k' : Int) + 1 < (fs.length : Int):=by omega
        simp [e7,e8,e9,e10,hv8.isSl,hv8.len,hlk1,hlt,hrd,hnn,wi]
        refine fin _ ?_ ?_ <;> simp [e8]
      · have hlk' : ¬ ((k' : Int) + 1 < (fs.length : Int)):=by omega
        simp [e7,e8,e9,e10,hv8.isSl,hv8.len,hlk,hlk',hlt,hrd,hnn,wi]
        refine fin _ ?_ ?_ <;> simp [e8]
  · have hie : i = n:=by omega
    subst hie
    have hall : fillZ i F i = (finer A g).map fun (q : Nat) => (q : Int):=by
      rw [fillZ_all,hF]
      unfold finer
      rw [List.map_map,hnn]
      rfl
    rw [hall] at o
    have hkk : kindsI A g i = kindsA A g:=by rw [hnn]; rfl
    have hfl : fs.length = (kindsA A g).length:=by rw [← hkk,← hfs,List.length_map]
    simp [e6,e7,e8,e9,hv8.isSl,hv8.len,hfl]
    have o' : Own base H K [(lo,.arr 2 (fs.map encN)),(some n7,.arr 2 ((finer A g).map encN))]:=by
      rw [List.map_map] at o
      exact o
    exact ⟨o.keeps,some n7,o'.vec 1 rfl (by rw [List.length_map,finer_len,← hnn]; rfl),Fr.some (o'.fr 1 rfl)⟩
def Ts1 (base : Nat) (H : BH) (rb t s : Nat) (A : Aut) (e : Env) (K : BH) : Prop:=∃ K1 n2 n3 n4 u w,Own base H K1 [(some n2,.arr 25 [.int .i64 0,.int .i64 0,.nils,.nils])]∧Rd K1 4 u ((rightS t A s).acc.map encB)∧RdR K1 36 2 w encN (rightS t A s).nxt ∧
  Has e [(0,.ptr rb 0),(2,.ptr n2 0),(3,.ptr n3 0),(4,.sl n4 0 (rightS t A s).acc.length)]∧Own base K1 K [(some n4,.arr 2 ((class0 (rightS t A s)).map encN)),(some n3,.arr 25 [encN t,encN 0,u,w])]
theorem tidied_p1 (t s rb : Nat) (ht : t≤3) (A : Aut) (H : BH) (h : RdP H rb t s A) (hok : A.Ok (wd t)) (hs : s < A.acc.length) (hn : A.acc.length≤100000) (Q : Post) :
    wpC base (Runs (gam base)) (ir102.body.hd 4) (Post.then (Ts1 base H rb t s A) Q) (argEnv [.ptr rb 0]) H:=by
  obtain ⟨R,hR⟩ : ∃ R,R = Ts1 base H rb t s A:=⟨_,rfl⟩
  rw [← hR]
  unfold Ts1 at hR
  have hT8 : 2 ^ t≤8:=Nat.pow_le_pow_right (n:=2) (by omega) ht
  have hNT : A.acc.length * 2 ^ t≤800000:=by have:=Nat.mul_le_mul hn hT8; omega
  obtain ⟨hX,hXl,hXL⟩:=rightS_ok hok hs
  simp [ir102,BCode.hd]
  intro n2 b2 f2
  have o1:=Own.start (base:=base) (H:=H) |>.new f2 b2 (s:=.arr 25 [.int .i64 0,.int .i64 0,.nils,.nils])
  simp [make_of f2 b2]
  refine (s_right (base:=base) t s rb ht A _ (h.keeps o1.keeps) hok hs hn).step fun v K1 k1 hv => ?_
  obtain ⟨u,w,rfl,hu,hw⟩:=hv
  have oH:=o1.call k1
  have u1:=hu.one
  have w1:=one_of_isSl hw.isSl
  obtain ⟨X,hXd⟩ : ∃ X,X = rightS t A s:=⟨_,rfl⟩
  rw [← hXd] at hu hw hX hXl hR
  simp [u1,w1]
  intro n3 b3 f3
  obtain ⟨K2,g2,o2⟩:=((Own.start (base:=base) (H:=K1)).new f3 b3 (s:=.arr 25 [.int .i64 0,.int .i64 0,.nils,.nils])).putAll 0 (b:=n3) (n:=4) (ds:=[encN t,encN 0,u,w]) rfl rfl rfl (by simp [u1,w1]) (rt:=none) rfl
  have r2:=rd_ptr (o2.at 0 (b:=n3) rfl) (rt:=none) (j:=2) (c:=u) rfl rfl
  have c1 : (X.acc.length : Int)≤140737488355328:=by omega
  have c8 : 8 * (X.acc.length : Int)≤140737488355328:=by omega
  simp [make_of f3 b3,g2,r2,hu.isSl,hu.lenM,c1,c8]
  intro n4 b4 f4
  have o3:=o2.new f4 b4 (s:=.arr 2 (List.replicate X.acc.length (.int .i64 0)))
  simp [make_of f4 b4]
  obtain ⟨f0,hf0⟩ : ∃ f0 : Nat→Nat,f0 = fun j => if X.acc.getD j false = true then 1 else 0:=⟨_,rfl⟩
  obtain ⟨I,hI⟩ : ∃ I : Nat→Env→BH→Prop,I = (fun i e K => e 5 = encN i∧Own base K1 K [(some n4,.arr 2 ((fillN X.acc.length f0 i).map encN)),(some n3,.arr 25 [encN t,encN 0,u,w])]):=⟨_,rfl⟩
  refine wpC_countK X.acc.length [(0,.ptr rb 0),(2,.ptr n2 0),(3,.ptr n3 0),(4,.sl n4 0 X.acc.length)] I (i0:=0) ?_ ?_ ?_ (Nat.zero_le _) ?_
  · rfl
  · simp
  · rw [hI]
    refine ⟨rfl,?_⟩
    rw [fillN_zero,repl0]
    exact o3
  rintro i e K hi ⟨e0,e2,e3,e4,-⟩ hh
  rw [hI] at hh
  obtain ⟨e5,o⟩:=hh
  simp only [] at e0 e2 e3 e4
  have wi:=wS (n:=i) (by omega)
  have r2:=rd_ptr (o.at 1 (b:=n3) rfl) (rt:=none) (j:=2) (c:=u) rfl rfl
  by_cases hlt : i < X.acc.length
  · have hr:=(hu.keeps o.keeps).at hlt (rt:=none) rfl
    have hga : X.acc.getD i false = X.acc[i]:=by simp [hlt]
    simp [e3,e5,r2,hu.isSl,hu.lenM,hlt,hr]
    cases hb : X.acc[i] with
    | false =>
      simp [e5,wi,hlt]
      rw [hI]
      refine ⟨by simp,?_⟩
      rw [fillN_skip f0 hlt (by rw [hf0]; show (if X.acc.getD i false = true then 1 else 0) = 0; rw [hga,hb]; rfl)]
      exact o
    | true =>
      obtain ⟨K5,g5,o5⟩:=o.put 0 (b:=n4) rfl (j:=i) (u:=encN 1) (by simp [fillN_len f0 hi,hlt]) rfl (rt:=none) rfl
      have g5' : K.wr base none 1 (.ptr n4 i) (.int .i64 1) = some K5:=g5
      simp [e4,hlt,g5',e5,wi]
      rw [hI]
      refine ⟨by simp,?_⟩
      rw [← fillN_set f0 hlt,show f0 i = 1 by rw [hf0]; show (if X.acc.getD i false = true then 1 else 0) = 1; rw [hga,hb]; rfl]
      simpa [List.map_set] using o5
  · have hie : i = X.acc.length:=by omega
    subst hie
    have hc0 : fillN X.acc.length f0 X.acc.length = class0 X:=by rw [fillN_all,hf0]; exact class0_fill X
    rw [hc0] at o
    simp [e3,e5,r2,hu.isSl,hu.lenM]
    rw [hR]
    exact ⟨K1,n2,n3,n4,u,w,oH,hu,hw,by simp [e0,e2,e3,e4],o⟩
def Ts2 (base : Nat) (H : BH) (rb t s N : Nat) (A : Aut) (e : Env) (K : BH) : Prop:=∃ K1 n2 n3 cv u w,Own base H K1 [(some n2,.arr 25 [.int .i64 0,.int .i64 0,.nils,.nils])]∧Rd K1 4 u ((rightS t A s).acc.map encB)∧RdR K1 36 2 w encN (rightS t A s).nxt ∧
  Has e [(0,.ptr rb 0),(2,.ptr n2 0),(3,.ptr n3 0),(4,cv),(6,encN (countN (rightS t A s) N))]∧Own base K1 K [(some n3,.arr 25 [encN t,encN 0,u,w])]∧Rd K 2 cv ((classN (rightS t A s) (N + 1)).map encN)
theorem tidied_p2 (t s rb N : Nat) (ht : t≤3) (A : Aut) (H : BH) (hok : A.Ok (wd t)) (hs : s < A.acc.length) (hn : A.acc.length≤100000)
    (hstop : countN (rightS t A s) (N + 1) = countN (rightS t A s) N) (hgo : ∀ j,j < N→countN (rightS t A s) (j + 1)≠countN (rightS t A s) j) (Q : Post) (e : Env) (K : BH) (hh : Ts1 base H rb t s A e K) :
    wpC base (Runs (gam base)) ((ir102.body.tl 4).hd 2) (Post.then (Ts2 base H rb t s N A) Q) e K:=by
  obtain ⟨R,hR⟩ : ∃ R,R = Ts2 base H rb t s N A:=⟨_,rfl⟩
  rw [← hR]
  unfold Ts2 at hR
  have hT8 : 2 ^ t≤8:=Nat.pow_le_pow_right (n:=2) (by omega) ht
  have hNT : A.acc.length * 2 ^ t≤800000:=by have:=Nat.mul_le_mul hn hT8; omega
  obtain ⟨hX,hXl,hXL⟩:=rightS_ok hok hs
  obtain ⟨K1,n2,n3,n4,u,w,oH,hu,hw,⟨e0,e2,e3,e4,-⟩,o⟩:=hh
  simp only [] at e0 e2 e3 e4
  obtain ⟨X,hXd⟩ : ∃ X,X = rightS t A s:=⟨_,rfl⟩
  rw [← hXd] at hu hw hX hXl hR hstop hgo o e4
  simp [ir102,BCode.hd,BCode.tl]
  obtain ⟨I,hI⟩ : ∃ I : Nat→Env→BH→Prop,I = (fun k e K => e 6 = encN (countN X k)∧∃ cv,e 4 = cv∧Own base K1 K [(some n3,.arr 25 [encN t,encN 0,u,w])]∧Rd K 2 cv ((classN X k).map encN)):=⟨_,rfl⟩
  refine wpC_countK N [(0,.ptr rb 0),(2,.ptr n2 0),(3,.ptr n3 0)] I (i0:=0) ?_ ?_ ?_ (Nat.zero_le _) ?_
  · rfl
  · simp [e0,e2,e3]
  · rw [hI]
    exact ⟨rfl,.sl n4 0 X.acc.length,by simp [e4],o.tail,o.rd 0 rfl (by rw [List.length_map,classN_len]; rfl)⟩
  clear e0 e2 e3 e4 o
  rintro k e K hk ⟨e0,e2,e3,-⟩ hh
  rw [hI] at hh
  obtain ⟨e6,cv,e4,o,hcv⟩:=hh
  simp only [] at e0 e2 e3
  have hP : RdP K n3 t 0 X:=⟨u,w,o.at 0 rfl,hu.keeps o.keeps,hw.keeps o.keeps⟩
  have hw3:=wd_3 ht
  simp [e3,e4]
  refine (s_finer (base:=base) t 0 n3 (wd t) X (classN X k) cv K hP hX (by omega) hcv (classN_len k) (by omega)).step fun v K2 k2 hv => ?_
  obtain ⟨y,bo,rfl,hy,hfr⟩:=hv
  have o2:=o.call k2
  have hcn : (kindsA X (classN X k)).length = countN X (k + 1):=rfl
  rw [hcn]
  by_cases hkN : k < N
  · have hne:=hgo k hkN
    have hne' : ((countN X (k + 1) : Int) == (countN X k : Int)) = false:=by simp; omega
    simp [e6,hne',hkN]
    rw [hI]
    exact ⟨by simp,y,by simp,o2,hy.rd⟩
  · have hkE : k = N:=by omega
    subst hkE
    simp [e6,hstop]
    rw [hR]
    exact ⟨K1,n2,n3,y,u,w,oH,hu,hw,by simp [e0,e2,e3,e6],o2,hy.rd⟩
theorem tidied_p3 (t s rb N : Nat) (ht : t≤3) (A : Aut) (H : BH) (h : RdP H rb t s A) (hok : A.Ok (wd t)) (hs : s < A.acc.length) (hn : A.acc.length≤100000)
    (hstop : countN (rightS t A s) (N + 1) = countN (rightS t A s) N) (e : Env) (K : BH) (hh : Ts2 base H rb t s N A e K) :
    wpC base (Runs (gam base)) ((ir102.body.tl 4).tl 2) (fun x e' K => (x = .normal∨x = .ret)∧∃ v,resOf ir102.results e' K = some v∧H.Keeps K∧OwnRel base H K t 0 (TA t (A.lang s)) v) e K:=by
  obtain ⟨hX,hXl,hXL⟩:=rightS_ok hok hs
  have hM:=merged_of hX hstop
  have hTA : mergedA (wd t) (rightS t A s) (classN (rightS t A s) (N + 1)) 0 = TA t (A.lang s):=TA_of_merged hM hX hX.pos hXL
  rw [← hTA]
  obtain ⟨R,hR⟩ : ∃ R : BV→BH→Prop,R = fun v K => H.Keeps K∧OwnRel base H K t 0 (mergedA (wd t) (rightS t A s) (classN (rightS t A s) (N + 1)) 0) v:=⟨_,rfl⟩
  have hR' : (fun (x : BExit) (e' : Env) (K : BH) => (x = .normal∨x = .ret)∧∃ v,resOf ir102.results e' K = some v∧H.Keeps K∧OwnRel base H K t 0 (mergedA (wd t) (rightS t A s) (classN (rightS t A s) (N + 1)) 0) v) = fun x e' K => (x = .normal∨x = .ret)∧∃ v,resOf ir102.results e' K = some v∧R v K:=by rw [hR]
  rw [hR']
  obtain ⟨u0,x0,hr0,_,_⟩:=h
  have hT8 : 2 ^ t≤8:=Nat.pow_le_pow_right (n:=2) (by omega) ht
  have hNT : A.acc.length * 2 ^ t≤800000:=by have:=Nat.mul_le_mul hn hT8; omega
  have hw3:=wd_3 ht
  obtain ⟨K1,n2,n3,cv,u,w,oH,hu,hw,⟨e0,e2,e3,e4,e6,-⟩,o,hcv⟩:=hh
  simp only [] at e0 e2 e3 e4 e6
  obtain ⟨X,hXd⟩ : ∃ X,X = rightS t A s:=⟨_,rfl⟩
  rw [← hXd] at hu hw hX hXl hR hstop e6 hM hcv
  obtain ⟨cnt,hcnt⟩ : ∃ cnt,cnt = countN X N:=⟨_,rfl⟩
  rw [← hcnt] at hstop e6
  obtain ⟨G,hG⟩ : ∃ G,G = classN X (N + 1):=⟨_,rfl⟩
  rw [← hG] at hM hcv hR
  have hGl : G.length = X.acc.length:=hM.len
  have hGlt : ∀ q,q < X.acc.length→G.getD q 0 < cnt:=fun q hq => by
    have h1:=finer_lt (X:=X) (g:=classN X N) hq
    rw [hG]
    show (finer X (classN X N)).getD q 0 < _
    have h2 : (kindsA X (classN X N)).length = cnt:=hstop
    omega
  have hcl1 : cnt≤X.acc.length:=by rw [hcnt]; exact countN_lt
  obtain ⟨K2,hK2⟩ : ∃ K2,K2 = K:=⟨_,rfl⟩
  have oH2:=oH.call (o.keeps.trans (by rw [← hK2]; exact BH.Keeps.refl _) : K1.Keeps K2)
  have hr3 : K2.row n3 = .arr 25 [encN t,encN 0,u,w]:=by rw [hK2]; exact o.at 0 rfl
  have hu:=hu.keeps (by rw [hK2]; exact o.keeps : K1.Keeps K2)
  have hw:=hw.keeps (by rw [hK2]; exact o.keeps : K1.Keeps K2)
  have hr0 : K2.row rb = .arr 25 [encN t,encN s,u0,x0]:=by rw [oH2.keeps rb (by rw [hr0]; simp),hr0]
  rw [← hK2] at hcv ⊢
  clear o hK2 oH
  have o:=Own.start (base:=base) (H:=K2)
  simp [ir102,BCode.tl,BCode.hd]
  have c1 : (cnt : Int)≤140737488355328:=by omega
  have c8 : 8 * (cnt : Int)≤140737488355328:=by omega
  simp [e6,c1,c8]
  intro n9 b9 f9
  have o1:=o.new f9 b9 (s:=.arr 2 (List.replicate cnt (.int .i64 0)))
  simp [make_of f9 b9]
  obtain ⟨I,hI⟩ : ∃ I : Nat→Env→BH→Prop,I = (fun i e K => e 10 = encN i∧Own base K2 K [(some n9,.arr 2 ((fillZ cnt (fun _ => -1) i).map encI))]):=⟨_,rfl⟩
  refine wpC_countK cnt [(0,.ptr rb 0),(2,.ptr n2 0),(3,.ptr n3 0),(4,cv),(6,encN cnt),(9,.sl n9 0 cnt)] I (i0:=0) ?_ ?_ ?_ (Nat.zero_le _) ?_
  · rfl
  · simp [e0,e2,e3,e4,e6]
  · rw [hI]
    refine ⟨by simp,?_⟩
    rw [fillZ_zero,repl0Z]
    exact o1
  clear e0 e2 e3 e4 e6 o o1
  rintro i e K hi ⟨e0,e2,e3,e4,e6,e9,-⟩ hh
  rw [hI] at hh
  obtain ⟨e10,o⟩:=hh
  simp only [] at e0 e2 e3 e4 e6 e9
  have wi:=wS (n:=i) (by omega)
  by_cases hlt : i < cnt
  · obtain ⟨K5,g5,o5⟩:=o.put 0 (b:=n9) rfl (j:=i) (u:=.int .i64 (-1)) (by simp [fillZ_len _ hi,hlt]) rfl (rt:=none) rfl
    simp [e6,e9,e10,hlt,g5,wi]
    rw [hI]
    refine ⟨by simp,?_⟩
    rw [← fillZ_set _ hlt]
    simpa [List.map_set] using o5
  have hie : i = cnt:=by omega
  subst hie
  rw [fillZ_all,← numL_nil] at o
  have r1:=rd_keeps o.keeps (rd_ptr hr3 (rt:=none) (j:=1) (c:=encN 0) rfl rfl)
  simp [e3,e6,e9,e10,r1]
  intro n11 b11 f11
  have o2:=o.new f11 b11 (s:=.arr 2 [encN 0])
  have r1':=rd_keeps o2.keeps (rd_ptr hr3 (rt:=none) (j:=1) (c:=encN 0) rfl rfl)
  have h0G : 0 < G.length:=by rw [hGl]; exact hX.pos
  have hG0:=(hcv.keeps o2.keeps).at h0G (rt:=none) rfl
  have hg0 : G.getD 0 0 = G[0]:=by simp [h0G]
  have hg0l : G[0] < i:=by rw [← hg0]; exact hGlt 0 hX.pos
  obtain ⟨K4,g4,o4⟩:=o2.put 1 (b:=n9) rfl (j:=G[0]) (u:=encI 0) (by simp [numL_len,hg0l]) rfl (rt:=none) rfl
  have g4' : (K.set n11 (.arr 2 [.int .i64 0])).wr base none 1 (.ptr n9 G[0]) (.int .i64 0) = some K4:=g4
  have r1'' : (K.set n11 (.arr 2 [.int .i64 0])).rd none none (.ptr n3 1) = some (encN 0):=r1'
  have hG0' : (K.set n11 (.arr 2 [.int .i64 0])).rd none none (cv.sat 0 1) = some (encN G[0]):=hG0
  have r0:=rd_keeps o4.keeps (rd_ptr hr0 (rt:=none) (j:=0) (c:=encN t) rfl rfl)
  simp [make_of f11 b11,e0,e3,e4,e9,r1'',hcv.isSl,hcv.lenM,h0G,hG0',hg0l,g4',r0]
  intro n12 b12 f12
  obtain ⟨K6,g6,o6⟩:=(o4.new f12 b12 (s:=.arr 25 [.int .i64 0,.int .i64 0,.nils,.nils])).putAll 0 (b:=n12) (n:=4) (ds:=[encN t,.int .i64 0,.nils,.nils]) rfl rfl rfl rfl (rt:=none) rfl
  simp [make_of f12 b12,g6]
  have hset:=numL_set (N:=i) (ks:=[]) hg0l (by simp)
  rw [List.nil_append] at hset
  have o7 : Own base K2 K6 [(some n12,.arr 25 [encN t,.int .i64 0,.nils,.nils]),(some n11,.arr 2 [encN 0]),(some n9,.arr 2 ((numL i [G[0]]).map encI))]:=by
    rw [← hset]
    simpa [List.map_set] using o6
  -- one state for each class
  have hcl:=hM.closed hX hX.pos
  rw [hg0] at hcl
  have hdone:=hcl.done
  obtain ⟨KS,hKS⟩ : ∃ KS,KS = metL (succs (wd t) (nxG X G)) G[0] G.length:=⟨_,rfl⟩
  have hKl : KS.length≤G.length:=by rw [hKS]; exact hcl.len _
  have pre : ∀ i,metL (succs (wd t) (nxG X G)) G[0] i <+: KS:=fun i => by
    rcases Nat.le_total i G.length with h | h
    · rw [hKS]; exact met_pre h
    · rw [hdone.eq h,hKS]; exact List.prefix_refl _
  have hlen : ∀ i,(metL (succs (wd t) (nxG X G)) G[0] i).length≤G.length:=fun i => hcl.len i
  obtain ⟨J,hJ⟩ : ∃ J : Nat→Env→BH→Prop,J = (fun j e K => e 13 = encN j∧∃ v11 lo u' w' bo wo vs fr,∃ ls : List Nat,e 11 = v11∧ls.map (fun q => G.getD q 0) = metL (succs (wd t) (nxG X G)) G[0] j∧(∀ q∈ls,q < X.acc.length)∧j≤ls.length ∧
      Own base K2 K ([(wo,.arr 36 vs),(bo,.arr 4 (((KS.take j).map (accG X G)).map encB)),(some n12,.arr 25 [encN t,.int .i64 0,u',w']),(lo,.arr 2 (ls.map encN)),(some n9,.arr 2 ((numL i (metL (succs (wd t) (nxG X G)) G[0] j)).map encI))]++fr) ∧
      Vec lo v11 ls.length∧Vec bo u' j∧Vec wo w' j∧vs.length = j∧RowsOf 2 vs fr (((KS.take j).map fun k => rowU KS (nxG X G) k (wd t)).map (·.map encN))):=⟨_,rfl⟩
  refine wpC_countK G.length [(2,.ptr n2 0),(3,.ptr n3 0),(4,cv),(9,.sl n9 0 i),(12,.ptr n12 0)] J (i0:=0) ?_ ?_ ?_ (Nat.zero_le _) ?_
  · rfl
  · simp [e2,e3,e4,e9]
  · rw [hJ]
    refine ⟨by simp,.sl n11 0 1,some n11,.nils,.nils,none,none,[],[],[0],by simp,by simp [metL,h0G],by simp; exact hX.pos,Nat.zero_le _,?_,rfl,Vec.none,Vec.none,rfl,trivial⟩
    exact (o7.nil (.arr 4 [])).nil (.arr 36 [])
  clear e0 e2 e3 e4 e6 e9 e10 o o2 o4 o6 o7 r0 r1 r1' r1'' hG0 hG0'
  rintro j e K hj ⟨e2,e3,e4,e9,e12,-⟩ hh
  rw [hJ] at hh
  obtain ⟨e13,v11,lo,u',w',bo,wo,vs,fr,ls,e11,hls,hlsn,hjl,o,hv11,hu',hw',hvs,hrows⟩:=hh
  simp only [] at e2 e3 e4 e9 e12
  have wj:=wS (n:=j) (by omega)
  have hlsl : ls.length = (metL (succs (wd t) (nxG X G)) G[0] j).length:=by rw [← hls,List.length_map]
  by_cases hjt : j < ls.length
  · have hjG : j < G.length:=by have:=hlen j; omega
    obtain ⟨q,hq⟩ : ∃ q,q = ls[j]:=⟨_,rfl⟩
    have hqn : q < X.acc.length:=by rw [hq]; exact hlsn _ (List.getElem_mem hjt)
    have hkj : (metL (succs (wd t) (nxG X G)) G[0] j)[j]? = some (G.getD q 0):=by rw [← hls,List.getElem?_map,List.getElem?_eq_getElem hjt,hq]; rfl
    have hKSj : KS[j]? = some (G.getD q 0):=by
      obtain ⟨r,hr⟩:=pre j
      rw [← hr,List.getElem?_append_left (by omega)]
      exact hkj
    have hjKS : j < KS.length:=(List.getElem?_eq_some_iff.1 hKSj).1
    have hnext : metL (succs (wd t) (nxG X G)) G[0] (j + 1) = lsU (metL (succs (wd t) (nxG X G)) G[0] j) (nxG X G) (G.getD q 0) (wd t):=by rw [metL,hkj]; rfl
    have hpre : ∀ c,c≤wd t→lsU (metL (succs (wd t) (nxG X G)) G[0] j) (nxG X G) (G.getD q 0) c <+: KS:=fun c hc => (lsU_pre hc).trans (by rw [← hnext]; exact pre (j + 1))
    have hqn' : q < X.nxt.length:=by rw [hX.len]; exact hqn
    obtain ⟨ri,hri,hrr⟩:=hw.at hqn'
    have hrr:=hrr none rfl
    have hrow:=hX.row _ (List.getElem_mem hqn')
    simp [e11,e13,hv11.isSl,hv11.len,hjt]
    intro n14 b14 f14
    simp [make_of f14 b14]
    have o1:=o.new f14 b14 (s:=.arr 2 [])
    obtain ⟨P,hP⟩ : ∃ P : Nat→Env→BH→Prop,P = (fun c e K => e 15 = encN c∧∃ v11 v14 lo ro,∃ ls2 : List Nat,e 11 = v11∧e 14 = v14∧ls2.map (fun q => G.getD q 0) = lsU (metL (succs (wd t) (nxG X G)) G[0] j) (nxG X G) (G.getD q 0) c∧(∀ q∈ls2,q < X.acc.length)∧ls2[j]? = some q ∧
      Own base K2 K ([(ro,.arr 2 ((rowU KS (nxG X G) (G.getD q 0) c).map encN)),(wo,.arr 36 vs),(bo,.arr 4 (((KS.take j).map (accG X G)).map encB)),(some n12,.arr 25 [encN t,.int .i64 0,u',w']),(lo,.arr 2 (ls2.map encN)),
        (some n9,.arr 2 ((numL i (lsU (metL (succs (wd t) (nxG X G)) G[0] j) (nxG X G) (G.getD q 0) c)).map encI))]++fr)∧Vec lo v11 ls2.length∧Vec ro v14 c):=⟨_,rfl⟩
    refine wpC_countK (wd t) [(2,.ptr n2 0),(3,.ptr n3 0),(4,cv),(9,.sl n9 0 i),(12,.ptr n12 0),(13,encN j)] P (i0:=0) ?_ ?_ ?_ (Nat.zero_le _) ?_
    · rfl
    · simp [e2,e3,e4,e9,e12,e13]
    · rw [hP]
      exact ⟨by simp,v11,.sl n14 0 0,lo,some n14,ls,by simp [e11],by simp,hls,hlsn,by rw [List.getElem?_eq_getElem hjt,hq],o1,hv11,rfl⟩
    clear e2 e3 e4 e9 e11 e12 e13 o o1
    rintro c e M hc ⟨e2,e3,e4,e9,e12,e13,-⟩ hh
    rw [hP] at hh
    obtain ⟨e15,v11,v14,lo,ro,ls2,e11,e14,hls2,hlsn2,hjq,o,hv11,hv14⟩:=hh
    simp only [] at e2 e3 e4 e9 e12 e13
    have wc:=wS (n:=c) (by omega)
    have hj2 : j < ls2.length:=(List.getElem?_eq_some_iff.1 hjq).1
    have hjq' : ls2[j] = q:=by rw [List.getElem?_eq_getElem hj2] at hjq; simpa using hjq
    have hrl:=(o.rd 4 rfl (v:=v11) (by simpa using hv11)).at hj2 (rt:=none) rfl
    rw [hjq'] at hrl
    have r3:=rd_keeps o.keeps (rd_ptr hr3 (rt:=none) (j:=3) (c:=w) rfl rfl)
    have hrr':=rd_keeps o.keeps hrr
    simp [e3,e15,r3,e11,e13,hv11.isSl,hv11.len,hj2,hrl,hw.isSl,hw.len,hqn',hrr',hri.isSl,hri.lenM,hrow.1]
    by_cases hcw : c < wd t
    · have hcr : c < X.nxt[q].length:=by rw [hrow.1]; exact hcw
      obtain ⟨z,hz⟩ : ∃ z,z = X.to q c:=⟨_,rfl⟩
      have hz1 : z < X.acc.length:=by rw [hz]; exact hX.to hqn hcw
      have hzr : X.nxt[q][c] = z:=by
        obtain ⟨r,g1,g2,g3⟩:=row_get hX hqn hcw
        have h1 : X.nxt.getD q [] = X.nxt[q]:=by simp [hqn']
        rw [h1] at g1
        subst g1
        rw [List.getElem?_eq_getElem hcr] at g3
        rw [hz]
        simpa using g3
      have hrc:=(hri.keeps o.keeps).at hcr (rt:=none) rfl
      rw [hzr] at hrc
      have hzG : z < G.length:=by omega
      have hgz:=(hcv.keeps o.keeps).at hzG (rt:=none) rfl
      have hgz' : G.getD z 0 = G[z]:=by simp [hzG]
      obtain ⟨gz,hgzd⟩ : ∃ gz,gz = G[z]:=⟨_,rfl⟩
      rw [← hgzd] at hgz hgz'
      have hgzi : gz < i:=by rw [← hgz']; exact hGlt z hz1
      have hnx : nxG X G (G.getD q 0) c = gz:=by rw [hM.to hX hqn hcw,← hz,hgz']
      obtain ⟨lk,hlk⟩ : ∃ lk,lk = lsU (metL (succs (wd t) (nxG X G)) G[0] j) (nxG X G) (G.getD q 0) c:=⟨_,rfl⟩
      have hsu:=lsU_succ (ks:=metL (succs (wd t) (nxG X G)) G[0] j) (nx:=nxG X G) (k:=G.getD q 0) c
      rw [← hlk,hnx] at hsu
      have hlsp:=hpre c hc
      have hlsp1:=hpre (c + 1) hcw
      rw [← hlk] at o hls2 hlsp
      rw [hsu] at hlsp1
      have hll:=hlsp.length_le
      have hlkl : ls2.length = lk.length:=by rw [← hls2,List.length_map]
      have hrn:=rd_ptr (o.at 5 (b:=n9) rfl) (rt:=none) (j:=gz) (c:=encI (if gz∈lk then ((pos lk gz : Nat) : Int) else -1)) rfl (by
        rw [List.getElem?_map,List.getElem?_eq_getElem (by rw [numL_len]; exact hgzi),numL_get hgzi]
        rfl)
      have hrs:=rowU_succ (nx:=nxG X G) (k:=G.getD q 0) KS c
      rw [hnx] at hrs
      simp [hcw,e3,r3,e11,e13,hv11.isSl,hv11.len,hj2,hrl,hw.isSl,hw.len,hqn',hrr',hri.isSl,hri.lenM,hrow.1,e15,hrc,e4,hcv.isSl,hcv.lenM,hzG,hgz,e9,hgzi,hrn]
      by_cases hm : gz∈lk
      · have hadd : addK lk gz = lk:=by unfold addK; rw [if_pos hm]
        rw [hadd] at hsu
        have hpos : pos lk gz = pos KS gz:=(idx_pre hlsp hm).symm
        have hnn : ¬ ((pos KS gz : Int) < 0):=by omega
        simp [hm,hpos] at hrn
        simp [hm,hpos,hnn,e14,e9,e4,hcv.isSl,hcv.lenM,hzG,hgz,hgzi,hrn]
        intro n1 b1 f1
        simp [make_of f1 b1]
        intro n4 b4 f4
        obtain ⟨v',K',b',q1,q2,q3⟩:=o.push 0 rfl (v:=v14) (by simpa [rowU_len] using hv14) (x:=encN (pos KS gz)) (bytes:=8) rfl (by simp [rowU_len]; omega) (by simp [rowU_len]; omega) f1 b1 f4 b4
        simp [q1,e15,wc,hcw]
        rw [hP]
        refine ⟨by simp,v11,v',lo,some b',ls2,by simp [e11],by simp,by rw [hsu]; exact hls2,hlsn2,hjq,?_,hv11,by simpa [rowU_len] using q3⟩
        rw [hsu,hrs]
        simpa using q2
      · have hadd : addK lk gz = lk++[gz]:=by unfold addK; rw [if_neg hm]
        rw [hadd] at hsu hlsp1
        have hl1:=hlsp1.length_le
        simp at hl1
        have hpos : lk.length = pos KS gz:=by rw [← idx_new hm,hadd]; exact (idx_pre hlsp1 (by simp)).symm
        simp [hm] at hrn
        obtain ⟨K5,g5,o5⟩:=o.put 5 (b:=n9) rfl (j:=gz) (u:=encI (lk.length : Nat)) (by simp [numL_len,hgzi]) rfl (rt:=none) rfl
        have g5' : M.wr base none 1 (.ptr n9 gz) (.int .i64 (lk.length : Nat)) = some K5:=g5
        have hset2:=numL_set hgzi hm
        simp [hm,e9,e4,hcv.isSl,hcv.lenM,hzG,hgz,hgzi,hrn,e11,hv11.isSl,hv11.len,hlkl,g5']
        intro n1 b1 f1
        simp [make_of f1 b1]
        intro n4 b4 f4
        obtain ⟨v',K',b',q1,q2,q3⟩:=o5.push 4 rfl (v:=v11) (by simpa using hv11) (x:=encN z) (bytes:=8) rfl (by simp; omega) (by simp; omega) f1 b1 f4 b4
        have hrn2:=rd_ptr (q2.at 5 (b:=n9) rfl) (rt:=none) (j:=gz) (c:=encN (pos KS gz)) rfl (by
          rw [hpos]
          simp [numL_len,hgzi])
        have hgz2:=(hcv.keeps q2.keeps).at hzG (rt:=none) rfl
        rw [← hgzd] at hgz2
        simp [q1,e14,e9,e4,hcv.isSl,hcv.lenM,hzG,hgz2,hgzi,hrn2]
        intro n5' b5' f5'
        simp [make_of f5' b5']
        intro n6 b6 f6
        obtain ⟨v'',K'',b'',p1,p2,p3⟩:=q2.push 0 rfl (v:=v14) (by simpa [rowU_len] using hv14) (x:=encN (pos KS gz)) (bytes:=8) rfl (by simp [rowU_len]; omega) (by simp [rowU_len]; omega) f5' b5' f6 b6
        simp [p1,e15,wc,hcw]
        rw [hP]
        refine ⟨by simp,v',v'',some b',some b'',ls2++[z],by simp,by simp,by rw [hsu,List.map_append,hls2]; simp only [List.map_cons,List.map_nil,hgz'],fun y hy => ?_,by rw [List.getElem?_append_left hj2]; exact hjq,?_,by simpa using q3,by simpa [rowU_len] using p3⟩
        · rcases List.mem_append.1 hy with hy | hy
          · exact hlsn2 y hy
          · rw [List.mem_singleton] at hy; omega
        · rw [hsu,hrs,← hset2]
          simpa [List.map_set] using p2
    · have hce : c = wd t:=by omega
      subst hce
      rw [← hnext] at o hls2
      have u1:=rd_ptr (o.at 3 (b:=n12) rfl) (rt:=none) (j:=2) (c:=u') rfl rfl
      have ra:=rd_keeps o.keeps (rd_ptr hr3 (rt:=none) (j:=2) (c:=u) rfl rfl)
      have rq:=(hu.keeps o.keeps).at hqn (rt:=none) rfl
      have hga : accG X G (G.getD q 0) = X.acc[q]:=by rw [hM.acc hqn]; simp [hqn]
      have hl2l : ls2.length = (metL (succs (wd t) (nxG X G)) G[0] (j + 1)).length:=by rw [← hls2,List.length_map]
      simp [e12,u1,e3,ra,hu.isSl,hu.lenM,hqn,rq,e11,e13,hv11.isSl,hv11.len,hj2,hrl]
      intro n1 b1 f1
      simp [make_of f1 b1]
      intro n4 b4 f4
      have hti : (KS.take j).length = j:=by simp; omega
      obtain ⟨v',K3,b',q1,o2,q3⟩:=o.push 2 rfl (v:=u') (by simp only [List.length_map,hti]; exact hu') (x:=encB X.acc[q]) (bytes:=1) rfl (by simp; omega) (by simp; omega) f1 b1 f4 b4
      obtain ⟨K4,q2,o3⟩:=o2.put 3 (b:=n12) rfl (j:=2) (u:=v') (by simp) q3.one (rt:=none) rfl
      have u2:=rd_ptr (o3.at 3 (b:=n12) rfl) (rt:=none) (j:=3) (c:=w') rfl rfl
      have h14:=hv14.one
      simp [q1,q2,e12,u2,e14,h14,cells_one h14]
      intro n5' b5' f5'
      simp [make_of f5' b5']
      intro n6 b6 f6
      obtain ⟨w2,K5,c',p1,o4,p3⟩:=o3.push 1 rfl (v:=w') (by rw [hvs]; exact hw') (x:=v14) (bytes:=24) h14 (by omega) (by omega) f5' b5' f6 b6
      obtain ⟨K7,p2,o5⟩:=o4.put 3 (b:=n12) rfl (j:=3) (u:=w2) (by simp) p3.one (rt:=none) rfl
      simp [p1,p2,e12,e13,wj,hjG]
      rw [hJ]
      have hta : (KS.take (j + 1)).map (accG X G) = (KS.take j).map (accG X G)++[X.acc[q]]:=by
        rw [List.take_add_one,hKSj,List.map_append,← hga]
        rfl
      have htr : ((KS.take (j + 1)).map fun k => rowU KS (nxG X G) k (wd t)).map (·.map encN) = ((KS.take j).map fun k => rowU KS (nxG X G) k (wd t)).map (·.map encN)++[(rowU KS (nxG X G) (G.getD q 0) (wd t)).map encN]:=by rw [List.take_add_one,hKSj]; simp
      have hin : j + 1≤ls2.length:=by omega
      refine ⟨by simp,v11,lo,v',w2,some b',some c',vs++[v14],fr++[(ro,.arr 2 ((rowU KS (nxG X G) (G.getD q 0) (wd t)).map encN))],ls2,by simp [e11],hls2,hlsn2,hin,?_,hv11,?_,?_,by simp [hvs],?_⟩
      · refine Own.last (p:=(ro,.arr 2 ((rowU KS (nxG X G) (G.getD q 0) (wd t)).map encN))) (F:=[(some c',.arr 36 (vs++[v14])),(some b',.arr 4 (((KS.take (j + 1)).map (accG X G)).map encB)),(some n12,.arr 25 [encN t,.int .i64 0,v',w2]),(lo,.arr 2 (ls2.map encN)),
          (some n9,.arr 2 ((numL i (metL (succs (wd t) (nxG X G)) G[0] (j + 1))).map encI))]) ?_
        rw [hta]
        simpa using o5
      · simp only [List.length_map,hti] at q3
        exact q3
      · rw [hvs] at p3
        exact p3
      · rw [htr]
        exact hrows.snoc (by simpa [rowU_len] using hv14)
  · have hje : j = (metL (succs (wd t) (nxG X G)) G[0] j).length:=by omega
    have hdj : Done (wd t) (nxG X G) G[0] j:=by unfold Done DoneL; omega
    have hKj : metL (succs (wd t) (nxG X G)) G[0] j = KS:=by
      rw [hKS]
      exact DoneL.same hdj hdone
    rw [hKj] at hje o
    have htk : KS.take j = KS:=by rw [hje,List.take_length]
    rw [htk] at o hrows
    have hme : mergedA (wd t) X G 0 = autOf (wd t) (nxG X G) (accG X G) KS:=by
      unfold mergedA
      rw [hg0,← hKS]
    have r9:=rd_all (o.at 2 (b:=n12) rfl) (n:=4) (rt:=none) rfl rfl
    have oj:=Own.join oH2 o.keeps o
    obtain ⟨K9,g9,o9⟩:=oj.putAll 0 (b:=n2) (n:=4) (ds:=[encN t,.int .i64 0,u',w']) rfl rfl rfl (by simp [hu'.one,hw'.one]) (rt:=none) rfl
    have r10:=rd_all (o9.at 0 (b:=n2) rfl) (n:=4) (rt:=none) rfl rfl
    simp [e11,e13,hv11.isSl,hv11.len,hjt,e12,r9,e2,g9,r10]
    rw [hR]
    refine ⟨o9.keeps,?_⟩
    rw [hme]
    have o10 : Own base H K9 ([(wo,.arr 36 vs),(bo,.arr 4 ((KS.map (accG X G)).map encB))]++fr):=o9.sub (.cons _ (.cons_cons _ (.cons_cons _ (.cons _ (.cons _ (.cons _ (List.Sublist.refl _)))))))
    exact ⟨u',w',bo,wo,vs,fr,rfl,o10.perm (List.Perm.swap _ _ _),by simpa [autOf,← hje] using hu',by rw [hvs]; exact hw',by simpa [autOf,rowU] using hrows⟩
theorem s_tidied (t s rb : Nat) (ht : t≤3) (A : Aut) (H : BH) (h : RdP H rb t s A) (hok : A.Ok (wd t)) (hs : s < A.acc.length) (hn : A.acc.length≤100000) :
    FnDoes (gam base) 102 [.ptr rb 0] H fun v K => OwnRel base H K t 0 (TA t (A.lang s)) v:=by
  refine FnDoes.of (fn:=ir102) rfl ?_
  obtain ⟨hX,hXl,hXL⟩:=rightS_ok hok hs
  obtain ⟨N,hN,hstop,hgo⟩:=stop_exists hX
  refine wpC_part 4 (Ts1 base H rb t s A) (tidied_p1 t s rb ht A H h hok hs hn _) fun e K h1 => ?_
  refine wpC_part 2 (Ts2 base H rb t s N A) (tidied_p2 t s rb N ht A H hok hs hn hstop hgo _ e K h1) fun e K h2 => ?_
  exact tidied_p3 t s rb N ht A H h hok hs hn hstop e K h2
def RdRaw (H : BH) (T S : Int) (acc : List Bool) (rows : List (List Int)) (m : BV) : Prop:=∃ u w,m = .agg [.int .i64 T,.int .i64 S,u,w]∧Rd H 4 u (acc.map encB)∧RdR H 36 2 w encI rows
theorem RdRaw.keeps {H K : BH} {T S : Int} {acc : List Bool} {rows : List (List Int)} {m : BV} (h : RdRaw H T S acc rows m) (k : H.Keeps K) : RdRaw K T S acc rows m:=by
  obtain ⟨u,w,h1,h2,h3⟩:=h
  exact ⟨u,w,h1,h2.keeps k,h3.keeps k⟩
def rowB (T n : Int) (r : List Int) : Bool:=decide ((r.length : Int) = (wd T.toNat : Int)) && r.all fun x => inB x 0 (n - 1)
def formB (T S : Int) (acc : List Bool) (rows : List (List Int)) : Bool:=inB T 1 3 && (decide (1≤(acc.length : Int)) && (inB S 0 (acc.length - 1) && (decide ((rows.length : Int) = (acc.length : Int)) && rows.all (rowB T acc.length))))
def validB (T S : Int) (acc : List Bool) (rows : List (List Int)) : Bool:=decide ((acc.length : Int)≤150) && formB T S acc rows
theorem valid_alt (T S : Int) (acc : List Bool) (rows : List (List Int)) : validB T S acc rows = (inB T 1 3 && (inB acc.length 1 150 && (decide ((rows.length : Int) = (acc.length : Int)) && (inB S 0 (acc.length - 1) && rows.all (rowB T acc.length))))):=by
  unfold validB formB inB
  generalize rows.all (rowB T acc.length) = a
  generalize decide ((acc.length : Int)≤150) = b1
  generalize decide (1≤T) = b2
  generalize decide (T≤3) = b3
  generalize decide (1≤(acc.length : Int)) = b4
  generalize decide (0≤S) = b5
  generalize decide (S≤(acc.length : Int) - 1) = b6
  generalize decide ((rows.length : Int) = (acc.length : Int)) = b7
  cases a <;> cases b1 <;> cases b2 <;> cases b3 <;> cases b4 <;> cases b5 <;> cases b6 <;> cases b7 <;> rfl
theorem RdRel.raw {H : BH} {t s : Nat} {A : Aut} {m : BV} (h : RdRel H t s A m) : RdRaw H t s A.acc (A.nxt.map (·.map fun (q : Nat) => (q : Int))) m:=by
  obtain ⟨u,w,h1,h2,vs,h3,h4,h5⟩:=h
  refine ⟨u,w,h1,h2,vs,h3,by simpa using h4,fun i y xs hy hx => ?_⟩
  rw [List.getElem?_map,Option.map_eq_some_iff] at hx
  obtain ⟨ys,hys,rfl⟩:=hx
  have:=h5 i y ys hy hys
  rw [List.map_map]
  exact this
theorem ok_valid {t s : Nat} {A : Aut} (h1 : 1≤t) (ht : t≤3) (hok : A.Ok (wd t)) (hs : s < A.acc.length) (hn : A.acc.length≤150) : validB t s A.acc (A.nxt.map (·.map fun (q : Nat) => (q : Int))) = true:=by
  have hl:=hok.len
  unfold validB formB inB
  simp only [Bool.and_eq_true,decide_eq_true_eq,List.all_eq_true]
  refine ⟨by omega,⟨by omega,by omega⟩,by omega,⟨by omega,by omega⟩,by rw [List.length_map]; omega,fun r hr => ?_⟩
  obtain ⟨r',hr',rfl⟩:=List.mem_map.1 hr
  have:=hok.row r' hr'
  unfold rowB
  simp only [Bool.and_eq_true,decide_eq_true_eq,List.all_eq_true]
  refine ⟨by rw [List.length_map,this.1]; simp,fun x hx => ?_⟩
  obtain ⟨q,hq,rfl⟩:=List.mem_map.1 hx
  have:=this.2 q hq
  unfold inB
  simp only [Bool.and_eq_true,decide_eq_true_eq]
  omega
theorem wsub1 {n : Nat} (h : n≤4611686018427387904) : IntKind.i64.wrap ((n : Int) - 1) = (n : Int) - 1:=w64 (by omega) (by omega)
theorem i_valid (T S : Int) (acc : List Bool) (rows : List (List Int)) (m : BV) (H : BH) (h : RdRaw H T S acc rows m) (hn : acc.length≤4611686018427387904) :
    FnDoes (gam base) 58 [m] H fun v _ => v = .bool (validB T S acc rows):=by
  refine FnDoes.of (fn:=ir58) rfl ?_
  obtain ⟨u,x,rfl,hu,hx⟩:=h
  have u1:=hu.one
  have x1:=one_of_isSl hx.isSl
  rw [valid_alt]
  obtain ⟨V,hV⟩ : ∃ V,V = rows.all (rowB T acc.length):=⟨_,rfl⟩
  rw [← hV]
  simp [ir58,u1,x1]
  intro n1 b1 f1
  have o1:=Own.start (base:=base) (H:=H) |>.new f1 b1 (s:=.arr 25 [.int .i64 T,.int .i64 S,u,x])
  have r0:=rd_ptr (o1.at 0 (b:=n1) rfl) (rt:=none) (j:=0) (c:=.int .i64 T) rfl rfl
  have r1:=rd_ptr (o1.at 0 (b:=n1) rfl) (rt:=none) (j:=1) (c:=.int .i64 S) rfl rfl
  have r2:=rd_ptr (o1.at 0 (b:=n1) rfl) (rt:=none) (j:=2) (c:=u) rfl rfl
  have r3:=rd_ptr (o1.at 0 (b:=n1) rfl) (rt:=none) (j:=3) (c:=x) rfl rfl
  have ws:=wsub1 hn
  simp [make_of f1 b1,r0,r2,hu.isSl,hu.lenM]
  refine callP (i_areTapes T _) ?_
  cases h1 : inB T 1 3
  · simp
    exact o1.keeps
  simp
  refine callP (i_within acc.length 1 150 _) ?_
  cases h2 : inB acc.length 1 150
  · simp
    exact o1.keeps
  simp [r3,hx.isSl,hx.len]
  by_cases h3 : rows.length = acc.length
  · have hb3 : ((rows.length : Int) != (acc.length : Int)) = false:=by simp; omega
    simp [h3,r1,ws]
    refine callP (i_within S 0 (acc.length - 1) _) ?_
    cases h4 : inB S 0 (acc.length - 1)
    · simp
      exact o1.keeps
    unfold inB at h1 h2
    simp only [Bool.and_eq_true,decide_eq_true_eq] at h1 h2
    obtain ⟨t,rfl⟩ : ∃ t : Nat,T = t:=⟨T.toNat,by omega⟩
    simp [r3,hx.isSl,hx.len]
    obtain ⟨K1,hK1⟩ : ∃ K1,K1 = H.set n1 (.arr 25 [.int .i64 (t : Int),.int .i64 S,u,x]):=⟨_,rfl⟩
    rw [← hK1] at o1 r0 r3 ⊢
    refine wpC_countK rows.length [(1,.ptr n1 0),(3,encN acc.length),(36,x),(37,encN rows.length)] (fun i e K => e 38 = encN i∧K = K1∧(rows.take i).all (rowB t acc.length) = true) (i0:=0) ?_ ?_ ?_ (Nat.zero_le _) ?_
    · rfl
    · simp [h3]
    · exact ⟨by simp,rfl,by simp⟩
    rintro i e K hi ⟨e1,e3,e36,e37,-⟩ ⟨e38,hK,hall⟩
    subst hK
    simp only [] at e1 e3 e36 e37
    have wi:=wS (n:=i) (by omega)
    by_cases hlt : i < rows.length
    · obtain ⟨ri,hri,hrr⟩:=hx.at hlt
      have hrr:=rd_keeps o1.keeps (hrr none rfl)
      have hri:=hri.keeps o1.keeps
      have hta : (rows.take (i + 1)).all (rowB t acc.length) = ((rows.take i).all (rowB t acc.length) && rowB t acc.length rows[i]):=by rw [List.take_add_one,List.getElem?_eq_getElem hlt,List.all_append]; simp
      have hfa : rowB t acc.length rows[i] = false→rows.all (rowB t acc.length) = false:=fun hf => by
        rw [List.all_eq_false]
        exact ⟨rows[i],List.getElem_mem hlt,by simp [hf]⟩
      simp [e1,e3,e36,e37,e38,hlt,hx.isSl,hx.len,hrr,hri.isSl,hri.lenM,r0]
      refine callP (i_widthOf t K (by omega)) ?_
      by_cases hwl : rows[i].length = wd t
      · have hwb : ((rows[i].length : Int) != (wd t : Int)) = false:=by simp; omega
        simp [hwl,hri.isSl,hri.lenM]
        refine wpC_countK (wd t) [(1,.ptr n1 0),(3,encN acc.length),(36,x),(37,encN rows.length),(38,encN i),(48,ri),(49,encN (wd t))] (fun j e M => e 50 = encN j∧M = K∧(rows[i].take j).all (fun x => inB x 0 (acc.length - 1)) = true) (i0:=0) ?_ ?_ ?_ (Nat.zero_le _) ?_
        · rfl
        · simp [e1,e3,e36,e37,e38]
        · exact ⟨by simp,rfl,by simp⟩
        rintro j e M hj ⟨e1,e3,e36,e37,e38,e48,e49,-⟩ ⟨e50,hM,hallj⟩
        subst hM
        simp only [] at e1 e3 e36 e37 e38 e48 e49
        have wj:=wS (n:=j) (by have:=wd_3 (show t≤3 by omega); omega)
        by_cases hlj : j < wd t
        · have hlj' : j < rows[i].length:=by omega
          have hrj:=hri.at hlj' (rt:=none) rfl
          simp [e48,e49,e50,hlj,hri.isSl,hri.lenM,hlj',hrj,e3,ws]
          refine callP (i_within rows[i][j] 0 (acc.length - 1) M) ?_
          cases hin : inB rows[i][j] 0 (acc.length - 1)
          · simp
            refine ⟨o1.keeps,?_⟩
            have : rowB t acc.length rows[i] = false:=by
              unfold rowB
              rw [Bool.and_eq_false_iff]
              right
              rw [List.all_eq_false]
              exact ⟨rows[i][j],List.getElem_mem hlj',by simp [hin]⟩
            rw [hV,hfa this]
          · simp [e50,wj,hlj]
            have : (rows[i].take (j + 1)).all (fun x => inB x 0 (acc.length - 1)) = true:=by
              rw [List.take_add_one,List.getElem?_eq_getElem hlj',List.all_append,hallj]
              simp [hin]
            simpa using this
        · have hje : j = wd t:=by omega
          subst hje
          rw [← hwl,List.take_length] at hallj
          have hrb : rowB t acc.length rows[i] = true:=by
            unfold rowB
            rw [hallj,Bool.and_true,decide_eq_true_eq]
            simp
            omega
          simp [e49,e50,e38,wi,hlt]
          rw [hall,hrb] at hta
          simpa using hta
      · have hwb : ((rows[i].length : Int) != (wd t : Int)) = true:=by simp; omega
        have hrb : rowB t acc.length rows[i] = false:=by
          unfold rowB
          rw [Bool.and_eq_false_iff]
          left
          simp
          omega
        simp [hwb]
        exact ⟨o1.keeps,by rw [hV,hfa hrb]⟩
    · have hie : i = rows.length:=by omega
      subst hie
      rw [List.take_length] at hall
      simp [e37,e38]
      exact ⟨o1.keeps,by rw [hV,hall]⟩
  · have hb3 : ((rows.length : Int) != (acc.length : Int)) = true:=by simp; omega
    have hb3' : ¬ ((rows.length : Int) = (acc.length : Int)):=by omega
    simp [hb3,hb3']
    exact o1.keeps
def RdRawP (H : BH) (rb : Nat) (T S : Int) (acc : List Bool) (rows : List (List Int)) : Prop:=∃ u x,H.row rb = .arr 25 [.int .i64 T,.int .i64 S,u,x]∧Rd H 4 u (acc.map encB)∧RdR H 36 2 x encI rows
theorem RdRawP.keeps {H K : BH} {rb : Nat} {T S : Int} {acc : List Bool} {rows : List (List Int)} (h : RdRawP H rb T S acc rows) (k : H.Keeps K) : RdRawP K rb T S acc rows:=by
  obtain ⟨u,x,h1,h2,h3⟩:=h
  exact ⟨u,x,by rw [k rb (by rw [h1]; simp),h1],h2.keeps k,h3.keeps k⟩
theorem s_form (rb : Nat) (T S : Int) (acc : List Bool) (rows : List (List Int)) (H : BH) (h : RdRawP H rb T S acc rows) (hn : acc.length≤4611686018427387904) :
    Runs (gam base) 176 [.ptr rb 0] H (.bool (formB T S acc rows)) H:=by
  refine runs_of (fn:=ir176) rfl ?_
  obtain ⟨u,x,hr,hu,hx⟩:=h
  unfold formB
  obtain ⟨V,hV⟩ : ∃ V,V = rows.all (rowB T acc.length):=⟨_,rfl⟩
  rw [← hV]
  have r0:=rd_ptr hr (rt:=none) (j:=0) (c:=.int .i64 T) rfl rfl
  have r1:=rd_ptr hr (rt:=none) (j:=1) (c:=.int .i64 S) rfl rfl
  have r2:=rd_ptr hr (rt:=none) (j:=2) (c:=u) rfl rfl
  have r3:=rd_ptr hr (rt:=none) (j:=3) (c:=x) rfl rfl
  have r3':=rd_ptr hr (rt:=some 25) (j:=3) (c:=x) rfl rfl
  have ws:=wsub1 hn
  simp [ir176,r2,hu.isSl,hu.lenM,r0]
  refine callP (s_in T 1 3 _) ?_
  cases h1 : inB T 1 3
  · simp
  by_cases h2 : 1≤(acc.length : Int)
  · have h2' : ¬ ((acc.length : Int) < 1):=by omega
    have h2n : acc.length≠0:=by omega
    simp [h2',h2n,r1,ws]
    refine callP (s_in S 0 (acc.length - 1) _) ?_
    cases h4 : inB S 0 (acc.length - 1)
    · simp
    by_cases h3 : rows.length = acc.length
    · unfold inB at h1
      simp only [Bool.and_eq_true,decide_eq_true_eq] at h1
      obtain ⟨t,rfl⟩ : ∃ t : Nat,T = t:=⟨T.toNat,by omega⟩
      simp [r3,hx.isSl,hx.len,h3]
      refine wpC_countK rows.length [(0,.ptr rb 0),(3,encN acc.length)] (fun i e K => e 4 = encN i∧K = H∧(rows.take i).all (rowB t acc.length) = true) (i0:=0) ?_ ?_ ?_ (Nat.zero_le _) ?_
      · rfl
      · simp
      · exact ⟨by simp,rfl,by simp⟩
      rintro i e K hi ⟨e0,e3,-⟩ ⟨e4,hK,hall⟩
      subst hK
      simp only [] at e0 e3
      have wi:=wS (n:=i) (by omega)
      by_cases hlt : i < rows.length
      · have hlt2 : i < acc.length:=by omega
        obtain ⟨ri,hri,hrr⟩:=hx.at hlt
        have hrr':=hrr (some 36) rfl
        have hrr:=hrr none rfl
        have hta : (rows.take (i + 1)).all (rowB t acc.length) = ((rows.take i).all (rowB t acc.length) && rowB t acc.length rows[i]):=by rw [List.take_add_one,List.getElem?_eq_getElem hlt,List.all_append]; simp
        have hfa : rowB t acc.length rows[i] = false→rows.all (rowB t acc.length) = false:=fun hf => by
          rw [List.all_eq_false]
          exact ⟨rows[i],List.getElem_mem hlt,by simp [hf]⟩
        simp [e0,e4,r3,r3',hx.isSl,hx.len,h3,hlt2,hrr',hri.isSl,hri.lenM,r0]
        refine callP (s_wide t K (by omega)) ?_
        by_cases hwl : rows[i].length = wd t
        · have hwb : ((rows[i].length : Int) != (wd t : Int)) = false:=by simp; omega
          simp [hwl]
          refine wpC_countK (wd t) [(0,.ptr rb 0),(3,encN acc.length),(4,encN i)] (fun j e M => e 5 = encN j∧M = K∧(rows[i].take j).all (fun x => inB x 0 (acc.length - 1)) = true) (i0:=0) ?_ ?_ ?_ (Nat.zero_le _) ?_
          · rfl
          · simp [e0,e3,e4]
          · exact ⟨by simp,rfl,by simp⟩
          rintro j e M hj ⟨e0,e3,e4,-⟩ ⟨e5,hM,hallj⟩
          subst hM
          simp only [] at e0 e3 e4
          have wj:=wS (n:=j) (by have:=wd_3 (show t≤3 by omega); omega)
          by_cases hlj : j < wd t
          · have hlj' : j < rows[i].length:=by omega
            have hrj:=hri.at hlj' (rt:=none) rfl
            simp [e0,e4,e5,r3,hx.isSl,hx.len,h3,hlt2,hrr,hri.isSl,hri.lenM,hwl,hlj,hlj',hrj,e3,ws]
            refine callP (s_in rows[i][j] 0 (acc.length - 1) M) ?_
            cases hin : inB rows[i][j] 0 (acc.length - 1)
            · have : rowB t acc.length rows[i] = false:=by
                unfold rowB
                rw [Bool.and_eq_false_iff]
                right
                rw [List.all_eq_false]
                exact ⟨rows[i][j],List.getElem_mem hlj',by simp [hin]⟩
              simp
              rw [hV,hfa this]
              intros; rfl
            · simp [e5,wj,hlj]
              have : (rows[i].take (j + 1)).all (fun x => inB x 0 (acc.length - 1)) = true:=by
                rw [List.take_add_one,List.getElem?_eq_getElem hlj',List.all_append,hallj]
                simp [hin]
              simpa using this
          · have hje : j = wd t:=by omega
            subst hje
            rw [← hwl,List.take_length] at hallj
            have hrb : rowB t acc.length rows[i] = true:=by
              unfold rowB
              rw [hallj,Bool.and_true,decide_eq_true_eq]
              simp
              omega
            simp [e0,e4,e5,r3,hx.isSl,hx.len,h3,hlt2,hrr,hri.isSl,hri.lenM,hwl,wi,hlt]
            rw [hall,hrb] at hta
            simpa using hta
        · have hwb : ((rows[i].length : Int) != (wd t : Int)) = true:=by simp; omega
          have hrb : rowB t acc.length rows[i] = false:=by
            unfold rowB
            rw [Bool.and_eq_false_iff]
            left
            simp
            omega
          simp [hwb]
          rw [hV,hfa hrb]
          intros; rfl
      · have hie : i = rows.length:=by omega
        subst hie
        rw [List.take_length] at hall
        simp [e0,e4,r3,hx.isSl,hx.len,h3]
        rw [hV,hall]
        exact ⟨h2,rfl⟩
    · have hb3 : ((rows.length : Int) != (acc.length : Int)) = true:=by simp; omega
      have hb3' : ¬ ((rows.length : Int) = (acc.length : Int)):=by omega
      simp [r3,hx.isSl,hx.len,hb3,hb3']
  · have h2' : (acc.length : Int) < 1:=by omega
    have h2n : acc.length = 0:=by omega
    simp [h2n]
theorem s_ok (rb : Nat) (T S : Int) (acc : List Bool) (rows : List (List Int)) (H : BH) (h : RdRawP H rb T S acc rows) (hn : acc.length≤4611686018427387904) :
    Runs (gam base) 116 [.ptr rb 0] H (.bool (validB T S acc rows)) H:=by
  refine runs_of (fn:=ir116) rfl ?_
  have h0:=h
  obtain ⟨u,x,hr,hu,hx⟩:=h
  have r2:=rd_ptr hr (rt:=none) (j:=2) (c:=u) rfl rfl
  unfold validB
  by_cases h1 : (acc.length : Int)≤150
  · have h1n : acc.length≤150:=by omega
    simp [ir116,r2,hu.isSl,hu.lenM,h1]
    refine callP (s_form rb T S acc rows H h0 hn) ?_
    simp
  · simp [ir116,r2,hu.isSl,hu.lenM,h1]
def pNx (A B : Aut) (p : Nat × Nat) (c : Nat) : Nat × Nat:=(A.to p.1 c,B.to p.2 c)
def pAcc (A B : Aut) (op : Bool→Bool→Bool) (p : Nat × Nat) : Bool:=op (A.acc.getD p.1 false) (B.acc.getD p.2 false)
def pU (a b : Nat) : List (Nat × Nat):=(List.range a).flatMap fun p => (List.range b).map fun q => (p,q)
theorem pU_len (a b : Nat) : (pU a b).length = a * b:=by
  unfold pU
  induction a with
  | zero => simp
  | succ a ih => rw [List.range_succ,List.flatMap_append,List.length_append,ih,Nat.succ_mul]; simp
theorem mem_pU {a b : Nat} {k : Nat × Nat} : k∈pU a b↔k.1 < a∧k.2 < b:=by
  obtain ⟨p,q⟩:=k
  simp [pU]
theorem pU_closed {w : Nat} {A B : Aut} (hA : A.Ok w) (hB : B.Ok w) : Closed w (pNx A B) (0,0) (pU A.acc.length B.acc.length) :=
  ⟨mem_pU.2 ⟨hA.pos,hB.pos⟩,fun k hk c hc => by
    obtain ⟨h1,h2⟩:=mem_pU.1 hk
    exact mem_pU.2 ⟨hA.to h1 hc,hB.to h2 hc⟩⟩
theorem p_lang (A B : Aut) (op : Bool→Bool→Bool) : ∀ (cs : List Nat) (p q : Nat),langK (pNx A B) (pAcc A B op) (p,q) cs = op (A.lang p cs) (B.lang q cs)
  | [],p,q => rfl
  | c::cs,p,q => p_lang A B op cs (A.to p c) (B.to q c)
def pairA (w : Nat) (A B : Aut) (op : Bool→Bool→Bool) : Aut:=autOf w (pNx A B) (pAcc A B op) (metL (succs w (pNx A B)) (0,0) (pU A.acc.length B.acc.length).length)
theorem pairA_ok {w : Nat} {A B : Aut} {op : Bool→Bool→Bool} (hA : A.Ok w) (hB : B.Ok w) : (pairA w A B op).Ok w∧(pairA w A B op).acc.length≤A.acc.length * B.acc.length∧∀ cs,In w cs→(pairA w A B op).lang 0 cs = op (A.lang 0 cs) (B.lang 0 cs):=by
  obtain ⟨h1,h2,h3⟩:=autOf_met (a:=pAcc A B op) (pU_closed hA hB)
  refine ⟨h1,?_,fun cs hcs => (h3 cs hcs).trans (p_lang A B op cs 0 0)⟩
  have h2' : (pairA w A B op).acc.length≤(pU A.acc.length B.acc.length).length:=h2
  rwa [pU_len] at h2'
def encQ (p : Nat × Nat) : List BV:=[encN p.1,encN p.2]
theorem encQ_len (k : Nat × Nat) : (encQ k).length = 2∧∀ c∈encQ k,c.one = true:=⟨rfl,by simp [encQ]⟩
theorem encQ_eq (k l : Nat × Nat) : keyEqM 5 (.agg (encQ k)) (.agg (encQ l)) = some (decide (k = l)):=by
  have h : keyEqM 5 (.agg (encQ k)) (.agg (encQ l)) = intsEq (encQ k) (encQ l):=rfl
  rw [h]
  obtain ⟨q,m⟩:=k
  obtain ⟨q',m'⟩:=l
  by_cases h0 : q = q'
  · subst h0
    by_cases h1 : m = m'
    · subst h1; simp [encQ,intsEq]
    · have h1' : ¬ ((m : Int) = (m' : Int)):=by omega
      simp [encQ,intsEq,h1,h1']
  · have h0' : ¬ ((q : Int) = (q' : Int)):=by omega
    simp [encQ,intsEq,h0,h0']
def Op2 (base : Nat) (H : BH) (f : Nat) (caps : List BV) (op : Bool→Bool→Bool) : Prop:=∀ K,H.Keeps K→∀ a b,FnDoes (gam base) f ([.bool a,.bool b]++caps) K fun v _ => v = .bool (op a b)
theorem i_pairs1 (t : Nat) (A B : Aut) (m1 m2 fb f : Nat) (caps : List BV) (op : Bool→Bool→Bool) (u x u' x' : BV) (H : BH) (hA : Rd H 4 u (A.acc.map encB)) (hB : Rd H 4 u' (B.acc.map encB)) (rm : H.row m1 = .arr 77 [encN t,encN 0,u,x]) (rm' : H.row m2 = .arr 77 [encN t,encN 0,u',x'])
    (tf : Nat) (rf : H.row fb = .arr tf [.fn f caps]) (hop : Op2 base H f caps op) (k : Nat × Nat) (hk : k∈pU A.acc.length B.acc.length) :
    FnDoes (gam base) 244 [.agg (encQ k),.ptr fb 0,.ptr m1 0,.ptr m2 0] H fun v _ => v = .bool (pAcc A B op k):=by
  refine FnDoes.of (fn:=ir244) rfl ?_
  obtain ⟨p,q⟩:=k
  obtain ⟨hp,hq⟩:=mem_pU.1 hk
  simp only at hp hq
  simp [ir244,encQ]
  intro n4 b4 f4
  have o1:=Own.start (base:=base) (H:=H) |>.new f4 b4 (s:=.arr 212 [encN p,encN q])
  have q0:=rd_ptr (o1.at 0 (b:=n4) rfl) (rt:=none) (j:=0) (c:=encN p) rfl rfl
  have q1:=rd_ptr (o1.at 0 (b:=n4) rfl) (rt:=none) (j:=1) (c:=encN q) rfl rfl
  have r1:=rd_keeps o1.keeps (rd_ptr rf (rt:=none) (j:=0) (c:=.fn f caps) rfl rfl)
  have r2:=rd_keeps o1.keeps (rd_ptr rm (rt:=none) (j:=2) (c:=u) rfl rfl)
  have r3:=rd_keeps o1.keeps (rd_ptr rm' (rt:=none) (j:=2) (c:=u') rfl rfl)
  have r4:=(hA.keeps o1.keeps).at hp (rt:=none) rfl
  have r5:=(hB.keeps o1.keeps).at hq (rt:=none) rfl
  simp [make_of f4 b4,r1,r2,q0,hA.isSl,hA.lenM,hp,r4,r3,q1,hB.isSl,hB.lenM,hq,r5]
  refine (hop _ o1.keeps A.acc[p] B.acc[q]).step fun v K1 k1 hv => ?_
  subst hv
  simp [pAcc,hp,hq]
  exact o1.keeps.trans k1
theorem i_pairs2 (t w : Nat) (A B : Aut) (m1 m2 : Nat) (u x u' x' : BV) (H : BH) (hokA : A.Ok w) (hokB : B.Ok w) (hA : RdR H 80 3 x encN A.nxt) (hB : RdR H 80 3 x' encN B.nxt) (rm : H.row m1 = .arr 77 [encN t,encN 0,u,x]) (rm' : H.row m2 = .arr 77 [encN t,encN 0,u',x'])
    (k : Nat × Nat) (hk : k∈pU A.acc.length B.acc.length) (c : Nat) (hc : c < w) :
    FnDoes (gam base) 245 [.agg (encQ k),encN c,.ptr m1 0,.ptr m2 0] H fun v _ => v = .agg (encQ (pNx A B k c)):=by
  refine FnDoes.of (fn:=ir245) rfl ?_
  obtain ⟨p,q⟩:=k
  obtain ⟨hp,hq⟩:=mem_pU.1 hk
  simp only at hp hq
  have cell : ∀ {A : Aut},A.Ok w→∀ {q : Nat},(hq : q < A.acc.length)→∃ h1 : q < A.nxt.length,∃ h2 : c < A.nxt[q].length,A.nxt[q][c] = A.to q c:=by
    intro A hok q hq
    have h1 : q < A.nxt.length:=by rw [hok.len]; exact hq
    obtain ⟨r,g1,g2,g3⟩:=row_get hok hq hc
    have e1 : A.nxt.getD q [] = A.nxt[q]:=by simp [h1]
    rw [e1] at g1
    subst g1
    have h2 : c < A.nxt[q].length:=by omega
    rw [List.getElem?_eq_getElem h2] at g3
    exact ⟨h1,h2,by simpa using g3⟩
  obtain ⟨a1,a2,a3⟩:=cell hokA hp
  obtain ⟨b1',b2',b3'⟩:=cell hokB hq
  obtain ⟨ra,hra,hra2⟩:=hA.at a1
  obtain ⟨rb,hrb,hrb2⟩:=hB.at b1'
  simp [ir245,encQ]
  intro n4 b4 f4
  simp [make_of f4 b4]
  intro n6 b6 f6
  have o1:=Own.start (base:=base) (H:=H) |>.new f4 b4 (s:=.arr 212 [encN p,encN q]) |>.new f6 b6 (s:=.arr 212 [.int .i64 0,.int .i64 0])
  have q0:=rd_ptr (o1.at 1 (b:=n4) rfl) (rt:=none) (j:=0) (c:=encN p) rfl rfl
  have q1:=rd_ptr (o1.at 1 (b:=n4) rfl) (rt:=none) (j:=1) (c:=encN q) rfl rfl
  have r2:=rd_keeps o1.keeps (rd_ptr rm (rt:=none) (j:=3) (c:=x) rfl rfl)
  have r3:=rd_keeps o1.keeps (rd_ptr rm' (rt:=none) (j:=3) (c:=x') rfl rfl)
  have r4:=rd_keeps o1.keeps (hra2 none rfl)
  have r5:=rd_keeps o1.keeps (hrb2 none rfl)
  have r6:=(hra.keeps o1.keeps).at a2 (rt:=none) rfl
  have r7:=(hrb.keeps o1.keeps).at b2' (rt:=none) rfl
  rw [a3] at r6
  rw [b3'] at r7
  obtain ⟨K2,g2,o2⟩:=o1.putAll 0 (b:=n6) (n:=2) (ds:=[encN (A.to p c),encN (B.to q c)]) rfl rfl rfl rfl (rt:=none) rfl
  have r8:=rd_all (o2.at 0 (b:=n6) rfl) (n:=2) (rt:=none) rfl rfl
  simp [make_of f6 b6,r2,q0,hA.isSl,hA.len,a1,r4,hra.isSl,hra.lenM,a2,r6,r3,q1,hB.isSl,hB.len,b1',r5,hrb.isSl,hrb.lenM,b2',r7,g2,r8,pNx]
  exact o2.keeps
theorem i_pairs (t : Nat) (ht : t≤3) (A B : Aut) (ma mb : BV) (f : Nat) (caps : List BV) (op : Bool→Bool→Bool) (H : BH) (hA : RdM H t 0 A ma) (hB : RdM H t 0 B mb) (hokA : A.Ok (wd t)) (hokB : B.Ok (wd t)) (hn : A.acc.length * B.acc.length≤1000000000) (hop : Op2 base H f caps op) :
    FnDoes (gam base) 219 [ma,mb,.fn f caps] H fun v K => OwnM base H K t 0 (pairA (wd t) A B op) v:=by
  refine FnDoes.of (fn:=ir219) rfl ?_
  obtain ⟨u,x,rfl,hu,hx⟩:=hA
  obtain ⟨u',x',rfl,hu',hx'⟩:=hB
  have u1:=hu.one
  have x1:=one_of_isSl hx.isSl
  have u1':=hu'.one
  have x1':=one_of_isSl hx'.isSl
  simp [ir219,u1,x1,u1',x1']
  intro n3 b3 f3
  simp [make_of f3 b3,u1',x1']
  intro n4 b4 f4
  simp [make_of f4 b4]
  intro n5 b5 f5
  simp [make_of f5 b5]
  intro n6 b6 f6
  have o1:=Own.start (base:=base) (H:=H) |>.new f3 b3 (s:=.arr 77 [encN t,encN 0,u,x]) |>.new f4 b4 (s:=.arr 77 [encN t,encN 0,u',x']) |>.new f5 b5 (s:=.arr 165 [.fn f caps]) |>.new f6 b6 (s:=.arr 77 [.int .i64 0,.int .i64 0,.nils,.nils])
  have r0:=rd_ptr (o1.at 3 (b:=n3) rfl) (rt:=none) (j:=0) (c:=encN t) rfl rfl
  have r1:=rd_ptr (o1.at 3 (b:=n3) rfl) (rt:=none) (j:=1) (c:=encN 0) rfl rfl
  have r2:=rd_ptr (o1.at 2 (b:=n4) rfl) (rt:=none) (j:=1) (c:=encN 0) rfl rfl
  obtain ⟨K,hK⟩ : ∃ K,K = (((H.set n3 (.arr 77 [encN t,encN 0,u,x])).set n4 (.arr 77 [encN t,encN 0,u',x'])).set n5 (.arr 165 [.fn f caps])).set n6 (.arr 77 [.int .i64 0,.int .i64 0,.nils,.nils]):=⟨_,rfl⟩
  rw [← hK] at o1 r0 r1 r2
  have grow:=i_grow_pair (base:=base) (κ:=Nat × Nat) encQ encQ_len encQ_eq t ht (0,0) 0 244 245 [.ptr n5 0,.ptr n3 0,.ptr n4 0] [.ptr n3 0,.ptr n4 0] (pNx A B) (pAcc A B op) (pU A.acc.length B.acc.length) (pU_closed hokA hokB) (by rw [pU_len]; exact hn) K
    (fun L kL k hk => i_pairs1 t A B n3 n4 n5 f caps op u x u' x' L (hu.keeps (o1.keeps.trans kL)) (hu'.keeps (o1.keeps.trans kL)) ((o1.call kL).at 3 rfl) ((o1.call kL).at 2 rfl) _ ((o1.call kL).at 1 rfl) (fun M kM => hop M ((o1.keeps.trans kL).trans kM)) k hk)
    (fun L kL k hk c hc => i_pairs2 t (wd t) A B n3 n4 u x u' x' L hokA hokB (hx.keeps (o1.keeps.trans kL)) (hx'.keeps (o1.keeps.trans kL)) ((o1.call kL).at 3 rfl) ((o1.call kL).at 2 rfl) k hk c hc)
  simp [make_of f6 b6]
  rw [← hK]
  simp [r0,r1,r2]
  refine grow.step fun v K1 k1 hv => ?_
  unfold GrowR at hv
  rw [if_neg (by omega)] at hv
  obtain ⟨mm,rfl,hmm⟩:=hv
  obtain ⟨uu,ww,bo,wo,vs,fr,rfl,om,hm1,hm2,hm3⟩:=hmm
  have oj:=Own.join (o1.sub (M:=[(some n6,.arr 77 [.int .i64 0,.int .i64 0,.nils,.nils])]) (.cons_cons _ (.cons _ (.cons _ (.cons _ .slnil))))) k1 om
  simp [hm1.one,hm2.one]
  intro n19 b19 f19
  obtain ⟨K11,g11,o11⟩:=(oj.new f19 b19 (s:=.arr 77 [.int .i64 0,.int .i64 0,.nils,.nils])).putAll 0 (b:=n19) (n:=4) (ds:=[encN t,encN 0,uu,ww]) rfl rfl rfl (by simp [hm1.one,hm2.one]) (rt:=none) rfl
  have q8:=rd_all (o11.at 0 (b:=n19) rfl) (n:=4) (rt:=none) rfl rfl
  obtain ⟨K12,g12,o12⟩:=o11.putAll 1 (b:=n6) (n:=4) (ds:=[encN t,encN 0,uu,ww]) rfl rfl rfl (by simp [hm1.one,hm2.one]) (rt:=none) rfl
  have q9:=rd_all (o12.at 1 (b:=n6) rfl) (n:=4) (rt:=none) rfl rfl
  simp [make_of f19 b19,g11,q8,g12,q9]
  exact ⟨o12.keeps,uu,ww,bo,wo,vs,fr,rfl,o12.drop 2,hm1,hm2,hm3⟩
def prodA (w : Nat) (A B : Aut) (op : Bool→Bool→Bool) : Aut:=⟨(List.range (A.acc.length * B.acc.length)).map fun p => op (A.acc.getD (p / B.acc.length) false) (B.acc.getD (p % B.acc.length) false),
  (List.range (A.acc.length * B.acc.length)).map fun p => (List.range w).map fun c => A.to (p / B.acc.length) c * B.acc.length + B.to (p % B.acc.length) c⟩
section
variable {w : Nat} {A B : Aut} {op : Bool→Bool→Bool}
theorem prod_lt {a m i k : Nat} (h1 : i < a) (h2 : k < m) : i * m + k < a * m:=by
  have : i * m + m≤a * m:=by rw [← Nat.succ_mul]; exact Nat.mul_le_mul_right _ h1
  omega
theorem prodA_len : (prodA w A B op).acc.length = A.acc.length * B.acc.length:=by simp [prodA]
theorem prodA_to {p c : Nat} (hp : p < A.acc.length * B.acc.length) (hc : c < w) : (prodA w A B op).to p c = A.to (p / B.acc.length) c * B.acc.length + B.to (p % B.acc.length) c:=by
  show ((prodA w A B op).nxt.getD p []).getD c 0 = _
  unfold prodA
  simp [hp,hc]
theorem prodA_ok (hA : A.Ok w) (hB : B.Ok w) : (prodA w A B op).Ok w:=by
  refine ⟨by simp [prodA],by rw [prodA_len]; exact Nat.mul_pos hA.pos hB.pos,fun r hr => ?_⟩
  simp only [prodA,List.mem_map,List.mem_range] at hr
  obtain ⟨p,hp,rfl⟩:=hr
  refine ⟨by simp,fun q hq => ?_⟩
  simp only [List.mem_map,List.mem_range] at hq
  obtain ⟨c,hc,rfl⟩:=hq
  rw [prodA_len]
  exact prod_lt (hA.to (Nat.div_lt_of_lt_mul (by rw [Nat.mul_comm]; exact hp)) hc) (hB.to (Nat.mod_lt _ hB.pos) hc)
theorem prodA_lang (hA : A.Ok w) (hB : B.Ok w) : ∀ (cs : List Nat) (i k : Nat),i < A.acc.length→k < B.acc.length→In w cs→(prodA w A B op).lang (i * B.acc.length + k) cs = op (A.lang i cs) (B.lang k cs)
  | [],i,k,hi,hk,_ => by
    have hp:=prod_lt hi hk
    show (prodA w A B op).acc.getD (i * B.acc.length + k) false = op (A.acc.getD i false) (B.acc.getD k false)
    unfold prodA
    rw [getD_map (by simpa using hp)]
    have h1 : (i * B.acc.length + k) / B.acc.length = i:=by rw [Nat.mul_comm,Nat.mul_add_div hB.pos,Nat.div_eq_of_lt hk,Nat.add_zero]
    have h2 : (i * B.acc.length + k) % B.acc.length = k:=by rw [Nat.mul_comm,Nat.mul_add_mod,Nat.mod_eq_of_lt hk]
    simp [h1,h2]
  | c::cs,i,k,hi,hk,hin => by
    have h1 : (i * B.acc.length + k) / B.acc.length = i:=by rw [Nat.mul_comm,Nat.mul_add_div hB.pos,Nat.div_eq_of_lt hk,Nat.add_zero]
    have h2 : (i * B.acc.length + k) % B.acc.length = k:=by rw [Nat.mul_comm,Nat.mul_add_mod,Nat.mod_eq_of_lt hk]
    show (prodA w A B op).lang ((prodA w A B op).to (i * B.acc.length + k) c) cs = op (A.lang (A.to i c) cs) (B.lang (B.to k c) cs)
    rw [prodA_to (prod_lt hi hk) hin.head,h1,h2]
    exact prodA_lang hA hB cs _ _ (hA.to hi hin.head) (hB.to hk hin.head) hin.tail
end
theorem RdP.cell {H K : BH} {x : BV} {A : Aut} {w : Nat} (hx : RdR H 36 2 x encN A.nxt) (hok : A.Ok w) (k : H.Keeps K) {q c : Nat} (hq : q < A.acc.length) (hc : c < w) :
    ∃ ri,ri.isSl = true∧ri.slen = w∧(∀ rt,rtOk rt 36 = true→K.rd rt none (x.sat q 1) = some ri)∧K.rd none none (ri.sat c 1) = some (encN (A.to q c)):=by
  have h1 : q < A.nxt.length:=by rw [hok.len]; exact hq
  obtain ⟨r,g1,g2,g3⟩:=row_get hok hq hc
  have e1 : A.nxt.getD q [] = A.nxt[q]:=by simp [h1]
  rw [e1] at g1
  subst g1
  have h2 : c < A.nxt[q].length:=by omega
  rw [List.getElem?_eq_getElem h2] at g3
  obtain ⟨ri,hri,hrr⟩:=hx.at h1
  have:=(hri.keeps k).at h2 (rt:=none) rfl
  refine ⟨ri,hri.isSl,by rw [hri.lenM,g2],fun rt h => rd_keeps k (hrr rt h),?_⟩
  rw [this]
  simp at g3
  rw [g3]
theorem RdP.row0 {H K : BH} {x : BV} {A : Aut} {w : Nat} (hx : RdR H 36 2 x encN A.nxt) (hok : A.Ok w) (k : H.Keeps K) {q : Nat} (hq : q < A.acc.length) :
    ∃ ri,ri.isSl = true∧ri.slen = w∧(∀ rt,rtOk rt 36 = true→K.rd rt none (x.sat q 1) = some ri)∧∀ c,c < w→K.rd none none (ri.sat c 1) = some (encN (A.to q c)):=by
  have h1 : q < A.nxt.length:=by rw [hok.len]; exact hq
  obtain ⟨ri,hri,hrr⟩:=hx.at h1
  have hl:=(hok.row _ (List.getElem_mem h1)).1
  refine ⟨ri,hri.isSl,by rw [hri.lenM,hl],fun rt h => rd_keeps k (hrr rt h),fun c hc => ?_⟩
  have h2 : c < A.nxt[q].length:=by omega
  rw [(hri.keeps k).at h2 (rt:=none) rfl]
  obtain ⟨r,g1,g2,g3⟩:=row_get hok hq hc
  have e1 : A.nxt.getD q [] = A.nxt[q]:=by simp [h1]
  rw [e1] at g1
  subst g1
  rw [List.getElem?_eq_getElem h2] at g3
  simp at g3
  rw [g3]
theorem s_differ (t ra rb : Nat) (ht : t≤3) (A B : Aut) (H : BH) (hA : RdP H ra t 0 A) (hB : RdP H rb t 0 B) (hokA : A.Ok (wd t)) (hokB : B.Ok (wd t)) (hn : A.acc.length * B.acc.length≤1000000000) (hna : A.acc.length≤1000000) (hnb : B.acc.length≤1000000) :
    FnDoes (gam base) 235 [.ptr ra 0,.ptr rb 0] H fun v K => OwnRel base H K t 0 (prodA (wd t) A B (fun a b => a != b)) v:=by
  obtain ⟨R,hR⟩ : ∃ R : BV→BH→Prop,R = fun v K => OwnRel base H K t 0 (prodA (wd t) A B (fun a b => a != b)) v:=⟨_,rfl⟩
  rw [← hR]
  refine FnDoes.of (fn:=ir235) rfl ?_
  obtain ⟨u,x,hr,hu,hx⟩:=hA
  obtain ⟨u',x',hr',hu',hx'⟩:=hB
  obtain ⟨a,ha⟩ : ∃ a,a = A.acc.length:=⟨_,rfl⟩
  obtain ⟨m,hm⟩ : ∃ m,m = B.acc.length:=⟨_,rfl⟩
  have hm0 : 0 < m:=by rw [hm]; exact hokB.pos
  rw [← ha,← hm] at hn
  rw [← ha] at hna
  rw [← hm] at hnb
  have hw3:=wd_3 ht
  obtain ⟨fa,hfa⟩ : ∃ fa : Nat→Bool,fa = fun p => A.acc.getD (p / m) false != B.acc.getD (p % m) false:=⟨_,rfl⟩
  obtain ⟨fx,hfx⟩ : ∃ fx : Nat→Nat→Nat,fx = fun p c => A.to (p / m) c * m + B.to (p % m) c:=⟨_,rfl⟩
  have hpr : prodA (wd t) A B (fun a b => a != b) = ⟨(List.range (a * m)).map fa,(List.range (a * m)).map fun p => (List.range (wd t)).map (fx p)⟩:=by rw [hfa,hfx,ha,hm]; rfl
  rw [hpr] at hR
  simp [ir235]
  intro n4 b4 f4
  have o1:=Own.start (base:=base) (H:=H) |>.new f4 b4 (s:=.arr 25 [.int .i64 0,.int .i64 0,.nils,.nils])
  have r0:=rd_keeps o1.keeps (rd_ptr hr (rt:=none) (j:=0) (c:=encN t) rfl rfl)
  have r1:=rd_keeps o1.keeps (rd_ptr hr (rt:=none) (j:=1) (c:=encN 0) rfl rfl)
  have r2':=rd_keeps o1.keeps (rd_ptr hr' (rt:=none) (j:=2) (c:=u') rfl rfl)
  have r1':=rd_keeps o1.keeps (rd_ptr hr' (rt:=none) (j:=1) (c:=encN 0) rfl rfl)
  have hul : u'.slen = m:=by rw [hu'.lenM,hm]
  have w00 : IntKind.i64.wrap 0 = 0:=rfl
  simp [make_of f4 b4,r0,r1,r1',r2',hu'.isSl,hul,w00]
  intro n6 b6 f6
  obtain ⟨K3,g3,o3⟩:=(o1.new f6 b6 (s:=.arr 25 [.int .i64 0,.int .i64 0,.nils,.nils])).putAll 0 (b:=n6) (n:=4) (ds:=[encN t,.int .i64 0,.nils,.nils]) rfl rfl rfl rfl (rt:=none) rfl
  simp [make_of f6 b6,g3]
  have hal : u.slen = a:=by rw [hu.lenM,ha]
  -- the state with so many pairs
  obtain ⟨S,hS⟩ : ∃ S : Nat→BH→Prop,S = (fun p K => ∃ y z bo wo vs fr,Own base H K ([(wo,.arr 36 vs),(bo,.arr 4 (((List.range p).map fa).map encB)),(some n6,.arr 25 [encN t,.int .i64 0,y,z]),(some n4,.arr 25 [.int .i64 0,.int .i64 0,.nils,.nils])]++fr) ∧
    Vec bo y p∧Vec wo z p∧vs.length = p∧RowsOf 2 vs fr (((List.range p).map fun p => (List.range (wd t)).map (fx p)).map (·.map encN))):=⟨_,rfl⟩
  obtain ⟨I,hI⟩ : ∃ I : Nat→Env→BH→Prop,I = (fun i e K => e 7 = encN i∧S (i * m) K):=⟨_,rfl⟩
  refine wpC_countK a [(0,.ptr ra 0),(1,.ptr rb 0),(4,.ptr n4 0),(5,encN m),(6,.ptr n6 0)] I (i0:=0) ?_ ?_ ?_ (Nat.zero_le _) ?_
  · rfl
  · simp
  · rw [hI,hS]
    refine ⟨by simp,.nils,.nils,none,none,[],[],?_,?_,?_,by simp,by simp [RowsOf]⟩
    · simpa using (o3.nil (.arr 4 [])).nil (.arr 36 [])
    · rw [Nat.zero_mul]; exact Vec.none
    · rw [Nat.zero_mul]; exact Vec.none
  clear o1 o3 r0 r1 r1' r2' g3
  rintro i e K hi ⟨e0,e1,e4,e5,e6,-⟩ hh
  rw [hI] at hh
  obtain ⟨e7,hs⟩:=hh
  simp only [] at e0 e1 e4 e5 e6
  have wi:=wS (n:=i) (by omega)
  have hk : H.Keeps K:=by rw [hS] at hs; obtain ⟨y,z,bo,wo,vs,fr,o,_⟩:=hs; exact o.keeps
  have r2:=rd_keeps hk (rd_ptr hr (rt:=none) (j:=2) (c:=u) rfl rfl)
  by_cases hlt : i < a
  · have hiA : i < A.acc.length:=by omega
    simp [e0,e7,r2,hu.isSl,hal,hlt]
    obtain ⟨J,hJ⟩ : ∃ J : Nat→Env→BH→Prop,J = (fun k e K => e 8 = encN k∧S (i * m + k) K):=⟨_,rfl⟩
    refine wpC_countK m [(0,.ptr ra 0),(1,.ptr rb 0),(4,.ptr n4 0),(5,encN m),(6,.ptr n6 0),(7,encN i)] J (i0:=0) ?_ ?_ ?_ (Nat.zero_le _) ?_
    · rfl
    · simp [e0,e1,e4,e5,e6,e7]
    · rw [hJ]
      exact ⟨by simp,hs⟩
    clear e0 e1 e4 e5 e6 e7 hs hk r2
    rintro k e K hk ⟨e0,e1,e4,e5,e6,e7,-⟩ hh
    rw [hJ] at hh
    obtain ⟨e8,hs⟩:=hh
    simp only [] at e0 e1 e4 e5 e6 e7
    have wk:=wS (n:=k) (by omega)
    have hs0:=hs
    rw [hS] at hs0
    obtain ⟨y,z,bo,wo,vs,fr,o,hy,hz,hvs,hrows⟩:=hs0
    have r2':=rd_keeps o.keeps (rd_ptr hr' (rt:=none) (j:=2) (c:=u') rfl rfl)
    by_cases hltk : k < m
    · have hkB : k < B.acc.length:=by omega
      have hpm : i * m + k < a * m:=prod_lt hlt hltk
      have d1 : (i * m + k) / m = i:=by rw [Nat.mul_comm,Nat.mul_add_div hm0,Nat.div_eq_of_lt hltk,Nat.add_zero]
      have d2 : (i * m + k) % m = k:=by rw [Nat.mul_comm,Nat.mul_add_mod,Nat.mod_eq_of_lt hltk]
      obtain ⟨p,hp⟩ : ∃ p,p = i * m + k:=⟨_,rfl⟩
      rw [← hp] at o hy hz hvs hrows hpm d1 d2
      simp [e1,e8,r2',hu'.isSl,hul,hltk]
      intro n9 b9 f9
      have o1:=o.new f9 b9 (s:=.arr 2 [])
      simp [make_of f9 b9]
      obtain ⟨L,hL⟩ : ∃ L : Nat→Env→BH→Prop,L = (fun c e K => e 10 = encN c∧∃ v9 ro,e 9 = v9∧Own base H K ([(ro,.arr 2 (((List.range c).map (fx p)).map encN)),(wo,.arr 36 vs),(bo,.arr 4 (((List.range p).map fa).map encB)),(some n6,.arr 25 [encN t,.int .i64 0,y,z]),(some n4,.arr 25 [.int .i64 0,.int .i64 0,.nils,.nils])]++fr)∧Vec ro v9 c):=⟨_,rfl⟩
      refine wpC_countK (wd t) [(0,.ptr ra 0),(1,.ptr rb 0),(4,.ptr n4 0),(5,encN m),(6,.ptr n6 0),(7,encN i),(8,encN k)] L (i0:=0) ?_ ?_ ?_ (Nat.zero_le _) ?_
      · rfl
      · simp [e0,e1,e4,e5,e6,e7,e8]
      · rw [hL]
        exact ⟨by simp,.sl n9 0 0,some n9,by simp,by simpa using o1,rfl⟩
      clear e0 e1 e4 e5 e6 e7 e8 o o1 r2'
      rintro c e M hc ⟨e0,e1,e4,e5,e6,e7,e8,-⟩ hh
      rw [hL] at hh
      obtain ⟨e10,v9,ro,e9,o,hv9⟩:=hh
      simp only [] at e0 e1 e4 e5 e6 e7 e8
      have wc:=wS (n:=c) (by omega)
      have r3:=rd_keeps o.keeps (rd_ptr hr (rt:=none) (j:=3) (c:=x) rfl rfl)
      have r3':=rd_keeps o.keeps (rd_ptr hr' (rt:=none) (j:=3) (c:=x') rfl rfl)
      have hxl : x.slen = a:=by rw [hx.len,hokA.len,ha]
      have hxl' : x'.slen = m:=by rw [hx'.len,hokB.len,hm]
      obtain ⟨ri,ri1,ri2,ri3,ri4⟩:=RdP.row0 hx hokA o.keeps hiA
      have ri3:=ri3 none rfl
      simp [e0,e7,e10,r3,hx.isSl,hxl,hlt,ri3,ri1,ri2]
      by_cases hcw : c < wd t
      · obtain ⟨rj,rj1,rj2,rj3,rj4⟩:=RdP.row0 hx' hokB o.keeps hkB
        have rj3:=rj3 none rfl
        have ri4:=ri4 c hcw
        have rj4:=rj4 c hcw
        have ta:=hokA.to hiA hcw
        have tb:=hokB.to hkB hcw
        have hfp : fx p c = A.to i c * m + B.to k c:=by rw [hfx]; simp only [d1,d2]
        have hfb : fx p c < a * m:=by rw [hfp]; exact prod_lt (by omega) (by omega)
        obtain ⟨zA,hzA⟩ : ∃ zA,zA = A.to i c:=⟨_,rfl⟩
        obtain ⟨zB,hzB⟩ : ∃ zB,zB = B.to k c:=⟨_,rfl⟩
        obtain ⟨zM,hzM⟩ : ∃ zM,zM = zA * m:=⟨_,rfl⟩
        rw [← hzA] at ri4 hfp
        rw [← hzB] at rj4 hfp
        rw [← hzM] at hfp
        have hmz : IntKind.i64.wrap ((zA : Int) * (m : Int)) = (zM : Int):=by rw [← Int.natCast_mul,← hzM]; exact wN (by omega)
        obtain ⟨fp,hfp2⟩ : ∃ fp,fp = fx p c:=⟨_,rfl⟩
        rw [← hfp2] at hfp hfb
        have hma : IntKind.i64.wrap ((zM : Int) + (zB : Int)) = (fp : Int):=by rw [← Int.natCast_add,← hfp]; exact wN (by omega)
        simp [hcw,e9,e0,e1,e5,e7,e8,e10,r3,r3',hx.isSl,hxl,hlt,ri3,ri1,ri2,ri4,hx'.isSl,hxl',hltk,rj3,rj1,rj2,rj4,hmz,hma]
        intro n1 b1 f1
        simp [make_of f1 b1]
        intro n5 b5 f5
        obtain ⟨v',K',b',q1,q2,q3⟩:=o.push 0 rfl (v:=v9) (by simpa using hv9) (x:=encN fp) (bytes:=8) rfl (by simp; omega) (by simp; omega) f1 b1 f5 b5
        simp [q1,e10,wc,hcw]
        rw [hL]
        refine ⟨by simp,v',some b',by simp,?_,by simpa using q3⟩
        rw [List.range_succ,List.map_append,List.map_append]
        simpa [← hfp2] using q2
      · have hce : c = wd t:=by omega
        subst hce
        have q0:=rd_ptr (o.at 3 (b:=n6) rfl) (rt:=none) (j:=2) (c:=y) rfl rfl
        have r2:=rd_keeps o.keeps (rd_ptr hr (rt:=none) (j:=2) (c:=u) rfl rfl)
        have r2':=rd_keeps o.keeps (rd_ptr hr' (rt:=none) (j:=2) (c:=u') rfl rfl)
        have ra1:=(hu.keeps o.keeps).at hiA (rt:=none) rfl
        have rb1:=(hu'.keeps o.keeps).at hkB (rt:=none) rfl
        simp [e6,q0,e0,r2,e7,hu.isSl,hal,hlt,ra1,e1,r2',e8,hu'.isSl,hul,hltk,rb1]
        intro n1 b1 f1
        simp [make_of f1 b1]
        intro n5 b5 f5
        have hti : ((List.range p).map fa).length = p:=by simp
        have hfap : fa p = !(A.acc[i] == B.acc[k]):=by rw [hfa]; simp only [d1,d2]; simp [hiA,hkB]; rfl
        obtain ⟨v',K2,b',q1,o2,q3⟩:=o.push 2 rfl (v:=y) (by simp only [List.length_map,List.length_range]; exact hy) (x:=encB (!(A.acc[i] == B.acc[k]))) (bytes:=1) rfl (by simp; omega) (by simp; omega) f1 b1 f5 b5
        obtain ⟨K3,q2,o3⟩:=o2.put 3 (b:=n6) rfl (j:=2) (u:=v') (by simp) q3.one (rt:=none) rfl
        have q4:=rd_ptr (o3.at 3 (b:=n6) rfl) (rt:=none) (j:=3) (c:=z) rfl rfl
        have h9:=hv9.one
        simp [q1,q2,e6,q4,e9,h9,cells_one h9]
        intro n5' b5' f5'
        simp [make_of f5' b5']
        intro n7 b7 f7
        obtain ⟨w2,K5,c',p1,o4,p3⟩:=o3.push 1 rfl (v:=z) (by rw [hvs]; exact hz) (x:=v9) (bytes:=24) h9 (by omega) (by omega) f5' b5' f7 b7
        obtain ⟨K7,p2,o5⟩:=o4.put 3 (b:=n6) rfl (j:=3) (u:=w2) (by simp) p3.one (rt:=none) rfl
        simp [p1,p2,e6,e8,wk,hltk]
        rw [hJ,hS]
        refine ⟨by simp,v',w2,some b',some c',vs++[v9],fr++[(ro,.arr 2 (((List.range (wd t)).map (fx p)).map encN))],?_,?_,?_,by simp [hvs,hp]; omega,?_⟩
        · rw [← Nat.add_assoc,← hp]
          refine Own.last (p:=(ro,.arr 2 (((List.range (wd t)).map (fx p)).map encN))) (F:=[(some c',.arr 36 (vs++[v9])),(some b',.arr 4 (((List.range (p + 1)).map fa).map encB)),(some n6,.arr 25 [encN t,.int .i64 0,v',w2]),(some n4,.arr 25 [.int .i64 0,.int .i64 0,.nils,.nils])]) ?_
          rw [List.range_succ (n:=p),List.map_append,List.map_append]
          simpa [hfap] using o5
        · rw [← Nat.add_assoc,← hp]
          simpa using q3
        · rw [← Nat.add_assoc,← hp]
          rw [hvs] at p3
          exact p3
        · rw [← Nat.add_assoc,← hp,List.range_succ (n:=p),List.map_append,List.map_append]
          exact hrows.snoc (by simpa using hv9)
    · have hke : k = m:=by omega
      subst hke
      simp [e1,e8,r2',hu'.isSl,hul,e7,wi,hlt]
      rw [hI]
      refine ⟨by simp,?_⟩
      rw [Nat.succ_mul]
      exact hs
  · have hie : i = a:=by omega
    subst hie
    rw [hS] at hs
    obtain ⟨y,z,bo,wo,vs,fr,o,hy,hz,hvs,hrows⟩:=hs
    have r9:=rd_all (o.at 2 (b:=n6) rfl) (n:=4) (rt:=none) rfl rfl
    obtain ⟨K9,g9,o9⟩:=o.putAll 3 (b:=n4) (n:=4) (ds:=[encN t,.int .i64 0,y,z]) rfl rfl rfl (by simp [hy.one,hz.one]) (rt:=none) rfl
    have r10:=rd_all (o9.at 3 (b:=n4) rfl) (n:=4) (rt:=none) rfl rfl
    simp [e0,e7,r2,hu.isSl,hal,e4,e6,r9,g9,r10]
    rw [hR]
    refine ⟨o9.keeps,y,z,bo,wo,vs,fr,rfl,?_,by simpa using hy,by rw [hvs]; exact hz,hrows⟩
    have o10 : Own base H K9 ((wo,.arr 36 vs)::(bo,.arr 4 (((List.range (i * m)).map fa).map encB))::fr):=o9.sub (.cons_cons _ (.cons_cons _ (.cons _ (.cons _ (List.Sublist.refl _)))))
    exact o10.perm (List.Perm.swap _ _ _)
def opW (way : Nat) (a b : Bool) : Bool:=if way = 1 then a && b else if way = 2 then a || b else a && !b
theorem set_upto {α : Type} {f g : Nat→α} {n p : Nat} (hp : p < n) : ((List.range n).map fun q => if q < p then f q else g q).set p (f p) = (List.range n).map fun q => if q < p + 1 then f q else g q:=by
  apply List.ext_getElem?
  intro i
  by_cases hi : i < n
  · rw [List.getElem?_set]
    by_cases h : p = i
    · subst h; simp [hp]
    · simp only [h,if_false,List.getElem?_map,List.getElem?_range hi,Option.map_some]
      by_cases h1 : i < p
      · rw [if_pos h1,if_pos (by omega)]
      · rw [if_neg h1,if_neg (by omega)]
  · rw [List.getElem?_eq_none (by simp; omega),List.getElem?_eq_none (by simp; omega)]
theorem s_pairs (t ra rb way : Nat) (ht : t≤3) (A B : Aut) (H : BH) (hA : RdP H ra t 0 A) (hB : RdP H rb t 0 B) (hokA : A.Ok (wd t)) (hokB : B.Ok (wd t)) (hn : A.acc.length * B.acc.length≤1000000000) (hna : A.acc.length≤1000000) (hnb : B.acc.length≤1000000) :
    FnDoes (gam base) 205 [.ptr ra 0,.ptr rb 0,encN way] H fun v K => OwnRel base H K t 0 (prodA (wd t) A B (opW way)) v:=by
  obtain ⟨R,hR⟩ : ∃ R : BV→BH→Prop,R = fun v K => OwnRel base H K t 0 (prodA (wd t) A B (opW way)) v:=⟨_,rfl⟩
  rw [← hR]
  refine FnDoes.of (fn:=ir205) rfl ?_
  have hA0:=hA
  have hB0:=hB
  obtain ⟨u,x,hr,hu,hx⟩:=hA
  obtain ⟨u',x',hr',hu',hx'⟩:=hB
  obtain ⟨a,ha⟩ : ∃ a,a = A.acc.length:=⟨_,rfl⟩
  obtain ⟨m,hm⟩ : ∃ m,m = B.acc.length:=⟨_,rfl⟩
  have hm0 : 0 < m:=by rw [hm]; exact hokB.pos
  obtain ⟨ft,hft⟩ : ∃ ft : Nat→Bool,ft = fun p => opW way (A.acc.getD (p / m) false) (B.acc.getD (p % m) false):=⟨_,rfl⟩
  obtain ⟨fd,hfd⟩ : ∃ fd : Nat→Bool,fd = fun p => A.acc.getD (p / m) false != B.acc.getD (p % m) false:=⟨_,rfl⟩
  obtain ⟨nx,hnx⟩ : ∃ nx,nx = (prodA (wd t) A B (fun a b => a != b)).nxt:=⟨_,rfl⟩
  have hpd : (prodA (wd t) A B (fun a b => a != b)).acc = (List.range (a * m)).map fd:=by rw [hfd,ha,hm]; rfl
  have hpr : prodA (wd t) A B (opW way) = ⟨(List.range (a * m)).map ft,nx⟩:=by rw [hft,ha,hm,hnx]; rfl
  rw [hpr] at hR
  have hal : u.slen = a:=by rw [hu.lenM,ha]
  have hul : u'.slen = m:=by rw [hu'.lenM,hm]
  simp [ir205]
  intro n6 b6 f6
  have o1:=Own.start (base:=base) (H:=H) |>.new f6 b6 (s:=.arr 25 [.int .i64 0,.int .i64 0,.nils,.nils])
  simp [make_of f6 b6]
  refine (s_differ t ra rb ht A B _ (hA0.keeps o1.keeps) (hB0.keeps o1.keeps) hokA hokB hn hna hnb).step fun v K hk hv => ?_
  obtain ⟨y,z,bo,wo,vs,fr,rfl,o2,hy,hz,hrows⟩:=hv
  rw [← hnx] at hrows
  rw [hpd] at o2 hy
  have hyl : Vec bo y (a * m):=by simpa using hy
  have o3:=o1.join hk o2
  clear o1 o2
  simp
  intro n7 b7 f7
  obtain ⟨K4,g4,o4⟩:=(o3.new f7 b7 (s:=.arr 25 [.int .i64 0,.int .i64 0,.nils,.nils])).putAll 0 (b:=n7) (n:=4) (ds:=[encN t,encN 0,y,z]) rfl rfl rfl (by simp [hy.one,hz.one]) (rt:=none) rfl
  rw [← ha,← hm] at hn
  rw [← ha] at hna
  rw [← hm] at hnb
  have r2':=rd_keeps o4.keeps (rd_ptr hr' (rt:=none) (j:=2) (c:=u') rfl rfl)
  simp [make_of f7 b7,g4,r2',hu'.isSl,hul]
  obtain ⟨S,hS⟩ : ∃ S : Nat→BH→Prop,S = (fun p K => Own base H K ([(bo,.arr 4 (((List.range (a * m)).map fun q => if q < p then ft q else fd q).map encB)),(some n7,.arr 25 [encN t,encN 0,y,z]),(some n6,.arr 25 [.int .i64 0,.int .i64 0,.nils,.nils])]++((wo,.arr 36 vs)::fr))):=⟨_,rfl⟩
  obtain ⟨I,hI⟩ : ∃ I : Nat→Env→BH→Prop,I = (fun i e K => e 9 = encN i∧S (i * m) K):=⟨_,rfl⟩
  refine wpC_countK a [(0,.ptr ra 0),(1,.ptr rb 0),(2,encN way),(6,.ptr n6 0),(7,.ptr n7 0),(8,encN m)] I (i0:=0) ?_ ?_ ?_ (Nat.zero_le _) ?_
  · rfl
  · simp
  · rw [hI,hS]
    refine ⟨by simp,?_⟩
    rw [Nat.zero_mul]
    have hz0 : ((List.range (a * m)).map fun q => if q < 0 then ft q else fd q) = (List.range (a * m)).map fd:=by simp
    simp only []
    rw [hz0]
    refine o4.perm ?_
    simp only [List.set_cons_zero,List.cons_append,List.nil_append]
    exact (List.Perm.swap _ _ _).trans (List.Perm.cons _ (List.Perm.swap _ _ _))
  clear o4 g4 r2'
  rintro i e K hi ⟨e0,e1,e2,e6,e7,e8,-⟩ hh
  rw [hI] at hh
  obtain ⟨e9,hs⟩:=hh
  simp only [] at e0 e1 e2 e6 e7 e8
  have wi:=wS (n:=i) (by omega)
  have hk : H.Keeps K:=by rw [hS] at hs; exact hs.keeps
  have r2:=rd_keeps hk (rd_ptr hr (rt:=none) (j:=2) (c:=u) rfl rfl)
  by_cases hlt : i < a
  · have hiA : i < A.acc.length:=by omega
    simp [e0,e9,r2,hu.isSl,hal,hlt]
    obtain ⟨J,hJ⟩ : ∃ J : Nat→Env→BH→Prop,J = (fun k e K => e 10 = encN k∧S (i * m + k) K):=⟨_,rfl⟩
    refine wpC_countK m [(0,.ptr ra 0),(1,.ptr rb 0),(2,encN way),(6,.ptr n6 0),(7,.ptr n7 0),(8,encN m),(9,encN i)] J (i0:=0) ?_ ?_ ?_ (Nat.zero_le _) ?_
    · rfl
    · simp [e0,e1,e2,e6,e7,e8,e9]
    · rw [hJ]
      exact ⟨by simp,hs⟩
    clear e0 e1 e2 e6 e7 e8 e9 hs hk r2
    rintro k e K hk ⟨e0,e1,e2,e6,e7,e8,e9,-⟩ hh
    rw [hJ] at hh
    obtain ⟨e10,hs⟩:=hh
    simp only [] at e0 e1 e2 e6 e7 e8 e9
    have wk:=wS (n:=k) (by omega)
    have hs0:=hs
    rw [hS] at hs0
    by_cases hltk : k < m
    · have hkB : k < B.acc.length:=by omega
      have hpm : i * m + k < a * m:=prod_lt hlt hltk
      have d1 : (i * m + k) / m = i:=by rw [Nat.mul_comm,Nat.mul_add_div hm0,Nat.div_eq_of_lt hltk,Nat.add_zero]
      have d2 : (i * m + k) % m = k:=by rw [Nat.mul_comm,Nat.mul_add_mod,Nat.mod_eq_of_lt hltk]
      have hfp : ft (i * m + k) = opW way A.acc[i] B.acc[k]:=by rw [hft]; simp only [d1,d2]; simp [hiA,hkB]
      obtain ⟨zM,hzM⟩ : ∃ zM,zM = i * m:=⟨_,rfl⟩
      have hmz : IntKind.i64.wrap ((i : Int) * (m : Int)) = (zM : Int):=by rw [← Int.natCast_mul,← hzM]; exact wN (by omega)
      rw [← hzM] at hpm hfp hs0
      obtain ⟨p,hp⟩ : ∃ p,p = zM + k:=⟨_,rfl⟩
      rw [← hp] at hpm hfp hs0
      have hma : IntKind.i64.wrap ((zM : Int) + (k : Int)) = (p : Int):=by rw [← Int.natCast_add,← hp]; exact wN (by omega)
      have r2:=rd_keeps hs0.keeps (rd_ptr hr (rt:=none) (j:=2) (c:=u) rfl rfl)
      have r2':=rd_keeps hs0.keeps (rd_ptr hr' (rt:=none) (j:=2) (c:=u') rfl rfl)
      have ra1:=(hu.keeps hs0.keeps).at hiA (rt:=none) rfl
      have rb1:=(hu'.keeps hs0.keeps).at hkB (rt:=none) rfl
      have q0:=rd_ptr (hs0.at 1 (b:=n7) rfl) (rt:=none) (j:=2) (c:=y) rfl rfl
      obtain ⟨av,hav⟩ : ∃ av,av = A.acc[i]:=⟨_,rfl⟩
      obtain ⟨bv,hbv⟩ : ∃ bv,bv = B.acc[k]:=⟨_,rfl⟩
      rw [← hav] at ra1 hfp
      rw [← hbv] at rb1 hfp
      obtain ⟨K5,g5,o5⟩:=hs0.wr 0 rfl (by simpa using hyl) (j:=p) (by simpa using hpm) (u:=encB (opW way av bv)) rfl (rt:=none) rfl
      have hend : S (i * m + (k + 1)) K5:=by
        rw [hS,← Nat.add_assoc,← hzM,← hp]
        have:=o5
        rw [← hfp,← List.map_set,set_upto hpm] at this
        simpa using this
      have hys:=hyl.isSl
      have hysl:=hyl.len
      simp [e0,e1,e2,e7,e8,e9,e10,r2,r2',hu.isSl,hal,hu'.isSl,hul,hlt,hltk,ra1,rb1]
      by_cases hw1 : way = 1
      · subst hw1
        simp only [opW,if_true] at g5
        simp [e2,e7,e8,e9,e10,q0,hmz,hma,hys,hysl,hpm,hpm]
        cases av <;> simp at g5 ⊢ <;> simp [g5,e10,wk,hltk,hys,hysl,hpm] <;> (rw [hJ]; exact ⟨by simp,hend⟩)
      · by_cases hw2 : way = 2
        · subst hw2
          simp only [opW,if_true,show ¬ (2 : Nat) = 1 by decide,if_false] at g5
          simp [e2,e7,e8,e9,e10,q0,hmz,hma,hys,hysl,hpm,hpm]
          cases av <;> simp at g5 ⊢ <;> simp [g5,e10,wk,hltk,hys,hysl,hpm] <;> (rw [hJ]; exact ⟨by simp,hend⟩)
        · have h1 : ((way : Int) == 1) = false:=by simp; omega
          have h2 : ((way : Int) == 2) = false:=by simp; omega
          simp only [opW,if_neg hw1,if_neg hw2] at g5
          simp [e2,h1,h2,e7,e8,e9,e10,q0,hmz,hma,hys,hysl,hpm,hpm]
          cases av <;> simp at g5 ⊢ <;> simp [g5,e10,wk,hltk,hys,hysl,hpm] <;> (rw [hJ]; exact ⟨by simp,hend⟩)
    · have hke : k = m:=by omega
      subst hke
      simp [e8,e10,e9,wi,hlt]
      rw [hI]
      refine ⟨by simp,?_⟩
      rw [Nat.succ_mul]
      exact hs
  · have hie : i = a:=by omega
    subst hie
    rw [hS] at hs
    have r9:=rd_all (hs.at 1 (b:=n7) rfl) (n:=4) (rt:=none) rfl rfl
    obtain ⟨K9,g9,o9⟩:=hs.putAll 2 (b:=n6) (n:=4) (ds:=[encN t,encN 0,y,z]) rfl rfl rfl (by simp [hy.one,hz.one]) (rt:=none) rfl
    have r10:=rd_all (o9.at 2 (b:=n6) rfl) (n:=4) (rt:=none) rfl rfl
    simp [e0,e9,r2,hu.isSl,hal,e6,e7,r9,g9,r10]
    rw [hR]
    have hz1 : ((List.range (i * m)).map fun q => if q < i * m then ft q else fd q) = (List.range (i * m)).map ft:=by
      apply List.map_congr_left
      intro q hq
      rw [if_pos (by simpa using hq)]
    rw [hz1] at o9
    exact ⟨o9.keeps,y,z,bo,wo,vs,fr,rfl,o9.sub (.cons_cons _ (.cons _ (.cons _ (List.Sublist.refl _)))),by simpa using hyl,hz,hrows⟩
def twoN (v1 v2 : Bool) (T1 T2 : Int) : Nat:=if v1 = true∧v2 = true then (if T1 = T2 then 0 else 2) else 1
theorem s_two (r1 r2 : Nat) (T1 S1 T2 S2 : Int) (acc1 acc2 : List Bool) (rows1 rows2 : List (List Int)) (H : BH) (h1 : RdRawP H r1 T1 S1 acc1 rows1) (h2 : RdRawP H r2 T2 S2 acc2 rows2) (hn1 : acc1.length≤4611686018427387904) (hn2 : acc2.length≤4611686018427387904) :
    Runs (gam base) 156 [.ptr r1 0,.ptr r2 0] H (encN (twoN (validB T1 S1 acc1 rows1) (validB T2 S2 acc2 rows2) T1 T2)) H:=by
  refine runs_of (fn:=ir156) rfl ?_
  have c1:=s_ok (base:=base) r1 T1 S1 acc1 rows1 H h1 hn1
  have c2:=s_ok (base:=base) r2 T2 S2 acc2 rows2 H h2 hn2
  obtain ⟨u,x,hr,hu,hx⟩:=h1
  obtain ⟨u',x',hr',hu',hx'⟩:=h2
  have q1:=rd_ptr hr (rt:=none) (j:=0) (c:=encI T1) rfl rfl
  have q2:=rd_ptr hr' (rt:=none) (j:=0) (c:=encI T2) rfl rfl
  generalize validB T1 S1 acc1 rows1 = b1 at *
  generalize validB T2 S2 acc2 rows2 = b2 at *
  simp [ir156]
  refine callP c1 ?_
  cases b1
  · simp [twoN]
  simp
  refine callP c2 ?_
  cases b2
  · simp [twoN]
  by_cases hT : T1 = T2
  · subst hT; simp [q1,q2,twoN]
  · have hb : (T1 != T2) = true:=by simpa using hT
    simp [q1,q2,twoN,hT,hb]
theorem i_two (T1 S1 T2 S2 : Int) (acc1 acc2 : List Bool) (rows1 rows2 : List (List Int)) (m1 m2 : BV) (H : BH) (h1 : RdRaw H T1 S1 acc1 rows1 m1) (h2 : RdRaw H T2 S2 acc2 rows2 m2) (hn1 : acc1.length≤4611686018427387904) (hn2 : acc2.length≤4611686018427387904) :
    FnDoes (gam base) 218 [m1,m2] H fun v _ => v = encN (twoN (validB T1 S1 acc1 rows1) (validB T2 S2 acc2 rows2) T1 T2):=by
  refine FnDoes.of (fn:=ir218) rfl ?_
  have g1:=h1
  have g2:=h2
  obtain ⟨u,x,rfl,hu,hx⟩:=h1
  obtain ⟨u',x',rfl,hu',hx'⟩:=h2
  have u1:=hu.one
  have x1:=one_of_isSl hx.isSl
  have u1':=hu'.one
  have x1':=one_of_isSl hx'.isSl
  simp [ir218,u1,x1,u1',x1']
  intro n2 b2 f2
  simp [make_of f2 b2,u1',x1']
  intro n3 b3 f3
  have o1:=Own.start (base:=base) (H:=H) |>.new f2 b2 (s:=.arr 25 [.int .i64 T1,.int .i64 S1,u,x]) |>.new f3 b3 (s:=.arr 25 [.int .i64 T2,.int .i64 S2,u',x'])
  have r0:=rd_all (o1.at 1 (b:=n2) rfl) (n:=4) (rt:=none) rfl rfl
  simp [make_of f3 b3,r0]
  refine (i_valid (base:=base) T1 S1 acc1 rows1 _ _ (g1.keeps o1.keeps) hn1).step fun v K1 k1 hv => ?_
  subst hv
  have o2:=o1.call k1
  have r1:=rd_all (o2.at 0 (b:=n3) rfl) (n:=4) (rt:=none) rfl rfl
  have q1:=rd_ptr (o2.at 1 (b:=n2) rfl) (rt:=none) (j:=0) (c:=encI T1) rfl rfl
  generalize validB T1 S1 acc1 rows1 = b1 at *
  cases b1
  · simp [twoN]
    exact o2.keeps
  simp [r1]
  refine (i_valid (base:=base) T2 S2 acc2 rows2 _ _ (g2.keeps o2.keeps) hn2).step fun v K2 k2 hv => ?_
  subst hv
  have o3:=o2.call k2
  have q1:=rd_ptr (o3.at 1 (b:=n2) rfl) (rt:=none) (j:=0) (c:=encI T1) rfl rfl
  have q2:=rd_ptr (o3.at 0 (b:=n3) rfl) (rt:=none) (j:=0) (c:=encI T2) rfl rfl
  generalize validB T2 S2 acc2 rows2 = b2 at *
  cases b2
  · simp [twoN]
    exact o3.keeps
  by_cases hT : T1 = T2
  · subst hT
    simp [q1,q2,twoN]
    exact o3.keeps
  · have hb : (T1 != T2) = true:=by simpa using hT
    simp [q1,q2,twoN,hT,hb]
    exact o3.keeps
theorem RdP.raw {H : BH} {rb t s : Nat} {A : Aut} (h : RdP H rb t s A) : RdRawP H rb t s A.acc (A.nxt.map (·.map fun (q : Nat) => (q : Int))):=by
  obtain ⟨u,x,h1,h2,h3⟩:=h
  obtain ⟨u',x',e1,e2,e3⟩:=RdRel.raw (H:=H) (t:=t) (s:=s) (A:=A) (m:=.agg [encN t,encN s,u,x]) ⟨u,x,rfl,h2,h3⟩
  simp only [BV.agg.injEq,List.cons.injEq,and_true,true_and] at e1
  obtain ⟨eu,ex⟩:=e1
  rw [← eu] at e2
  rw [← ex] at e3
  exact ⟨u,x,h1,e2,e3⟩
theorem RdRel.at {H K : BH} {t s : Nat} {A : Aut} {u x : BV} {n : Nat} (h : RdRel H t s A (.agg [encN t,encN s,u,x])) (k : H.Keeps K) (hr : K.row n = .arr 25 [encN t,encN s,u,x]) : RdP K n t s A:=by
  obtain ⟨u',x',e1,e2,e3⟩:=h
  simp only [BV.agg.injEq,List.cons.injEq,and_true,true_and] at e1
  obtain ⟨eu,ex⟩:=e1
  rw [← eu] at e2
  rw [← ex] at e3
  exact ⟨u,x,hr,e2.keeps k,e3.keeps k⟩
theorem RdRel.one {H : BH} {t s : Nat} {A : Aut} {u x : BV} (h : RdRel H t s A (.agg [encN t,encN s,u,x])) : u.one = true∧x.one = true:=by
  obtain ⟨u',x',e1,e2,e3⟩:=h
  simp only [BV.agg.injEq,List.cons.injEq,and_true,true_and] at e1
  obtain ⟨eu,ex⟩:=e1
  subst eu
  subst ex
  exact ⟨e2.one,one_of_isSl e3.isSl⟩
def domL (cs : List Nat) : Bool:=decide (cs.foldl (fun _ c => c) 1 = 1)
theorem wd_one : wd 1 = 2:=rfl
theorem encN_eq : ∀ k l : Nat,keyEqM 0 (encN k) (encN l) = some (decide (k = l)):=fun k l => by
  have h : keyEqM 0 (encN k) (encN l) = some ((k : Int) == (l : Int)):=rfl
  rw [h]
  by_cases e : k = l
  · subst e; simp
  · simp [e]; omega
theorem dom_closed : Closed (wd 1) (fun _ c => c) 1 [1,0]:=⟨by simp,fun k _ c hc => by rw [wd_one] at hc; simp; omega⟩
theorem i_dom1 (k : Nat) (H : BH) : FnDoes (gam base) 67 [encN k] H fun v _ => v = .bool (decide (k = 1)):=by
  refine FnDoes.of (fn:=ir67) rfl ?_
  simp [ir67]
  refine ⟨BH.Keeps.refl H,?_⟩
  by_cases h : k = 1
  · subst h; rfl
  · simp [h]; omega
theorem i_dom2 (k c : Nat) (H : BH) : FnDoes (gam base) 68 [encN k,encN c] H fun v _ => v = encN c:=by
  refine FnDoes.of (fn:=ir68) rfl ?_
  simp [ir68]
  exact BH.Keeps.refl H
def domX : Aut:=autOf (wd 1) (fun _ c => c) (fun k => decide (k = 1)) (metL (succs (wd 1) (fun _ c => c)) 1 2)
theorem domX_ok : domX.Ok (wd 1)∧domX.acc.length≤2∧∀ cs,In (wd 1) cs→domX.lang 0 cs = domL cs:=by
  obtain ⟨h1,h2,h3⟩:=autOf_met (a:=fun k => decide (k = 1)) dom_closed
  exact ⟨h1,h2,h3⟩
theorem dom_TA : TA 1 (domX.lang 0) = TA 1 domL:=TA_congr fun cs hc _ => domX_ok.2.2 cs hc
theorem dom_spec : IsTidy (wd 1) (TA 1 domL) (rl 1 domL)∧(TA 1 domL).acc.length≤17:=by
  obtain ⟨h1,h2,h3⟩:=domX_ok
  obtain ⟨g1,g2⟩:=TA_spec (t:=1) (by omega) h1 h1.pos
  rw [dom_TA] at g1 g2
  refine ⟨?_,by omega⟩
  obtain ⟨κ,i1,nx,a,s',n,hd,hA,hdist,hl⟩:=g1
  refine ⟨κ,i1,nx,a,s',n,hd,hA,hdist,fun cs hc => ?_⟩
  rw [hl cs hc]
  unfold rl
  rw [h3 cs hc]
theorem i_domain (H : BH) : FnDoes (gam base) 25 [] H fun v K => OwnRel base H K 1 0 (TA 1 domL) v:=by
  refine FnDoes.of (fn:=ir25) rfl ?_
  obtain ⟨h1,h2,h3⟩:=domX_ok
  simp [ir25]
  intro n0 b0 f0
  have o0:=Own.start (base:=base) (H:=H) |>.new f0 b0 (s:=.arr 25 [.int .i64 0,.int .i64 0,.nils,.nils])
  simp [make_of f0 b0]
  have grow:=i_grow_int (base:=base) (κ:=Nat) encN (fun _ => rfl) encN_eq (fun _ => rfl) 1 (by omega) 1 0 67 68 [] [] (fun _ c => c) (fun k => decide (k = 1)) [1,0] dom_closed (by simp) (H.set n0 (.arr 25 [.int .i64 0,.int .i64 0,.nils,.nils]))
    (fun L kL k hk => i_dom1 k L) (fun L kL k hk c hc => i_dom2 k c L)
  refine grow.step fun v K1 k1 hv => ?_
  unfold GrowR at hv
  rw [if_neg (by omega)] at hv
  obtain ⟨mm,rfl,hmm⟩:=hv
  have hmm : OwnM base _ K1 1 0 domX mm:=hmm
  have hrd:=hmm.rd
  obtain ⟨uu,ww,rfl,hu,hw⟩:=id hrd
  have u1:=hu.one
  have w1:=one_of_isSl hw.isSl
  simp [u1,w1]
  intro n1 b1 f1
  obtain ⟨K2,g2,o2⟩:=((o0.call k1).new f1 b1 (s:=.arr 77 [.int .i64 0,.int .i64 0,.nils,.nils])).putAll 0 (b:=n1) (n:=4) (ds:=[encN 1,encN 0,uu,ww]) rfl rfl rfl (by simp [u1,w1]) (rt:=none) rfl
  have k2 : K1.Keeps K2:=by
    obtain ⟨K2',g2',o2'⟩:=(Own.start (base:=base) (H:=K1) |>.new f1 b1 (s:=.arr 77 [.int .i64 0,.int .i64 0,.nils,.nils])).putAll 0 (b:=n1) (n:=4) (ds:=[encN 1,encN 0,uu,ww]) rfl rfl rfl (by simp [u1,w1]) (rt:=none) rfl
    rw [g2] at g2'
    cases g2'
    exact o2'.keeps
  have r0:=rd_all (o2.at 0 (b:=n1) rfl) (n:=4) (rt:=none) rfl rfl
  simp [make_of f1 b1,g2,r0]
  refine (i_tidied (base:=base) 1 0 (by omega) domX _ K2 (hrd.keeps k2) h1 h1.pos (by omega)).step fun v K3 k3 hv => ?_
  rw [dom_TA] at hv
  unfold RelR told at hv
  rw [if_neg (by have:=dom_spec.2; omega)] at hv
  obtain ⟨m,rfl,hm⟩:=hv
  obtain ⟨u',w',bo,wo,vs,fr,rfl,om,hm1,hm2,hm3⟩:=hm
  have oj:=Own.join (o2.sub (M:=[(some n0,.arr 25 [.int .i64 0,.int .i64 0,.nils,.nils])]) (.cons _ (.cons_cons _ .slnil))) k3 om
  simp [hm1.one,hm2.one]
  intro n3 b3 f3
  obtain ⟨K4,g4,o4⟩:=(oj.new f3 b3 (s:=.arr 25 [.int .i64 0,.int .i64 0,.nils,.nils])).putAll 0 (b:=n3) (n:=4) (ds:=[encN 1,encN 0,u',w']) rfl rfl rfl (by simp [hm1.one,hm2.one]) (rt:=none) rfl
  have r1:=rd_all (o4.at 0 (b:=n3) rfl) (n:=4) (rt:=none) rfl rfl
  obtain ⟨K5,g5,o5⟩:=o4.putAll 1 (b:=n0) (n:=4) (ds:=[encN 1,encN 0,u',w']) rfl rfl rfl (by simp [hm1.one,hm2.one]) (rt:=none) rfl
  have r2:=rd_all (o5.at 1 (b:=n0) rfl) (n:=4) (rt:=none) rfl rfl
  simp [make_of f3 b3,g4,r1,g5,r2]
  exact ⟨o5.keeps,u',w',bo,wo,vs,fr,rfl,o5.drop 2,hm1,hm2,hm3⟩
def domY : Aut:=⟨[true,false],[[1,0],[1,0]]⟩
theorem domY_ok : domY.Ok (wd 1):=⟨rfl,by decide,fun r hr => by
  simp [domY] at hr
  subst hr
  refine ⟨rfl,fun q hq => ?_⟩
  simp [domY] at hq ⊢
  omega⟩
theorem domY_lang : ∀ (cs : List Nat) (q k : Nat),(q = 0∧k = 1∨q = 1∧k = 0)→In (wd 1) cs→domY.lang q cs = decide (cs.foldl (fun _ c => c) k = 1)
  | [],q,k,h,_ => by
    rcases h with ⟨rfl,rfl⟩ | ⟨rfl,rfl⟩ <;> rfl
  | c::cs,q,k,h,hin => by
    have hc:=hin.head
    rw [wd_one] at hc
    have h1 : domY.lang q (c::cs) = domY.lang (domY.to q c) cs:=rfl
    rw [h1]
    refine domY_lang cs _ c ?_ hin.tail
    have hq : q = 0∨q = 1:=by rcases h with h | h <;> omega
    have hcc : c = 0∨c = 1:=by omega
    rcases hq with rfl | rfl <;> rcases hcc with rfl | rfl <;> simp [domY,Aut.to]
theorem domY_TA : TA 1 (domY.lang 0) = TA 1 domL:=TA_congr fun cs hc _ => domY_lang cs 0 1 (.inl ⟨rfl,rfl⟩) hc
theorem s_domain (H : BH) : FnDoes (gam base) 51 [] H fun v K => OwnRel base H K 1 0 (TA 1 domL) v:=by
  refine FnDoes.of (fn:=ir51) rfl ?_
  simp [ir51]
  intro n0 b0 f0
  have o0:=Own.start (base:=base) (H:=H) |>.new f0 b0 (s:=.arr 25 [.int .i64 0,.int .i64 0,.nils,.nils])
  simp [make_of f0 b0]
  intro n1 b1 f1
  have o1:=o0.new f1 b1 (s:=.arr 4 [.bool true,.bool false])
  simp [make_of f1 b1]
  intro n2 b2 f2
  have o2:=o1.new f2 b2 (s:=.arr 2 [.int .i64 1,.int .i64 0])
  simp [make_of f2 b2]
  intro n3 b3 f3
  have o3:=o2.new f3 b3 (s:=.arr 2 [.int .i64 1,.int .i64 0])
  simp [make_of f3 b3]
  intro n4 b4 f4
  have o4:=o3.new f4 b4 (s:=.arr 36 [.sl n2 0 2,.sl n3 0 2])
  simp [make_of f4 b4]
  intro n6 b6 f6
  have o6:=o4.new f6 b6 (s:=.arr 25 [encN 1,encN 0,.sl n1 0 2,.sl n4 0 2])
  simp [make_of f6 b6]
  obtain ⟨K,hK⟩ : ∃ K,K = ((((((H.set n0 (.arr 25 [.int .i64 0,.int .i64 0,.nils,.nils])).set n1 (.arr 4 [.bool true,.bool false])).set n2 (.arr 2 [.int .i64 1,.int .i64 0])).set n3 (.arr 2 [.int .i64 1,.int .i64 0])).set n4 (.arr 36 [.sl n2 0 2,.sl n3 0 2])).set n6 (.arr 25 [encN 1,encN 0,.sl n1 0 2,.sl n4 0 2])):=⟨_,rfl⟩
  rw [← hK] at o6
  have hrel : RdP K n6 1 0 domY:=by
    refine ⟨.sl n1 0 2,.sl n4 0 2,o6.at 0 rfl,o6.rd 4 (bo:=some n1) (ty:=4) rfl rfl,?_⟩
    have op:=o6.perm (M:=[(some n6,.arr 25 [encN 1,encN 0,.sl n1 0 2,.sl n4 0 2]),(some n4,.arr 36 [.sl n2 0 2,.sl n3 0 2])]++[(some n3,.arr 2 [.int .i64 1,.int .i64 0]),(some n2,.arr 2 [.int .i64 1,.int .i64 0]),(some n1,.arr 4 [.bool true,.bool false]),(some n0,.arr 25 [.int .i64 0,.int .i64 0,.nils,.nils])]) (List.Perm.refl _)
    refine ⟨[.sl n2 0 2,.sl n3 0 2],op.rd 1 (bo:=some n4) rfl rfl,rfl,fun i u xs hu hx => ?_⟩
    match i,hu,hx with
    | 0,hu,hx => simp [domY] at hu hx; subst hu; subst hx; exact o6.rd 3 (bo:=some n2) rfl rfl
    | 1,hu,hx => simp [domY] at hu hx; subst hu; subst hx; exact o6.rd 2 (bo:=some n3) rfl rfl
    | i + 2,hu,hx => simp [domY] at hx
  have hK' : K = ((((((H.set n0 (.arr 25 [.int .i64 0,.int .i64 0,.nils,.nils])).set n1 (.arr 4 [.bool true,.bool false])).set n2 (.arr 2 [.int .i64 1,.int .i64 0])).set n3 (.arr 2 [.int .i64 1,.int .i64 0])).set n4 (.arr 36 [.sl n2 0 2,.sl n3 0 2])).set n6 (.arr 25 [.int .i64 1,.int .i64 0,.sl n1 0 2,.sl n4 0 2])):=hK
  rw [← hK']
  refine (s_tidied (base:=base) 1 0 n6 (by omega) domY K hrel domY_ok domY_ok.pos (by decide)).step fun v K1 k1 hv => ?_
  rw [domY_TA] at hv
  obtain ⟨u',w',bo,wo,vs,fr,rfl,om,hm1,hm2,hm3⟩:=hv
  have oj:=Own.join (o6.sub (M:=[(some n0,.arr 25 [.int .i64 0,.int .i64 0,.nils,.nils])]) (.cons _ (.cons _ (.cons _ (.cons _ (.cons _ (.cons_cons _ .slnil))))))) k1 om
  obtain ⟨K5,g5,o5⟩:=oj.putAll 0 (b:=n0) (n:=4) (ds:=[encN 1,encN 0,u',w']) rfl rfl rfl (by simp [hm1.one,hm2.one]) (rt:=none) rfl
  have r2:=rd_all (o5.at 0 (b:=n0) rfl) (n:=4) (rt:=none) rfl rfl
  simp [hm1.one,hm2.one,g5,r2]
  exact ⟨o5.keeps,u',w',bo,wo,vs,fr,rfl,o5.drop 1,hm1,hm2,hm3⟩
theorem OwnRel.at {H K : BH} {t s : Nat} {A : Aut} {u x : BV} (h : OwnRel base H K t s A (.agg [encN t,encN s,u,x])) : u.one = true∧x.one = true:=h.rd.one
def RdQ {α : Type} (H : BH) (ty : Nat) (v : BV) (f : α→BV) (xss : List (List α)) : Prop:=∃ vs : List BV,Rd H ty v vs∧vs.length = xss.length∧∀ (i : Nat) (u : BV) (xs : List α),vs[i]? = some u→xss[i]? = some xs→∃ ty2,Rd H ty2 u (xs.map f)
section
variable {α : Type} {H K : BH} {ty : Nat} {v : BV} {f : α→BV} {xss : List (List α)}
theorem RdQ.keeps (h : RdQ H ty v f xss) (k : H.Keeps K) : RdQ K ty v f xss:=by
  obtain ⟨vs,h1,h2,h3⟩:=h
  exact ⟨vs,h1.keeps k,h2,fun i u xs hu hx => (h3 i u xs hu hx).imp fun _ g => g.keeps k⟩
theorem RdQ.isSl (h : RdQ H ty v f xss) : v.isSl = true:=by
  obtain ⟨vs,h1,h2,h3⟩:=h
  exact h1.isSl
theorem RdQ.len (h : RdQ H ty v f xss) : v.slen = xss.length:=by
  obtain ⟨vs,h1,h2,h3⟩:=h
  rw [Rd.len h1,h2]
theorem RdQ.at (h : RdQ H ty v f xss) {i : Nat} (hi : i < xss.length) : ∃ u,(∃ ty2,Rd H ty2 u (xss[i].map f))∧∀ (rt : Option Nat),rtOk rt ty = true→H.rd rt none (v.sat i 1) = some u:=by
  obtain ⟨vs,h1,h2,h3⟩:=h
  have hi' : i < vs.length:=by omega
  refine ⟨vs[i],h3 i _ _ (List.getElem?_eq_getElem hi') (List.getElem?_eq_getElem hi),fun rt hrt => ?_⟩
  refine Sls.rd1 h1 (i:=i) (c:=vs[i]) ?_ hrt
  simp [hi']
theorem RdQ.cells (h : RdQ H ty v f xss) : RdQ H ty v (fun c => c) (xss.map (·.map f)):=by
  obtain ⟨vs,h1,h2,h3⟩:=h
  refine ⟨vs,h1,by simpa using h2,fun i u xs hu hx => ?_⟩
  rw [List.getElem?_map,Option.map_eq_some_iff] at hx
  obtain ⟨ys,hys,rfl⟩:=hx
  rw [List.map_id']
  exact h3 i u ys hu hys
end
def RdL (H : BH) (T S : Int) (acc : List Bool) (rows : List (List Int)) (m : BV) : Prop:=∃ u w tb tw,m = .agg [.int .i64 T,.int .i64 S,u,w]∧Rd H tb u (acc.map encB)∧RdQ H tw w encI rows
theorem RdL.keeps {H K : BH} {T S : Int} {acc : List Bool} {rows : List (List Int)} {m : BV} (h : RdL H T S acc rows m) (k : H.Keeps K) : RdL K T S acc rows m:=by
  obtain ⟨u,w,tb,tw,h1,h2,h3⟩:=h
  exact ⟨u,w,tb,tw,h1,h2.keeps k,h3.keeps k⟩
def fillB (cs : List BV) (z : BV) (i : Nat) : List BV:=cs.take i++List.replicate (cs.length - i) z
def OwnQ (base : Nat) (H K : BH) (T S : Int) (acc : List Bool) (rows : List (List Int)) (m : BV) (Z : List Sl) : Prop:=∃ u x bo wo vs fr,m = .agg [.int .i64 T,.int .i64 S,u,x]∧Own base H K ((bo,.arr 4 (acc.map encB))::(wo,.arr 36 vs)::(fr++Z))∧Vec bo u acc.length∧Vec wo x vs.length∧RowsOf 2 vs fr (rows.map (·.map encI))
theorem OwnQ.rd {H K : BH} {T S : Int} {acc : List Bool} {rows : List (List Int)} {m : BV} {Z : List Sl} (h : OwnQ base H K T S acc rows m Z) : RdRaw K T S acc rows m:=by
  obtain ⟨u,x,bo,wo,vs,fr,rfl,o,hu,hx,hr⟩:=h
  have o' : Own base H K ((bo,.arr 4 (acc.map encB))::(wo,.arr 36 vs)::fr):=o.sub (.cons_cons _ (.cons_cons _ (List.sublist_append_left _ _)))
  refine ⟨u,x,rfl,o'.rd 0 rfl (by simpa using hu),?_⟩
  exact RowsOf.rdR (bo:=wo) (F:=[(bo,.arr 4 (acc.map encB)),(wo,.arr 36 vs)]) o' hr (o'.rd 1 rfl hx)
abbrev Raw4:=Int × Int × List Bool × List (List Int)
def RdRs (H : BH) (v : BV) (l : List Raw4) : Prop:=∃ cs : List (List BV),Sls H 25 4 v cs∧cs.length = l.length∧∀ (i : Nat) (c : List BV) (r : Raw4),cs[i]? = some c→l[i]? = some r→RdRaw H r.1 r.2.1 r.2.2.1 r.2.2.2 (.agg c)
theorem RdRs.keeps {H K : BH} {v : BV} {l : List Raw4} (h : RdRs H v l) (k : H.Keeps K) : RdRs K v l:=by
  obtain ⟨cs,h1,h2,h3⟩:=h
  exact ⟨cs,h1.keeps k,h2,fun i c r hc hr => (h3 i c r hc hr).keeps k⟩
theorem RdRs.get {H : BH} {v : BV} {l : List Raw4} (h : RdRs H v l) {i : Nat} (hi : i < l.length) : ∃ u w,H.rd none (some 4) (v.sat i 4) = some (.agg [.int .i64 l[i].1,.int .i64 l[i].2.1,u,w])∧RdRaw H l[i].1 l[i].2.1 l[i].2.2.1 l[i].2.2.2 (.agg [.int .i64 l[i].1,.int .i64 l[i].2.1,u,w]):=by
  obtain ⟨cs,h1,h2,h3⟩:=h
  have hc : cs[i]? = some cs[i]:=List.getElem?_eq_getElem (by omega)
  have hr:=h3 i _ _ hc (List.getElem?_eq_getElem hi)
  obtain ⟨u,w,e,-⟩:=id hr
  rw [e] at hr
  refine ⟨u,w,?_,hr⟩
  rw [← e]
  exact h1.rd hc rfl
def ltr (n i : Nat) : Nat:=97 + n / 2 ^ i % 2
def bl (n : Nat) : Nat:=if n = 0 then 0 else n.log2 + 1
def wordL (n r : Nat) : List Nat:=(List.range r).map (ltr n)
def wordB (n : Nat) : ByteArray:=⟨((wordL n (bl n)).map UInt8.ofNat).toArray⟩
theorem bl_pos {n r : Nat} : 0 < n / 2 ^ r↔r < bl n:=by
  unfold bl
  by_cases h : n = 0
  · subst h; simp
  · rw [if_neg h,Nat.lt_succ_iff,Nat.le_log2 h]
    constructor
    · intro h1
      have:=Nat.div_mul_le_self n (2 ^ r)
      have h2 : 1 * 2 ^ r≤n / 2 ^ r * 2 ^ r:=Nat.mul_le_mul_right _ h1
      omega
    · intro h1
      exact Nat.div_pos h1 (Nat.two_pow_pos r)
theorem bl_le {n : Nat} (h : n≤1000000000) : bl n≤30:=by
  unfold bl
  split
  · omega
  · have : n.log2 < 30:=(Nat.log2_lt (by omega)).2 (by omega)
    omega
theorem half (n r : Nat) : n / 2 ^ r / 2 = n / 2 ^ (r + 1):=by rw [Nat.div_div_eq_div_mul,Nat.pow_succ]
theorem wordL_succ (n r : Nat) : wordL n (r + 1) = wordL n r++[ltr n r]:=by simp [wordL,List.range_succ]
theorem wordL_len (n r : Nat) : (wordL n r).length = r:=by simp [wordL]
def strL (xs : List Nat) : ByteArray:=⟨(xs.map UInt8.ofNat).toArray⟩
theorem strL_snoc (xs : List Nat) (b : Nat) : strL xs++strL [b] = strL (xs++[b]):=by
  apply ByteArray.ext
  rw [ByteArray.data_append]
  simp [strL]
theorem strL_size (xs : List Nat) : (strL xs).size = xs.length:=by simp [strL,ByteArray.size]
theorem ab_letter (d : Nat) (h : d < 2) : (⟨#[97,98]⟩ : ByteArray).extract d (d + 1) = strL [97 + d]:=by
  have : d = 0∨d = 1:=by omega
  rcases this with rfl | rfl <;> decide
theorem i_word (n : Nat) (hn : n≤1000000000) (H : BH) : FnDoes (gam base) 57 [encN n] H fun v _ => v = .str (wordB n):=by
  refine FnDoes.of (fn:=ir57) rfl ?_
  have hbl:=bl_le hn
  simp [ir57]
  obtain ⟨I,hI⟩ : ∃ I : Nat→Env→BH→Prop,I = (fun r e K => e 0 = encN (n / 2 ^ r)∧e 3 = .str (strL (wordL n r))∧K = H):=⟨_,rfl⟩
  refine wpC_countK (bl n) [] I (i0:=0) ?_ ?_ ?_ (Nat.zero_le _) ?_
  · rfl
  · trivial
  · rw [hI]
    exact ⟨by simp,by simp [strL,wordL],rfl⟩
  rintro r e K hr - hh
  rw [hI] at hh
  obtain ⟨e0,e3,rfl⟩:=hh
  obtain ⟨m,hm⟩ : ∃ m,m = n / 2 ^ r:=⟨_,rfl⟩
  have hp:=bl_pos (n:=n) (r:=r)
  have hh2:=half n r
  have hmn : m≤1000000000:=by rw [hm]; exact Nat.le_trans (Nat.div_le_self _ _) hn
  rw [← hm] at e0 hp hh2
  by_cases hlt : r < bl n
  · have h0 : 0 < m:=hp.2 hlt
    have hb : ltr n r = 97 + m % 2:=by unfold ltr; rw [← hm]
    obtain ⟨d,hd⟩ : ∃ d,d = m % 2:=⟨_,rfl⟩
    have hd2 : d < 2:=by omega
    rw [← hd] at hb
    have t1 : (m : Int) % 2 = (d : Int):=by omega
    have t1' : (m : Int).tmod 2 = (d : Int):=by rw [hd]; exact tmodN m 2
    have w1 : IntKind.i64.wrap ((d : Int) + 1) = ((d + 1 : Nat) : Int):=wS (by omega)
    have w3' : IntKind.i64.wrap ((m : Int).tdiv 2) = ((m / 2 : Nat) : Int):=by
      rw [show (m : Int).tdiv 2 = ((m / 2 : Nat) : Int) from tdivN m 2]; exact wN (by omega)
    have w3 : IntKind.i64.wrap ((m : Int) / 2) = ((m / 2 : Nat) : Int):=by
      have e : (m : Int) / 2 = ((m / 2 : Nat) : Int):=by omega
      rw [e]; exact wN (by omega)
    have h0' : (0 : Int) < (m : Int):=by omega
    have hsz : (⟨#[97,98]⟩ : ByteArray).size = 2:=rfl
    have hext:=ab_letter d hd2
    simp [e0,e3,h0',h0,t1,t1',w1,w3,w3',hsz,hext,hlt]
    rw [if_pos (show (0 : Int)≤(d : Int) + 1 by omega)]
    have hno : ¬ (9223372036854775807 : Int) < ((strL (wordL n r)).size : Int) + ((strL [97 + d]).size : Int):=by
      rw [strL_size,strL_size,wordL_len]
      simp
      omega
    simp [show d + 1≤2 by omega,hext,hno,e0,e3,w3,w3',hlt]
    rw [hI]
    refine ⟨by simp; exact_mod_cast hh2,?_,rfl⟩
    simp [wordL_succ,hb,strL_snoc]
  · have h0 : m = 0:=by omega
    have hre : r = bl n:=by omega
    subst h0
    simp [e0,e3]
    rw [hre]
    exact ⟨BH.Keeps.refl K,rfl⟩
def colD (ds : List Nat) : Nat:=ds.foldr (fun d a => 3 * a + d) 0
def Dig3 (ds : List Nat) : Prop:=∀ d∈ds,d < 3
theorem colD_lt : ∀ {ds : List Nat},Dig3 ds→colD ds < p3 ds.length
  | [],_ => by simp [colD,p3]
  | d::ds,h => by
    have h1:=colD_lt (ds:=ds) fun x hx => h x (List.mem_cons_of_mem _ hx)
    have h2:=h d List.mem_cons_self
    simp only [List.length_cons,p3_succ]
    show 3 * colD ds + d < _
    omega
theorem colD_wd : ∀ {ds : List Nat},Dig3 ds→(∃ d∈ds,d < 2)→colD ds < wd ds.length
  | [],_,h => by obtain ⟨d,hd,_⟩:=h; cases hd
  | d::ds,h,hs => by
    have hd : Dig3 ds:=fun x hx => h x (List.mem_cons_of_mem _ hx)
    have h1:=colD_lt hd
    have h2:=h d List.mem_cons_self
    have h3:=p3_pos ds.length
    unfold wd
    simp only [List.length_cons,p3_succ]
    show 3 * colD ds + d < _
    obtain ⟨x,hx,hx2⟩:=hs
    rcases List.mem_cons.1 hx with rfl | hx
    · omega
    · have h4:=colD_wd hd ⟨x,hx,hx2⟩
      unfold wd at h4
      omega
theorem colD_snoc (ds : List Nat) (d : Nat) : colD (ds++[d]) = colD ds + d * p3 ds.length:=by
  induction ds with
  | nil => simp [colD,p3]
  | cons x ds ih =>
    show 3 * colD (ds++[d]) + x = 3 * colD ds + x + d * p3 (ds.length + 1)
    rw [ih,p3_succ,Nat.mul_add,← Nat.mul_assoc d,Nat.mul_comm (d * p3 ds.length)]
    omega
theorem colD_drop {ds : List Nat} {i : Nat} (h : i < ds.length) : colD (ds.drop i) = 3 * colD (ds.drop (i + 1)) + ds[i]:=by
  rw [List.drop_eq_getElem_cons h]
  rfl
def IsW (w : List Nat) : Prop:=∀ b∈w,b = 97∨b = 98
def dgW (i : Nat) (w : List Nat) : Nat:=if i < w.length then w.getD i 97 - 97 else 2
def colW (ws : List (List Nat)) (i : Nat) : Nat:=colD (ws.map (dgW i))
def lngW (ws : List (List Nat)) : Nat:=ws.foldl (fun a w => max a w.length) 0
def colsW (ws : List (List Nat)) : List Nat:=(List.range (lngW ws)).map (colW ws)
theorem lng_snoc (ws : List (List Nat)) (w : List Nat) : lngW (ws++[w]) = max (lngW ws) w.length:=by simp [lngW,List.foldl_append]
theorem lng_le {ws : List (List Nat)} {N : Nat} : (∀ w∈ws,w.length≤N)→lngW ws≤N:=by
  have key : ∀ (ws : List (List Nat)) (a : Nat),a≤N→(∀ w∈ws,w.length≤N)→ws.foldl (fun a w => max a w.length) a≤N:=by
    intro ws
    induction ws with
    | nil => intro a ha _; exact ha
    | cons w ws ih =>
      intro a ha h
      have:=h w List.mem_cons_self
      exact ih _ (Nat.max_le.2 ⟨ha,this⟩) fun x hx => h x (List.mem_cons_of_mem _ hx)
  exact key ws 0 (Nat.zero_le _)
theorem lng_lt {ws : List (List Nat)} {i : Nat} : i < lngW ws↔∃ w∈ws,i < w.length:=by
  have key : ∀ (ws : List (List Nat)) (a : Nat),i < ws.foldl (fun a w => max a w.length) a↔(i < a∨∃ w∈ws,i < w.length):=by
    intro ws
    induction ws with
    | nil => intro a; simp
    | cons w ws ih =>
      intro a
      have hm : i < max a w.length↔i < a∨i < w.length:=by omega
      rw [List.foldl_cons,ih,hm]
      simp only [List.mem_cons,exists_eq_or_imp]
      exact or_assoc
  rw [lngW,key]
  simp
theorem IsW.get {w : List Nat} (h : IsW w) {i : Nat} (hi : i < w.length) : w[i] = 97∨w[i] = 98:=h _ (List.getElem_mem hi)
theorem dgW_lt {w : List Nat} (h : IsW w) (i : Nat) : dgW i w < 3:=by
  unfold dgW
  split
  · rename_i hi
    have:=h.get hi
    simp [hi]
    omega
  · omega
theorem dgW_let {w : List Nat} (h : IsW w) {i : Nat} (hi : i < w.length) : dgW i w = w[i] - 97∧dgW i w < 2:=by
  have:=h.get hi
  simp only [dgW,hi,if_true]
  simp [hi]
  omega
theorem col_dig {ws : List (List Nat)} (h : ∀ w∈ws,IsW w) (i : Nat) : Dig3 (ws.map (dgW i)):=fun d hd => by
  obtain ⟨w,hw,rfl⟩:=List.mem_map.1 hd
  exact dgW_lt (h w hw) i
theorem cols_in {ws : List (List Nat)} (h : ∀ w∈ws,IsW w) : In (wd ws.length) (colsW ws):=fun c hc => by
  obtain ⟨i,hi,rfl⟩:=List.mem_map.1 hc
  rw [List.mem_range,lng_lt] at hi
  obtain ⟨w,hw,hl⟩:=hi
  have:=colD_wd (col_dig h i) ⟨dgW i w,List.mem_map.2 ⟨w,hw,rfl⟩,(dgW_let (h w hw) hl).2⟩
  rwa [List.length_map] at this
theorem colsW_len (ws : List (List Nat)) : (colsW ws).length = lngW ws:=by simp [colsW]
theorem str_get {w : List Nat} {i : Nat} (hi : i < w.length) (h : IsW w) : (strL w)[i]? = some (UInt8.ofNat w[i]):=by
  rw [getElem?_pos (strL w) i (by rw [show (strL w).size = w.length from strL_size w]; exact hi)]
  simp [strL,ByteArray.getElem_eq_getElem_data]
theorem u8_let {b : Nat} (h : b = 97∨b = 98) : (UInt8.ofNat b).toNat = b:=by rw [UInt8.toNat_ofNat']; omega
theorem let_sub {b : Nat} (h : b = 97∨b = 98) : IntKind.i64.wrap (IntKind.u8.wrap ((b : Int) - 97)) = ((b - 97 : Nat) : Int):=by rcases h with rfl | rfl <;> rfl
theorem i_columnOf (ds : List Nat) (v : BV) (H : BH) (h : Rd H 3 v (ds.map encN)) (h3 : Dig3 ds) (hl : ds.length≤30) : FnDoes (gam base) 107 [v] H fun u K => u = encN (colD ds):=by
  refine FnDoes.of (fn:=ir107) rfl ?_
  have w0:=wsub1 (n:=ds.length) (by omega)
  simp [ir107,h.isSl,h.lenM,w0]
  refine wpC_countK ds.length [(0,v)] (fun i e K => e 3 = encN (colD (ds.drop (ds.length - i)))∧e 4 = .int .i64 ((ds.length : Int) - 1 - i)∧K = H) (i0:=0) rfl ?_ ?_ (Nat.zero_le _) ?_
  · simp
  · simp [colD]
  rintro i e K hi ⟨e0,-⟩ ⟨e3,e4,rfl⟩
  simp only [] at e0
  by_cases hlt : i < ds.length
  · have hj : ds.length - i = ds.length - (i + 1) + 1:=by omega
    obtain ⟨j,hjj⟩ : ∃ j,j = ds.length - (i + 1):=⟨_,rfl⟩
    have e4' : ((ds.length : Int) - 1 - i) = (j : Int):=by omega
    have hjl : j < ds.length:=by omega
    have c1:=colD_drop hjl
    have c2:=colD_lt (ds:=ds.drop (j + 1)) fun x hx => h3 x (List.mem_of_mem_drop hx)
    have c3:=p3_le (show (ds.drop (j + 1)).length≤30 by simp; omega)
    rw [p3_30] at c3
    have hd:=h3 _ (List.getElem_mem hjl)
    have g1:=h.at (i:=j) hjl (rt:=none) rfl
    rw [hj,← hjj] at e3
    rw [e4'] at e4
    have m1:=pb_mul (a:=3) (b:=colD (ds.drop (j + 1))) (by omega)
    have w1 : IntKind.i64.wrap (3 * ((colD (ds.drop (j + 1)) : Nat) : Int)) = ((3 * colD (ds.drop (j + 1)) : Nat) : Int):=by rw [w64 (by omega) (by omega)]; simp
    have w2 : IntKind.i64.wrap (((3 * colD (ds.drop (j + 1)) : Nat) : Int) + (ds[j] : Nat)) = ((colD (ds.drop j) : Nat) : Int):=by rw [w64 (by omega) (by omega),c1]; simp
    have w4:=wsub1 (n:=j) (by omega)
    simp [e0,e3,e4,hjl,h.isSl,h.lenM,g1,w1,w4,hlt]
    refine ⟨?_,by omega⟩
    have : IntKind.i64.wrap (3 * ((colD (ds.drop (j + 1)) : Nat) : Int) + ((ds[j] : Nat) : Int)) = ((colD (ds.drop j) : Nat) : Int):=by rw [w64 (by omega) (by omega),c1]; simp
    subst hjj
    exact this
  · have hie : i = ds.length:=by omega
    subst hie
    rw [show ((ds.length : Int) - 1 - (ds.length : Nat)) = -1 by omega] at e4
    simp [e3,e4]
    exact BH.Keeps.refl K
abbrev encW (w : List Nat) : BV:=.str (strL w)
theorem lng_take {ws : List (List Nat)} {i : Nat} (h : i < ws.length) : lngW (ws.take (i + 1)) = max (lngW (ws.take i)) ws[i].length:=by
  rw [List.take_add_one,List.getElem?_eq_getElem h]
  exact lng_snoc _ _
theorem max_nat (a b : Nat) : (if a < b then (b : Int) else (a : Int)) = ((max a b : Nat) : Int):=by split <;> omega
theorem str_getE (w : List Nat) (i : Nat) (hi : i < (strL w).size) : (strL w)[i] = UInt8.ofNat (w[i]'(by rwa [strL_size] at hi)):=by simp [strL,ByteArray.getElem_eq_getElem_data]
def dgsW (ws : List (List Nat)) (i j : Nat) : List Nat:=(ws.take j).map (dgW i)
theorem dgsW_len {ws : List (List Nat)} {i j : Nat} (h : j≤ws.length) : (dgsW ws i j).length = j:=by simp [dgsW]; omega
theorem dgsW_succ {ws : List (List Nat)} {i j : Nat} (h : j < ws.length) : dgsW ws i (j + 1) = dgsW ws i j++[dgW i ws[j]]:=by
  unfold dgsW
  rw [List.take_add_one,List.getElem?_eq_getElem h,List.map_append]
  rfl
theorem i_columnsOf (ws : List (List Nat)) (v : BV) (H : BH) (h : Rd H 9 v (ws.map encW)) (hw : ∀ w∈ws,IsW w) (hn : ws.length≤30) (hl : ∀ w∈ws,w.length≤1000000) :
    FnDoes (gam base) 62 [v] H fun u K => ∃ bo,OwnV base K 3 u ((colsW ws).map encN) bo∧Fr H bo:=by
  obtain ⟨R,hR⟩ : ∃ R : BV→BH→Prop,R = fun u K => ∃ bo,OwnV base K 3 u ((colsW ws).map encN) bo∧Fr H bo:=⟨_,rfl⟩
  rw [← hR]
  refine FnDoes.of (fn:=ir62) rfl ?_
  have hlm:=lng_le hl
  simp [ir62,h.isSl,h.lenM]
  obtain ⟨I,hI⟩ : ∃ I : Nat→Env→BH→Prop,I = (fun i e K => e 14 = encN i∧e 3 = encN (lngW (ws.take i))∧K = H):=⟨_,rfl⟩
  refine wpC_countK ws.length [(0,v),(12,v),(13,encN ws.length)] I (i0:=0) rfl ?_ ?_ (Nat.zero_le _) ?_
  · simp
  · rw [hI]; exact ⟨by simp,by simp [lngW],rfl⟩
  rintro i e K hi ⟨e0,e12,e13,-⟩ hh
  rw [hI] at hh
  obtain ⟨e14,e3,rfl⟩:=hh
  simp only [] at e0 e12 e13
  by_cases hlt : i < ws.length
  · have g1:=h.at (i:=i) hlt (rt:=none) rfl
    have wi:=wS (n:=i) (by omega)
    simp [e12,e13,e14,e3,hlt,h.isSl,h.lenM,g1,wi,strL_size,max_nat]
    rw [hI]
    refine ⟨by simp,?_,rfl⟩
    rw [lng_take hlt]
    simp
  have hie : i = ws.length:=by omega
  subst hie
  rw [List.take_length] at e3
  simp [e13,e14]
  obtain ⟨J,hJ⟩ : ∃ J : Nat→Env→BH→Prop,J = (fun i e K' => e 7 = encN i∧∃ u bo,e 6 = u∧Own base K K' [(bo,.arr 3 (((List.range i).map (colW ws)).map encN))]∧Vec bo u i):=⟨_,rfl⟩
  refine wpC_countK (lngW ws) [(0,v),(3,encN (lngW ws))] J (i0:=0) rfl ?_ ?_ (Nat.zero_le _) ?_
  · simp [e0,e3]
  · rw [hJ]; exact ⟨by simp,.nils,none,by simp,Own.start.nil _,Vec.none⟩
  clear e0 e12 e13 e14 e3
  rintro i e M hi' ⟨e0,e3,-⟩ hh
  rw [hJ] at hh
  obtain ⟨e7,u,bo,e6,o,hu⟩:=hh
  simp only [] at e0 e3
  have hm:=h.keeps o.keeps
  by_cases hlt : i < lngW ws
  · have wi:=wS (n:=i) (by omega)
    simp [e7,e3,hlt,e0,hm.isSl,hm.lenM]
    obtain ⟨G,hG⟩ : ∃ G : Nat→Env→BH→Prop,G = (fun j e K' => e 30 = encN j∧∃ u2 bo2,e 8 = u2∧Own base K K' [(bo2,.arr 3 ((dgsW ws i j).map encN)),(bo,.arr 3 (((List.range i).map (colW ws)).map encN))]∧Vec bo2 u2 j):=⟨_,rfl⟩
    refine wpC_countK ws.length [(0,v),(3,encN (lngW ws)),(7,encN i),(6,u),(28,v),(29,encN ws.length)] G (i0:=0) rfl ?_ ?_ (Nat.zero_le _) ?_
    · simp [e0,e3,e7,e6]
    · rw [hG]
      exact ⟨by simp,.nils,none,by simp,by simpa [dgsW] using o.nil _,Vec.none⟩
    clear e0 e3 e7 e6
    rintro j e N hj ⟨e0,e3,e7,e6,e28,e29,-⟩ hh
    rw [hG] at hh
    obtain ⟨e30,u2,bo2,e8,o2,hu2⟩:=hh
    simp only [] at e0 e3 e7 e6 e28 e29
    have hm2:=h.keeps o2.keeps
    by_cases hlt2 : j < ws.length
    · have g1:=hm2.at (i:=j) hlt2 (rt:=none) rfl
      have wj:=wS (n:=j) (by omega)
      have hwj:=hw _ (List.getElem_mem hlt2)
      have hlj:=hl _ (List.getElem_mem hlt2)
      obtain ⟨w,hwe⟩ : ∃ w,w = ws[j]:=⟨_,rfl⟩
      have hs:=dgsW_succ (i:=i) hlt2
      rw [← hwe] at hwj hlj g1 hs
      by_cases hil : i < w.length
      · have g2:=str_get hil hwj
        have g3:=u8_let (hwj.get hil)
        have g4:=let_sub (hwj.get hil)
        have g5:=(dgW_let hwj hil).1
        simp [e28,e29,e30,hlt2,hm2.isSl,hm2.lenM,g1,e7,strL_size,hil,str_getE,g3,g4,e8]
        intro n1 b1 f1
        simp [make_of f1 b1]
        intro n2 b2 f2
        obtain ⟨v',K',b',q1,q2,q3⟩:=o2.push 0 rfl (by simpa [dgsW_len hj] using hu2) (x:=encN (w[i] - 97)) (bytes:=8) rfl (by simp [dgsW_len hj]; omega) (by simp [dgsW_len hj]; omega) f1 b1 f2 b2
        simp [q1,e30,wj,hlt2]
        rw [hG]
        refine ⟨by simp,v',some b',by simp,?_,by simpa [dgsW_len hj] using q3⟩
        rw [hs,g5]
        simpa using q2
      · have g5 : dgW i w = 2:=by simp [dgW,hil]
        simp [e28,e29,e30,hlt2,hm2.isSl,hm2.lenM,g1,e7,strL_size,hil,e8]
        intro n1 b1 f1
        simp [make_of f1 b1]
        intro n2 b2 f2
        obtain ⟨v',K',b',q1,q2,q3⟩:=o2.push 0 rfl (by simpa [dgsW_len hj] using hu2) (x:=.int .i64 2) (bytes:=8) rfl (by simp [dgsW_len hj]; omega) (by simp [dgsW_len hj]; omega) f1 b1 f2 b2
        simp [q1,e30,wj,hlt2]
        rw [hG]
        refine ⟨by simp,v',some b',by simp,?_,by simpa [dgsW_len hj] using q3⟩
        rw [hs,g5]
        simpa [show encN 2 = BV.int .i64 2 from rfl] using q2
    · have hje : j = ws.length:=by omega
      subst hje
      have hcol : colD (dgsW ws i ws.length) = colW ws i:=by unfold dgsW colW; rw [List.take_length]
      have hd3 : Dig3 (dgsW ws i ws.length):=by unfold dgsW; rw [List.take_length]; exact col_dig hw i
      simp [e29,e30,e8,e6]
      refine (i_columnOf (base:=base) (dgsW ws i ws.length) u2 N (o2.rd 0 rfl (by simpa [dgsW_len] using hu2)) hd3 (by rw [dgsW_len (Nat.le_refl _)]; omega)).step fun v5 K5 k5 hv => ?_
      subst hv
      rw [hcol]
      simp [e6]
      intro n1 b1 f1
      simp [make_of f1 b1]
      intro n2 b2 f2
      obtain ⟨v',K',b',q1,q2,q3⟩:=(o2.call k5).tail.push 0 rfl (by simpa using hu) (x:=encN (colW ws i)) (bytes:=8) rfl (by simp; omega) (by simp; omega) f1 b1 f2 b2
      simp [q1,e7,wi,hlt]
      rw [hJ]
      refine ⟨by simp,v',some b',by simp,?_,by simpa using q3⟩
      rw [List.range_succ,List.map_append,List.map_append]
      simpa using q2
  · have hie : i = lngW ws:=by omega
    subst hie
    simp [e7,e3,e6]
    rw [hR]
    exact ⟨o.keeps,bo,o.vec 0 rfl (by simpa [colsW] using hu),fun b hb => by subst hb; exact o.fr 0 rfl⟩
theorem cellR {H : BH} {ty ty2 : Nat} {x : BV} {A : Aut} {w : Nat} (hx : RdR H ty ty2 x encN A.nxt) (hok : A.Ok w) {q c : Nat} (hq : q < A.acc.length) (hc : c < w) :
    ∃ r,(∀ rt,rtOk rt ty = true→H.rd rt none (x.sat q 1) = some r)∧r.isSl = true∧r.slen = w∧(∀ rt,rtOk rt ty2 = true→H.rd rt none (r.sat c 1) = some (encN (A.to q c))):=by
  have hq' : q < A.nxt.length:=by rw [hok.len]; exact hq
  obtain ⟨r,h1,h2⟩:=hx.at hq'
  have hl:=(hok.row _ (List.getElem_mem hq')).1
  have hc' : c < A.nxt[q].length:=by omega
  have e : A.to q c = A.nxt[q][c]:=by simp [Aut.to,hq',hc']
  exact ⟨r,h2,h1.isSl,by rw [h1.lenM,hl],fun rt hrt => by rw [h1.at hc' hrt,e]⟩
theorem run_take (A : Aut) (s : Nat) {cs : List Nat} {i : Nat} (h : i < cs.length) : A.run s (cs.take (i + 1)) = A.to (A.run s (cs.take i)) cs[i]:=by
  rw [List.take_add_one,List.getElem?_eq_getElem h]
  simp only [Aut.run,Option.toList,List.foldl_append,List.foldl_cons,List.foldl_nil]
theorem _root_.Go.Au.In.take {w : Nat} {cs : List Nat} (h : In w cs) (i : Nat) : In w (cs.take i):=fun c hc => h c (List.mem_of_mem_take hc)
theorem acc_getD {A : Aut} {q : Nat} (h : q < A.acc.length) : A.acc[q] = A.acc.getD q false:=by simp [h]
theorem i_takes (t s w : Nat) (A : Aut) (m cv : BV) (cs : List Nat) (H : BH) (h : RdM H t s A m) (hok : A.Ok w) (hs : s < A.acc.length) (hc : Rd H 3 cv (cs.map encN)) (hin : In w cs) (hn : cs.length≤1000000) :
    FnDoes (gam base) 61 [m,cv] H fun v _ => v = .bool (A.lang s cs):=by
  obtain ⟨R,hR⟩ : ∃ R : BV→BH→Prop,R = fun v _ => v = .bool (A.lang s cs):=⟨_,rfl⟩
  rw [← hR]
  refine FnDoes.of (fn:=ir61) rfl ?_
  obtain ⟨u,x,rfl,hu,hx⟩:=h
  have u1:=hu.one
  have x1:=one_of_isSl hx.isSl
  simp [ir61,u1,x1]
  intro n1 b1 f1
  have o1:=Own.start (base:=base) (H:=H) |>.new f1 b1 (s:=.arr 77 [encN t,encN s,u,x])
  have r1:=rd_ptr (o1.at 0 (b:=n1) rfl) (rt:=none) (j:=1) (c:=encN s) rfl rfl
  have r2:=rd_ptr (o1.at 0 (b:=n1) rfl) (rt:=none) (j:=2) (c:=u) rfl rfl
  have r3:=rd_ptr (o1.at 0 (b:=n1) rfl) (rt:=none) (j:=3) (c:=x) rfl rfl
  have hx':=hx.keeps o1.keeps
  have hu':=hu.keeps o1.keeps
  have hc':=hc.keeps o1.keeps
  simp [make_of f1 b1,r1,hc'.isSl,hc'.lenM]
  obtain ⟨K1,hK1⟩ : ∃ K1,K1 = H.set n1 (.arr 77 [encN t,encN s,u,x]):=⟨_,rfl⟩
  rw [← hK1] at r2 r3 hx' hu' hc' o1 ⊢
  obtain ⟨I,hI⟩ : ∃ I : Nat→Env→BH→Prop,I = (fun i e K => e 12 = encN i∧e 5 = encN (A.run s (cs.take i))∧K = K1):=⟨_,rfl⟩
  refine wpC_countK cs.length [(2,.ptr n1 0),(10,cv),(11,encN cs.length)] I (i0:=0) rfl ?_ ?_ (Nat.zero_le _) ?_
  · simp
  · rw [hI]; exact ⟨by simp,by simp [Aut.run],rfl⟩
  rintro i e K hi ⟨e2,e10,e11,-⟩ hh
  rw [hI] at hh
  obtain ⟨e12,e5,rfl⟩:=hh
  simp only [] at e2 e10 e11
  have hq:=hok.run hs (hin.take i)
  by_cases hlt : i < cs.length
  · have g1:=hc'.at (i:=i) hlt (rt:=none) rfl
    have wi:=wS (n:=i) (by omega)
    obtain ⟨r,q1,q2,q3,q4⟩:=cellR hx' hok hq (hin _ (List.getElem_mem hlt))
    have q1:=q1 none rfl
    have q4:=q4 none rfl
    have hci:=hin _ (List.getElem_mem hlt)
    simp [e2,e10,e11,e12,e5,hlt,hc'.isSl,hc'.lenM,g1,r3,hx'.isSl,hx'.len,hok.len,hq,q1,q2,q3,hci,q4,wi]
    rw [hI]
    exact ⟨by simp,by simp [run_take A s hlt],rfl⟩
  · have hie : i = cs.length:=by omega
    subst hie
    rw [List.take_length] at e5 hq
    have g2:=hu'.at (i:=A.run s cs) hq (rt:=none) rfl
    simp [e2,e11,e12,e5,r2,hu'.isSl,hu'.lenM,hq,g2]
    rw [hR]
    refine ⟨o1.keeps,?_⟩
    unfold Aut.lang
    rw [← acc_getD hq]
def wdN (n : Nat) : List Nat:=wordL n (bl n)
theorem wdN_w (n : Nat) : IsW (wdN n):=fun b hb => by
  unfold wdN wordL at hb
  obtain ⟨i,_,rfl⟩:=List.mem_map.1 hb
  unfold ltr
  omega
theorem wdN_len {n : Nat} (h : n≤1000000000) : (wdN n).length≤30:=by
  have:=bl_le h
  unfold wdN
  rw [wordL_len]
  omega
theorem wordB_eq (n : Nat) : (BV.str (wordB n)) = encW (wdN n):=rfl
theorem i_isNumber (n : Int) (H : BH) : Runs (gam base) 56 [.int .i64 n] H (.bool (inB n 0 1000000000)) H:=by
  refine runs_of (fn:=ir56) rfl ?_
  simp [ir56]
  refine callP (i_within n 0 1000000000 H) ?_
  simp
theorem RdRs.one {K : BH} {r : Raw4} {n : Nat} {u x : BV} (h : RdRaw K r.1 r.2.1 r.2.2.1 r.2.2.2 (.agg [.int .i64 r.1,.int .i64 r.2.1,u,x])) (hr : K.row n = .arr 25 [.int .i64 r.1,.int .i64 r.2.1,u,x]) : RdRs K (.sl n 0 1) [r]:=by
  refine ⟨[[.int .i64 r.1,.int .i64 r.2.1,u,x]],⟨rfl,rfl,fun i y hi => ?_⟩,rfl,fun i c q hi hq => ?_⟩
  · have : i = 0:=by have:=(List.getElem?_eq_some_iff.1 hi).1; simpa using this
    subst this
    simp at hi
    subst hi
    exact ⟨n,0,_,rfl,hr,by simp,rfl⟩
  · have : i = 0:=by have:=(List.getElem?_eq_some_iff.1 hi).1; simpa using this
    subst this
    simp at hi hq
    subst hi hq
    exact h
theorem rd_keeps {H K : BH} (k : H.Keeps K) {rt n : Option Nat} {p v : BV} (h : H.rd rt n p = some v) : K.rd rt n p = some v:=by
  cases p with
  | ptr b o =>
    have hne : H.row b≠.fresh:=by
      intro he
      simp [BH.rd,he] at h
    have e : K.row b = H.row b:=k b hne
    have : K.rd rt n (.ptr b o) = H.rd rt n (.ptr b o):=by simp only [BH.rd,e]
    rw [this,h]
  | _ => simp [BH.rd] at h
def FnW (Γ : Ctx) (f : Nat) (args : List BV) (H : BH) (P : BV→BH→Prop) : Prop:=∃ v K,Runs Γ f args H v K∧P v K
theorem FnW.of {Γ : Ctx} {f : Nat} {fn : BFun} {args : List BV} {H : BH} {P : BV→BH→Prop} (hf : Γ.fn f = some fn)
    (h : wpC Γ.base (Runs Γ) fn.body (fun x e' K => (x = .normal∨x = .ret)∧∃ v,resOf fn.results e' K = some v∧P v K) (argEnv args) H) : FnW Γ f args H P :=
  call_of_wp (R:=fun v K => P v K) hf h
theorem FnW.step {Γ : Ctx} {f : Nat} {args : List BV} {H : BH} {P : BV→BH→Prop} (h : FnW Γ f args H P) {d : Option Nat} {e : Env} {Kn : Env→BH→Prop}
    (hk : ∀ v K,P v K→Kn (e.puto d v) K) : CallS (Runs Γ) f args [] d Kn e H:=by
  obtain ⟨v,K,h1,h3⟩:=h
  exact ⟨v,K,h1,BH.KeepsTys.nil _ _,hk v K h3⟩
def mkI (k n : Nat) : List BV:=(List.range n).map fun j => encN (k + j)
def mkB (k n : Nat) : List BV:=(List.range n).map fun j => .bool (decide ((k + j) % 3 = 0))
def mixL (f : Nat→BV) (cs : List BV) (i : Nat) : List BV:=(List.range i).map f++cs.drop i
theorem mixL_len {f : Nat→BV} {cs : List BV} {i : Nat} (h : i≤cs.length) : (mixL f cs i).length = cs.length:=by simp [mixL]; omega
theorem mixL_zero {f : Nat→BV} {cs : List BV} : mixL f cs 0 = cs:=by simp [mixL]
theorem mixL_all {f : Nat→BV} {cs : List BV} : mixL f cs cs.length = (List.range cs.length).map f:=by simp [mixL]
theorem mixL_set {f : Nat→BV} {cs : List BV} {i : Nat} (h : i < cs.length) : (mixL f cs i).set i (f i) = mixL f cs (i + 1):=by
  unfold mixL
  rw [List.set_append_right _ _ (by simp),List.length_map,List.length_range,Nat.sub_self,List.drop_eq_getElem_cons h,List.set_cons_zero,List.range_succ,List.map_append]
  simp
section
variable {H K : BH} {L : List Sl} {bo : Option Nat} {cs : List BV} {v : BV}
theorem set_self {α : Type} {L : List α} {i : Nat} {x : α} (h : L[i]? = some x) : L.set i x = L:=by
  obtain ⟨hi,e⟩:=List.getElem?_eq_some_iff.1 h
  rw [← e]
  exact List.set_getElem_self hi
end
def MkQ (base : Nat) (H K : BH) (T S : Int) (k n p w : Nat) (m : BV) (Z : List Sl) : Prop:=∃ u x bo wo vs fr,m = .agg [.int .i64 T,.int .i64 S,u,x]∧Own base H K ((bo,.arr 4 (mkB k n))::(wo,.arr 36 vs)::(fr++Z))∧Vec bo u n∧Vec wo x vs.length∧RowsOf 2 vs fr ((List.range p).map fun i => mkI (k + n + i * w) w)
theorem OwnQ.call {H K K' : BH} {T S : Int} {acc : List Bool} {rows : List (List Int)} {m : BV} {Z : List Sl} (h : OwnQ base H K T S acc rows m Z) (k : K.Keeps K') : OwnQ base H K' T S acc rows m Z:=by
  obtain ⟨u,x,bo,wo,vs,fr,e,o,hu,hx,hr⟩:=h
  exact ⟨u,x,bo,wo,vs,fr,e,o.call k,hu,hx,hr⟩
theorem MkQ.call {H K K' : BH} {T S : Int} {k n p w : Nat} {m : BV} {Z : List Sl} (h : MkQ base H K T S k n p w m Z) (q : K.Keeps K') : MkQ base H K' T S k n p w m Z:=by
  obtain ⟨u,x,bo,wo,vs,fr,e,o,hu,hx,hr⟩:=h
  exact ⟨u,x,bo,wo,vs,fr,e,o.call q,hu,hx,hr⟩
theorem MkQ.keeps {H K : BH} {T S : Int} {k n p w : Nat} {m : BV} {Z : List Sl} (h : MkQ base H K T S k n p w m Z) : H.Keeps K:=by
  obtain ⟨u,x,bo,wo,vs,fr,e,o,hu,hx,hr⟩:=h
  exact o.keeps
theorem OwnQ.keeps {H K : BH} {T S : Int} {acc : List Bool} {rows : List (List Int)} {m : BV} {Z : List Sl} (h : OwnQ base H K T S acc rows m Z) : H.Keeps K:=by
  obtain ⟨u,x,bo,wo,vs,fr,e,o,hu,hx,hr⟩:=h
  exact o.keeps
theorem OwnQ.both {H K K1 K2 : BH} {T S T' S' : Int} {acc acc' : List Bool} {rows rows' : List (List Int)} {m m' : BV} {Z : List Sl} (h : OwnQ base H K T S acc rows m Z) (k : K.Keeps K1) (h2 : OwnQ base K1 K2 T' S' acc' rows' m' []) :
    ∃ Y,OwnQ base H K2 T S acc rows m Y∧∀ {K3 : BH} {L : List Sl},Own base H K3 (L++Y)→OwnQ base H K3 T' S' acc' rows' m' []:=by
  obtain ⟨u,x,bo,wo,vs,fr,e,o,hu,hx,hr⟩:=h
  obtain ⟨u',x',bo',wo',vs',fr',e',o',hu',hx',hr'⟩:=h2
  refine ⟨Z++((bo',.arr 4 (acc'.map encB))::(wo',.arr 36 vs')::(fr'++[])),⟨u,x,bo,wo,vs,fr,e,?_,hu,hx,hr⟩,fun {K3 L} o3 => ⟨u',x',bo',wo',vs',fr',e',o3.sub ?_,hu',hx',hr'⟩⟩
  · have:=(o.call k).join o'.keeps o'
    simpa using this
  · exact (List.sublist_append_right _ _).trans (List.sublist_append_right _ _)
end Go.Proofs.YtbnmhbmhafbmiaaGreatDoor.W
end
