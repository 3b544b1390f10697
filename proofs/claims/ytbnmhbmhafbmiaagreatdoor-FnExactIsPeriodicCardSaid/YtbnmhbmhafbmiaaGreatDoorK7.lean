/-
Texts of our own, put together: H8, H9, H10, H11, H12, J1, J2, J3, J4, J8, J9, J10, J11, J12, J13, J14, J15, J16, J17, J18, J19, J20, J21, D1, D2, D3, D4, D5, O1, X1.
-/
import Derived.Test.YtbnmhbmhafbmiaaGreatDoorK6
import Derived.Lib.SmallJoins
import Derived.Deep.Grids
import Derived.Deep.Matrix
import Derived.ChangeArms
import Derived.KernelRfl
import Derived.Shelf.Strconv.Itoa3
import Derived.Shelf.Slices.Delete
import Derived.Shelf.Abstract
import Derived.Ground.NamesProg
import Derived.Ground.Names2Prog
section
namespace Go.Proofs.YtbnmhbmhafbmiaaGreatDoor.W
set_option linter.unusedVariables false
set_option linter.unusedSimpArgs false
open Go.B
open Go.Au
variable {base : Nat}
attribute [local simp] wpC_skip wpC_region wpC_seq wpC_true wpC_false wpC_block wpC_exit wpC_ret wpO_nil wpO_n wpO_tt wpO_ff wpO_tf wpO_ft wpO_u wpS_mov wpS_pick wpS_build wpS_load wpS_store wpS_nilck wpS_bin wpS_beq wpS_isnil wpS_eqs wpS_not wpS_neg wpS_conv wpS_lea wpS_fld wpS_idx wpS_idxs wpS_slice wpS_sslice wpS_mkfn wpS_mset wpS_look wpS_ext wpS_len wpS_new wpS_box wpS_mk wpS_mkmap wpS_mksl wpS_app wpS_fn wpS_call after_some pthen_n pthen_x pthen_r pin BExit.outOf puto_some puto_none put_eq put_ne Opd.ev argEnv op1_mov op1_pick op1_new op1_box op1_load op1_nilck op1_bin op1_beq op1_not op1_neg op1_conv op1_lea op1_fld op1_len0 op1_len1 op1_idx op1_ext op1_build op1_mk op1_stw op1_mksl op1_eqs pureBin isShift resOf resVals val_tmp val_cell oneOf one_int cells_int one_bool cells_bool one_str cells_str one_nilp cells_nilp one_ptr cells_ptr one_nils cells_nils one_sl cells_sl one_sle cells_sle one_nilm cells_nilm one_mp cells_mp one_nilf cells_nilf one_fn cells_fn one_nili cells_nili cells_agg isSl_sl slen_sl sat_sl make_of asm rtOk wpS_b2s op1_b2s wpS_imax op1_imax wpS_imin op1_imin wpS_i2s op1_i2s op1_isnil Option.map_some gam_base op1_app op1_idxs wpS_idxa op1_idxa op1_sslice bound_none bound_some nat_of op1_mkmap op1_mset op1_look op1_len2 op1_mkfn Go.B.fillB Has
def setLI (M : List Bool) (i : Nat) : List Nat:=(List.range i).filter fun q => M.getD q false
def setL (M : List Bool) : List Nat:=setLI M M.length
theorem mem_setL {M : List Bool} {q : Nat} : q∈setL M↔q < M.length∧M.getD q false = true:=by simp [setL,setLI]
theorem setLI_succ (M : List Bool) (i : Nat) : setLI M (i + 1) = setLI M i++if M.getD i false = true then [i] else []:=by
  unfold setLI
  rw [List.range_succ,List.filter_append]
  congr 1
  rw [List.filter_cons,List.filter_nil]
theorem setLI_len (M : List Bool) (i : Nat) : (setLI M i).length≤i:=by
  have:=List.length_filter_le (fun q => M.getD q false) (List.range i)
  simpa [setLI] using this
theorem setL_len (M : List Bool) : (setL M).length≤M.length:=setLI_len M _
theorem setL_nodup (M : List Bool) : (setL M).Nodup:=List.nodup_range.sublist List.filter_sublist
theorem setL_lt {M : List Bool} : ∀ q∈setL M,q < M.length:=fun q hq => (mem_setL.1 hq).1
theorem setL_inj {S T : List Bool} (hl : S.length = T.length) (h : setL S = setL T) : S = T:=by
  apply List.ext_getElem hl
  intro q h1 h2
  have hS : S.getD q false = S[q]:=by rw [List.getD_eq_getElem?_getD,List.getElem?_eq_getElem h1]; rfl
  have hT : T.getD q false = T[q]:=by rw [List.getD_eq_getElem?_getD,List.getElem?_eq_getElem h2]; rfl
  have hm : q∈setL S↔q∈setL T:=by rw [h]
  rw [mem_setL,mem_setL,hS,hT] at hm
  rw [Bool.eq_iff_iff]
  constructor
  · intro h; exact (hm.1 ⟨h1,h⟩).2
  · intro h; exact (hm.2 ⟨h2,h⟩).2
def mrkK (A : Aut) (t tape : Nat) (ks : List Nat) (c d i : Nat) : List Bool:=(List.range A.acc.length).map fun p =>
  (ks.any fun q => (List.range d).any fun d' => decide (A.to q (withC t tape c d') = p)) || (ks.take i).any fun q => decide (A.to q (withC t tape c d) = p)
theorem mrkK_len (A : Aut) (t tape : Nat) (ks : List Nat) (c d i : Nat) : (mrkK A t tape ks c d i).length = A.acc.length:=by simp [mrkK]
theorem mrkK_zero (A : Aut) (t tape : Nat) (ks : List Nat) (c : Nat) : mrkK A t tape ks c 0 0 = List.replicate A.acc.length false:=by
  unfold mrkK
  rw [List.eq_replicate_iff]
  refine ⟨by simp,fun b hb => ?_⟩
  obtain ⟨p,_,rfl⟩:=List.mem_map.1 hb
  simp
theorem mrkK_next (A : Aut) (t tape : Nat) (ks : List Nat) (c d : Nat) : mrkK A t tape ks c d ks.length = mrkK A t tape ks c (d + 1) 0:=by
  unfold mrkK
  refine List.map_congr_left fun p _ => ?_
  rw [Bool.eq_iff_iff]
  simp only [Bool.or_eq_true,List.any_eq_true,List.mem_range,decide_eq_true_iff,List.take_length,List.take_zero,List.any_nil,Bool.false_eq_true,or_false]
  constructor
  · rintro (⟨q,hq,d',hd,h2⟩ | ⟨q,hq,h2⟩)
    · exact ⟨q,hq,d',by omega,h2⟩
    · exact ⟨q,hq,d,by omega,h2⟩
  · rintro ⟨q,hq,d',hd,h2⟩
    by_cases h : d' = d
    · subst h
      exact .inr ⟨q,hq,h2⟩
    · exact .inl ⟨q,hq,d',by omega,h2⟩
theorem mrkK_all {A : Aut} {t tape c : Nat} {S : List Bool} (hS : S.length = A.acc.length) : mrkK A t tape (setL S) c 3 0 = nxB A t tape S c:=by
  unfold mrkK nxB
  refine List.map_congr_left fun p _ => ?_
  rw [Bool.eq_iff_iff]
  simp only [Bool.or_eq_true,List.any_eq_true,List.mem_range,decide_eq_true_iff,List.take_zero,List.any_nil,Bool.false_eq_true,or_false,Bool.and_eq_true]
  constructor
  · rintro ⟨q,hq,h⟩
    obtain ⟨h1,h2⟩:=mem_setL.1 hq
    exact ⟨q,by omega,h2,h⟩
  · rintro ⟨q,hq,h1,h⟩
    exact ⟨q,mem_setL.2 ⟨by omega,h1⟩,h⟩
theorem mrkK_set {A : Aut} {t tape : Nat} {ks : List Nat} {c d i : Nat} (h : i < ks.length) : (mrkK A t tape ks c d i).set (A.to ks[i] (withC t tape c d)) true = mrkK A t tape ks c d (i + 1):=by
  apply List.ext_getElem?
  intro p
  by_cases hp : p < A.acc.length
  · rw [List.getElem?_set]
    unfold mrkK
    rw [List.getElem?_map,List.getElem?_map,List.getElem?_range hp,List.take_add_one,List.getElem?_eq_getElem h]
    simp only [Option.map_some,Option.toList_some,List.any_append,List.any_cons,List.any_nil,Bool.or_false]
    by_cases e : A.to ks[i] (withC t tape c d) = p
    · rw [if_pos e,if_pos (by rw [e]; simpa using hp)]
      simp [e]
    · rw [if_neg e]
      simp [e]
  · rw [List.getElem?_eq_none (by rw [List.length_set,mrkK_len]; omega),List.getElem?_eq_none (by rw [mrkK_len]; omega)]
theorem s_Some (t tape rb c : Nat) (ht1 : 1≤t) (ht : t + 1≤3) (htape : tape≤t) (A : Aut) (S : List Bool) (v : BV) (H : BH) (hA : RdP H rb (t + 1) 0 A) (hok : A.Ok (wd (t + 1))) (hn : A.acc.length≤1000000) (hS : S.length = A.acc.length) (hc : c < wd t) (hv : Rd H 2 v ((setL S).map encN)) :
    FnDoes (gam base) 216 [.ptr rb 0,v,encN c,encN tape,.bool true] H fun r K => ∃ bo,OwnV base K 2 r ((setL (nxB A t tape S c)).map encN) bo∧Fr H bo:=by
  obtain ⟨R,hR⟩ : ∃ R : BV→BH→Prop,R = fun r K => ∃ bo,OwnV base K 2 r ((setL (nxB A t tape S c)).map encN) bo∧Fr H bo:=⟨_,rfl⟩
  rw [← hR]
  refine FnDoes.of (fn:=ir216) rfl ?_
  obtain ⟨u,x,hr,hu,hx⟩:=hA
  obtain ⟨n,hnn⟩ : ∃ n,n = A.acc.length:=⟨_,rfl⟩
  have hul:=hu.lenM
  rw [← hnn] at hul
  obtain ⟨ks,hks⟩ : ∃ ks,ks = setL S:=⟨_,rfl⟩
  rw [← hks] at hv
  have hvl:=hv.lenM
  have hkl : ks.length≤n:=by have:=setL_len S; rw [hks]; omega
  have hkn : ∀ q∈ks,q < n:=fun q hq => by rw [hks] at hq; have:=setL_lt q hq; omega
  have hxl:=hx.len
  rw [hok.len,← hnn] at hxl
  have c1 : (n : Int)≤140737488355328:=by omega
  have hwd:=wd_3 (t:=t) (by omega)
  have r2:=rd_ptr hr (rt:=none) (j:=2) (c:=u) rfl rfl
  have r0:=rd_ptr hr (rt:=none) (j:=0) (c:=encN (t + 1)) rfl rfl
  have r3:=rd_ptr hr (rt:=none) (j:=3) (c:=x) rfl rfl
  simp [ir216,r2,hu.isSl,hul,c1]
  intro n11 b11 f11
  have o1:=Own.start (base:=base) (H:=H) |>.new f11 b11 (s:=.arr 4 (List.replicate n (.bool false)))
  simp [make_of f11 b11]
  obtain ⟨I,hI⟩ : ∃ I : Nat→Env→BH→Prop,I = (fun d e K => e 12 = encN d∧Own base H K [(some n11,.arr 4 ((mrkK A t tape ks c d 0).map encB))]):=⟨_,rfl⟩
  refine wpC_countK 3 [(0,.ptr rb 0),(1,v),(2,encN c),(3,encN tape),(4,.bool true),(11,.sl n11 0 n)] I (i0:=0) rfl ?_ ?_ (Nat.zero_le _) ?_
  · simp
  · rw [hI]
    refine ⟨by simp,?_⟩
    rw [mrkK_zero,← hnn]
    simpa using o1
  clear o1
  rintro d e K hdd ⟨e0,e1,e2,e3,e4,e11,-⟩ hh
  rw [hI] at hh
  obtain ⟨e12,o⟩:=hh
  simp only [] at e0 e1 e2 e3 e4 e11
  have wdd:=wS (n:=d) (by omega)
  by_cases hd3 : d < 3
  · have hd3' : ((d : Nat) : Int) < 3:=by omega
    have r0':=rd_keeps o.keeps r0
    obtain ⟨col,hcol⟩ : ∃ col,col = withC t tape c d:=⟨_,rfl⟩
    have hcl : col < wd (t + 1):=by rw [hcol]; exact withC_wd htape hd3 (.inr hc)
    have hsw:=s_with (base:=base) c t tape d K (by omega) (by omega) htape hd3
    rw [← hcol] at hsw
    have hd2 : (((d : Nat) : Int) == 2) = true∨(((d : Nat) : Int) == 2) = false:=by cases (((d : Nat) : Int) == 2) <;> simp
    obtain ⟨J,hJ⟩ : ∃ J : Nat→Env→BH→Prop,J = (fun q e K => e 14 = encN q∧Own base H K [(some n11,.arr 4 ((mrkK A t tape ks c d q).map encB))]):=⟨_,rfl⟩
    rcases hd2 with hd2 | hd2
    · simp [e0,e1,e2,e3,e4,e12,hd3,hd3',hd2,r0']
      refine callP hsw ?_
      simp
      refine wpC_countK ks.length [(0,.ptr rb 0),(1,v),(2,encN c),(3,encN tape),(4,.bool true),(11,.sl n11 0 n),(12,encN d),(13,encN col)] J (i0:=0) rfl ?_ ?_ (Nat.zero_le _) ?_
      · simp [e0,e1,e2,e3,e4,e11,e12]
      · rw [hJ]
        exact ⟨by simp,o⟩
      clear o e0 e1 e2 e3 e4 e11 e12 r0' hsw
      rintro q e K hq ⟨e0,e1,e2,e3,e4,e11,e12,e13,-⟩ hh
      rw [hJ] at hh
      obtain ⟨e14,o⟩:=hh
      simp only [] at e0 e1 e2 e3 e4 e11 e12 e13
      have wq:=wS (n:=q) (by omega)
      by_cases hlt : q < ks.length
      · have hkq:=hkn _ (List.getElem_mem hlt)
        have gk:=(hv.keeps o.keeps).at (i:=q) (by simpa using hlt) (rt:=none) rfl
        have gk' : K.rd none none (v.sat q 1) = some (encN ks[q]):=by simpa using gk
        obtain ⟨k,hk⟩ : ∃ k,k = ks[q]:=⟨_,rfl⟩
        rw [← hk] at gk' hkq
        have hqN : k < A.nxt.length:=by rw [hok.len]; omega
        obtain ⟨uw,q1,q2⟩:=hx.at hqN
        have q2:=rd_keeps o.keeps (q2 none rfl)
        have r3':=rd_keeps o.keeps r3
        have hrl : (A.nxt[k]).length = wd (t + 1):=(hok.row _ (List.getElem_mem hqN)).1
        have gc:=(q1.keeps o.keeps).at (i:=col) (by rw [hrl]; exact hcl) (rt:=none) rfl
        have hto : A.nxt[k][col]'(by rw [hrl]; exact hcl) = A.to k col:=to_get hok hqN (by rw [hrl]; exact hcl)
        have gc' : K.rd none none (uw.sat col 1) = some (encN (A.to k col)):=by simpa [hto] using gc
        have htl : A.to k col < n:=by rw [hnn]; exact to_lt hok (by omega) hcl
        have hcw : col < uw.slen:=by rw [q1.lenM,hrl]; exact hcl
        obtain ⟨K5,g5,o5⟩:=o.put 0 (b:=n11) rfl (j:=A.to k col) (u:=.bool true) (by rw [List.length_map,mrkK_len]; omega) rfl (rt:=none) rfl
        have hxk : k < x.slen:=by omega
        simp [e0,e1,e11,e13,e14,hv.isSl,hvl,hlt,gk',r3',hx.isSl,hxk,q2,q1.isSl,hcw,gc',htl,g5,wq]
        rw [hJ]
        refine ⟨by simp,?_⟩
        have e : ((mrkK A t tape ks c d q).map encB).set (A.to k col) (.bool true) = (mrkK A t tape ks c d (q + 1)).map encB:=by
          rw [← mrkK_set hlt,List.map_set,hcol,hk]
        rw [← e]
        exact o5
      · have hqn : q = ks.length:=by omega
        subst hqn
        rw [mrkK_next] at o
        simp [e1,e12,e14,hv.isSl,hvl,wdd,hd3]
        rw [hI]
        exact ⟨by simp,o⟩
    · simp [e0,e1,e2,e3,e4,e12,hd3,hd3',hd2,r0']
      refine callP hsw ?_
      simp
      refine wpC_countK ks.length [(0,.ptr rb 0),(1,v),(2,encN c),(3,encN tape),(4,.bool true),(11,.sl n11 0 n),(12,encN d),(13,encN col)] J (i0:=0) rfl ?_ ?_ (Nat.zero_le _) ?_
      · simp [e0,e1,e2,e3,e4,e11,e12]
      · rw [hJ]
        exact ⟨by simp,o⟩
      clear o e0 e1 e2 e3 e4 e11 e12 r0' hsw
      rintro q e K hq ⟨e0,e1,e2,e3,e4,e11,e12,e13,-⟩ hh
      rw [hJ] at hh
      obtain ⟨e14,o⟩:=hh
      simp only [] at e0 e1 e2 e3 e4 e11 e12 e13
      have wq:=wS (n:=q) (by omega)
      by_cases hlt : q < ks.length
      · have hkq:=hkn _ (List.getElem_mem hlt)
        have gk:=(hv.keeps o.keeps).at (i:=q) (by simpa using hlt) (rt:=none) rfl
        have gk' : K.rd none none (v.sat q 1) = some (encN ks[q]):=by simpa using gk
        obtain ⟨k,hk⟩ : ∃ k,k = ks[q]:=⟨_,rfl⟩
        rw [← hk] at gk' hkq
        have hqN : k < A.nxt.length:=by rw [hok.len]; omega
        obtain ⟨uw,q1,q2⟩:=hx.at hqN
        have q2:=rd_keeps o.keeps (q2 none rfl)
        have r3':=rd_keeps o.keeps r3
        have hrl : (A.nxt[k]).length = wd (t + 1):=(hok.row _ (List.getElem_mem hqN)).1
        have gc:=(q1.keeps o.keeps).at (i:=col) (by rw [hrl]; exact hcl) (rt:=none) rfl
        have hto : A.nxt[k][col]'(by rw [hrl]; exact hcl) = A.to k col:=to_get hok hqN (by rw [hrl]; exact hcl)
        have gc' : K.rd none none (uw.sat col 1) = some (encN (A.to k col)):=by simpa [hto] using gc
        have htl : A.to k col < n:=by rw [hnn]; exact to_lt hok (by omega) hcl
        have hcw : col < uw.slen:=by rw [q1.lenM,hrl]; exact hcl
        obtain ⟨K5,g5,o5⟩:=o.put 0 (b:=n11) rfl (j:=A.to k col) (u:=.bool true) (by rw [List.length_map,mrkK_len]; omega) rfl (rt:=none) rfl
        have hxk : k < x.slen:=by omega
        simp [e0,e1,e11,e13,e14,hv.isSl,hvl,hlt,gk',r3',hx.isSl,hxk,q2,q1.isSl,hcw,gc',htl,g5,wq]
        rw [hJ]
        refine ⟨by simp,?_⟩
        have e : ((mrkK A t tape ks c d q).map encB).set (A.to k col) (.bool true) = (mrkK A t tape ks c d (q + 1)).map encB:=by
          rw [← mrkK_set hlt,List.map_set,hcol,hk]
        rw [← e]
        exact o5
      · have hqn : q = ks.length:=by omega
        subst hqn
        rw [mrkK_next] at o
        simp [e1,e12,e14,hv.isSl,hvl,wdd,hd3]
        rw [hI]
        exact ⟨by simp,o⟩
  · have hde : d = 3:=by omega
    subst hde
    rw [hks,mrkK_all hS] at o
    obtain ⟨M,hM⟩ : ∃ M,M = nxB A t tape S c:=⟨_,rfl⟩
    have hMl : M.length = n:=by rw [hM,nxB_len,hnn]
    rw [← hM] at o hR
    simp [e12]
    intro n15 b15 f15
    have o2:=o.new f15 b15 (s:=.arr 2 [])
    simp [make_of f15 b15]
    obtain ⟨J,hJ⟩ : ∃ J : Nat→Env→BH→Prop,J = (fun q e K => e 16 = encN q∧∃ y bo,e 15 = y∧Own base H K [(bo,.arr 2 ((setLI M q).map encN)),(some n11,.arr 4 (M.map encB))]∧Vec bo y (setLI M q).length):=⟨_,rfl⟩
    refine wpC_countK n [(11,.sl n11 0 n)] J (i0:=0) rfl ?_ ?_ (Nat.zero_le _) ?_
    · simp [e11]
    · rw [hJ]
      exact ⟨by simp,.sl n15 0 0,some n15,by simp,by simpa [setLI] using o2,by simp [setLI,Vec]⟩
    clear o o2 e0 e1 e2 e3 e4 e11 e12
    rintro q e K hq ⟨e11,-⟩ hh
    rw [hJ] at hh
    obtain ⟨e16,y,bo,e15,o,hy⟩:=hh
    simp only [] at e11
    have wq:=wS (n:=q) (by omega)
    have hlen:=setLI_len M q
    have hsu:=setLI_succ M q
    by_cases hlt : q < n
    · have hqM : q < M.length:=by omega
      have gM : M.getD q false = M[q]:=by rw [List.getD_eq_getElem?_getD,List.getElem?_eq_getElem hqM]; rfl
      have gi:=rd_ptr (o.at 1 (b:=n11) rfl) (rt:=none) (j:=q) (c:=encB M[q]) rfl (by rw [List.getElem?_map,List.getElem?_eq_getElem hqM]; rfl)
      rw [gM] at hsu
      by_cases hb : M[q] = true
      · rw [hb] at gi
        rw [if_pos hb] at hsu
        simp [e11,e15,e16,hlt,gi]
        intro n1 b1 f1
        simp [make_of f1 b1]
        intro n2 b2 f2
        have hyl : Vec bo y ((setLI M q).map encN).length:=by simpa using hy
        obtain ⟨y',M',bo',p1,p2,p3⟩:=o.push 0 rfl hyl (x:=encN q) (bytes:=8) rfl (by simp; omega) (by simp; omega) f1 b1 f2 b2
        simp [p1,e16,wq,hlt]
        rw [hJ]
        refine ⟨by simp,y',some bo',by simp,?_,by rw [hsu]; simpa using p3⟩
        rw [hsu,List.map_append]
        exact p2
      · have hb : M[q] = false:=by simpa using hb
        rw [hb] at gi
        rw [hb,if_neg (by simp),List.append_nil] at hsu
        simp [e11,e15,e16,hlt,gi,wq]
        rw [hJ]
        exact ⟨by simp,y,bo,by simp [e15],by rw [hsu]; exact o,by rw [hsu]; exact hy⟩
    · have hqn : q = n:=by omega
      subst hqn
      simp [e11,e15,e16]
      rw [hR]
      have hsm : setLI M q = setL M:=by unfold setL; rw [hMl]
      rw [hsm] at o hy
      refine ⟨o.keeps,bo,o.vec 0 rfl (by simpa using hy),fun b hb => by subst hb; exact o.fr 0 rfl⟩
structure EndS (A : Aut) (t tape : Nat) (ks ls : List Nat) : Prop where
  nodup : ls.Nodup
  lt : ∀ q∈ls,q < A.acc.length
  sub : ∀ q∈ks,q∈ls
  back : ∀ q∈ls,endQ A t tape q = true→∃ k∈ks,endQ A t tape k = true
theorem EndS.len {A : Aut} {t tape : Nat} {ks ls : List Nat} (h : EndS A t tape ks ls) : ls.length≤A.acc.length:=by
  have:=nodup_le h.nodup (ys:=List.range A.acc.length) fun q hq => List.mem_range.2 (h.lt q hq)
  simpa using this
theorem EndS.push {A : Aut} {t tape : Nat} {ks ls : List Nat} (h : EndS A t tape ks ls) {p d : Nat} (hp : p∈ls) (hd : d < 2) (hlt : A.to p (withC t tape (wd t) d) < A.acc.length) (hn : A.to p (withC t tape (wd t) d) ∉ ls) : EndS A t tape ks (ls++[A.to p (withC t tape (wd t) d)]):=by
  refine ⟨?_,fun q hq => ?_,fun q hq => List.mem_append_left _ (h.sub q hq),fun q hq he => ?_⟩
  · rw [List.nodup_append]
    refine ⟨h.nodup,by simp,fun a ha b hb => ?_⟩
    simp at hb
    subst hb
    rintro rfl
    exact hn ha
  · rcases List.mem_append.1 hq with hq | hq
    · exact h.lt q hq
    · simp at hq
      subst hq
      exact hlt
  · rcases List.mem_append.1 hq with hq | hq
    · exact h.back q hq he
    · simp at hq
      subst hq
      exact h.back p hp (endQ_step hd he)
theorem acB_iff {A : Aut} {t tape : Nat} {S : List Bool} (hS : S.length = A.acc.length) : acB A t tape S = true↔∃ k∈setL S,endQ A t tape k = true:=by
  unfold acB
  rw [List.any_eq_true]
  constructor
  · rintro ⟨q,hq,h⟩
    rw [Bool.and_eq_true] at h
    exact ⟨q,mem_setL.2 ⟨by rw [hS]; exact List.mem_range.1 hq,h.1⟩,h.2⟩
  · rintro ⟨q,hq,h⟩
    obtain ⟨h1,h2⟩:=mem_setL.1 hq
    exact ⟨q,List.mem_range.2 (by omega),by rw [Bool.and_eq_true]; exact ⟨h2,h⟩⟩
theorem s_Ends (t tape rb : Nat) (ht1 : 1≤t) (ht : t + 1≤3) (htape : tape≤t) (A : Aut) (S : List Bool) (v : BV) (H : BH) (hA : RdP H rb (t + 1) 0 A) (hok : A.Ok (wd (t + 1))) (hn : A.acc.length≤1000000) (hS : S.length = A.acc.length) (hv : Rd H 2 v ((setL S).map encN)) :
    FnDoes (gam base) 217 [.ptr rb 0,v,encN tape] H fun r _ => r = .bool (acB A t tape S):=by
  obtain ⟨R,hR⟩ : ∃ R : BV→BH→Prop,R = fun r _ => r = .bool (acB A t tape S):=⟨_,rfl⟩
  rw [← hR]
  refine FnDoes.of (fn:=ir217) rfl ?_
  obtain ⟨u,x,hr,hu,hx⟩:=hA
  obtain ⟨n,hnn⟩ : ∃ n,n = A.acc.length:=⟨_,rfl⟩
  have hul:=hu.lenM
  rw [← hnn] at hul
  have hacB:=acB_iff (t:=t) (tape:=tape) hS
  obtain ⟨ks,hks⟩ : ∃ ks,ks = setL S:=⟨_,rfl⟩
  rw [← hks] at hv hacB
  have hvl:=hv.lenM
  have hkl : ks.length≤n:=by have:=setL_len S; rw [hks]; omega
  have hkn : ∀ q∈ks,q < n:=fun q hq => by rw [hks] at hq; have:=setL_lt q hq; omega
  have hknd : ks.Nodup:=by rw [hks]; exact setL_nodup S
  have hxl:=hx.len
  rw [hok.len,← hnn] at hxl
  have c1 : (n : Int)≤140737488355328:=by omega
  have hto : ∀ q,q < n→∀ d,d < 2→A.to q (withC t tape (wd t) d) < n:=fun q hq d hd => by rw [hnn]; exact to_lt hok (by omega) (withC_wd htape (by omega) (.inl hd))
  have r2:=rd_ptr hr (rt:=none) (j:=2) (c:=u) rfl rfl
  have r0:=rd_ptr hr (rt:=none) (j:=0) (c:=encN (t + 1)) rfl rfl
  have r3:=rd_ptr hr (rt:=some 25) (j:=3) (c:=x) rfl rfl
  have wt : IntKind.i64.wrap (t : Int) = (t : Int):=wN (by omega)
  simp [ir217,r2,hu.isSl,hul,c1]
  intro n7 b7 f7
  have o1:=Own.start (base:=base) (H:=H) |>.new f7 b7 (s:=.arr 4 (List.replicate n (.bool false)))
  simp [make_of f7 b7]
  intro n8 b8 f8
  have o2:=o1.new f8 b8 (s:=.arr 2 [])
  simp [make_of f8 b8]
  obtain ⟨I,hI⟩ : ∃ I : Nat→Env→BH→Prop,I = (fun i e K => e 9 = encN i∧∃ y bo,e 8 = y∧Own base H K [(bo,.arr 2 ((ks.take i).map encN)),(some n7,.arr 4 ((seenL n (ks.take i)).map encB))]∧Vec bo y i):=⟨_,rfl⟩
  refine wpC_countK ks.length [(0,.ptr rb 0),(1,v),(2,encN tape),(7,.sl n7 0 n)] I (i0:=0) rfl ?_ ?_ (Nat.zero_le _) ?_
  · simp
  · rw [hI]
    refine ⟨by simp,.sl n8 0 0,some n8,by simp,?_,rfl⟩
    have e : (seenL n []).map encB = List.replicate n (.bool false):=by
      unfold seenL
      rw [List.eq_replicate_iff]
      exact ⟨by simp,fun b hb => by simp at hb; exact hb.2.symm⟩
    rw [List.take_zero,e]
    exact o2
  clear o1 o2
  rintro i e K hi ⟨e0,e1,e2,e7,-⟩ hh
  rw [hI] at hh
  obtain ⟨e9,y,bo,e8,o,hy⟩:=hh
  simp only [] at e0 e1 e2 e7
  have wi:=wS (n:=i) (by omega)
  by_cases hlt : i < ks.length
  · have hkq:=hkn _ (List.getElem_mem hlt)
    have gk:=(hv.keeps o.keeps).at (i:=i) (by simpa using hlt) (rt:=none) rfl
    have gk' : K.rd none none (v.sat i 1) = some (encN ks[i]):=by simpa using gk
    obtain ⟨K5,g5,o5⟩:=o.put 1 (b:=n7) rfl (j:=ks[i]) (u:=encB true) (by rw [List.length_map,seenL_len]; exact hkq) rfl (rt:=none) rfl
    have g5' : K.wr base none 1 (.ptr n7 ks[i]) (.bool true) = some K5:=g5
    have gk5 : K5.rd none none (v.sat i 1) = some (encN ks[i]):=by
      have:=(hv.keeps o5.keeps).at (i:=i) (by simpa using hlt) (rt:=none) rfl
      simpa using this
    simp [e1,e7,e8,e9,hv.isSl,hvl,hlt,gk',hkq,g5',gk5]
    intro n1 b1 f1
    simp [make_of f1 b1]
    intro n2 b2 f2
    have htl : (ks.take i).length = i:=by simp; omega
    have o5 : Own base H K5 [(bo,.arr 2 ((ks.take i).map encN)),(some n7,.arr 4 (((seenL n (ks.take i)).map encB).set ks[i] (encB true)))]:=o5
    obtain ⟨y',M',bo',p1,p2,p3⟩:=o5.push 0 rfl (by rw [List.length_map,htl]; exact hy) (x:=encN ks[i]) (bytes:=8) rfl (by simp; omega) (by simp; omega) f1 b1 f2 b2
    simp [p1,e9,wi,hlt]
    rw [hI]
    refine ⟨by simp,y',some bo',by simp,?_,by rw [List.length_map,htl] at p3; exact p3⟩
    have et : ks.take (i + 1) = ks.take i++[ks[i]]:=by rw [List.take_add_one,List.getElem?_eq_getElem hlt]; rfl
    have e : ((seenL n (ks.take i)).map encB).set ks[i] (encB true) = (seenL n (ks.take (i + 1))).map encB:=by rw [et,← seenL_set hkq,List.map_set]
    rw [e] at p2
    rw [et,List.map_append,← et]
    exact p2
  have hie : i = ks.length:=by omega
  subst hie
  rw [List.take_length] at o
  have r0':=rd_keeps o.keeps r0
  simp only [encN] at r0'
  simp [e0,e1,e9,hv.isSl,hvl,r0',wt]
  refine callP (s_wide t K (by omega)) ?_
  simp
  obtain ⟨J,hJ⟩ : ∃ J : Nat→Env→BH→Prop,J = (fun i e K => e 11 = encN i∧∃ ls y bo,e 8 = y∧EndS A t tape ks ls∧i≤ls.length∧(∀ p∈ls.take i,A.acc.getD p false = false∧∀ d,d < 2→A.to p (withC t tape (wd t) d)∈ls) ∧
    Own base H K [(bo,.arr 2 (ls.map encN)),(some n7,.arr 4 ((seenL n ls).map encB))]∧Vec bo y ls.length):=⟨_,rfl⟩
  refine wpC_countK n [(0,.ptr rb 0),(2,encN tape),(7,.sl n7 0 n),(10,encN (wd t))] J (i0:=0) rfl ?_ ?_ (Nat.zero_le _) ?_
  · simp [e0,e2,e7]
  · rw [hJ]
    exact ⟨by simp,ks,y,bo,by simp [e8],⟨hknd,fun q hq => by rw [← hnn]; exact hkn q hq,fun q hq => hq,fun q hq he => ⟨q,hq,he⟩⟩,Nat.zero_le _,fun p hp => by simp at hp,o,hy⟩
  clear e0 e1 e2 e7 e8 e9 o r0' hy wi
  rintro i e K hi ⟨e0,e2,e7,e10,-⟩ hh
  rw [hJ] at hh
  obtain ⟨e11,ls,y,bo,e8,hE,hil,hcl,o,hy⟩:=hh
  simp only [] at e0 e2 e7 e10
  have wi:=wS (n:=i) (by omega)
  have hlsl:=hE.len
  rw [← hnn] at hlsl
  by_cases hlt : i < ls.length
  · obtain ⟨p,hp⟩ : ∃ p,p = ls[i]:=⟨_,rfl⟩
    have hpm : p∈ls:=by rw [hp]; exact List.getElem_mem hlt
    have hpn : p < n:=by rw [hnn]; exact hE.lt p hpm
    have gi:=(o.rd 0 rfl (v:=y) (by simpa using hy)).at (i:=i) (by simpa using hlt) (rt:=none) rfl
    have gi' : K.rd none none (y.sat i 1) = some (encN p):=by simpa [hp] using gi
    have r2':=rd_keeps o.keeps r2
    have ga:=(hu.keeps o.keeps).at (i:=p) (by simpa [hnn] using hpn) (rt:=none) rfl
    have hga : A.acc.getD p false = A.acc[p]'(by omega):=by rw [List.getD_eq_getElem?_getD,List.getElem?_eq_getElem (by omega)]; rfl
    have ga' : K.rd none none (u.sat p 1) = some (encB (A.acc.getD p false)):=by rw [hga]; simpa using ga
    obtain ⟨b,hb⟩ : ∃ b,b = A.acc.getD p false:=⟨_,rfl⟩
    rw [← hb] at ga'
    rcases Bool.eq_false_or_eq_true b with hbt | hbt
    · rw [hbt] at ga'
      simp [e0,e8,e11,hy.isSl,hy.len,hlt,gi',r2',hu.isSl,hul,hpn,ga']
      rw [hR]
      refine ⟨o.keeps,?_⟩
      have : acB A t tape S = true:=hacB.2 (hE.back p hpm (endQ_acc (by rw [← hb]; exact hbt)))
      rw [this]
    · rw [hbt] at ga'
      simp [e0,e8,e11,hy.isSl,hy.len,hlt,gi',r2',hu.isSl,hul,hpn,ga']
      obtain ⟨M,hM⟩ : ∃ M : Nat→Env→BH→Prop,M = (fun d e K => e 12 = encN d∧∃ ls' y bo,e 8 = y∧EndS A t tape ks ls'∧ls <+: ls'∧(∀ d',d' < d→A.to p (withC t tape (wd t) d')∈ls') ∧
        Own base H K [(bo,.arr 2 (ls'.map encN)),(some n7,.arr 4 ((seenL n ls').map encB))]∧Vec bo y ls'.length):=⟨_,rfl⟩
      refine wpC_countK 2 [(0,.ptr rb 0),(2,encN tape),(7,.sl n7 0 n),(10,encN (wd t)),(11,encN i)] M (i0:=0) rfl ?_ ?_ (Nat.zero_le _) ?_
      · simp [e0,e2,e7,e10,e11]
      · rw [hM]
        exact ⟨by simp,ls,y,bo,by simp [e8],hE,List.prefix_refl _,fun d' hd' => by omega,o,hy⟩
      clear e0 e2 e7 e8 e10 e11 o gi gi' r2' ga ga' hy
      rintro d e K hdd ⟨e0,e2,e7,e10,e11,-⟩ hh
      rw [hM] at hh
      obtain ⟨e12,ls',y,bo,e8,hE',hpre,hin,o,hy⟩:=hh
      simp only [] at e0 e2 e7 e10 e11
      have wd1:=wS (n:=d) (by omega)
      have hl':=hE'.len
      rw [← hnn] at hl'
      have hll:=hpre.length_le
      have hi' : i < ls'.length:=by omega
      have hpi : ls'[i] = p:=by
        obtain ⟨r,hr'⟩:=hpre
        have : ls'[i]? = ls[i]?:=by rw [← hr',List.getElem?_append_left hlt]
        rw [List.getElem?_eq_getElem hi',List.getElem?_eq_getElem hlt] at this
        rw [hp]
        exact Option.some.inj this
      have hpm' : p∈ls':=by rw [← hpi]; exact List.getElem_mem hi'
      by_cases hd2 : d < 2
      · have hd2' : ((d : Nat) : Int) < 2:=by omega
        obtain ⟨col,hcol⟩ : ∃ col,col = withC t tape (wd t) d:=⟨_,rfl⟩
        have hcw : col < wd (t + 1):=by rw [hcol]; exact withC_wd htape (by omega) (.inl hd2)
        obtain ⟨q,hq⟩ : ∃ q,q = A.to p col:=⟨_,rfl⟩
        have hqn : q < n:=by rw [hq,hcol]; exact hto p hpn d hd2
        have gi:=(o.rd 0 rfl (v:=y) (by simpa using hy)).at (i:=i) (by simpa using hi') (rt:=some 2) rfl
        have gi' : K.rd (some 2) none (y.sat i 1) = some (encN p):=by simpa [hpi] using gi
        have r3':=rd_keeps o.keeps r3
        have r0':=rd_keeps o.keeps r0
        have hpN : p < A.nxt.length:=by rw [hok.len]; omega
        obtain ⟨uw,q1,q2⟩:=hx.at hpN
        have q2:=rd_keeps o.keeps (q2 (some 36) rfl)
        have hrl : (A.nxt[p]).length = wd (t + 1):=(hok.row _ (List.getElem_mem hpN)).1
        have gc:=(q1.keeps o.keeps).at (i:=col) (by rw [hrl]; exact hcw) (rt:=none) rfl
        have hto' : A.nxt[p][col]'(by rw [hrl]; exact hcw) = A.to p col:=to_get hok hpN (by rw [hrl]; exact hcw)
        have gc' : K.rd none none (uw.sat col 1) = some (encN q):=by rw [hq]; simpa [hto'] using gc
        have hcl2 : col < uw.slen:=by rw [q1.lenM,hrl]; exact hcw
        have hxp : p < x.slen:=by omega
        have hsw:=s_with (base:=base) (wd t) t tape d K (by omega) (by have:=wd_3 (t:=t) (by omega); omega) htape (by omega)
        rw [← hcol] at hsw
        have gs:=rd_ptr (o.at 1 (b:=n7) rfl) (rt:=none) (j:=q) (c:=encB (decide (q∈ls'))) rfl (by rw [List.getElem?_map,List.getElem?_eq_getElem (by rw [seenL_len]; exact hqn),seenL_get hqn]; rfl)
        have hstep : ∀ ls'' : List Nat,(∀ z∈ls',z∈ls'')→q∈ls''→∀ d',d' < d + 1→A.to p (withC t tape (wd t) d')∈ls'':=fun ls'' hs hq' d' hd' => by
          by_cases e : d' = d
          · subst e
            rw [← hcol,← hq]
            exact hq'
          · exact hs _ (hin d' (by omega))
        simp [e0,e2,e8,e10,e11,e12,hd2,hd2',hy.isSl,hy.len,hi',gi',r3',hx.isSl,hxp,q2,r0']
        refine callP hsw ?_
        by_cases hm : q∈ls'
        · have gs' : K.rd none none (.ptr n7 q) = some (.bool true):=by simpa [hm] using gs
          simp [q1.isSl,hcl2,gc',e7,hqn,gs',e12,wd1,hd2]
          rw [hM]
          exact ⟨by simp,ls',y,bo,by simp [e8],hE',hpre,hstep ls' (fun z hz => hz) hm,o,hy⟩
        · have gs' : K.rd none none (.ptr n7 q) = some (.bool false):=by simpa [hm] using gs
          obtain ⟨K5,g5,o5⟩:=o.put 1 (b:=n7) rfl (j:=q) (u:=encB true) (by rw [List.length_map,seenL_len]; exact hqn) rfl (rt:=none) rfl
          have g5' : K.wr base none 1 (.ptr n7 q) (.bool true) = some K5:=g5
          simp [q1.isSl,hcl2,gc',e7,hqn,gs',g5',e8]
          intro n1 b1 f1
          simp [make_of f1 b1]
          intro n2 b2 f2
          have o5 : Own base H K5 [(bo,.arr 2 (ls'.map encN)),(some n7,.arr 4 (((seenL n ls').map encB).set q (encB true)))]:=o5
          obtain ⟨y',M',bo',p1,p2,p3⟩:=o5.push 0 rfl (by rw [List.length_map]; exact hy) (x:=encN q) (bytes:=8) rfl (by simp; omega) (by simp; omega) f1 b1 f2 b2
          simp [p1,e12,wd1,hd2]
          rw [hM]
          have hpush:=hE'.push hpm' hd2 (by rw [← hcol,← hq,← hnn]; exact hqn) (by rw [← hcol,← hq]; exact hm)
          rw [← hcol,← hq] at hpush
          refine ⟨by simp,ls'++[q],y',some bo',by simp,hpush,hpre.trans (List.prefix_append _ _),hstep _ (fun z hz => List.mem_append_left _ hz) (by simp),?_,by simpa using p3⟩
          have e : ((seenL n ls').map encB).set q (encB true) = (seenL n (ls'++[q])).map encB:=by rw [← seenL_set hqn,List.map_set]
          rw [e] at p2
          rw [List.map_append]
          exact p2
      · have hde : d = 2:=by omega
        subst hde
        simp [e11,e12,wi]
        have hin' : i < n:=by omega
        simp [hin']
        rw [hJ]
        refine ⟨by simp,ls',y,bo,by simp [e8],hE',by omega,fun z hz => ?_,o,hy⟩
        have htk : ls'.take (i + 1) = ls.take i++[p]:=by
          rw [List.take_add_one,List.getElem?_eq_getElem hi',hpi]
          obtain ⟨r,hr'⟩:=hpre
          rw [← hr',List.take_append_of_le_length (by omega)]
          rfl
        rw [htk] at hz
        rcases List.mem_append.1 hz with hz | hz
        · obtain ⟨h1,h2⟩:=hcl z hz
          exact ⟨h1,fun d hd => hpre.subset (h2 d hd)⟩
        · simp at hz
          subst hz
          exact ⟨by rw [← hb]; exact hbt,fun d hd => hin d hd⟩
  · have hie : i = ls.length:=by omega
    have hlt' : ¬ i < ls.length:=hlt
    simp [e8,e11,hy.isSl,hy.len,hlt']
    rw [hR]
    refine ⟨o.keeps,?_⟩
    rw [hie,List.take_length] at hcl
    have hno : acB A t tape S = false:=by
      cases hac : acB A t tape S with
      | false => rfl
      | true =>
        obtain ⟨k,hk,he⟩:=hacB.1 hac
        have:=endQ_closed (A:=A) (t:=t) (tape:=tape) (P:=(·∈ls)) (fun q hq => (hcl q hq).1) (fun q hq d hd => (hcl q hq).2 d hd) (hE.sub k hk)
        rw [this] at he
        cases he
    rw [hno]
theorem _root_.Go.B.Own.last2 {H K : BH} {p : Sl} {F fr gr : List Sl} (o : Own base H K (p::(F++(fr++gr)))) : Own base H K (F++((fr++[p])++gr)):=o.perm (by
  have h1 : (p::(F++(fr++gr))).Perm ((F++fr)++p::gr):=by
    rw [← List.append_assoc]
    exact List.perm_middle.symm
  refine (h1.trans ?_).symm
  simp only [List.append_assoc,List.singleton_append]
  exact List.Perm.refl _)
theorem addAll_len {κ : Type} [DecidableEq κ] : ∀ (xs ks : List κ),(addAll ks xs).length≤ks.length + xs.length
  | [],ks => Nat.le_refl _
  | x::xs,ks => by
    have h1:=addAll_len xs (addK ks x)
    have h2 : (addK ks x).length≤ks.length + 1:=by
      unfold addK
      split
      · omega
      · simp
    show (addAll (addK ks x) xs).length≤_
    simp only [List.length_cons]
    omega
theorem lsU_len {κ : Type} [DecidableEq κ] (ks : List κ) (nx : κ→Nat→κ) (k : κ) (c : Nat) : (lsU ks nx k c).length≤ks.length + c:=by
  have:=addAll_len ((List.range c).map (nx k)) ks
  unfold lsU
  simpa using this
theorem setL_start {n : Nat} (h : 0 < n) : setL (startB n 0) = [0]:=by
  unfold setL setLI
  rw [startB_len]
  have hg : ∀ q,q < n→(startB n 0).getD q false = decide (q = 0):=fun q hq => by
    unfold startB
    rw [List.getD_eq_getElem?_getD,List.getElem?_map,List.getElem?_range hq]
    rfl
  have e : (List.range n).filter (fun q => (startB n 0).getD q false) = (List.range n).filter (fun q => decide (q = 0)):=List.filter_congr fun q hq => hg q (List.mem_range.1 hq)
  rw [e]
  obtain ⟨m,rfl⟩ : ∃ m,n = m + 1:=⟨n - 1,by omega⟩
  rw [List.range_succ_eq_map,List.filter_cons,if_pos (by simp)]
  congr 1
  rw [List.filter_eq_nil_iff]
  intro q hq
  obtain ⟨r,_,rfl⟩:=List.mem_map.1 hq
  simp
theorem s_SomeOn2 (l : Nat) (hl : l = 1000) (t s tape rb : Nat) (ht1 : 1≤t) (ht : t + 1≤3) (htape : tape≤t) (A : Aut) (H : BH) (hA : RdP H rb (t + 1) s A) (hok : A.Ok (wd (t + 1))) (hs : s < A.acc.length) (hn : A.acc.length≤150) :
    FnDoes (gam base) 180 [.ptr rb 0,encN tape] H fun v K => RelR base H t (someN l t tape (TA (t + 1) (A.lang s))) v K:=by
  obtain ⟨R,hR⟩ : ∃ R : BV→BH→Prop,R = fun v K => RelR base H t (someN l t tape (TA (t + 1) (A.lang s))) v K:=⟨_,rfl⟩
  rw [← hR]
  refine FnDoes.of (fn:=ir180) rfl ?_
  obtain ⟨hT1,hl1⟩:=TA_spec ht hok hs
  simp [ir180]
  intro n4 b4 f4
  have o1:=Own.start (base:=base) (H:=H) |>.new f4 b4 (s:=.arr 25 [.int .i64 0,.int .i64 0,.nils,.nils])
  simp [make_of f4 b4]
  refine (s_tidied (base:=base) (t + 1) s rb ht A _ (hA.keeps o1.keeps) hok hs (by omega)).step fun v K1 k1 hv => ?_
  obtain ⟨B,hB⟩ : ∃ B,B = TA (t + 1) (A.lang s):=⟨_,rfl⟩
  rw [← hB] at hR hv hT1 hl1
  have hBok:=hT1.ok
  have hBp:=hBok.pos
  have hv:=hv.rd
  obtain ⟨u0,x0,rfl,hu0,hx0⟩:=id hv
  have u01:=hu0.one
  have x01:=one_of_isSl hx0.isSl
  obtain ⟨T,hT⟩ : ∃ T,T = t + 1:=⟨_,rfl⟩
  have eT : (encN (t + 1)) = encN T:=by rw [hT]
  simp only [eT]
  simp [u01,x01]
  intro n6 b6 f6
  obtain ⟨K2,g2,o2⟩:=((o1.call k1).new f6 b6 (s:=.arr 25 [.int .i64 0,.int .i64 0,.nils,.nils])).putAll 0 (b:=n6) rfl (n:=4) (ds:=[encN T,encN 0,u0,x0]) rfl rfl (by simp [u01,x01]) (rt:=none) rfl
  have o2 : Own base H K2 [(some n6,.arr 25 [encN T,encN 0,u0,x0]),(some n4,.arr 25 [.int .i64 0,.int .i64 0,.nils,.nils])]:=o2
  have o26:=(Own.start (base:=base) (H:=K1) |>.new f6 b6 (s:=.arr 25 [.int .i64 0,.int .i64 0,.nils,.nils])).putAll 0 (b:=n6) rfl (n:=4) (ds:=[encN T,encN 0,u0,x0]) rfl rfl (by simp [u01,x01]) (rt:=none) rfl
  obtain ⟨K2',g2',o26⟩:=o26
  have ek : K2' = K2:=by rw [g2] at g2'; exact (Option.some.inj g2').symm
  subst ek
  have hP : RdP K2' n6 (t + 1) 0 B:=by
    have:=hv.at (n:=n6) o26.keeps (by rw [eT]; exact o26.at 0 (b:=n6) rfl)
    exact this
  have q0:=rd_ptr (o2.at 0 (b:=n6) rfl) (rt:=none) (j:=0) (c:=encN T) rfl rfl
  have q1:=rd_ptr (o2.at 0 (b:=n6) rfl) (rt:=none) (j:=1) (c:=encN 0) rfl rfl
  simp only [encN] at q1
  simp [make_of f6 b6,g2,q1]
  intro n19 b19 f19
  have o3:=(Own.start (base:=base) (H:=K2')).new f19 b19 (s:=.arr 2 [.int .i64 0])
  simp [make_of f19 b19]
  intro n7 b7 f7
  have o4:=o3.new f7 b7 (s:=.arr 36 [.sl n19 0 1])
  have q0':=rd_keeps o4.keeps q0
  have wt : IntKind.i64.wrap (t : Int) = (t : Int):=wN (by omega)
  rw [hT] at q0'
  simp only [encN] at q0'
  simp [make_of f7 b7,q0',wt]
  intro n8 b8 f8
  obtain ⟨K5,g5,o5⟩:=(o4.new f8 b8 (s:=.arr 25 [.int .i64 0,.int .i64 0,.nils,.nils])).putAll 0 (b:=n8) rfl (n:=4) (ds:=[encN t,.int .i64 0,.nils,.nils]) rfl rfl rfl (rt:=none) rfl
  simp [make_of f8 b8,g5]
  have o5 : Own base K2' K5 [(some n8,.arr 25 [encN t,.int .i64 0,.nils,.nils]),(some n7,.arr 36 [.sl n19 0 1]),(some n19,.arr 2 [.int .i64 0])]:=o5
  obtain ⟨n,hnn⟩ : ∃ n,n = B.acc.length:=⟨_,rfl⟩
  obtain ⟨nx,hnx⟩ : ∃ nx,nx = nxB B t tape:=⟨_,rfl⟩
  obtain ⟨ac,hac⟩ : ∃ ac,ac = acB B t tape:=⟨_,rfl⟩
  obtain ⟨s0,hs0⟩ : ∃ s0,s0 = startB B.acc.length 0:=⟨_,rfl⟩
  obtain ⟨KS,hKS⟩ : ∃ KS,KS = metL (succs (wd t) nx) s0 l:=⟨_,rfl⟩
  have hX : setA l t tape B = autOf (wd t) nx ac KS:=by rw [hKS,hnx,hac,hs0]; rfl
  have hXl : (setA l t tape B).acc.length = KS.length:=by rw [hX]; simp [autOf]
  have hnxl : ∀ S c,(nx S c).length = n:=fun S c => by rw [hnx,nxB_len,hnn]
  have hs0l : s0.length = n:=by rw [hs0,startB_len,hnn]
  have hmet : ∀ i,∀ S∈metL (succs (wd t) nx) s0 i,S.length = n:=met_all hs0l fun k _ S hS => by
    obtain ⟨c,_,rfl⟩:=List.mem_map.1 hS
    exact hnxl k c
  have pre : ∀ i,i≤l→metL (succs (wd t) nx) s0 i <+: KS:=fun i h => by rw [hKS]; exact met_pre h
  have hw:=wd_3 (t:=t) (by omega)
  have hstart : setL s0 = [0]:=by rw [hs0]; exact setL_start hBp
  clear g2 g5 q0 q1 q0' o26 g2'
  obtain ⟨F,hF⟩ : ∃ F : BV→BV→List Sl,F = fun u w => [(some n8,.arr 25 [encN t,.int .i64 0,u,w])]:=⟨_,rfl⟩
  obtain ⟨I,hI⟩ : ∃ I : Nat→Env→BH→Prop,I = (fun i e K => e 9 = encN i∧∃ v7 u w b7 bo wo vs7 vs fr7 fr,e 7 = v7∧i≤(metL (succs (wd t) nx) s0 i).length∧(metL (succs (wd t) nx) s0 i).length≤l ∧
      Own base K2' K ([(wo,.arr 36 vs),(bo,.arr 4 (((KS.take i).map ac).map encB)),(b7,.arr 36 vs7)]++F u w++(fr7++fr)) ∧
      Vec b7 v7 (metL (succs (wd t) nx) s0 i).length∧vs7.length = (metL (succs (wd t) nx) s0 i).length∧Vec bo u i∧Vec wo w i∧vs.length = i ∧
      RowsOf 2 vs7 fr7 (((metL (succs (wd t) nx) s0 i).map setL).map (·.map encN))∧RowsOf 2 vs fr (((KS.take i).map fun k => rowU KS nx k (wd t)).map (·.map encN))):=⟨_,rfl⟩
  refine wpC_countK l [(0,.ptr rb 0),(1,encN tape),(4,.ptr n4 0),(6,.ptr n6 0),(8,.ptr n8 0)] I (i0:=0) ?_ ?_ ?_ (Nat.zero_le _) ?_
  · rfl
  · simp
  · rw [hI]
    refine ⟨by simp,.sl n7 0 1,.nils,.nils,some n7,none,none,[.sl n19 0 1],[],[(some n19,.arr 2 [.int .i64 0])],[],by simp,Nat.zero_le _,by simp [metL]; omega,?_,rfl,rfl,Vec.none,Vec.none,rfl,?_,trivial⟩
    · rw [hF]
      have:=((o5.nil (.arr 4 [])).nil (.arr 36 []))
      have e1 : ((none,BSt.arr 36 ([] : List BV))::(none,BSt.arr 4 ([] : List BV))::(some n8,BSt.arr 25 [encN t,.int .i64 0,.nils,.nils])::(some n7,BSt.arr 36 [.sl n19 0 1])::(some n19,BSt.arr 2 [.int .i64 0])::([] : List Sl)).Perm
          ([(none,.arr 36 []),(none,.arr 4 []),(some n7,.arr 36 [.sl n19 0 1])]++[(some n8,.arr 25 [encN t,.int .i64 0,.nils,.nils])]++([(some n19,.arr 2 [.int .i64 0])]++[])) :=
        List.Perm.cons _ (List.Perm.cons _ (List.Perm.swap _ _ _))
      exact this.perm e1.symm
    · simp only [metL,List.map_cons,List.map_nil,hstart]
      exact RowsOf.snoc (vs:=[]) (fr:=[]) (xss:=[]) (v:=.sl n19 0 1) (bo:=some n19) (xs:=[.int .i64 0]) rfl trivial
  clear o3 o4 o5
  rintro i e K hi ⟨e0,e1,e4,e6,e8,-⟩ hh
  rw [hI] at hh
  obtain ⟨e9,v7,u,w,b7,bo,wo,vs7,vs,fr7,fr,e7,hil,hlim,o,hv7,hv7l,hu,hw',hvs,hr7,hrows⟩:=hh
  simp only [] at e0 e1 e4 e6 e8
  have wi:=wS (n:=i) (by omega)
  by_cases hlt : i < (metL (succs (wd t) nx) s0 i).length
  · have hiN : i < l:=by omega
    obtain ⟨k,hkk⟩ : ∃ k,(metL (succs (wd t) nx) s0 i)[i]? = some k:=⟨_,List.getElem?_eq_getElem hlt⟩
    have hkl : k.length = n:=hmet i k (List.mem_of_getElem? hkk)
    have hKSi : KS[i]? = some k:=by
      obtain ⟨r,hr⟩:=pre i (by omega)
      rw [← hr,List.getElem?_append_left hlt]
      exact hkk
    have hiKS : i < KS.length:=(List.getElem?_eq_some_iff.1 hKSi).1
    have hnext : metL (succs (wd t) nx) s0 (i + 1) = lsU (metL (succs (wd t) nx) s0 i) nx k (wd t):=by rw [metL,hkk]; rfl
    have hpre : ∀ c,c≤wd t→lsU (metL (succs (wd t) nx) s0 i) nx k c <+: KS:=fun c hc => (lsU_pre hc).trans (by rw [← hnext]; exact pre (i + 1) (by omega))
    simp [e9,e7,hv7.isSl,hv7.len,hlt]
    intro n10 b10 f10
    have o6:=o.new f10 b10 (s:=.arr 2 [])
    simp [make_of f10 b10]
    obtain ⟨J,hJ⟩ : ∃ J : Nat→Env→BH→Prop,J = (fun c e K => e 11 = encN c∧∃ v7 v10 b7 b10 vs7 fr7,e 7 = v7∧e 10 = v10 ∧
      Own base K2' K ([(b10,.arr 2 ((rowU KS nx k c).map encN)),(wo,.arr 36 vs),(bo,.arr 4 (((KS.take i).map ac).map encB)),(b7,.arr 36 vs7)]++F u w++(fr7++fr)) ∧
      Vec b7 v7 (lsU (metL (succs (wd t) nx) s0 i) nx k c).length∧vs7.length = (lsU (metL (succs (wd t) nx) s0 i) nx k c).length∧Vec b10 v10 c ∧
      RowsOf 2 vs7 fr7 (((lsU (metL (succs (wd t) nx) s0 i) nx k c).map setL).map (·.map encN))):=⟨_,rfl⟩
    refine wpC_countK (wd t) [(0,.ptr rb 0),(1,encN tape),(4,.ptr n4 0),(6,.ptr n6 0),(8,.ptr n8 0),(9,encN i)] J (i0:=0) ?_ ?_ ?_ (Nat.zero_le _) ?_
    · rfl
    · simp [e0,e1,e4,e6,e8,e9]
    · rw [hJ]
      refine ⟨by simp,v7,.sl n10 0 0,b7,some n10,vs7,fr7,by simp [e7],by simp,o6,by rw [lsU_zero]; exact hv7,by rw [lsU_zero]; exact hv7l,rfl,by rw [lsU_zero]; exact hr7⟩
    clear e0 e1 e4 e6 e7 e8 e9 o o6 hv7 hv7l hr7
    rintro c e K hc ⟨e0,e1,e4,e6,e8,e9,-⟩ hh
    rw [hJ] at hh
    obtain ⟨e11,v7,v10,b7,b10,vs7,fr7,e7,e10,o,hv7,hv7l,hv10,hr7⟩:=hh
    simp only [] at e0 e1 e4 e6 e8 e9
    have wc:=wS (n:=c) (by omega)
    have hlsp:=hpre c hc
    obtain ⟨ls,hls⟩ : ∃ ls,ls = lsU (metL (succs (wd t) nx) s0 i) nx k c:=⟨_,rfl⟩
    have hlsnd : ls.Nodup:=by rw [hls]; exact addAll_nodup (met_nodup i)
    have hlsk : ls[i]? = some k:=by
      rw [hls]
      obtain ⟨r,hr⟩:=(lsU_pre (ks:=metL (succs (wd t) nx) s0 i) (nx:=nx) (k:=k) (Nat.zero_le c))
      rw [← hr,lsU_zero,List.getElem?_append_left hlt]
      exact hkk
    have hlsl : ls.length≤l + c:=by
      rw [hls]
      exact Nat.le_trans (lsU_len _ _ _ c) (by omega)
    have hKSl : ∀ S∈KS,S.length = n:=fun S hS => hmet l S (by rw [← hKS]; exact hS)
    have hlsn : ∀ S∈ls,S.length = n:=fun S hS => by
      obtain ⟨r,hr⟩:=hlsp
      exact hKSl S (by rw [← hr,← hls]; exact List.mem_append_left _ hS)
    rw [← hls] at hv7 hv7l hr7 hlsp
    have hil2 : i < ls.length:=(List.getElem?_eq_some_iff.1 hlsk).1
    have o':=o
    rw [hF] at o'
    have r8:=rd_ptr (o'.at 4 (b:=n8) rfl) (rt:=none) (j:=0) (c:=encN t) rfl rfl
    simp [e8,e11,r8]
    refine callP (s_wide t K (by omega)) ?_
    have hset : ∀ {L : BH},K.Keeps L→RdR L 36 2 v7 encN (ls.map setL):=fun kL => (RowsOf.rdR (bo:=b7) (F:=[(b10,.arr 2 ((rowU KS nx k c).map encN)),(wo,.arr 36 vs),(bo,.arr 4 (((KS.take i).map ac).map encB)),(b7,.arr 36 vs7)]++F u w) (o.sub (List.Sublist.append (List.Sublist.refl _) (List.sublist_append_left _ _))) hr7 (o.rd 3 rfl (by rw [hv7l]; exact hv7))).keeps kL
    have hPK:=hP.keeps o.keeps
    by_cases hcw : c < wd t
    · have hlsp1:=hpre (c + 1) hcw
      obtain ⟨ln,hln⟩ : ∃ ln,ln = nx k c:=⟨_,rfl⟩
      have hsu : lsU (metL (succs (wd t) nx) s0 i) nx k (c + 1) = addK ls ln:=by rw [lsU_succ,← hls,hln]
      rw [hsu] at hlsp1
      have hpk : pos (addK ls ln) ln = pos KS ln:=(idx_pre hlsp1 (mem_addK.2 (.inr rfl))).symm
      have hlnl : ln.length = n:=by rw [hln]; exact hnxl k c
      obtain ⟨ux,q1,q2⟩:=(hset (BH.Keeps.refl K)).at (i:=i) (by simpa using hil2)
      have q2:=q2 none rfl
      have hgk : (ls.map setL)[i]'(by simpa using hil2) = setL k:=by
        have : ls[i] = k:=(List.getElem?_eq_some_iff.1 hlsk).2
        simp [this]
      rw [hgk] at q1
      simp [hcw,e7,e9,hv7.isSl,hv7.len,hil2,q2,e1,e6,e11]
      refine (s_Some (base:=base) t tape n6 c ht1 ht htape B k ux K hPK hBok (by omega) (by omega) hcw q1).step fun r K1 k1 hr => ?_
      obtain ⟨b12,hr12,hfr12⟩:=hr
      rw [← hnx,← hln] at hr12
      have o2:=o.take k1 hr12 hfr12
      have hr12v : Vec b12 r (setL ln).length:=by simpa using hr12.vec
      have hr12d : Rd K1 2 r ((setL ln).map encN):=hr12.rd
      simp
      obtain ⟨T2,hT2⟩ : ∃ T2 : Nat→Env→BH→Prop,T2 = (fun m e L => e 14 = encN m∧L = K1∧((e 13 = encI (-1)∧∀ j,j < m→ls[j]?≠some ln)∨(ln∈ls∧e 13 = encN (pos ls ln)))):=⟨_,rfl⟩
      refine wpC_countK ls.length [(0,.ptr rb 0),(1,encN tape),(4,.ptr n4 0),(6,.ptr n6 0),(8,.ptr n8 0),(9,encN i),(7,v7),(10,v10),(11,encN c),(12,r)] T2 (i0:=0) ?_ ?_ ?_ (Nat.zero_le _) ?_
      · rfl
      · simp [e0,e1,e4,e6,e8,e9,e7,e10,e11]
      · rw [hT2]
        exact ⟨by simp,rfl,.inl ⟨by simp,fun j hj => by omega⟩⟩
      clear e0 e1 e4 e6 e7 e8 e9 e10 e11 q2 r8 o'
      rintro m e L hm0 ⟨e0,e1,e4,e6,e8,e9,e7,e10,e11,e12,-⟩ hh
      rw [hT2] at hh
      obtain ⟨e14,rfl,hor⟩:=hh
      simp only [] at e0 e1 e4 e6 e8 e9 e7 e10 e11 e12
      have wm:=wS (n:=m) (by omega)
      rcases hor with ⟨e13,hno⟩ | ⟨hm,e13⟩
      · by_cases hml : m < ls.length
        · obtain ⟨uy,p1,p2⟩:=(hset k1).at (i:=m) (by simpa using hml)
          have p2:=p2 none rfl
          have hgm : (ls.map setL)[m]'(by simpa using hml) = setL ls[m]:=by simp
          rw [hgm] at p1
          have hlm:=hlsn _ (List.getElem_mem hml)
          have hsl1:=setL_len ls[m]
          have hsl2:=setL_len ln
          have hsame:=s_Same (base:=base) (setL ls[m]) (setL ln) uy r L p1 hr12d (by omega) (by omega)
          simp [e14,e7,hv7.isSl,hv7.len,hml,e13,p2,e12]
          refine callP hsame ?_
          by_cases heq : ls[m] = ln
          · have hpos : pos ls ln = m:=by rw [← heq]; exact idx_of_get hlsnd hml
            have hd : decide (setL ls[m] = setL ln) = true:=by rw [heq]; simp
            rw [hd]
            simp [e14,wm,hml]
            rw [hT2]
            exact ⟨by simp,rfl,.inr ⟨by rw [← heq]; exact List.getElem_mem hml,by simp [hpos]⟩⟩
          · have hd : decide (setL ls[m] = setL ln) = false:=by
              rw [decide_eq_false_iff_not]
              exact fun h => heq (setL_inj (by omega) h)
            rw [hd]
            simp [e14,wm,hml]
            rw [hT2]
            refine ⟨by simp,rfl,.inl ⟨by simp [e13],fun j hj hjl => ?_⟩⟩
            by_cases hjm : j = m
            · subst hjm
              rw [List.getElem?_eq_getElem hml] at hjl
              exact heq (Option.some.inj hjl)
            · exact hno j (by omega) hjl
        · have hme : m = ls.length:=by omega
          have hnm : ln ∉ ls:=fun h => by
            obtain ⟨j,hj⟩:=List.getElem?_of_mem h
            have hjl:=(List.getElem?_eq_some_iff.1 hj).1
            exact hno j (by omega) hj
          have hadd : addK ls ln = ls++[ln]:=if_neg hnm
          have hp2 : pos (ls++[ln]) ln = ls.length:=by rw [← hadd]; exact idx_new hnm
          rw [hadd] at hpk hsu hlsp1
          simp [e14,e7,hv7.isSl,hv7.len,hml,e13,e12,hr12v.one,cells_one hr12v.one]
          intro n3 b3 f3
          simp [make_of f3 b3]
          intro n4' b4' f4'
          obtain ⟨w7,K3,b7',p1,p2,p3⟩:=o2.push 4 rfl (v:=v7) (by rw [hv7l]; exact hv7) (x:=r) (bytes:=24) hr12v.one (by omega) (by omega) f3 b3 f4' b4'
          simp [p1,e10]
          intro n1 b1 f1
          simp [make_of f1 b1]
          intro n2 b2 f2
          have p2 : Own base K2' K3 ((b12,.arr 2 ((setL ln).map encN))::(b10,.arr 2 ((rowU KS nx k c).map encN))::([(wo,.arr 36 vs),(bo,.arr 4 (((KS.take i).map ac).map encB)),(some b7',.arr 36 (vs7++[r]))]++F u w++(fr7++fr))):=p2
          obtain ⟨v',K',b',t1,t2,t3⟩:=p2.push 1 rfl (by simpa [rowU_len] using hv10) (x:=encN ls.length) (bytes:=8) rfl (by simp [rowU_len]; omega) (by simp [rowU_len]; omega) f1 b1 f2 b2
          simp [t1,e11,wc,hcw]
          rw [hJ]
          simp only [hsu]
          refine ⟨by simp,w7,v',some b7',some b',vs7++[r],fr7++[(b12,.arr 2 ((setL ln).map encN))],by simp,by simp,?_,by simpa [hv7l] using p3,by simp [hv7l],by simpa [rowU_len] using t3,?_⟩
          · rw [rowU_succ,← hln,← hpk,hp2,List.map_append]
            exact Own.last2 (p:=(b12,.arr 2 ((setL ln).map encN))) (F:=[(some b',.arr 2 ((rowU KS nx k c).map encN++[encN ls.length])),(wo,.arr 36 vs),(bo,.arr 4 (((KS.take i).map ac).map encB)),(some b7',.arr 36 (vs7++[r]))]++F u w) t2
          · simp only [List.map_append,List.map_cons,List.map_nil]
            exact hr7.snoc (by simpa using hr12v)
      · have hp0 : ¬ ((pos ls ln : Nat) : Int) < 0:=by omega
        by_cases hml : m < ls.length
        · simp [e14,e7,hv7.isSl,hv7.len,hml,e13,hp0]
          have hadd : addK ls ln = ls:=if_pos hm
          rw [hadd] at hpk hsu
          simp [e13,hp0,e10]
          intro n1 b1 f1
          simp [make_of f1 b1]
          intro n2 b2 f2
          have o3 : Own base K2' L ((b10,.arr 2 ((rowU KS nx k c).map encN))::([(wo,.arr 36 vs),(bo,.arr 4 (((KS.take i).map ac).map encB)),(b7,.arr 36 vs7)]++F u w++(fr7++fr))):=o2.tail
          obtain ⟨v',K',b',p1,p2,p3⟩:=o3.push 0 rfl (by simpa [rowU_len] using hv10) (x:=encN (pos ls ln)) (bytes:=8) rfl (by simp [rowU_len]; omega) (by simp [rowU_len]; omega) f1 b1 f2 b2
          simp [p1,e11,wc,hcw]
          rw [hJ]
          simp only [hsu]
          refine ⟨by simp,v7,v',b7,some b',vs7,fr7,by simp [e7],by simp,?_,hv7,hv7l,by simpa [rowU_len] using p3,hr7⟩
          rw [rowU_succ,← hln,← hpk,List.map_append]
          exact p2
        · simp [e14,e7,hv7.isSl,hv7.len,hml]
          have hadd : addK ls ln = ls:=if_pos hm
          rw [hadd] at hpk hsu
          simp [e13,hp0,e10]
          intro n1 b1 f1
          simp [make_of f1 b1]
          intro n2 b2 f2
          have o3 : Own base K2' L ((b10,.arr 2 ((rowU KS nx k c).map encN))::([(wo,.arr 36 vs),(bo,.arr 4 (((KS.take i).map ac).map encB)),(b7,.arr 36 vs7)]++F u w++(fr7++fr))):=o2.tail
          obtain ⟨v',K',b',p1,p2,p3⟩:=o3.push 0 rfl (by simpa [rowU_len] using hv10) (x:=encN (pos ls ln)) (bytes:=8) rfl (by simp [rowU_len]; omega) (by simp [rowU_len]; omega) f1 b1 f2 b2
          simp [p1,e11,wc,hcw]
          rw [hJ]
          simp only [hsu]
          refine ⟨by simp,v7,v',b7,some b',vs7,fr7,by simp [e7],by simp,?_,hv7,hv7l,by simpa [rowU_len] using p3,hr7⟩
          rw [rowU_succ,← hln,← hpk,List.map_append]
          exact p2
    · have hcc : c = wd t:=by omega
      subst hcc
      by_cases hbig : l < ls.length
      · have hb1 : 1000 < ls.length:=by omega
        have hb2 : (1000 : Int) < (ls.length : Int):=by omega
        obtain ⟨m,K7,e7',g7,r7,kk,hrel⟩:=rel_end (base:=base) (t:=t) (r:=(none,3)) (Own.join o2 o.keeps o) (i:=1) (n2:=n4) rfl rfl (BH.Keeps.refl _) rfl
        cases e7'
        have g7' : K.wr base none 4 (.ptr n4 0) (.agg [.int .i64 0,.int .i64 0,.nils,.nils]) = some K7:=g7
        simp [e4,e7,hv7.isSl,hv7.len,hb1,hb2,g7',r7]
        have hsm : someN l t tape B = (none,3):=by
          unfold someN
          rw [if_pos (by rw [hXl]; have:=hlsp.length_le; omega)]
        rw [hR,hsm]
        exact ⟨kk,hrel⟩
      · have hb1 : ¬ 1000 < ls.length:=by omega
        have hb2 : ¬ (1000 : Int) < (ls.length : Int):=by omega
        have u1:=rd_ptr (o'.at 4 (b:=n8) rfl) (rt:=some 25) (j:=2) (c:=u) rfl rfl
        obtain ⟨ux,q1,q2⟩:=(hset (BH.Keeps.refl K)).at (i:=i) (by simpa using hil2)
        have q2:=q2 none rfl
        have hgk : (ls.map setL)[i]'(by simpa using hil2) = setL k:=by
          have : ls[i] = k:=(List.getElem?_eq_some_iff.1 hlsk).2
          simp [this]
        rw [hgk] at q1
        have hti : (KS.take i).length = i:=by simp; omega
        have hta : (KS.take (i + 1)).map ac = (KS.take i).map ac++[ac k]:=by rw [List.take_add_one,hKSi]; simp
        have htr : ((KS.take (i + 1)).map fun k => rowU KS nx k (wd t)).map (·.map encN) = ((KS.take i).map fun k => rowU KS nx k (wd t)).map (·.map encN)++[(rowU KS nx k (wd t)).map encN]:=by rw [List.take_add_one,hKSi]; simp
        have hin : i + 1≤(metL (succs (wd t) nx) s0 (i + 1)).length:=by
          have:=(met_pre1 (sx:=succs (wd t) nx) (s:=s0) i).length_le
          omega
        simp [e1,e6,e7,e8,e9,hv7.isSl,hv7.len,hb1,hb2,u1,hil2,q2]
        refine (s_Ends (base:=base) t tape n6 ht1 ht htape B k ux K hPK hBok (by omega) (by omega) q1).step fun r K1 k1 hr => ?_
        rw [← hac] at hr
        subst hr
        have o1':=o.call k1
        simp
        intro n1 b1 f1
        simp [make_of f1 b1]
        intro n2 b2 f2
        obtain ⟨v',K3,b',q1,o3,q3⟩:=o1'.push 2 rfl (v:=u) (by simp only [List.length_map,hti]; exact hu) (x:=encB (ac k)) (bytes:=1) rfl (by simp; omega) (by simp; omega) f1 b1 f2 b2
        have o3 : Own base K2' K3 ([(b10,.arr 2 ((rowU KS nx k (wd t)).map encN)),(wo,.arr 36 vs),(some b',.arr 4 (((KS.take i).map ac).map encB++[encB (ac k)])),(b7,.arr 36 vs7)]++F u w++(fr7++fr)):=o3
        rw [hF] at o3
        obtain ⟨K4,q2,o4⟩:=o3.put 4 (b:=n8) rfl (j:=2) (u:=v') (by simp) q3.one (rt:=none) rfl
        simp [q1,q2,e8]
        have u2:=rd_ptr (o4.at 4 (b:=n8) rfl) (rt:=none) (j:=3) (c:=w) rfl rfl
        have h17:=hv10.one
        simp [u2,e10,h17,cells_one h17]
        intro n3 b3' f3
        simp [make_of f3 b3']
        intro n4' b4' f4'
        obtain ⟨w',K5',c',p1,o5,p3⟩:=o4.push 1 rfl (v:=w) (by rw [hvs]; exact hw') (x:=v10) (bytes:=24) h17 (by omega) (by omega) f3 b3' f4' b4'
        obtain ⟨K6,p2,o6⟩:=o5.put 4 (b:=n8) rfl (j:=3) (u:=w') (by simp) p3.one (rt:=none) rfl
        simp [p1,p2,e8,e9,wi,hiN]
        rw [hI]
        refine ⟨by simp,v7,v',w',b7,some b',some c',vs7,vs++[v10],fr7,fr++[(b10,.arr 2 ((rowU KS nx k (wd t)).map encN))],by simp [e7],hin,by rw [hnext,← hls]; omega,?_,by rw [hnext,← hls]; exact hv7,by rw [hnext,← hls]; exact hv7l,?_,?_,by simp [hvs],by rw [hnext,← hls]; exact hr7,?_⟩
        · have o7 : Own base K2' K6 ((b10,.arr 2 ((rowU KS nx k (wd t)).map encN))::(([(some c',.arr 36 (vs++[v10])),(some b',.arr 4 (((KS.take i).map ac).map encB++[encB (ac k)])),(b7,.arr 36 vs7)]++[(some n8,.arr 25 [encN t,.int .i64 0,v',w'])]++fr7)++fr)):=by
            simpa [List.append_assoc] using o6
          have o8:=Own.last o7
          rw [hta,hF]
          simpa [List.append_assoc] using o8
        · simp only [List.length_map,hti] at q3
          exact q3
        · simpa [hvs] using p3
        · rw [htr]
          exact hrows.snoc (by simpa [rowU_len] using hv10)
  · have hie : i = (metL (succs (wd t) nx) s0 i).length:=by omega
    have hdi : Done (wd t) nx s0 i:=by unfold Done DoneL; omega
    have hKi : metL (succs (wd t) nx) s0 i = KS:=by
      rw [hKS]
      exact (DoneL.eq hdi (by omega)).symm
    rw [hKi] at hie
    have htk : KS.take i = KS:=by rw [hie,List.take_length]
    rw [htk] at o hrows
    have hlt' : ¬ i < (metL (succs (wd t) nx) s0 i).length:=hlt
    obtain ⟨X,hXe⟩ : ∃ X,X = setA l t tape B:=⟨_,rfl⟩
    have hXok:=setA_ok (l:=l) (t:=t) (tape:=tape) (A:=B) (by rw [hXl,← hie]; omega)
    rw [← hXe] at hX hXl hXok
    have o':=o
    rw [hF] at o'
    have hRd : RdP K n8 t 0 X:=by
      refine ⟨u,w,o'.at 3 (b:=n8) rfl,?_,?_⟩
      · rw [hX]
        show Rd K 4 u ((KS.map ac).map encB)
        exact o'.rd 1 rfl (by rw [List.length_map,List.length_map,← hie]; exact hu)
      · rw [hX]
        exact RowsOf.rdR (bo:=wo) (F:=[(wo,.arr 36 vs),(bo,.arr 4 ((KS.map ac).map encB)),(b7,.arr 36 vs7)]++[(some n8,.arr 25 [encN t,.int .i64 0,u,w])]++fr7) (by simpa [List.append_assoc] using o') (by simpa [autOf,rowU] using hrows) (o'.rd 0 rfl (by rw [hvs]; exact hw'))
    simp [e7,e8,e9,hv7.isSl,hv7.len,hlt']
    refine (s_tidied (base:=base) t 0 n8 (by omega) X K hRd hXok.1 hXok.1.pos (by omega)).step fun v K6 k6 hv => ?_
    have hXs:=(TA_spec (by omega : t≤3) hXok.1 hXok.1.pos).2
    simp
    refine (s_toldR (base:=base) t _ v _ K6 hv (by omega)).step fun v3 K7 k7 hv3 => ?_
    rw [hXok.2] at hv3
    obtain ⟨m,K8,rfl,g8,r8,kk,hrel⟩:=rel_end (base:=base) (o2.call o.keeps) (i:=1) (n2:=n4) rfl rfl (k6.trans k7) hv3
    simp [e4,g8,r8]
    have hsm : someN l t tape B = told (TA t (langK (nxB B t tape) (acB B t tape) (startB B.acc.length 0))):=by
      unfold someN
      rw [← hXe,if_neg (by rw [hXl,← hie]; omega)]
    rw [hR,hsm]
    exact ⟨kk,hrel⟩
theorem s_Fewer (t s tape rb : Nat) (ht1 : 1≤t) (ht : t + 1≤3) (htape : tape≤t) (A : Aut) (H : BH) (hA : RdP H rb (t + 1) s A) (hok : A.Ok (wd (t + 1))) (hs : s < A.acc.length) (hn : A.acc.length≤150) :
    Runs (gam base) 181 [.ptr rb 0,encN tape] H (encN 0) H:=by
  obtain ⟨T,hT⟩ : ∃ T,T = t + 1:=⟨_,rfl⟩
  rw [← hT] at hA hok
  obtain ⟨u,x,hr,hu,hx⟩:=id hA
  have r0:=rd_ptr hr (rt:=none) (j:=0) (c:=encN T) rfl rfl
  have c1:=s_ok (base:=base) rb T s _ _ _ hA.raw (by omega)
  rw [ok_valid (by omega) (by omega) hok hs hn] at c1
  have wT : IntKind.i64.wrap ((T : Int) - 1) = (T : Int) - 1:=w64 (by omega) (by omega)
  have hone : Runs (gam base) 178 [.ptr rb 0,encN tape] H (encN 0) H:=by
    refine runs_of (fn:=ir178) rfl ?_
    simp [ir178]
    refine callP c1 ?_
    simp [r0,wT]
    refine callP (s_in tape 0 ((T : Int) - 1) H) ?_
    have hin : inB tape 0 ((T : Int) - 1) = true:=by simp [inB]; omega
    rw [hin]
    simp
  refine runs_of (fn:=ir181) rfl ?_
  have hT1 : ((T : Int) == 1) = false:=by simp; omega
  simp [ir181]
  refine callP hone ?_
  simp [r0,hT1]
theorem s_SomeOn (l : Nat) (hl : l = 1000) (t s tape : Nat) (ht1 : 1≤t) (ht : t + 1≤3) (htape : tape≤t) (A : Aut) (m : BV) (H : BH) (hA : RdRel H (t + 1) s A m) (hok : A.Ok (wd (t + 1))) (hs : s < A.acc.length) (hn : A.acc.length≤150) :
    FnDoes (gam base) 121 [m,encN tape] H fun v K => RelR base H t (someN l t tape (TA (t + 1) (A.lang s))) v K:=by
  obtain ⟨R,hR⟩ : ∃ R : BV→BH→Prop,R = fun v K => RelR base H t (someN l t tape (TA (t + 1) (A.lang s))) v K:=⟨_,rfl⟩
  rw [← hR]
  refine FnDoes.of (fn:=ir121) rfl ?_
  have g1:=hA
  obtain ⟨u,x,rfl,hu,hx⟩:=hA
  have u1:=hu.one
  have x1:=one_of_isSl hx.isSl
  obtain ⟨T,hT⟩ : ∃ T,T = t + 1:=⟨_,rfl⟩
  have e1 : (encN (t + 1)) = encN T:=by rw [hT]
  rw [e1] at g1 ⊢
  simp [ir121,u1,x1]
  intro n2 b2 f2
  simp [make_of f2 b2]
  intro n4 b4 f4
  have o1:=Own.start (base:=base) (H:=H) |>.new f2 b2 (s:=.arr 25 [encN T,encN s,u,x]) |>.new f4 b4 (s:=.arr 25 [.int .i64 0,.int .i64 0,.nils,.nils])
  have p1 : RdP _ n2 (t + 1) s A:=RdRel.at (n:=n2) (by rw [e1]; exact g1) o1.keeps (by rw [e1]; exact o1.at 1 (b:=n2) rfl)
  simp [make_of f4 b4]
  refine callP (s_Fewer (base:=base) t s tape n2 ht1 ht htape A _ p1 hok hs hn) ?_
  simp
  refine (s_SomeOn2 (base:=base) l hl t s tape n2 ht1 ht htape A _ p1 hok hs hn).step fun r K5 k5 hr => ?_
  obtain ⟨m,K8,rfl,g8,r8,kk,hrel⟩:=rel_end (base:=base) o1 (i:=0) (n2:=n4) rfl rfl k5 hr
  simp [g8,r8]
  rw [hR]
  exact ⟨kk,hrel⟩
noncomputable def thenN (f : Aut→Option Aut × Nat) (r : Option Aut × Nat) : Option Aut × Nat:=match r with
  | (none,c) => (none,c)
  | (some A,_) => f A
theorem thenN_good {t : Nat} {f : Aut→Option Aut × Nat} {t' : Nat} {r : Option Aut × Nat} (h : GoodC t' r) (hf : ∀ A,A.Ok (wd t')→A.acc.length≤150→GoodC t (f A)) : GoodC t (thenN f r):=by
  obtain ⟨a,c⟩:=r
  cases a with
  | none => exact h
  | some A => exact hf A h.2.1 h.2.2
theorem wpC_unroll {C : CRel} {b : BCode} {Q : Post} {e : Env} {H : BH} (h : wpC base C b (Post.then (wpC base C (.loop b) Q) Q) e H) : wpC base C (.loop b) Q e H:=by
  obtain ⟨x,e1,H1,hx,hQ⟩:=wpC_elim h
  cases x with
  | normal =>
    obtain ⟨x2,e2,H2,hx2,hQ2⟩:=hQ
    exact ⟨x2,e2,H2,.loopn hx hx2,hQ2⟩
  | exit i => exact ⟨_,e1,H1,.loopx hx (by simp),hQ⟩
  | ret => exact ⟨_,e1,H1,.loopx hx (by simp),hQ⟩
theorem Has.put {e : Env} {t : Nat} {v : BV} {kp : List (Nat × BV)} (h : Has e kp) (ht : kp.all (fun p => !(p.1 == t)) = true) : Has (e.put t v) kp:=Has.frame (W:=[t]) (fun s hs => by
  have : s≠t:=fun he => hs (by simp [he])
  simp [Env.put,this]) (by
  rw [List.all_eq_true] at ht ⊢
  intro p hp
  have:=ht p hp
  simp only [List.contains_cons,List.contains_nil,Bool.or_false]
  exact this) h
abbrev zR4 : List BV:=[.int .i64 0,.int .i64 0,.nils,.nils]
theorem rel_step {C : CRel} {H K0 K1 : BH} {L : List Sl} {i n4 t : Nat} {zs : List BV} {G : Option Aut × Nat} {v : BV} {e : Env} {rest : BCode} {Q : Post} {Kn : Env→BH→Prop} {cd d a b x y p q z w r4 r5 : Nat}
    (o : Own base H K0 L) (hL : L[i]? = some (some n4,.arr 25 zs)) (hz : zs.length = 4) (k : K0.Keeps K1) (hr : RelR base K0 t G v K1) (hg : GoodC t G) (kp : List (Nat × BV)) (hkp : Has e ((r4,.ptr n4 0)::kp)) (hv : e cd = v)
    (hfr : (((r4,BV.ptr n4 0)::kp).all fun s => !(s.1 == d || s.1 == a || s.1 == b || s.1 == x || s.1 == y || s.1 == p || s.1 == q || s.1 == z || s.1 == w || s.1 == r5)) = true)
    (hne : (decide (a≠d) && decide (b≠d) && decide (a≠b) && decide (x≠a) && decide (x≠b) && decide (y≠x) && decide (p≠x) && decide (q≠x) && decide (p≠y) && decide (q≠y) && decide (z≠y) && decide (w≠z)) = true)
    (hKn : ∀ e K,wpC base C (.seq (.seq (.region [⟨some p,.mov (.t y),none,[]⟩,⟨some q,.bin .neq (.t p) (.c (.int .i64 0)),none,[]⟩]) (.cond (.t q) (.seq (.region [⟨some z,.build zR4 [],none,[]⟩,⟨some w,.mov (.t y),none,[]⟩,⟨none,.store none 4 (.t r4) (.t z),none,[]⟩,⟨some r5,.mov (.t w),none,[]⟩]) .ret) .skip)) rest) Q e K→Kn e K)
    (good : ∀ (e' : Env) (n : Nat) (K2 : BH) (A : Aut) (ms : List BV),G = (some A,0)→Has e' ((x,.ptr n 0)::(y,encN 0)::(r4,.ptr n4 0)::kp)→Own base H K2 ((some n,.arr 25 ms)::L)→K1.Keeps K2→OwnRel base K0 K2 t 0 A (.agg ms)→K2.rd none (some 4) (.ptr n 0) = some (.agg ms)→wpC base C rest Q e' K2)
    (bad : ∀ (e' : Env) (K2 : BH) (c : Nat),G = (none,c)→Has e' ((r5,encN c)::(r4,.ptr n4 0)::kp)→K2.rd none (some 4) (.ptr n4 0) = some (.agg zR4)→H.Keeps K2→Q .ret e' K2) :
    wpO base C [⟨some d,.mov (.t cd),none,[]⟩,⟨some a,.ext 0 (.t d),none,[]⟩,⟨some b,.ext 1 (.t d),none,[]⟩,⟨some x,.new 25 zR4,none,[]⟩,⟨none,.store none 4 (.t x) (.t a),none,[]⟩,⟨some y,.mov (.t b),none,[]⟩] Kn e K1:=by
  simp only [Bool.and_eq_true,decide_eq_true_eq] at hne
  obtain ⟨⟨⟨⟨⟨⟨⟨⟨⟨⟨⟨h1,h2⟩,h3⟩,h4⟩,h5⟩,h6⟩,h7⟩,h8⟩,h9⟩,h10⟩,h11⟩,h12⟩:=hne
  have hr0:=hr
  obtain ⟨m,rfl,hm⟩:=hr.out
  obtain ⟨c1,c2,u,w',e2,p1,p2,p3,p4⟩:=hm.ones
  subst e2
  have hfr' : ∀ s∈(r4,BV.ptr n4 0)::kp,s.1≠d∧s.1≠a∧s.1≠b∧s.1≠x∧s.1≠y∧s.1≠p∧s.1≠q∧s.1≠z∧s.1≠w∧s.1≠r5:=fun s hs => by
    have:=List.all_eq_true.1 hfr s hs
    simp only [Bool.not_eq_true',Bool.or_eq_false_iff,beq_eq_false_iff_ne] at this
    obtain ⟨⟨⟨⟨⟨⟨⟨⟨⟨q1,q2⟩,q3⟩,q4⟩,q5⟩,q6⟩,q7⟩,q8⟩,q9⟩,q10⟩:=this
    exact ⟨q1,q2,q3,q4,q5,q6,q7,q8,q9,q10⟩
  have fr : ∀ (e' : Env),(∀ s,s≠d→s≠a→s≠b→s≠x→s≠y→s≠p→s≠q→s≠z→s≠w→s≠r5→e' s = e s)→Has e' ((r4,.ptr n4 0)::kp):=fun e' he => Has.frame (W:=[d,a,b,x,y,p,q,z,w,r5]) (fun s hs => by
      simp only [List.mem_cons,List.not_mem_nil,or_false,not_or] at hs
      obtain ⟨q1,q2,q3,q4,q5,q6,q7,q8,q9,q10⟩:=hs
      exact he s q1 q2 q3 q4 q5 q6 q7 q8 q9 q10) (by
      rw [List.all_eq_true]
      intro s hs
      obtain ⟨q1,q2,q3,q4,q5,q6,q7,q8,q9,q10⟩:=hfr' s hs
      simp [q1,q2,q3,q4,q5,q6,q7,q8,q9,q10]) hkp
  obtain ⟨r1,r2,r3,r4',r5',r6,r7,r8,r9,r10⟩:=hfr' _ (List.mem_cons_self)
  simp only [] at r1 r2 r3 r4' r5' r6 r7 r8 r9 r10
  have e4 : e r4 = .ptr n4 0:=hkp.1
  simp [zR4,hv,p1,p2,p3,p4,h1,h2,h3,h4,h5,h6,Ne.symm h1,Ne.symm h2,Ne.symm h3,Ne.symm h4,Ne.symm h5,Ne.symm h6]
  intro n bn fn
  have o2:=(o.call k).new fn bn (s:=.arr 25 [.int .i64 0,.int .i64 0,.nils,.nils])
  obtain ⟨K3,g3,o3⟩:=o2.putAll 0 (b:=n) rfl (n:=4) (ds:=[c1,c2,u,w']) rfl rfl (by simp [p1,p2,p3,p4]) (rt:=none) rfl
  obtain ⟨K3',g3',o3'⟩:=((Own.start (base:=base) (H:=K1)).new fn bn (s:=.arr 25 [.int .i64 0,.int .i64 0,.nils,.nils])).putAll 0 (b:=n) rfl (n:=4) (ds:=[c1,c2,u,w']) rfl rfl (by simp [p1,p2,p3,p4]) (rt:=none) rfl
  have ek : K3' = K3:=by rw [g3] at g3'; exact (Option.some.inj g3').symm
  subst ek
  have r3x:=rd_all (o3.at 0 (b:=n) rfl) (n:=4) (rt:=none) rfl rfl
  simp [zR4,make_of fn bn,g3,h1,h2,h3,h4,h5,h6,Ne.symm h1,Ne.symm h2,Ne.symm h3,Ne.symm h4,Ne.symm h5,Ne.symm h6]
  refine hKn _ _ ?_
  obtain ⟨zG,cG⟩:=G
  cases zG with
  | none =>
    have hc:=code_ne hg.1
    have hc' : ¬ cG = 0:=by have : 0 < cG:=hg.1; omega
    obtain ⟨m8,K8,e8,g8,r8x,kk8,hrel8⟩:=rel_end (base:=base) (t:=t) (r:=(none,cG)) (o3.tail) (i:=i) (n2:=n4) hL hz (BH.Keeps.refl _) rfl
    cases e8
    have g8' : K3'.wr base none 4 (.ptr n4 0) (.agg zR4) = some K8:=g8
    simp [zR4,h1,h2,h3,h4,h5,h6,h7,h8,h9,h10,h11,h12,Ne.symm h1,Ne.symm h2,Ne.symm h3,Ne.symm h4,Ne.symm h5,Ne.symm h6,Ne.symm h7,Ne.symm h8,Ne.symm h9,Ne.symm h10,Ne.symm h11,Ne.symm h12,hc,hc',r1,r2,r3,r4',r5',r6,r7,r8,r9,r10,Ne.symm r1,e4,g8']
    refine bad _ K8 cG rfl ⟨by simp,fr _ fun s s1 s2 s3 s4 s5 s6 s7 s8 s9 s10 => by simp [Env.put,s1,s2,s3,s4,s5,s6,s7,s8,s9,s10]⟩ r8x kk8
  | some A =>
    have ec : cG = 0:=hg.1
    subst ec
    simp [h1,h2,h3,h4,h5,h6,h7,h8,h9,h10,Ne.symm h1,Ne.symm h2,Ne.symm h3,Ne.symm h4,Ne.symm h5,Ne.symm h6,Ne.symm h7,Ne.symm h8,Ne.symm h9,Ne.symm h10]
    refine good _ n K3' A [c1,c2,u,w'] rfl ⟨by simp [Ne.symm h6,Ne.symm h7,Ne.symm h8,h6,h7,h8],by simp [Ne.symm h9,Ne.symm h10,h9,h10],fr _ fun s s1 s2 s3 s4 s5 s6 s7 s8 s9 s10 => by simp [Env.put,s1,s2,s3,s4,s5,s6,s7,s8,s9,s10]⟩ o3 o3'.keeps (by
      obtain ⟨m',e',ho⟩:=hr0
      simp only [BV.tup.injEq,List.cons.injEq,and_true] at e'
      rw [e']
      exact ho.keeps o3'.keeps) r3x
theorem OwnRel.rows2 {H K : BH} {t s : Nat} {A : Aut} {m : BV} (h : OwnRel base H K t s A m) : ∃ Y,Own base H K Y∧∀ {H' K' : BH} {Z : List Sl},Own base H' K' (Z++Y)→OwnRel base H' K' t s A m:=by
  obtain ⟨u,w,bo,wo,vs,fr,e,o,hu,hw,hr⟩:=h
  exact ⟨_,o,fun {H' K' Z} o' => ⟨u,w,bo,wo,vs,fr,e,o'.sub (List.sublist_append_right _ _),hu,hw,hr⟩⟩
theorem OwnRel.cells {H K : BH} {t s : Nat} {A : Aut} {m : BV} (h : OwnRel base H K t s A m) : ∃ u x : BV,m = .agg [encN t,encN s,u,x]∧u.one = true∧x.one = true:=by
  obtain ⟨u,w,bo,wo,vs,fr,e,o,hu,hw,hr⟩:=h
  exact ⟨u,w,e,hu.one,hw.one⟩
theorem lay {K : BH} {n : Nat} {a b c d : BV} (f : K.row n = .fresh) (hb : base≤n) (p : ([a,b,c,d] : List BV).all BV.one = true) : ∃ K',(K.set n (.arr 25 [.int .i64 0,.int .i64 0,.nils,.nils])).wr base none 4 (.ptr n 0) (.agg [a,b,c,d]) = some K' ∧
    K.Keeps K'∧K'.rd none (some 4) (.ptr n 0) = some (.agg [a,b,c,d])∧K'.row n = .arr 25 [a,b,c,d]∧∀ {H : BH} {L : List Sl},Own base H K L→Own base H K' ((some n,.arr 25 [a,b,c,d])::L):=by
  obtain ⟨K',g,o⟩:=((Own.start (base:=base) (H:=K)).new f hb (s:=.arr 25 [.int .i64 0,.int .i64 0,.nils,.nils])).putAll 0 (b:=n) rfl (n:=4) (ds:=[a,b,c,d]) rfl rfl p (rt:=none) rfl
  refine ⟨K',g,o.keeps,rd_all (o.at 0 (b:=n) rfl) rfl rfl,o.at 0 (b:=n) rfl,fun {H L} oh => ?_⟩
  obtain ⟨K2,g2,o2⟩:=(oh.new f hb (s:=.arr 25 [.int .i64 0,.int .i64 0,.nils,.nils])).putAll 0 (b:=n) rfl (n:=4) (ds:=[a,b,c,d]) rfl rfl p (rt:=none) rfl
  have ek : K2 = K':=by rw [g] at g2; exact (Option.some.inj g2).symm
  subst ek
  exact o2
def hvI (c : Int) : Nat→Int
  | 0 => c
  | i + 1 => hvI c i / 2
def leftV (c : Int) : List Int:=c::(List.range 10).flatMap fun i => [hvI c (i + 1),hvI c (i + 1) + 1]
theorem mem_leftV {c v : Int} : v∈leftV c↔v = c∨∃ i,i < 10∧(v = hvI c (i + 1)∨v = hvI c (i + 1) + 1):=by
  unfold leftV
  rw [List.mem_cons,List.mem_flatMap]
  refine or_congr Iff.rfl ⟨?_,?_⟩
  · rintro ⟨i,hi,h⟩
    refine ⟨i,List.mem_range.1 hi,by simpa using h⟩
  · rintro ⟨i,hi,h⟩
    exact ⟨i,List.mem_range.2 hi,by simpa using h⟩
theorem leftV_len (c : Int) : (leftV c).length = 21:=by
  simp [leftV]
  rfl
theorem half_step (q e d : Int) (he : e = 0∨e = 1) (hd : (d = -1∨d = 0)∨(d = 1∧(q + e - d) % 2 = 0)) : (q + e - d) / 2 = q / 2∨(q + e - d) / 2 = q / 2 + 1:=by omega
theorem leftV_step {c v d : Int} (hc : -1000≤c∧c≤1000) (hv : v∈leftV c) (hd : (d = -1∨d = 0)∨(d = 1∧(v - d) % 2 = 0)) : (v - d) / 2∈leftV c:=by
  have key : ∀ (i : Nat) (e : Int),i≤10→(e = 0∨e = 1)→v = hvI c i + e→(v - d) / 2∈leftV c:=fun i e hi he hv => by
    rw [hv] at hd ⊢
    rcases Nat.lt_or_ge i 10 with h10 | h10
    · exact mem_leftV.2 (.inr ⟨i,h10,half_step _ e d he hd⟩)
    · have e10 : i = 10:=by omega
      subst e10
      have h0 : hvI c 10 = 0∨hvI c 10 = -1:=by
        simp only [hvI]
        omega
      refine mem_leftV.2 (.inr ⟨9,by omega,?_⟩)
      show _ = hvI c 10∨_ = hvI c 10 + 1
      rcases h0 with h0 | h0 <;> rw [h0] at hd ⊢ <;> omega
  rcases mem_leftV.1 hv with h | ⟨i,hi,h | h⟩
  · exact key 0 0 (by omega) (.inl rfl) (by rw [h]; simp [hvI])
  · exact key (i + 1) 0 (by omega) (.inl rfl) (by rw [h]; simp)
  · exact key (i + 1) 1 (by omega) (.inr rfl) h
theorem leftV_start (c : Int) : c∈leftV c:=List.mem_cons_self
theorem leftV_big {c v : Int} (hc : -1000≤c∧c≤1000) (hv : v∈leftV c) : -1001≤v∧v≤1001:=by
  have key : ∀ i : Nat,-1000≤hvI c i∧hvI c i≤1000:=fun i => by
    induction i with
    | zero => exact hc
    | succ i ih => simp only [hvI]; omega
  rcases mem_leftV.1 hv with rfl | ⟨i,hi,rfl | rfl⟩
  · omega
  · have:=key (i + 1); omega
  · have:=key (i + 1); omega
theorem left_closed {w : Nat} {kind c : Int} {sums : Nat→Int} (hc : -1000≤c∧c≤1000) (hs : ∀ x,x < w→(sums x = -1∨sums x = 0)∨(sums x = 1∧kind = 1)) : Closed w (nxL kind sums) c (oddI::leftV c):=by
  refine ⟨List.mem_cons_of_mem _ (leftV_start c),fun s hsU x hx => ?_⟩
  unfold nxL
  split
  · exact List.mem_cons_self
  · next hne =>
    split
    · exact List.mem_cons_self
    · next hk =>
      refine List.mem_cons_of_mem _ ?_
      rcases List.mem_cons.1 hsU with h | h
      · exact absurd h hne
      · refine leftV_step hc h ?_
        rcases hs x hx with h1 | ⟨h1,h2⟩
        · exact .inl h1
        · refine .inr ⟨h1,?_⟩
          by_cases h3 : (s - sums x).tmod 2 = 0
          · have:=Int.emod_eq_zero_of_dvd (Int.dvd_of_tmod_eq_zero h3)
            exact this
          · exact absurd ⟨h2,h3⟩ hk
def sm2 (c : Nat) : Int:=sumsF [1,-1] c
def clsW (v : Int) : Nat:=if v = oddI then 0 else if v = 0 then 1 else if 0 < v then 2 else 3
def kd2 (a fx fy : Nat) : Nat:=if a = 0 then 0 else if a = 1 then (if fx = 1∨fy = 1 then (if fx = 2∨fy = 2 then 0 else 3) else if fx = 2∨fy = 2 then 1 else 2)
  else if a = 2 then (if fx = 2 then 0 else if fy = 2 then 6 else if fy = 1 then 5 else 4) else (if fy = 2 then 0 else if fx = 2 then 6 else if fx = 1 then 5 else 4)
def kdW (a : Nat) : Ks→Nat
  | none => 0
  | some q => kd2 a (q.getD 0 0) (q.getD 1 0)
def hW (v : Int) (k : Ks) : Nat × Int:=(kdW (clsW v) k,if kdW (clsW v) k < 4 then 0 else v)
def repK (n a : Nat) : Ks:=if n = 0 then none else if n = 1 then some [2,2] else if n = 2 then some [0,0] else if n = 3 then some [1,1] else if n = 4 then some [0,0] else if n = 5 then some [1,1] else if a = 2 then some [0,2] else some [2,0]
def nxW (s : Nat × Int) (c : Nat) : Nat × Int:=hW (nxL 1 sm2 s.2 c) (ksNx 2 [0,1] (repK s.1 (clsW s.2)) c)
def accW (s : Nat × Int) : Bool:=decide (s.1 = 1∨s.1 = 2)
def okW (a a' c : Nat) : Bool:=if a = 1 then decide (a' = if sm2 c = 0 then 1 else 0) else if a = 2 then decide (a' = 0∨a' = 2∨(a' = 1∧sm2 c = 1)) else decide (a' = 0∨a' = 3∨(a' = 1∧sm2 c = -1))
def finW : Bool:=(List.range 4).all fun a => (List.range 4).all fun a' => (List.range 3).all fun fx => (List.range 3).all fun fy => (List.range 8).all fun c => decide (a = 0) || !okW a a' c || decide (kdW a' (ksNx 2 [0,1] (some [fx,fy]) c) = kdW a' (ksNx 2 [0,1] (repK (kd2 a fx fy) a) c))
theorem finW_ok : finW = true:=by decide +kernel
theorem way_fin {a a' fx fy c : Nat} (ha : a < 4) (ha' : a' < 4) (hx : fx < 3) (hy : fy < 3) (hc : c < 8) (h0 : a≠0) (hk : okW a a' c = true) : kdW a' (ksNx 2 [0,1] (some [fx,fy]) c) = kdW a' (ksNx 2 [0,1] (repK (kd2 a fx fy) a) c):=by
  have h:=finW_ok
  unfold finW at h
  have h1:=List.all_eq_true.1 h a (List.mem_range.2 ha)
  have h2:=List.all_eq_true.1 h1 a' (List.mem_range.2 ha')
  have h3:=List.all_eq_true.1 h2 fx (List.mem_range.2 hx)
  have h4:=List.all_eq_true.1 h3 fy (List.mem_range.2 hy)
  have h5:=List.all_eq_true.1 h4 c (List.mem_range.2 hc)
  rw [hk] at h5
  simpa [h0] using h5
theorem clsW_lt (v : Int) : clsW v < 4:=by
  unfold clsW
  split
  · omega
  · split
    · omega
    · split <;> omega
theorem sm2_is : ∀ c,c < 8→sm2 c = -1∨sm2 c = 0∨sm2 c = 1:=by decide +kernel
theorem cls_odd : clsW oddI = 0:=by unfold clsW; rw [if_pos rfl]
theorem cls_zero : clsW 0 = 1:=by decide
theorem cls_pos {v : Int} (h : 0 < v) (ho : v≠oddI) : clsW v = 2:=by unfold clsW; rw [if_neg ho,if_neg (by omega),if_pos h]
theorem cls_neg {v : Int} (h : v < 0) : clsW v = 3:=by unfold clsW; rw [if_neg (by unfold oddI; omega),if_neg (by omega),if_neg (by omega)]
theorem nxL_cls {v : Int} {c : Nat} (hc : c < 8) (hv : v≠oddI) (hb : v < 1000000∧-1000000 < v) : okW (clsW v) (clsW (nxL 1 sm2 v c)) c = true:=by
  have hs:=sm2_is c hc
  obtain ⟨d,hd⟩ : ∃ d,d = sm2 c:=⟨_,rfl⟩
  rcases Int.lt_trichotomy v 0 with v0 | v0 | v0
  · rw [cls_neg v0]
    by_cases h : (v - d).tmod 2 = 0
    · have hnx : nxL 1 sm2 v c = (v - d) / 2:=by
        unfold nxL
        rw [if_neg hv,← hd,if_neg (fun hh => hh.2 h)]
      rw [hnx]
      have h2 : (v - d) % 2 = 0:=Int.emod_eq_zero_of_dvd (Int.dvd_of_tmod_eq_zero h)
      rcases Int.lt_trichotomy ((v - d) / 2) 0 with w0 | w0 | w0
      · rw [cls_neg w0]; simp [okW]
      · rw [w0,cls_zero]
        have : d = -1:=by omega
        simp [okW,← hd,this]
      · omega
    · have hnx : nxL 1 sm2 v c = oddI:=by
        unfold nxL
        rw [if_neg hv,← hd,if_pos ⟨rfl,h⟩]
      rw [hnx,cls_odd]
      simp [okW]
  · subst v0
    rw [cls_zero]
    by_cases h : ((0 : Int) - d).tmod 2 = 0
    · have hnx : nxL 1 sm2 0 c = (0 - d) / 2:=by
        unfold nxL
        rw [if_neg hv,← hd,if_neg (fun hh => hh.2 h)]
      have h2 : ((0 : Int) - d) % 2 = 0:=Int.emod_eq_zero_of_dvd (Int.dvd_of_tmod_eq_zero h)
      have hd0 : d = 0:=by omega
      rw [hnx,hd0,show ((0 : Int) - 0) / 2 = 0 from rfl,cls_zero]
      simp [okW,← hd,hd0]
    · have hnx : nxL 1 sm2 0 c = oddI:=by
        unfold nxL
        rw [if_neg hv,← hd,if_pos ⟨rfl,h⟩]
      have h2 : ((0 : Int) - d) % 2≠0:=fun h3 => h (Int.tmod_eq_zero_of_dvd (Int.dvd_of_emod_eq_zero h3))
      have hd0 : d≠0:=by omega
      rw [hnx,cls_odd]
      simp [okW,← hd,hd0]
  · rw [cls_pos v0 hv]
    by_cases h : (v - d).tmod 2 = 0
    · have hnx : nxL 1 sm2 v c = (v - d) / 2:=by
        unfold nxL
        rw [if_neg hv,← hd,if_neg (fun hh => hh.2 h)]
      rw [hnx]
      have h2 : (v - d) % 2 = 0:=Int.emod_eq_zero_of_dvd (Int.dvd_of_tmod_eq_zero h)
      rcases Int.lt_trichotomy ((v - d) / 2) 0 with w0 | w0 | w0
      · omega
      · rw [w0,cls_zero]
        have : d = 1:=by omega
        simp [okW,← hd,this]
      · rw [cls_pos w0 (by unfold oddI; omega)]; simp [okW]
    · have hnx : nxL 1 sm2 v c = oddI:=by
        unfold nxL
        rw [if_neg hv,← hd,if_pos ⟨rfl,h⟩]
      rw [hnx,cls_odd]
      simp [okW]
def KsOk (k : Ks) : Prop:=k = none∨∃ fx fy,fx < 3∧fy < 3∧k = some [fx,fy]
theorem stepD_lt (b : Bool) (st d : Nat) : (stepT b st d).getD 0 < 3:=by
  cases h : stepT b st d with
  | none => simp
  | some x => simpa using stepT_lt h
theorem ks_ok (k : Ks) (c : Nat) : KsOk (ksNx 2 [0,1] k c):=by
  cases k with
  | none => exact .inl rfl
  | some q =>
    simp only [ksNx]
    split
    · exact .inr ⟨_,_,stepD_lt _ _ _,stepD_lt _ _ _,rfl⟩
    · exact .inl rfl
theorem kdW_le (a : Nat) (k : Ks) : kdW a k≤6:=by
  cases k with
  | none => simp [kdW]
  | some q =>
    unfold kdW kd2
    repeat' split
    all_goals omega
theorem kd_cls {a fx fy : Nat} (h : kd2 a fx fy≠0) (h4 : kd2 a fx fy < 4) : a = 1:=by
  unfold kd2 at h h4
  repeat' split at h
  all_goals first | omega | (split at h4 <;> omega) | skip
  all_goals (repeat' split at h4)
  all_goals omega
theorem hW_step {v : Int} {k : Ks} {c : Nat} (hc : c < 8) (hk : KsOk k) (hb : v = oddI∨(v < 1000000∧-1000000 < v)) : nxW (hW v k) c = hW (nxL 1 sm2 v c) (ksNx 2 [0,1] k c):=by
  rcases hk with rfl | ⟨fx,fy,hx,hy,rfl⟩
  · rfl
  by_cases hv : v = oddI
  · subst hv
    have e1 : nxL 1 sm2 oddI c = oddI:=by unfold nxL; rw [if_pos rfl]
    have e2 : ∀ k,hW oddI k = (0,0):=fun k => by
      unfold hW
      rw [cls_odd]
      cases k <;> simp [kdW,kd2]
    rw [e1,e2,e2]
    rfl
  have hb : v < 1000000∧-1000000 < v:=hb.resolve_left hv
  have ho:=nxL_cls hc hv hb
  have ha0 : clsW v≠0:=by
    unfold clsW
    rw [if_neg hv]
    split
    · omega
    · split <;> omega
  have hf:=way_fin (clsW_lt v) (clsW_lt _) hx hy hc ha0 ho
  have e0 : kdW (clsW v) (some [fx,fy]) = kd2 (clsW v) fx fy:=rfl
  unfold nxW
  by_cases hn : kd2 (clsW v) fx fy = 0
  · have e3 : hW v (some [fx,fy]) = (0,0):=by unfold hW; rw [e0,hn]; rfl
    rw [e3]
    rw [hn] at hf
    have e4 : repK 0 (clsW v) = none:=rfl
    rw [e4] at hf
    have e5 : ∀ w : Int,hW w (ksNx 2 [0,1] none c) = (0,0):=fun w => rfl
    have e6 : kdW (clsW (nxL 1 sm2 v c)) (ksNx 2 [0,1] none c) = 0:=rfl
    rw [e6] at hf
    show hW _ (ksNx 2 [0,1] none c) = _
    rw [e5]
    unfold hW
    rw [hf]
    rfl
  by_cases h4 : kd2 (clsW v) fx fy < 4
  · have h1:=kd_cls hn h4
    have v0 : v = 0:=by
      unfold clsW at h1
      rw [if_neg hv] at h1
      by_cases v0 : v = 0
      · exact v0
      · rw [if_neg v0] at h1
        split at h1 <;> omega
    subst v0
    have e3 : hW 0 (some [fx,fy]) = (kd2 (clsW 0) fx fy,0):=by unfold hW; rw [e0,if_pos h4]
    rw [e3]
    show hW (nxL 1 sm2 0 c) (ksNx 2 [0,1] (repK (kd2 (clsW 0) fx fy) (clsW 0)) c) = _
    unfold hW
    rw [hf]
  · have e3 : hW v (some [fx,fy]) = (kd2 (clsW v) fx fy,v):=by unfold hW; rw [e0,if_neg h4]
    rw [e3]
    show hW (nxL 1 sm2 v c) (ksNx 2 [0,1] (repK (kd2 (clsW v) fx fy) (clsW v)) c) = _
    unfold hW
    rw [hf]
theorem nxL_big {v : Int} {c : Nat} (hc : c < 8) (hb : v = oddI∨(v < 1000000∧-1000000 < v)) : nxL 1 sm2 v c = oddI∨(nxL 1 sm2 v c < 1000000∧-1000000 < nxL 1 sm2 v c):=by
  have hs:=sm2_is c hc
  unfold nxL
  split
  · exact .inl rfl
  · next h =>
    split
    · exact .inl rfl
    · rcases hb with h1 | h1
      · exact absurd h1 h
      · exact .inr (by omega)
theorem accW_eq {v : Int} {k : Ks} (hk : KsOk k) : accW (hW v k) = (accL 1 v && ksAcc 2 [0,1] k):=by
  have e1 : accL 1 v = decide (v = 0):=by unfold accL; simp
  rw [e1]
  rcases hk with rfl | ⟨fx,fy,hx,hy,rfl⟩
  · simp [accW,hW,kdW,ksAcc]
  have e0 : (hW v (some [fx,fy])).1 = kd2 (clsW v) fx fy:=rfl
  unfold accW
  rw [e0]
  have h3 : ∀ fx,fx < 3→∀ fy,fy < 3→decide (kd2 1 fx fy = 1∨kd2 1 fx fy = 2) = ksAcc 2 [0,1] (some [fx,fy]):=by decide +kernel
  by_cases v0 : v = 0
  · subst v0
    rw [cls_zero]
    simpa using h3 fx hx fy hy
  · have hc1 : clsW v≠1:=by
      unfold clsW
      split
      · omega
      · split <;> omega
    have hn : ¬ (kd2 (clsW v) fx fy = 1∨kd2 (clsW v) fx fy = 2):=fun h => by
      rcases h with h | h
      · exact hc1 (kd_cls (fx:=fx) (fy:=fy) (by rw [h]; decide) (by rw [h]; decide))
      · exact hc1 (kd_cls (fx:=fx) (fy:=fy) (by rw [h]; decide) (by rw [h]; decide))
    simp [hn,v0]
theorem way_lang : ∀ (cs : List Nat) (v : Int) (k : Ks),In 8 cs→KsOk k→(v = oddI∨(v < 1000000∧-1000000 < v))→langK nxW accW (hW v k) cs = (langK (nxL 1 sm2) (accL 1) v cs && langK (ksNx 2 [0,1]) (ksAcc 2 [0,1]) k cs)
  | [],v,k,_,hk,_ => accW_eq hk
  | c::cs,v,k,hin,hk,hb => by
    rw [langK_cons,langK_cons,langK_cons,hW_step hin.head hk hb]
    exact way_lang cs _ _ hin.tail (ks_ok k c) (nxL_big hin.head hb)
def wayU (c : Int) : List (Nat × Int):=(0,0)::(1,0)::(2,0)::(3,0)::(leftV c).flatMap fun v => [(4,v),(5,v),(6,v)]
theorem wayU_len (c : Int) : (wayU c).length = 67:=by
  have h1 : ∀ l : List Int,(l.flatMap fun v => [((4 : Nat),v),(5,v),(6,v)]).length = 3 * l.length:=fun l => by
    induction l with
    | nil => rfl
    | cons x xs ih => rw [List.flatMap_cons,List.length_append,ih]; simp; omega
  unfold wayU
  simp only [List.length_cons,h1,leftV_len]
theorem mem_wayU {c : Int} {v : Int} {k : Ks} (h : v = oddI∨v = 0∨v∈leftV c) : hW v k∈wayU c:=by
  have hle:=kdW_le (clsW v) k
  by_cases h4 : kdW (clsW v) k < 4
  · have e : hW v k = (kdW (clsW v) k,0):=by unfold hW; rw [if_pos h4]
    rw [e]
    have : kdW (clsW v) k = 0∨kdW (clsW v) k = 1∨kdW (clsW v) k = 2∨kdW (clsW v) k = 3:=by omega
    rcases this with h | h | h | h <;> rw [h] <;> simp [wayU]
  · have e : hW v k = (kdW (clsW v) k,v):=by unfold hW; rw [if_neg h4]
    have hv : v∈leftV c:=by
      rcases h with rfl | rfl | h
      · rw [cls_odd] at h4
        exfalso
        apply h4
        cases k <;> simp [kdW,kd2]
      · rw [cls_zero] at h4
        exfalso
        apply h4
        cases k with
        | none => simp [kdW]
        | some q =>
          unfold kdW kd2
          repeat' split
          all_goals omega
      · exact h
    rw [e]
    refine List.mem_cons_of_mem _ (List.mem_cons_of_mem _ (List.mem_cons_of_mem _ (List.mem_cons_of_mem _ (List.mem_flatMap.2 ⟨v,hv,?_⟩))))
    have : kdW (clsW v) k = 4∨kdW (clsW v) k = 5∨kdW (clsW v) k = 6:=by omega
    rcases this with h | h | h <;> rw [h] <;> simp
theorem way_closed {c : Int} (hc : -1000≤c∧c≤1000) : Closed 8 nxW (hW c (some [0,0])) (wayU c):=by
  refine ⟨mem_wayU (.inr (.inr (leftV_start c))),fun s hs x hx => ?_⟩
  have hsm:=sm2_is x hx
  have nx0 : nxL 1 sm2 0 x = oddI∨nxL 1 sm2 0 x = 0:=by
    unfold nxL
    rw [if_neg (by unfold oddI; omega)]
    split
    · exact .inl rfl
    · next h =>
      by_cases h3 : ((0 : Int) - sm2 x).tmod 2 = 0
      · have h2 : ((0 : Int) - sm2 x) % 2 = 0:=Int.emod_eq_zero_of_dvd (Int.dvd_of_tmod_eq_zero h3)
        exact .inr (by omega)
      · exact absurd ⟨rfl,h3⟩ h
  unfold nxW
  have hs2 : s.2 = 0∨s.2∈leftV c:=by
    unfold wayU at hs
    simp only [List.mem_cons,List.mem_flatMap,List.not_mem_nil,or_false] at hs
    rcases hs with rfl | rfl | rfl | rfl | ⟨v,hv,rfl | rfl | rfl⟩ <;> first | exact .inl rfl | exact .inr hv
  rcases hs2 with h | h
  · rw [h]
    rcases nx0 with h | h
    · exact mem_wayU (.inl h)
    · exact mem_wayU (.inr (.inl h))
  · have hcl:=(left_closed (w:=8) (kind:=1) (sums:=sm2) hc (fun y hy => by have:=sm2_is y hy; omega)).2 s.2 (List.mem_cons_of_mem _ h) x hx
    rcases List.mem_cons.1 hcl with h | h
    · exact mem_wayU (.inl h)
    · exact mem_wayU (.inr (.inr h))
theorem linN_some {kind c0 : Int} {terms U : List Int} {W : Aut} {c : Nat} (h : linN kind c0 terms U = (some W,c)) : W = TA terms.length (fun cs => (TA terms.length ((linX kind c0 terms U).lang 0)).lang 0 cs && (TA terms.length (LD (List.range terms.length))).lang 0 cs):=by
  unfold linN at h
  obtain ⟨G,hG⟩ : ∃ G,G = told (TA terms.length ((linX kind c0 terms U).lang 0)):=⟨_,rfl⟩
  rw [← hG] at h
  obtain ⟨a,d⟩:=G
  cases a with
  | none => cases h
  | some X =>
    have hX : X = TA terms.length ((linX kind c0 terms U).lang 0):=by
      unfold told at hG
      split at hG
      · cases hG
      · cases hG; rfl
    subst hX
    have h : joinN terms.length (fun a b => a && b) ((TA terms.length ((linX kind c0 terms U).lang 0)).lang 0) ((TA terms.length (LD (List.range terms.length))).lang 0) = (some W,c):=h
    unfold joinN at h
    split at h
    · cases h
    · unfold told at h
      split at h
      · cases h
      · cases h; rfl
theorem sums_sm2 : sumsF [1,-1] = sm2:=rfl
theorem way_lin {c : Int} (hc : -1000≤c∧c≤1000) : Closed (wd 2) (nxL 1 (sumsF [1,-1])) c (oddI::leftV c):=left_closed hc fun y hy => by
  have e8 : wd 2 = 8:=by decide
  have:=sm2_is y (by omega)
  rw [sums_sm2]
  omega
theorem way_small {c : Int} {W : Aut} {d : Nat} (hc : -1000≤c∧c≤1000) (h : linN 1 c [1,-1] (oddI::leftV c) = (some W,d)) : W.acc.length≤67:=by
  have hW:=linN_some h
  have e8 : wd 2 = 8:=by decide
  have hU:=way_lin hc
  obtain ⟨hX,-,hl⟩:=linX_ok (terms:=[1,-1]) hU
  have hX : (linX 1 c [1,-1] (oddI::leftV c)).Ok (wd 2):=hX
  have hTX:=(TA_spec (t:=2) (by decide) hX hX.pos).1
  have hD:=(LD_small (t:=2) (by decide) (S:=List.range 2) (fun k hk => List.mem_range.1 hk)).1
  have hcl:=way_closed hc
  rw [← e8] at hcl
  obtain ⟨h1,h2,h3⟩:=autOf_met (a:=accW) hcl
  have hs:=(TA_small (t:=2) h1 h1.pos (L:=fun cs => (TA 2 ((linX 1 c [1,-1] (oddI::leftV c)).lang 0)).lang 0 cs && (TA 2 (LD (List.range 2))).lang 0 cs) fun cs hcs => by
    rw [h3 cs hcs,way_lang cs c (some [0,0]) (by rw [← e8]; exact hcs) (.inr ⟨0,0,by decide,by decide,rfl⟩) (.inr (by omega))]
    show _ = (rightF 2 0 cs && ((TA 2 ((linX 1 c [1,-1] (oddI::leftV c)).lang 0)).lang 0 cs && (TA 2 (LD (List.range 2))).lang 0 cs))
    rw [hTX.lang hcs,hD.lang hcs]
    have e1 : langK (ksNx 2 [0,1]) (ksAcc 2 [0,1]) (some [0,0]) cs = rl 2 (LD (List.range 2)) cs:=ks_rl (t:=2) (S:=List.range 2) (fun k hk => List.mem_range.1 hk) cs
    have e2 : (linX 1 c [1,-1] (oddI::leftV c)).lang 0 cs = langK (nxL 1 sm2) (accL 1) c cs:=hl cs hcs
    rw [e1]
    unfold rl
    rw [e2]
    cases rightF 2 0 cs <;> simp).2
  rw [hW]
  exact Nat.le_trans hs (Nat.le_trans h2 (by rw [wayU_len]; exact Nat.le_refl _))
theorem rtape_pre : ∀ {u ds : List Nat},(∀ d∈u,d≠2)→rtape false (u++ds) = rtape false ds
  | [],_,_ => rfl
  | d::u,ds,h => by
    have hd:=h d List.mem_cons_self
    have ih:=rtape_pre (u:=u) (ds:=ds) fun x hx => h x (List.mem_cons_of_mem _ hx)
    simp only [List.cons_append,rtape]
    simpa [hd] using ih
theorem rtape_all2 : ∀ {ds : List Nat},rtape true ds = true↔∀ d∈ds,d = 2
  | [] => by simp [rtape]
  | d::ds => by
    have ih:=rtape_all2 (ds:=ds)
    simp only [rtape]
    by_cases hd : d = 2
    · simp [hd,ih]
    · simp [hd]
theorem rtape_twos : ∀ {b : Bool} {ds : List Nat},(∀ d∈ds,d = 2)→rtape b ds = true
  | b,[],_ => rfl
  | b,d::ds,h => by
    have hd:=h d List.mem_cons_self
    have ih:=rtape_twos (b:=true) (ds:=ds) fun x hx => h x (List.mem_cons_of_mem _ hx)
    simp only [rtape]
    simp [hd,ih]
theorem rtape_post : ∀ {b : Bool} {u ds : List Nat},(∀ d∈ds,d = 2)→rtape b (u++ds) = rtape b u
  | b,[],ds,h => by rw [List.nil_append,rtape_twos h]; rfl
  | b,d::u,ds,h => by
    simp only [List.cons_append,rtape]
    rw [rtape_post h]
theorem rtape_mid : ∀ {b : Bool} {u ds : List Nat},rtape b (u++2::ds) = true→rtape true ds = true
  | b,[],ds,h => by
    simp only [List.nil_append,rtape,Bool.and_eq_true] at h
    simpa using h.2
  | b,d::u,ds,h => by
    simp only [List.cons_append,rtape,Bool.and_eq_true] at h
    exact rtape_mid h.2
theorem right_split {t at_ : Nat} (h : at_≤t) (w : List Nat) : rightF (t + 1) 0 w = true↔(∀ k,k < t→rtape false (w.map fun c => dg (lessC t at_ c) k) = true)∧rtape false (w.map (dg · at_)) = true:=by
  rw [rightF_iff w 0 (Nat.two_pow_pos _)]
  have e : ∀ k,k < t→(w.map fun c => dg (lessC t at_ c) k) = w.map (dg · (if k < at_ then k else k + 1)):=fun k hk => List.map_congr_left fun c _ => dg_lessC c h hk
  constructor
  · intro hh
    refine ⟨fun k hk => ?_,by simpa using hh at_ (by omega)⟩
    rw [e k hk]
    have:=hh (if k < at_ then k else k + 1) (by split <;> omega)
    simpa using this
  · rintro ⟨h1,h2⟩ k hk
    rw [Nat.zero_testBit]
    by_cases hka : k = at_
    · subst hka; exact h2
    · by_cases hlt : k < at_
      · have:=h1 k (by omega)
        rw [e k (by omega),if_pos hlt] at this
        exact this
      · have:=h1 (k - 1) (by omega)
        rw [e (k - 1) (by omega),if_neg (by omega),Nat.sub_add_cancel (by omega)] at this
        exact this
theorem less_two {t at_ c : Nat} (h : at_≤t) (hc : c < wd (t + 1)) (hd : dg c at_ = 2) : lessC t at_ c < wd t:=by
  rcases Nat.lt_or_ge (lessC t at_ c) (wd t) with h1 | h1
  · exact h1
  · exfalso
    have he : lessC t at_ c = wd t:=by have:=lessC_le (t:=t) (at_:=at_) c h; omega
    obtain ⟨k,hk,hk2⟩:=wd_all hc
    by_cases hka : k = at_
    · exact hk2 (by rw [hka]; exact hd)
    · by_cases hlt : k < at_
      · have:=dg_lessC (t:=t) (at_:=at_) (k:=k) c h (by omega)
        rw [he,dg_wd t k (by omega),if_pos hlt] at this
        exact hk2 this.symm
      · have:=dg_lessC (t:=t) (at_:=at_) (k:=k - 1) c h (by omega)
        rw [he,dg_wd t (k - 1) (by omega),if_neg (by omega),Nat.sub_add_cancel (by omega)] at this
        exact hk2 this.symm
theorem less_all {t at_ c : Nat} (h : at_≤t) (ha : ∀ k,k < t→dg (lessC t at_ c) k = 2) : ¬ lessC t at_ c < wd t:=fun h1 => by
  obtain ⟨k,hk,hk2⟩:=wd_all h1
  exact hk2 (ha k hk)
def nxE (t at_ : Nat) (W : Aut) (s : Nat × Nat) (c : Nat) : Nat × Nat :=
  if s.1 = 0 then (if dg c at_ = 2 then (1,W.to s.2 (lessC t at_ c)) else if lessC t at_ c < wd t then (0,W.to s.2 (lessC t at_ c)) else if W.acc.getD s.2 false = true then (2,0) else (3,0))
  else if s.1 = 1 then (if dg c at_ = 2 then (1,W.to s.2 (lessC t at_ c)) else (3,0))
  else if s.1 = 2 then (if dg c at_ = 2 then (3,0) else if lessC t at_ c < wd t then (3,0) else (2,0)) else (3,0)
def accE (W : Aut) (s : Nat × Nat) : Bool:=if s.1 = 0∨s.1 = 1 then W.acc.getD s.2 false else decide (s.1 = 2)
variable {t at_ : Nat} {W : Aut}
theorem nxE_dead : ∀ cs : List Nat,langK (nxE t at_ W) (accE W) (3,0) cs = false
  | [] => rfl
  | c::cs => by
    rw [langK_cons,show nxE t at_ W (3,0) c = (3,0) from rfl]
    exact nxE_dead cs
theorem mapC_cons_lt {w : Nat} {col : Nat→Nat} {c : Nat} {cs : List Nat} (h : col c < w) : mapC w col (c::cs) = col c::mapC w col cs:=by
  unfold mapC
  rw [List.filterMap_cons,if_pos h]
theorem mapC_cons_ge {w : Nat} {col : Nat→Nat} {c : Nat} {cs : List Nat} (h : ¬ col c < w) : mapC w col (c::cs) = mapC w col cs:=by
  unfold mapC
  rw [List.filterMap_cons,if_neg h]
theorem nxE_ended (h : at_≤t) : ∀ (cs : List Nat) (q : Nat),In (wd (t + 1)) cs→langK (nxE t at_ W) (accE W) (1,q) cs = (rtape true (cs.map (dg · at_)) && W.lang q (mapC (wd t) (lessC t at_) cs))
  | [],q,_ => by simp [langK,accE,rtape,mapC,Aut.lang,Aut.run]
  | c::cs,q,hc => by
    rw [langK_cons]
    by_cases hd : dg c at_ = 2
    · have hlt:=less_two h hc.head hd
      have e : nxE t at_ W (1,q) c = (1,W.to q (lessC t at_ c)):=by unfold nxE; simp [hd]
      rw [e,nxE_ended h cs _ hc.tail,mapC_cons_lt hlt]
      simp only [List.map_cons,rtape,hd]
      simp [Aut.lang,Aut.run]
    · have e : nxE t at_ W (1,q) c = (3,0):=by unfold nxE; simp [hd]
      rw [e,nxE_dead]
      simp [rtape,hd]
theorem nxE_only : ∀ (cs : List Nat),langK (nxE t at_ W) (accE W) (2,0) cs = cs.all fun c => decide (dg c at_≠2) && decide (¬ lessC t at_ c < wd t)
  | [] => rfl
  | c::cs => by
    rw [langK_cons,List.all_cons]
    by_cases hd : dg c at_ = 2
    · have e : nxE t at_ W (2,0) c = (3,0):=by unfold nxE; simp [hd]
      rw [e,nxE_dead]
      simp [hd]
    · by_cases hl : lessC t at_ c < wd t
      · have e : nxE t at_ W (2,0) c = (3,0):=by unfold nxE; simp [hl]
        rw [e,nxE_dead]
        simp [hl]
      · have e : nxE t at_ W (2,0) c = (2,0):=by unfold nxE; simp [hd,hl]
        rw [e,nxE_only cs]
        simp [hd,hl]
theorem mapC_app (w : Nat) (col : Nat→Nat) (u v : List Nat) : mapC w col (u++v) = mapC w col u++mapC w col v:=by
  unfold mapC
  rw [List.filterMap_append]
theorem mapC_all {w : Nat} {col : Nat→Nat} : ∀ {u : List Nat},(∀ c∈u,col c < w)→mapC w col u = u.map col
  | [],_ => rfl
  | c::u,h => by
    rw [mapC_cons_lt (h c List.mem_cons_self),mapC_all fun x hx => h x (List.mem_cons_of_mem _ hx)]
    rfl
theorem mapC_none {w : Nat} {col : Nat→Nat} : ∀ {u : List Nat},(∀ c∈u,¬ col c < w)→mapC w col u = []
  | [],_ => rfl
  | c::u,h => by
    rw [mapC_cons_ge (h c List.mem_cons_self),mapC_none fun x hx => h x (List.mem_cons_of_mem _ hx)]
theorem lang_app (A : Aut) (q : Nat) (u v : List Nat) : A.lang q (u++v) = A.lang (u.foldl A.to q) v:=by
  unfold Aut.lang Aut.run
  rw [List.foldl_append]
theorem nxE_open (h : at_≤t) (hW : ∀ ds,In (wd t) ds→W.lang 0 ds = true→rightF t 0 ds = true) : ∀ (cs u : List Nat),In (wd (t + 1)) cs→In (wd (t + 1)) u→(∀ c∈u,dg c at_≠2∧lessC t at_ c < wd t) →
    langK (nxE t at_ W) (accE W) (0,(u.map (lessC t at_)).foldl W.to 0) cs = rl (t + 1) (addL t at_ (W.lang 0)) (u++cs):=by
  have others : ∀ w : List Nat,(∀ c∈w,lessC t at_ c < wd t)→W.lang 0 (w.map (lessC t at_)) = true→∀ k,k < t→rtape false (w.map fun c => dg (lessC t at_ c) k) = true:=fun w hw hl k hk => by
    have:=hW (w.map (lessC t at_)) (fun d hd => by obtain ⟨c,hc,rfl⟩:=List.mem_map.1 hd; exact hw c hc) hl
    have:=(rightF_iff _ 0 (Nat.two_pow_pos t)).1 this k hk
    rw [Nat.zero_testBit,List.map_map] at this
    exact this
  intro cs
  induction cs with
  | nil =>
    intro u _ _ hu
    have hu1 : ∀ c∈u,lessC t at_ c < wd t:=fun c hc => (hu c hc).2
    rw [List.append_nil]
    unfold rl addL
    rw [mapC_all hu1]
    have e1 : langK (nxE t at_ W) (accE W) (0,(u.map (lessC t at_)).foldl W.to 0) [] = W.lang 0 (u.map (lessC t at_)):=by simp [langK,accE,Aut.lang,Aut.run]
    rw [e1,Bool.eq_iff_iff,Bool.and_eq_true]
    refine ⟨fun hl => ⟨(right_split h u).2 ⟨others u hu1 hl,?_⟩,hl⟩,fun hh => hh.2⟩
    have:=rtape_pre (u:=u.map (dg · at_)) (ds:=[]) fun d hd => by obtain ⟨c,hc,rfl⟩:=List.mem_map.1 hd; exact (hu c hc).1
    rw [List.append_nil] at this
    rw [this]
    rfl
  | cons c cs ih =>
    intro u hcs hiu hu
    have hu1 : ∀ c∈u,lessC t at_ c < wd t:=fun c hc => (hu c hc).2
    have hu2 : ∀ d∈u.map (dg · at_),d≠2:=fun d hd => by obtain ⟨x,hx,rfl⟩:=List.mem_map.1 hd; exact (hu x hx).1
    rw [langK_cons]
    obtain ⟨q,hq⟩ : ∃ q,q = (u.map (lessC t at_)).foldl W.to 0:=⟨_,rfl⟩
    by_cases hd : dg c at_ = 2
    · have hlt:=less_two h hcs.head hd
      have e : nxE t at_ W (0,(u.map (lessC t at_)).foldl W.to 0) c = (1,W.to ((u.map (lessC t at_)).foldl W.to 0) (lessC t at_ c)):=by unfold nxE; simp [hd]
      rw [e,nxE_ended h cs _ hcs.tail]
      have em : mapC (wd t) (lessC t at_) (u++c::cs) = u.map (lessC t at_)++lessC t at_ c::mapC (wd t) (lessC t at_) cs:=by rw [mapC_app,mapC_all hu1,mapC_cons_lt hlt]
      have el : W.lang 0 (mapC (wd t) (lessC t at_) (u++c::cs)) = W.lang (W.to ((u.map (lessC t at_)).foldl W.to 0) (lessC t at_ c)) (mapC (wd t) (lessC t at_) cs):=by rw [em,lang_app]; rfl
      have et : rtape false ((u++c::cs).map (dg · at_)) = rtape true (cs.map (dg · at_)):=by
        rw [List.map_append,rtape_pre hu2]
        simp only [List.map_cons,rtape,hd]
        simp
      unfold rl addL
      rw [el,Bool.eq_iff_iff,Bool.and_eq_true,Bool.and_eq_true]
      constructor
      · rintro ⟨h1,h2⟩
        refine ⟨(right_split h _).2 ⟨?_,by rw [et]; exact h1⟩,h2⟩
        have hall:=rtape_all2.1 h1
        have hw : ∀ x∈u++c::cs,lessC t at_ x < wd t:=fun x hx => by
          rcases List.mem_append.1 hx with hx | hx
          · exact hu1 x hx
          · rcases List.mem_cons.1 hx with rfl | hx
            · exact hlt
            · exact less_two h (hcs.tail x hx) (hall _ (List.mem_map.2 ⟨x,hx,rfl⟩))
        refine others _ hw ?_
        rw [← mapC_all hw,el]
        exact h2
      · rintro ⟨h1,h2⟩
        refine ⟨?_,h2⟩
        rw [← et]
        exact ((right_split h _).1 h1).2
    · by_cases hl : lessC t at_ c < wd t
      · have e : nxE t at_ W (0,(u.map (lessC t at_)).foldl W.to 0) c = (0,((u++[c]).map (lessC t at_)).foldl W.to 0):=by
          unfold nxE
          simp [hd,hl]
        rw [e,ih (u++[c]) hcs.tail (hiu.append (In.cons hcs.head (In.nil _))) fun x hx => by
          rcases List.mem_append.1 hx with hx | hx
          · exact hu x hx
          · rw [List.mem_singleton.1 hx]; exact ⟨hd,hl⟩]
        rw [List.append_assoc]
        rfl
      · have hc2 : ∀ k,k < t→dg (lessC t at_ c) k = 2:=fun k hk => by
          have he : lessC t at_ c = wd t:=by have:=lessC_le (t:=t) (at_:=at_) c h; omega
          rw [he,dg_wd t k hk]
        have ea : W.lang 0 (u.map (lessC t at_)) = W.acc.getD ((u.map (lessC t at_)).foldl W.to 0) false:=by simp [Aut.lang,Aut.run]
        have e : nxE t at_ W (0,(u.map (lessC t at_)).foldl W.to 0) c = if W.lang 0 (u.map (lessC t at_)) = true then (2,0) else (3,0):=by
          rw [ea]
          unfold nxE
          simp [hd,hl]
        have key : rl (t + 1) (addL t at_ (W.lang 0)) (u++c::cs) = (W.lang 0 (u.map (lessC t at_)) && cs.all fun c => decide (dg c at_≠2) && decide (¬ lessC t at_ c < wd t)):=by
          unfold rl addL
          rw [Bool.eq_iff_iff,Bool.and_eq_true,Bool.and_eq_true,List.all_eq_true]
          constructor
          · rintro ⟨h1,h2⟩
            obtain ⟨h3,h4⟩:=(right_split h _).1 h1
            have hoth : ∀ x∈cs,¬ lessC t at_ x < wd t:=fun x hx => less_all h fun k hk => by
              have:=h3 k hk
              rw [List.map_append,List.map_cons,hc2 k hk] at this
              exact rtape_all2.1 (rtape_mid this) _ (List.mem_map.2 ⟨x,hx,rfl⟩)
            have hno : mapC (wd t) (lessC t at_) (u++c::cs) = u.map (lessC t at_):=by
              rw [mapC_app,mapC_all hu1,mapC_none fun x hx => by
                rcases List.mem_cons.1 hx with rfl | hx
                · exact hl
                · exact hoth x hx]
              simp
            rw [hno] at h2
            refine ⟨h2,fun x hx => ?_⟩
            have hx2 : dg x at_≠2:=fun hh => hoth x hx (less_two h (hcs.tail x hx) hh)
            simp only [Bool.and_eq_true,decide_eq_true_eq]
            exact ⟨hx2,hoth x hx⟩
          · rintro ⟨h1,h2⟩
            have h2' : ∀ x∈cs,dg x at_≠2∧¬ lessC t at_ x < wd t:=fun x hx => by
              have:=h2 x hx
              simp only [Bool.and_eq_true,decide_eq_true_eq] at this
              exact this
            have hno : mapC (wd t) (lessC t at_) (u++c::cs) = u.map (lessC t at_):=by
              rw [mapC_app,mapC_all hu1,mapC_none fun x hx => by
                rcases List.mem_cons.1 hx with rfl | hx
                · exact hl
                · exact (h2' x hx).2]
              simp
            rw [hno]
            refine ⟨(right_split h _).2 ⟨fun k hk => ?_,?_⟩,h1⟩
            · rw [List.map_append,rtape_post fun d hd' => by
                obtain ⟨x,hx,rfl⟩:=List.mem_map.1 hd'
                rcases List.mem_cons.1 hx with rfl | hx
                · exact hc2 k hk
                · have he : lessC t at_ x = wd t:=by have:=lessC_le (t:=t) (at_:=at_) x h; have:=(h2' x hx).2; omega
                  rw [he,dg_wd t k hk]]
              exact others u hu1 h1 k hk
            · have:=rtape_pre (u:=(u++c::cs).map (dg · at_)) (ds:=[]) fun d hd' => by
                obtain ⟨x,hx,rfl⟩:=List.mem_map.1 hd'
                rcases List.mem_append.1 hx with hx | hx
                · exact (hu x hx).1
                · rcases List.mem_cons.1 hx with rfl | hx
                  · exact hd
                  · exact (h2' x hx).1
              rw [List.append_nil] at this
              rw [this]
              rfl
        rw [key,e]
        by_cases hw : W.lang 0 (u.map (lessC t at_)) = true
        · rw [if_pos hw,nxE_only,hw,Bool.true_and]
        · rw [if_neg hw,nxE_dead]
          simp at hw
          rw [hw,Bool.false_and]
def addU (n : Nat) : List (Nat × Nat):=(3,0)::(2,0)::(List.range n).flatMap fun q => [(0,q),(1,q)]
theorem addU_len (n : Nat) : (addU n).length = 2 * n + 2:=by
  have h1 : ∀ l : List Nat,(l.flatMap fun q => [((0 : Nat),q),(1,q)]).length = 2 * l.length:=fun l => by
    induction l with
    | nil => rfl
    | cons x xs ih => rw [List.flatMap_cons,List.length_append,ih]; simp; omega
  unfold addU
  simp only [List.length_cons,h1,List.length_range]
theorem mem_addU {n b q : Nat} (hb : b < 2) (hq : q < n) : (b,q)∈addU n:=by
  refine List.mem_cons_of_mem _ (List.mem_cons_of_mem _ (List.mem_flatMap.2 ⟨q,List.mem_range.2 hq,?_⟩))
  have : b = 0∨b = 1:=by omega
  rcases this with rfl | rfl <;> simp
theorem add_closedU (h : at_≤t) (hW : W.Ok (wd t)) : Closed (wd (t + 1)) (nxE t at_ W) (0,0) (addU W.acc.length):=by
  refine ⟨mem_addU (by omega) hW.pos,fun s hs c hc => ?_⟩
  have d0 : ((3,0) : Nat × Nat)∈addU W.acc.length:=List.mem_cons_self
  have d1 : ((2,0) : Nat × Nat)∈addU W.acc.length:=List.mem_cons_of_mem _ List.mem_cons_self
  have hs2 : s.1 = 3∨s.1 = 2∨s.2 < W.acc.length:=by
    unfold addU at hs
    simp only [List.mem_cons,List.mem_flatMap,List.not_mem_nil,or_false,List.mem_range] at hs
    rcases hs with rfl | rfl | ⟨q,hq,rfl | rfl⟩
    · exact .inl rfl
    · exact .inr (.inl rfl)
    · exact .inr (.inr hq)
    · exact .inr (.inr hq)
  unfold nxE
  split
  · next h0 =>
    have hq : s.2 < W.acc.length:=by omega
    split
    · next hd => exact mem_addU (by omega) (hW.to hq (less_two h hc hd))
    · split
      · next hl => exact mem_addU (by omega) (hW.to hq hl)
      · split
        · exact d1
        · exact d0
  · split
    · next h0 =>
      have hq : s.2 < W.acc.length:=by omega
      split
      · next hd => exact mem_addU (by omega) (hW.to hq (less_two h hc hd))
      · exact d0
    · split
      · split
        · exact d0
        · split
          · exact d0
          · exact d1
      · exact d0
theorem add_len (h : at_≤t) (hW : W.Ok (wd t)) (hr : ∀ ds,In (wd t) ds→W.lang 0 ds = true→rightF t 0 ds = true) : (TA (t + 1) (addL t at_ (W.lang 0))).acc.length≤2 * W.acc.length + 2:=by
  obtain ⟨h1,h2,h3⟩:=autOf_met (a:=accE W) (add_closedU h hW)
  have hs:=(TA_small (t:=t + 1) h1 h1.pos (L:=addL t at_ (W.lang 0)) fun cs hcs => by
    rw [h3 cs hcs]
    exact nxE_open h hr cs [] hcs (In.nil _) (fun _ hx => by cases hx)).2
  exact Nat.le_trans hs (Nat.le_trans h2 (by rw [addU_len]; exact Nat.le_refl _))
def diag (a b : Nat) (cs : List Nat) : Bool:=cs.all fun c => decide (dg c a = dg c b)
def piC (c : Nat) : Nat:=dg c 0 + 3 * dg c 2
theorem dg_small {x y : Nat} (hx : x < 3) (hy : y < 3) : dg (x + 3 * y) 0 = x∧dg (x + 3 * y) 1 = y:=by
  unfold dg qt
  simp only [p3]
  omega
theorem piC_dg (c : Nat) : dg (piC c) 0 = dg c 0∧dg (piC c) 1 = dg c 2:=dg_small (dg_lt c 0) (dg_lt c 2)
theorem piC_lt {c : Nat} (hc : c < wd 3) (hd : dg c 0 = dg c 1) : piC c < wd 2:=by
  obtain ⟨k,hk,hk2⟩:=wd_all hc
  have h0:=dg_lt c 0
  have h2:=dg_lt c 2
  have e : wd 2 = 8:=by decide
  rw [e]
  unfold piC
  have : k = 0∨k = 1∨k = 2:=by omega
  rcases this with rfl | rfl | rfl <;> omega
theorem less_one {c : Nat} (hc : dg c 0 < 3) : lessC 1 1 c = dg c 0:=by
  have h1:=dg_lessC (t:=1) (at_:=1) (k:=0) c (by omega) (by omega)
  have h2:=lessC_le (t:=1) (at_:=1) c (by omega)
  rw [if_pos (by omega)] at h1
  have e : wd 1 = 2:=by decide
  have : dg (lessC 1 1 c) 0 = lessC 1 1 c:=by unfold dg; rw [qt_zero]; omega
  omega
theorem letters_pi : ∀ cs : List Nat,In (wd 3) cs→diag 0 1 cs = true→mapC (wd 1) (lessC 1 1) (mapC (wd 2) (lessC 2 2) cs) = mapC (wd 1) (lessC 1 1) (cs.map piC)
  | [],_,_ => rfl
  | c::cs,hc,hd => by
    unfold diag at hd
    rw [List.all_cons,Bool.and_eq_true,decide_eq_true_eq] at hd
    have ih:=letters_pi cs hc.tail hd.2
    have e2 : wd 1 = 2:=by decide
    have hp : lessC 1 1 (piC c) = dg c 0:=by rw [less_one (dg_lt _ _),(piC_dg c).1]
    rw [List.map_cons]
    by_cases h2 : lessC 2 2 c < wd 2
    · rw [mapC_cons_lt h2]
      have hq : lessC 1 1 (lessC 2 2 c) = dg c 0:=by
        rw [less_one (dg_lt _ _),dg_lessC (t:=2) (at_:=2) (k:=0) c (by omega) (by omega)]
        rfl
      by_cases h0 : dg c 0 < wd 1
      · rw [mapC_cons_lt (by rw [hq]; exact h0),mapC_cons_lt (by rw [hp]; exact h0),hq,hp,ih]
      · rw [mapC_cons_ge (by rw [hq]; exact h0),mapC_cons_ge (by rw [hp]; exact h0),ih]
    · rw [mapC_cons_ge h2]
      have he : lessC 2 2 c = wd 2:=by have:=lessC_le (t:=2) (at_:=2) c (by omega); omega
      have h0 : dg c 0 = 2:=by
        have:=dg_lessC (t:=2) (at_:=2) (k:=0) c (by omega) (by omega)
        rw [he,dg_wd 2 0 (by omega)] at this
        exact this.symm
      rw [mapC_cons_ge (by rw [hp,h0,e2]; omega),ih]
theorem diag_less : ∀ cs : List Nat,diag 0 1 (mapC (wd 2) (lessC 2 2) cs) = diag 0 1 cs
  | [] => rfl
  | c::cs => by
    have ih:=diag_less cs
    have d0:=dg_lessC (t:=2) (at_:=2) (k:=0) c (by omega) (by omega)
    have d1:=dg_lessC (t:=2) (at_:=2) (k:=1) c (by omega) (by omega)
    rw [if_pos (by omega)] at d0 d1
    unfold diag at ih ⊢
    by_cases h2 : lessC 2 2 c < wd 2
    · rw [mapC_cons_lt h2,List.all_cons,List.all_cons,ih,d0,d1]
    · rw [mapC_cons_ge h2,List.all_cons,ih]
      have he : lessC 2 2 c = wd 2:=by have:=lessC_le (t:=2) (at_:=2) c (by omega); omega
      rw [he,dg_wd 2 0 (by omega)] at d0
      rw [he,dg_wd 2 1 (by omega)] at d1
      rw [← d0,← d1]
      simp
theorem right_pi {cs : List Nat} (hd : diag 0 1 cs = true) : rightF 3 0 cs = rightF 2 0 (cs.map piC):=by
  rw [Bool.eq_iff_iff,rightF_iff cs 0 (Nat.two_pow_pos 3),rightF_iff (cs.map piC) 0 (Nat.two_pow_pos 2)]
  have e0 : (cs.map piC).map (dg · 0) = cs.map (dg · 0):=by rw [List.map_map]; exact List.map_congr_left fun c _ => (piC_dg c).1
  have e1 : (cs.map piC).map (dg · 1) = cs.map (dg · 2):=by rw [List.map_map]; exact List.map_congr_left fun c _ => (piC_dg c).2
  have e2 : cs.map (dg · 1) = cs.map (dg · 0):=List.map_congr_left fun c hc => by
    have:=List.all_eq_true.1 hd c hc
    simpa using (show dg c 0 = dg c 1 by simpa using this).symm
  simp only [Nat.zero_testBit]
  constructor
  · intro h k hk
    have : k = 0∨k = 1:=by omega
    rcases this with rfl | rfl
    · rw [e0]; exact h 0 (by omega)
    · rw [e1]; exact h 2 (by omega)
  · intro h k hk
    have : k = 0∨k = 1∨k = 2:=by omega
    rcases this with rfl | rfl | rfl
    · rw [← e0]; exact h 0 (by omega)
    · rw [e2,← e0]; exact h 0 (by omega)
    · rw [← e1]; exact h 1 (by omega)
def nxS (B : Aut) (a b : Nat) (q : Int) (c : Nat) : Int:=if q < 0∨dg c a≠dg c b then -1 else (B.to q.toNat c : Int)
def acS (B : Aut) (q : Int) : Bool:=decide (0≤q) && B.acc.getD q.toNat false
def sameU (n : Nat) : List Int:=-1::(List.range n).map fun (q : Nat) => (q : Int)
theorem nxS_dead (B : Aut) (a b : Nat) : ∀ cs : List Nat,langK (nxS B a b) (acS B) (-1) cs = false
  | [] => rfl
  | c::cs => by
    rw [langK_cons,show nxS B a b (-1) c = -1 from if_pos (.inl (by omega))]
    exact nxS_dead B a b cs
theorem nxS_lang (B : Aut) (a b : Nat) : ∀ (cs : List Nat) (q : Nat),langK (nxS B a b) (acS B) (q : Int) cs = (B.lang q cs && diag a b cs)
  | [],q => by simp [langK,acS,Aut.lang,Aut.run,diag]
  | c::cs,q => by
    rw [langK_cons]
    by_cases hd : dg c a = dg c b
    · have e : nxS B a b (q : Int) c = (B.to q c : Int):=by unfold nxS; rw [if_neg (by omega)]; simp
      rw [e,nxS_lang B a b cs]
      simp [diag,hd,Aut.lang,Aut.run]
    · have e : nxS B a b (q : Int) c = -1:=by unfold nxS; rw [if_pos (.inr hd)]
      rw [e,nxS_dead]
      simp [diag,hd]
theorem same_closed {w a b s : Nat} {B : Aut} (hB : B.Ok w) (hs : s < B.acc.length) : Closed w (nxS B a b) (s : Int) (sameU B.acc.length):=by
  have hm : ∀ q,q < B.acc.length→(q : Int)∈sameU B.acc.length:=fun q hq => List.mem_cons_of_mem _ (List.mem_map.2 ⟨q,List.mem_range.2 hq,rfl⟩)
  refine ⟨hm s hs,fun q hq c hc => ?_⟩
  unfold nxS
  split
  · exact List.mem_cons_self
  · next h =>
    rcases List.mem_cons.1 hq with rfl | hq
    · exact absurd (.inl (by omega)) h
    · obtain ⟨p,hp,rfl⟩:=List.mem_map.1 hq
      exact hm _ (hB.to (List.mem_range.1 hp) hc)
theorem TA_dia {t a b : Nat} (ht : t≤3) {B : Aut} (hB : B.Ok (wd t)) : IsTidy (wd t) (TA t (fun cs => B.lang 0 cs && diag a b cs)) (rl t (fun cs => B.lang 0 cs && diag a b cs)):=by
  obtain ⟨h1,h2,h3⟩:=autOf_met (a:=acS B) (same_closed (a:=a) (b:=b) hB hB.pos)
  have e : TA t ((autOf (wd t) (nxS B a b) (acS B) (metL (succs (wd t) (nxS B a b)) ((0 : Nat) : Int) (sameU B.acc.length).length)).lang 0) = TA t (fun cs => B.lang 0 cs && diag a b cs):=TA_congr fun cs hc _ => by rw [h3 cs hc,nxS_lang]
  have h:=(TA_spec ht h1 h1.pos).1
  rw [e] at h
  obtain ⟨κ,i1,nx,ac,s',n,hd,hA,hdist,hl⟩:=h
  exact ⟨κ,i1,nx,ac,s',n,hd,hA,hdist,fun cs hc => by rw [hl cs hc]; unfold rl; rw [h3 cs hc,nxS_lang]⟩
theorem same_add_len {A : Aut} {s : Nat} (hA : A.Ok (wd 1)) (hs : s < A.acc.length) : (TA 3 (addL 2 2 ((TA 2 (fun cs => (TA 2 (addL 1 1 (A.lang s))).lang 0 cs && diag 0 1 cs)).lang 0))).acc.length≤(TA 2 (addL 1 1 (A.lang s))).acc.length:=by
  have hB:=(TA_spec (t:=2) (by decide) (mapA_ok (w':=wd 2) (col:=lessC 1 1) hA) (s:=s) hs).1
  have eB : TA 2 ((mapA (wd 1) (wd 2) A (lessC 1 1)).lang s) = TA 2 (addL 1 1 (A.lang s)):=add_s (t:=1) (at_:=1) hA hs
  rw [eB] at hB
  have hBl : ∀ ds,In (wd 2) ds→(TA 2 (addL 1 1 (A.lang s))).lang 0 ds = rl 2 (addL 1 1 (A.lang s)) ds:=fun ds hds => by
    rw [hB.lang hds]
    unfold rl
    rw [mapA_lang hA ds s hs hds]
    rfl
  obtain ⟨B,hBB⟩ : ∃ B,B = TA 2 (addL 1 1 (A.lang s)):=⟨_,rfl⟩
  rw [← hBB] at hB hBl ⊢
  have e26 : In (wd 2) [2,0]:=by
    have e2 : wd 2 = 8:=by decide
    rw [e2]
    intro c hc
    simp at hc
    omega
  obtain ⟨q0,hq0⟩ : ∃ q,q = [2,0].foldl B.to 0:=⟨_,rfl⟩
  have hq0l : q0 < B.acc.length:=by
    rw [hq0]
    exact hB.ok.to (hB.ok.to hB.ok.pos (e26.head)) (e26.tail.head)
  have dead0 : ∀ ds,In (wd 2) ds→B.lang q0 ds = false:=fun ds hds => by
    rw [hq0,← lang_app,hBl _ (e26.append hds)]
    have : rightF 2 0 ([2,0]++ds) = false:=by
      rw [Bool.eq_false_iff]
      intro hr
      have:=(rightF_iff _ 0 (Nat.two_pow_pos 2)).1 hr 0 (by omega)
      have d2 : dg 2 0 = 2:=by decide
      have d0 : dg 0 0 = 0:=by decide
      simp [rtape,d2,d0] at this
    unfold rl
    rw [this,Bool.false_and]
  obtain ⟨nx,hnx⟩ : ∃ nx : Nat→Nat→Nat,nx = fun q c => if dg c 0 = dg c 1 then B.to q (piC c) else q0:=⟨_,rfl⟩
  obtain ⟨ac,hac⟩ : ∃ ac : Nat→Bool,ac = fun q => B.acc.getD q false:=⟨_,rfl⟩
  have deadL : ∀ (cs : List Nat) (q : Nat),In (wd 3) cs→(∀ ds,In (wd 2) ds→B.lang q ds = false)→langK nx ac q cs = false:=by
    intro cs
    induction cs with
    | nil =>
      intro q _ hq
      have:=hq [] (In.nil _)
      rw [hac]
      simpa [langK,Aut.lang,Aut.run] using this
    | cons c cs ih =>
      intro q hc hq
      rw [langK_cons]
      by_cases hd : dg c 0 = dg c 1
      · have e : nx q c = B.to q (piC c):=by rw [hnx]; simp only []; rw [if_pos hd]
        rw [e]
        exact ih _ hc.tail fun ds hds => hq (piC c::ds) (In.cons (piC_lt hc.head hd) hds)
      · have e : nx q c = q0:=by rw [hnx]; simp only []; rw [if_neg hd]
        rw [e]
        exact ih _ hc.tail dead0
  have lang3 : ∀ (cs : List Nat) (q : Nat),In (wd 3) cs→langK nx ac q cs = (diag 0 1 cs && B.lang q (cs.map piC)):=by
    intro cs
    induction cs with
    | nil =>
      intro q _
      rw [hac]
      simp [langK,Aut.lang,Aut.run,diag]
    | cons c cs ih =>
      intro q hc
      rw [langK_cons]
      by_cases hd : dg c 0 = dg c 1
      · have e : nx q c = B.to q (piC c):=by rw [hnx]; simp only []; rw [if_pos hd]
        rw [e,ih _ hc.tail]
        simp [diag,hd,Aut.lang,Aut.run]
      · have e : nx q c = q0:=by rw [hnx]; simp only []; rw [if_neg hd]
        rw [e,deadL cs q0 hc.tail dead0]
        simp [diag,hd]
  have hcl : Closed (wd 3) nx 0 (List.range B.acc.length):=by
    refine ⟨List.mem_range.2 hB.ok.pos,fun q hq c hc => ?_⟩
    rw [hnx]
    simp only []
    split
    · next hd => exact List.mem_range.2 (hB.ok.to (List.mem_range.1 hq) (piC_lt hc hd))
    · exact List.mem_range.2 hq0l
  have hS : ∀ es,In (wd 2) es→(TA 2 (fun cs => B.lang 0 cs && diag 0 1 cs)).lang 0 es = rl 2 (fun cs => B.lang 0 cs && diag 0 1 cs) es:=fun es hes => (TA_dia (by decide) hB.ok).lang hes
  obtain ⟨h1,h2,h3⟩:=autOf_met (a:=ac) hcl
  have hs:=(TA_small (t:=3) h1 h1.pos (L:=addL 2 2 ((TA 2 (fun cs => B.lang 0 cs && diag 0 1 cs)).lang 0)) fun cs hcs => by
    rw [h3 cs hcs,lang3 cs 0 hcs]
    unfold rl addL
    rw [hS _ (mapC_in _ _ _)]
    show _ = (rightF 3 0 cs && (rightF 2 0 (mapC (wd 2) (lessC 2 2) cs) && (B.lang 0 (mapC (wd 2) (lessC 2 2) cs) && diag 0 1 (mapC (wd 2) (lessC 2 2) cs))))
    rw [diag_less]
    cases hd : diag 0 1 cs
    · simp
    · rw [hBl _ (mapC_in _ _ _),hBl (cs.map piC) (fun d hd' => by
        obtain ⟨c,hc,rfl⟩:=List.mem_map.1 hd'
        exact piC_lt (hcs c hc) (by simpa using List.all_eq_true.1 hd c hc))]
      unfold rl addL
      rw [letters_pi cs hcs hd,right_pi hd]
      cases hr : rightF 2 0 (cs.map piC)
      · simp
      · have hr3 : rightF (2 + 1) 0 cs = true:=by
          rw [← hr]
          exact right_pi hd
        rw [right_less (t:=2) (at_:=2) (by omega) hr3]
        simp).2
  exact Nat.le_trans hs (Nat.le_trans h2 (by rw [List.length_range]; exact Nat.le_refl _))
noncomputable def sameN (t a b : Nat) (L : List Nat→Bool) : Option Aut × Nat:=told (TA t (fun cs => L cs && diag a b cs))
theorem i_same1 (A : Aut) (q : Int) (t s n8 : Nat) (u x : BV) (H : BH) (h8 : H.row n8 = .arr 77 [encN t,encN s,u,x]) (hu : Rd H 4 u (A.acc.map encB)) (hq : q = -1∨(0≤q∧q.toNat < A.acc.length)) :
    Runs (gam base) 186 [encI q,.ptr n8 0] H (.bool (acS A q)) H:=by
  refine runs_of (fn:=ir186) rfl ?_
  have r2:=rd_ptr h8 (rt:=none) (j:=2) (c:=u) rfl rfl
  rcases hq with rfl | ⟨h0,hl⟩
  · simp [ir186,acS]
  · obtain ⟨p,rfl⟩ : ∃ p : Nat,q = p:=⟨q.toNat,by omega⟩
    simp only [Int.toNat_natCast] at hl
    have gi:=hu.at (i:=p) (by simpa using hl) (rt:=none) rfl
    have gi' : H.rd none none (u.sat p 1) = some (encB A.acc[p]):=by simpa using gi
    have e : A.acc.getD p false = A.acc[p]:=by rw [List.getD_eq_getElem?_getD,List.getElem?_eq_getElem hl]; rfl
    simp [ir186,acS,r2,hu.isSl,hu.lenM,hl,gi']
theorem i_same2 (A : Aut) (q : Int) (t s a b c n8 n4 n5 : Nat) (u x : BV) (H : BH) (h8 : H.row n8 = .arr 77 [encN t,encN s,u,x]) (hx : RdR H 80 3 x encN A.nxt) (h4 : H.row n4 = .arr 2 [encN a]) (h5 : H.row n5 = .arr 2 [encN b]) (ht : t≤3) (ha : a < t) (hb : b < t) (hok : A.Ok (wd t)) (hc : c < wd t) (hq : q = -1∨(0≤q∧q.toNat < A.acc.length)) :
    FnDoes (gam base) 187 [encI q,encN c,.ptr n8 0,.ptr n4 0,.ptr n5 0] H fun v _ => v = encI (nxS A a b q c):=by
  obtain ⟨R,hR⟩ : ∃ R : BV→BH→Prop,R = fun v _ => v = encI (nxS A a b q c):=⟨_,rfl⟩
  rw [← hR]
  refine FnDoes.of (fn:=ir187) rfl ?_
  have r0:=rd_ptr h8 (rt:=none) (j:=0) (c:=encN t) rfl rfl
  have hw3:=wd_3 ht
  simp [ir187,r0]
  refine (i_digitsOf (base:=base) t c H (by omega) (by omega)).step fun v K k hv => ?_
  obtain ⟨bo,hv,hfr⟩:=hv
  have hvr:=hv.rd
  have hvl : v.slen = t:=by rw [hvr.lenM,digs_len]
  have ga:=hvr.at (i:=a) (by rw [digs_len]; exact ha) (rt:=none) rfl
  have gb:=hvr.at (i:=b) (by rw [digs_len]; exact hb) (rt:=none) rfl
  have ea : (digs t c)[a]'(by rw [digs_len]; exact ha) = dg c a:=by simp [digs]
  have eb : (digs t c)[b]'(by rw [digs_len]; exact hb) = dg c b:=by simp [digs]
  rw [ea] at ga
  rw [eb] at gb
  have r4:=rd_keeps k (rd_ptr h4 (rt:=none) (j:=0) (c:=encN a) rfl rfl)
  have r5:=rd_keeps k (rd_ptr h5 (rt:=none) (j:=0) (c:=encN b) rfl rfl)
  have r3:=rd_keeps k (rd_ptr h8 (rt:=none) (j:=3) (c:=x) rfl rfl)
  rcases hq with rfl | ⟨h0,hl⟩
  · have e : nxS A a b (-1) c = -1:=if_pos (.inl (by omega))
    simp
    rw [hR,e]
    exact ⟨k,rfl⟩
  · obtain ⟨p,rfl⟩ : ∃ p : Nat,q = p:=⟨q.toNat,by omega⟩
    simp only [Int.toNat_natCast] at hl
    have hp0 : ¬ ((p : Int) < 0):=by omega
    have hpn : p < A.nxt.length:=by rw [hok.len]; exact hl
    by_cases hd : dg c a = dg c b
    · have e : nxS A a b (p : Int) c = (A.to p c : Int):=by unfold nxS; rw [if_neg (by omega)]; simp
      obtain ⟨ri,hri,hrr⟩:=hx.at hpn
      have hrr:=rd_keeps k (hrr none rfl)
      have hrw:=(hok.row _ (List.getElem_mem hpn)).1
      have hrj:=(hri.keeps k).at (i:=c) (by rw [hrw]; exact hc) (rt:=none) rfl
      rw [to_get hok hpn (by rw [hrw]; exact hc)] at hrj
      simp [hp0,hvr.isSl,hvl,ha,hb,r4,r5,ga,gb,hd,r3,hx.isSl,hx.len,hpn,hrr,hri.isSl,hri.lenM,hrw,hc,hrj]
      rw [hR,e]
      exact ⟨k,rfl⟩
    · have e : nxS A a b (p : Int) c = -1:=by unfold nxS; rw [if_pos (.inr hd)]
      have hd' : ¬ ((dg c a : Nat) : Int) = ((dg c b : Nat) : Int):=by omega
      simp [hp0,hvr.isSl,hvl,ha,hb,r4,r5,ga,gb,hd,hd']
      rw [hR,e]
      exact ⟨k,rfl⟩
theorem sameN_good {t a b s : Nat} (ht : t≤3) {A : Aut} (hA : A.Ok (wd t)) (hs : s < A.acc.length) : GoodC t (sameN t a b (A.lang s)):=by
  obtain ⟨h1,h2,h3⟩:=autOf_met (a:=acS A) (same_closed (a:=a) (b:=b) hA hs)
  have e : TA t ((autOf (wd t) (nxS A a b) (acS A) (metL (succs (wd t) (nxS A a b)) (s : Int) (sameU A.acc.length).length)).lang 0) = TA t (fun cs => A.lang s cs && diag a b cs):=TA_congr fun cs hc _ => by rw [h3 cs hc,nxS_lang]
  have h:=(TA_spec ht h1 h1.pos).1.ok
  rw [e] at h
  exact GoodC.told h
theorem i_SameOn (t s a b : Nat) (ht1 : 1≤t) (ht : t≤3) (ha : a < t) (hb : b < t) (hab : a≠b) (A : Aut) (m : BV) (H : BH) (hA : RdRel H t s A m) (hok : A.Ok (wd t)) (hs : s < A.acc.length) (hn : A.acc.length≤150) :
    FnDoes (gam base) 128 [m,encN a,encN b] H fun v K => RelR base H t (sameN t a b (A.lang s)) v K:=by
  obtain ⟨R,hR⟩ : ∃ R : BV→BH→Prop,R = fun v K => RelR base H t (sameN t a b (A.lang s)) v K:=⟨_,rfl⟩
  rw [← hR]
  refine FnDoes.of (fn:=ir128) rfl ?_
  have g1:=hA
  obtain ⟨u,x,rfl,hu,hx⟩:=hA
  have u1:=hu.one
  have x1:=one_of_isSl hx.isSl
  simp [ir128,u1,x1]
  intro n3 b3 f3
  simp [make_of f3 b3]
  intro n4 b4 f4
  simp [make_of f4 b4]
  intro n5 b5 f5
  simp [make_of f5 b5]
  intro n6 b6 f6
  have o1:=Own.start (base:=base) (H:=H) |>.new f3 b3 (s:=.arr 25 [encN t,encN s,u,x]) |>.new f4 b4 (s:=.arr 2 [encN a]) |>.new f5 b5 (s:=.arr 2 [encN b]) |>.new f6 b6 (s:=.arr 25 [.int .i64 0,.int .i64 0,.nils,.nils])
  have r3:=rd_all (o1.at 3 (b:=n3) rfl) (n:=4) (rt:=none) rfl rfl
  simp [make_of f6 b6,r3]
  refine (i_valid (base:=base) t s _ _ _ _ (g1.keeps o1.keeps).raw (by omega)).step fun v K1 k1 hv => ?_
  rw [ok_valid ht1 (by omega) hok hs hn] at hv
  subst hv
  have o2:=o1.call k1
  have r3:=rd_all (o2.at 3 (b:=n3) rfl) (n:=4) (rt:=none) rfl rfl
  have r4:=rd_ptr (o2.at 2 (b:=n4) rfl) (rt:=none) (j:=0) (c:=encN a) rfl rfl
  simp [r3,r4]
  refine (i_isTape (base:=base) t a (encN s) u x _ rfl u1 x1 (by omega)).step fun v K2 k2 hv => ?_
  have hin : inB a 0 ((t : Int) - 1) = true:=by simp [inB]; omega
  rw [hin] at hv
  subst hv
  have o3:=o2.call k2
  have r3:=rd_all (o3.at 3 (b:=n3) rfl) (n:=4) (rt:=none) rfl rfl
  have r5:=rd_ptr (o3.at 1 (b:=n5) rfl) (rt:=none) (j:=0) (c:=encN b) rfl rfl
  simp [r3,r5]
  refine (i_isTape (base:=base) t b (encN s) u x _ rfl u1 x1 (by omega)).step fun v K3 k3 hv => ?_
  have hin : inB b 0 ((t : Int) - 1) = true:=by simp [inB]; omega
  rw [hin] at hv
  subst hv
  have o4:=o3.call k3
  have r3:=rd_all (o4.at 3 (b:=n3) rfl) (n:=4) (rt:=none) rfl rfl
  have r4:=rd_ptr (o4.at 2 (b:=n4) rfl) (rt:=none) (j:=0) (c:=encN a) rfl rfl
  have r5:=rd_ptr (o4.at 1 (b:=n5) rfl) (rt:=none) (j:=0) (c:=encN b) rfl rfl
  have hab' : ¬ (a : Int) = (b : Int):=by omega
  simp [r4,r5,hab,hab',r3]
  have hw3:=wd_3 ht
  refine (i_machineOf (base:=base) t s (wd t) A _ _ (g1.keeps o4.keeps) (by omega) hok (by omega)).step fun v K4 k4 hv => ?_
  have hv:=hv.rd
  obtain ⟨mu,mx,rfl,hmu,hmx⟩:=id hv
  have mu1:=hmu.one
  have mx1:=one_of_isSl hmx.isSl
  simp [mu1,mx1]
  intro n8 b8 f8
  obtain ⟨K5,g5,o5⟩:=((o4.call k4).new f8 b8 (s:=.arr 77 [.int .i64 0,.int .i64 0,.nils,.nils])).putAll 0 (b:=n8) rfl (n:=4) (ds:=[encN t,encN s,mu,mx]) rfl rfl (by simp [mu1,mx1]) (rt:=none) rfl
  have p0:=rd_ptr (o5.at 0 (b:=n8) rfl) (rt:=none) (j:=0) (c:=encN t) rfl rfl
  have p1:=rd_ptr (o5.at 0 (b:=n8) rfl) (rt:=none) (j:=1) (c:=encN s) rfl rfl
  have k45 : K4.Keeps K5:=by
    obtain ⟨K5',g5',o5'⟩:=((Own.start (base:=base) (H:=K4)).new f8 b8 (s:=.arr 77 [.int .i64 0,.int .i64 0,.nils,.nils])).putAll 0 (b:=n8) rfl (n:=4) (ds:=[encN t,encN s,mu,mx]) rfl rfl (by simp [mu1,mx1]) (rt:=none) rfl
    rw [g5] at g5'
    cases g5'
    exact o5'.keeps
  simp [make_of f8 b8,g5,p0,p1]
  have hcl:=same_closed (a:=a) (b:=b) hok hs
  have hUl : (sameU A.acc.length).length = A.acc.length + 1:=by simp [sameU]
  have hmemU : ∀ q∈sameU A.acc.length,q = -1∨(0≤q∧q.toNat < A.acc.length):=fun q hq => by
    rcases List.mem_cons.1 hq with rfl | hq
    · exact .inl rfl
    · obtain ⟨p,hp,rfl⟩:=List.mem_map.1 hq
      have:=List.mem_range.1 hp
      exact .inr ⟨by omega,by simpa using this⟩
  have hgrow:=i_grow_int (base:=base) (κ:=Int) encI (fun _ => rfl) encI_eq (fun _ => rfl) t ht (s : Int) 0 186 187 [.ptr n8 0] [.ptr n8 0,.ptr n4 0,.ptr n5 0] (nxS A a b) (acS A) (sameU A.acc.length) hcl (by omega) K5
    (fun L kL q hq => ⟨_,L,i_same1 A q t s n8 mu mx L ((o5.call kL).at 0 rfl) (hmu.keeps (k45.trans kL)) (hmemU q hq),BH.Keeps.refl L,rfl⟩)
    (fun L kL q hq c hc => i_same2 A q t s a b c n8 n4 n5 mu mx L ((o5.call kL).at 0 rfl) (hmx.keeps (k45.trans kL)) ((o5.call kL).at 3 rfl) ((o5.call kL).at 2 rfl) ht ha hb hok hc (hmemU q hq))
  refine hgrow.step fun r K6 k6 hr => ?_
  obtain ⟨h1,h2,h3⟩:=autOf_met (a:=acS A) hcl
  obtain ⟨X,hX⟩ : ∃ X,X = autOf (wd t) (nxS A a b) (acS A) (metL (succs (wd t) (nxS A a b)) (s : Int) (sameU A.acc.length).length):=⟨_,rfl⟩
  rw [← hX] at hr h1 h2 h3
  unfold GrowR at hr
  rw [if_neg (by omega)] at hr
  obtain ⟨mm,rfl,hmm⟩:=hr
  have hrd:=hmm.rd
  obtain ⟨uu,ww,rfl,huu,hww⟩:=id hrd
  have uu1:=huu.one
  have ww1:=one_of_isSl hww.isSl
  simp [uu1,ww1]
  intro n9 b9 f9
  obtain ⟨K7,g7,o7⟩:=((Own.start (base:=base) (H:=K6)).new f9 b9 (s:=.arr 77 [.int .i64 0,.int .i64 0,.nils,.nils])).putAll 0 (b:=n9) rfl (n:=4) (ds:=[encN t,encN 0,uu,ww]) rfl rfl (by simp [uu1,ww1]) (rt:=none) rfl
  have r9:=rd_all (o7.at 0 (b:=n9) rfl) (n:=4) (rt:=none) rfl rfl
  simp [make_of f9 b9,g7,r9]
  refine (i_tidied (base:=base) t 0 ht X _ K7 (hrd.keeps o7.keeps) h1 h1.pos (by omega)).step fun r K8 k8 hr => ?_
  have e : TA t (X.lang 0) = TA t (fun cs => A.lang s cs && diag a b cs):=TA_congr fun cs hc _ => by rw [h3 cs hc,nxS_lang]
  rw [e] at hr
  have hr : RelR base K7 t (sameN t a b (A.lang s)) r K8:=hr
  obtain ⟨m8,K9,rfl,g8,r8,kk,hrel⟩:=rel_end (base:=base) ((o5.call k6).call o7.keeps) (i:=1) (n2:=n6) rfl rfl k8 hr
  simp [g8,r8]
  rw [hR]
  exact ⟨kk,hrel⟩
theorem i_chainG (t0 t1 t2 s f g : Nat) (A : Aut) (G1 : Option Aut × Nat) (G2 : Aut→Option Aut × Nat) (m v : BV) (H : BH) (hA : RdRel H t0 s A m) (hv : Rd H 66 v [.fn f [],.fn g []])
    (hf : ∀ (K : BH) (m : BV),RdRel K t0 s A m→FnDoes (gam base) f [m] K fun r K' => RelR base K t1 G1 r K') (hg1 : GoodC t1 G1)
    (hg : ∀ (B : Aut),G1 = (some B,0)→∀ (K : BH) (m : BV),RdRel K t1 0 B m→FnDoes (gam base) g [m] K fun r K' => RelR base K t2 (G2 B) r K') (hg2 : ∀ B,G1 = (some B,0)→GoodC t2 (G2 B)) :
    FnDoes (gam base) 124 [m,v] H fun r K => RelR base H t2 (thenN G2 G1) r K:=by
  obtain ⟨R,hR⟩ : ∃ R : BV→BH→Prop,R = fun r K => RelR base H t2 (thenN G2 G1) r K:=⟨_,rfl⟩
  rw [← hR]
  refine FnDoes.of (fn:=ir124) rfl ?_
  have g1:=hA
  obtain ⟨u,x,rfl,hu,hx⟩:=hA
  have u1:=hu.one
  have x1:=one_of_isSl hx.isSl
  simp [ir124,u1,x1]
  intro n2 b2 f2
  simp [make_of f2 b2]
  intro n4 b4 f4
  have o1:=Own.start (base:=base) (H:=H) |>.new f2 b2 (s:=.arr 25 [encN t0,encN s,u,x]) |>.new f4 b4 (s:=.arr 25 [.int .i64 0,.int .i64 0,.nils,.nils])
  have r2:=rd_all (o1.at 1 (b:=n2) rfl) (n:=4) (rt:=none) rfl rfl
  have gv0:=(hv.keeps o1.keeps).get (i:=0) (by simp) (rt:=none) rfl
  have w1 : IntKind.i64.wrap 1 = 1:=by decide
  have w2 : IntKind.i64.wrap 2 = 2:=by decide
  have hvl2 : v.slen = 2:=by rw [hv.len]; rfl
  simp only [List.getElem_cons_zero] at gv0
  simp [make_of f4 b4,hv.isSl,hvl2]
  refine wpC_unroll ?_
  simp [hv.isSl,hvl2,gv0,r2]
  refine (hf _ _ (g1.keeps o1.keeps)).step fun r K1 k1 hr => ?_
  refine rel_step (d:=16) (a:=20) (b:=21) (x:=8) (y:=9) (p:=22) (q:=23) (z:=24) (w:=25) (r4:=4) (r5:=5) (t:=t1) o1 (L:=_) (i:=0) (n4:=n4) rfl rfl k1 hr hg1 [(2,.ptr n2 0),(10,v),(12,encN 0),(11,encN 2)] ?_ ?_ (by simp) (by decide) (fun _ _ h => h) ?_ ?_
  · simp [Has]
  · simp
  · rintro e1 n K2 B ms eG ⟨e8,e9,e4,e2,e10,e12,e11,-⟩ - - hrel g8
    simp only [] at e8 e9 e4 e2 e10 e12 e11
    rw [eG] at hR
    obtain ⟨u',x',em,u1',x1'⟩:=hrel.cells
    cases em
    obtain ⟨Y,oY,hY⟩:=hrel.rows2
    have oj:=Own.join o1 oY.keeps oY
    obtain ⟨K6,g6,o6⟩:=oj.putAll 1 (b:=n2) rfl (n:=4) (ds:=[encN t1,encN 0,u',x']) rfl rfl (by simp [u1',x1']) (rt:=none) rfl
    have o6 : Own base H K6 ([(some n4,.arr 25 [.int .i64 0,.int .i64 0,.nils,.nils]),(some n2,.arr 25 [encN t1,encN 0,u',x'])]++Y):=o6
    have r2:=rd_all (o6.at 1 (b:=n2) rfl) (n:=4) (rt:=none) rfl rfl
    have gv1:=(hv.keeps o6.keeps).get (i:=1) (by simp) (rt:=none) rfl
    simp only [List.getElem_cons_succ,List.getElem_cons_zero] at gv1
    have hBr : RdRel K6 t1 0 B (.agg [encN t1,encN 0,u',x']):=(hY o6).rd
    simp [e8,e2,g8,g6,e12,w1]
    refine wpC_unroll ?_
    simp [e10,e11,e12,hv.isSl,hvl2,gv1,e2,r2,w1]
    refine (hg B eG _ _ hBr).step fun r K1' k1' hr' => ?_
    have hg':=hg2 B eG
    have hR' : R = fun r K => RelR base H t2 (G2 B) r K:=hR
    obtain ⟨G',hG'⟩ : ∃ G',G' = G2 B:=⟨_,rfl⟩
    rw [← hG'] at hr' hg' hR'
    refine rel_step (d:=16) (a:=20) (b:=21) (x:=8) (y:=9) (p:=22) (q:=23) (z:=24) (w:=25) (r4:=4) (r5:=5) (t:=t2) o6 (L:=_) (i:=0) (n4:=n4) rfl rfl k1' hr' hg' [(2,.ptr n2 0),(10,v),(12,encN 1),(11,encN 2)] ?_ ?_ (by simp) (by decide) (fun _ _ h => h) ?_ ?_
    · simp [Has,e4,e2,e10,e12,e11]
    · simp
    · rintro e3 n' K3 B' ms' eG' ⟨e8',e9',e4',e2',e10',e12',e11',-⟩ - - hrel' g8'
      simp only [] at e8' e9' e4' e2' e10' e12' e11'
      rw [eG'] at hR'
      obtain ⟨u3,x3,em,u31,x31⟩:=hrel'.cells
      cases em
      obtain ⟨Y',oY',hY'⟩:=hrel'.rows2
      have oj':=Own.join (o6.sub (List.sublist_append_left _ _)) oY'.keeps oY'
      obtain ⟨K7,g7,o7⟩:=oj'.putAll 1 (b:=n2) rfl (n:=4) (ds:=[encN t2,encN 0,u3,x3]) rfl rfl (by simp [u31,x31]) (rt:=none) rfl
      have r7:=rd_all (o7.at 1 (b:=n2) rfl) (n:=4) (rt:=none) rfl rfl
      obtain ⟨K8,g9,o8⟩:=o7.putAll 0 (b:=n4) rfl (n:=4) (ds:=[encN t2,encN 0,u3,x3]) rfl rfl (by simp [u31,x31]) (rt:=none) rfl
      have o8 : Own base H K8 ([(some n4,.arr 25 [encN t2,encN 0,u3,x3]),(some n2,.arr 25 [encN t2,encN 0,u3,x3])]++Y'):=o8
      have r8:=rd_all (o8.at 0 (b:=n4) rfl) (n:=4) (rt:=none) rfl rfl
      simp [e8',e2',g8',g7,e12',w2]
      refine wpC_unroll ?_
      simp [e11',e2',e4',r7,g9,r8,w2]
      rw [hR']
      exact ⟨o8.keeps,_,rfl,hY' o8⟩
    · intro e3 K3 c eG' hh r4 kk
      rw [eG'] at hR'
      obtain ⟨e5,e4,-⟩:=hh
      simp [e4,e5,r4]
      rw [hR']
      exact ⟨kk,rfl⟩
  · intro e1 K2 c eG hh r4 kk
    rw [eG] at hR
    obtain ⟨e5,e4,-⟩:=hh
    simp [e4,e5,r4]
    rw [hR]
    exact ⟨kk,rfl⟩
theorem i_shift1  (s : Nat) (A : Aut) (m : BV) (H : BH) (hA : RdRel H 1 s A m) (hok : A.Ok (wd 1)) (hs : s < A.acc.length) (hn : A.acc.length≤150) :
    FnDoes (gam base) 125 [m] H fun v K => RelR base H 2 (addN 1 1 (A.lang s)) v K:=by
  refine FnDoes.of (fn:=ir125) rfl ?_
  have g1:=hA
  obtain ⟨u,x,rfl,hu,hx⟩:=hA
  have u1:=hu.one
  have x1:=one_of_isSl hx.isSl
  simp [ir125,u1,x1]
  intro n1 b1 f1
  simp [make_of f1 b1]
  intro n2 b2 f2
  have o1:=Own.start (base:=base) (H:=H) |>.new f1 b1 (s:=.arr 25 [encN 1,encN s,u,x]) |>.new f2 b2 (s:=.arr 25 [.int .i64 0,.int .i64 0,.nils,.nils])
  have r1:=rd_all (o1.at 1 (b:=n1) rfl) (n:=4) (rt:=none) rfl rfl
  simp [make_of f2 b2,r1]
  have g2:=g1.keeps o1.keeps
  refine (i_AddTape (base:=base) 1 s 1 (by decide) (by decide) (by decide) A _ _ g2 hok hs hn).step fun r K1 k1 hr => ?_
  obtain ⟨m',K7,rfl,g7,r7,kk,hrel⟩:=rel_end (base:=base) o1 (i:=0) (n2:=n2) rfl rfl k1 hr
  simp [g7,r7]
  exact ⟨kk,hrel⟩

theorem i_shift2  (s : Nat) (A : Aut) (m : BV) (H : BH) (hA : RdRel H 2 s A m) (hok : A.Ok (wd 2)) (hs : s < A.acc.length) (hn : A.acc.length≤150) :
    FnDoes (gam base) 127 [m] H fun v K => RelR base H 2 (sameN 2 0 1 (A.lang s)) v K:=by
  refine FnDoes.of (fn:=ir127) rfl ?_
  have g1:=hA
  obtain ⟨u,x,rfl,hu,hx⟩:=hA
  have u1:=hu.one
  have x1:=one_of_isSl hx.isSl
  simp [ir127,u1,x1]
  intro n1 b1 f1
  simp [make_of f1 b1]
  intro n2 b2 f2
  have o1:=Own.start (base:=base) (H:=H) |>.new f1 b1 (s:=.arr 25 [encN 2,encN s,u,x]) |>.new f2 b2 (s:=.arr 25 [.int .i64 0,.int .i64 0,.nils,.nils])
  have r1:=rd_all (o1.at 1 (b:=n1) rfl) (n:=4) (rt:=none) rfl rfl
  simp [make_of f2 b2,r1]
  have g2:=g1.keeps o1.keeps
  refine (i_SameOn (base:=base) 2 s 0 1 (by decide) (by decide) (by decide) (by decide) (by decide) A _ _ g2 hok hs hn).step fun r K1 k1 hr => ?_
  obtain ⟨m',K7,rfl,g7,r7,kk,hrel⟩:=rel_end (base:=base) o1 (i:=0) (n2:=n2) rfl rfl k1 hr
  simp [g7,r7]
  exact ⟨kk,hrel⟩

noncomputable def compN (l : Nat) (L M : List Nat→Bool) : Option Aut × Nat:=thenN (fun C => someN l 2 1 (TA 3 (C.lang 0))) (joinN 3 (fun a b => a && b) ((TA 3 (addL 2 2 L)).lang 0) ((TA 3 (addL 2 0 M)).lang 0))
theorem addN_some {t at_ : Nat} {L : List Nat→Bool} (h : (TA (t + 1) (addL t at_ L)).acc.length≤150) : addN t at_ L = (some (TA (t + 1) (addL t at_ L)),0):=by
  unfold addN told
  rw [if_neg (by omega)]
theorem i_Compose (l : Nat) (hl : l = 1000) (s1 s2 : Nat) (A B : Aut) (m m' : BV) (H : BH) (hA : RdRel H 2 s1 A m) (hB : RdRel H 2 s2 B m') (hokA : A.Ok (wd 2)) (hokB : B.Ok (wd 2)) (hs1 : s1 < A.acc.length) (hs2 : s2 < B.acc.length) (hna : A.acc.length≤150) (hnb : B.acc.length≤150)
    (hx : (TA 3 (addL 2 2 (A.lang s1))).acc.length≤150) (hy : (TA 3 (addL 2 0 (B.lang s2))).acc.length≤150) :
    FnDoes (gam base) 129 [m,m'] H fun v K => RelR base H 2 (compN l (A.lang s1) (B.lang s2)) v K:=by
  obtain ⟨R,hR⟩ : ∃ R : BV→BH→Prop,R = fun v K => RelR base H 2 (compN l (A.lang s1) (B.lang s2)) v K:=⟨_,rfl⟩
  rw [← hR]
  refine FnDoes.of (fn:=ir129) rfl ?_
  have g:=hA
  have g':=hB
  obtain ⟨u,x,rfl,hu,hx'⟩:=hA
  obtain ⟨u',x',rfl,hu',hx''⟩:=hB
  have u1:=hu.one
  have x1:=one_of_isSl hx'.isSl
  have u1':=hu'.one
  have x1':=one_of_isSl hx''.isSl
  simp [ir129,u1,x1]
  intro n2 b2 f2
  simp [make_of f2 b2,u1',x1']
  intro n3 b3 f3
  simp [make_of f3 b3]
  intro n4 b4 f4
  have o1:=Own.start (base:=base) (H:=H) |>.new f2 b2 (s:=.arr 25 [encN 2,encN s1,u,x]) |>.new f3 b3 (s:=.arr 25 [encN 2,encN s2,u',x']) |>.new f4 b4 (s:=.arr 25 [.int .i64 0,.int .i64 0,.nils,.nils])
  have r2:=rd_all (o1.at 2 (b:=n2) rfl) (n:=4) (rt:=none) rfl rfl
  simp [make_of f4 b4,r2]
  refine (i_valid (base:=base) (2 : Nat) s1 _ _ _ _ (g.keeps o1.keeps).raw (by omega)).step fun v K1 k1 hv => ?_
  rw [ok_valid (by decide) (by decide) hokA hs1 hna] at hv
  subst hv
  have o2:=o1.call k1
  have r3:=rd_all (o2.at 1 (b:=n3) rfl) (n:=4) (rt:=none) rfl rfl
  simp [r3]
  refine (i_valid (base:=base) (2 : Nat) s2 _ _ _ _ (g'.keeps o2.keeps).raw (by omega)).step fun v K2 k2 hv => ?_
  rw [ok_valid (by decide) (by decide) hokB hs2 hnb] at hv
  subst hv
  have o3:=o2.call k2
  have p2:=rd_ptr (o3.at 2 (b:=n2) rfl) (rt:=none) (j:=0) (c:=encN 2) rfl rfl
  have p3:=rd_ptr (o3.at 1 (b:=n3) rfl) (rt:=none) (j:=0) (c:=encN 2) rfl rfl
  have r2:=rd_all (o3.at 2 (b:=n2) rfl) (n:=4) (rt:=none) rfl rfl
  simp [p2,p3,r2]
  refine (i_AddTape (base:=base) 2 s1 2 (by decide) (by decide) (by decide) A _ _ (g.keeps o3.keeps) hokA hs1 hna).step fun v1 K4 k4 hr1 => ?_
  rw [addN_some hx] at hr1
  obtain ⟨X,hX⟩ : ∃ X,X = TA (2 + 1) (addL 2 2 (A.lang s1)):=⟨_,rfl⟩
  obtain ⟨Y,hY⟩ : ∃ Y,Y = TA (2 + 1) (addL 2 0 (B.lang s2)):=⟨_,rfl⟩
  have hXok : X.Ok (wd 3):=by
    have h:=addN_goodC (t:=2) (at_:=2) (by decide) hokA hs1
    rw [addN_some hx,← hX] at h
    exact h.2.1
  have hYok : Y.Ok (wd 3):=by
    have h:=addN_goodC (t:=2) (at_:=0) (by decide) hokB hs2
    rw [addN_some hy,← hY] at h
    exact h.2.1
  rw [← hX] at hr1
  have hxl : X.acc.length≤150:=by rw [hX]; exact hx
  have hyl : Y.acc.length≤150:=by rw [hY]; exact hy
  have hr1 : RelR base _ 3 (some X,0) v1 K4:=hr1
  obtain ⟨m1,rfl,hm1⟩:=hr1.out
  obtain ⟨a1,a2,a3,a4,em,p1,p2,p3,p4⟩:=hm1.ones
  subst em
  simp [p1,p2,p3,p4]
  intro n6 b6 f6
  obtain ⟨K5,g5,k5,r5,w5,l5⟩:=lay f6 b6 (a:=a1) (b:=a2) (c:=a3) (d:=a4) (by simp [p1,p2,p3,p4])
  have o5:=l5 (o3.call k4)
  have r3:=rd_all (o5.at 2 (b:=n3) rfl) (n:=4) (rt:=none) rfl rfl
  simp [make_of f6 b6,g5,r3]
  refine (i_AddTape (base:=base) 2 s2 0 (by decide) (by decide) (by decide) B _ _ (g'.keeps o5.keeps) hokB hs2 hnb).step fun v2 K6 k6 hr2 => ?_
  rw [addN_some hy,← hY] at hr2
  have hr2 : RelR base _ 3 (some Y,0) v2 K6:=hr2
  obtain ⟨m2,rfl,hm2⟩:=hr2.out
  obtain ⟨c1,c2,c3,c4,em,q1,q2,q3,q4⟩:=hm2.ones
  subst em
  simp [q1,q2,q3,q4]
  intro n8 b8 f8
  obtain ⟨K7,g7,k7,r7,w7,l7⟩:=lay f8 b8 (a:=c1) (b:=c2) (c:=c3) (d:=c4) (by simp [q1,q2,q3,q4])
  have o7:=l7 (o5.call k6)
  have r5':=rd_all (o7.at 1 (b:=n6) rfl) (n:=4) (rt:=none) rfl rfl
  simp [make_of f8 b8,g7,r5',r7]
  refine (i_bothC (base:=base) 3 0 0 (by decide) (by decide) X Y _ _ K7 (RdRel.keeps hm1 (k5.trans (k6.trans k7))) (RdRel.keeps hm2 k7) hXok hYok hXok.pos hYok.pos hxl hyl).step fun v3 K8 k8 hr3 => ?_
  have gg3 : GoodC 3 (joinN 3 (fun a b => a && b) (X.lang 0) (Y.lang 0)):=joinN_goodC (by decide) hXok hYok hXok.pos hYok.pos
  have hres : compN l (A.lang s1) (B.lang s2) = thenN (fun C => someN l 2 1 (TA 3 (C.lang 0))) (joinN 3 (fun a b => a && b) (X.lang 0) (Y.lang 0)):=by rw [hX,hY]; rfl
  rw [hres] at hR
  obtain ⟨G3,hG3⟩ : ∃ G,G = joinN 3 (fun a b => a && b) (X.lang 0) (Y.lang 0):=⟨_,rfl⟩
  rw [← hG3] at hr3 gg3 hR
  refine rel_step (d:=41) (a:=47) (b:=48) (x:=10) (y:=7) (p:=49) (q:=50) (z:=51) (w:=52) (r4:=4) (r5:=5) (t:=3) o7 (i:=2) (n4:=n4) rfl rfl k8 hr3 gg3 [] ?_ ?_ (by simp) (by decide) (fun _ _ h => h) (fun e1 n K9 C ms eG hh _ kk1 hc1 gc1 => ?_) (fun e K2 c eG hh r4 kk => ?_)
  · simp [Has]
  · simp
  · obtain ⟨e10,-,e4,-⟩:=hh
    simp only [] at e10 e4
    rw [eG] at hR gg3
    have o9:=o7.call (k8.trans kk1)
    simp [e10,gc1]
    refine (i_SomeOn (base:=base) l hl 2 0 1 (by decide) (by decide) (by decide) C _ _ hc1.rd gg3.2.1 gg3.2.1.pos gg3.2.2).step fun r8 L8 l8 hr8 => ?_
    obtain ⟨m8,K8',rfl,g8,r8x,kk8,hrel8⟩:=rel_end (base:=base) o9 (i:=2) (n2:=n4) rfl rfl l8 hr8
    simp [e4,g8,r8x]
    rw [hR]
    exact ⟨kk8,hrel8⟩
  · rw [eG] at hR
    obtain ⟨e5,e4,-⟩:=hh
    simp [e4,e5,r4]
    rw [hR]
    exact ⟨kk,rfl⟩
theorem told_some {A S : Aut} {c : Nat} (h : told A = (some S,c)) : S = A∧A.acc.length≤150:=by
  unfold told at h
  split at h
  · cases h
  · cases h
    exact ⟨rfl,by omega⟩
theorem way_right {c : Int} {W : Aut} {d : Nat} (hc : -1000≤c∧c≤1000) (h : linN 1 c [1,-1] (oddI::leftV c) = (some W,d)) : ∀ ds,In (wd 2) ds→W.lang 0 ds = true→rightF 2 0 ds = true:=by
  have hW:=linN_some h
  obtain ⟨hX,-,hl⟩:=linX_ok (terms:=[1,-1]) (way_lin hc)
  have hX : (linX 1 c [1,-1] (oddI::leftV c)).Ok (wd 2):=hX
  have hTX:=(TA_spec (t:=2) (by decide) hX hX.pos).1
  have hD:=(LD_small (t:=2) (by decide) (S:=List.range 2) (fun k hk => List.mem_range.1 hk)).1
  have hp:=prodA_ok (op:=fun a b => a && b) hTX.ok hD.ok
  have hT:=(TA_spec (t:=2) (by decide) hp hp.pos).1
  have e : TA 2 ((prodA (wd 2) (TA 2 ((linX 1 c [1,-1] (oddI::leftV c)).lang 0)) (TA 2 (LD (List.range 2))) fun a b => a && b).lang 0) = W:=by
    rw [hW]
    exact TA_congr fun cs hcs _ => by
      have:=prodA_lang (op:=fun a b => a && b) hTX.ok hD.ok cs 0 0 hTX.ok.pos hD.ok.pos hcs
      rw [Nat.zero_mul,Nat.zero_add] at this
      exact this
  rw [e] at hT
  intro ds hds hl
  rw [hT.lang hds] at hl
  unfold rl at hl
  simp only [Bool.and_eq_true] at hl
  exact hl.1
theorem way_add {c : Int} {W : Aut} {d : Nat} (hc : -1000≤c∧c≤1000) (hok : W.Ok (wd 2)) (h : linN 1 c [1,-1] (oddI::leftV c) = (some W,d)) : (TA 3 (addL 2 0 (W.lang 0))).acc.length≤150:=by
  have h1:=add_len (t:=2) (at_:=0) (by omega) hok (way_right hc h)
  have h2:=way_small hc h
  have h1 : (TA 3 (addL 2 0 (W.lang 0))).acc.length≤2 * W.acc.length + 2:=h1
  omega
theorem comp_oks {A B : Aut} {s1 s2 : Nat} (hA : A.Ok (wd 2)) (hB : B.Ok (wd 2)) (hs1 : s1 < A.acc.length) (hs2 : s2 < B.acc.length) : (TA 3 (addL 2 2 (A.lang s1))).Ok (wd 3)∧(TA 3 (addL 2 0 (B.lang s2))).Ok (wd 3):=by
  refine ⟨?_,?_⟩
  · have h:=(TA_spec (t:=3) (by decide) (mapA_ok (w':=wd 3) (col:=lessC 2 2) hA) (s:=s1) hs1).1.ok
    have e:=add_s (t:=2) (at_:=2) hA hs1
    rw [show (mapA (wd 2) (wd 3) A (lessC 2 2)) = mapA (wd 2) (wd (2 + 1)) A (lessC 2 2) from rfl,e] at h
    exact h
  · have h:=(TA_spec (t:=3) (by decide) (mapA_ok (w':=wd 3) (col:=lessC 2 0) hB) (s:=s2) hs2).1.ok
    have e:=add_s (t:=2) (at_:=0) hB hs2
    rw [show (mapA (wd 2) (wd 3) B (lessC 2 0)) = mapA (wd 2) (wd (2 + 1)) B (lessC 2 0) from rfl,e] at h
    exact h
theorem comp_good {l : Nat} {A B : Aut} {s1 s2 : Nat} (hA : A.Ok (wd 2)) (hB : B.Ok (wd 2)) (hs1 : s1 < A.acc.length) (hs2 : s2 < B.acc.length) : GoodC 2 (compN l (A.lang s1) (B.lang s2)):=by
  obtain ⟨hX,hY⟩:=comp_oks hA hB hs1 hs2
  exact thenN_good (t':=3) (joinN_goodC (by decide) hX hY hX.pos hY.pos) fun C hC _ => someN_good (s:=0) (by decide)
noncomputable def sameR (L : List Nat→Bool) : Option Aut × Nat:=thenN (fun B => sameN 2 0 1 (B.lang 0)) (addN 1 1 L)
theorem sameR_good {A : Aut} {s : Nat} (hA : A.Ok (wd 1)) (hs : s < A.acc.length) : GoodC 2 (sameR (A.lang s)):=thenN_good (t':=2) (addN_goodC (t:=1) (by decide) hA hs) fun B hB _ => sameN_good (by decide) hB hB.pos
theorem same_add {A S : Aut} {s c : Nat} (hA : A.Ok (wd 1)) (hs : s < A.acc.length) (h : sameR (A.lang s) = (some S,c)) : (TA 3 (addL 2 2 (S.lang 0))).acc.length≤150:=by
  unfold sameR at h
  obtain ⟨G,hG⟩ : ∃ G,G = addN 1 1 (A.lang s):=⟨_,rfl⟩
  rw [← hG] at h
  obtain ⟨a,d⟩:=G
  cases a with
  | none => cases h
  | some B =>
    obtain ⟨e1,e2⟩:=told_some (show told (TA 2 (addL 1 1 (A.lang s))) = (some B,d) from hG.symm)
    have h : told (TA 2 (fun cs => B.lang 0 cs && diag 0 1 cs)) = (some S,c):=h
    obtain ⟨e3,-⟩:=told_some h
    rw [e3,e1]
    exact Nat.le_trans (same_add_len hA hs) e2
noncomputable def wayN (c : Int) : Option Aut × Nat:=linN 1 c [1,-1] (oddI::leftV c)
noncomputable def shiftN (l : Nat) (by_ : Int) (L : List Nat→Bool) : Option Aut × Nat:=thenN (fun S => thenN (fun W => thenN (fun C => someN l 1 0 (TA 2 (C.lang 0))) (compN l (S.lang 0) (W.lang 0))) (wayN (-by_))) (sameR L)
theorem way_terms : Terms [1,-1]:=⟨by decide,by decide⟩
theorem i_shift (l : Nat) (hl : l = 1000) (s : Nat) (by_ : Int) (hby : -1000≤by_∧by_≤1000) (A : Aut) (m : BV) (H : BH) (hA : RdRel H 1 s A m) (hok : A.Ok (wd 1)) (hs : s < A.acc.length) (hn : A.acc.length≤150) :
    FnDoes (gam base) 78 [m,encI by_] H fun v K => RelR base H 1 (shiftN l by_ (A.lang s)) v K:=by
  obtain ⟨R,hR⟩ : ∃ R : BV→BH→Prop,R = fun v K => RelR base H 1 (shiftN l by_ (A.lang s)) v K:=⟨_,rfl⟩
  rw [← hR]
  refine FnDoes.of (fn:=ir78) rfl ?_
  have g1:=hA
  obtain ⟨u,x,rfl,hu,hx⟩:=hA
  have u1:=hu.one
  have x1:=one_of_isSl hx.isSl
  have hc : -1000≤-by_∧-by_≤1000:=by omega
  have wn : IntKind.i64.wrap (-by_) = -by_:=w64 (by omega) (by omega)
  simp [ir78,u1,x1]
  intro n2 b2 f2
  simp [make_of f2 b2]
  intro n4 b4 f4
  have o1:=Own.start (base:=base) (H:=H) |>.new f2 b2 (s:=.arr 25 [encN 1,encN s,u,x]) |>.new f4 b4 (s:=.arr 25 [.int .i64 0,.int .i64 0,.nils,.nils])
  obtain ⟨H1,hH1⟩ : ∃ H1,H1 = (H.set n2 (.arr 25 [encN 1,encN s,u,x])).set n4 (.arr 25 [.int .i64 0,.int .i64 0,.nils,.nils]):=⟨_,rfl⟩
  have r2:=rd_all (o1.at 1 (b:=n2) rfl) (n:=4) (rt:=none) rfl rfl
  simp [make_of f4 b4,r2]
  intro n12 b12 f12
  rw [← hH1] at o1 f12 ⊢
  have o2:=(Own.start (base:=base) (H:=H1)).new f12 b12 (s:=.arr 66 [.fn 125 [],.fn 127 []])
  have hvf : Rd _ 66 (.sl n12 0 2) [.fn 125 [],.fn 127 []]:=o2.rd 0 rfl rfl
  simp [make_of f12 b12]
  have gA:=addN_goodC (t:=1) (at_:=1) (by decide) hok hs
  have hch:=i_chainG (base:=base) 1 2 2 s 125 127 A (addN 1 1 (A.lang s)) (fun B => sameN 2 0 1 (B.lang 0)) _ _ _ (g1.keeps (o1.keeps.trans o2.keeps)) hvf
    (fun K m h => i_shift1 s A m K h hok hs hn) gA (fun B hB K m h => by
      rw [hB] at gA
      exact i_shift2 0 B m K h gA.2.1 gA.2.1.pos gA.2.2) (fun B hB => by
      rw [hB] at gA
      exact sameN_good (by decide) gA.2.1 gA.2.1.pos)
  refine hch.step fun r1 L1 l1 hr1 => ?_
  have ga1:=sameR_good hok hs
  have hr1 : RelR base _ 2 (sameR (A.lang s)) r1 L1:=hr1
  have hsz:=fun S c h => same_add (S:=S) (c:=c) hok hs h
  unfold shiftN at hR
  obtain ⟨G1,hG1⟩ : ∃ G,G = sameR (A.lang s):=⟨_,rfl⟩
  rw [← hG1] at hr1 ga1 hsz hR
  have o3:=o1.call o2.keeps
  refine rel_step (d:=10) (a:=14) (b:=15) (x:=6) (y:=7) (p:=16) (q:=17) (z:=18) (w:=19) (r4:=4) (r5:=5) (t:=2) o3 (i:=0) (n4:=n4) rfl rfl l1 hr1 ga1 [(1,encI by_)] ?_ ?_ (by simp) (by decide) (fun _ _ h => h) (fun e1 m1 M1 S ms1 eG hh oN1 kk1 hb1 gg1 => ?_) (fun e K2 c eG hh r4 kk => ?_)
  · simp [Has]
  · simp
  rotate_left
  · rw [eG] at hR
    obtain ⟨e5,e4,-⟩:=hh
    simp [e4,e5,r4]
    rw [hR]
    exact ⟨kk,rfl⟩
  obtain ⟨e16,-,e14,e11,-⟩:=hh
  simp only [] at e16 e14 e11
  rw [eG] at hR ga1
  have hsz:=hsz S 0 eG
  have o4:=o3.call (l1.trans kk1)
  simp [e11,wn]
  intro n21 b21 f21
  have o5:=(Own.start (base:=base) (H:=M1)).new f21 b21 (s:=.arr 2 [.int .i64 1,.int .i64 (-1)])
  have hv : Rd _ 2 (.sl n21 0 2) (([1,-1] : List Int).map encI):=o5.rd 0 rfl rfl
  simp [make_of f21 b21,e11,wn]
  have hU:=way_lin hc
  have hUb : ∀ v∈(oddI::leftV (-by_)),-1100000000000≤v∧v≤1100000000000:=fun v hv => by
    rcases List.mem_cons.1 hv with rfl | hv
    · unfold oddI; omega
    · have:=leftV_big hc hv; omega
  refine (i_linear (base:=base) 1 [1,-1] way_terms (by decide) (-by_) (oddI::leftV (-by_)) hU (by rw [List.length_cons,leftV_len]; omega) hUb (.sl n21 0 2) _ hv).step fun r2' L2 l2 hr2 => ?_
  have ga2 : GoodC 2 (wayN (-by_)):=linN_good (terms:=[1,-1]) (by decide) hU
  have hr2 : RelR base _ 2 (wayN (-by_)) r2' L2:=hr2
  have hwy:=fun W c hok h => way_add (W:=W) (d:=c) hc hok h
  have hR : R = fun v K => RelR base H 1 (thenN (fun W => thenN (fun C => someN l 1 0 (TA 2 (C.lang 0))) (compN l (S.lang 0) (W.lang 0))) (wayN (-by_))) v K:=hR
  have hwy : ∀ (W : Aut) (c : Nat),W.Ok (wd 2)→wayN (-by_) = (some W,c)→(TA 3 (addL 2 0 (W.lang 0))).acc.length≤150:=hwy
  obtain ⟨G2,hG2⟩ : ∃ G,G = wayN (-by_):=⟨_,rfl⟩
  rw [← hG2] at hr2 ga2 hwy hR
  have o6:=o4.call o5.keeps
  refine rel_step (d:=20) (a:=25) (b:=26) (x:=8) (y:=7) (p:=27) (q:=28) (z:=29) (w:=30) (r4:=4) (r5:=5) (t:=2) o6 (i:=0) (n4:=n4) rfl rfl l2 hr2 ga2 [(6,.ptr m1 0)] ?_ ?_ (by simp) (by decide) (fun _ _ h => h) (fun e2 m2 M2 W ms2 eG2 hh oN2 kk2 hb2 gg2 => ?_) (fun e K2 c eG hh r4 kk => ?_)
  · simp [Has,e14,e16]
  · simp
  rotate_left
  · rw [eG] at hR
    obtain ⟨e5,e4,-⟩:=hh
    simp [e4,e5,r4]
    rw [hR]
    exact ⟨kk,rfl⟩
  obtain ⟨e28,-,e24,e26,-⟩:=hh
  simp only [] at e28 e24 e26
  rw [eG2] at hR ga2
  have hwy:=hwy W 0 ga2.2.1 eG2
  have kS:=o5.keeps.trans (l2.trans kk2)
  have gg1':=rd_keeps kS gg1
  have o7:=o6.call (l2.trans kk2)
  simp [e28,e26,gg1',gg2]
  refine (i_Compose (base:=base) l hl 0 0 S W _ _ _ (hb1.rd.keeps kS) hb2.rd ga1.2.1 ga2.2.1 ga1.2.1.pos ga2.2.1.pos ga1.2.2 ga2.2.2 hsz hwy).step fun r3 L3 l3 hr3 => ?_
  have hR : R = fun v K => RelR base H 1 (thenN (fun C => someN l 1 0 (TA 2 (C.lang 0))) (compN l (S.lang 0) (W.lang 0))) v K:=hR
  have ga3 : GoodC 2 (compN l (S.lang 0) (W.lang 0)):=comp_good ga1.2.1 ga2.2.1 ga1.2.1.pos ga2.2.1.pos
  obtain ⟨G3,hG3⟩ : ∃ G,G = compN l (S.lang 0) (W.lang 0):=⟨_,rfl⟩
  rw [← hG3] at hr3 ga3 hR
  refine rel_step (d:=31) (a:=35) (b:=36) (x:=9) (y:=7) (p:=37) (q:=38) (z:=39) (w:=40) (r4:=4) (r5:=5) (t:=2) o7 (i:=0) (n4:=n4) rfl rfl l3 hr3 ga3 [] ?_ ?_ (by simp) (by decide) (fun _ _ h => h) (fun e3 m3 M3 C ms3 eG3 hh oN3 kk3 hb3 gg3 => ?_) (fun e K2 c eG hh r4 kk => ?_)
  · simp [Has,e24]
  · simp
  rotate_left
  · rw [eG] at hR
    obtain ⟨e5,e4,-⟩:=hh
    simp [e4,e5,r4]
    rw [hR]
    exact ⟨kk,rfl⟩
  obtain ⟨e39,-,e34,-⟩:=hh
  simp only [] at e39 e34
  rw [eG3] at hR ga3
  have hR : R = fun v K => RelR base H 1 (someN l 1 0 (TA 2 (C.lang 0))) v K:=hR
  have o8:=o7.call (l3.trans kk3)
  simp [e39,gg3]
  refine (i_SomeOn (base:=base) l hl 1 0 0 (by decide) (by decide) (by decide) C _ _ hb3.rd ga3.2.1 ga3.2.1.pos ga3.2.2).step fun r8 L8 l8 hr8 => ?_
  obtain ⟨m8,K8',rfl,g8,r8x,kk8,hrel8⟩:=rel_end (base:=base) o8 (i:=0) (n2:=n4) rfl rfl l8 hr8
  simp [e34,g8,r8x]
  rw [hR]
  exact ⟨kk8,hrel8⟩
theorem s_Compose (l : Nat) (hl : l = 1000) (s1 s2 : Nat) (A B : Aut) (m m' : BV) (H : BH) (hA : RdRel H 2 s1 A m) (hB : RdRel H 2 s2 B m') (hokA : A.Ok (wd 2)) (hokB : B.Ok (wd 2)) (hs1 : s1 < A.acc.length) (hs2 : s2 < B.acc.length) (hna : A.acc.length≤150) (hnb : B.acc.length≤150)
    (hx : (TA 3 (addL 2 2 (A.lang s1))).acc.length≤150) (hy : (TA 3 (addL 2 0 (B.lang s2))).acc.length≤150) :
    FnDoes (gam base) 120 [m,m'] H fun v K => RelR base H 2 (compN l (A.lang s1) (B.lang s2)) v K:=by
  obtain ⟨R,hR⟩ : ∃ R : BV→BH→Prop,R = fun v K => RelR base H 2 (compN l (A.lang s1) (B.lang s2)) v K:=⟨_,rfl⟩
  rw [← hR]
  refine FnDoes.of (fn:=ir120) rfl ?_
  have g:=hA
  have g':=hB
  obtain ⟨u,x,rfl,hu,hx'⟩:=hA
  obtain ⟨u',x',rfl,hu',hx''⟩:=hB
  have u1:=hu.one
  have x1:=one_of_isSl hx'.isSl
  have u1':=hu'.one
  have x1':=one_of_isSl hx''.isSl
  simp [ir120,u1,x1]
  intro n2 b2 f2
  simp [make_of f2 b2,u1',x1']
  intro n3 b3 f3
  simp [make_of f3 b3]
  intro n4 b4 f4
  have o1:=Own.start (base:=base) (H:=H) |>.new f2 b2 (s:=.arr 25 [encN 2,encN s1,u,x]) |>.new f3 b3 (s:=.arr 25 [encN 2,encN s2,u',x']) |>.new f4 b4 (s:=.arr 25 [.int .i64 0,.int .i64 0,.nils,.nils])
  obtain ⟨H1,hH1⟩ : ∃ H1,H1 = ((H.set n2 (.arr 25 [encN 2,encN s1,u,x])).set n3 (.arr 25 [encN 2,encN s2,u',x'])).set n4 (.arr 25 [.int .i64 0,.int .i64 0,.nils,.nils]):=⟨_,rfl⟩
  simp [make_of f4 b4]
  rw [← hH1] at o1 ⊢
  have pA : RdP H1 n2 2 s1 A:=RdRel.at g o1.keeps (o1.at 2 (b:=n2) rfl)
  have pB : RdP H1 n3 2 s2 B:=RdRel.at g' o1.keeps (o1.at 1 (b:=n3) rfl)
  have c1:=s_ok (base:=base) n2 (2 : Nat) s1 _ _ H1 pA.raw (by omega)
  rw [ok_valid (by decide) (by decide) hokA hs1 hna] at c1
  have c2:=s_ok (base:=base) n3 (2 : Nat) s2 _ _ H1 pB.raw (by omega)
  rw [ok_valid (by decide) (by decide) hokB hs2 hnb] at c2
  have p2:=rd_ptr (o1.at 2 (b:=n2) rfl) (rt:=none) (j:=0) (c:=encN 2) rfl rfl
  have p3:=rd_ptr (o1.at 1 (b:=n3) rfl) (rt:=none) (j:=0) (c:=encN 2) rfl rfl
  refine callP c1 ?_
  simp
  refine callP c2 ?_
  simp [p2,p3]
  refine (s_added (base:=base) 2 s1 2 n2 (by decide) (by decide) A H1 pA hokA hs1 (by omega)).step fun v1 K1 k1 hv1 => ?_
  have hX3 : (TA 3 (addL 2 2 (A.lang s1))).Ok (wd 3):=(comp_oks hokA hokB hs1 hs2).1
  have hY3 : (TA 3 (addL 2 0 (B.lang s2))).Ok (wd 3):=(comp_oks hokA hokB hs1 hs2).2
  have hres : compN l (A.lang s1) (B.lang s2) = thenN (fun C => someN l 2 1 (TA 3 (C.lang 0))) (joinN 3 (fun a b => a && b) ((TA 3 (addL 2 2 (A.lang s1))).lang 0) ((TA 3 (addL 2 0 (B.lang s2))).lang 0)):=rfl
  rw [hres] at hR
  have hv1 : OwnRel base H1 K1 3 0 (TA 3 (addL 2 2 (A.lang s1))) v1:=hv1
  obtain ⟨X,hX⟩ : ∃ X,X = TA 3 (addL 2 2 (A.lang s1)):=⟨_,rfl⟩
  rw [← hX] at hv1 hX3 hx hR
  obtain ⟨ua,xa,em,ua1,xa1⟩:=hv1.cells
  subst em
  simp [ua1,xa1]
  intro n6 b6 f6
  obtain ⟨K2,g2,k2,r6,w6,l6⟩:=lay f6 b6 (a:=encN 3) (b:=encN 0) (c:=ua) (d:=xa) (by simp [ua1,xa1])
  have o2:=l6 (o1.call k1)
  simp [make_of f6 b6,g2]
  refine (s_added (base:=base) 2 s2 0 n3 (by decide) (by decide) B K2 (pB.keeps (k1.trans k2)) hokB hs2 (by omega)).step fun v2 K3 k3 hv2 => ?_
  have hv2 : OwnRel base K2 K3 3 0 (TA 3 (addL 2 0 (B.lang s2))) v2:=hv2
  obtain ⟨Y,hY⟩ : ∃ Y,Y = TA 3 (addL 2 0 (B.lang s2)):=⟨_,rfl⟩
  rw [← hY] at hv2 hY3 hy hR
  obtain ⟨ub,xb,em,ub1,xb1⟩:=hv2.cells
  subst em
  simp [ub1,xb1]
  intro n7 b7 f7
  obtain ⟨K4,g4,k4,r7,w7,l7⟩:=lay f7 b7 (a:=encN 3) (b:=encN 0) (c:=ub) (d:=xb) (by simp [ub1,xb1])
  have o4:=l7 (o2.call k3)
  simp [make_of f7 b7,g4]
  have pX : RdP K4 n6 3 0 X:=RdRel.at hv1.rd (k2.trans (k3.trans k4)) (o4.at 1 (b:=n6) rfl)
  have pY : RdP K4 n7 3 0 Y:=RdRel.at hv2.rd k4 w7
  have hj:=s_joined (base:=base) 3 0 0 1 n6 n7 (by decide) X Y K4 pX pY hX3 hY3 hX3.pos hY3.pos hx hy
  rw [opW_1] at hj
  refine hj.step fun r3 K5 k5 hr3 => ?_
  have gg3 : GoodC 3 (joinN 3 (fun a b => a && b) (X.lang 0) (Y.lang 0)):=joinN_goodC (by decide) hX3 hY3 hX3.pos hY3.pos
  obtain ⟨G3,hG3⟩ : ∃ G,G = joinN 3 (fun a b => a && b) (X.lang 0) (Y.lang 0):=⟨_,rfl⟩
  rw [← hG3] at hr3 gg3 hR
  refine rel_step (d:=28) (a:=30) (b:=31) (x:=8) (y:=9) (p:=32) (q:=33) (z:=34) (w:=35) (r4:=4) (r5:=5) (t:=3) o4 (i:=2) (n4:=n4) rfl rfl k5 hr3 gg3 [] ?_ ?_ (by simp) (by decide) (fun _ _ h => h) (fun e1 n K9 C ms eG hh oN kk1 hc1 gc1 => ?_) (fun e K2 c eG hh r4 kk => ?_)
  · simp [Has]
  · simp
  · obtain ⟨e10,-,e4,-⟩:=hh
    simp only [] at e10 e4
    rw [eG] at hR gg3
    have o9:=o4.call (k5.trans kk1)
    obtain ⟨uc,xc,em,uc1,xc1⟩:=hc1.cells
    cases em
    have pC : RdP K9 n 3 0 C:=RdRel.at hc1.rd (BH.Keeps.refl _) (oN.at 0 (b:=n) rfl)
    simp [e10]
    refine (s_SomeOn2 (base:=base) l hl 2 0 1 n (by decide) (by decide) (by decide) C _ pC gg3.2.1 gg3.2.1.pos gg3.2.2).step fun r8 L8 l8 hr8 => ?_
    obtain ⟨m8,K8',rfl,g8,r8x,kk8,hrel8⟩:=rel_end (base:=base) o9 (i:=2) (n2:=n4) rfl rfl l8 hr8
    simp [e4,g8,r8x]
    rw [hR]
    exact ⟨kk8,hrel8⟩
  · rw [eG] at hR
    obtain ⟨e5,e4,-⟩:=hh
    simp [e4,e5,r4]
    rw [hR]
    exact ⟨kk,rfl⟩
theorem s_ownRow (cs : List BV) (v : BV) (H : BH) (h : Rd H 2 v cs) (hp : 0 < cs.length) (hone : ∀ c∈cs,c.one = true) (hn : cs.length≤1000000) : FnDoes (gam base) 215 [v] H fun v' K => ∃ bo,OwnV base K 2 v' cs bo∧Fr H bo:=by
  refine FnDoes.of (fn:=ir215) rfl ?_
  simp [ir215]
  intro n3 b3 f3
  simp [make_of f3 b3]
  intro n5 b5 f5
  have o:=Own.start (base:=base) (H:=H) |>.new f3 b3 (s:=.arr 2 [])
  obtain ⟨v',K',bo',a1,a2,a3⟩:=o.app 0 rfl (v:=.sl n3 0 0) rfl (vy:=v) (new:=cs) (bytes:=8) (nb:=n5) ((h.keeps o.keeps).cells hp) hone (by simp; omega) (by simp; omega) f5 b5
  simp [a1]
  exact ⟨a2.keeps,bo',a2.vec 0 rfl (by simpa using a3),fun b hb => by subst hb; exact a2.fr 0 rfl⟩
theorem s_copy (t s rb w : Nat) (A : Aut) (H : BH) (hA : RdP H rb t s A) (hok : A.Ok w) (hw0 : 0 < w) (hw : w≤26) (hn : A.acc.length≤10000) :
    FnDoes (gam base) 179 [.ptr rb 0] H fun v K => OwnRel base H K t s A v:=by
  obtain ⟨R,hR⟩ : ∃ R : BV→BH→Prop,R = fun v K => OwnRel base H K t s A v:=⟨_,rfl⟩
  rw [← hR]
  refine FnDoes.of (fn:=ir179) rfl ?_
  obtain ⟨u,x,hrow,hu,hx⟩:=id hA
  have hnl : A.nxt.length = A.acc.length:=hok.len
  simp [ir179]
  intro n2 b2 f2
  have o0:=Own.start (base:=base) (H:=H) |>.new f2 b2 (s:=.arr 25 [.int .i64 0,.int .i64 0,.nils,.nils])
  have q0:=rd_keeps o0.keeps (rd_ptr hrow (rt:=some 25) (j:=0) (c:=encN t) rfl rfl)
  have q1:=rd_keeps o0.keeps (rd_ptr hrow (rt:=some 25) (j:=1) (c:=encN s) rfl rfl)
  have q2:=rd_keeps o0.keeps (rd_ptr hrow (rt:=none) (j:=2) (c:=u) rfl rfl)
  simp [make_of f2 b2,q0,q1,q2]
  intro n13 b13 f13
  simp [make_of f13 b13]
  intro n18 b18 f18
  have o1:=o0.new f13 b13 (s:=.arr 4 [])
  obtain ⟨v,K1,bo,g1,o2,hv⟩:=o1.app 0 rfl (bo:=some n13) (cs:=[]) (v:=.sl n13 0 0) rfl (vy:=u) (new:=A.acc.map encB) (bytes:=1) (Rd.cells (hu.keeps o1.keeps) (by simpa using hok.pos)) (fun c hc => by obtain ⟨b,_,rfl⟩:=List.mem_map.1 hc; rfl) (by simp; omega) (by simp; omega) f18 b18
  have v1:=hv.one
  simp [g1,v1,cells_one v1]
  intro n3 b3 f3
  obtain ⟨K2,g2,o3⟩:=(o2.new f3 b3 (s:=.arr 25 [.int .i64 0,.int .i64 0,.nils,.nils])).putAll 0 (b:=n3) (n:=4) (ds:=[encN t,encN s,v,.nils]) rfl rfl rfl (by simp [v1]) (rt:=none) rfl
  simp [make_of f3 b3,g2]
  obtain ⟨n,hnn⟩ : ∃ n,n = A.nxt.length:=⟨_,rfl⟩
  obtain ⟨F,hF⟩ : ∃ F : BV→List Sl,F = fun z => [(some n3,.arr 25 [encN t,encN s,v,z]),(bo,.arr 4 (A.acc.map encB)),(some n2,.arr 25 [.int .i64 0,.int .i64 0,.nils,.nils])]:=⟨_,rfl⟩
  obtain ⟨I,hI⟩ : ∃ I : Nat→Env→BH→Prop,I = (fun q e K => e 4 = encN q∧∃ z wo vs fr,Own base H K (((wo,.arr 36 vs)::F z)++fr)∧Vec wo z q∧vs.length = q∧RowsOf 2 vs fr ((A.nxt.take q).map (·.map encN))):=⟨_,rfl⟩
  refine wpC_countK n [(0,.ptr rb 0),(2,.ptr n2 0),(3,.ptr n3 0)] I (i0:=0) ?_ ?_ ?_ (Nat.zero_le _) ?_
  · rfl
  · simp
  · rw [hI]
    refine ⟨by simp,.nils,none,[],[],?_,Vec.none,rfl,trivial⟩
    rw [hF]
    have o4 : Own base H K2 [(some n3,.arr 25 [encN t,encN s,v,.nils]),(bo,.arr 4 (A.acc.map encB)),(some n2,.arr 25 [.int .i64 0,.int .i64 0,.nils,.nils])]:=o3
    simpa using o4.nil (.arr 36 [])
  clear o0 o1 o2 o3 q0 q1 q2 g1 g2
  rintro q e K hq ⟨e0,e2,e3,-⟩ hh
  rw [hI] at hh
  obtain ⟨e4,z,wo,vs,fr,o,hz,hvs,hrows⟩:=hh
  rw [hF] at o
  simp only [] at e0 e2 e3
  have wq:=wS (n:=q) (by omega)
  have s3:=rd_keeps o.keeps (rd_ptr hrow (rt:=none) (j:=3) (c:=x) rfl rfl)
  by_cases hlq : q < n
  · have hqx : q < A.nxt.length:=by omega
    obtain ⟨ri,hri,hrr⟩:=hx.at (i:=q) hqx
    have hrr:=rd_keeps o.keeps (hrr none rfl)
    have hrw:=(hok.row _ (List.getElem_mem hqx)).1
    have p3:=rd_ptr (o.at 1 (b:=n3) rfl) (rt:=some 25) (j:=3) (c:=z) rfl rfl
    simp [e0,e3,e4,s3,hx.isSl,hx.len,← hnn,hlq,p3,hqx,hrr]
    refine (s_ownRow (base:=base) (A.nxt[q].map encN) ri K (hri.keeps o.keeps) (by simp; omega) (fun c hc => by obtain ⟨b,_,rfl⟩:=List.mem_map.1 hc; rfl) (by simp; omega)).step fun y K3 k3 hy => ?_
    obtain ⟨yo,hy,hfr⟩:=hy
    have oL:=o.take k3 hy hfr
    have hy1:=hy.rd.one
    simp [hy1,cells_one hy1]
    intro n70 b70 f70
    simp [make_of f70 b70]
    intro n71 b71 f71
    obtain ⟨z',M',wo',q1,o5,q3⟩:=oL.push 1 rfl (v:=z) (by rw [hvs]; exact hz) (x:=y) (bytes:=24) hy1 (by omega) (by omega) f70 b70 f71 b71
    obtain ⟨M2,p2,o6⟩:=o5.put 2 (b:=n3) rfl (j:=3) (u:=z') (by simp) q3.one (rt:=none) rfl
    simp [q1,e3,p2,e4,wq,hlq]
    rw [hI,hF]
    refine ⟨by simp,z',some wo',vs++[y],fr++[(yo,.arr 2 (A.nxt[q].map encN))],?_,by rw [hvs] at q3; exact q3,by simp [hvs],?_⟩
    · have o7 : Own base H M2 ((yo,.arr 2 (A.nxt[q].map encN))::(((some wo',.arr 36 (vs++[y]))::[(some n3,.arr 25 [encN t,encN s,v,z']),(bo,.arr 4 (A.acc.map encB)),(some n2,.arr 25 [.int .i64 0,.int .i64 0,.nils,.nils])])++fr)):=o6
      exact o7.last
    · rw [List.take_add_one,List.getElem?_eq_getElem hqx,List.map_append]
      exact hrows.snoc hy.vec
  · have hqn : q = n:=by omega
    subst hqn
    rw [hnn,List.take_length] at hrows
    have r3:=rd_all (o.at 1 (b:=n3) rfl) (n:=4) (rt:=none) rfl rfl
    have v1':=hv.one
    have z1:=hz.one
    obtain ⟨K7,g7,o7⟩:=o.putAll 3 (b:=n2) rfl (n:=4) (ds:=[encN t,encN s,v,z]) rfl rfl (by simp [v1',z1]) (rt:=none) rfl
    have r7:=rd_all (o7.at 3 (b:=n2) rfl) (n:=4) (rt:=none) rfl rfl
    simp [e0,e2,e3,e4,s3,hx.isSl,hx.len,← hnn,r3,g7,r7]
    rw [hR]
    refine ⟨o7.keeps,v,z,bo,wo,vs,fr,rfl,?_,by simpa using hv,by rw [hvs]; exact hz,hrows⟩
    have o8 : Own base H K7 (((wo,.arr 36 vs)::(some n3,.arr 25 [encN t,encN s,v,z])::(bo,.arr 4 (A.acc.map encB))::(some n2,.arr 25 [encN t,encN s,v,z])::fr)):=o7
    exact (o8.sub (M:=(wo,.arr 36 vs)::(bo,.arr 4 (A.acc.map encB))::fr) (.cons_cons _ (.cons _ (.cons_cons _ (.cons _ (List.Sublist.refl _)))))).perm (List.Perm.swap _ _ _)
def celS (A : Aut) (n a b c q p j : Nat) : Nat:=if (j < c∨(j = c∧p < q))∧dg j a≠dg j b then n else A.to p j
def rowsS (A : Aut) (n W a b c q : Nat) : List (List Nat):=(List.range n).map fun p => (List.range W).map fun j => celS A n a b c q p j
def sameA (A : Aut) (W a b : Nat) : Aut:=⟨A.acc++[false],rowsS A A.acc.length W a b W 0++[List.replicate W A.acc.length]⟩
theorem rowsS_len (A : Aut) (n W a b c q : Nat) : (rowsS A n W a b c q).length = n:=by simp [rowsS]
theorem rowsS_zero {A : Aut} {W a b : Nat} (hok : A.Ok W) : rowsS A A.acc.length W a b 0 0 = A.nxt:=by
  have hnl : A.nxt.length = A.acc.length:=hok.len
  refine List.ext_getElem (by rw [rowsS_len,hnl]) fun p h1 h2 => ?_
  have hrw:=(hok.row _ (List.getElem_mem h2)).1
  simp only [rowsS,List.getElem_map,List.getElem_range]
  refine List.ext_getElem (by simp [hrw]) fun j h3 h4 => ?_
  simp only [List.getElem_map,List.getElem_range]
  rw [to_get hok h2 h4]
  unfold celS
  rw [if_neg (by omega)]
theorem rowsS_next (A : Aut) (n W a b c : Nat) : rowsS A n W a b c n = rowsS A n W a b (c + 1) 0:=by
  refine List.map_congr_left fun p hp => List.map_congr_left fun j _ => ?_
  have:=List.mem_range.1 hp
  unfold celS
  by_cases h1 : j < c + 1
  · have h2 : j < c∨(j = c∧p < n):=by omega
    simp only [h1,h2,true_or]
  · have h2 : ¬ (j < c∨(j = c∧p < n)):=by omega
    have h3 : ¬ (j < c + 1∨(j = c + 1∧p < 0)):=by omega
    simp only [h2,h3]
theorem rowsS_skip {A : Aut} {n W a b c q : Nat} (hd : dg c a = dg c b) : rowsS A n W a b c (q + 1) = rowsS A n W a b c q:=by
  refine List.map_congr_left fun p hp => List.map_congr_left fun j _ => ?_
  unfold celS
  by_cases hj : j = c
  · subst hj
    rw [if_neg (fun h => h.2 hd),if_neg (fun h => h.2 hd)]
  · have e : (j < c∨(j = c∧p < q + 1))↔(j < c∨(j = c∧p < q)):=by omega
    simp only [e]
theorem rowsS_set {A : Aut} {n W a b c q : Nat} (hd : dg c a≠dg c b) (hq : q < n) : rowsS A n W a b c (q + 1) = (rowsS A n W a b c q).set q (((rowsS A n W a b c q)[q]'(by rw [rowsS_len]; exact hq)).set c n):=by
  refine List.ext_getElem (by simp [rowsS_len]) fun p h1 h2 => ?_
  have hp : p < n:=by rw [rowsS_len] at h1; exact h1
  by_cases hpq : q = p
  · subst hpq
    rw [List.getElem_set_self]
    refine List.ext_getElem (by simp [rowsS]) fun j h3 h4 => ?_
    simp only [rowsS,List.getElem_map,List.getElem_range,List.getElem_set]
    by_cases hj : c = j
    · subst hj
      rw [if_pos rfl]
      unfold celS
      rw [if_pos ⟨.inr ⟨rfl,by omega⟩,hd⟩]
    · rw [if_neg hj]
      unfold celS
      have e : (j < c∨(j = c∧q < q + 1))↔(j < c∨(j = c∧q < q)):=by omega
      simp only [e]
  · rw [List.getElem_set_ne hpq]
    simp only [rowsS,List.getElem_map,List.getElem_range]
    refine List.map_congr_left fun j _ => ?_
    unfold celS
    have e : (j < c∨(j = c∧p < q + 1))↔(j < c∨(j = c∧p < q)):=by omega
    simp only [e]
theorem sameA_to {A : Aut} {W a b p j : Nat} (hp : p < A.acc.length) (hj : j < W) : (sameA A W a b).to p j = if dg j a≠dg j b then A.acc.length else A.to p j:=by
  have e : (sameA A W a b).nxt.getD p [] = (List.range W).map fun j => celS A A.acc.length a b W 0 p j:=by
    rw [List.getD_eq_getElem?_getD]
    unfold sameA
    simp only []
    rw [List.getElem?_append_left (by rw [rowsS_len]; exact hp)]
    simp only [rowsS,List.getElem?_map,List.getElem?_range hp,Option.map_some,Option.getD_some]
  show ((sameA A W a b).nxt.getD p []).getD j 0 = _
  rw [e,getD_map (by simpa using hj)]
  simp only [List.getElem_range]
  unfold celS
  by_cases hd : dg j a = dg j b
  · rw [if_neg (fun h => h.2 hd),if_neg (fun h => h hd)]
  · rw [if_pos ⟨.inl hj,hd⟩,if_pos hd]
theorem sameA_dead {A : Aut} {W a b j : Nat} (hj : j < W) : (sameA A W a b).to A.acc.length j = A.acc.length:=by
  have e : (sameA A W a b).nxt.getD A.acc.length [] = List.replicate W A.acc.length:=by
    rw [List.getD_eq_getElem?_getD]
    unfold sameA
    simp only []
    rw [List.getElem?_append_right (by rw [rowsS_len]; omega),rowsS_len]
    simp
  show ((sameA A W a b).nxt.getD A.acc.length []).getD j 0 = _
  rw [e,List.getD_eq_getElem?_getD]
  simp [hj]
theorem sameA_lang0 {A : Aut} {W a b : Nat} : ∀ cs : List Nat,In W cs→(sameA A W a b).lang A.acc.length cs = false
  | [],_ => by simp [Aut.lang,Aut.run,sameA]
  | c::cs,h => by
    have:=sameA_lang0 (A:=A) (W:=W) (a:=a) (b:=b) cs h.tail
    show (sameA A W a b).lang ((sameA A W a b).to A.acc.length c) cs = false
    rw [sameA_dead h.head,this]
theorem sameA_lang {A : Aut} {W a b : Nat} (hok : A.Ok W) : ∀ (cs : List Nat) (p : Nat),p < A.acc.length→In W cs→(sameA A W a b).lang p cs = (A.lang p cs && diag a b cs)
  | [],p,hp,_ => by simp [Aut.lang,Aut.run,sameA,diag,List.getElem?_append_left hp]
  | c::cs,p,hp,h => by
    show (sameA A W a b).lang ((sameA A W a b).to p c) cs = _
    rw [sameA_to hp h.head]
    by_cases hd : dg c a = dg c b
    · rw [if_neg (fun h => h hd),sameA_lang hok cs _ (hok.to hp h.head) h.tail]
      simp [diag,hd,Aut.lang,Aut.run]
    · rw [if_pos hd,sameA_lang0 cs h.tail]
      simp [diag,hd]
theorem sameA_ok {A : Aut} {W a b : Nat} (hok : A.Ok W) : (sameA A W a b).Ok W:=by
  refine ⟨by simp [sameA,rowsS_len],by simp [sameA],fun r hr => ?_⟩
  have hl : (sameA A W a b).acc.length = A.acc.length + 1:=by simp [sameA]
  rw [hl]
  unfold sameA at hr
  simp only [] at hr
  rcases List.mem_append.1 hr with hr | hr
  · unfold rowsS at hr
    obtain ⟨p,hp,rfl⟩:=List.mem_map.1 hr
    have hp:=List.mem_range.1 hp
    refine ⟨by simp,fun x hx => ?_⟩
    obtain ⟨j,hj,rfl⟩:=List.mem_map.1 hx
    have hj:=List.mem_range.1 hj
    unfold celS
    split
    · omega
    · have:=hok.to hp hj; omega
  · rw [List.mem_singleton.1 hr]
    refine ⟨by simp,fun x hx => ?_⟩
    rw [List.eq_of_mem_replicate hx]
    omega
theorem s_one (T s tape rb : Nat) (ht1 : 1≤T) (ht : T≤3) (htape : tape + 1≤T) (A : Aut) (H : BH) (hA : RdP H rb T s A) (hok : A.Ok (wd T)) (hs : s < A.acc.length) (hn : A.acc.length≤150) :
    Runs (gam base) 178 [.ptr rb 0,encN tape] H (encN 0) H:=by
  obtain ⟨u,x,hr,hu,hx⟩:=id hA
  have r0:=rd_ptr hr (rt:=none) (j:=0) (c:=encN T) rfl rfl
  have c1:=s_ok (base:=base) rb T s _ _ _ hA.raw (by omega)
  rw [ok_valid ht1 ht hok hs hn] at c1
  have wT : IntKind.i64.wrap ((T : Int) - 1) = (T : Int) - 1:=w64 (by omega) (by omega)
  refine runs_of (fn:=ir178) rfl ?_
  simp [ir178]
  refine callP c1 ?_
  simp [r0,wT]
  refine callP (s_in tape 0 ((T : Int) - 1) H) ?_
  have hin : inB tape 0 ((T : Int) - 1) = true:=by simp [inB]; omega
  rw [hin]
  simp
theorem s_SameOn (t s a b : Nat) (ht1 : 1≤t) (ht : t≤3) (ha : a < t) (hb : b < t) (hab : a≠b) (A : Aut) (m : BV) (H : BH) (hA : RdRel H t s A m) (hok : A.Ok (wd t)) (hs : s < A.acc.length) (hn : A.acc.length≤150) :
    FnDoes (gam base) 119 [m,encN a,encN b] H fun v K => RelR base H t (sameN t a b (A.lang s)) v K:=by
  obtain ⟨R,hR⟩ : ∃ R : BV→BH→Prop,R = fun v K => RelR base H t (sameN t a b (A.lang s)) v K:=⟨_,rfl⟩
  rw [← hR]
  refine FnDoes.of (fn:=ir119) rfl ?_
  have g1:=hA
  obtain ⟨u,x,rfl,hu,hx⟩:=hA
  have u1:=hu.one
  have x1:=one_of_isSl hx.isSl
  have hw3:=wd_3 ht
  have hw0 : 0 < wd t:=by
    have h1:=wd_p3 t
    have h2 : p3 1≤p3 t:=p3_le ht1
    have h3 : p3 1 = 3:=rfl
    omega
  simp [ir119,u1,x1]
  intro n3 b3 f3
  simp [make_of f3 b3]
  intro n6 b6 f6
  have o1:=Own.start (base:=base) (H:=H) |>.new f3 b3 (s:=.arr 25 [encN t,encN s,u,x]) |>.new f6 b6 (s:=.arr 25 [.int .i64 0,.int .i64 0,.nils,.nils])
  obtain ⟨H1,hH1⟩ : ∃ H1,H1 = (H.set n3 (.arr 25 [encN t,encN s,u,x])).set n6 (.arr 25 [.int .i64 0,.int .i64 0,.nils,.nils]):=⟨_,rfl⟩
  simp [make_of f6 b6]
  rw [← hH1] at o1 ⊢
  have pA : RdP H1 n3 t s A:=RdRel.at g1 o1.keeps (o1.at 1 (b:=n3) rfl)
  have p0:=rd_ptr (o1.at 1 (b:=n3) rfl) (rt:=none) (j:=0) (c:=encN t) rfl rfl
  have p2:=rd_ptr (o1.at 1 (b:=n3) rfl) (rt:=none) (j:=2) (c:=u) rfl rfl
  have wT : IntKind.i64.wrap ((t : Int) - 1) = (t : Int) - 1:=w64 (by omega) (by omega)
  have hin : inB b 0 ((t : Int) - 1) = true:=by simp [inB]; omega
  have hab' : ¬ (a : Int) = (b : Int):=by omega
  refine callP (s_one (base:=base) t s a n3 ht1 ht (by omega) A H1 pA hok hs hn) ?_
  simp [p0,wT]
  refine callP (s_in b 0 ((t : Int) - 1) H1) ?_
  rw [hin]
  simp [hab,hab']
  refine (s_copy (base:=base) t s n3 (wd t) A H1 pA hok hw0 hw3 (by omega)).step fun v K1 k1 hv => ?_
  obtain ⟨uc,xc,bo,wo,vs,fr,em,oc,huc,hxc,hrows⟩:=hv
  subst em
  have uc1:=huc.one
  have xc1:=hxc.one
  simp [uc1,xc1]
  intro n9 b9 f9
  obtain ⟨K2,g2,o2⟩:=(oc.new f9 b9 (s:=.arr 25 [.int .i64 0,.int .i64 0,.nils,.nils])).putAll 0 (b:=n9) rfl (n:=4) (ds:=[encN t,encN s,uc,xc]) rfl rfl (by simp [uc1,xc1]) (rt:=none) rfl
  obtain ⟨n,hnn⟩ : ∃ n,n = A.acc.length:=⟨_,rfl⟩
  have o2 : Own base H1 K2 ((some n9,.arr 25 [encN t,encN s,uc,xc])::(bo,.arr 4 (A.acc.map encB))::(wo,.arr 36 vs)::fr):=o2
  have c2:=rd_ptr (o2.at 0 (b:=n9) rfl) (rt:=none) (j:=2) (c:=uc) rfl rfl
  have hub : Rd K2 4 uc (A.acc.map encB):=o2.rd 1 rfl (by simpa using huc)
  simp [make_of f9 b9,g2,c2,hub.isSl,hub.lenM,← hnn]
  intro n39 b39 f39
  have o3:=o2.new f39 b39 (s:=.arr 2 [])
  simp [make_of f39 b39]
  obtain ⟨W,hW⟩ : ∃ W,W = wd t:=⟨_,rfl⟩
  rw [← hW] at hok hw0 hw3
  have hnl : A.nxt.length = n:=by rw [hok.len,hnn]
  have hvl:=hrows.len
  rw [List.length_map,hnl] at hvl
  obtain ⟨I,hI⟩ : ∃ I : Nat→Env→BH→Prop,I = (fun c e K => e 12 = encN c∧∃ y yo fr,e 11 = y∧Own base H1 K ((yo,.arr 2 ((List.replicate c n).map encN))::(some n9,.arr 25 [encN t,encN s,uc,xc])::(bo,.arr 4 (A.acc.map encB))::(wo,.arr 36 vs)::fr)∧Vec yo y c∧RowsOf 2 vs fr ((rowsS A n W a b c 0).map (·.map encN))):=⟨_,rfl⟩
  refine wpC_countK W [(1,encN a),(2,encN b),(3,.ptr n3 0),(6,.ptr n6 0),(9,.ptr n9 0),(10,encN n)] I (i0:=0) ?_ ?_ ?_ (Nat.zero_le _) ?_
  · rfl
  · simp
  · rw [hI]
    refine ⟨by simp,.sl n39 0 0,some n39,fr,by simp,o3,rfl,?_⟩
    rw [hnn,rowsS_zero hok]
    exact hrows
  clear oc o2 o3 c2 hub g2
  rintro c e K hcW ⟨e1,e2,e3,e6,e9,e10,-⟩ hh
  rw [hI] at hh
  obtain ⟨e12,y,yo,fr',e11,oL,hy,hrs⟩:=hh
  simp only [] at e1 e2 e3 e6 e9 e10
  have wc:=wS (n:=c) (by omega)
  have s0:=rd_keeps oL.keeps p0
  have hwide:=s_wide (base:=base) t K (by omega)
  rw [← hW] at hwide
  simp [e3,e12,s0]
  refine callP hwide ?_
  by_cases hlc : c < W
  · simp [hlc,e10,e11]
    intro n70 b70 f70
    simp [make_of f70 b70]
    intro n71 b71 f71
    have hyl : Vec yo y ((List.replicate c n).map encN).length:=by simpa using hy
    obtain ⟨y',M',yo',q1,q2,q3⟩:=oL.push 0 rfl hyl (x:=encN n) (bytes:=8) rfl (by simp; omega) (by simp; omega) f70 b70 f71 b71
    simp [q1]
    have q2 : Own base H1 M' ((some yo',.arr 2 ((List.replicate (c + 1) n).map encN))::(some n9,.arr 25 [encN t,encN s,uc,xc])::(bo,.arr 4 (A.acc.map encB))::(wo,.arr 36 vs)::fr'):=by
      rw [List.replicate_succ',List.map_append]
      exact q2
    obtain ⟨J,hJ⟩ : ∃ J : Nat→Env→BH→Prop,J = (fun q e K => e 13 = encN q∧∃ fr,Own base H1 K ((some yo',.arr 2 ((List.replicate (c + 1) n).map encN))::(some n9,.arr 25 [encN t,encN s,uc,xc])::(bo,.arr 4 (A.acc.map encB))::(wo,.arr 36 vs)::fr)∧RowsOf 2 vs fr ((rowsS A n W a b c q).map (·.map encN))):=⟨_,rfl⟩
    refine wpC_countK n [(1,encN a),(2,encN b),(3,.ptr n3 0),(6,.ptr n6 0),(9,.ptr n9 0),(10,encN n),(11,y'),(12,encN c)] J (i0:=0) ?_ ?_ ?_ (Nat.zero_le _) ?_
    · rfl
    · simp [e1,e2,e3,e6,e9,e10,e12]
    · rw [hJ]
      exact ⟨by simp,fr',q2,hrs⟩
    clear e1 e2 e3 e6 e9 e10 e11 e12 s0 q1
    rintro q e L hqn ⟨e1,e2,e3,e6,e9,e10,e11,e12,-⟩ hh
    rw [hJ] at hh
    obtain ⟨e13,fr2,oM,hrs2⟩:=hh
    simp only [] at e1 e2 e3 e6 e9 e10 e11 e12
    have wq:=wS (n:=q) (by omega)
    have s2:=rd_keeps oM.keeps p2
    have huk:=hu.keeps (o1.keeps.trans oM.keeps)
    by_cases hlq : q < n
    · simp [e3,e13,s2,huk.isSl,huk.lenM,← hnn,hlq,e12,e1]
      refine callP (s_digit (base:=base) c a L (by omega) (by omega)) ?_
      simp [e12,e2]
      refine callP (s_digit (base:=base) c b L (by omega) (by omega)) ?_
      by_cases hd : dg c a = dg c b
      · have hdb : ((dg c a : Nat) : Int) = ((dg c b : Nat) : Int):=by rw [hd]
        simp [hd,e13,wq,hlq]
        rw [hJ]
        refine ⟨by simp,fr2,oM,?_⟩
        rw [rowsS_skip hd]
        exact hrs2
      · have hdb : ¬ ((dg c a : Nat) : Int) = ((dg c b : Nat) : Int):=by omega
        have hqr : q < (rowsS A n W a b c q).length:=by rw [rowsS_len]; exact hlq
        have hqv : q < vs.length:=by omega
        have hxq : ((rowsS A n W a b c q).map (·.map encN))[q]? = some (((rowsS A n W a b c q)[q]).map encN):=by rw [List.getElem?_map,List.getElem?_eq_getElem hqr]; rfl
        obtain ⟨uo,hfr,huv⟩:=hrs2.get (List.getElem?_eq_getElem hqv) hxq
        have hrl : (((rowsS A n W a b c q)[q]).map encN).length = W:=by simp [rowsS]
        have p3:=rd_ptr (oM.at 1 (b:=n9) rfl) (rt:=none) (j:=3) (c:=xc) rfl rfl
        have hvec : Rd L 36 xc vs:=oM.rd 3 rfl hxc
        have g1:=hvec.get (i:=q) hqv (rt:=none) rfl
        have hrow : Rd L 2 vs[q] (((rowsS A n W a b c q)[q]).map encN):=oM.rd (q + 4) (by simpa using hfr) huv
        have hrl2 : vs[q].slen = W:=by rw [hrow.len,hrl]
        obtain ⟨K',w1,o'⟩:=oM.wr (q + 4) (by simpa using hfr) huv (j:=c) (by rw [hrl]; exact hlc) (u:=encN n) rfl (rt:=none) rfl
        simp [hd,hdb,e9,p3,e13,hvec.isSl,hvec.len,hqv,g1,e12,e10,hrow.isSl,hrl2,hlc,w1,wq,hlq]
        rw [hJ]
        refine ⟨by simp,fr2.set q (uo,.arr 2 ((((rowsS A n W a b c q)[q]).map encN).set c (encN n))),o',?_⟩
        rw [rowsS_set hd hlq,List.map_set,List.map_set]
        exact RowsOf.upd (by simp) hrs2 hfr
    · have hqe : q = n:=by omega
      subst hqe
      simp [e3,e13,s2,huk.isSl,huk.lenM,← hnn,e12,wc,hlc]
      rw [hI]
      refine ⟨by simp,y',some yo',fr2,by simp [e11],oM,by simpa using q3,?_⟩
      rw [← rowsS_next]
      exact hrs2
  · have hce : c = W:=by omega
    subst hce
    have c2:=rd_ptr (oL.at 1 (b:=n9) rfl) (rt:=none) (j:=2) (c:=uc) rfl rfl
    simp [e9,c2]
    intro n75 b75 f75
    simp [make_of f75 b75]
    intro n76 b76 f76
    obtain ⟨ud,M1,bo',q1,o4,q3⟩:=oL.push 2 rfl (v:=uc) (by simpa using huc) (x:=.bool false) (bytes:=1) rfl (by simp; omega) (by simp; omega) f75 b75 f76 b76
    have ud1:=q3.one
    obtain ⟨M2,w2,o5⟩:=o4.put 1 (b:=n9) rfl (j:=2) (u:=ud) (by simp) ud1 (rt:=none) rfl
    have c3:=rd_ptr (o5.at 1 (b:=n9) rfl) (rt:=none) (j:=3) (c:=xc) rfl rfl
    have y1:=hy.one
    simp [q1,w2,e9,c3,e11,y1,cells_one y1]
    intro n81 b81 f81
    simp [make_of f81 b81]
    intro n82 b82 f82
    obtain ⟨xd,M3,wo',q4,o6,q6⟩:=o5.push 3 rfl (v:=xc) hxc (x:=y) (bytes:=24) y1 (by omega) (by omega) f81 b81 f82 b82
    have xd1:=q6.one
    obtain ⟨M4,w4,o7⟩:=o6.put 1 (b:=n9) rfl (j:=3) (u:=xd) (by simp) xd1 (rt:=none) rfl
    have o7 : Own base H1 M4 ((yo,.arr 2 ((List.replicate c n).map encN))::([(some n9,.arr 25 [encN t,encN s,ud,xd]),(some bo',.arr 4 (A.acc.map encB++[.bool false])),(some wo',.arr 36 (vs++[y]))]++fr')):=o7
    have o8:=o7.last
    have hrs3:=hrs.snoc (show Vec yo y ((List.replicate c n).map encN).length from by simpa using hy)
    have hP : RdP M4 n9 t s (sameA A c a b):=by
      have eacc : (sameA A c a b).acc.map encB = A.acc.map encB++[.bool false]:=by simp [sameA]
      refine ⟨ud,xd,o8.at 0 rfl,by rw [eacc]; exact o8.rd 1 rfl (by simpa using q3),?_⟩
      have en : (sameA A c a b).nxt = rowsS A n c a b c 0++[List.replicate c n]:=by rw [hnn]; rfl
      rw [en]
      exact RowsOf.rdR (bo:=bo) (F:=[(some n9,.arr 25 [encN t,encN s,ud,xd]),(some bo',.arr 4 (A.acc.map encB++[.bool false])),(some wo',.arr 36 (vs++[y]))]) o8 (by rw [List.map_append]; exact hrs3) (o8.rd 2 rfl (by simpa using q6))
    have hok2 : (sameA A c a b).Ok (wd t):=by rw [← hW]; exact sameA_ok hok
    have hl2 : (sameA A c a b).acc.length = n + 1:=by simp [sameA,hnn]
    have hs2 : s < (sameA A c a b).acc.length:=by omega
    have et : TA t ((sameA A c a b).lang s) = TA t (fun cs => A.lang s cs && diag a b cs):=TA_congr fun cs hc _ => sameA_lang hok cs s hs (by rw [hW]; exact hc)
    have hlen:=(TA_spec ht hok2 hs2).2
    rw [et] at hlen
    simp [q4,w4,e9]
    refine (s_tidied (base:=base) t s n9 ht (sameA A c a b) M4 hP hok2 hs2 (by omega)).step fun v K5 k5 hv => ?_
    rw [et] at hv
    simp
    refine (s_toldR (base:=base) t _ v M4 K5 hv (by omega)).step fun r K6 k6 hr => ?_
    have hr : RelR base M4 t (sameN t a b (A.lang s)) r K6:=hr
    obtain ⟨m8,K9,rfl,g8,r8,kk,hrel⟩:=rel_end (base:=base) (o1.call o8.keeps) (i:=0) (n2:=n6) rfl rfl (k5.trans k6) hr
    simp [e6,g8,r8]
    rw [hR]
    exact ⟨kk,hrel⟩
theorem s_shift (l : Nat) (hl : l = 1000) (s rb : Nat) (by_ : Int) (hby : -1000≤by_∧by_≤1000) (A : Aut) (H : BH) (hA : RdP H rb 1 s A) (hok : A.Ok (wd 1)) (hs : s < A.acc.length) (hn : A.acc.length≤150) :
    FnDoes (gam base) 74 [.ptr rb 0,encI by_] H fun v K => RelR base H 1 (shiftN l by_ (A.lang s)) v K:=by
  obtain ⟨R,hR⟩ : ∃ R : BV→BH→Prop,R = fun v K => RelR base H 1 (shiftN l by_ (A.lang s)) v K:=⟨_,rfl⟩
  rw [← hR]
  refine FnDoes.of (fn:=ir74) rfl ?_
  obtain ⟨u,x,hrow,hu,hx⟩:=id hA
  have u1:=hu.one
  have x1:=one_of_isSl hx.isSl
  have hc : -1000≤-by_∧-by_≤1000:=by omega
  have wn : IntKind.i64.wrap (-by_) = -by_:=w64 (by omega) (by omega)
  simp [ir74]
  intro n4 b4 f4
  have o1:=Own.start (base:=base) (H:=H) |>.new f4 b4 (s:=.arr 25 [.int .i64 0,.int .i64 0,.nils,.nils])
  obtain ⟨H1,hH1⟩ : ∃ H1,H1 = H.set n4 (.arr 25 [.int .i64 0,.int .i64 0,.nils,.nils]):=⟨_,rfl⟩
  simp [make_of f4 b4]
  rw [← hH1] at o1 ⊢
  have hrow1 : H1.row rb = .arr 25 [encN 1,encN s,u,x]:=by rw [o1.keeps rb (by rw [hrow]; simp),hrow]
  have r2:=rd_all hrow1 (n:=4) (rt:=none) rfl rfl
  have hrel : RdRel H1 1 s A (.agg [encN 1,encN s,u,x]):=⟨u,x,rfl,hu.keeps o1.keeps,hx.keeps o1.keeps⟩
  simp [r2]
  have gA:=addN_goodC (t:=1) (at_:=1) (by decide) hok hs
  refine (s_AddTape (base:=base) 1 s 1 (by decide) (by decide) (by decide) A _ _ hrel hok hs hn).step fun r0 L0 l0 hr0 => ?_
  have hr0 : RelR base _ 2 (addN 1 1 (A.lang s)) r0 L0:=hr0
  have ga1:=sameR_good hok hs
  have hsz:=fun S c h => same_add (S:=S) (c:=c) hok hs h
  unfold shiftN at hR
  unfold sameR at hR ga1 hsz
  obtain ⟨G0,hG0⟩ : ∃ G,G = addN 1 1 (A.lang s):=⟨_,rfl⟩
  rw [← hG0] at hr0 gA ga1 hsz hR
  refine rel_step (d:=14) (a:=19) (b:=20) (x:=6) (y:=7) (p:=21) (q:=22) (z:=23) (w:=24) (r4:=4) (r5:=5) (t:=2) o1 (i:=0) (n4:=n4) rfl rfl l0 hr0 gA [(1,encI by_)] ?_ ?_ (by simp) (by decide) (fun _ _ h => h) (fun e0 m0 M0 B ms0 eG0 hh oN0 kk0 hb0 gg0 => ?_) (fun e K2 c eG hh r4 kk => ?_)
  · simp [Has]
  · simp
  rotate_left
  · rw [eG] at hR
    obtain ⟨e5,e4,-⟩:=hh
    simp [e4,e5,r4]
    rw [hR]
    exact ⟨kk,rfl⟩
  obtain ⟨e06,-,e04,e01,-⟩:=hh
  simp only [] at e06 e04 e01
  rw [eG0] at hR ga1 hsz gA
  have hR : R = fun v K => RelR base H 1 (thenN (fun S => thenN (fun W => thenN (fun C => someN l 1 0 (TA 2 (C.lang 0))) (compN l (S.lang 0) (W.lang 0))) (wayN (-by_))) (sameN 2 0 1 (B.lang 0))) v K:=hR
  have ga1 : GoodC 2 (sameN 2 0 1 (B.lang 0)):=ga1
  have hsz : ∀ (S : Aut) (c : Nat),sameN 2 0 1 (B.lang 0) = (some S,c)→(TA 3 (addL 2 2 (S.lang 0))).acc.length≤150:=hsz
  have o3:=o1.call (l0.trans kk0)
  simp [e06,gg0]
  refine (s_SameOn (base:=base) 2 0 0 1 (by decide) (by decide) (by decide) (by decide) (by decide) B _ _ hb0.rd gA.2.1 gA.2.1.pos gA.2.2).step fun r1 L1 l1 hr1 => ?_
  obtain ⟨G1,hG1⟩ : ∃ G,G = sameN 2 0 1 (B.lang 0):=⟨_,rfl⟩
  rw [← hG1] at hr1 ga1 hsz hR
  refine rel_step (d:=25) (a:=28) (b:=29) (x:=8) (y:=9) (p:=30) (q:=31) (z:=32) (w:=33) (r4:=4) (r5:=5) (t:=2) o3 (i:=0) (n4:=n4) rfl rfl l1 hr1 ga1 [(1,encI by_)] ?_ ?_ (by simp) (by decide) (fun _ _ h => h) (fun e1 m1 M1 S ms1 eG hh oN1 kk1 hb1 gg1 => ?_) (fun e K2 c eG hh r4 kk => ?_)
  · simp [Has,e04,e01]
  · simp
  rotate_left
  · rw [eG] at hR
    obtain ⟨e5,e4,-⟩:=hh
    simp [e4,e5,r4]
    rw [hR]
    exact ⟨kk,rfl⟩
  obtain ⟨e16,-,e14,e11,-⟩:=hh
  simp only [] at e16 e14 e11
  rw [eG] at hR ga1
  have hsz:=hsz S 0 eG
  have o4:=o3.call (l1.trans kk1)
  simp [e11,wn]
  intro n21 b21 f21
  have o5:=(Own.start (base:=base) (H:=M1)).new f21 b21 (s:=.arr 2 [.int .i64 1,.int .i64 (-1)])
  have hv : Rd _ 2 (.sl n21 0 2) (([1,-1] : List Int).map encI):=o5.rd 0 rfl rfl
  simp [make_of f21 b21,e11,wn]
  have hU:=way_lin hc
  have hUb : ∀ v∈(oddI::leftV (-by_)),-1100000000000≤v∧v≤1100000000000:=fun v hv => by
    rcases List.mem_cons.1 hv with rfl | hv
    · unfold oddI; omega
    · have:=leftV_big hc hv; omega
  refine (s_LinearRelation (base:=base) 1 (.inl rfl) [1,-1] way_terms (by decide) (-by_) (by omega) (oddI::leftV (-by_)) hU (show 2 ^ 2 * ((leftV (-by_)).length + 1) + 1≤150 by rw [leftV_len]; decide) hUb (.sl n21 0 2) _ hv).step fun r2' L2 l2 hr2 => ?_
  have ga2 : GoodC 2 (wayN (-by_)):=linN_good (terms:=[1,-1]) (by decide) hU
  have hr2 : RelR base _ 2 (wayN (-by_)) r2' L2:=hr2
  have hwy:=fun W c hok h => way_add (W:=W) (d:=c) hc hok h
  have hR : R = fun v K => RelR base H 1 (thenN (fun W => thenN (fun C => someN l 1 0 (TA 2 (C.lang 0))) (compN l (S.lang 0) (W.lang 0))) (wayN (-by_))) v K:=hR
  have hwy : ∀ (W : Aut) (c : Nat),W.Ok (wd 2)→wayN (-by_) = (some W,c)→(TA 3 (addL 2 0 (W.lang 0))).acc.length≤150:=hwy
  obtain ⟨G2,hG2⟩ : ∃ G,G = wayN (-by_):=⟨_,rfl⟩
  rw [← hG2] at hr2 ga2 hwy hR
  have o6:=o4.call o5.keeps
  refine rel_step (d:=34) (a:=39) (b:=40) (x:=10) (y:=11) (p:=41) (q:=42) (z:=43) (w:=44) (r4:=4) (r5:=5) (t:=2) o6 (i:=0) (n4:=n4) rfl rfl l2 hr2 ga2 [(8,.ptr m1 0)] ?_ ?_ (by simp) (by decide) (fun _ _ h => h) (fun e2 m2 M2 W ms2 eG2 hh oN2 kk2 hb2 gg2 => ?_) (fun e K2 c eG hh r4 kk => ?_)
  · simp [Has,e14,e16]
  · simp
  rotate_left
  · rw [eG] at hR
    obtain ⟨e5,e4,-⟩:=hh
    simp [e4,e5,r4]
    rw [hR]
    exact ⟨kk,rfl⟩
  obtain ⟨e28,-,e24,e26,-⟩:=hh
  simp only [] at e28 e24 e26
  rw [eG2] at hR ga2
  have hwy:=hwy W 0 ga2.2.1 eG2
  have kS:=o5.keeps.trans (l2.trans kk2)
  have gg1':=rd_keeps kS gg1
  have o7:=o6.call (l2.trans kk2)
  simp [e28,e26,gg1',gg2]
  refine (s_Compose (base:=base) l hl 0 0 S W _ _ _ (hb1.rd.keeps kS) hb2.rd ga1.2.1 ga2.2.1 ga1.2.1.pos ga2.2.1.pos ga1.2.2 ga2.2.2 hsz hwy).step fun r3 L3 l3 hr3 => ?_
  have hR : R = fun v K => RelR base H 1 (thenN (fun C => someN l 1 0 (TA 2 (C.lang 0))) (compN l (S.lang 0) (W.lang 0))) v K:=hR
  have ga3 : GoodC 2 (compN l (S.lang 0) (W.lang 0)):=comp_good ga1.2.1 ga2.2.1 ga1.2.1.pos ga2.2.1.pos
  obtain ⟨G3,hG3⟩ : ∃ G,G = compN l (S.lang 0) (W.lang 0):=⟨_,rfl⟩
  rw [← hG3] at hr3 ga3 hR
  refine rel_step (d:=45) (a:=49) (b:=50) (x:=12) (y:=13) (p:=51) (q:=52) (z:=53) (w:=54) (r4:=4) (r5:=5) (t:=2) o7 (i:=0) (n4:=n4) rfl rfl l3 hr3 ga3 [] ?_ ?_ (by simp) (by decide) (fun _ _ h => h) (fun e3 m3 M3 C ms3 eG3 hh oN3 kk3 hb3 gg3 => ?_) (fun e K2 c eG hh r4 kk => ?_)
  · simp [Has,e24]
  · simp
  rotate_left
  · rw [eG] at hR
    obtain ⟨e5,e4,-⟩:=hh
    simp [e4,e5,r4]
    rw [hR]
    exact ⟨kk,rfl⟩
  obtain ⟨e39,-,e34,-⟩:=hh
  simp only [] at e39 e34
  rw [eG3] at hR ga3
  have hR : R = fun v K => RelR base H 1 (someN l 1 0 (TA 2 (C.lang 0))) v K:=hR
  have o8:=o7.call (l3.trans kk3)
  simp [e39,gg3]
  refine (s_SomeOn (base:=base) l hl 1 0 0 (by decide) (by decide) (by decide) C _ _ hb3.rd ga3.2.1 ga3.2.1.pos ga3.2.2).step fun r8 L8 l8 hr8 => ?_
  obtain ⟨m8,K8',rfl,g8,r8x,kk8,hrel8⟩:=rel_end (base:=base) o8 (i:=0) (n2:=n4) rfl rfl l8 hr8
  simp [e34,g8,r8x]
  rw [hR]
  exact ⟨kk8,hrel8⟩
noncomputable def langS (r : Raw4) : List Nat→Bool:=(autR r).lang r.2.1.toNat
theorem shiftN_good {l : Nat} {by_ : Int} (hby : -1000≤by_∧by_≤1000) {A : Aut} {s : Nat} (hA : A.Ok (wd 1)) (hs : s < A.acc.length) : GoodC 1 (shiftN l by_ (A.lang s)) :=
  thenN_good (t':=2) (sameR_good hA hs) fun S hS _ => thenN_good (t':=2) (linN_good (terms:=[1,-1]) (by decide) (way_lin (by omega))) fun W hW _ => thenN_good (t':=2) (comp_good hS hW hS.pos hW.pos) fun C _ _ => someN_good (s:=0) (by decide)
theorem i_either1 (H : BH) : Op2 base H 189 [] (fun a b => a || b):=by
  intro K hK a b
  refine FnDoes.of (fn:=ir189) rfl ?_
  cases a <;> simp [ir189] <;> exact BH.Keeps.refl K
theorem i_either (t s1 s2 : Nat) (ht1 : 1≤t) (ht : t≤3) (A B : Aut) (m1 m2 : BV) (H : BH) (hA : RdRel H t s1 A m1) (hB : RdRel H t s2 B m2) (hokA : A.Ok (wd t)) (hokB : B.Ok (wd t)) (hs1 : s1 < A.acc.length) (hs2 : s2 < B.acc.length) (hna : A.acc.length≤150) (hnb : B.acc.length≤150) :
    FnDoes (gam base) 136 [m1,m2] H fun v K => RelR base H t (joinN t (fun a b => a || b) (A.lang s1) (B.lang s2)) v K:=by
  obtain ⟨R,hR⟩ : ∃ R : BV→BH→Prop,R = fun v K => RelR base H t (joinN t (fun a b => a || b) (A.lang s1) (B.lang s2)) v K:=⟨_,rfl⟩
  rw [← hR]
  refine FnDoes.of (fn:=ir136) rfl ?_
  have g1:=hA
  have g2:=hB
  obtain ⟨u,x,rfl,hu,hx⟩:=hA
  obtain ⟨u',x',rfl,hu',hx'⟩:=hB
  have u1:=hu.one
  have x1:=one_of_isSl hx.isSl
  have u1':=hu'.one
  have x1':=one_of_isSl hx'.isSl
  simp [ir136,u1,x1,u1',x1']
  intro n2 b2 f2
  simp [make_of f2 b2,u1',x1']
  intro n3 b3 f3
  simp [make_of f3 b3]
  intro n4 b4 f4
  have o1:=Own.start (base:=base) (H:=H) |>.new f2 b2 (s:=.arr 25 [encN t,encN s1,u,x]) |>.new f3 b3 (s:=.arr 25 [encN t,encN s2,u',x']) |>.new f4 b4 (s:=.arr 25 [.int .i64 0,.int .i64 0,.nils,.nils])
  have r0:=rd_all (o1.at 2 (b:=n2) rfl) (n:=4) (rt:=none) rfl rfl
  have r1:=rd_all (o1.at 1 (b:=n3) rfl) (n:=4) (rt:=none) rfl rfl
  simp [make_of f4 b4,r0,r1]
  refine (i_joined (base:=base) t s1 s2 ht1 ht A B _ _ _ _ i_either1 _ (g1.keeps o1.keeps) (g2.keeps o1.keeps) hokA hokB hs1 hs2 hna hnb).step fun v K2 k2 hv => ?_
  obtain ⟨m,K8,rfl,g8,r8,kk,hrel⟩:=rel_end (base:=base) o1 (i:=0) (n2:=n4) rfl rfl k2 hv
  simp [g8,r8]
  rw [hR]
  exact ⟨kk,hrel⟩
theorem s_either (t s1 s2 : Nat) (ht1 : 1≤t) (ht : t≤3) (A B : Aut) (m1 m2 : BV) (H : BH) (hA : RdRel H t s1 A m1) (hB : RdRel H t s2 B m2) (hokA : A.Ok (wd t)) (hokB : B.Ok (wd t)) (hs1 : s1 < A.acc.length) (hs2 : s2 < B.acc.length) (hna : A.acc.length≤150) (hnb : B.acc.length≤150) :
    FnDoes (gam base) 133 [m1,m2] H fun v K => RelR base H t (joinN t (fun a b => a || b) (A.lang s1) (B.lang s2)) v K:=by
  obtain ⟨R,hR⟩ : ∃ R : BV→BH→Prop,R = fun v K => RelR base H t (joinN t (fun a b => a || b) (A.lang s1) (B.lang s2)) v K:=⟨_,rfl⟩
  rw [← hR]
  refine FnDoes.of (fn:=ir133) rfl ?_
  have g1:=hA
  have g2:=hB
  obtain ⟨u,x,rfl,hu,hx⟩:=hA
  obtain ⟨u',x',rfl,hu',hx'⟩:=hB
  have u1:=hu.one
  have x1:=one_of_isSl hx.isSl
  have u1':=hu'.one
  have x1':=one_of_isSl hx'.isSl
  simp [ir133,u1,x1,u1',x1']
  intro n2 b2 f2
  simp [make_of f2 b2,u1',x1']
  intro n3 b3 f3
  simp [make_of f3 b3]
  intro n4 b4 f4
  have o1:=Own.start (base:=base) (H:=H) |>.new f2 b2 (s:=.arr 25 [encN t,encN s1,u,x]) |>.new f3 b3 (s:=.arr 25 [encN t,encN s2,u',x']) |>.new f4 b4 (s:=.arr 25 [.int .i64 0,.int .i64 0,.nils,.nils])
  have p1 : RdP _ n2 t s1 A:=g1.at o1.keeps (o1.at 2 (b:=n2) rfl)
  have p2 : RdP _ n3 t s2 B:=g2.at o1.keeps (o1.at 1 (b:=n3) rfl)
  simp [make_of f4 b4]
  refine (s_asked (base:=base) t s1 s2 2 n2 n3 ht1 ht A B _ p1 p2 hokA hokB hs1 hs2 hna hnb).step fun v K2 k2 hv => ?_
  rw [opW_2] at hv
  obtain ⟨m,K8,rfl,g8,r8,kk,hrel⟩:=rel_end (base:=base) o1 (i:=0) (n2:=n4) rfl rfl k2 hv
  simp [g8,r8]
  rw [hR]
  exact ⟨kk,hrel⟩
theorem i_without1 (H : BH) : Op2 base H 191 [] (fun a b => a && !b):=by
  intro K hK a b
  refine FnDoes.of (fn:=ir191) rfl ?_
  cases a <;> simp [ir191] <;> exact BH.Keeps.refl K
theorem i_without (t s1 s2 : Nat) (ht1 : 1≤t) (ht : t≤3) (A B : Aut) (m1 m2 : BV) (H : BH) (hA : RdRel H t s1 A m1) (hB : RdRel H t s2 B m2) (hokA : A.Ok (wd t)) (hokB : B.Ok (wd t)) (hs1 : s1 < A.acc.length) (hs2 : s2 < B.acc.length) (hna : A.acc.length≤150) (hnb : B.acc.length≤150) :
    FnDoes (gam base) 138 [m1,m2] H fun v K => RelR base H t (joinN t (fun a b => a && !b) (A.lang s1) (B.lang s2)) v K:=by
  obtain ⟨R,hR⟩ : ∃ R : BV→BH→Prop,R = fun v K => RelR base H t (joinN t (fun a b => a && !b) (A.lang s1) (B.lang s2)) v K:=⟨_,rfl⟩
  rw [← hR]
  refine FnDoes.of (fn:=ir138) rfl ?_
  have g1:=hA
  have g2:=hB
  obtain ⟨u,x,rfl,hu,hx⟩:=hA
  obtain ⟨u',x',rfl,hu',hx'⟩:=hB
  have u1:=hu.one
  have x1:=one_of_isSl hx.isSl
  have u1':=hu'.one
  have x1':=one_of_isSl hx'.isSl
  simp [ir138,u1,x1,u1',x1']
  intro n2 b2 f2
  simp [make_of f2 b2,u1',x1']
  intro n3 b3 f3
  simp [make_of f3 b3]
  intro n4 b4 f4
  have o1:=Own.start (base:=base) (H:=H) |>.new f2 b2 (s:=.arr 25 [encN t,encN s1,u,x]) |>.new f3 b3 (s:=.arr 25 [encN t,encN s2,u',x']) |>.new f4 b4 (s:=.arr 25 [.int .i64 0,.int .i64 0,.nils,.nils])
  have r0:=rd_all (o1.at 2 (b:=n2) rfl) (n:=4) (rt:=none) rfl rfl
  have r1:=rd_all (o1.at 1 (b:=n3) rfl) (n:=4) (rt:=none) rfl rfl
  simp [make_of f4 b4,r0,r1]
  refine (i_joined (base:=base) t s1 s2 ht1 ht A B _ _ _ _ i_without1 _ (g1.keeps o1.keeps) (g2.keeps o1.keeps) hokA hokB hs1 hs2 hna hnb).step fun v K2 k2 hv => ?_
  obtain ⟨m,K8,rfl,g8,r8,kk,hrel⟩:=rel_end (base:=base) o1 (i:=0) (n2:=n4) rfl rfl k2 hv
  simp [g8,r8]
  rw [hR]
  exact ⟨kk,hrel⟩
theorem s_without (t s1 s2 : Nat) (ht1 : 1≤t) (ht : t≤3) (A B : Aut) (m1 m2 : BV) (H : BH) (hA : RdRel H t s1 A m1) (hB : RdRel H t s2 B m2) (hokA : A.Ok (wd t)) (hokB : B.Ok (wd t)) (hs1 : s1 < A.acc.length) (hs2 : s2 < B.acc.length) (hna : A.acc.length≤150) (hnb : B.acc.length≤150) :
    FnDoes (gam base) 134 [m1,m2] H fun v K => RelR base H t (joinN t (fun a b => a && !b) (A.lang s1) (B.lang s2)) v K:=by
  obtain ⟨R,hR⟩ : ∃ R : BV→BH→Prop,R = fun v K => RelR base H t (joinN t (fun a b => a && !b) (A.lang s1) (B.lang s2)) v K:=⟨_,rfl⟩
  rw [← hR]
  refine FnDoes.of (fn:=ir134) rfl ?_
  have g1:=hA
  have g2:=hB
  obtain ⟨u,x,rfl,hu,hx⟩:=hA
  obtain ⟨u',x',rfl,hu',hx'⟩:=hB
  have u1:=hu.one
  have x1:=one_of_isSl hx.isSl
  have u1':=hu'.one
  have x1':=one_of_isSl hx'.isSl
  simp [ir134,u1,x1,u1',x1']
  intro n2 b2 f2
  simp [make_of f2 b2,u1',x1']
  intro n3 b3 f3
  simp [make_of f3 b3]
  intro n4 b4 f4
  have o1:=Own.start (base:=base) (H:=H) |>.new f2 b2 (s:=.arr 25 [encN t,encN s1,u,x]) |>.new f3 b3 (s:=.arr 25 [encN t,encN s2,u',x']) |>.new f4 b4 (s:=.arr 25 [.int .i64 0,.int .i64 0,.nils,.nils])
  have p1 : RdP _ n2 t s1 A:=g1.at o1.keeps (o1.at 2 (b:=n2) rfl)
  have p2 : RdP _ n3 t s2 B:=g2.at o1.keeps (o1.at 1 (b:=n3) rfl)
  simp [make_of f4 b4]
  refine (s_asked (base:=base) t s1 s2 3 n2 n3 ht1 ht A B _ p1 p2 hokA hokB hs1 hs2 hna hnb).step fun v K2 k2 hv => ?_
  rw [opW_3] at hv
  obtain ⟨m,K8,rfl,g8,r8,kk,hrel⟩:=rel_end (base:=base) o1 (i:=0) (n2:=n4) rfl rfl k2 hv
  simp [g8,r8]
  rw [hR]
  exact ⟨kk,hrel⟩
theorem tidy_some {w : Nat} {A : Aut} {L : List Nat→Bool} (h : IsTidy w A L) : A.acc.contains true = true↔∃ cs,In w cs∧A.lang 0 cs = true:=by
  have hl:=fun cs (hc : In w cs) => h.lang hc
  obtain ⟨κ,i1,nx,a,s,n,hd,rfl,hdist,hL⟩:=h
  have hs:=some_met (a:=a) hd
  constructor
  · intro h
    obtain ⟨cs,c1,c2⟩:=hs.1 (by simpa [autOf] using h)
    exact ⟨cs,c1,by rw [hl cs c1,← hL cs c1]; exact c2⟩
  · rintro ⟨cs,c1,c2⟩
    have:=hs.2 ⟨cs,c1,by rw [hL cs c1,← hl cs c1]; exact c2⟩
    simpa [autOf] using this
noncomputable def emptyT (t : Nat) (L : List Nat→Bool) : Bool:=!(TA t L).acc.contains true
theorem i_IsEmpty (t s : Nat) (ht1 : 1≤t) (ht : t≤3) (A : Aut) (m : BV) (H : BH) (hA : RdRel H t s A m) (hok : A.Ok (wd t)) (hs : s < A.acc.length) (hn : A.acc.length≤150) :
    FnDoes (gam base) 89 [m] H fun v _ => v = .tup [.bool (emptyT t (A.lang s)),encN 0]:=by
  refine FnDoes.of (fn:=ir89) rfl ?_
  have g1:=hA
  obtain ⟨u,x,rfl,hu,hx⟩:=hA
  have u1:=hu.one
  have x1:=one_of_isSl hx.isSl
  obtain ⟨hT1,hl1⟩:=TA_spec ht hok hs
  simp [ir89,u1,x1]
  intro n1 b1 f1
  have o1:=Own.start (base:=base) (H:=H) |>.new f1 b1 (s:=.arr 25 [encN t,encN s,u,x])
  have r1:=rd_all (o1.at 0 (b:=n1) rfl) (n:=4) (rt:=none) rfl rfl
  simp [make_of f1 b1,r1]
  refine (i_valid (base:=base) t s _ _ _ _ (g1.keeps o1.keeps).raw (by omega)).step fun v K2 k2 hv => ?_
  rw [ok_valid ht1 ht hok hs hn] at hv
  subst hv
  have o2:=o1.call k2
  have r1:=rd_all (o2.at 0 (b:=n1) rfl) (n:=4) (rt:=none) rfl rfl
  simp [r1]
  refine (i_tidyOf (base:=base) t s ht A _ _ (g1.keeps o2.keeps) hok hs (by omega)).step fun v K3 k3 hv => ?_
  simp
  refine (i_isEmpty (base:=base) t 0 _ v K3 hv.rd (by omega)).step fun v3 K5 k5 hv3 => ?_
  subst hv3
  simp
  exact ⟨o2.keeps.trans (k3.trans k5),by simp [emptyT]⟩
theorem s_IsEmpty (t s : Nat) (ht1 : 1≤t) (ht : t≤3) (A : Aut) (m : BV) (H : BH) (hA : RdRel H t s A m) (hok : A.Ok (wd t)) (hs : s < A.acc.length) (hn : A.acc.length≤150) :
    FnDoes (gam base) 86 [m] H fun v _ => v = .tup [.bool (emptyT t (A.lang s)),encN 0]:=by
  refine FnDoes.of (fn:=ir86) rfl ?_
  have g1:=hA
  obtain ⟨u,x,rfl,hu,hx⟩:=hA
  have u1:=hu.one
  have x1:=one_of_isSl hx.isSl
  obtain ⟨hT1,hl1⟩:=TA_spec ht hok hs
  simp [ir86,u1,x1]
  intro n1 b1 f1
  have o1:=Own.start (base:=base) (H:=H) |>.new f1 b1 (s:=.arr 25 [encN t,encN s,u,x])
  have p1 : RdP _ n1 t s A:=g1.at o1.keeps (o1.at 0 (b:=n1) rfl)
  simp [make_of f1 b1]
  have c1:=s_ok (base:=base) n1 t s _ _ _ p1.raw (by omega)
  rw [ok_valid ht1 ht hok hs hn] at c1
  refine callP c1 ?_
  simp
  refine (s_tidied (base:=base) t s n1 ht A _ p1 hok hs (by omega)).step fun v K2 k2 hv => ?_
  have hv:=hv.rd
  obtain ⟨w1,y1,rfl,-⟩:=id hv
  simp [hv.one]
  intro n7 b7 f7
  obtain ⟨K3,g3,o3⟩:=(Own.start (base:=base) (H:=K2) |>.new f7 b7 (s:=.arr 25 [.int .i64 0,.int .i64 0,.nils,.nils])).putAll 0 (b:=n7) (n:=4) (ds:=[encN t,encN 0,w1,y1]) rfl rfl rfl (by simp [hv.one]) (rt:=none) rfl
  have q1:=hv.at o3.keeps (o3.at 0 (b:=n7) rfl)
  simp [make_of f7 b7,g3]
  refine (s_first (base:=base) t 0 n7 ht _ K3 q1 hT1.ok hT1.ok.pos (by omega)).step fun v K8 k8 hv4 => ?_
  obtain ⟨c,f,rfl,hf⟩:=hv4
  have hfe : emptyT t (A.lang s) = !f:=by
    unfold emptyT
    congr 1
    rw [Bool.eq_iff_iff,tidy_some hT1,hf]
  simp
  exact ⟨o1.keeps.trans (k2.trans (o3.keeps.trans k8)),by simp [hfe]⟩
noncomputable def unlikeN (l : Nat) (per : Int) (L : List Nat→Bool) : Option Aut × Nat:=thenN (fun S => thenN (fun E => thenN (fun B => joinN 1 (fun a b => a && !b) (E.lang 0) (B.lang 0)) (joinN 1 (fun a b => a && b) L (S.lang 0))) (joinN 1 (fun a b => a || b) L (S.lang 0))) (shiftN l (-per) L)
theorem unlike_good {l : Nat} {per : Int} (hp : -1000≤per∧per≤1000) {A : Aut} {s : Nat} (hA : A.Ok (wd 1)) (hs : s < A.acc.length) : GoodC 1 (unlikeN l per (A.lang s)) :=
  thenN_good (t':=1) (shiftN_good (by omega) hA hs) fun S hS _ => thenN_good (t':=1) (joinN_goodC (by decide) hA hS hs hS.pos) fun E hE _ => thenN_good (t':=1) (joinN_goodC (by decide) hA hS hs hS.pos) fun B hB _ => joinN_goodC (by decide) hE hB hE.pos hB.pos
noncomputable def fromN (c : Int) : Option Aut × Nat:=linN 2 (-c) [-1] (oddI::leftV (-c))
theorem from_terms : Terms [-1]:=⟨by decide,by decide⟩
theorem from_lin {c : Int} (hc : -1000≤c∧c≤1000) : Closed (wd 1) (nxL 2 (sumsF [-1])) c (oddI::leftV c):=left_closed hc fun y hy => by
  have hy : y < 2:=hy
  have key : ∀ y,y < 2→sumsF [-1] y = -1∨sumsF [-1] y = 0:=by decide +kernel
  exact .inl (key y hy)
theorem from_big {c : Int} (hc : -1000≤c∧c≤1000) : ∀ v∈(oddI::leftV c),-1100000000000≤v∧v≤1100000000000:=fun v hv => by
  rcases List.mem_cons.1 hv with rfl | hv
  · unfold oddI; omega
  · have:=leftV_big hc hv; omega
theorem fromN_good {c : Int} (hc : -1000≤c∧c≤1000) : GoodC 1 (fromN c):=linN_good (terms:=[-1]) (by decide) (from_lin (by omega))
noncomputable def perN (l : Nat) (fr per : Int) (L : List Nat→Bool) : Option Aut × Nat:=bothN 1 (fun a b => a && b) (unlikeN l per L) (fromN fr)
noncomputable def emptyO : Option Aut × Nat→Bool × Nat
  | (none,c) => (false,c)
  | (some A,_) => (emptyT 1 (A.lang 0),0)
noncomputable def perR (l : Nat) (r : Raw4) (fr per : Int) : Bool × Nat:=if setsN [r] = 0 then (if inB fr 0 1000 = true∧inB per 1 1000 = true then emptyO (perN l fr per (langS r)) else (false,2)) else (false,setsN [r])
theorem i_unlike (l : Nat) (hl : l = 1000) (s : Nat) (per : Int) (hp : -1000≤per∧per≤1000) (A : Aut) (m : BV) (H : BH) (hA : RdRel H 1 s A m) (hok : A.Ok (wd 1)) (hs : s < A.acc.length) (hn : A.acc.length≤150) :
    FnDoes (gam base) 87 [m,encI per] H fun v K => RelR base H 1 (unlikeN l per (A.lang s)) v K:=by
  obtain ⟨R,hR⟩ : ∃ R : BV→BH→Prop,R = fun v K => RelR base H 1 (unlikeN l per (A.lang s)) v K:=⟨_,rfl⟩
  rw [← hR]
  refine FnDoes.of (fn:=ir87) rfl ?_
  have g1:=hA
  obtain ⟨u,x,rfl,hu,hx⟩:=hA
  have u1:=hu.one
  have x1:=one_of_isSl hx.isSl
  have wn : IntKind.i64.wrap (-per) = -per:=w64 (by omega) (by omega)
  simp [ir87,u1,x1]
  intro n2 b2 f2
  simp [make_of f2 b2]
  intro n4 b4 f4
  have o1:=Own.start (base:=base) (H:=H) |>.new f2 b2 (s:=.arr 25 [encN 1,encN s,u,x]) |>.new f4 b4 (s:=.arr 25 [.int .i64 0,.int .i64 0,.nils,.nils])
  obtain ⟨H1,hH1⟩ : ∃ H1,H1 = (H.set n2 (.arr 25 [encN 1,encN s,u,x])).set n4 (.arr 25 [.int .i64 0,.int .i64 0,.nils,.nils]):=⟨_,rfl⟩
  have r2:=rd_all (o1.at 1 (b:=n2) rfl) (n:=4) (rt:=none) rfl rfl
  simp [make_of f4 b4,r2,wn]
  rw [← hH1] at o1 r2 ⊢
  refine (i_shift (base:=base) l hl s (-per) (by omega) A _ H1 (g1.keeps o1.keeps) hok hs hn).step fun r1 L1 l1 hr1 => ?_
  have ga1 : GoodC 1 (shiftN l (-per) (A.lang s)):=shiftN_good (by omega) hok hs
  unfold unlikeN at hR
  obtain ⟨G1,hG1⟩ : ∃ G,G = shiftN l (-per) (A.lang s):=⟨_,rfl⟩
  rw [← hG1] at hr1 ga1 hR
  refine rel_step (d:=10) (a:=15) (b:=16) (x:=6) (y:=7) (p:=17) (q:=18) (z:=19) (w:=20) (r4:=4) (r5:=5) (t:=1) o1 (i:=0) (n4:=n4) rfl rfl l1 hr1 ga1 [(2,.ptr n2 0)] ?_ ?_ (by simp) (by decide) (fun _ _ h => h) (fun e1 m1 M1 S ms1 eG hh oN1 kk1 hb1 gg1 => ?_) (fun e K2 c eG hh r4 kk => ?_)
  · simp [Has]
  · simp
  rotate_left
  · rw [eG] at hR
    obtain ⟨e5,e4,-⟩:=hh
    simp [e4,e5,r4]
    rw [hR]
    exact ⟨kk,rfl⟩
  obtain ⟨e16,-,e14,e12,-⟩:=hh
  simp only [] at e16 e14 e12
  rw [eG] at hR ga1
  have hR : R = fun v K => RelR base H 1 (thenN (fun E => thenN (fun B => joinN 1 (fun a b => a && !b) (E.lang 0) (B.lang 0)) (joinN 1 (fun a b => a && b) (A.lang s) (S.lang 0))) (joinN 1 (fun a b => a || b) (A.lang s) (S.lang 0))) v K:=hR
  have k1:=l1.trans kk1
  have o2:=o1.call k1
  have r2:=rd_keeps k1 r2
  have g2:=(g1.keeps o1.keeps).keeps k1
  simp [e12,e16,r2,gg1]
  refine (i_either (base:=base) 1 s 0 (by decide) (by decide) A S _ _ _ g2 hb1.rd hok ga1.2.1 hs ga1.2.1.pos hn ga1.2.2).step fun r2' L2 l2 hr2 => ?_
  have ga2 : GoodC 1 (joinN 1 (fun a b => a || b) (A.lang s) (S.lang 0)):=joinN_goodC (by decide) hok ga1.2.1 hs ga1.2.1.pos
  obtain ⟨G2,hG2⟩ : ∃ G,G = joinN 1 (fun a b => a || b) (A.lang s) (S.lang 0):=⟨_,rfl⟩
  rw [← hG2] at hr2 ga2 hR
  refine rel_step (d:=21) (a:=25) (b:=26) (x:=8) (y:=7) (p:=27) (q:=28) (z:=29) (w:=30) (r4:=4) (r5:=5) (t:=1) o2 (i:=0) (n4:=n4) rfl rfl l2 hr2 ga2 [(2,.ptr n2 0),(6,.ptr m1 0)] ?_ ?_ (by simp) (by decide) (fun _ _ h => h) (fun e2 m2 M2 E ms2 eG2 hh oN2 kk2 hb2 gg2 => ?_) (fun e K2 c eG hh r4 kk => ?_)
  · simp [Has,e14,e16,e12]
  · simp
  rotate_left
  · rw [eG] at hR
    obtain ⟨e5,e4,-⟩:=hh
    simp [e4,e5,r4]
    rw [hR]
    exact ⟨kk,rfl⟩
  obtain ⟨e28,-,e24,e22,e26,-⟩:=hh
  simp only [] at e28 e24 e22 e26
  rw [eG2] at hR ga2
  have hR : R = fun v K => RelR base H 1 (thenN (fun B => joinN 1 (fun a b => a && !b) (E.lang 0) (B.lang 0)) (joinN 1 (fun a b => a && b) (A.lang s) (S.lang 0))) v K:=hR
  have k2:=l2.trans kk2
  have o3:=o2.call k2
  have r2:=rd_keeps k2 r2
  have gg1:=rd_keeps k2 gg1
  have g3:=g2.keeps k2
  simp [e22,e26,r2,gg1]
  refine (i_both (base:=base) 1 s 0 (by decide) (by decide) A S _ _ _ g3 (hb1.rd.keeps k2) hok ga1.2.1 hs ga1.2.1.pos hn ga1.2.2).step fun r3' L3 l3 hr3 => ?_
  have ga3 : GoodC 1 (joinN 1 (fun a b => a && b) (A.lang s) (S.lang 0)):=joinN_goodC (by decide) hok ga1.2.1 hs ga1.2.1.pos
  obtain ⟨G3,hG3⟩ : ∃ G,G = joinN 1 (fun a b => a && b) (A.lang s) (S.lang 0):=⟨_,rfl⟩
  rw [← hG3] at hr3 ga3 hR
  refine rel_step (d:=31) (a:=35) (b:=36) (x:=9) (y:=7) (p:=37) (q:=38) (z:=39) (w:=40) (r4:=4) (r5:=5) (t:=1) o3 (i:=0) (n4:=n4) rfl rfl l3 hr3 ga3 [(8,.ptr m2 0)] ?_ ?_ (by simp) (by decide) (fun _ _ h => h) (fun e3 m3 M3 B ms3 eG3 hh oN3 kk3 hb3 gg3 => ?_) (fun e K2 c eG hh r4 kk => ?_)
  · simp [Has,e24,e28]
  · simp
  rotate_left
  · rw [eG] at hR
    obtain ⟨e5,e4,-⟩:=hh
    simp [e4,e5,r4]
    rw [hR]
    exact ⟨kk,rfl⟩
  obtain ⟨e39,-,e34,e38,-⟩:=hh
  simp only [] at e39 e34 e38
  rw [eG3] at hR ga3
  have hR : R = fun v K => RelR base H 1 (joinN 1 (fun a b => a && !b) (E.lang 0) (B.lang 0)) v K:=hR
  have k3:=l3.trans kk3
  have o4:=o3.call k3
  have gg2:=rd_keeps k3 gg2
  simp [e38,e39,gg2,gg3]
  refine (i_without (base:=base) 1 0 0 (by decide) (by decide) E B _ _ _ (hb2.rd.keeps k3) hb3.rd ga2.2.1 ga3.2.1 ga2.2.1.pos ga3.2.1.pos ga2.2.2 ga3.2.2).step fun r8 L8 l8 hr8 => ?_
  obtain ⟨m8,K8',rfl,g8,r8x,kk8,hrel8⟩:=rel_end (base:=base) o4 (i:=0) (n2:=n4) rfl rfl l8 hr8
  simp [e34,g8,r8x]
  rw [hR]
  exact ⟨kk8,hrel8⟩
theorem s_Wrong (l : Nat) (hl : l = 1000) (s rb : Nat) (per : Int) (hp : -1000≤per∧per≤1000) (A : Aut) (H : BH) (hA : RdP H rb 1 s A) (hok : A.Ok (wd 1)) (hs : s < A.acc.length) (hn : A.acc.length≤150) :
    FnDoes (gam base) 85 [.ptr rb 0,encI per] H fun v K => RelR base H 1 (unlikeN l per (A.lang s)) v K:=by
  obtain ⟨R,hR⟩ : ∃ R : BV→BH→Prop,R = fun v K => RelR base H 1 (unlikeN l per (A.lang s)) v K:=⟨_,rfl⟩
  rw [← hR]
  refine FnDoes.of (fn:=ir85) rfl ?_
  obtain ⟨u,x,hrow,hu,hx⟩:=id hA
  have u1:=hu.one
  have x1:=one_of_isSl hx.isSl
  have wn : IntKind.i64.wrap (-per) = -per:=w64 (by omega) (by omega)
  simp [ir85]
  intro n4 b4 f4
  have o1:=Own.start (base:=base) (H:=H) |>.new f4 b4 (s:=.arr 25 [.int .i64 0,.int .i64 0,.nils,.nils])
  obtain ⟨H1,hH1⟩ : ∃ H1,H1 = H.set n4 (.arr 25 [.int .i64 0,.int .i64 0,.nils,.nils]):=⟨_,rfl⟩
  simp [make_of f4 b4,wn]
  rw [← hH1] at o1 ⊢
  have hA1:=hA.keeps o1.keeps
  have hrow1 : H1.row rb = .arr 25 [encN 1,encN s,u,x]:=by rw [o1.keeps rb (by rw [hrow]; simp),hrow]
  have r2:=rd_all hrow1 (n:=4) (rt:=none) rfl rfl
  have g1 : RdRel H1 1 s A (.agg [encN 1,encN s,u,x]):=⟨u,x,rfl,hu.keeps o1.keeps,hx.keeps o1.keeps⟩
  refine (s_shift (base:=base) l hl s rb (-per) (by omega) A H1 hA1 hok hs hn).step fun r1 L1 l1 hr1 => ?_
  have ga1 : GoodC 1 (shiftN l (-per) (A.lang s)):=shiftN_good (by omega) hok hs
  unfold unlikeN at hR
  obtain ⟨G1,hG1⟩ : ∃ G,G = shiftN l (-per) (A.lang s):=⟨_,rfl⟩
  rw [← hG1] at hr1 ga1 hR
  refine rel_step (d:=12) (a:=17) (b:=18) (x:=6) (y:=7) (p:=19) (q:=20) (z:=21) (w:=22) (r4:=4) (r5:=5) (t:=1) o1 (i:=0) (n4:=n4) rfl rfl l1 hr1 ga1 [(0,.ptr rb 0)] ?_ ?_ (by simp) (by decide) (fun _ _ h => h) (fun e1 m1 M1 S ms1 eG hh oN1 kk1 hb1 gg1 => ?_) (fun e K2 c eG hh r4 kk => ?_)
  · simp [Has]
  · simp
  rotate_left
  · rw [eG] at hR
    obtain ⟨e5,e4,-⟩:=hh
    simp [e4,e5,r4]
    rw [hR]
    exact ⟨kk,rfl⟩
  obtain ⟨e16,-,e14,e12,-⟩:=hh
  simp only [] at e16 e14 e12
  rw [eG] at hR ga1
  have hR : R = fun v K => RelR base H 1 (thenN (fun E => thenN (fun B => joinN 1 (fun a b => a && !b) (E.lang 0) (B.lang 0)) (joinN 1 (fun a b => a && b) (A.lang s) (S.lang 0))) (joinN 1 (fun a b => a || b) (A.lang s) (S.lang 0))) v K:=hR
  have k1:=l1.trans kk1
  have o2:=o1.call k1
  have r2:=rd_keeps k1 r2
  have g2:=g1.keeps k1
  simp [e12,e16,r2,gg1]
  refine (s_either (base:=base) 1 s 0 (by decide) (by decide) A S _ _ _ g2 hb1.rd hok ga1.2.1 hs ga1.2.1.pos hn ga1.2.2).step fun r2' L2 l2 hr2 => ?_
  have ga2 : GoodC 1 (joinN 1 (fun a b => a || b) (A.lang s) (S.lang 0)):=joinN_goodC (by decide) hok ga1.2.1 hs ga1.2.1.pos
  obtain ⟨G2,hG2⟩ : ∃ G,G = joinN 1 (fun a b => a || b) (A.lang s) (S.lang 0):=⟨_,rfl⟩
  rw [← hG2] at hr2 ga2 hR
  refine rel_step (d:=23) (a:=29) (b:=30) (x:=8) (y:=9) (p:=31) (q:=32) (z:=33) (w:=34) (r4:=4) (r5:=5) (t:=1) o2 (i:=0) (n4:=n4) rfl rfl l2 hr2 ga2 [(0,.ptr rb 0),(6,.ptr m1 0)] ?_ ?_ (by simp) (by decide) (fun _ _ h => h) (fun e2 m2 M2 E ms2 eG2 hh oN2 kk2 hb2 gg2 => ?_) (fun e K2 c eG hh r4 kk => ?_)
  · simp [Has,e14,e16,e12]
  · simp
  rotate_left
  · rw [eG] at hR
    obtain ⟨e5,e4,-⟩:=hh
    simp [e4,e5,r4]
    rw [hR]
    exact ⟨kk,rfl⟩
  obtain ⟨e28,-,e24,e22,e26,-⟩:=hh
  simp only [] at e28 e24 e22 e26
  rw [eG2] at hR ga2
  have hR : R = fun v K => RelR base H 1 (thenN (fun B => joinN 1 (fun a b => a && !b) (E.lang 0) (B.lang 0)) (joinN 1 (fun a b => a && b) (A.lang s) (S.lang 0))) v K:=hR
  have k2:=l2.trans kk2
  have o3:=o2.call k2
  have r2:=rd_keeps k2 r2
  have gg1:=rd_keeps k2 gg1
  have g3:=g2.keeps k2
  simp [e22,e26,r2,gg1]
  refine (s_both (base:=base) 1 s 0 (by decide) (by decide) A S _ _ _ g3 (hb1.rd.keeps k2) hok ga1.2.1 hs ga1.2.1.pos hn ga1.2.2).step fun r3' L3 l3 hr3 => ?_
  have ga3 : GoodC 1 (joinN 1 (fun a b => a && b) (A.lang s) (S.lang 0)):=joinN_goodC (by decide) hok ga1.2.1 hs ga1.2.1.pos
  obtain ⟨G3,hG3⟩ : ∃ G,G = joinN 1 (fun a b => a && b) (A.lang s) (S.lang 0):=⟨_,rfl⟩
  rw [← hG3] at hr3 ga3 hR
  refine rel_step (d:=35) (a:=41) (b:=42) (x:=10) (y:=11) (p:=43) (q:=44) (z:=45) (w:=46) (r4:=4) (r5:=5) (t:=1) o3 (i:=0) (n4:=n4) rfl rfl l3 hr3 ga3 [(8,.ptr m2 0)] ?_ ?_ (by simp) (by decide) (fun _ _ h => h) (fun e3 m3 M3 B ms3 eG3 hh oN3 kk3 hb3 gg3 => ?_) (fun e K2 c eG hh r4 kk => ?_)
  · simp [Has,e24,e28]
  · simp
  rotate_left
  · rw [eG] at hR
    obtain ⟨e5,e4,-⟩:=hh
    simp [e4,e5,r4]
    rw [hR]
    exact ⟨kk,rfl⟩
  obtain ⟨e39,-,e34,e38,-⟩:=hh
  simp only [] at e39 e34 e38
  rw [eG3] at hR ga3
  have hR : R = fun v K => RelR base H 1 (joinN 1 (fun a b => a && !b) (E.lang 0) (B.lang 0)) v K:=hR
  have k3:=l3.trans kk3
  have o4:=o3.call k3
  have gg2:=rd_keeps k3 gg2
  simp [e38,e39,gg2,gg3]
  refine (s_without (base:=base) 1 0 0 (by decide) (by decide) E B _ _ _ (hb2.rd.keeps k3) hb3.rd ga2.2.1 ga3.2.1 ga2.2.1.pos ga3.2.1.pos ga2.2.2 ga3.2.2).step fun r8 L8 l8 hr8 => ?_
  obtain ⟨m8,K8',rfl,g8,r8x,kk8,hrel8⟩:=rel_end (base:=base) o4 (i:=0) (n2:=n4) rfl rfl l8 hr8
  simp [e34,g8,r8x]
  rw [hR]
  exact ⟨kk8,hrel8⟩
theorem rel_stepG {C : CRel} {H K0 K1 : BH} {L : List Sl} {t : Nat} {G : Option Aut × Nat} {v : BV} {e : Env} {bd rest : BCode} {Q : Post} {Kn : Env→BH→Prop} {cd d a b x y p q : Nat}
    (o : Own base H K0 L) (k : K0.Keeps K1) (hr : RelR base K0 t G v K1) (hg : GoodC t G) (kp : List (Nat × BV)) (hkp : Has e kp) (hv : e cd = v)
    (hfr : (kp.all fun s => !(s.1 == d || s.1 == a || s.1 == b || s.1 == x || s.1 == y || s.1 == p || s.1 == q)) = true)
    (hne : (decide (a≠d) && decide (b≠d) && decide (a≠b) && decide (x≠a) && decide (x≠b) && decide (y≠x) && decide (p≠x) && decide (q≠x) && decide (p≠y) && decide (q≠y)) = true)
    (hKn : ∀ e K,wpC base C (.seq (.seq (.region [⟨some p,.mov (.t y),none,[]⟩,⟨some q,.bin .neq (.t p) (.c (.int .i64 0)),none,[]⟩]) (.cond (.t q) bd .skip)) rest) Q e K→Kn e K)
    (good : ∀ (e' : Env) (n : Nat) (K2 : BH) (A : Aut) (ms : List BV),G = (some A,0)→Has e' ((x,.ptr n 0)::(y,encN 0)::kp)→Own base H K2 ((some n,.arr 25 ms)::L)→K1.Keeps K2→OwnRel base K0 K2 t 0 A (.agg ms)→K2.rd none (some 4) (.ptr n 0) = some (.agg ms)→wpC base C rest Q e' K2)
    (bad : ∀ (e' : Env) (K2 : BH) (c : Nat),G = (none,c)→Has e' ((y,encN c)::kp)→H.Keeps K2→wpC base C bd (Post.then (wpC base C rest Q) Q) e' K2) :
    wpO base C [⟨some d,.mov (.t cd),none,[]⟩,⟨some a,.ext 0 (.t d),none,[]⟩,⟨some b,.ext 1 (.t d),none,[]⟩,⟨some x,.new 25 zR4,none,[]⟩,⟨none,.store none 4 (.t x) (.t a),none,[]⟩,⟨some y,.mov (.t b),none,[]⟩] Kn e K1:=by
  simp only [Bool.and_eq_true,decide_eq_true_eq] at hne
  obtain ⟨⟨⟨⟨⟨⟨⟨⟨⟨h1,h2⟩,h3⟩,h4⟩,h5⟩,h6⟩,h7⟩,h8⟩,h9⟩,h10⟩:=hne
  have hr0:=hr
  obtain ⟨m,rfl,hm⟩:=hr.out
  obtain ⟨c1,c2,u,w',e2,p1,p2,p3,p4⟩:=hm.ones
  subst e2
  have hfr' : ∀ s∈kp,s.1≠d∧s.1≠a∧s.1≠b∧s.1≠x∧s.1≠y∧s.1≠p∧s.1≠q:=fun s hs => by
    have:=List.all_eq_true.1 hfr s hs
    simp only [Bool.not_eq_true',Bool.or_eq_false_iff,beq_eq_false_iff_ne] at this
    obtain ⟨⟨⟨⟨⟨⟨q1,q2⟩,q3⟩,q4⟩,q5⟩,q6⟩,q7⟩:=this
    exact ⟨q1,q2,q3,q4,q5,q6,q7⟩
  have fr : ∀ (e' : Env),(∀ s,s≠d→s≠a→s≠b→s≠x→s≠y→s≠p→s≠q→e' s = e s)→Has e' kp:=fun e' he => Has.frame (W:=[d,a,b,x,y,p,q]) (fun s hs => by
      simp only [List.mem_cons,List.not_mem_nil,or_false,not_or] at hs
      obtain ⟨q1,q2,q3,q4,q5,q6,q7⟩:=hs
      exact he s q1 q2 q3 q4 q5 q6 q7) (by
      rw [List.all_eq_true]
      intro s hs
      obtain ⟨q1,q2,q3,q4,q5,q6,q7⟩:=hfr' s hs
      simp [q1,q2,q3,q4,q5,q6,q7]) hkp
  simp [zR4,hv,p1,p2,p3,p4,h1,h2,h3,h4,h5,h6,Ne.symm h1,Ne.symm h2,Ne.symm h3,Ne.symm h4,Ne.symm h5,Ne.symm h6]
  intro n bn fn
  have o2:=(o.call k).new fn bn (s:=.arr 25 [.int .i64 0,.int .i64 0,.nils,.nils])
  obtain ⟨K3,g3,o3⟩:=o2.putAll 0 (b:=n) rfl (n:=4) (ds:=[c1,c2,u,w']) rfl rfl (by simp [p1,p2,p3,p4]) (rt:=none) rfl
  obtain ⟨K3',g3',o3'⟩:=((Own.start (base:=base) (H:=K1)).new fn bn (s:=.arr 25 [.int .i64 0,.int .i64 0,.nils,.nils])).putAll 0 (b:=n) rfl (n:=4) (ds:=[c1,c2,u,w']) rfl rfl (by simp [p1,p2,p3,p4]) (rt:=none) rfl
  have ek : K3' = K3:=by rw [g3] at g3'; exact (Option.some.inj g3').symm
  subst ek
  have r3x:=rd_all (o3.at 0 (b:=n) rfl) (n:=4) (rt:=none) rfl rfl
  simp [zR4,make_of fn bn,g3,h1,h2,h3,h4,h5,h6,Ne.symm h1,Ne.symm h2,Ne.symm h3,Ne.symm h4,Ne.symm h5,Ne.symm h6]
  refine hKn _ _ ?_
  obtain ⟨zG,cG⟩:=G
  cases zG with
  | none =>
    have hc:=code_ne hg.1
    have hc' : ¬ cG = 0:=by have : 0 < cG:=hg.1; omega
    simp [h1,h2,h3,h4,h5,h6,h7,h8,h9,h10,Ne.symm h1,Ne.symm h2,Ne.symm h3,Ne.symm h4,Ne.symm h5,Ne.symm h6,Ne.symm h7,Ne.symm h8,Ne.symm h9,Ne.symm h10,hc,hc']
    refine bad _ K3' cG rfl ⟨by simp [Ne.symm h9,Ne.symm h10,h9,h10],fr _ fun s s1 s2 s3 s4 s5 s6 s7 => by simp [Env.put,s1,s2,s3,s4,s5,s6,s7]⟩ o3.keeps
  | some A =>
    have ec : cG = 0:=hg.1
    subst ec
    simp [h1,h2,h3,h4,h5,h6,h7,h8,h9,h10,Ne.symm h1,Ne.symm h2,Ne.symm h3,Ne.symm h4,Ne.symm h5,Ne.symm h6,Ne.symm h7,Ne.symm h8,Ne.symm h9,Ne.symm h10]
    refine good _ n K3' A [c1,c2,u,w'] rfl ⟨by simp [Ne.symm h6,Ne.symm h7,Ne.symm h8,h6,h7,h8],by simp [Ne.symm h9,Ne.symm h10,h9,h10],fr _ fun s s1 s2 s3 s4 s5 s6 s7 => by simp [Env.put,s1,s2,s3,s4,s5,s6,s7]⟩ o3 o3'.keeps (by
      obtain ⟨m',e',ho⟩:=hr0
      simp only [BV.tup.injEq,List.cons.injEq,and_true] at e'
      rw [e']
      exact ho.keeps o3'.keeps) r3x
theorem s_IsPeriodic (l : Nat) (hl : l = 1000) (r : Raw4) (fr per : Int) (m : BV) (H : BH) (h : RdRaw H r.1 r.2.1 r.2.2.1 r.2.2.2 m) (hn : r.2.2.1.length≤4611686018427387904) :
    FnDoes (gam base) 34 [m,encI fr,encI per] H fun v _ => v = .tup [.bool (perR l r fr per).1,encN (perR l r fr per).2]:=by
  obtain ⟨R,hR⟩ : ∃ R : BV→BH→Prop,R = fun v _ => v = .tup [.bool (perR l r fr per).1,encN (perR l r fr per).2]:=⟨_,rfl⟩
  rw [← hR]
  refine FnDoes.of (fn:=ir34) rfl ?_
  have g:=h
  obtain ⟨u,x,rfl,hu,hx⟩:=h
  have u1:=hu.one
  have x1:=one_of_isSl hx.isSl
  simp [ir34,u1,x1]
  intro n2 b2 f2
  have o1:=Own.start (base:=base) (H:=H) |>.new f2 b2 (s:=.arr 25 [.int .i64 r.1,.int .i64 r.2.1,u,x])
  obtain ⟨H1,hH1⟩ : ∃ H1,H1 = H.set n2 (.arr 25 [.int .i64 r.1,.int .i64 r.2.1,u,x]):=⟨_,rfl⟩
  simp [make_of f2 b2]
  rw [← hH1] at o1 ⊢
  have pr : RdRawP H1 n2 r.1 r.2.1 r.2.2.1 r.2.2.2:=⟨u,x,o1.at 0 (b:=n2) rfl,hu.keeps o1.keeps,hx.keeps o1.keeps⟩
  refine (s_set (base:=base) r n2 H1 pr hn).step fun v K3 k3 hv => ?_
  subst hv
  have o3:=o1.call k3
  by_cases h0 : setsN [r] = 0
  case neg =>
    simp [sets_ne h0]
    rw [hR]
    have hres : perR l r fr per = (false,setsN [r]):=if_neg h0
    rw [hres]
    exact ⟨o3.keeps,rfl⟩
  simp [h0]
  refine callP (s_in fr 0 1000 K3) ?_
  have hrange : ¬ (inB fr 0 1000 = true∧inB per 1 1000 = true)→perR l r fr per = (false,2):=fun hb => by unfold perR; rw [if_pos h0,if_neg hb]
  by_cases hb : inB fr 0 1000 = true
  case neg =>
    have hb' : inB fr 0 1000 = false:=by simpa using hb
    rw [hb']
    simp
    rw [hR,hrange (fun h => hb h.1)]
    exact ⟨o3.keeps,rfl⟩
  rw [hb]
  simp
  refine callP (s_in per 1 1000 K3) ?_
  by_cases hb2 : inB per 1 1000 = true
  case neg =>
    have hb' : inB per 1 1000 = false:=by simpa using hb2
    rw [hb']
    simp
    rw [hR,hrange (fun h => hb2 h.2)]
    exact ⟨o3.keeps,rfl⟩
  rw [hb2]
  simp
  obtain ⟨s,A,e1,e2,e3,e4,hok,hs,hlen,hA,-⟩:=ns_elim h0
  have hL : langS r = A.lang s:=by unfold langS; rw [hA,e2]; rfl
  have hres : perR l r fr per = emptyO (perN l fr per (A.lang s)):=by unfold perR; rw [if_pos h0,if_pos ⟨hb,hb2⟩,hL]
  have hfr : 0≤fr∧fr≤1000:=by simpa [inB] using hb
  have hper : 1≤per∧per≤1000:=by simpa [inB] using hb2
  have wn : IntKind.i64.wrap (-fr) = -fr:=w64 (by omega) (by omega)
  rw [hres] at hR
  clear hres hrange
  have pA : RdP K3 n2 1 s A:=by
    have:=pr.keeps k3
    rw [e1,e2,e3,e4] at this
    exact this.rel
  refine (s_Wrong (base:=base) l hl s n2 per (by omega) A K3 pA hok hs hlen).step fun r1 L1 l1 hr1 => ?_
  have ga1 : GoodC 1 (unlikeN l per (A.lang s)):=unlike_good (by omega) hok hs
  unfold perN at hR
  obtain ⟨G1,hG1⟩ : ∃ G,G = unlikeN l per (A.lang s):=⟨_,rfl⟩
  rw [← hG1] at hr1 ga1 hR
  refine rel_stepG (d:=27) (a:=30) (b:=31) (x:=9) (y:=10) (p:=32) (q:=33) (t:=1) o3 l1 hr1 ga1 [(1,encI fr)] ?_ ?_ (by simp) (by decide) (fun _ _ h => h) (fun e1 m1 M1 S ms1 eG hh oN1 kk1 hb1 gg1 => ?_) (fun e K2 c eG hh kk => ?_)
  · simp [Has]
  · simp
  rotate_left
  · rw [eG] at hR
    obtain ⟨e10,-⟩:=hh
    simp [e10]
    rw [hR]
    exact ⟨kk,rfl⟩
  obtain ⟨e19,-,e11,-⟩:=hh
  simp only [] at e19 e11
  rw [eG] at hR ga1
  have o4:=o3.call (l1.trans kk1)
  simp [e11,wn]
  intro n21 b21 f21
  have o5:=(Own.start (base:=base) (H:=M1)).new f21 b21 (s:=.arr 2 [.int .i64 (-1)])
  have hv : Rd _ 2 (.sl n21 0 1) (([-1] : List Int).map encI):=o5.rd 0 rfl rfl
  simp [make_of f21 b21,e11,wn]
  refine (s_LinearRelation (base:=base) 2 (.inr rfl) [-1] from_terms (by decide) (-fr) (by omega) (oddI::leftV (-fr)) (from_lin (by omega)) (by show 2 ^ 1 * (oddI::leftV (-fr)).length + 1≤150; rw [List.length_cons,leftV_len]; decide) (from_big (by omega)) (.sl n21 0 1) _ hv).step fun r2 L2 l2 hr2 => ?_
  have ga2 : GoodC 1 (fromN fr):=fromN_good (by omega)
  have hr2 : RelR base _ 1 (fromN fr) r2 L2:=hr2
  obtain ⟨G2,hG2⟩ : ∃ G,G = fromN fr:=⟨_,rfl⟩
  rw [← hG2] at hr2 ga2 hR
  have o6:=o4.call o5.keeps
  refine rel_stepG (d:=35) (a:=40) (b:=41) (x:=11) (y:=12) (p:=42) (q:=43) (t:=1) o6 l2 hr2 ga2 [(9,.ptr m1 0)] ?_ ?_ (by simp) (by decide) (fun _ _ h => h) (fun e2 m2 M2 F ms2 eG2 hh oN2 kk2 hb2 gg2 => ?_) (fun e K2 c eG2 hh kk => ?_)
  · simp [Has,e19]
  · simp
  rotate_left
  · rw [eG2] at hR
    obtain ⟨e10,-⟩:=hh
    simp [e10]
    rw [hR]
    exact ⟨kk,rfl⟩
  obtain ⟨e211,-,e29,-⟩:=hh
  simp only [] at e211 e29
  rw [eG2] at hR ga2
  have hR : R = fun v _ => v = .tup [.bool (emptyO (joinN 1 (fun a b => a && b) (S.lang 0) (F.lang 0))).1,encN (emptyO (joinN 1 (fun a b => a && b) (S.lang 0) (F.lang 0))).2]:=hR
  have kS:=o5.keeps.trans (l2.trans kk2)
  have gg1':=rd_keeps kS gg1
  have o7:=o6.call (l2.trans kk2)
  simp [e29,e211,gg1',gg2]
  refine (s_both (base:=base) 1 0 0 (by decide) (by decide) S F _ _ _ (hb1.rd.keeps kS) hb2.rd ga1.2.1 ga2.2.1 ga1.2.1.pos ga2.2.1.pos ga1.2.2 ga2.2.2).step fun r3 L3 l3 hr3 => ?_
  have ga3 : GoodC 1 (joinN 1 (fun a b => a && b) (S.lang 0) (F.lang 0)):=joinN_goodC (by decide) ga1.2.1 ga2.2.1 ga1.2.1.pos ga2.2.1.pos
  obtain ⟨G3,hG3⟩ : ∃ G,G = joinN 1 (fun a b => a && b) (S.lang 0) (F.lang 0):=⟨_,rfl⟩
  rw [← hG3] at hr3 ga3 hR
  refine rel_stepG (d:=45) (a:=49) (b:=50) (x:=13) (y:=14) (p:=51) (q:=52) (t:=1) o7 l3 hr3 ga3 [] ?_ ?_ (by simp) (by decide) (fun _ _ h => h) (fun e3 m3 M3 B ms3 eG3 hh oN3 kk3 hb3 gg3 => ?_) (fun e K2 c eG3 hh kk => ?_)
  · simp [Has]
  · simp
  rotate_left
  · rw [eG3] at hR
    obtain ⟨e10,-⟩:=hh
    simp [e10]
    rw [hR]
    exact ⟨kk,rfl⟩
  obtain ⟨e313,-,-⟩:=hh
  simp only [] at e313
  rw [eG3] at hR ga3
  have o8:=o7.call (l3.trans kk3)
  simp [e313,gg3]
  refine (s_IsEmpty (base:=base) 1 0 (by decide) (by decide) B _ M3 hb3.rd ga3.2.1 ga3.2.1.pos ga3.2.2).step fun v9 K9 k9 hv9 => ?_
  subst hv9
  simp
  rw [hR]
  exact ⟨(o8.call k9).keeps,rfl⟩
theorem i_IsPeriodic (l : Nat) (hl : l = 1000) (r : Raw4) (fr per : Int) (m : BV) (H : BH) (h : RdRaw H r.1 r.2.1 r.2.2.1 r.2.2.2 m) (hn : r.2.2.1.length≤4611686018427387904) :
    FnDoes (gam base) 35 [m,encI fr,encI per] H fun v _ => v = .tup [.bool (perR l r fr per).1,encN (perR l r fr per).2]:=by
  obtain ⟨R,hR⟩ : ∃ R : BV→BH→Prop,R = fun v _ => v = .tup [.bool (perR l r fr per).1,encN (perR l r fr per).2]:=⟨_,rfl⟩
  rw [← hR]
  refine FnDoes.of (fn:=ir35) rfl ?_
  have g:=h
  obtain ⟨u,x,rfl,hu,hx⟩:=h
  have u1:=hu.one
  have x1:=one_of_isSl hx.isSl
  simp [ir35,u1,x1]
  intro n2 b2 f2
  have o1:=Own.start (base:=base) (H:=H) |>.new f2 b2 (s:=.arr 25 [.int .i64 r.1,.int .i64 r.2.1,u,x])
  have r2:=rd_all (o1.at 0 (b:=n2) rfl) (n:=4) (rt:=none) rfl rfl
  simp [make_of f2 b2,r2,u1,x1]
  intro n8 b8 f8
  have o2:=o1.new f8 b8 (s:=.arr 25 [.int .i64 r.1,.int .i64 r.2.1,u,x])
  simp [make_of f8 b8]
  refine (i_checkSets (base:=base) [r] (.sl n8 0 1) _ (RdRs.one (g.keeps o2.keeps) (o2.at 0 rfl)) (by simp) (by simpa using hn)).step fun v K3 k3 hv => ?_
  subst hv
  have o3:=(o2.call k3).tail
  by_cases h0 : setsN [r] = 0
  case neg =>
    simp [sets_ne h0]
    rw [hR]
    have hres : perR l r fr per = (false,setsN [r]):=if_neg h0
    rw [hres]
    exact ⟨o3.keeps,rfl⟩
  simp [h0]
  refine callP (i_within fr 0 1000 K3) ?_
  have hrange : ¬ (inB fr 0 1000 = true∧inB per 1 1000 = true)→perR l r fr per = (false,2):=fun hb => by unfold perR; rw [if_pos h0,if_neg hb]
  by_cases hb : inB fr 0 1000 = true
  case neg =>
    have hb' : inB fr 0 1000 = false:=by simpa using hb
    rw [hb']
    simp
    rw [hR,hrange (fun h => hb h.1)]
    exact ⟨o3.keeps,rfl⟩
  rw [hb]
  simp
  refine callP (i_within per 1 1000 K3) ?_
  by_cases hb2 : inB per 1 1000 = true
  case neg =>
    have hb' : inB per 1 1000 = false:=by simpa using hb2
    rw [hb']
    simp
    rw [hR,hrange (fun h => hb2 h.2)]
    exact ⟨o3.keeps,rfl⟩
  rw [hb2]
  obtain ⟨s,A,e1,e2,e3,e4,hok,hs,hlen,hA,-⟩:=ns_elim h0
  have hL : langS r = A.lang s:=by unfold langS; rw [hA,e2]; rfl
  have hres : perR l r fr per = emptyO (perN l fr per (A.lang s)):=by unfold perR; rw [if_pos h0,if_pos ⟨hb,hb2⟩,hL]
  have hfr : 0≤fr∧fr≤1000:=by simpa [inB] using hb
  have hper : 1≤per∧per≤1000:=by simpa [inB] using hb2
  have wn : IntKind.i64.wrap (-fr) = -fr:=w64 (by omega) (by omega)
  rw [hres] at hR
  clear hres hrange
  have hrel : RdRel K3 1 s A (.agg [.int .i64 r.1,.int .i64 r.2.1,u,x]):=by
    have:=g.keeps o3.keeps
    rw [e1,e2,e3,e4] at this
    rw [e1,e2]
    exact this.rel
  have r2:=rd_all (o3.at 0 (b:=n2) rfl) (n:=4) (rt:=none) rfl rfl
  simp [r2]
  refine (i_unlike (base:=base) l hl s per (by omega) A _ K3 hrel hok hs hlen).step fun r1 L1 l1 hr1 => ?_
  have ga1 : GoodC 1 (unlikeN l per (A.lang s)):=unlike_good (by omega) hok hs
  unfold perN at hR
  obtain ⟨G1,hG1⟩ : ∃ G,G = unlikeN l per (A.lang s):=⟨_,rfl⟩
  rw [← hG1] at hr1 ga1 hR
  refine rel_stepG (d:=27) (a:=31) (b:=32) (x:=9) (y:=10) (p:=33) (q:=34) (t:=1) o3 l1 hr1 ga1 [(1,encI fr)] ?_ ?_ (by simp) (by decide) (fun _ _ h => h) (fun e1 m1 M1 S ms1 eG hh oN1 kk1 hb1 gg1 => ?_) (fun e K2 c eG hh kk => ?_)
  · simp [Has]
  · simp
  rotate_left
  · rw [eG] at hR
    obtain ⟨e10,-⟩:=hh
    simp [e10]
    rw [hR]
    exact ⟨kk,rfl⟩
  obtain ⟨e19,-,e11,-⟩:=hh
  simp only [] at e19 e11
  rw [eG] at hR ga1
  have o4:=o3.call (l1.trans kk1)
  simp [e11,wn]
  intro n21 b21 f21
  have o5:=(Own.start (base:=base) (H:=M1)).new f21 b21 (s:=.arr 2 [.int .i64 (-1)])
  have hv : Rd _ 2 (.sl n21 0 1) (([-1] : List Int).map encI):=o5.rd 0 rfl rfl
  simp [make_of f21 b21,e11,wn]
  refine (i_linear (base:=base) 2 [-1] from_terms (by decide) (-fr) (oddI::leftV (-fr)) (from_lin (by omega)) (by rw [List.length_cons,leftV_len]; decide) (from_big (by omega)) (.sl n21 0 1) _ hv).step fun r2 L2 l2 hr2 => ?_
  have ga2 : GoodC 1 (fromN fr):=fromN_good (by omega)
  have hr2 : RelR base _ 1 (fromN fr) r2 L2:=hr2
  have hgb:=bothN_good (t:=1) (by decide) (op:=fun a b => a && b) ga1 ga2
  obtain ⟨G2,hG2⟩ : ∃ G,G = fromN fr:=⟨_,rfl⟩
  rw [← hG2] at hr2 ga2 hR hgb
  have o6:=o4.call o5.keeps
  obtain ⟨m9,rfl,hm9⟩:=hr2.out
  obtain ⟨ta,tb,ut,xt,rfl,ta1,tb1,ut1,xt1⟩:=hm9.ones
  simp [ta1,tb1,ut1,xt1]
  intro n11 b11 f11
  obtain ⟨K4,g4,k4,r4,-,-⟩:=lay f11 b11 (a:=ta) (b:=tb) (c:=ut) (d:=xt) (by simp [ta1,tb1,ut1,xt1])
  have kS:=o5.keeps.trans (l2.trans k4)
  have gg1':=rd_keeps kS gg1
  have o7:=o6.call (l2.trans k4)
  simp [make_of f11 b11,g4,e19,gg1',r4]
  refine (i_bothN (base:=base) 1 (by decide) (by decide) (some S,0) G2 _ (.agg [ta,tb,ut,xt]) K4 (RdRel.keeps hb1.rd kS) (hm9.keeps k4) ga1 ga2).step fun r3 L3 l3 hr3 => ?_
  obtain ⟨G3,hG3⟩ : ∃ G,G = bothN 1 (fun a b => a && b) (some S,0) G2:=⟨_,rfl⟩
  rw [← hG3] at hr3 hgb hR
  refine rel_stepG (d:=43) (a:=48) (b:=49) (x:=12) (y:=10) (p:=50) (q:=51) (t:=1) o7 l3 hr3 hgb [] ?_ ?_ (by simp) (by decide) (fun _ _ h => h) (fun e3 m3 M3 B ms3 eG3 hh oN3 kk3 hb3 gg3 => ?_) (fun e K2 c eG3 hh kk => ?_)
  · simp [Has]
  · simp
  rotate_left
  · rw [eG3] at hR
    obtain ⟨e10,-⟩:=hh
    simp [e10]
    rw [hR]
    exact ⟨kk,rfl⟩
  obtain ⟨e313,-,-⟩:=hh
  simp only [] at e313
  rw [eG3] at hR hgb
  have o8:=o7.call (l3.trans kk3)
  simp [e313,gg3]
  refine (i_IsEmpty (base:=base) 1 0 (by decide) (by decide) B _ M3 hb3.rd hgb.2.1 hgb.2.1.pos hgb.2.2).step fun v9 K9 k9 hv9 => ?_
  subst hv9
  simp
  rw [hR]
  exact ⟨(o8.call k9).keeps,rfl⟩
theorem law_IsPeriodic (T S : Int) (acc : List Bool) (rows : List (List Int)) (n p : Int) (m : BV) (H : BH) (h : RdL H T S acc rows m) (hn1 : acc.length≤9223372036854775807) (hn : rows.length≤9223372036854775807) (hr : ∀ xs∈rows,xs.length≤9223372036854775807) :
    FnDoes (gam base) 7 [m,.int .i64 n,.int .i64 p] H fun v _ => v = .bool true:=by
  refine FnDoes.of (fn:=ir7) rfl ?_
  obtain ⟨l,hl⟩ : ∃ l : Nat,l = 1000:=⟨_,rfl⟩
  have g:=h
  obtain ⟨u,x,tb,tw,rfl,hu,hx⟩:=h
  have u1:=hu.one
  have x1:=one_of_isSl hx.isSl
  simp [ir7,u1,x1]
  intro n1 b1 f1
  have o1:=Own.start (base:=base) (H:=H) |>.new f1 b1 (s:=.arr 49 [.int .i64 T,.int .i64 S,u,x])
  have r1:=rd_all (o1.at 0 (b:=n1) rfl) (n:=4) (rt:=none) rfl rfl
  simp [make_of f1 b1,r1]
  refine (z_rel (base:=base) T S acc rows _ _ (g.keeps o1.keeps) hn1 hn hr).step fun v K1 k1 hv => ?_
  obtain ⟨z,rfl,hz⟩:=hv
  have o2:=o1.call k1
  by_cases hz0 : z < 0
  · simp [hz0]
    exact o2.keeps
  obtain ⟨m1,m2,m3⟩:=hz (by omega)
  have r1:=rd_all (o2.at 0 (b:=n1) rfl) (n:=4) (rt:=none) rfl rfl
  simp [hz0,r1]
  refine (t_rel (base:=base) T S acc rows _ _ (g.keeps o2.keeps) m1 m2 m3).step fun v K2 k2 hv => ?_
  have o3:=o2.call k2
  simp
  refine (s_IsPeriodic (base:=base) l hl (T,S,acc,rows) n p v K2 hv (by show acc.length≤_; omega)).step fun v' K3 k3 hv' => ?_
  subst hv'
  have o4:=o3.call k3
  have r1:=rd_all (o4.at 0 (b:=n1) rfl) (n:=4) (rt:=none) rfl rfl
  simp [r1]
  refine (t_rel (base:=base) T S acc rows _ _ (g.keeps o4.keeps) m1 m2 m3).step fun w K4 k4 hw => ?_
  have o5:=o4.call k4
  obtain ⟨uu,ww,rfl,hu2,hx2⟩:=id hw
  have u2:=hu2.one
  have x2:=one_of_isSl hx2.isSl
  simp [u2,x2]
  intro n6 b6 f6
  obtain ⟨K5,g5,o6⟩:=(o5.new f6 b6 (s:=.arr 25 [.int .i64 0,.int .i64 0,.nils,.nils])).putAll 0 (b:=n6) (n:=4) (ds:=[encI T,encI S,uu,ww]) rfl rfl rfl (by simp [u2,x2]) (rt:=none) rfl
  obtain ⟨K5',g5',o6'⟩:=(Own.start (base:=base) (H:=K4) |>.new f6 b6 (s:=.arr 25 [.int .i64 0,.int .i64 0,.nils,.nils])).putAll 0 (b:=n6) (n:=4) (ds:=[encI T,encI S,uu,ww]) rfl rfl rfl (by simp [u2,x2]) (rt:=none) rfl
  rw [g5] at g5'
  cases g5'
  have k5:=o6'.keeps
  have r6:=rd_all (o6.at 0 (b:=n6) rfl) (n:=4) (rt:=none) rfl rfl
  simp [make_of f6 b6,g5,r6]
  refine (i_IsPeriodic (base:=base) l hl (T,S,acc,rows) n p _ K5 (hw.keeps k5) (by show acc.length≤_; omega)).step fun v' K6 k6 hv' => ?_
  subst hv'
  have o7:=o6.call k6
  have r6:=rd_all (o7.at 0 (b:=n6) rfl) (n:=4) (rt:=some 25) rfl rfl
  have r1:=rd_all (o7.at 1 (b:=n1) rfl) (n:=4) (rt:=none) rfl rfl
  simp [r6,r1]
  refine (t_rel (base:=base) T S acc rows _ _ (g.keeps o7.keeps) m1 m2 m3).step fun w K7 k7 hw2 => ?_
  simp
  refine (q_rel (base:=base) T S acc rows _ w K7 ((hw.keeps (k5.trans k6)).keeps k7) hw2 (by omega) (by omega) (fun r hr' => by have:=m3 r hr'; omega)).step fun v' K8 k8 hv' => ?_
  subst hv'
  simp
  exact (o7.keeps.trans k7).trans k8
end Go.Proofs.YtbnmhbmhafbmiaaGreatDoor.W
end

section
namespace Go.Proofs.YtbnmhbmhafbmiaaGreatDoor.W
set_option linter.unusedVariables false
set_option linter.unusedSimpArgs false
open Go.B
variable {base : Nat}
attribute [local simp] wpC_skip wpC_region wpC_seq wpC_true wpC_false wpC_block wpC_exit wpC_ret wpO_nil wpO_n wpO_tt wpO_ff wpO_tf wpO_ft wpO_u wpS_mov wpS_pick wpS_build wpS_load wpS_store wpS_nilck wpS_bin wpS_beq wpS_isnil wpS_eqs wpS_not wpS_neg wpS_conv wpS_lea wpS_fld wpS_idx wpS_idxs wpS_slice wpS_sslice wpS_mkfn wpS_mset wpS_look wpS_ext wpS_len wpS_new wpS_box wpS_mk wpS_mkmap wpS_mksl wpS_app wpS_fn wpS_call after_some pthen_n pthen_x pthen_r pin BExit.outOf puto_some puto_none put_eq put_ne Opd.ev argEnv op1_mov op1_pick op1_new op1_box op1_load op1_nilck op1_bin op1_beq op1_not op1_neg op1_conv op1_lea op1_fld op1_len0 op1_len1 op1_idx op1_ext op1_build op1_mk op1_stw op1_mksl op1_eqs pureBin isShift resOf resVals val_tmp val_cell oneOf one_int cells_int one_bool cells_bool one_str cells_str one_nilp cells_nilp one_ptr cells_ptr one_nils cells_nils one_sl cells_sl one_sle cells_sle one_nilm cells_nilm one_mp cells_mp one_nilf cells_nilf one_fn cells_fn one_nili cells_nili cells_agg isSl_sl slen_sl sat_sl make_of asm rtOk wpS_b2s op1_b2s wpS_imax op1_imax wpS_imin op1_imin wpS_i2s op1_i2s op1_isnil Option.map_some gam_base op1_app op1_idxs wpS_idxa op1_idxa op1_sslice bound_none bound_some nat_of op1_mkmap op1_mset op1_look op1_len2 op1_mkfn Go.B.fillB Has
section
variable {H : Type} {enc : TypeId × Value→H} {W : World} {held : Bool}
theorem sls_nil (w : World) (ty sz : Nat) : Sls (heap0 w) ty sz (absV w (.slice none 0 0)) []:=⟨rfl,rfl,fun i x hi => by simp at hi⟩
def fs25 : Array Field:=#[⟨"Tapes",2,0,false,"","",0⟩,⟨"Start",2,1,false,"","",8⟩,⟨"Accept",22,2,false,"","",16⟩,⟨"Next",23,3,false,"","",40⟩]
theorem u25 : Tryz.prog.underlying 49 = some (.struct fs25):=by kernel_rfl
theorem u2 : Tryz.prog.underlying 2 = some (.int .i64):=by kernel_rfl
theorem u4 : Tryz.prog.underlying 4 = some .bool:=by kernel_rfl
theorem u22 : Tryz.prog.underlying 22 = some (.slice 4):=by kernel_rfl
theorem u23 : Tryz.prog.underlying 23 = some (.slice 36):=by kernel_rfl
theorem u37 : Tryz.prog.underlying 36 = some (.slice 2):=by kernel_rfl
theorem open_flags {fuel : Nat} {c : Value} {x : DataW H × List MemPlace} (h : DataW.trod enc Tryz.prog W 0 (fun _ => true) held fuel 22 [c] = some x) :
    ∃ (bs : List Bool) (ty : Nat),Rd (heap0 W) ty (absV W c) (bs.map encB)∧bs.length≤9223372036854775807:=by
  rcases Deep.open_bools u22 u4 (by kernel_rfl) h with ⟨e,_⟩ | ⟨a,len,cap,B,e,_,hl,hm,_,hcell⟩
  · simp at e
    subst e
    exact ⟨[],0,sls_nil W 0 1,by simp⟩
  · simp at e
    subst e
    obtain ⟨ty,hs⟩:=Sls.start (w:=W) (a:=a) (n:=len) (c:=cap) (sz:=1) (xs:=(List.range len).map fun i => [Value.bool (B i)]) (by simp) hl (by omega) (by simp) (by
      intro i x hi j v hj
      rw [List.getElem?_map] at hi
      simp only [Option.map_eq_some_iff] at hi
      obtain ⟨k,hk,rfl⟩:=hi
      obtain ⟨hlt,hkv⟩:=List.getElem?_eq_some_iff.1 hk
      simp at hlt hkv
      subst hkv
      cases j with
      | zero =>
        simp at hj
        subst hj
        simpa using hcell i (by omega)
      | succ j => simp at hj)
    refine ⟨(List.range len).map B,ty,?_,?_⟩
    · unfold Rd
      simpa [List.map_map,Function.comp_def,absV,toB1,one1,encB] using hs
    · simp [maxLen] at hm ⊢
      omega
theorem open_longs {a : Addr} {L C : Nat} {Z : List Int} (hl : L≤C) (hz : Z.length = C) (hcell : ∀ c,c < C→W.cell? (a.add c) = some (.int .i64 (Z.getD c 0))) :
    ∃ ty,Rd (heap0 W) ty (absV W (.slice (some a) L C)) ((Z.take L).map encI):=by
  obtain ⟨ty,hs⟩:=Sls.start (w:=W) (a:=a) (n:=L) (c:=C) (sz:=1) (xs:=(Z.take L).map fun z => [Value.int .i64 z]) (by simp; omega) hl (by omega) (fun x hx => by
    obtain ⟨z,_,rfl⟩:=List.mem_map.1 hx
    rfl) (by
    intro i x hi j v hj
    rw [List.getElem?_map] at hi
    simp only [Option.map_eq_some_iff] at hi
    obtain ⟨k,hk,rfl⟩:=hi
    obtain ⟨hlt,hkv⟩:=List.getElem?_eq_some_iff.1 hk
    rw [List.length_take] at hlt
    rw [List.getElem_take] at hkv
    cases j with
    | zero =>
      simp at hj
      subst hj
      have:=hcell i (by omega)
      rw [List.getD_eq_getElem?_getD,List.getElem?_eq_getElem (by omega)] at this
      rw [← hkv]
      simpa using this
    | succ j => simp at hj)
  refine ⟨ty,?_⟩
  unfold Rd
  simpa [List.map_map,Function.comp_def,absV,toB1,one1,encI] using hs
theorem open_rows {fuel : Nat} {c : Value} {x : DataW H × List MemPlace} (h : DataW.trod enc Tryz.prog W 0 (fun _ => true) held fuel 23 [c] = some x) :
    ∃ (rows : List (List Int)) (ty : Nat),RdQ (heap0 W) ty (absV W c) encI rows∧rows.length≤9223372036854775807∧∀ xs∈rows,xs.length≤9223372036854775807:=by
  rcases Deep.open_int_rows u23 u37 u2 (by kernel_rfl) (by kernel_rfl) h with ⟨e,_⟩ | ⟨a,len,cap,A,L,C,Z,e,_,hl,hm,_,hr⟩
  · simp at e
    subst e
    exact ⟨[],0,⟨[],sls_nil W 0 1,rfl,fun i u xs hu => by simp at hu⟩,by simp,by simp⟩
  · simp at e
    subst e
    obtain ⟨ty,hs⟩:=Sls.start (w:=W) (a:=a) (n:=len) (c:=cap) (sz:=1) (xs:=(List.range len).map fun r => [Value.slice (A r) (L r) (C r)]) (by simp) hl (by omega) (by simp) (by
      intro i x hi j v hj
      rw [List.getElem?_map] at hi
      simp only [Option.map_eq_some_iff] at hi
      obtain ⟨k,hk,rfl⟩:=hi
      obtain ⟨hlt,hkv⟩:=List.getElem?_eq_some_iff.1 hk
      simp at hlt hkv
      subst hkv
      cases j with
      | zero =>
        simp at hj
        subst hj
        simpa using (hr i (by omega)).1
      | succ j => simp at hj)
    refine ⟨(List.range len).map fun r => (Z r).take (L r),ty,⟨(List.range len).map fun r => absV W (.slice (A r) (L r) (C r)),?_,by simp,?_⟩,?_,?_⟩
    · unfold Rd
      simpa [List.map_map,Function.comp_def,one1] using hs
    · intro i u xs hu hx
      have hil : i < len:=by have:=(List.getElem?_eq_some_iff.1 hu).1; simpa using this
      rw [List.getElem?_map,List.getElem?_range hil] at hu hx
      simp at hu hx
      subst hu hx
      obtain ⟨_,g2,g3,g4,_,g6,g7⟩:=hr i (by omega)
      cases hA : A i with
      | none =>
        have hc:=g6 hA
        have hL : L i = 0:=by omega
        rw [hc,hL]
        exact ⟨0,sls_nil W 0 1⟩
      | some a' => exact open_longs g2 g4 (g7 a' hA).2
    · simp [maxLen] at hm ⊢
      omega
    · intro xs hxs
      obtain ⟨r,hr',rfl⟩:=List.mem_map.1 hxs
      obtain ⟨_,g2,g3,g4,_⟩:=hr r (by have:=List.mem_range.1 hr'; omega)
      simp [maxLen] at g3 ⊢
      omega
end
end Go.Proofs.YtbnmhbmhafbmiaaGreatDoor.W
end

section
namespace Go.Proofs
open Go.Shelf Go.B
def Tryz.laysItoa_ren : Go.Shelf.Ren:=⟨fun | 171 => 210 | 243 => 239 | 246 => 256 | 283 => 260 | 284 => 261 | 285 => 262 | 286 => 263 | 129 => 233 | 317 => 266 | 318 => 267 | 319 => 268 | 320 => 269 | 337 => 270 | 338 => 271 | n => n,fun | 3 => 3 | 9 => 9 | 2 => 2 | 4 => 4 | 171 => 234 | 0 => 0 | 53 => 204 | 37 => 33 | 5 => 5 | 173 => 236 | 212 => 239 | 51 => 202 | 20 => 20 | 213 => 240 | 46 => 105 | 232 => 241 | 233 => 242 | n => n,fun | 17 => 3 | 18 => 4 | 19 => 5 | n => n⟩
theorem Tryz.laysItoa : Go.Proofs.LaysM.n171 Tryz.prog Tryz.laysItoa_ren where
  mixed:=by kernel_rfl
  f129:=Tryz.func233.trans (congrArg some (by kernel_rfl))
  f171:=Tryz.func210.trans (congrArg some (by kernel_rfl))
  f243:=Tryz.func239.trans (congrArg some (by kernel_rfl))
  f246:=Tryz.func256.trans (congrArg some (by kernel_rfl))
  f283:=Tryz.func260.trans (congrArg some (by kernel_rfl))
  f284:=Tryz.func261.trans (congrArg some (by kernel_rfl))
  f285:=Tryz.func262.trans (congrArg some (by kernel_rfl))
  f286:=Tryz.func263.trans (congrArg some (by kernel_rfl))
  f317:=Tryz.func266.trans (congrArg some (by kernel_rfl))
  f318:=Tryz.func267.trans (congrArg some (by kernel_rfl))
  f319:=Tryz.func268.trans (congrArg some (by kernel_rfl))
  f320:=Tryz.func269.trans (congrArg some (by kernel_rfl))
  f337:=Tryz.func270.trans (congrArg some (by kernel_rfl))
  f338:=Tryz.func271.trans (congrArg some (by kernel_rfl))
  t0:=Tryz.underlying0
  a0:=Tryz.isAgg0
  z0:=Tryz.sizeOf0
  v0:=Tryz.zeroValue0
  t2:=Tryz.underlying2
  a2:=Tryz.isAgg2
  z2:=Tryz.sizeOf2
  v2:=Tryz.zeroValue2
  t3:=Tryz.underlying3
  a3:=Tryz.isAgg3
  z3:=Tryz.sizeOf3
  v3:=Tryz.zeroValue3
  t4:=Tryz.underlying4
  a4:=Tryz.isAgg4
  z4:=Tryz.sizeOf4
  v4:=Tryz.zeroValue4
  t5:=Tryz.underlying5
  a5:=Tryz.isAgg5
  z5:=Tryz.sizeOf5
  v5:=Tryz.zeroValue5
  t9:=Tryz.underlying9
  a9:=Tryz.isAgg9
  z9:=Tryz.sizeOf9
  v9:=Tryz.zeroValue9
  t20:=Tryz.underlying20
  a20:=Tryz.isAgg20
  z20:=Tryz.sizeOf20
  v20:=Tryz.zeroValue20
  t37:=Tryz.underlying33
  a37:=Tryz.isAgg33
  z37:=Tryz.sizeOf33
  v37:=Tryz.zeroValue33
  t46:=Tryz.underlying105
  a46:=Tryz.isAgg105
  z46:=Tryz.sizeOf105
  v46:=Tryz.zeroValue105
  t51:=Tryz.underlying202
  a51:=Tryz.isAgg202
  z51:=Tryz.sizeOf202
  v51:=Tryz.zeroValue202
  t53:=Tryz.underlying204
  a53:=Tryz.isAgg204
  z53:=Tryz.sizeOf204
  v53:=Tryz.zeroValue204
  t171:=Tryz.underlying234
  a171:=Tryz.isAgg234
  z171:=Tryz.sizeOf234
  v171:=Tryz.zeroValue234
  t173:=Tryz.underlying236
  a173:=Tryz.isAgg236
  z173:=Tryz.sizeOf236
  v173:=Tryz.zeroValue236
  t212:=Tryz.underlying239
  a212:=Tryz.isAgg239
  z212:=Tryz.sizeOf239
  v212:=Tryz.zeroValue239
  t213:=Tryz.underlying240
  a213:=Tryz.isAgg240
  z213:=Tryz.sizeOf240
  t232:=Tryz.underlying241
  a232:=Tryz.isAgg241
  z232:=Tryz.sizeOf241
  v232:=Tryz.zeroValue241
  t233:=Tryz.underlying242
  a233:=Tryz.isAgg242
  z233:=Tryz.sizeOf242
  v233:=Tryz.zeroValue242
  g17:=by kernel_rfl
  g18:=by kernel_rfl
  g19:=by kernel_rfl
  i0:=by kernel_rfl
  i2:=by kernel_rfl
  i3:=by kernel_rfl
  i4:=by kernel_rfl
  i5:=by kernel_rfl
  i9:=by kernel_rfl
  i20:=by kernel_rfl
  i37:=by kernel_rfl
  i46:=by kernel_rfl
  i51:=by kernel_rfl
  i53:=by kernel_rfl
  i171:=by kernel_rfl
  i173:=by kernel_rfl
  i212:=by kernel_rfl
  i232:=by kernel_rfl
  i233:=by kernel_rfl
  m17:=by kernel_rfl
  m18:=by kernel_rfl
  m19:=by kernel_rfl
def Tryz.laysDel_ren : Go.Shelf.Ren:=⟨fun | 23 => 185 | n => n,fun | 22 => 80 | 3 => 3 | 4 => 4 | 0 => 0 | n => n,fun | n => n⟩
theorem Tryz.laysDel : Go.Proofs.Lays2.n23 Tryz.prog Tryz.laysDel_ren where
  mixed:=by kernel_rfl
  f23:=Tryz.func185.trans (congrArg some (by kernel_rfl))
  t0:=Tryz.underlying0
  a0:=Tryz.isAgg0
  z0:=Tryz.sizeOf0
  v0:=Tryz.zeroValue0
  t3:=Tryz.underlying3
  a3:=Tryz.isAgg3
  z3:=Tryz.sizeOf3
  v3:=Tryz.zeroValue3
  t4:=Tryz.underlying4
  a4:=Tryz.isAgg4
  z4:=Tryz.sizeOf4
  v4:=Tryz.zeroValue4
  t22:=Tryz.underlying80
  a22:=Tryz.isAgg80
  z22:=Tryz.sizeOf80
  v22:=Tryz.zeroValue80
  i3:=by kernel_rfl
def Tryz.laysIns_ren : Go.Shelf.Ren:=⟨fun | 21 => 213 | 27 => 240 | 28 => 241 | 35 => 257 | 39 => 264 | n => n,fun | 22 => 80 | 3 => 3 | 4 => 4 | 0 => 0 | n => n,fun | n => n⟩
theorem Tryz.laysIns : Go.Proofs.Lays2.n21 Tryz.prog Tryz.laysIns_ren where
  mixed:=by kernel_rfl
  f21:=Tryz.func213.trans (congrArg some (by kernel_rfl))
  f27:=Tryz.func240.trans (congrArg some (by kernel_rfl))
  f28:=Tryz.func241.trans (congrArg some (by kernel_rfl))
  f35:=Tryz.func257.trans (congrArg some (by kernel_rfl))
  f39:=Tryz.func264.trans (congrArg some (by kernel_rfl))
  t0:=Tryz.underlying0
  a0:=Tryz.isAgg0
  z0:=Tryz.sizeOf0
  v0:=Tryz.zeroValue0
  t3:=Tryz.underlying3
  a3:=Tryz.isAgg3
  z3:=Tryz.sizeOf3
  v3:=Tryz.zeroValue3
  t4:=Tryz.underlying4
  a4:=Tryz.isAgg4
  z4:=Tryz.sizeOf4
  v4:=Tryz.zeroValue4
  t22:=Tryz.underlying80
  a22:=Tryz.isAgg80
  z22:=Tryz.sizeOf80
  v22:=Tryz.zeroValue80
  i3:=by kernel_rfl
theorem tryz_ext {base : Nat} {w0 : World} (htab : Lib.TabIs Tryz.prog w0 "internal/strconv.uint64pow10" .u64 Lib.pow10Tab) : Sound Tryz.prog base w0 False (orC (itoaB 210) (orC (delB base 185 3) (insB base 213 3))) :=
  orC_sound (itoaB_sound (enters_of Tryz.func210 rfl rfl) htab fun n h0 h1 w ht => Any.strconv_Itoa Tryz.laysItoa n h0 h1 w ht)
    (orC_sound (delB_sound (enters_of Tryz.func185 rfl rfl) (by kernel_rfl) fun blk off cap i j zs w hH hc hm hij hj => Any.slices_Delete_int Tryz.laysDel blk off cap i j zs w hH hc hm hij hj)
      (insB_sound (enters_of Tryz.func213 rfl rfl) (by kernel_rfl) (insDoes_of Tryz.laysIns)))
theorem tryz_framed {base : Nat} : Framed (orC (itoaB 210) (orC (delB base 185 3) (insB base 213 3))):=orC_framed (itoaB_framed 210) (orC_framed (delB_framed base 185 3) (insB_framed base 213 3))
end Go.Proofs
end
