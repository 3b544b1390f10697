/-
Texts of our own, put together: S9, S10, Qa, Qb, Qc, Qd, Qe, Qf, Qg, O1, X1.
-/
import Derived.Test.YtbnmhbmhafbmiaaGreatDoorK5
import Derived.Test.YtbnmhbmhafbmiaaGreatDoorProg
import Derived.WalkKit
import Derived.Maps.RangeWalk
import Derived.Maps.OwnOps
import Derived.Below
import Derived.KernelRfl
import Derived.Shelf.Abstract
import Derived.Lib.SlicesCompact
import Derived.Lib.SmallJoins
import Derived.Deep.Grids
import Derived.Deep.Matrix
import Derived.ChangeArms
import Derived.Shelf.Strconv.Itoa3
import Derived.Shelf.Slices.Delete
import Derived.Shelf.Sort.Plain
import Derived.Shelf.Slices.CompactI
import Derived.Ground.NamesProg
import Derived.Ground.Names2Prog
import Derived.Shelf.Spec.SlicesInsertGrow
section
namespace Go.Proofs.YtbnmhbmhafbmiaaGreatDoor.W
set_option linter.unusedVariables false
set_option linter.unusedSimpArgs false
open Go.B
open Go.Au
variable {base : Nat}
attribute [local simp] wpC_skip wpC_region wpC_seq wpC_true wpC_false wpC_block wpC_exit wpC_ret wpO_nil wpO_n wpO_tt wpO_ff wpO_tf wpO_ft wpO_u wpS_mov wpS_pick wpS_build wpS_load wpS_store wpS_nilck wpS_bin wpS_beq wpS_isnil wpS_eqs wpS_not wpS_neg wpS_conv wpS_lea wpS_fld wpS_idx wpS_idxs wpS_slice wpS_sslice wpS_mkfn wpS_mset wpS_look wpS_ext wpS_len wpS_new wpS_box wpS_mk wpS_mkmap wpS_mksl wpS_app wpS_fn wpS_call after_some pthen_n pthen_x pthen_r pin BExit.outOf puto_some puto_none put_eq put_ne Opd.ev argEnv op1_mov op1_pick op1_new op1_box op1_load op1_nilck op1_bin op1_beq op1_not op1_neg op1_conv op1_lea op1_fld op1_len0 op1_len1 op1_idx op1_ext op1_build op1_mk op1_stw op1_mksl op1_eqs pureBin isShift resOf resVals val_tmp val_cell oneOf one_int cells_int one_bool cells_bool one_str cells_str one_nilp cells_nilp one_ptr cells_ptr one_nils cells_nils one_sl cells_sl one_sle cells_sle one_nilm cells_nilm one_mp cells_mp one_nilf cells_nilf one_fn cells_fn one_nili cells_nili cells_agg isSl_sl slen_sl sat_sl make_of asm rtOk wpS_b2s op1_b2s wpS_imax op1_imax wpS_imin op1_imin wpS_i2s op1_i2s op1_isnil Option.map_some gam_base op1_app op1_idxs wpS_idxa op1_idxa op1_sslice bound_none bound_some nat_of op1_mkmap op1_mset op1_look op1_len2 op1_mkfn Go.B.fillB Has
theorem rd_keeps {H K : BH} (k : H.Keeps K) {rt n : Option Nat} {p v : BV} (h : H.rd rt n p = some v) : K.rd rt n p = some v:=by
  cases p with
  | ptr b o =>
    have hne : H.row b≠.fresh:=by
      intro he
      simp [BH.rd,he] at h
    have e : K.row b = H.row b:=k b hne
    have : K.rd rt n (.ptr b o) = H.rd rt n (.ptr b o):=by simp only [BH.rd,e]
    rw [this,h]
  | _ => simp [BH.rd] at h
def En1 (H : BH) (rb len : Nat) (g : Bool) (e : Env) (K : BH) : Prop:=Has e [(0,.ptr rb 0),(1,.bool g),(6,encN len)]∧H.Keeps K
def arrD (A : Aut) (s len l0 d : Nat) : List Nat:=List.replicate (len - d) 0++extD A s len l0 d
theorem arrD_len {A : Aut} {s len l0 d : Nat} (h : d≤len) : (arrD A s len l0 d).length = len:=by simp [arrD,extD_len]; omega
theorem arrD_set {A : Aut} {s len l0 d : Nat} (h : d < len) : (arrD A s len l0 d).set (len - 1 - d) (97 + letB A s len l0 d) = arrD A s len l0 (d + 1):=by
  unfold arrD
  rw [extD_succ,show len - d = len - 1 - d + 1 by omega,List.replicate_succ',show len - (d + 1) = len - 1 - d by omega,List.append_assoc]
  rw [List.set_append_right _ _ (by simp),List.length_replicate,Nat.sub_self]
  rfl
theorem arrD_all (A : Aut) (s len l0 : Nat) : arrD A s len l0 len = extW A s len l0:=by simp [arrD,extD_all]
abbrev encU (b : Nat) : BV:=.int .u8 (b : Int)
theorem end_word (t s w rb len : Nat) (g : Bool) (A : Aut) (H : BH) (h : RdP H rb t s A) (hok : A.Ok w) (hw : 2≤w) (hs : s < A.acc.length) (hn : A.acc.length≤1000000) (hlen : len≤1000000) (l0 : Nat) (hl0 : l0 = if g = true then 1 else 0)
    (e : Env) (K : BH) (hh : En1 H rb len g e K) :
    wpC base (Runs (gam base)) (ir141.body.tl 3) (fun x e' K => (x = .normal∨x = .ret)∧∃ v,resOf ir141.results e' K = some v∧H.Keeps K∧v = .tup (if 40 < len then [.str ⟨#[]⟩,encN 3] else [encW (extW A s len l0),encN 0])) e K:=by
  obtain ⟨R,hR⟩ : ∃ R : BV→BH→Prop,R = fun v K => H.Keeps K∧v = .tup (if 40 < len then [.str ⟨#[]⟩,encN 3] else [encW (extW A s len l0),encN 0]):=⟨_,rfl⟩
  have hR' : (fun (x : BExit) (e' : Env) (K : BH) => (x = .normal∨x = .ret)∧∃ v,resOf ir141.results e' K = some v∧H.Keeps K∧v = .tup (if 40 < len then [.str ⟨#[]⟩,encN 3] else [encW (extW A s len l0),encN 0])) = fun x e' K => (x = .normal∨x = .ret)∧∃ v,resOf ir141.results e' K = some v∧R v K:=by rw [hR]
  rw [hR']
  obtain ⟨⟨e0,e1,e6,-⟩,k⟩:=hh
  simp only [] at e0 e1 e6
  have hl02 : l0 < 2:=by rw [hl0]; split <;> omega
  by_cases h40 : 40 < len
  · have h40' : (40 : Int) < (len : Int):=by omega
    simp [ir141,BCode.tl,e6,h40,h40']
    rw [hR]
    exact ⟨k,by rw [if_pos h40]; rfl⟩
  have h40' : ¬ (40 : Int) < (len : Int):=by omega
  simp [ir141,BCode.tl,e0,e6,h40,h40']
  refine (s_Reached (base:=base) t s w rb len A K (h.keeps k) hok hw hs hn (by omega)).step fun v7 K1 k1 hv => ?_
  obtain ⟨wo,vs,fr,o,hv',hrows⟩:=hv
  have hrr:=rows_rd o hv' hrows
  have hP:=(h.keeps k).keeps k1
  have kk:=k.trans k1
  clear o hv' hrows
  obtain ⟨u,x,hr,hu,hx⟩:=id hP
  have c1 : (len : Int)≤140737488355328:=by omega
  simp [e6,c1]
  intro n8 b8 f8
  have o1:=Own.start (base:=base) (H:=K1) |>.new f8 b8 (s:=.arr 5 (List.replicate len (.int .u8 0)))
  simp [make_of f8 b8]
  intro n9 b9 f9
  simp [make_of f9 b9]
  have o2:=o1.new f9 b9 (s:=.arr 4 [])
  -- the states at the end
  obtain ⟨fb,hfb⟩ : ∃ fb : Nat→Bool,fb = fun p => A.acc.getD p false && (reachB A s len).getD p false:=⟨_,rfl⟩
  have l7 : v7.slen = len + 1:=by rw [hrr.len]; simp
  obtain ⟨I,hI⟩ : ∃ I : Nat→Env→BH→Prop,I = (fun i e K => e 10 = encN i∧∃ v9 bo,e 9 = v9∧Own base K1 K [(bo,.arr 4 (((List.range i).map fb).map encB)),(some n8,.arr 5 (List.replicate len (.int .u8 0)))]∧Vec bo v9 i):=⟨_,rfl⟩
  refine wpC_countK A.acc.length [(0,.ptr rb 0),(1,.bool g),(6,encN len),(7,v7),(8,.sl n8 0 len)] I (i0:=0) rfl ?_ ?_ (Nat.zero_le _) ?_
  · simp [e0,e1,e6]
  · rw [hI]; exact ⟨by simp,.sl n9 0 0,some n9,by simp,by simpa using o2,rfl⟩
  clear o1 o2 e0 e1 e6
  rintro i e K hi ⟨e0,e1,e6,e7,e8,-⟩ hh
  rw [hI] at hh
  obtain ⟨e10,v9,bo,e9,o,hv9⟩:=hh
  simp only [] at e0 e1 e6 e7 e8
  have hrk : K.row rb = .arr 25 [encN t,encN s,u,x]:=by rw [o.keeps rb (by rw [hr]; simp),hr]
  have r2:=rd_ptr hrk (rt:=none) (j:=2) (c:=u) rfl rfl
  have hu':=hu.keeps o.keeps
  by_cases hlt : i < A.acc.length
  · have wi:=wS (n:=i) (by omega)
    have g1:=hu'.at (i:=i) hlt (rt:=none) rfl
    have d1:=getD_get (L:=A.acc) rfl hlt
    have hrr':=hrr.keeps o.keeps
    obtain ⟨row,q1,q2⟩:=hrr'.at (i:=len) (by simp)
    have q2:=q2 none rfl
    have q1' : Rd K 4 row ((reachB A s len).map encB):=by simpa using q1
    have g2:=q1'.at (i:=i) (by rw [reachB_len]; exact hlt) (rt:=none) rfl
    have d2:=getD_get (reachB_len A s len) hlt
    have hl1 : (len : Int) < (len : Int) + 1:=by omega
    have hil : ((i : Nat) : Int) < (A.acc.length : Int):=by omega
    have fin : ∀ (b : Bool),fb i = b→∀ {n1 n2 : Nat} (f1 : K.row n1 = .fresh) (b1 : base≤n1) (f2 : (K.set n1 (.arr 4 [.bool b])).row n2 = .fresh) (b2 : base≤n2),∃ v' K',(K.set n1 (.arr 4 [.bool b])).appd base n2 4 1 1 v9 (.sl n1 0 1) = some (v',K') ∧
        ∃ bo',Own base K1 K' [(bo',.arr 4 (((List.range (i + 1)).map fb).map encB)),(some n8,.arr 5 (List.replicate len (.int .u8 0)))]∧Vec bo' v' (i + 1):=by
      intro b hb n1 n2 f1 b1 f2 b2
      obtain ⟨v',K',b',p1,p2,p3⟩:=o.push 0 rfl (by simpa using hv9) (x:=.bool b) (bytes:=1) rfl (by simp; omega) (by simp; omega) f1 b1 f2 b2
      refine ⟨v',K',p1,some b',?_,by simpa using p3⟩
      rw [List.range_succ,List.map_append,List.map_append]
      have : (List.map encB (List.map fb [i])) = [.bool b]:=by simp [hb]
      rw [this]
      exact p2
    cases ha : A.acc[i] with
    | false =>
      rw [ha] at g1 d1
      simp [e0,e9,e10,r2,hu'.isSl,hu'.lenM,hlt,hil,g1]
      intro n1 b1 f1
      simp [make_of f1 b1]
      intro n2 b2 f2
      obtain ⟨v',K',p1,bo',p2,p3⟩:=fin false (by rw [hfb]; simp only [d1,Bool.false_and]) f1 b1 f2 b2
      simp [p1,e10,wi,hlt]
      rw [hI]
      exact ⟨by simp,v',bo',by simp,p2,p3⟩
    | true =>
      rw [ha] at g1 d1
      cases hb : (reachB A s len)[i]'(by rw [reachB_len]; exact hlt) with
      | false =>
        rw [hb] at g2 d2
        simp [e0,e6,e7,e9,e10,r2,hu'.isSl,hu'.lenM,hlt,hil,g1,hrr'.isSl,l7,hl1,q2,q1'.isSl,q1'.lenM,reachB_len,g2]
        intro n1 b1 f1
        simp [make_of f1 b1]
        intro n2 b2 f2
        obtain ⟨v',K',p1,bo',p2,p3⟩:=fin false (by rw [hfb]; simp only [d2,Bool.and_false]) f1 b1 f2 b2
        simp [p1,e10,wi,hlt]
        rw [hI]
        exact ⟨by simp,v',bo',by simp,p2,p3⟩
      | true =>
        rw [hb] at g2 d2
        simp [e0,e6,e7,e9,e10,r2,hu'.isSl,hu'.lenM,hlt,hil,g1,hrr'.isSl,l7,hl1,q2,q1'.isSl,q1'.lenM,reachB_len,g2]
        intro n1 b1 f1
        simp [make_of f1 b1]
        intro n2 b2 f2
        obtain ⟨v',K',p1,bo',p2,p3⟩:=fin true (by rw [hfb]; simp only [d1,d2,Bool.and_self]) f1 b1 f2 b2
        simp [p1,e10,wi,hlt]
        rw [hI]
        exact ⟨by simp,v',bo',by simp,p2,p3⟩
  have hie : i = A.acc.length:=by omega
  subst hie
  have wl:=wsub1 (n:=len) (by omega)
  simp [e0,e6,e10,r2,hu'.isSl,hu'.lenM,wl]
  -- the letters, from the end
  have hE0 : (List.range A.acc.length).map fb = endB A s len l0 0:=by rw [hfb]; rfl
  rw [hE0] at o
  clear hE0
  obtain ⟨J,hJ⟩ : ∃ J : Nat→Env→BH→Prop,J = (fun d e K => e 11 = .int .i64 ((len : Int) - 1 - d)∧∃ v9 bo,e 9 = v9∧Own base K1 K [(bo,.arr 4 ((endB A s len l0 d).map encB)),(some n8,.arr 5 ((arrD A s len l0 d).map encU))]∧Vec bo v9 A.acc.length):=⟨_,rfl⟩
  refine wpC_countK len [(0,.ptr rb 0),(1,.bool g),(6,encN len),(7,v7),(8,.sl n8 0 len)] J (i0:=0) rfl ?_ ?_ (Nat.zero_le _) ?_
  · simp [e0,e1,e6,e7,e8]
  · rw [hJ]
    refine ⟨by simp,v9,bo,by simp [e9],?_,hv9⟩
    have : (arrD A s len l0 0).map encU = List.replicate len (.int .u8 0):=by simp [arrD,extD]
    rw [this]
    exact o
  clear o e0 e1 e6 e7 e8 e9 e10 hrk r2 hu' hlt
  rintro d e K hd ⟨e0,e1,e6,e7,e8,-⟩ hh
  rw [hJ] at hh
  obtain ⟨e11,v9,bo,e9,o,hv9⟩:=hh
  simp only [] at e0 e1 e6 e7 e8
  by_cases hlt : d < len
  · obtain ⟨D,hD⟩ : ∃ D,D = len - 1 - d:=⟨_,rfl⟩
    rw [show ((len : Int) - 1 - d) = (D : Int) by omega] at e11
    have hrr':=hrr.keeps o.keeps
    obtain ⟨row,q1,q2⟩:=hrr'.at (i:=D) (by simp; omega)
    have q2:=q2 none rfl
    have q1' : Rd K 4 row ((reachB A s D).map encB):=by simpa using q1
    have hE:=o.rd (ty:=4) 0 rfl (by simpa [endB_len] using hv9)
    have hDl : (D : Int) < (len : Int) + 1:=by omega
    have hDl2 : D < len + 1:=by omega
    have hDlen : D < len:=by omega
    have wD:=wsub1 (n:=D) (by omega)
    obtain ⟨F,hF⟩ : ∃ F,F = reachB A s D:=⟨_,rfl⟩
    obtain ⟨T,hT⟩ : ∃ T,T = endB A s len l0 d:=⟨_,rfl⟩
    have hFl : F.length = A.acc.length:=by rw [hF]; exact reachB_len _ _ _
    have hTl : T.length = A.acc.length:=by rw [hT]; exact endB_len _ _ _ _ _
    rw [← hF] at q1'
    rw [← hT] at hE
    have hset:=arrD_set (A:=A) (s:=s) (l0:=l0) hlt
    have hend : endB A s len l0 (d + 1) = if anyB (befB A F T l0) = true then befB A F T l0 else befB A F T (1 - l0):=by rw [endB,← hD,← hF,← hT]
    have hlet : letB A s len l0 d = if anyB (befB A F T l0) = true then l0 else 1 - l0:=by rw [letB,← hD,← hF,← hT]
    have wu : ∀ l : Nat,l < 2→IntKind.u8.wrap (IntKind.i64.wrap (97 + (l : Int))) = ((97 + l : Nat) : Int):=by
      intro l hl
      have : l = 0∨l = 1:=by omega
      rcases this with rfl | rfl <;> rfl
    rw [← hT] at o
    have wz : IntKind.i64.wrap 0 = 0:=rfl
    have wo1 : IntKind.i64.wrap 1 = 1:=rfl
    have wu0 : IntKind.u8.wrap (IntKind.i64.wrap 97) = 97:=rfl
    have wu1 : IntKind.u8.wrap (IntKind.i64.wrap 98) = 98:=rfl
    have hstep : ((len : Int) - 1 - ((d + 1 : Nat) : Int)) = (D : Int) - 1:=by omega
    cases g
    all_goals
      simp at hl0
      subst hl0
      simp [e0,e1,e6,e7,e9,e11,hrr'.isSl,l7,hDl,hDl2,q2]
      refine (s_Before (base:=base) t s w rb _ A F T _ _ K (hP.keeps o.keeps) hok (by first | exact (show 0 < w by omega) | exact (show 1 < w by omega)) q1' hE hFl hTl hn).step fun v14 Ka ka hv => ?_
      obtain ⟨bo1,hv14,hfr1⟩:=hv
      have o1:=o.take ka hv14 hfr1
      simp
      refine callP (s_Any _ v14 Ka hv14.rd (by rw [befB_len]; exact hn)) ?_
    · cases hb : anyB (befB A F T 0) with
      | true =>
        rw [hb] at hend hlet
        simp only [if_true] at hend hlet
        obtain ⟨K5,g5,o5⟩:=o1.put 2 (b:=n8) rfl (j:=D) (u:=.int .u8 97) (by simp [arrD_len hd]; omega) rfl (rt:=none) rfl
        simp [e8,e11,hDlen,wu0,g5,wD,hlt]
        rw [hJ]
        refine ⟨by simp; omega,v14,bo1,by simp,?_,by simpa [befB_len] using hv14.vec⟩
        rw [hend,← hset,hlet,List.map_set,← hD]
        exact o5.sub (List.Sublist.cons_cons _ (List.sublist_cons_self _ _))
      | false =>
        rw [hb] at hend hlet
        simp only [Bool.false_eq_true,if_false] at hend hlet
        have q2' : Ka.rd none none (v7.sat D 1) = some row:=rd_keeps ka q2
        simp [e0,e7,e9,e11,hrr'.isSl,l7,hDl,hDl2,wo1,q2']
        refine (s_Before (base:=base) t s w rb _ A F T _ _ Ka (hP.keeps o1.keeps) hok (by first | exact (show 0 < w by omega) | exact (show 1 < w by omega)) (q1'.keeps ka) (hE.keeps ka) hFl hTl hn).step fun v15 Kb kb hv => ?_
        obtain ⟨bo2,hv15,hfr2⟩:=hv
        have o2:=o1.take kb hv15 hfr2
        obtain ⟨K5,g5,o5⟩:=o2.put 3 (b:=n8) rfl (j:=D) (u:=.int .u8 98) (by simp [arrD_len hd]; omega) rfl (rt:=none) rfl
        simp [e8,e11,hDlen,wu1,g5,wD,hlt]
        rw [hJ]
        refine ⟨by simp; omega,v15,bo2,by simp,?_,by simpa [befB_len] using hv15.vec⟩
        rw [hend,← hset,hlet,List.map_set,← hD]
        exact o5.sub (List.Sublist.cons_cons _ ((List.sublist_cons_self _ _).trans (List.sublist_cons_self _ _)))
    · cases hb : anyB (befB A F T 1) with
      | true =>
        rw [hb] at hend hlet
        simp only [if_true] at hend hlet
        obtain ⟨K5,g5,o5⟩:=o1.put 2 (b:=n8) rfl (j:=D) (u:=.int .u8 98) (by simp [arrD_len hd]; omega) rfl (rt:=none) rfl
        simp [e8,e11,hDlen,wu1,g5,wD,hlt]
        rw [hJ]
        refine ⟨by simp; omega,v14,bo1,by simp,?_,by simpa [befB_len] using hv14.vec⟩
        rw [hend,← hset,hlet,List.map_set,← hD]
        exact o5.sub (List.Sublist.cons_cons _ (List.sublist_cons_self _ _))
      | false =>
        rw [hb] at hend hlet
        simp only [Bool.false_eq_true,if_false] at hend hlet
        have q2' : Ka.rd none none (v7.sat D 1) = some row:=rd_keeps ka q2
        simp [e0,e7,e9,e11,hrr'.isSl,l7,hDl,hDl2,wz,q2']
        refine (s_Before (base:=base) t s w rb _ A F T _ _ Ka (hP.keeps o1.keeps) hok (by first | exact (show 0 < w by omega) | exact (show 1 < w by omega)) (q1'.keeps ka) (hE.keeps ka) hFl hTl hn).step fun v15 Kb kb hv => ?_
        obtain ⟨bo2,hv15,hfr2⟩:=hv
        have o2:=o1.take kb hv15 hfr2
        obtain ⟨K5,g5,o5⟩:=o2.put 3 (b:=n8) rfl (j:=D) (u:=.int .u8 97) (by simp [arrD_len hd]; omega) rfl (rt:=none) rfl
        simp [e8,e11,hDlen,wu0,g5,wD,hlt]
        rw [hJ]
        refine ⟨by simp; omega,v15,bo2,by simp,?_,by simpa [befB_len] using hv15.vec⟩
        rw [hend,← hset,hlet,List.map_set,← hD]
        exact o5.sub (List.Sublist.cons_cons _ ((List.sublist_cons_self _ _).trans (List.sublist_cons_self _ _)))
  · have hde : d = len:=by omega
    subst hde
    rw [show ((d : Int) - 1 - d) = -1 by omega] at e11
    rw [arrD_all] at o
    simp [-op1_b2s,e8,e11]
    have o' : Own base K1 K ((some n8,.arr 5 ((extW A s d l0).map encU))::[(bo,.arr 4 ((endB A s d l0 d).map encB))]):=o.perm (List.Perm.swap _ _ _)
    rw [u8str (xs:=extW A s d l0) (v:=.sl n8 0 d) o' (by simp [Vec,extW_len]) (by simp [e8])]
    simp
    rw [hR]
    exact ⟨kk.trans o.keeps,by rw [if_neg h40]; rfl⟩
end Go.Proofs.YtbnmhbmhafbmiaaGreatDoor.W
end

section
namespace Go.Proofs.YtbnmhbmhafbmiaaGreatDoor.Cnt
open Go.RowKit Go.Maps
open Go.WideElems (Fit rd rg pl rd_val elemAt)
theorem law3 : Keyed Tryz.prog 3:=int_keyed Tryz.underlying3
theorem zero2 (w : World) : (zeroValue 2).run Tryz.prog w = .ok (.int .i64 0) w:=by kernel_rfl
theorem wf_cap (a : Int) : (Lit.int .i64 (min (wrap64 a) 1000000001)).wf = true:=by
  rw [Int.min_def]
  split
  · exact wrap64_wf _
  · exact WalkArith.wf_i64 (by omega)
section
variable {H : Type}
theorem same_int (x y : Int) : (Lit.int .i64 x).sameKey (.int .i64 y) = decide (x = y):=by
  by_cases h : x = y
  · subst h
    simp [Lit.sameKey]
  · rw [sameKey_ne (fun e => h (by cases e; rfl))]
    simp [h]
theorem tight {w : World} {b N n : Nat} {D : DataW H} (h : w.ownsMap Tryz.prog 3 (plainElem Tryz.prog 2) b N D) (hk : ∀ x : Int,Maps.has D (.int .i64 x) = true→∃ q : Nat,q < n∧x = q) : w.ownsMap Tryz.prog 3 (plainElem Tryz.prog 2) b n D:=by
  obtain ⟨es,clock,hb,F,hs,rfl⟩:=h
  refine ⟨es,clock,hb,F,?_,rfl⟩
  have hkeys:=Maps.fit_keys F
  have hap:=Maps.fit_apart law3 F
  obtain ⟨l,hl⟩ : ∃ l : List (Lit × DataW H),l = es.toList.map (rg Tryz.prog 3 (plainElem Tryz.prog 2)):=⟨_,rfl⟩
  rw [← hl] at hkeys hap hk
  have hlen : es.size = l.length:=by rw [hl]; simp
  have hint : ∀ p∈l,∃ q : Nat,q < n∧p.1 = .int .i64 (q : Int):=fun p hp => by
    obtain ⟨v,hv⟩:=hkeys p hp
    obtain ⟨x,-,hx,-⟩:=Maps.keyOf_int_inv Tryz.underlying3 hv
    have hh : Maps.has (.map (l.foldr DataW.insert [])) (.int .i64 x) = true:=by
      rw [has_eq,List.any_eq_true]
      exact ⟨p,(Go.WideShapes.sorted_perm l).mem_iff.2 hp,by rw [hx,same_int]; simp⟩
    obtain ⟨q,hq,rfl⟩:=hk x hh
    exact ⟨q,hq,hx⟩
  obtain ⟨f,hf⟩ : ∃ f : Lit × DataW H→Nat,f = fun p => match p.1 with | .int _ x => x.toNat | _ => 0:=⟨_,rfl⟩
  have hnd : (l.map f).Nodup:=by
    unfold List.Nodup
    rw [List.pairwise_map]
    refine hap.imp_of_mem fun {p q} hp hq hne he => hne ?_
    obtain ⟨a,-,ea⟩:=hint p hp
    obtain ⟨c,-,ec⟩:=hint q hq
    rw [hf] at he
    simp only [ea,ec] at he
    rw [ea,ec]
    have : a = c:=by simpa using he
    rw [this]
  have:=Go.Au.nodup_le (ys:=List.range n) hnd fun x hx => by
    obtain ⟨p,hp,rfl⟩:=List.mem_map.1 hx
    obtain ⟨a,ha,ea⟩:=hint p hp
    rw [hf]
    show (match p.1 with | .int _ x => x.toNat | _ => 0)∈List.range n
    rw [ea]
    exact List.mem_range.2 (by simpa using ha)
  rw [List.length_map,List.length_range] at this
  omega
theorem wpList_insert_own {P : Program} (w : World) {ops : Array Oper} {rest : List Oper} {o : Oper} {a : Act} {Q : Exit→Act→World→Prop}
    (hg : o.guard = none) (m x v : Operand) (t : TypeId) (hop : o.op = Op.insert t m x v)
    (k e : TypeId) (K : Keyed P k) (ht : P.underlying t = some (.map k e)) (R : Value→Option (DataW H × List MemPlace)) (b n : Nat) (D : DataW H)
    (hm : a.eval m = .map (some b)) (hown : w.ownsMap P k R b n D) (hn : n < maxLen) (key val : Value) (kl : Lit) (hx : a.eval x = key) (hv : a.eval v = val) (hkey : keyOf P k key = some kl)
    (d : DataW H) (ps : List MemPlace) (hval : R val = some (d,ps))
    (hK : ∀ w',w'.ownsMap P k R b (n + 1) (D.put kl d)→w.grownBy w' (some b)→wpList P ops Q rest (a.put o.dst undef) w') :
    wpList P ops Q (o::rest) a w:=by
  refine wpList_plain hg fun K' hK' => ?_
  obtain ⟨w',hrun,r1,r2⟩:=hown.update K ht hn hkey hval
  unfold Oper.wp
  simp [execOp,hop,hm,hx,hv,hrun,Result.andThen]
  exact hK' _ _ (hK w' r1 r2)
end
def stepK (F : Nat→Int) (to : Nat→Nat→Nat) (W : Nat) (S : Nat→Prop) : Nat→Prop:=fun x => ∃ q,S q∧0≤F q∧∃ c,c < W∧x = to q c
def reachK (F : Nat→Int) (to : Nat→Nat→Nat) (W s : Nat) : Nat→Nat→Prop
  | 0 => fun x => x = s
  | k + 1 => stepK F to W (reachK F to W s k)
theorem reachK_lt {F : Nat→Int} {to : Nat→Nat→Nat} {W s n : Nat} (hs : s < n) (hto : ∀ i c,i < n→c < W→to i c < n) : ∀ k x,reachK F to W s k x→x < n
  | 0,x,h => by
    have : x = s:=h
    omega
  | k + 1,x,h => by
    obtain ⟨q,hq,-,c,hc,rfl⟩:=h
    exact hto q c (reachK_lt hs hto k q hq) hc
def KeysIs {H : Type} (D : DataW H) (S : Nat→Prop) : Prop:=∀ x : Int,Maps.has D (.int .i64 x) = true↔∃ q : Nat,S q∧x = q
theorem KeysIs.empty {H : Type} : KeysIs (.map [] : DataW H) fun _ => False:=fun x => by simp [Maps.has]
theorem KeysIs.put {H : Type} {D : DataW H} {S : Nat→Prop} (h : KeysIs D S) (hm : IsMap D) (q : Nat) (d : DataW H) : KeysIs (D.put (.int .i64 q) d) fun x => S x∨x = q:=fun x => by
  by_cases e : x = q
  · subst e
    rw [has_put_same hm (show WideAt.IsKeyLit (.int .i64 (q : Int)) from trivial)]
    simp
  · rw [has_put_other (fun he => e (by cases he; rfl)),h x]
    constructor
    · rintro ⟨y,h1,rfl⟩
      exact ⟨y,.inl h1,rfl⟩
    · rintro ⟨y,h1 | rfl,rfl⟩
      · exact ⟨y,h1,rfl⟩
      · exact absurd rfl e
theorem KeysIs.congr {H : Type} {D : DataW H} {S S' : Nat→Prop} (h : KeysIs D S) (e : ∀ x,S x↔S' x) : KeysIs D S':=fun x => by
  rw [h x]
  exact exists_congr fun q => and_congr_left fun _ => e q
theorem ranges_has {H : Type} {w : World} {b r n cnt : Nat} {D : DataW H} {left : Lit→Bool} (h : w.ranges Tryz.prog 3 (plainElem Tryz.prog 2) b r n D left cnt) {x : Int} (hx : left (.int .i64 x) = true) : Maps.has D (.int .i64 x) = true:=by
  obtain ⟨es,clock,since,seen,c0,h1,h2,h3,rfl,h5,h6,h7,h8,h9,h10⟩:=h
  obtain ⟨y,hy,he⟩:=h9 _ hx
  rw [has_eq,List.any_eq_true]
  exact ⟨rg Tryz.prog 3 (plainElem Tryz.prog 2) y,(Go.WideShapes.sorted_perm _).mem_iff.2 (List.mem_map.2 ⟨y,hy,rfl⟩),by rw [he,same_int]; simp⟩
theorem cell_lt {w : World} {p : Addr} {v : Value} (h : w.cell? p = some v) : p.block < w.heap.size:=by
  rcases Nat.lt_or_ge p.block w.heap.size with h1 | h1
  · exact h1
  · unfold World.cell? at h
    rw [Array.getElem?_eq_none h1] at h
    cases h
def laidK (F : Nat→Int) (to : Nat→Nat→Nat) (W : Nat) (S : Nat→Prop) (left : Lit→Bool) : Nat→Prop:=fun x => ∃ q,S q∧left (.int .i64 q) = false∧0≤F q∧∃ c,c < W∧x = to q c
theorem laid_lt {F : Nat→Int} {to : Nat→Nat→Nat} {W n : Nat} {S : Nat→Prop} {left : Lit→Bool} (hS : ∀ q,S q→q < n) (hto : ∀ i c,i < n→c < W→to i c < n) {x : Nat} (h : laidK F to W S left x) : x < n:=by
  obtain ⟨q,h1,-,-,c,hc,rfl⟩:=h
  exact hto q c (hS q h1) hc
theorem laid_skip {F : Nat→Int} {to : Nat→Nat→Nat} {W : Nat} {S : Nat→Prop} {left : Lit→Bool} {q : Nat} (hq : F q < 0) (x : Nat) : laidK F to W S left x↔laidK F to W S (fun z => left z && !z.sameKey (.int .i64 q)) x:=by
  unfold laidK
  constructor
  · rintro ⟨q',h1,h2,h3⟩
    exact ⟨q',h1,by simp [h2],h3⟩
  · rintro ⟨q',h1,h2,h3,h4⟩
    refine ⟨q',h1,?_,h3,h4⟩
    have h2 : (left (.int .i64 q') && !(Lit.int .i64 (q' : Int)).sameKey (.int .i64 q)) = false:=h2
    rw [same_int] at h2
    by_cases e : (q' : Int) = q
    · have : q' = q:=by omega
      subst this
      omega
    · simpa [e] using h2
theorem laid_take {F : Nat→Int} {to : Nat→Nat→Nat} {W : Nat} {S : Nat→Prop} {left : Lit→Bool} {q : Nat} (hS : S q) (hq : 0≤F q) (x : Nat) : (laidK F to W S left x∨∃ c,c < W∧x = to q c)↔laidK F to W S (fun z => left z && !z.sameKey (.int .i64 q)) x:=by
  unfold laidK
  constructor
  · rintro (⟨q',h1,h2,h3⟩ | h)
    · exact ⟨q',h1,by simp [h2],h3⟩
    · exact ⟨q,hS,by show (left _ && !(Lit.int .i64 (q : Int)).sameKey (.int .i64 q)) = false; rw [same_int]; simp,hq,h⟩
  · rintro ⟨q',h1,h2,h3,h4⟩
    have h2 : (left (.int .i64 q') && !(Lit.int .i64 (q' : Int)).sameKey (.int .i64 q)) = false:=h2
    rw [same_int] at h2
    by_cases e : (q' : Int) = q
    · have : q' = q:=by omega
      subst this
      exact .inr h4
    · exact .inl ⟨q',h1,by simpa [e] using h2,h3,h4⟩
theorem isMap_of {H : Type} {w : World} {b N : Nat} {D : DataW H} (h : w.ownsMap Tryz.prog 3 (plainElem Tryz.prog 2) b N D) : IsMap D:=by
  obtain ⟨es,clock,hb,F,hs,rfl⟩:=h
  exact ⟨_,rfl⟩
end Go.Proofs.YtbnmhbmhafbmiaaGreatDoor.Cnt
end

section
namespace Go.Proofs.YtbnmhbmhafbmiaaGreatDoor.Cnt
open Go.RowKit Go.Maps
set_option maxRecDepth 100000 in
theorem count_raw {H : Type} (W n : Nat) (t : Int) (s : Nat) (ba oa bb ob ca cb : Nat) (B : Nat→Bool) (F : Nat→Int) (to : Nat→Nat→Nat) (rb ro rc : Nat→Nat) (w : World) (hs : s < n) (hn : n≤100000) (hW : W≤100)
    (hacc : ∀ i,i < n→w.cell? ⟨ba,oa + i,none⟩ = some (.bool (B i)))
    (hrow : ∀ i,i < n→w.cell? ⟨bb,ob + i,none⟩ = some (.slice (some ⟨rb i,ro i,none⟩) W (rc i)))
    (hto : ∀ i c,i < n→c < W→w.cell? ⟨rb i,ro i + c,none⟩ = some (.int .i64 (to i c))∧to i c < n)
    (hfar : ∀ w1,Below w.heap.size w w1→Calls Tryz.prog 198 #[.agg #[.int .i64 t,.int .i64 s,.slice (some ⟨ba,oa,none⟩) n ca,.slice (some ⟨bb,ob,none⟩) n cb]] w1 fun e w2 => ∃ fb fo cap,e = .returned (.slice (some ⟨fb,fo,none⟩) n cap)∧Below w1.heap.size w1 w2∧∀ i,i < n→w2.cell? ⟨fb,fo + i,none⟩ = some (.int .i64 (F i))) :
    Calls Tryz.prog 143 #[.agg #[.int .i64 t,.int .i64 s,.slice (some ⟨ba,oa,none⟩) n ca,.slice (some ⟨bb,ob,none⟩) n cb]] w fun e w' => ∃ c ok,e = .returned (.tuple #[.int .i64 c,.bool ok])∧(ok = true↔∀ q,reachK F to W s (n + 1) q→F q < 0)∧Below w.heap.size w w':=by
  have hmm:=@run_makeMap Tryz.prog
  go_enter Tryz.func143,Tryz.ntmps143
  go_wp2_with (first
    | (go_at_call 198; refine (hfar _ ((Below.refl _ _).alloc (Nat.le_refl _) _)).mono ?_; rintro e w1 ⟨fb,fo,cap,rfl,hbel,hF⟩; have hx1 : w1.cell? ⟨w.heap.size,1,none⟩ = some (.int .i64 s):=by rw [hbel.cell (by simp)]; simp
       have hx2 : w1.cell? ⟨w.heap.size,2,none⟩ = some (.slice (some ⟨ba,oa,none⟩) n ca):=by rw [hbel.cell (by simp)]; simp
       have hx3 : w1.cell? ⟨w.heap.size,3,none⟩ = some (.slice (some ⟨bb,ob,none⟩) n cb):=by rw [hbel.cell (by simp)]; simp
       have hsz : w.heap.size < w1.heap.size:=by have:=hbel.size; simp at this; omega
       have hx4 : (w1.alloc (.map #[] 0)).cell? ⟨w.heap.size,1,none⟩ = some (.int .i64 s):=by rw [((Below.refl w1.heap.size w1).alloc (Nat.le_refl _) _).cell (by exact hsz)]; exact hx1)
    | (refine wpList_insert_own _ rfl _ _ _ 173 rfl 3 2 law3 Tryz.underlying173 (plainElem (H:=H) Tryz.prog 2) w1.heap.size 0 (.map []) rfl (World.ownsMap_made _ _ _ _) (by unfold maxLen; omega) _ _ _ rfl rfl (keyOf_int_mk Tryz.underlying3 (WalkArith.wf_i64 (by omega))) _ [] (plainElem_int Tryz.underlying2 (WalkArith.wf_i64 (by omega))) ?_; intro w2 hown2 hg2)
    | go_in)
  have hbw : Below w.heap.size w w1:=((Below.refl _ _).alloc (Nat.le_refl _) _).trans (hbel.mono (by simp))
  have hb2 : Below w1.heap.size w1 w2:=((Below.refl _ _).alloc (Nat.le_refl _) _).grown hg2 (by simp) (fun j hj => by cases hj; exact Nat.le_refl _)
  go_loopw [5,6,7] (fun c mp i wr => ∃ (k b : Nat) (D : DataW H) (cv : Int),i = .int .i64 k∧k≤n + 1∧mp = .map (some b)∧c = .int .i64 cv∧w1.heap.size≤b∧wr.ownsMap Tryz.prog 3 (plainElem Tryz.prog 2) b n D∧KeysIs D (reachK F to W s k)∧Below w1.heap.size w1 wr)
    (fun _ _ i _ => n + 1 - (intOf i).toNat)
  case atStart =>
    refine ⟨0,w1.heap.size,_,0,rfl,by omega,rfl,rfl,Nat.le_refl _,hown2.mono (by omega),?_,hb2⟩
    exact (KeysIs.empty.put isMap_empty s _).congr fun x => by simp [reachK]
  case round =>
    obtain ⟨k,b,D,cv,rfl,hk,rfl,rfl,hb,hown,hkeys,hbr⟩:=hrel
    have hy2 : wr.cell? ⟨w.heap.size,2,none⟩ = some (.slice (some ⟨ba,oa,none⟩) n ca):=by rw [hbr.cell (by exact hsz)]; exact hx2
    have hy3 : wr.cell? ⟨w.heap.size,3,none⟩ = some (.slice (some ⟨bb,ob,none⟩) n cb):=by rw [hbr.cell (by exact hsz)]; exact hx3
    go_wp2_with (first
      | (at_range; refine wpList_range_own _ rfl _ 173 rfl 3 2 law3 Tryz.underlying173 _ b n D rfl (hown.alloc _) ?_; intro w3 hrg3 hg3 hs3)
      | (at_range; refine wpList_range_own _ rfl _ 173 rfl 3 2 law3 Tryz.underlying173 _ b n D rfl hown ?_; intro w3 hrg3 hg3 hs3)
      | go_in)
    · go_frame
      have e1 : (wr.alloc (.map #[] 0)).heap.size = wr.heap.size + 1:=by simp
      have hsr : w1.heap.size≤wr.heap.size:=hbr.size
      have hbN : b < wr.heap.size:=hown.lt
      have hb3 : Below w1.heap.size w1 w3:=(hbr.alloc hsr _).grown hg3 (by rw [e1]; omega) (fun j hj => by cases hj)
      have ho3 : w3.ownsMap Tryz.prog 3 (plainElem (H:=H) Tryz.prog 2) wr.heap.size n (.map []):=((World.ownsMap_made wr _ _ _).kept hg3 (by simp)).mono (Nat.zero_le _)
      rw [e1] at hrg3 hs3 ⊢
      obtain ⟨N0,hN0⟩ : ∃ N0,N0 = wr.heap.size:=⟨_,rfl⟩
      rw [← hN0] at hrg3 hs3 ho3 hsr hbN ⊢
      clear hN0
      rw [show decide (k≤n) = true from decide_eq_true (by assumption)]
      go_loopw [5] (fun c wq => ∃ (left : Lit→Bool) (cnt : Nat) (D1 : DataW H) (cv : Int),c = .int .i64 cv∧wq.ranges Tryz.prog 3 (plainElem Tryz.prog 2) b (N0 + 1) n D left cnt∧wq.ownsMap Tryz.prog 3 (plainElem Tryz.prog 2) N0 n D1 ∧
          KeysIs D1 (laidK F to W (reachK F to W s k) left)∧Below w1.heap.size w1 wq)
        (fun _ wq => wq.rangeLeft b (N0 + 1))
      case atStart =>
        refine ⟨_,_,_,_,rfl,hrg3,ho3,KeysIs.empty.congr fun x => ?_,hb3⟩
        simp only [false_iff]
        rintro ⟨q,h1,h2,-⟩
        rw [(hkeys q).2 ⟨q,h1,rfl⟩] at h2
        cases h2
      case round =>
        obtain ⟨left,cnt,D1,cv,rfl,hrg,ho1,hk1,hbq⟩:=hrel
        go_wp2_with (first
          | (at_next; refine wpList_next_ranges_ii _ rfl _ rfl 3 2 .i64 .i64 law3 Tryz.underlying3 Tryz.underlying2 b (N0 + 1) n _ _ _ rfl hrg ?_ ?_)
          | go_in)
        · intro _ hl0
          go_wp2
          go_roundw
          case rel =>
            refine ⟨k + 1,N0,D1,cv,by go_num,by omega,rfl,rfl,hsr,ho1,hk1.congr fun x => ?_,hbq⟩
            constructor
            · rintro ⟨q,h1,-,h2⟩
              exact ⟨q,h1,h2⟩
            · rintro ⟨q,h1,h2⟩
              exact ⟨q,h1,hl0 _,h2⟩
          case measure => simp [intOf]; omega
        · intro x c w4 cnt1 hwx hwc hlx hat hrg4 hlt hg4 hs4 hen
          obtain ⟨q,hq,rfl⟩:=(hkeys x).1 (ranges_has hrg hlx)
          have hqn : q < n:=reachK_lt hs (fun i c hi hc => (hto i c hi hc).2) k q hq
          have hb4 : Below w1.heap.size w1 w4:=hbq.grown hg4 hbq.size (fun j hj => by cases hj; omega)
          have hz2 : w4.cell? ⟨w.heap.size,2,none⟩ = some (.slice (some ⟨ba,oa,none⟩) n ca):=by rw [hb4.cell (by exact hsz)]; exact hx2
          have hz3 : w4.cell? ⟨w.heap.size,3,none⟩ = some (.slice (some ⟨bb,ob,none⟩) n cb):=by rw [hb4.cell (by exact hsz)]; exact hx3
          have keep : ∀ {p : Addr} {v : Value},w.cell? p = some v→w4.cell? p = some v:=fun {p v} h => by
            have hp:=cell_lt h
            rw [hb4.cell (by omega),hbw.cell hp]
            exact h
          have hf:=(hb4.cell (p:=⟨fb,fo + q,none⟩) (by exact cell_lt (hF q hqn))).trans (hF q hqn)
          have ha:=keep (hacc q hqn)
          have hr:=keep (hrow q hqn)
          have ho4 : w4.ownsMap Tryz.prog 3 (plainElem (H:=H) Tryz.prog 2) N0 n D1:=ho1.kept hg4 (by simp)
          have hS : ∀ x,reachK F to W s k x→x < n:=reachK_lt hs (fun i c hi hc => (hto i c hi hc).2) k
          have hto2 : ∀ i c,i < n→c < W→to i c < n:=fun i c hi hc => (hto i c hi hc).2
          by_cases hneg : F q < 0
          · go_wp2
            go_roundw
            case rel => exact ⟨_,cnt1,D1,cv,rfl,hrg4,ho4,hk1.congr (laid_skip hneg),hb4⟩
            case measure => rw [hrg4.left_eq,hrg.left_eq]; exact hlt
          · cases hB : B q <;> rw [hB] at ha <;> go_wp2
            all_goals
              go_loopw [55] (fun i wz => ∃ (j : Nat) (D2 : DataW H),i = .int .i64 j∧j≤W∧wz.ranges Tryz.prog 3 (plainElem Tryz.prog 2) b (N0 + 1) n D (fun z => left z && !z.sameKey (.int .i64 q)) cnt1∧wz.ownsMap Tryz.prog 3 (plainElem Tryz.prog 2) N0 n D2 ∧
                  KeysIs D2 (fun x => laidK F to W (reachK F to W s k) left x∨∃ c,c < j∧x = to q c)∧Below w1.heap.size w1 wz)
                (fun i _ => W - (intOf i).toNat)
              case atStart => exact ⟨0,D1,rfl,Nat.zero_le _,hrg4,ho4,hk1.congr fun x => by simp,hb4⟩
              case round =>
                obtain ⟨j,D2,rfl,hj,hrgz,hoz,hkz,hbz⟩:=hrel
                have hcz : j < W→wr.cell? ⟨rb q,ro q + j,none⟩ = some (.int .i64 (to q j)):=fun hj => by
                  have h:=(hto q j hqn hj).1
                  have hp:=cell_lt h
                  rw [hbz.cell (by exact Nat.lt_of_lt_of_le hp (by omega)),hbw.cell hp]
                  exact h
                have htl : j < W→to q j < n:=fun hj => (hto q j hqn hj).2
                go_wp2_with (first
                  | (at_lookup; refine wpList_lookup_own_int _ rfl _ _ 173 rfl 3 2 .i64 law3 Tryz.underlying173 Tryz.underlying2 (zero2 _) N0 n _ rfl hoz _ _ rfl (keyOf_int_mk Tryz.underlying3 (WalkArith.wf_i64 (by omega))) ?_; intro c2 hat2 hwc2)
                  | (at_mapUpdate; refine wpList_mapUpdate_own _ rfl _ _ _ 173 rfl 3 2 law3 Tryz.underlying173 _ N0 n _ rfl hoz (by unfold maxLen; omega) _ _ _ rfl rfl (keyOf_int_mk Tryz.underlying3 (WalkArith.wf_i64 (by omega))) _ [] (plainElem_int Tryz.underlying2 (by first | exact wf_cap _ | (split <;> first | exact wrap64_wf _ | exact WalkArith.wf_i64 (by omega)))) ?_; intro w5 ho5 hg5)
                  | go_in)
                · have hlt5 : j < W:=by assumption
                  have hkp:=fun d => hkz.put (isMap_of hoz) (to q j) d
                  have ho6:=tight ho5 (n:=n) fun x hx => by
                    obtain ⟨y,hy,rfl⟩:=((hkp _) x).1 hx
                    refine ⟨y,?_,rfl⟩
                    rcases hy with (hy | ⟨c',hc',rfl⟩) | rfl
                    · exact laid_lt hS hto2 hy
                    · exact hto2 q c' hqn (by omega)
                    · exact htl hlt5
                  go_roundw
                  case rel =>
                    refine ⟨j + 1,_,by go_num,hlt5,hrgz.kept hg5 (by simp; omega) (by simp),ho6,(hkp _).congr fun x => ?_,hbz.grown hg5 hbz.size (fun y hy => by cases hy; omega)⟩
                    constructor
                    · rintro ((h | ⟨c',hc',rfl⟩) | rfl)
                      · exact .inl h
                      · exact .inr ⟨c',by omega,rfl⟩
                      · exact .inr ⟨j,by omega,rfl⟩
                    · rintro (h | ⟨c',hc',rfl⟩)
                      · exact .inl (.inl h)
                      · by_cases hcj : c' = j
                        · subst hcj; exact .inr rfl
                        · exact .inl (.inr ⟨c',by omega,rfl⟩)
                  case measure => simp [intOf]; omega
                · have hjW : j = W:=by omega
                  subst hjW
                  go_roundw
                  case rel => exact ⟨_,cnt1,D2,_,rfl,hrgz,hoz,hkz.congr (laid_take hq hneg),hbz⟩
                  case measure => rw [hrgz.left_eq,hrg.left_eq]; exact hlt
    · have hkn : k = n + 1:=by omega
      subst hkn
      have hsr : w1.heap.size≤wr.heap.size:=hbr.size
      have hbN : b < wr.heap.size:=hown.lt
      have hb3 : Below w1.heap.size w1 w3:=hbr.grown hg3 hsr (fun j hj => by cases hj)
      obtain ⟨N0,hN0⟩ : ∃ N0,N0 = wr.heap.size:=⟨_,rfl⟩
      rw [← hN0] at hrg3 hs3 hsr hbN ⊢
      clear hN0
      go_simp
      go_loopw [] (fun wq => ∃ (left : Lit→Bool) (cnt : Nat),wq.ranges Tryz.prog 3 (plainElem Tryz.prog 2) b N0 n D left cnt∧(∀ q,reachK F to W s (n + 1) q→left (.int .i64 q) = false→F q < 0)∧Below w1.heap.size w1 wq)
        (fun wq => wq.rangeLeft b N0)
      case atStart =>
        refine ⟨_,_,hrg3,fun q hq h0 => ?_,hb3⟩
        rw [(hkeys q).2 ⟨q,hq,rfl⟩] at h0
        cases h0
      case round =>
        obtain ⟨left,cnt,hrg,hno,hbq⟩:=hrel
        go_wp2_with (first
          | (at_next; refine wpList_next_ranges_ii _ rfl _ rfl 3 2 .i64 .i64 law3 Tryz.underlying3 Tryz.underlying2 b N0 n _ _ _ rfl hrg ?_ ?_)
          | go_in)
        · intro _ hl0
          go_wp2
          first | go_ret | go_ret2
          exact ⟨_,true,rfl,by simp; exact fun q hq => hno q hq (hl0 _),hbw.trans (hbq.mono (by omega))⟩
        · intro x c w4 cnt1 hwx hwc hlx hat hrg4 hlt hg4 hs4 hen
          obtain ⟨q,hq,rfl⟩:=(hkeys x).1 (ranges_has hrg hlx)
          have hqn : q < n:=reachK_lt hs (fun i c hi hc => (hto i c hi hc).2) _ q hq
          have hb4 : Below w1.heap.size w1 w4:=hbq.grown hg4 hbq.size (fun j hj => by cases hj; omega)
          have hf:=(hb4.cell (p:=⟨fb,fo + q,none⟩) (by exact cell_lt (hF q hqn))).trans (hF q hqn)
          by_cases hneg : F q < 0
          · go_wp2
            go_roundw
            case rel =>
              refine ⟨_,cnt1,hrg4,fun q' h1 h2 => ?_,hb4⟩
              have h2 : (left (.int .i64 q') && !(Lit.int .i64 (q' : Int)).sameKey (.int .i64 q)) = false:=h2
              rw [same_int] at h2
              by_cases e : (q' : Int) = q
              · have : q' = q:=by omega
                subst this
                exact hneg
              · exact hno q' h1 (by simpa [e] using h2)
            case measure => rw [hrg4.left_eq,hrg.left_eq]; exact hlt
          · go_wp2
            first | go_ret | go_ret2
            exact ⟨_,.inl ⟨rfl,⟨q,hq,by omega⟩,hbw.trans (hb4.mono (by omega))⟩⟩
end Go.Proofs.YtbnmhbmhafbmiaaGreatDoor.Cnt
end

section
namespace Go.Proofs.YtbnmhbmhafbmiaaGreatDoor.W
set_option linter.unusedVariables false
open Go.B Go.Au
open Go.Proofs.YtbnmhbmhafbmiaaGreatDoor.Cnt (reachK count_raw)
theorem reach_path {F : Nat→Int} {A : Aut} {W s : Nat} : ∀ (k x : Nat),reachK F A.to W s k x→∃ cs,In W cs∧cs.length = k∧A.run s cs = x
  | 0,x,h => by
    have h : x = s:=h
    subst h
    exact ⟨[],In.nil W,rfl,rfl⟩
  | k + 1,x,h => by
    obtain ⟨q,hq,-,c,hc,rfl⟩:=h
    obtain ⟨cs,h1,h2,h3⟩:=reach_path k q hq
    exact ⟨cs++[c],h1.append (In.cons hc (In.nil W)),by simp [h2],by rw [run_snoc,h3]⟩
theorem far_pos {A : Aut} {w q : Nat} (hok : A.Ok w) (hq : q < A.acc.length) : 0≤farZ A w q↔∃ d,TkL A w q d:=by
  have hge:=farL_ge A w A.acc.length q
  have hge : -1≤farZ A w q:=hge
  constructor
  · intro h
    refine Classical.byContradiction fun hn => ?_
    have:=(farZ_none hok hq).2 fun d hd => hn ⟨d,hd⟩
    omega
  · rintro ⟨d,hd⟩
    rcases Int.lt_or_le (farZ A w q) 0 with h | h
    · exact absurd hd ((farZ_none hok hq).1 (by omega) d)
    · exact h
theorem reach_long {A : Aut} {W s : Nat} (hok : A.Ok W) (hs : s < A.acc.length) : (∀ q,reachK (farZ A W) A.to W s (A.acc.length + 1) q→farZ A W q < 0)↔noLong A.acc A.nxt W s:=by
  constructor
  · intro h cs hcs hlen
    refine Bool.eq_false_iff.2 fun hl => ?_
    have hl : A.lang s cs = true:=hl
    have suf : ∀ i,i≤cs.length→TkL A W (A.run s (cs.take i)) (cs.length - i):=fun i hi => ⟨cs.drop i,fun c hc => hcs c (List.mem_of_mem_drop hc),by simp,by
      unfold Aut.lang at hl ⊢
      rw [Aut.run,Aut.run,← List.foldl_append,List.take_append_drop]
      exact hl⟩
    have st : ∀ i,A.run s (cs.take i) < A.acc.length:=fun i => hok.run hs fun c hc => hcs c (List.mem_of_mem_take hc)
    have pre : ∀ i,i≤cs.length→reachK (farZ A W) A.to W s i (A.run s (cs.take i)):=by
      intro i
      induction i with
      | zero => intro _; rfl
      | succ i ih =>
        intro hi
        refine ⟨_,ih (by omega),(far_pos hok (st i)).2 ⟨_,suf i (by omega)⟩,cs[i],hcs _ (List.getElem_mem (by omega)),?_⟩
        rw [List.take_succ_eq_append_getElem (by omega),run_snoc]
    have h1:=h _ (pre (A.acc.length + 1) (by omega))
    have h2:=(far_pos hok (st (A.acc.length + 1))).2 ⟨_,suf _ (by omega)⟩
    omega
  · intro h q hq
    obtain ⟨cs,h1,h2,rfl⟩:=reach_path _ _ hq
    rcases Int.lt_or_le (farZ A W (A.run s cs)) 0 with hn | hn
    · exact hn
    obtain ⟨d,ds,k1,k2,k3⟩:=(far_pos hok (hok.run hs h1)).1 hn
    have:=h (cs++ds) (h1.append k1) (by simp; omega)
    have h3 : A.lang s (cs++ds) = false:=this
    unfold Aut.lang at h3 k3
    rw [Aut.run,List.foldl_append] at h3
    rw [Aut.run,Aut.run] at k3
    rw [k3] at h3
    cases h3
theorem cnt_sound {base : Nat} {w0 : World} {LO : Prop} : Sound Tryz.prog base w0 LO (cntB 143 4 80 3):=by
  rintro g args H v H1 ⟨rfl,rfl,t,s,W,acc,nxt,u,x,vs,ok,rfl,hu,hx,hvl,hrows,hnl,hrow,hs,hn,hW0,hW,rfl,hok⟩
  refine ⟨_root_.Go.Proofs.enters_of Tryz.func143 rfl rfl,fun X w args' ha hr => ?_⟩
  obtain ⟨A,hA⟩ : ∃ A : Aut,A = ⟨acc,nxt⟩:=⟨_,rfl⟩
  have hAok : A.Ok W:=by subst hA; exact ⟨hnl,by show 0 < acc.length; omega,hrow⟩
  have ha0:=ha
  obtain ⟨v1,r1,e1,⟨cs',rfl,hcs⟩,hr1⟩:=ha
  have hr1 : r1 = []:=hr1
  subst hr1
  obtain ⟨a1,q1,f1,k1,c1⟩:=hcs
  have k1 : a1 = .int .i64 t:=k1
  subst k1
  obtain ⟨a2,q2,rfl,k2,c2⟩:=c1
  have k2 : a2 = .int .i64 s:=k2
  subst k2
  obtain ⟨a3,q3,rfl,h3,c3⟩:=c2
  obtain ⟨a4,q4,rfl,h4,c4⟩:=c3
  have c4 : q4 = []:=c4
  subst c4
  have mB : (acc.map fun b => [BV.bool b]) = (acc.map BV.bool).map fun c => [c]:=by rw [List.map_map]; rfl
  have hu':=hu
  rw [mB] at hu'
  obtain ⟨ba,oa,ca,rfl,hacc⟩:=Sls.cellsOf hr hu' (by rw [List.length_map]; omega) h3
  obtain ⟨bb,ob,cb,rfl,hvs⟩:=Sls.cellsOf hr hx (by omega) h4
  rw [List.length_map] at f1
  rw [hvl,hnl] at f1
  have ec : cs' = #[.int .i64 t,.int .i64 s,.slice (some ⟨ba,oa,none⟩) acc.length ca,.slice (some ⟨bb,ob,none⟩) acc.length cb]:=by
    apply Array.toList_inj.1
    exact f1
  subst ec
  have ea : args' = #[.agg #[.int .i64 t,.int .i64 s,.slice (some ⟨ba,oa,none⟩) acc.length ca,.slice (some ⟨bb,ob,none⟩) acc.length cb]]:=by
    apply Array.toList_inj.1
    exact e1
  subst ea
  have hR : ∀ i,∃ p : Nat × Nat × Nat,i < acc.length→w.cell? ⟨bb,ob + i,none⟩ = some (.slice (some ⟨p.1,p.2.1,none⟩) W p.2.2)∧∀ c,c < W→w.cell? ⟨p.1,p.2.1 + c,none⟩ = some (.int .i64 (A.to i c))∧A.to i c < acc.length:=fun i => by
    by_cases hi : i < acc.length
    · have hiv : i < vs.length:=by omega
      have hin : i < nxt.length:=by omega
      obtain ⟨v',hc',hv'⟩:=hvs i vs[i] (List.getElem?_eq_getElem hiv)
      have hs1:=hrows i vs[i] nxt[i] (List.getElem?_eq_getElem hiv) (List.getElem?_eq_getElem hin)
      obtain ⟨hl1,hl2⟩:=hrow nxt[i] (List.getElem_mem hin)
      have mR : (nxt[i].map fun (z : Nat) => [BV.int .i64 (z : Int)]) = (nxt[i].map fun (z : Nat) => BV.int .i64 (z : Int)).map fun c => [c]:=by rw [List.map_map]; rfl
      rw [mR] at hs1
      obtain ⟨rb,ro,rc,rfl,hcell⟩:=Sls.cellsOf hr hs1 (by rw [List.length_map]; omega) hv'
      rw [List.length_map,hl1] at hc'
      refine ⟨(rb,ro,rc),fun _ => ⟨hc',fun c hc => ?_⟩⟩
      obtain ⟨u',hu1,hu2⟩:=hcell c (.int .i64 ((nxt[i][c]'(by omega) : Nat) : Int)) (by rw [List.getElem?_map,List.getElem?_eq_getElem (by omega)]; rfl)
      have hu2 : u' = .int .i64 ((nxt[i][c]'(by omega) : Nat) : Int):=hu2
      subst hu2
      have eA : A.to i c = nxt[i][c]'(by omega):=by
        subst hA
        simp [Aut.to,hin,hl1,hc]
      rw [eA]
      exact ⟨hu1,hl2 _ (List.getElem_mem _)⟩
    · exact ⟨(0,0,0),fun h => absurd h hi⟩
  obtain ⟨p,hp⟩:=Classical.skolem.1 hR
  have hM : RdM H1 t s A (.agg [.int .i64 t,.int .i64 s,u,x]):=by
    subst hA
    refine ⟨u,x,rfl,?_,vs,?_,hvl,fun i c xs hc hx => ?_⟩
    · unfold Rd; rw [List.map_map]; exact hu
    · exact hx
    · unfold Rd; rw [List.map_map]; exact hrows i c xs hc hx
  refine Calls.mono (count_raw (H:=Unit) W acc.length t s ba oa bb ob ca cb (fun i => acc.getD i false) (farZ A W) A.to (fun i => (p i).1) (fun i => (p i).2.1) (fun i => (p i).2.2) w hs hn hW (fun i hi => ?_) (fun i hi => (hp i hi).1) (fun i c hi hc => (hp i hi).2 c hc) fun w1 hb => ?_) ?_
  · obtain ⟨v',h1,h2⟩:=hacc i (.bool acc[i]) (by rw [List.getElem?_map,List.getElem?_eq_getElem hi]; rfl)
    have h2 : v' = .bool acc[i]:=h2
    subst h2
    rw [h1]
    simp [hi]
  · obtain ⟨base',hlt,hr'⟩:=hr.rebase (w':=w1) hb.block
    obtain ⟨v',K,hrun,hkeep,bo,hown,hfr⟩:=i_farX (base:=base') (fun _ _ _ _ _ => False) t s W A (.agg [.int .i64 t,.int .i64 s,u,x]) H1 hM hAok (by subst hA; show acc.length≤_; omega) (by omega)
    have hsd:=call_sound (LO:=False) (w0:=w1) (Γ:=⟨base',fnOf,fun _ _ _ _ _ => False⟩) (P:=Tryz.prog) (sq:=sq) (by kernel_rfl) sqOk (fun f bfn h => linked base' f bfn h) (fun _ _ _ _ _ h => h.elim) (fun _ _ _ _ _ _ h => h.elim) _ _ _ _ _ hrun
    refine Calls.mono (hsd.2 X w1 _ (VRL.rebase hlt ha0) hr') fun e w2 he => ?_
    cases e with
    | returned v'' =>
      obtain ⟨X',_,hv,hr2⟩:=he
      have hsl : Sls K 3 1 v' ((((List.range A.acc.length).map (farZ A W)).map encI).map fun c => [c]):=hown.rd
      have hAl : A.acc.length = acc.length:=by subst hA; rfl
      obtain ⟨fb,fo,cap,rfl,hcell⟩:=Sls.cellsOf hr2 hsl (by simp; omega) hv
      refine ⟨fb,fo,cap,by simp [hAl],⟨hr2.ext.os,hr2.ext.tape,hr2.ext.output,hr2.ext.size,hr2.ext.block⟩,fun i hi => ?_⟩
      obtain ⟨z,h1,h2⟩:=hcell i (encI (farZ A W i)) (by rw [List.getElem?_map,List.getElem?_map,List.getElem?_range (by omega)]; rfl)
      have h2 : z = .int .i64 (farZ A W i):=h2
      subst h2
      exact h1
    | panicked c => exact he.elim
    | outgrown => exact he.elim
  · rintro e w' ⟨c,ok',rfl,hok',hb⟩
    have hoo : ok' = ok:=by
      have hAl : A.acc.length = acc.length:=by subst hA; rfl
      have:=reach_long hAok (s:=s) (by omega)
      rw [hAl] at this
      have h3 : noLong A.acc A.nxt W s↔noLong acc nxt W s:=by subst hA; exact Iff.rfl
      have : ok' = true↔ok = true:=hok'.trans (this.trans (h3.trans hok.symm))
      cases ok <;> cases ok' <;> simp_all
    subst hoo
    exact ⟨X,Tie.le_refl X,⟨_,rfl,_,_,rfl,trivial,_,_,rfl,rfl,rfl⟩,hr.grow (ext_block hr.ext hb.os hb.tape hb.output hb.size fun k hk => hb.block k (Nat.lt_of_lt_of_le hk hr.ext.size)) hb.block⟩
end Go.Proofs.YtbnmhbmhafbmiaaGreatDoor.W
end

section
namespace Go.Proofs.YtbnmhbmhafbmiaaGreatDoor.W
set_option linter.unusedVariables false
set_option linter.unusedSimpArgs false
open Go.B
open Go.Au
variable {base : Nat}
attribute [local simp] wpC_skip wpC_region wpC_seq wpC_true wpC_false wpC_block wpC_exit wpC_ret wpO_nil wpO_n wpO_tt wpO_ff wpO_tf wpO_ft wpO_u wpS_mov wpS_pick wpS_build wpS_load wpS_store wpS_nilck wpS_bin wpS_beq wpS_isnil wpS_eqs wpS_not wpS_neg wpS_conv wpS_lea wpS_fld wpS_idx wpS_idxs wpS_slice wpS_sslice wpS_mkfn wpS_mset wpS_look wpS_ext wpS_len wpS_new wpS_box wpS_mk wpS_mkmap wpS_mksl wpS_app wpS_fn wpS_call after_some pthen_n pthen_x pthen_r pin BExit.outOf puto_some puto_none put_eq put_ne Opd.ev argEnv op1_mov op1_pick op1_new op1_box op1_load op1_nilck op1_bin op1_beq op1_not op1_neg op1_conv op1_lea op1_fld op1_len0 op1_len1 op1_idx op1_ext op1_build op1_mk op1_stw op1_mksl op1_eqs pureBin isShift resOf resVals val_tmp val_cell oneOf one_int cells_int one_bool cells_bool one_str cells_str one_nilp cells_nilp one_ptr cells_ptr one_nils cells_nils one_sl cells_sl one_sle cells_sle one_nilm cells_nilm one_mp cells_mp one_nilf cells_nilf one_fn cells_fn one_nili cells_nili cells_agg isSl_sl slen_sl sat_sl make_of asm rtOk wpS_b2s op1_b2s wpS_imax op1_imax wpS_imin op1_imin wpS_i2s op1_i2s op1_isnil Option.map_some gam_base op1_app op1_idxs wpS_idxa op1_idxa op1_sslice bound_none bound_some nat_of op1_mkmap op1_mset op1_look op1_len2 op1_mkfn Go.B.fillB Has
theorem comp_spec (d : Array Int) (hm : ∀ i j : Nat,i≤j→j < d.size→d[i]!≤d[j]!) : ∀ m,m≤d.size→(∀ x,x∈Lib.compactUpTo d m↔∃ j,j < m∧d[j]! = x)∧(Lib.compactUpTo d m).Pairwise (· < ·)
  | 0,_ => by simp [Lib.compactUpTo]
  | m + 1,hlt => by
    obtain ⟨h1,h2⟩:=comp_spec d hm m (by omega)
    rw [Lib.compactUpTo_succ]
    cases hk : Lib.keeps d m with
    | true =>
      have hk' : m = 0∨d[m]!≠d[m - 1]!:=by simpa [Lib.keeps] using hk
      simp only [if_true]
      refine ⟨fun x => ?_,List.pairwise_append.2 ⟨h2,List.pairwise_singleton _ _,fun y hy z hz => ?_⟩⟩
      · rw [List.mem_append,h1,List.mem_singleton]
        constructor
        · rintro (⟨j,hj,rfl⟩ | rfl)
          · exact ⟨j,by omega,rfl⟩
          · exact ⟨m,by omega,rfl⟩
        · rintro ⟨j,hj,rfl⟩
          by_cases e : j = m
          · subst e; exact .inr rfl
          · exact .inl ⟨j,by omega,rfl⟩
      · rw [List.mem_singleton] at hz
        subst hz
        obtain ⟨j,hj,rfl⟩:=(h1 y).1 hy
        have g1:=hm j (m - 1) (by omega) (by omega)
        have g2:=hm (m - 1) m (by omega) (by omega)
        rcases hk' with h0 | h0 <;> omega
    | false =>
      have hk' : m≠0∧d[m]! = d[m - 1]!:=by simpa [Lib.keeps] using hk
      simp only [Bool.false_eq_true,if_false,List.append_nil]
      refine ⟨fun x => ?_,h2⟩
      rw [h1]
      constructor
      · rintro ⟨j,hj,rfl⟩
        exact ⟨j,by omega,rfl⟩
      · rintro ⟨j,hj,rfl⟩
        by_cases e : j = m
        · subst e; exact ⟨j - 1,by omega,hk'.2.symm⟩
        · exact ⟨j,by omega,rfl⟩
theorem comp_sorted (zs : List Int) : (∀ x,x∈Lib.compact (sortZ zs)↔x∈zs)∧(Lib.compact (sortZ zs)).Pairwise (· < ·):=by
  have hp : (sortZ zs).Pairwise fun a b => decide (a≤b) = true:=List.pairwise_mergeSort (by intro a b c h1 h2; simp at *; omega) (by intro a b; simp; omega) zs
  have hg : ∀ (i : Nat) (h : i < (sortZ zs).length),(sortZ zs).toArray[i]! = (sortZ zs)[i]:=fun i h => by
    rw [getElem!_pos (sortZ zs).toArray i (by simpa using h)]
    rfl
  obtain ⟨h1,h2⟩:=comp_spec (sortZ zs).toArray (fun i j hij hj => by
    have hj : j < (sortZ zs).length:=by simpa using hj
    rw [hg i (by omega),hg j hj]
    by_cases e : i = j
    · subst e; exact Int.le_refl _
    · simpa using List.pairwise_iff_getElem.1 hp i j (by omega) hj (by omega)) (sortZ zs).length (by simp)
  refine ⟨fun x => (h1 x).trans ?_,h2⟩
  have hmem : x∈zs↔x∈sortZ zs:=by unfold sortZ; rw [List.mem_mergeSort]
  rw [hmem]
  constructor
  · rintro ⟨j,hj,rfl⟩
    rw [hg j hj]
    exact List.getElem_mem hj
  · intro h
    obtain ⟨j,hj,rfl⟩:=List.getElem_of_mem h
    exact ⟨j,hj,hg j hj⟩
def nextL (T : Aut) (now : List Nat) : List Nat:=now.flatMap fun q => [T.to q 0,T.to q 1]
def castZ (l : List Nat) : List Int:=l.map fun (q : Nat) => (q : Int)
def stepL (T : Aut) (now : List Nat) : List Nat:=(Lib.compact (sortZ (castZ (nextL T now)))).map Int.toNat
def nowL (T : Aut) (s : Nat) : Nat→List Nat
  | 0 => [s]
  | i + 1 => stepL T (nowL T s i)
theorem stepL_cast (T : Aut) (now : List Nat) : castZ (stepL T now) = Lib.compact (sortZ (castZ (nextL T now))):=by
  unfold stepL castZ
  rw [List.map_map]
  refine (List.map_congr_left fun x hx => ?_).trans (List.map_id _)
  have:=((comp_sorted _).1 x).1 hx
  obtain ⟨q,_,rfl⟩:=List.mem_map.1 this
  show (((q : Int).toNat : Nat) : Int) = (q : Int)
  omega
theorem mem_stepL {T : Aut} {now : List Nat} {x : Nat} : x∈stepL T now↔x∈nextL T now:=by
  have h : ∀ l : List Nat,x∈l↔(x : Int)∈castZ l:=fun l => by
    unfold castZ
    rw [List.mem_map]
    constructor
    · exact fun h => ⟨x,h,rfl⟩
    · rintro ⟨y,hy,e⟩
      have : y = x:=by omega
      rw [← this]; exact hy
  rw [h,stepL_cast,(comp_sorted _).1,← h]
theorem stepL_nodup (T : Aut) (now : List Nat) : (stepL T now).Nodup:=by
  have h:=(comp_sorted (castZ (nextL T now))).2
  rw [← stepL_cast] at h
  unfold castZ at h
  rw [List.pairwise_map] at h
  exact h.imp fun {a b} hab => by omega
theorem mem_nowL {T : Aut} {s : Nat} : ∀ (i x : Nat),x∈nowL T s i↔∃ cs,In 2 cs∧cs.length = i∧T.run s cs = x
  | 0,x => by
    simp only [nowL,List.mem_singleton]
    constructor
    · rintro rfl; exact ⟨[],In.nil 2,rfl,rfl⟩
    · rintro ⟨cs,_,h2,h3⟩
      rw [List.length_eq_zero_iff] at h2
      subst h2
      exact h3.symm
  | i + 1,x => by
    rw [nowL,mem_stepL]
    unfold nextL
    rw [List.mem_flatMap]
    constructor
    · rintro ⟨q,hq,hx⟩
      obtain ⟨cs,g1,g2,g3⟩:=(mem_nowL i q).1 hq
      simp only [List.mem_cons,List.not_mem_nil,or_false] at hx
      rcases hx with rfl | rfl
      · exact ⟨cs++[0],g1.append (fun c hc => by simp at hc; omega),by simp [g2],by rw [run_snoc,g3]⟩
      · exact ⟨cs++[1],g1.append (fun c hc => by simp at hc; omega),by simp [g2],by rw [run_snoc,g3]⟩
    · rintro ⟨cs,g1,g2,g3⟩
      have hne : cs≠[]:=by rintro rfl; simp at g2
      have e:=List.dropLast_concat_getLast hne
      refine ⟨T.run s cs.dropLast,(mem_nowL i _).2 ⟨_,fun c hc => g1 c (List.dropLast_subset _ hc),by simp [g2],rfl⟩,?_⟩
      have hl : cs.getLast hne < 2:=g1 _ (List.getLast_mem hne)
      rw [← e,Aut.run,List.foldl_append] at g3
      have g3' : T.to (T.run s cs.dropLast) (cs.getLast hne) = x:=g3
      have : cs.getLast hne = 0∨cs.getLast hne = 1:=by omega
      rcases this with h | h <;> rw [h] at g3' <;> simp [g3']
theorem nowL_lt {T : Aut} {w s : Nat} (hok : T.Ok w) (hw : 2≤w) (hs : s < T.acc.length) {i x : Nat} (h : x∈nowL T s i) : x < T.acc.length:=by
  obtain ⟨cs,h1,_,rfl⟩:=(mem_nowL i x).1 h
  exact hok.run hs fun c hc => by have:=h1 c hc; omega
theorem nowL_len {T : Aut} {w s : Nat} (hok : T.Ok w) (hw : 2≤w) (hs : s < T.acc.length) (i : Nat) : (nowL T s i).length≤T.acc.length:=by
  have hn : (nowL T s i).Nodup:=by
    cases i with
    | zero => simp [nowL]
    | succ i => exact stepL_nodup _ _
  have:=nodup_le hn (ys:=List.range T.acc.length) fun x hx => List.mem_range.2 (nowL_lt hok hw hs hx)
  simpa using this
theorem nowL_pos (T : Aut) (s i : Nat) : 0 < (nowL T s i).length:=by
  refine List.length_pos_of_mem ((mem_nowL i (T.run s (List.replicate i 0))).2 ⟨_,fun c hc => ?_,List.length_replicate,rfl⟩)
  rw [List.eq_of_mem_replicate hc]
  omega
theorem nextL_len (T : Aut) : ∀ now : List Nat,(nextL T now).length = 2 * now.length
  | [] => rfl
  | q::r => by
    have:=nextL_len T r
    unfold nextL at this ⊢
    simp [this]
    omega
theorem count_now {T : Aut} {w s : Nat} (hok : T.Ok w) (hw : 2≤w) (hs : s < T.acc.length) (i : Nat) : countB T s i = (nowL T s i).any fun q => T.acc.getD q false:=by
  rw [Bool.eq_iff_iff,countB_iff T hok hw hs,List.any_eq_true]
  constructor
  · rintro ⟨cs,h1,h2,h3⟩
    exact ⟨_,(mem_nowL i _).2 ⟨cs,h1,h2,rfl⟩,h3⟩
  · rintro ⟨x,hx,h⟩
    obtain ⟨cs,h1,h2,rfl⟩:=(mem_nowL i x).1 hx
    exact ⟨cs,h1,h2,h⟩
def lastC (T : Aut) (s : Nat) : Nat→Nat
  | 0 => 0
  | i + 1 => if countB T s i = true then i else lastC T s i
theorem lastC_spec {T : Aut} {s : Nat} : ∀ n,(∃ d,d < n∧countB T s d = true)→lastC T s n < n∧countB T s (lastC T s n) = true∧∀ k,lastC T s n < k→k < n→countB T s k = false
  | 0,h => by obtain ⟨d,hd,_⟩:=h; omega
  | n + 1,h => by
    by_cases hc : countB T s n = true
    · simp only [lastC,if_pos hc]
      exact ⟨by omega,hc,fun k h1 h2 => by omega⟩
    · simp only [lastC,if_neg hc]
      obtain ⟨h1,h2,h3⟩:=lastC_spec n (by
        obtain ⟨d,hd,hd2⟩:=h
        refine ⟨d,?_,hd2⟩
        by_cases e : d = n
        · subst e; exact absurd hd2 hc
        · omega)
      exact ⟨by omega,h2,fun k k1 k2 => by
        by_cases e : k = n
        · subst e; simpa using hc
        · exact h3 k k1 (by omega)⟩
theorem pump {A : Aut} {w s : Nat} (hok : A.Ok w) (hs : s < A.acc.length) {cs : List Nat} (hc : In w cs) (hl : A.acc.length≤cs.length) : ∃ i j,i < j∧j≤A.acc.length∧A.run s (cs.take i) = A.run s (cs.take j):=by
  refine Classical.byContradiction fun hno => ?_
  have hn : ((List.range (A.acc.length + 1)).map fun i => A.run s (cs.take i)).Nodup:=by
    refine List.pairwise_map.2 ((List.pairwise_lt_range).imp_of_mem fun {i j} hi hj hij he => ?_)
    rw [List.mem_range] at hi hj
    exact hno ⟨i,j,hij,by omega,he⟩
  have:=nodup_le hn (ys:=List.range A.acc.length) fun x hx => by
    obtain ⟨i,_,rfl⟩:=List.mem_map.1 hx
    exact List.mem_range.2 (hok.run hs fun c h => hc c (List.mem_of_mem_take h))
  simp at this
  omega
theorem run_app (A : Aut) (s : Nat) (cs ds : List Nat) : A.run s (cs++ds) = A.run (A.run s cs) ds:=by simp [Aut.run,List.foldl_append]
theorem pump_down {A : Aut} {w s : Nat} (hok : A.Ok w) (hs : s < A.acc.length) {k : Nat} (h : TkL A w s k) (hk : A.acc.length≤k) : ∃ k',k' < k∧k≤k' + A.acc.length∧TkL A w s k':=by
  obtain ⟨cs,h1,rfl,h3⟩:=h
  obtain ⟨i,j,hij,hj,he⟩:=pump hok hs h1 hk
  refine ⟨cs.length - (j - i),by omega,by omega,cs.take i++cs.drop j,fun c hc => ?_,by simp; omega,?_⟩
  · rcases List.mem_append.1 hc with hc | hc
    · exact h1 c (List.mem_of_mem_take hc)
    · exact h1 c (List.mem_of_mem_drop hc)
  · unfold Aut.lang at h3 ⊢
    rw [run_app,he,← run_app,List.take_append_drop]
    exact h3
theorem pump_up {A : Aut} {w s : Nat} (hok : A.Ok w) (hs : s < A.acc.length) {k : Nat} (h : TkL A w s k) (hk : A.acc.length≤k) : ∃ k',k < k'∧TkL A w s k':=by
  obtain ⟨cs,h1,rfl,h3⟩:=h
  obtain ⟨i,j,hij,hj,he⟩:=pump hok hs h1 hk
  refine ⟨cs.length + (j - i),by omega,cs.take j++cs.drop i,fun c hc => ?_,by simp; omega,?_⟩
  · rcases List.mem_append.1 hc with hc | hc
    · exact h1 c (List.mem_of_mem_take hc)
    · exact h1 c (List.mem_of_mem_drop hc)
  · unfold Aut.lang at h3 ⊢
    rw [run_app,← he,← run_app,List.take_append_drop]
    exact h3
theorem noLong_iff {A : Aut} {w s : Nat} (hok : A.Ok w) (hs : s < A.acc.length) : noLong A.acc A.nxt w s↔∀ k,A.acc.length≤k→k≤2 * A.acc.length→¬ TkL A w s k:=by
  have hl : noLong A.acc A.nxt w s↔∀ k,A.acc.length < k→¬ TkL A w s k:=by
    constructor
    · rintro h k hk ⟨cs,h1,rfl,h3⟩
      have:=h cs h1 hk
      have h3' : A.acc.getD (cs.foldl (fun q c => (A.nxt.getD q []).getD c 0) s) false = true:=h3
      rw [this] at h3'
      cases h3'
    · intro h cs h1 h2
      refine Bool.eq_false_iff.2 fun h3 => h cs.length h2 ⟨cs,h1,rfl,h3⟩
  rw [hl]
  constructor
  · intro h k hk _ ht
    obtain ⟨k',h1,h2⟩:=pump_up hok hs ht hk
    exact h k' (by omega) h2
  · intro h
    have key : ∀ n k,k≤n→A.acc.length < k→¬ TkL A w s k:=by
      intro n
      induction n with
      | zero => intro k h1 h2; omega
      | succ n ih =>
        intro k h1 h2 ht
        by_cases hk : k≤2 * A.acc.length
        · exact h k (by omega) hk ht
        · obtain ⟨k',g1,g2,g3⟩:=pump_down hok hs ht (by omega)
          exact ih k' (by omega) (by omega) g3
    exact fun k hk => key k k (Nat.le_refl _) hk
def wayP (A : Aut) (f : Nat→Nat) (q : Nat) : Nat→Nat
  | 0 => 0
  | c + 1 => min (wayP A f q c + f (A.to q c)) 2
def wayC (A : Aut) (w : Nat) : Nat→Nat→Nat
  | 0 => fun q => if A.acc.getD q false = true then 1 else 0
  | k + 1 => fun q => wayP A (wayC A w k) q w
theorem wayP_le (A : Aut) (f : Nat→Nat) (q : Nat) : ∀ c,wayP A f q c≤2
  | 0 => by simp [wayP]
  | c + 1 => by simp only [wayP]; omega
theorem wayC_le (A : Aut) (w : Nat) : ∀ k q,wayC A w k q≤2
  | 0,q => by simp only [wayC]; split <;> omega
  | k + 1,q => wayP_le A _ q w
theorem wayP_pos (A : Aut) (f : Nat→Nat) (q : Nat) : ∀ c,0 < wayP A f q c↔∃ d,d < c∧0 < f (A.to q d)
  | 0 => by simp [wayP]
  | c + 1 => by
    have ih:=wayP_pos A f q c
    simp only [wayP]
    constructor
    · intro h
      by_cases h1 : 0 < wayP A f q c
      · obtain ⟨d,hd,hf⟩:=ih.1 h1
        exact ⟨d,by omega,hf⟩
      · exact ⟨c,by omega,by omega⟩
    · rintro ⟨d,hd,hf⟩
      by_cases e : d = c
      · subst e; omega
      · have:=ih.2 ⟨d,by omega,hf⟩
        omega
theorem wayC_pos (A : Aut) (w : Nat) : ∀ k q,0 < wayC A w k q↔TkL A w q k
  | 0,q => by
    rw [TkL_zero]
    simp only [wayC]
    cases A.acc.getD q false <;> simp
  | k + 1,q => by
    rw [TkL_succ]
    show 0 < wayP A (wayC A w k) q w↔_
    rw [wayP_pos]
    exact exists_congr fun c => and_congr_right fun _ => wayC_pos A w k _
noncomputable def finA (T : Aut) : Bool:=@decide (noLong T.acc T.nxt 2 0) (Classical.propDecidable _)
theorem finA_iff {T : Aut} : finA T = true↔noLong T.acc T.nxt 2 0:=by simp [finA]
def topA (T : Aut) : Nat:=lastC T 0 (T.acc.length + 1)
noncomputable def greatA (T : Aut) : Nat × Nat:=if farZ T 2 0 < 0 then (0,6) else if finA T = false then (0,4) else numA (extW T 0 (topA T) 1)
noncomputable def greatN (r : Raw4) : Nat × Nat:=if setsN [r]≠0 then (0,setsN [r]) else greatA (tidyR r)
theorem rd_front {H : BH} {b ty : Nat} {cs rest : List BV} (h : H.row b = .arr ty (cs++rest)) : Rd H ty (.sl b 0 cs.length) cs:=by
  refine ⟨rfl,by simp [BV.slen],fun i x hx => ?_⟩
  rw [List.getElem?_map] at hx
  simp only [Option.map_eq_some_iff] at hx
  obtain ⟨c,hc,rfl⟩:=hx
  obtain ⟨hi,hci⟩:=List.getElem?_eq_some_iff.1 hc
  refine ⟨b,i,cs++rest,by simp [BV.sat],h,by simp; omega,?_⟩
  rw [List.drop_append_of_le_length (by omega),List.drop_eq_getElem_cons hi,hci]
  rfl
theorem i_countAll (t s w : Nat) (A : Aut) (m : BV) (H : BH) (h : RdM H t s A m) (hok : A.Ok w) (hs : s < A.acc.length) (hn : A.acc.length≤100000) (hw0 : 0 < w) (hw : w≤100) (ok : Bool) (hb : ok = true↔noLong A.acc A.nxt w s) :
    Runs (gam base) 143 [m] H (.tup [.any,.bool ok]) H:=by
  obtain ⟨u,x,rfl,hu,vs,hx,hvl,hrows⟩:=h
  refine ⟨1,.inr (.inl (.inr (.inr (.inr ⟨rfl,rfl,t,s,w,A.acc,A.nxt,u,x,vs,ok,rfl,?_,hx,hvl,fun i c xs hc hxs => ?_,hok.len,hok.row,hs,hn,hw0,hw,rfl,hb⟩))))⟩
  · have:=hu
    unfold Rd at this
    rw [List.map_map] at this
    exact this
  · have:=hrows i c xs hc hxs
    unfold Rd at this
    rw [List.map_map] at this
    exact this
theorem i_sortZ (zs : List Int) (b : Nat) (H : BH) (hb : base≤b) (h0 : 0 < zs.length) (hn : zs.length≤1000000) (hr : H.row b = .arr 3 (zs.map (BV.int .i64))) :
    Runs (gam base) 144 [.sl b 0 zs.length] H (.tup []) (H.set b (.arr 3 ((sortZ zs).map (BV.int .i64)))):=⟨1,.inr (.inl (.inr (.inl ⟨rfl,b,zs,hb,h0,hn,hr,rfl,rfl,rfl⟩)))⟩
theorem i_compZ (zs : List Int) (b : Nat) (H : BH) (hb : base≤b) (h0 : 0 < zs.length) (hn : zs.length≤1000000) (hr : H.row b = .arr 3 (zs.map (BV.int .i64))) :
    Runs (gam base) 145 [.sl b 0 zs.length] H (.sl b 0 (Lib.compact zs).length) (H.set b (.arr 3 ((compZ zs).map (BV.int .i64)))):=⟨1,.inr (.inl (.inr (.inr (.inl ⟨rfl,b,zs,hb,h0,hn,hr,rfl,rfl,rfl⟩))))⟩
theorem nextL_take {T : Aut} {now : List Nat} {j : Nat} (h : j < now.length) : nextL T (now.take (j + 1)) = nextL T (now.take j)++[T.to now[j] 0,T.to now[j] 1]:=by
  rw [List.take_succ_eq_append_getElem h]
  unfold nextL
  rw [List.flatMap_append]
  rfl
theorem any_take {T : Aut} {now : List Nat} {j : Nat} (h : j < now.length) : ((now.take (j + 1)).any fun q => T.acc.getD q false) = (((now.take j).any fun q => T.acc.getD q false) || T.acc.getD now[j] false):=by
  rw [List.take_succ_eq_append_getElem h,List.any_append]
  simp
theorem great_loop (w n4 : Nat) (T : Aut) (mu mw : BV) (K0 : BH) (hr4 : K0.row n4 = .arr 77 [encN 1,encN 0,mu,mw]) (hmu : Rd K0 4 mu (T.acc.map encB)) (hmw : RdR K0 80 3 mw encN T.nxt) (hok : T.Ok w) (hw : 2≤w) (hn : T.acc.length≤10000)
    (Z : Env→BH→Prop) (hZ : Z = fun e K => e 4 = .ptr n4 0∧e 7 = encN (topA T)∧K0.Keeps K) (e : Env) (K : BH) (n8 : Nat) (o : Own base K0 K [(some n8,.arr 3 [encN 0])]) (e4 : e 4 = .ptr n4 0) (e7 : e 7 = encN 0) (e8 : e 8 = .sl n8 0 1) (Q : Post) :
    wpC base (Runs (gam base)) ((ir91.body.tl 6).hd 1) (Post.then Z Q) e K:=by
  have hp:=hok.pos
  simp [ir91,BCode.tl,BCode.hd]
  obtain ⟨I,hI⟩ : ∃ I : Nat→Env→BH→Prop,I = (fun i e K => e 9 = encN i∧e 7 = encN (lastC T 0 i)∧∃ nb rest,e 8 = .sl nb 0 (nowL T 0 i).length∧Own base K0 K [(some nb,.arr 3 ((nowL T 0 i).map encN++rest))]):=⟨_,rfl⟩
  refine wpC_countK (T.acc.length + 1) [(4,.ptr n4 0)] I (i0:=0) rfl ?_ ?_ (Nat.zero_le _) ?_
  · simp [e4]
  · rw [hI]
    exact ⟨by simp,by simp [e7,lastC],n8,[],by simp [e8,nowL],by simpa [nowL] using o⟩
  clear o e4 e7 e8
  rintro i e K hi ⟨e4,-⟩ hh
  rw [hI] at hh
  obtain ⟨e9,e7,nb,rest,e8,o⟩:=hh
  simp only [] at e4
  have wi:=wS (n:=i) (by omega)
  have hr4' : K.row n4 = .arr 77 [encN 1,encN 0,mu,mw]:=by rw [o.keeps n4 (by rw [hr4]; simp),hr4]
  have r2:=rd_ptr hr4' (rt:=none) (j:=2) (c:=mu) rfl rfl
  obtain ⟨now,hnow⟩ : ∃ now,now = nowL T 0 i:=⟨_,rfl⟩
  have hnl : now.length≤T.acc.length:=by rw [hnow]; exact nowL_len hok hw hp i
  have hnp : 0 < now.length:=by rw [hnow]; exact nowL_pos T 0 i
  have hnlt : ∀ x∈now,x < T.acc.length:=fun x hx => nowL_lt hok hw hp (by rw [hnow] at hx; exact hx)
  have hcnt : countB T 0 i = now.any fun q => T.acc.getD q false:=by rw [hnow]; exact count_now hok hw hp i
  rw [← hnow] at e8 o
  by_cases hlt : i < T.acc.length + 1
  · have hle : (i : Int)≤(T.acc.length : Int):=by omega
    simp [e4,e8,e9,r2,hmu.isSl,hmu.lenM,hle]
    obtain ⟨J,hJ⟩ : ∃ J : Nat→Env→BH→Prop,J = (fun j e K => e 36 = encN j∧e 7 = encN (if ((now.take j).any fun q => T.acc.getD q false) = true then i else lastC T 0 i)∧∃ v10 bo,e 10 = v10 ∧
        Own base K0 K [(bo,.arr 3 ((nextL T (now.take j)).map encN)),(some nb,.arr 3 (now.map encN++rest))]∧Vec bo v10 (2 * j)):=⟨_,rfl⟩
    refine wpC_countK now.length [(4,.ptr n4 0),(9,encN i),(34,.sl nb 0 now.length),(35,encN now.length)] J (i0:=0) rfl ?_ ?_ (Nat.zero_le _) ?_
    · simp [e4,e9]
    · rw [hJ]
      exact ⟨by simp,by simp [e7],.nils,none,by simp,by simpa [nextL] using o.nil (.arr 3 []),Vec.none⟩
    clear o e4 e7 e8 e9 r2 hr4'
    rintro j e K hj ⟨e4,e9,e34,e35,-⟩ hh
    rw [hJ] at hh
    obtain ⟨e36,e7,v10,bo,e10,o,hv⟩:=hh
    simp only [] at e4 e9 e34 e35
    have wj:=wS (n:=j) (by omega)
    by_cases hjl : j < now.length
    · have hr4' : K.row n4 = .arr 77 [encN 1,encN 0,mu,mw]:=by rw [o.keeps n4 (by rw [hr4]; simp),hr4]
      have r2:=rd_ptr hr4' (rt:=none) (j:=2) (c:=mu) rfl rfl
      have r3:=rd_ptr hr4' (rt:=none) (j:=3) (c:=mw) rfl rfl
      have hN:=rd_front (o.at 1 (b:=nb) rfl)
      have g0 : K.rd none none (.ptr nb j) = some (encN now[j]):=by simpa [BV.sat] using hN.at (i:=j) hjl (rt:=none) rfl
      obtain ⟨q,hq⟩ : ∃ q,q = now[j]:=⟨_,rfl⟩
      rw [← hq] at g0
      have hql : q < T.acc.length:=hnlt q (by rw [hq]; exact List.getElem_mem hjl)
      have hmu':=hmu.keeps o.keeps
      have hmw':=hmw.keeps o.keeps
      have g1:=hmu'.at (i:=q) hql (rt:=none) rfl
      have d1:=getD_get (L:=T.acc) rfl hql
      have hw0 : 0 < w:=by omega
      have hw1 : 1 < w:=by omega
      have hw1' : (1 : Int) < (w : Int):=by omega
      obtain ⟨row,q1,q2,q3,q4⟩:=cellR hmw' hok hql hw0
      obtain ⟨row',q1',q2',q3',q4'⟩:=cellR hmw' hok hql hw1
      have q1:=q1 none rfl
      have q1':=q1' none rfl
      rw [q1] at q1'
      cases q1'
      have q4:=q4 none rfl
      have q5:=q4' none rfl
      have hnt:=nextL_take (T:=T) hjl
      have hat:=any_take (T:=T) hjl
      rw [← hq] at hnt hat
      have hNl : (nextL T (now.take j)).length = 2 * j:=by rw [nextL_len,List.length_take,Nat.min_eq_left (by omega)]
      have fin : ∀ {n1 n2 : Nat} (f1 : K.row n1 = .fresh) (b1 : base≤n1) (f2 : (K.set n1 (.arr 3 [encN (T.to q 0),encN (T.to q 1)])).row n2 = .fresh) (b2 : base≤n2),∃ v' K',(K.set n1 (.arr 3 [encN (T.to q 0),encN (T.to q 1)])).appd base n2 3 1 8 v10 (.sl n1 0 2) = some (v',K') ∧
          ∃ bo',Own base K0 K' [(bo',.arr 3 ((nextL T (now.take (j + 1))).map encN)),(some nb,.arr 3 (now.map encN++rest))]∧Vec bo' v' (2 * (j + 1)):=by
        intro n1 n2 f1 b1 f2 b2
        have o1:=o.new f1 b1 (s:=.arr 3 [encN (T.to q 0),encN (T.to q 1)])
        obtain ⟨v',K',bo',p1,p2,p3⟩:=o1.app 1 rfl (by rw [List.length_map,hNl]; exact hv) (vy:=.sl n1 0 2) (new:=[encN (T.to q 0),encN (T.to q 1)]) (bytes:=8) (nb:=n2) (mk_cells (sz:=1) (n:=2) rfl) (by simp) (by simp [hNl]; omega) (by simp [hNl]; omega) f2 b2
        refine ⟨v',K',p1,bo',?_,?_⟩
        · rw [hnt,List.map_append]
          exact p2.tail
        · rw [List.length_append,List.length_map,hNl] at p3
          exact p3
      cases ha : T.acc[q] with
      | false =>
        rw [ha] at g1 d1
        rw [d1,Bool.or_false] at hat
        simp [e4,e10,e34,e35,e36,hjl,g0,r2,r3,hmu'.isSl,hmu'.lenM,hql,g1,hmw'.isSl,hmw'.len,hok.len,q1,q2,q3,q4,q5,hw0,hw1,hw1',hN.isSl]
        intro n1 b1 f1
        simp [make_of f1 b1]
        intro n2 b2 f2
        obtain ⟨v',K',p1,bo',p2,p3⟩:=fin f1 b1 f2 b2
        simp [p1,e36,wj,hjl]
        rw [hJ]
        exact ⟨by simp,by rw [hat]; simp [e7],v',bo',by simp,p2,p3⟩
      | true =>
        rw [ha] at g1 d1
        rw [d1,Bool.or_true] at hat
        simp [e4,e9,e10,e34,e35,e36,hjl,g0,r2,r3,hmu'.isSl,hmu'.lenM,hql,g1,hmw'.isSl,hmw'.len,hok.len,q1,q2,q3,q4,q5,hw0,hw1,hw1',hN.isSl]
        intro n1 b1 f1
        simp [make_of f1 b1]
        intro n2 b2 f2
        obtain ⟨v',K',p1,bo',p2,p3⟩:=fin f1 b1 f2 b2
        simp [p1,e36,wj,hjl]
        rw [hJ]
        exact ⟨by simp,by rw [hat]; simp,v',bo',by simp,p2,p3⟩
    · have hje : j = now.length:=by omega
      subst hje
      rw [List.take_length] at e7 o
      have hzl : (castZ (nextL T now)).length = 2 * now.length:=by simp [castZ,nextL_len]
      obtain ⟨zs,hzs⟩ : ∃ zs,zs = castZ (nextL T now):=⟨_,rfl⟩
      have hzm : (nextL T now).map encN = zs.map (BV.int .i64):=by rw [hzs,castZ,List.map_map]; rfl
      rw [← hzs] at hzl
      rw [hzm] at o
      cases bo with
      | none => have:=hv.2; omega
      | some b =>
        have hv10 : v10 = .sl b 0 zs.length:=by rw [hzl]; exact hv
        subst hv10
        have hb:=o.ge 0 (b:=b) rfl
        have hsort:=i_sortZ (base:=base) zs b K hb (by omega) (by omega) (o.at 0 rfl)
        have o2:=o.upd 0 (b:=b) (s':=.arr 3 ((sortZ zs).map (BV.int .i64))) rfl
        have hsl : (sortZ zs).length = zs.length:=List.length_mergeSort zs
        have hcomp:=i_compZ (base:=base) (sortZ zs) b _ hb (by omega) (by omega) (o2.at 0 rfl)
        rw [hsl] at hcomp
        have o3:=o2.upd 0 (b:=b) (s':=.arr 3 ((compZ (sortZ zs)).map (BV.int .i64))) rfl
        simp [e10,e34,e35,e36]
        refine ⟨_,_,hsort,BH.KeepsTys.nil _ _,?_⟩
        simp [e10]
        refine ⟨_,_,hcomp,BH.KeepsTys.nil _ _,?_⟩
        simp [e9,wi,hlt]
        rw [hI]
        have hst : castZ (nowL T 0 (i + 1)) = Lib.compact (sortZ zs):=by rw [hzs]; show castZ (stepL T (nowL T 0 i)) = _; rw [← hnow]; exact stepL_cast T now
        have hlen : (nowL T 0 (i + 1)).length = (Lib.compact (sortZ zs)).length:=by rw [← hst]; simp [castZ]
        refine ⟨by simp,?_,b,((List.replicate ((sortZ zs).length - (Lib.compact (sortZ zs)).length) 0).map (BV.int .i64)),by simp [hlen],?_⟩
        · simp [e7,lastC,hcnt]
        · have hm : (nowL T 0 (i + 1)).map encN++((List.replicate ((sortZ zs).length - (Lib.compact (sortZ zs)).length) 0).map (BV.int .i64)) = (compZ (sortZ zs)).map (BV.int .i64):=by
            unfold compZ
            rw [List.map_append,← hst,castZ,List.map_map]
            rfl
          rw [hm]
          exact o3.sub (List.Sublist.cons_cons _ (List.nil_sublist _))
  · have hie : i = T.acc.length + 1:=by omega
    subst hie
    have hle : ¬ (T.acc.length : Int) + 1≤(T.acc.length : Int):=by omega
    simp [e4,e8,e9,r2,hmu.isSl,hmu.lenM,hle]
    rw [hZ]
    exact ⟨e4,e7,o.keeps⟩
theorem tidy_any {w : Nat} {A : Aut} {L : List Nat→Bool} (h : IsTidy w A L) : A.acc.contains true = true↔∃ d,TkL A w 0 d:=by
  have hl:=fun cs (hc : In w cs) => h.lang hc
  obtain ⟨κ,i1,nx,a,s,n,hd,rfl,hdist,hL⟩:=h
  have hs:=some_met (a:=a) hd
  constructor
  · intro h
    obtain ⟨cs,c1,c2⟩:=hs.1 (by simpa [autOf] using h)
    exact ⟨cs.length,cs,c1,rfl,by rw [hl cs c1,← hL cs c1]; exact c2⟩
  · rintro ⟨d,cs,c1,_,c2⟩
    have:=hs.2 ⟨cs,c1,by rw [hL cs c1,← hl cs c1]; exact c2⟩
    simpa [autOf] using this
theorem far_neg {T : Aut} (hok : T.Ok 2) : farZ T 2 0 < 0↔¬ ∃ d,TkL T 2 0 d:=by
  have hge : -1≤farZ T 2 0:=farL_ge T 2 T.acc.length 0
  constructor
  · rintro h ⟨d,hd⟩
    exact (farZ_none hok hok.pos).1 (by omega) d hd
  · intro h
    have:=(farZ_none hok hok.pos).2 fun d hd => h ⟨d,hd⟩
    omega
theorem topA_count {T : Aut} (hok : T.Ok 2) (h : ¬ farZ T 2 0 < 0) : topA T≤T.acc.length∧countB T 0 (topA T) = true∧∀ k,topA T < k→k≤T.acc.length→countB T 0 k = false:=by
  have hge : -1≤farZ T 2 0:=farL_ge T 2 T.acc.length 0
  obtain ⟨d,hd⟩ : ∃ d : Nat,farZ T 2 0 = (d : Int):=⟨(farZ T 2 0).toNat,by omega⟩
  obtain ⟨hc,hdl⟩:=far_count hok hd
  obtain ⟨h1,h2,h3⟩:=lastC_spec (T:=T) (s:=0) (T.acc.length + 1) ⟨d,by omega,hc⟩
  exact ⟨by unfold topA; omega,h2,fun k k1 k2 => h3 k k1 (by omega)⟩
theorem i_greatest (s : Nat) (A : Aut) (m : BV) (H : BH) (h : RdRel H 1 s A m) (hok : A.Ok (wd 1)) (hs : s < A.acc.length) (hlen : A.acc.length≤150) :
    FnDoes (gam base) 91 [m] H fun v _ => v = .tup [encN (greatA (TA 1 (A.lang s))).1,encN (greatA (TA 1 (A.lang s))).2]:=by
  obtain ⟨hT1,hT2⟩:=TA_spec (t:=1) (by omega) hok hs
  have hTo : (TA 1 (A.lang s)).Ok 2:=hT1.ok
  have hem : (TA 1 (A.lang s)).acc.contains true = true↔∃ d,TkL (TA 1 (A.lang s)) 2 0 d:=tidy_any hT1
  obtain ⟨T,hTe⟩ : ∃ T,T = TA 1 (A.lang s):=⟨_,rfl⟩
  rw [← hTe] at hTo hT2 hem ⊢
  have hTp:=hTo.pos
  have hem' : T.acc.contains true = !decide (farZ T 2 0 < 0):=by
    rw [Bool.eq_iff_iff,hem]
    simp only [Bool.not_eq_true',decide_eq_false_iff_not,far_neg hTo,Classical.not_not]
  obtain ⟨R,hR⟩ : ∃ R : BV→BH→Prop,R = fun v _ => v = .tup [encN (greatA T).1,encN (greatA T).2]:=⟨_,rfl⟩
  have hR' : (fun (v : BV) (_ : BH) => v = .tup [encN (greatA T).1,encN (greatA T).2]) = R:=hR.symm
  rw [hR']
  refine FnDoes.of (fn:=ir91) rfl ?_
  have h':=h
  obtain ⟨u,x,rfl,hu,hx⟩:=h
  have u1:=hu.one
  have x1:=one_of_isSl hx.isSl
  obtain ⟨Y,hY⟩ : ∃ Y : Env→BH→Prop,Y = fun e K => ∃ n4 mu mw,e 4 = .ptr n4 0∧H.Keeps K∧K.row n4 = .arr 77 [encN 1,encN 0,mu,mw]∧Rd K 4 mu (T.acc.map encB)∧RdR K 80 3 mw encN T.nxt∧¬ farZ T 2 0 < 0∧finA T = true:=⟨_,rfl⟩
  refine wpC_part 4 Y ?_ fun e K hh => ?_
  · simp [ir91,BCode.hd,u1,x1]
    intro n1 b1 f1
    have o1:=Own.start (base:=base) (H:=H) |>.new f1 b1 (s:=.arr 25 [encN 1,encN s,u,x])
    have r1:=rd_all (o1.at 0 (b:=n1) rfl) (n:=4) (rt:=none) rfl rfl
    simp [make_of f1 b1,r1]
    refine (i_tidyOf (base:=base) 1 s (by omega) A _ _ (h'.keeps o1.keeps) hok hs (by omega)).step fun mm K2 k2 hm => ?_
    have o2:=o1.call k2
    rw [← hTe] at hm
    obtain ⟨mu,mw,hme,hmu,hmw⟩:=hm.rd
    subst hme
    have mu1:=hmu.one
    have mw1:=one_of_isSl hmw.isSl
    simp [mu1,mw1]
    intro n5 b5 f5
    obtain ⟨K5,g5,o5⟩:=(o2.new f5 b5 (s:=.arr 77 [.int .i64 0,.int .i64 0,.nils,.nils])).putAll 0 (b:=n5) (n:=4) (ds:=[encN 1,encN 0,mu,mw]) rfl rfl rfl (by simp [mu1,mw1]) (rt:=none) rfl
    obtain ⟨K5',g5',o5'⟩:=(Own.start (base:=base) (H:=K2) |>.new f5 b5 (s:=.arr 77 [.int .i64 0,.int .i64 0,.nils,.nils])).putAll 0 (b:=n5) (n:=4) (ds:=[encN 1,encN 0,mu,mw]) rfl rfl rfl (by simp [mu1,mw1]) (rt:=none) rfl
    rw [g5] at g5'
    cases g5'
    have hmm : RdM K5 1 0 T (.agg [encN 1,encN 0,mu,mw]):=(show RdM K2 1 0 T _ from ⟨mu,mw,rfl,hmu,hmw⟩).keeps o5'.keeps
    have r5:=rd_all (o5.at 0 (b:=n5) rfl) (n:=4) (rt:=none) rfl rfl
    simp [make_of f5 b5,g5,r5]
    refine (i_isEmpty (base:=base) 1 0 T _ K5 hmm (by omega)).step fun v K6 k6 hv => ?_
    subst hv
    have o6:=o5.call k6
    rw [hem']
    by_cases hneg : farZ T 2 0 < 0
    · simp [hneg]
      rw [hR]
      exact ⟨o6.keeps,by simp [greatA,hneg]⟩
    have r6:=rd_all (o6.at 0 (b:=n5) rfl) (n:=4) (rt:=none) rfl rfl
    simp [hneg,r6]
    refine callP (i_countAll (base:=base) 1 0 2 T _ K6 (hmm.keeps k6) hTo hTp (by omega) (by omega) (by omega) (finA T) finA_iff) ?_
    cases hf : finA T with
    | false =>
      simp
      rw [hR]
      exact ⟨o6.keeps,by simp [greatA,hneg,hf]⟩
    | true =>
      simp
      rw [hY]
      exact ⟨n5,mu,mw,by simp,o6.keeps,o6.at 0 rfl,hmu.keeps (o5'.keeps.trans k6),hmw.keeps (o5'.keeps.trans k6),hneg,hf⟩
  rw [hY] at hh
  obtain ⟨n4,mu,mw,e4,k,hr4,hmu,hmw,hneg,hf⟩:=hh
  obtain ⟨Y2,hY2⟩ : ∃ Y2 : Env→BH→Prop,Y2 = fun e K1 => ∃ n8,e 4 = .ptr n4 0∧e 7 = encN 0∧e 8 = .sl n8 0 1∧Own base K K1 [(some n8,.arr 3 [encN 0])]:=⟨_,rfl⟩
  refine wpC_part 2 Y2 ?_ fun e K1 hh => ?_
  · have r2:=rd_ptr hr4 (rt:=none) (j:=1) (c:=encN 0) rfl rfl
    simp [ir91,BCode.tl,BCode.hd,e4,r2]
    intro n8 b8 f8
    simp [make_of f8 b8]
    rw [hY2]
    exact ⟨n8,by simp [e4],by simp,by simp,Own.start (base:=base) (H:=K) |>.new f8 b8⟩
  rw [hY2] at hh
  obtain ⟨n8,e4,e7,e8,o8⟩:=hh
  obtain ⟨Z,hZ⟩ : ∃ Z : Env→BH→Prop,Z = fun e K1 => e 4 = .ptr n4 0∧e 7 = encN (topA T)∧K.Keeps K1:=⟨_,rfl⟩
  refine wpC_part 1 Z (great_loop 2 n4 T mu mw K hr4 hmu hmw hTo (by omega) (by omega) Z hZ e K1 n8 o8 e4 e7 e8 _) fun e K2 hh => ?_
  rw [hZ] at hh
  obtain ⟨e4,e7,k2⟩:=hh
  obtain ⟨ht1,ht2,-⟩:=topA_count hTo hneg
  have hr4' : K2.row n4 = .arr 77 [encN 1,encN 0,mu,mw]:=by rw [k2 n4 (by rw [hr4]; simp),hr4]
  have r7:=rd_all hr4' (n:=4) (rt:=none) rfl rfl
  have hmm : RdM K2 1 0 T (.agg [encN 1,encN 0,mu,mw]):=⟨mu,mw,rfl,hmu.keeps k2,hmw.keeps k2⟩
  simp [ir91,BCode.tl,e4,e7,r7]
  refine (i_extreme (base:=base) 1 0 2 (topA T) true T _ K2 hmm hTo (by omega) hTp (by omega) (by omega) ht2).step fun v K7 k7 hv => ?_
  subst hv
  simp
  refine callP (i_numberOf (extW T 0 (topA T) 1) K7 (extW_w (by omega)) (by rw [extW_len]; omega)) ?_
  simp
  rw [hR]
  refine ⟨(k.trans k2).trans k7,?_⟩
  have : greatA T = numA (extW T 0 (topA T) 1):=by simp [greatA,hneg,hf]
  rw [this]
theorem i_GreatestNumber (r : Raw4) (m : BV) (H : BH) (h : RdRaw H r.1 r.2.1 r.2.2.1 r.2.2.2 m) (hn : r.2.2.1.length≤4611686018427387904) :
    FnDoes (gam base) 37 [m] H fun v _ => v = .tup [encN (greatN r).1,encN (greatN r).2]:=by
  obtain ⟨R,hR⟩ : ∃ R : BV→BH→Prop,R = fun v _ => v = .tup [encN (greatN r).1,encN (greatN r).2]:=⟨_,rfl⟩
  rw [← hR]
  refine FnDoes.of (fn:=ir37) rfl ?_
  have h':=h
  obtain ⟨u,x,rfl,hu,hx⟩:=h
  have u1:=hu.one
  have x1:=one_of_isSl hx.isSl
  simp [ir37,u1,x1]
  intro n1 b1 f1
  have o1:=Own.start (base:=base) (H:=H) |>.new f1 b1 (s:=.arr 25 [.int .i64 r.1,.int .i64 r.2.1,u,x])
  have r1:=rd_all (o1.at 0 (b:=n1) rfl) (n:=4) (rt:=none) rfl rfl
  simp [make_of f1 b1,r1,u1,x1]
  intro n2 b2 f2
  have o2:=o1.new f2 b2 (s:=.arr 25 [.int .i64 r.1,.int .i64 r.2.1,u,x])
  simp [make_of f2 b2]
  refine (i_checkSets (base:=base) [r] (.sl n2 0 1) _ (RdRs.one (h'.keeps o2.keeps) (o2.at 0 rfl)) (by simp) (by simpa using hn)).step fun v K3 k3 hv => ?_
  subst hv
  have o3:=o2.call k3
  by_cases h0 : setsN [r] = 0
  case neg =>
    simp [sets_ne h0]
    rw [hR]
    refine ⟨o3.keeps,?_⟩
    simp [greatN,h0]
  simp [h0]
  obtain ⟨s,A,e1,e2,e3,e4,hok,hs,hlen,hA,-⟩:=ns_elim h0
  have hrel : RdRel K3 1 s A (.agg [.int .i64 r.1,.int .i64 r.2.1,u,x]):=by
    have:=h'.keeps o3.keeps
    rw [e1,e2,e3,e4] at this
    rw [e1,e2]
    exact this.rel
  have r3:=rd_all (o3.at 1 (b:=n1) rfl) (n:=4) (rt:=none) rfl rfl
  simp [r3]
  refine (i_greatest (base:=base) s A _ K3 hrel hok hs hlen).step fun v K4 k4 hv => ?_
  subst hv
  have o4:=o3.call k4
  have htr : tidyR r = TA 1 (A.lang s):=by unfold tidyR; rw [hA,e2]; simp
  simp
  rw [hR]
  refine ⟨o4.keeps,?_⟩
  have : greatN r = greatA (TA 1 (A.lang s)):=by simp [greatN,h0,htr]
  rw [this]
theorem s_Min (a b : Nat) (H : BH) : Runs (gam base) 222 [encN a,encN b] H (encN (min a b)) H:=by
  refine runs_of (fn:=ir222) rfl ?_
  by_cases h : a < b
  · have h' : (a : Int) < (b : Int):=by omega
    simp [ir222,h,h',Nat.min_eq_left (Nat.le_of_lt h)]
  · have h' : ¬ (a : Int) < (b : Int):=by omega
    simp [ir222,h,h',Nat.min_eq_right (Nat.not_lt.1 h)]
def wayZ (A : Aut) (w k : Nat) : Nat→Int:=fun q => ((wayC A w k q : Nat) : Int)
def wayR (A : Aut) (w k : Nat) : List (List BV):=(List.range k).map fun i => ((List.range A.acc.length).map (wayZ A w i)).map encI
theorem wayR_succ (A : Aut) (w k : Nat) : wayR A w (k + 1) = wayR A w k++[((List.range A.acc.length).map (wayZ A w k)).map encI]:=by simp [wayR,List.range_succ]
theorem wayR_len (A : Aut) (w k : Nat) : (wayR A w k).length = k:=by simp [wayR]
theorem wayR_get {A : Aut} {w k i : Nat} (h : i < k) : (wayR A w k)[i]? = some (((List.range A.acc.length).map (wayZ A w i)).map encI):=by simp [wayR,h]
theorem fillZ_set0 {n i : Nat} (f : Nat→Int) (h : i < n) : (fillZ n f i).set i 0 = fillZ n f i:=by
  unfold fillZ
  rw [List.set_append_right _ _ (by simp),show n - i = (n - (i + 1)) + 1 by omega,List.replicate_succ]
  simp
theorem s_Ways (t s w rb len : Nat) (A : Aut) (H : BH) (h : RdP H rb t s A) (hok : A.Ok w) (hw : w≤1000) (hn : A.acc.length≤10000) (hlen : len≤100000) :
    FnDoes (gam base) 193 [.ptr rb 0,encN len,encN 2] H fun v K => ∃ wo vs fr,Own base H K ((wo,.arr 36 vs)::fr)∧Vec wo v vs.length∧RowsOf 2 vs fr (wayR A w (len + 1)):=by
  obtain ⟨R,hR⟩ : ∃ R : BV→BH→Prop,R = fun v K => ∃ wo vs fr,Own base H K ((wo,.arr 36 vs)::fr)∧Vec wo v vs.length∧RowsOf 2 vs fr (wayR A w (len + 1)):=⟨_,rfl⟩
  rw [← hR]
  refine FnDoes.of (fn:=ir193) rfl ?_
  obtain ⟨u,x,hr,hu,hx⟩:=id h
  have r2:=rd_ptr hr (rt:=none) (j:=2) (c:=u) rfl rfl
  have c1 : (A.acc.length : Int)≤140737488355328:=by omega
  have c8 : 8 * (A.acc.length : Int)≤140737488355328:=by omega
  have hrb : H.row rb≠.fresh:=by rw [hr]; simp
  simp [ir193,r2,hu.isSl,hu.lenM,c1,c8]
  intro n7 b7 f7
  have o2:=Own.start (base:=base) (H:=H) |>.new f7 b7 (s:=.arr 2 (List.replicate A.acc.length (.int .i64 0)))
  simp [make_of f7 b7,c8]
  obtain ⟨I,hI⟩ : ∃ I : Nat→Env→BH→Prop,I = (fun i e K => e 8 = encN i∧Own base H K [(some n7,.arr 2 ((fillZ A.acc.length (wayZ A w 0) i).map encI))]):=⟨_,rfl⟩
  refine wpC_countK A.acc.length [(0,.ptr rb 0),(1,encN len),(2,encN 2),(7,.sl n7 0 A.acc.length)] I (i0:=0) rfl ?_ ?_ (Nat.zero_le _) ?_
  · simp
  · rw [hI]
    refine ⟨by simp,?_⟩
    rw [fillZ_zero,repl0Z]
    exact o2
  clear o2
  rintro i e K hi ⟨e0,e1,e2,e7,-⟩ hh
  rw [hI] at hh
  obtain ⟨e8,o⟩:=hh
  simp only [] at e0 e1 e2 e7
  have wi:=wS (n:=i) (by omega)
  have hrk : K.row rb = .arr 25 [encN t,encN s,u,x]:=by rw [o.keeps rb hrb,hr]
  have r2:=rd_ptr hrk (rt:=none) (j:=2) (c:=u) rfl rfl
  by_cases hlt : i < A.acc.length
  · have g1:=(hu.keeps o.keeps).at hlt (rt:=none) rfl
    have hga : A.acc.getD i false = A.acc[i]:=by simp [hlt]
    cases hb : A.acc[i] with
    | false =>
      rw [hb] at g1
      simp [e0,e8,hlt,r2,hu.isSl,hu.lenM,g1,wi]
      rw [hI]
      refine ⟨by simp,?_⟩
      rw [fillZ_skip _ hlt (by simp only [wayZ,wayC]; rw [hga,hb]; rfl)]
      exact o
    | true =>
      rw [hb] at g1
      obtain ⟨K5,g5,o5⟩:=o.put 0 (b:=n7) rfl (j:=i) (u:=encI 1) (by simp [fillZ_len _ hi,hlt]) rfl (rt:=none) rfl
      have g5' : K.wr base none 1 (.ptr n7 i) (.int .i64 1) = some K5:=g5
      simp [e0,e7,e8,hlt,r2,hu.isSl,hu.lenM,g1,g5',wi]
      rw [hI]
      refine ⟨by simp,?_⟩
      rw [← fillZ_set _ hlt]
      have e0 : wayZ A w 0 i = 1:=by simp only [wayZ,wayC]; rw [hga,hb]; rfl
      rw [e0]
      simpa using o5
  have hie : i = A.acc.length:=by omega
  subst hie
  rw [fillZ_all] at o
  simp [e0,e7,e8,r2,hu.isSl,hu.lenM]
  intro n9 b9 f9
  simp [make_of f9 b9]
  have o4 : Own base H (K.set n9 (.arr 36 [.sl n7 0 A.acc.length])) ([(some n9,.arr 36 [.sl n7 0 A.acc.length])]++[(some n7,.arr 2 (((List.range A.acc.length).map (wayZ A w 0)).map encI))]):=o.new f9 b9
  have hr0 : RowsOf 2 [.sl n7 0 A.acc.length] [(some n7,.arr 2 (((List.range A.acc.length).map (wayZ A w 0)).map encI))] (wayR A w 1):=⟨rfl,by simp [Vec],trivial⟩
  obtain ⟨J,hJ⟩ : ∃ J : Nat→Env→BH→Prop,J = (fun i e K => e 10 = encN (i + 1)∧∃ v7 v9 wo vs fr,e 7 = v7∧e 9 = v9∧vs[i]? = some v7∧Own base H K ([(wo,.arr 36 vs)]++fr)∧Vec wo v9 vs.length∧RowsOf 2 vs fr (wayR A w (i + 1))):=⟨_,rfl⟩
  refine wpC_countK len [(0,.ptr rb 0),(1,encN len),(2,encN 2)] J (i0:=0) rfl ?_ ?_ (Nat.zero_le _) ?_
  · simp [e0,e1,e2]
  · rw [hJ]
    exact ⟨by simp,.sl n7 0 A.acc.length,.sl n9 0 1,some n9,_,_,by simp [e7],by simp,rfl,o4,rfl,hr0⟩
  clear o4 hr0 o e0 e1 e2 e7 e8 r2 hrk
  rintro i e K hi ⟨e0,e1,e2,-⟩ hh
  rw [hJ] at hh
  obtain ⟨e10,v7,v9,wo,vs,fr,e7,e9,hvi,o,hv9,hrows⟩:=hh
  simp only [] at e0 e1 e2
  have wi:=wS (n:=i + 1) (by omega)
  have wi' : IntKind.i64.wrap ((i : Int) + 1 + 1) = ((i + 1 + 1 : Nat) : Int):=by rw [← wi]; simp
  have hvl:=hrows.len
  rw [wayR_len] at hvl
  by_cases hlt : i < len
  · obtain ⟨uo,hfr,huv⟩:=hrows.get hvi (wayR_get (by omega))
    have huv' : Vec uo v7 A.acc.length:=by simpa using huv
    have hrk : K.row rb = .arr 25 [encN t,encN s,u,x]:=by rw [o.keeps rb hrb,hr]
    have r2:=rd_ptr hrk (rt:=none) (j:=2) (c:=u) rfl rfl
    have hlt' : (i : Int) + 1≤(len : Int):=by omega
    have hlt2 : i + 1≤len:=hlt
    simp [e0,e1,e10,hlt',hlt2,r2,hu.isSl,hu.lenM,c1,c8]
    intro n11 b11 f11
    simp [make_of f11 b11,c8]
    have o6:=o.new f11 b11 (s:=.arr 2 (List.replicate A.acc.length (.int .i64 0)))
    obtain ⟨G,hG⟩ : ∃ G : Nat→Env→BH→Prop,G = (fun q e K => e 12 = encN q∧Own base H K ((some n11,.arr 2 ((fillZ A.acc.length (wayZ A w (i + 1)) q).map encI))::([(wo,.arr 36 vs)]++fr))):=⟨_,rfl⟩
    refine wpC_countK A.acc.length [(0,.ptr rb 0),(1,encN len),(2,encN 2),(7,v7),(9,v9),(10,encN (i + 1)),(11,.sl n11 0 A.acc.length)] G (i0:=0) rfl ?_ ?_ (Nat.zero_le _) ?_
    · simp [e0,e1,e2,e7,e9,e10]
    · rw [hG]
      refine ⟨by simp,?_⟩
      rw [fillZ_zero,repl0Z]
      exact o6
    clear o6 e0 e1 e2 e7 e9 e10 r2 hrk
    rintro q e K hq ⟨e0,e1,e2,e7,e9,e10,e11,-⟩ hh
    rw [hG] at hh
    obtain ⟨e12,o⟩:=hh
    simp only [] at e0 e1 e2 e7 e9 e10 e11
    have wq:=wS (n:=q) (by omega)
    have hrk : K.row rb = .arr 25 [encN t,encN s,u,x]:=by rw [o.keeps rb hrb,hr]
    have r2:=rd_ptr hrk (rt:=none) (j:=2) (c:=u) rfl rfl
    by_cases hql : q < A.acc.length
    · simp [e0,e12,hql,r2,hu.isSl,hu.lenM]
      obtain ⟨M,hM⟩ : ∃ M : Nat→Env→BH→Prop,M = (fun c e K => e 13 = encN c∧Own base H K ((some n11,.arr 2 (((fillZ A.acc.length (wayZ A w (i + 1)) q).set q ((wayP A (wayC A w i) q c : Nat) : Int)).map encI))::([(wo,.arr 36 vs)]++fr))):=⟨_,rfl⟩
      refine wpC_countK w [(0,.ptr rb 0),(1,encN len),(2,encN 2),(7,v7),(9,v9),(10,encN (i + 1)),(11,.sl n11 0 A.acc.length),(12,encN q)] M (i0:=0) rfl ?_ ?_ (Nat.zero_le _) ?_
      · simp [e0,e1,e2,e7,e9,e10,e11,e12]
      · rw [hM]
        refine ⟨by simp,?_⟩
        have : ((fillZ A.acc.length (wayZ A w (i + 1)) q).set q ((wayP A (wayC A w i) q 0 : Nat) : Int)) = fillZ A.acc.length (wayZ A w (i + 1)) q:=fillZ_set0 _ hql
        rw [this]
        exact o
      clear o e0 e1 e2 e7 e9 e10 e11 e12 r2 hrk
      rintro c e K hc ⟨e0,e1,e2,e7,e9,e10,e11,e12,-⟩ hh
      rw [hM] at hh
      obtain ⟨e13,o⟩:=hh
      simp only [] at e0 e1 e2 e7 e9 e10 e11 e12
      have wc:=wS (n:=c) (by omega)
      have hrk : K.row rb = .arr 25 [encN t,encN s,u,x]:=by rw [o.keeps rb hrb,hr]
      have r3:=rd_ptr hrk (rt:=none) (j:=3) (c:=x) rfl rfl
      have hx':=hx.keeps o.keeps
      have hq' : q < A.nxt.length:=by rw [hok.len]; exact hql
      obtain ⟨row,h1,h2⟩:=hx'.at hq'
      have h2:=h2 none rfl
      have hl:=(hok.row _ (List.getElem_mem hq')).1
      have h1l : row.slen = w:=by rw [h1.lenM,hl]
      by_cases hcl : c < w
      · obtain ⟨row',q1,q2,q3,q4⟩:=cellR hx' hok hql hcl
        have q1:=q1 none rfl
        rw [h2] at q1
        cases q1
        have q4:=q4 none rfl
        have htl:=hok.to hql hcl
        have hui:=o.rd (ty:=2) (2 + i) (by rw [show 2 + i = i + 1 + 1 by omega]; simpa using hfr) (by simpa using huv')
        have g1:=hui.at (i:=A.to q c) (by simpa using htl) (rt:=none) rfl
        simp at g1
        have hfl:=fillZ_len (wayZ A w (i + 1)) hq
        have g2 : K.rd none none (.ptr n11 q) = some (encI ((wayP A (wayC A w i) q c : Nat) : Int)):=by
          refine rd_ptr (o.at 0 (b:=n11) rfl) (rt:=none) (j:=q) rfl ?_
          rw [List.getElem?_map,List.getElem?_set_self (by omega)]
          rfl
        have hp1:=wayP_le A (wayC A w i) q c
        have hp2:=wayC_le A w i (A.to q c)
        have wa : IntKind.i64.wrap (((wayP A (wayC A w i) q c : Nat) : Int) + wayZ A w i (A.to q c)) = ((wayP A (wayC A w i) q c + wayC A w i (A.to q c) : Nat) : Int):=by unfold wayZ; rw [w64 (by omega) (by omega)]; simp
        obtain ⟨K5,g5,o5⟩:=o.put 0 (b:=n11) rfl (j:=q) (u:=encN (min (wayP A (wayC A w i) q c + wayC A w i (A.to q c)) 2)) (by simp [hfl,hql]) rfl (rt:=none) rfl
        simp [e0,e2,e7,e11,e12,e13,hcl,r3,hx'.isSl,hx'.len,hok.len,hql,h2,h1.isSl,h1l,q4,htl,g2,hui.isSl,huv'.len,g1,wa]
        refine callP (s_Min (base:=base) (wayP A (wayC A w i) q c + wayC A w i (A.to q c)) 2 K) ?_
        have g5' : K.wr base none 1 (.ptr n11 q) (.int .i64 ((min (wayP A (wayC A w i) q c + wayC A w i (A.to q c)) 2 : Nat) : Int)) = some K5:=g5
        simp [g5',e11,e12,e13,hql,wc,hcl]
        rw [hM]
        refine ⟨by simp,?_⟩
        have : ((fillZ A.acc.length (wayZ A w (i + 1)) q).set q ((wayP A (wayC A w i) q (c + 1) : Nat) : Int)).map encI = (((fillZ A.acc.length (wayZ A w (i + 1)) q).set q ((wayP A (wayC A w i) q c : Nat) : Int)).map encI).set q (encN (min (wayP A (wayC A w i) q c + wayC A w i (A.to q c)) 2)):=by
          rw [List.map_set,List.map_set,List.set_set]
          rfl
        rw [this]
        simpa using o5
      · have hce : c = w:=by omega
        subst hce
        simp [e0,e12,e13,r3,hx'.isSl,hx'.len,hok.len,hql,h2,h1.isSl,h1l,wq]
        rw [hG]
        refine ⟨by simp,?_⟩
        rw [← fillZ_set _ hql]
        exact o
    · have hqe : q = A.acc.length:=by omega
      subst hqe
      rw [fillZ_all] at o
      simp [e0,e9,e11,e12,r2,hu.isSl,hu.lenM]
      intro n2 b2 f2
      simp [make_of f2 b2]
      intro n3 b3 f3
      obtain ⟨v',K',b',p1,p2,p3⟩:=o.push 1 rfl hv9 (x:=.sl n11 0 A.acc.length) (bytes:=24) rfl (by omega) (by omega) f2 b2 f3 b3
      simp [p1,e10,e11,wi',hlt]
      rw [hJ]
      refine ⟨by simp,.sl n11 0 A.acc.length,v',some b',vs++[.sl n11 0 A.acc.length],fr++[(some n11,.arr 2 (((List.range A.acc.length).map (wayZ A w (i + 1))).map encI))],by simp [e11],by simp,?_,?_,by simpa using p3,?_⟩
      · rw [List.getElem?_append_right (by omega)]
        simp [hvl.1]
      · have p2' : Own base H K' ((some n11,.arr 2 (((List.range A.acc.length).map (wayZ A w (i + 1))).map encI))::([(some b',.arr 36 (vs++[.sl n11 0 A.acc.length]))]++fr)):=p2
        exact p2'.last
      · rw [wayR_succ A w (i + 1)]
        exact RowsOf.snoc (by simp [Vec]) hrows
  · have hie : i = len:=by omega
    subst hie
    have hgt : ¬ (i : Int) + 1≤(i : Int):=by omega
    simp [e1,e7,e9,e10,hgt]
    rw [hR]
    exact ⟨o.keeps,wo,vs,fr,o,hv9,hrows⟩
theorem s_Finite (t s w rb : Nat) (A : Aut) (H : BH) (h : RdP H rb t s A) (hok : A.Ok w) (hs : s < A.acc.length) (hw : w≤1000) (hn : A.acc.length≤10000) (fin : Bool) (hf : fin = true↔noLong A.acc A.nxt w s) :
    FnDoes (gam base) 140 [.ptr rb 0] H fun v _ => v = .bool fin:=by
  rw [noLong_iff hok hs] at hf
  obtain ⟨R,hR⟩ : ∃ R : BV→BH→Prop,R = fun v _ => v = .bool fin:=⟨_,rfl⟩
  rw [← hR]
  refine FnDoes.of (fn:=ir140) rfl ?_
  obtain ⟨u,x,hr,hu,hx⟩:=id h
  have r2:=rd_ptr hr (rt:=none) (j:=2) (c:=u) rfl rfl
  have wm : IntKind.i64.wrap (2 * (A.acc.length : Int)) = ((2 * A.acc.length : Nat) : Int):=by rw [w64 (by omega) (by omega)]; simp
  simp [ir140,r2,hu.isSl,hu.lenM,wm]
  refine (s_Ways (base:=base) t s w rb (2 * A.acc.length) A H h hok hw hn (by omega)).step fun v K k hv => ?_
  obtain ⟨wo,vs,fr,o,hv',hrows⟩:=hv
  have hrr : RdR K 36 2 v encI ((List.range (2 * A.acc.length + 1)).map fun i => (List.range A.acc.length).map (wayZ A w i)):=by
    refine RowsOf.rdR (F:=[(wo,.arr 36 vs)]) (bo:=wo) o ?_ (o.rd 0 rfl hv')
    rw [List.map_map]
    exact hrows
  have l1 : v.slen = 2 * A.acc.length + 1:=by rw [hrr.len]; simp
  have hrk : K.row rb = .arr 25 [encN t,encN s,u,x]:=by rw [k rb (by rw [hr]; simp),hr]
  have r1:=rd_ptr hrk (rt:=none) (j:=1) (c:=encN s) rfl rfl
  simp
  obtain ⟨I,hI⟩ : ∃ I : Nat→Env→BH→Prop,I = (fun i e K' => e 5 = encN (A.acc.length + i)∧(∀ q,A.acc.length≤q→q < A.acc.length + i→¬ TkL A w s q)∧K' = K):=⟨_,rfl⟩
  refine wpC_countK (A.acc.length + 1) [(0,.ptr rb 0),(3,encN A.acc.length),(4,v)] I (i0:=0) rfl ?_ ?_ (Nat.zero_le _) ?_
  · simp
  · rw [hI]; exact ⟨by simp,fun q h1 h2 => by omega,rfl⟩
  rintro i e K' hi ⟨e0,e3,e4,-⟩ hh
  rw [hI] at hh
  obtain ⟨e5,hno,rfl⟩:=hh
  simp only [] at e0 e3 e4
  obtain ⟨j,hj⟩ : ∃ j,j = A.acc.length + i:=⟨_,rfl⟩
  rw [← hj] at e5 hno
  have wj:=wS (n:=j) (by omega)
  by_cases hlt : i < A.acc.length + 1
  · have hle : (j : Int)≤((2 * A.acc.length : Nat) : Int):=by omega
    have hle' : (j : Int)≤2 * (A.acc.length : Int):=by omega
    have hjl : j < 2 * A.acc.length + 1:=by omega
    have hjl' : (j : Int) < 2 * (A.acc.length : Int) + 1:=by omega
    obtain ⟨row,q1,q2⟩:=hrr.at (i:=j) (by simp; omega)
    have q2:=q2 none rfl
    have q1' : Rd K' 2 row (((List.range A.acc.length).map (wayZ A w j)).map encI):=by simpa using q1
    have g1:=q1'.at (i:=s) (by simpa using hs) (rt:=none) rfl
    simp at g1
    have l2 : row.slen = A.acc.length:=by rw [q1'.lenM]; simp
    by_cases hp : 0 < wayC A w j s
    · have hp' : 0 < wayZ A w j s:=by unfold wayZ; omega
      simp [e0,e3,e4,e5,wm,hle,hle',hrr.isSl,l1,hjl,hjl',q2,r1,q1'.isSl,l2,hs,g1,hp']
      rw [hR]
      refine ⟨k,?_⟩
      have : ¬ fin = true:=fun hft => hf.1 hft j (by omega) (by omega) ((wayC_pos A w j s).1 hp)
      simpa using this
    · have hp' : ¬ 0 < wayZ A w j s:=by unfold wayZ; omega
      simp [e0,e3,e4,e5,wm,hle,hle',hrr.isSl,l1,hjl,hjl',q2,r1,q1'.isSl,l2,hs,g1,hp',wj,hlt]
      rw [hI]
      refine ⟨by simp [hj]; omega,fun q h1 h2 => ?_,rfl⟩
      by_cases hqj : q = j
      · subst hqj
        exact fun ht => hp ((wayC_pos A w q s).2 ht)
      · exact hno q h1 (by omega)
  · have hle' : ¬ (j : Int)≤2 * (A.acc.length : Int):=by omega
    simp [e0,e3,e4,e5,wm,hle']
    rw [hR]
    refine ⟨k,?_⟩
    have : fin = true:=hf.2 fun q h1 h2 => hno q h1 (by omega)
    simpa using this
theorem end_great (t s w rb d : Nat) (A : Aut) (H : BH) (h : RdP H rb t s A) (hok : A.Ok w) (hw : 2≤w) (hs : s < A.acc.length) (hn : A.acc.length≤1000000) (hd : d≤A.acc.length) (hc : countB A s d = true) (hno : ∀ k,d < k→k≤A.acc.length→countB A s k = false) (Q : Post) :
    wpC base (Runs (gam base)) (ir141.body.hd 3) (Post.then (En1 H rb d true) Q) (argEnv [.ptr rb 0,.bool true]) H:=by
  obtain ⟨Z,hZ⟩ : ∃ Z : Env→BH→Prop,Z = En1 H rb d true:=⟨_,rfl⟩
  rw [← hZ]
  obtain ⟨u,x,hr,hu,hx⟩:=id h
  have r2:=rd_ptr hr (rt:=none) (j:=2) (c:=u) rfl rfl
  simp [ir141,BCode.hd,r2,hu.isSl,hu.lenM]
  obtain ⟨I,hI⟩ : ∃ I : Nat→Env→BH→Prop,I = (fun i e K => e 6 = encN (A.acc.length - i)∧H.Keeps K):=⟨_,rfl⟩
  refine wpC_countK (A.acc.length - d) [(0,.ptr rb 0),(1,.bool true)] I (i0:=0) rfl ?_ ?_ (Nat.zero_le _) ?_
  · simp
  · rw [hI]; exact ⟨by simp,BH.Keeps.refl H⟩
  rintro i e K hi ⟨e0,e1,-⟩ hh
  rw [hI] at hh
  obtain ⟨e6,k⟩:=hh
  simp only [] at e0 e1
  obtain ⟨j,hj⟩ : ∃ j,j = A.acc.length - i:=⟨_,rfl⟩
  rw [← hj] at e6
  simp [e0,e6]
  refine (s_Count (base:=base) t s w rb j A K (h.keeps k) hok hw hs hn (by omega)).step fun v K2 k2 hv => ?_
  subst hv
  by_cases hlt : i < A.acc.length - d
  · have hz:=hno j (by omega) (by omega)
    have hb : (((if countB A s j = true then 1 else 0 : Nat) : Int) == 0) = true:=by rw [hz]; rfl
    have hj0 : ((j : Int) == 0) = false:=by simp; omega
    have hj0' : ¬ j = 0:=by omega
    have wp : IntKind.i64.wrap ((j : Int) - 1) = ((j - 1 : Nat) : Int):=by rw [w64 (by omega) (by omega)]; omega
    simp [hz,e6,hj0,hj0',wp,hlt]
    rw [hI]
    exact ⟨by simp; omega,k.trans k2⟩
  · have hje : j = d:=by omega
    subst hje
    simp [hc]
    rw [hZ]
    exact ⟨by simp [e0,e1,e6],k.trans k2⟩
theorem s_EndG (t s w rb d : Nat) (A : Aut) (H : BH) (h : RdP H rb t s A) (hok : A.Ok w) (hw : 2≤w) (hs : s < A.acc.length) (hn : A.acc.length≤1000000) (hd : d≤A.acc.length) (hc : countB A s d = true) (hno : ∀ k,d < k→k≤A.acc.length→countB A s k = false) :
    FnDoes (gam base) 141 [.ptr rb 0,.bool true] H fun v _ => v = .tup (if 40 < d then [.str ⟨#[]⟩,encN 3] else [encW (extW A s d 1),encN 0]):=by
  refine FnDoes.of (fn:=ir141) rfl ?_
  refine wpC_part 3 (En1 H rb d true) (end_great t s w rb d A H h hok hw hs hn hd hc hno _) fun e K hh => ?_
  exact end_word t s w rb d true A H h hok hw hs hn (by omega) 1 rfl e K hh
theorem s_Great (s rb : Nat) (A : Aut) (H : BH) (h : RdP H rb 1 s A) (hok : A.Ok (wd 1)) (hs : s < A.acc.length) (hn : A.acc.length≤150) :
    FnDoes (gam base) 90 [.ptr rb 0,.bool true] H fun v _ => v = .tup [encN (greatA (TA 1 (A.lang s))).1,encN (greatA (TA 1 (A.lang s))).2]:=by
  obtain ⟨R,hR⟩ : ∃ R : BV→BH→Prop,R = fun v _ => v = .tup [encN (greatA (TA 1 (A.lang s))).1,encN (greatA (TA 1 (A.lang s))).2]:=⟨_,rfl⟩
  rw [← hR]
  refine FnDoes.of (fn:=ir90) rfl ?_
  simp [ir90]
  refine (s_tidied (base:=base) 1 s rb (by omega) A H h hok hs (by omega)).step fun v K1 k1 hv => ?_
  obtain ⟨hT1,hT2⟩:=TA_spec (t:=1) (by omega) hok hs
  have hTo : (TA 1 (A.lang s)).Ok 2:=hT1.ok
  obtain ⟨T,hTe⟩ : ∃ T,T = TA 1 (A.lang s):=⟨_,rfl⟩
  rw [← hTe] at hv hTo hT2 hR
  have hTp:=hTo.pos
  obtain ⟨u,x,hve,hu,hx⟩:=hv.rd
  subst hve
  have u1:=hu.one
  have x1:=one_of_isSl hx.isSl
  simp [u1,x1]
  intro n5 b5 f5
  obtain ⟨K5,g5,o5⟩:=(Own.start (base:=base) (H:=K1) |>.new f5 b5 (s:=.arr 25 [.int .i64 0,.int .i64 0,.nils,.nils])).putAll 0 (b:=n5) (n:=4) (ds:=[encN 1,encN 0,u,x]) rfl rfl rfl (by simp [u1,x1]) (rt:=none) rfl
  have hP : RdP K5 n5 1 0 T:=hv.rd.at o5.keeps (o5.at 0 (b:=n5) rfl)
  simp [make_of f5 b5,g5]
  refine (s_first (base:=base) 1 0 n5 (by omega) T K5 hP hTo hTp (by omega)).step fun v K6 k6 hv6 => ?_
  obtain ⟨c,f,rfl,hf⟩:=hv6
  have kk : H.Keeps K6:=(k1.trans o5.keeps).trans k6
  have hf' : f = true↔∃ d,TkL T 2 0 d:=by
    rw [hf]
    constructor
    · rintro ⟨cs,h1,h2⟩; exact ⟨cs.length,cs,h1,rfl,h2⟩
    · rintro ⟨d,cs,h1,_,h2⟩; exact ⟨cs,h1,h2⟩
  cases f with
  | false =>
    simp
    rw [hR]
    have hneg : farZ T 2 0 < 0:=(far_neg hTo).2 fun hh => by
      have:=hf'.2 hh
      cases this
    refine ⟨kk,?_⟩
    simp [greatA,hneg]
  | true =>
    have hpos : ¬ farZ T 2 0 < 0:=fun hneg => (far_neg hTo).1 hneg (hf'.1 rfl)
    simp
    refine (s_Finite (base:=base) 1 0 2 n5 T K6 (hP.keeps k6) hTo hTp (by omega) (by omega) (finA T) finA_iff).step fun v K7 k7 hv => ?_
    subst hv
    cases hfin : finA T with
    | false =>
      simp
      rw [hR]
      exact ⟨kk.trans k7,by simp [greatA,hpos,hfin]⟩
    | true =>
      obtain ⟨ht1,ht2,ht3⟩:=topA_count hTo hpos
      obtain ⟨d,hd⟩ : ∃ d,d = topA T:=⟨_,rfl⟩
      rw [← hd] at ht1 ht2 ht3
      simp
      refine (s_EndG (base:=base) 1 0 2 n5 d T K7 ((hP.keeps k6).keeps k7) hTo (by omega) hTp (by omega) ht1 ht2 ht3).step fun v K8 k8 hv => ?_
      subst hv
      have hla : greatA T = numA (extW T 0 d 1):=by simp [greatA,hpos,hfin,hd]
      by_cases h40 : 40 < d
      · simp [h40]
        rw [hR]
        refine ⟨(kk.trans k7).trans k8,?_⟩
        rw [hla]
        simp [numA,extW_len,h40]
      · simp [h40]
        refine callP (s_number (extW T 0 d 1) K8 (extW_w (by omega)) (by rw [extW_len]; omega)) ?_
        by_cases h9 : numW (extW T 0 d 1)≤1000000000
        · have h9' : ¬ (1000000000 : Int) < (numW (extW T 0 d 1) : Int):=by omega
          simp [h9',show ¬ 1000000000 < numW (extW T 0 d 1) by omega]
          rw [hR]
          refine ⟨(kk.trans k7).trans k8,?_⟩
          rw [hla]
          simp [numA,extW_len,h40,h9]
        · have h9' : (1000000000 : Int) < (numW (extW T 0 d 1) : Int):=by omega
          simp [h9',show 1000000000 < numW (extW T 0 d 1) by omega]
          rw [hR]
          refine ⟨(kk.trans k7).trans k8,?_⟩
          rw [hla]
          simp [numA,extW_len,h40,h9]
theorem s_GreatestNumber (r : Raw4) (m : BV) (H : BH) (h : RdRaw H r.1 r.2.1 r.2.2.1 r.2.2.2 m) (hn : r.2.2.1.length≤4611686018427387904) :
    FnDoes (gam base) 36 [m] H fun v _ => v = .tup [encN (greatN r).1,encN (greatN r).2]:=by
  obtain ⟨R,hR⟩ : ∃ R : BV→BH→Prop,R = fun v _ => v = .tup [encN (greatN r).1,encN (greatN r).2]:=⟨_,rfl⟩
  rw [← hR]
  refine FnDoes.of (fn:=ir36) rfl ?_
  obtain ⟨u,x,rfl,hu,hx⟩:=h
  have u1:=hu.one
  have x1:=one_of_isSl hx.isSl
  simp [ir36,u1,x1]
  intro n1 b1 f1
  have o1:=Own.start (base:=base) (H:=H) |>.new f1 b1 (s:=.arr 25 [.int .i64 r.1,.int .i64 r.2.1,u,x])
  have hp : RdRawP _ n1 r.1 r.2.1 r.2.2.1 r.2.2.2:=⟨u,x,o1.at 0 rfl,hu.keeps o1.keeps,hx.keeps o1.keeps⟩
  simp [make_of f1 b1]
  refine (s_set (base:=base) r n1 _ hp hn).step fun v K1 k1 hv => ?_
  subst hv
  have o2:=o1.call k1
  have hp2:=hp.keeps k1
  by_cases h0 : setsN [r] = 0
  case neg =>
    simp [sets_ne h0]
    rw [hR]
    refine ⟨o2.keeps,?_⟩
    simp [greatN,h0]
  obtain ⟨s,A,e1,e2,e3,e4,hok,hs,hlen,hA,-⟩:=ns_elim h0
  have hrel : RdP K1 n1 1 s A:=by
    rw [e1,e2,e3,e4] at hp2
    exact hp2.rel
  simp [h0]
  refine (s_Great (base:=base) s n1 A K1 hrel hok hs hlen).step fun v K3 k3 hv => ?_
  subst hv
  simp
  rw [hR]
  refine ⟨o2.keeps.trans k3,?_⟩
  have htr : tidyR r = TA 1 (A.lang s):=by unfold tidyR; rw [hA,e2]; simp
  have : greatN r = greatA (TA 1 (A.lang s)):=by simp [greatN,h0,htr]
  rw [this]
theorem law_GreatestNumber (T S : Int) (acc : List Bool) (rows : List (List Int)) (m : BV) (H : BH) (h : RdL H T S acc rows m) (hn1 : acc.length≤9223372036854775807) (hn : rows.length≤9223372036854775807) (hr : ∀ xs∈rows,xs.length≤9223372036854775807) :
    FnDoes (gam base) 8 [m] H fun v _ => v = .bool true:=by
  refine FnDoes.of (fn:=ir8) rfl ?_
  have g:=h
  obtain ⟨u,x,tb,tw,rfl,hu,hx⟩:=h
  have u1:=hu.one
  have x1:=one_of_isSl hx.isSl
  simp [ir8,u1,x1]
  intro n1 b1 f1
  have o1:=Own.start (base:=base) (H:=H) |>.new f1 b1 (s:=.arr 49 [.int .i64 T,.int .i64 S,u,x])
  have r1:=rd_all (o1.at 0 (b:=n1) rfl) (n:=4) (rt:=none) rfl rfl
  simp [make_of f1 b1,r1]
  refine (z_rel (base:=base) T S acc rows _ _ (g.keeps o1.keeps) hn1 hn hr).step fun v K1 k1 hv => ?_
  obtain ⟨z,rfl,hz⟩:=hv
  have o2:=o1.call k1
  by_cases hz0 : z < 0
  · simp [hz0]
    exact o2.keeps
  obtain ⟨m1,m2,m3⟩:=hz (by omega)
  have r1:=rd_all (o2.at 0 (b:=n1) rfl) (n:=4) (rt:=none) rfl rfl
  simp [hz0,r1]
  refine (t_rel (base:=base) T S acc rows _ _ (g.keeps o2.keeps) m1 m2 m3).step fun v K2 k2 hv => ?_
  have o3:=o2.call k2
  simp
  refine (s_GreatestNumber (base:=base) (T,S,acc,rows) v K2 hv (by show acc.length≤_; omega)).step fun v' K3 k3 hv' => ?_
  subst hv'
  have o4:=o3.call k3
  have r1:=rd_all (o4.at 0 (b:=n1) rfl) (n:=4) (rt:=none) rfl rfl
  simp [r1]
  refine (t_rel (base:=base) T S acc rows _ _ (g.keeps o4.keeps) m1 m2 m3).step fun w K4 k4 hw => ?_
  have o5:=o4.call k4
  obtain ⟨uu,ww,rfl,hu2,hx2⟩:=id hw
  have u2:=hu2.one
  have x2:=one_of_isSl hx2.isSl
  simp [u2,x2]
  intro n6 b6 f6
  obtain ⟨K5,g5,o6⟩:=(o5.new f6 b6 (s:=.arr 25 [.int .i64 0,.int .i64 0,.nils,.nils])).putAll 0 (b:=n6) (n:=4) (ds:=[encI T,encI S,uu,ww]) rfl rfl rfl (by simp [u2,x2]) (rt:=none) rfl
  obtain ⟨K5',g5',o6'⟩:=(Own.start (base:=base) (H:=K4) |>.new f6 b6 (s:=.arr 25 [.int .i64 0,.int .i64 0,.nils,.nils])).putAll 0 (b:=n6) (n:=4) (ds:=[encI T,encI S,uu,ww]) rfl rfl rfl (by simp [u2,x2]) (rt:=none) rfl
  rw [g5] at g5'
  cases g5'
  have k5:=o6'.keeps
  have r6:=rd_all (o6.at 0 (b:=n6) rfl) (n:=4) (rt:=none) rfl rfl
  simp [make_of f6 b6,g5,r6]
  refine (i_GreatestNumber (base:=base) (T,S,acc,rows) _ K5 (hw.keeps k5) (by show acc.length≤_; omega)).step fun v' K6 k6 hv' => ?_
  subst hv'
  have o7:=o6.call k6
  have r6:=rd_all (o7.at 0 (b:=n6) rfl) (n:=4) (rt:=some 25) rfl rfl
  have r1:=rd_all (o7.at 1 (b:=n1) rfl) (n:=4) (rt:=none) rfl rfl
  simp [r6,r1]
  refine (t_rel (base:=base) T S acc rows _ _ (g.keeps o7.keeps) m1 m2 m3).step fun w K7 k7 hw2 => ?_
  simp
  refine (q_rel (base:=base) T S acc rows _ w K7 ((hw.keeps (k5.trans k6)).keeps k7) hw2 (by omega) (by omega) (fun r hr' => by have:=m3 r hr'; omega)).step fun v' K8 k8 hv' => ?_
  subst hv'
  simp
  exact (o7.keeps.trans k7).trans k8
end Go.Proofs.YtbnmhbmhafbmiaaGreatDoor.W
end

section
namespace Go.Proofs.YtbnmhbmhafbmiaaGreatDoor.W
set_option linter.unusedVariables false
set_option linter.unusedSimpArgs false
open Go.B
variable {base : Nat}
attribute [local simp] wpC_skip wpC_region wpC_seq wpC_true wpC_false wpC_block wpC_exit wpC_ret wpO_nil wpO_n wpO_tt wpO_ff wpO_tf wpO_ft wpO_u wpS_mov wpS_pick wpS_build wpS_load wpS_store wpS_nilck wpS_bin wpS_beq wpS_isnil wpS_eqs wpS_not wpS_neg wpS_conv wpS_lea wpS_fld wpS_idx wpS_idxs wpS_slice wpS_sslice wpS_mkfn wpS_mset wpS_look wpS_ext wpS_len wpS_new wpS_box wpS_mk wpS_mkmap wpS_mksl wpS_app wpS_fn wpS_call after_some pthen_n pthen_x pthen_r pin BExit.outOf puto_some puto_none put_eq put_ne Opd.ev argEnv op1_mov op1_pick op1_new op1_box op1_load op1_nilck op1_bin op1_beq op1_not op1_neg op1_conv op1_lea op1_fld op1_len0 op1_len1 op1_idx op1_ext op1_build op1_mk op1_stw op1_mksl op1_eqs pureBin isShift resOf resVals val_tmp val_cell oneOf one_int cells_int one_bool cells_bool one_str cells_str one_nilp cells_nilp one_ptr cells_ptr one_nils cells_nils one_sl cells_sl one_sle cells_sle one_nilm cells_nilm one_mp cells_mp one_nilf cells_nilf one_fn cells_fn one_nili cells_nili cells_agg isSl_sl slen_sl sat_sl make_of asm rtOk wpS_b2s op1_b2s wpS_imax op1_imax wpS_imin op1_imin wpS_i2s op1_i2s op1_isnil Option.map_some gam_base op1_app op1_idxs wpS_idxa op1_idxa op1_sslice bound_none bound_some nat_of op1_mkmap op1_mset op1_look op1_len2 op1_mkfn Go.B.fillB Has
section
variable {H : Type} {enc : TypeId × Value→H} {W : World} {held : Bool}
theorem sls_nil (w : World) (ty sz : Nat) : Sls (heap0 w) ty sz (absV w (.slice none 0 0)) []:=⟨rfl,rfl,fun i x hi => by simp at hi⟩
def fs25 : Array Field:=#[⟨"Tapes",2,0,false,"","",0⟩,⟨"Start",2,1,false,"","",8⟩,⟨"Accept",22,2,false,"","",16⟩,⟨"Next",23,3,false,"","",40⟩]
theorem u25 : Tryz.prog.underlying 49 = some (.struct fs25):=by kernel_rfl
theorem u2 : Tryz.prog.underlying 2 = some (.int .i64):=by kernel_rfl
theorem u4 : Tryz.prog.underlying 4 = some .bool:=by kernel_rfl
theorem u22 : Tryz.prog.underlying 22 = some (.slice 4):=by kernel_rfl
theorem u23 : Tryz.prog.underlying 23 = some (.slice 36):=by kernel_rfl
theorem u37 : Tryz.prog.underlying 36 = some (.slice 2):=by kernel_rfl
theorem open_flags {fuel : Nat} {c : Value} {x : DataW H × List MemPlace} (h : DataW.trod enc Tryz.prog W 0 (fun _ => true) held fuel 22 [c] = some x) :
    ∃ (bs : List Bool) (ty : Nat),Rd (heap0 W) ty (absV W c) (bs.map encB)∧bs.length≤9223372036854775807:=by
  rcases Deep.open_bools u22 u4 (by kernel_rfl) h with ⟨e,_⟩ | ⟨a,len,cap,B,e,_,hl,hm,_,hcell⟩
  · simp at e
    subst e
    exact ⟨[],0,sls_nil W 0 1,by simp⟩
  · simp at e
    subst e
    obtain ⟨ty,hs⟩:=Sls.start (w:=W) (a:=a) (n:=len) (c:=cap) (sz:=1) (xs:=(List.range len).map fun i => [Value.bool (B i)]) (by simp) hl (by omega) (by simp) (by
      intro i x hi j v hj
      rw [List.getElem?_map] at hi
      simp only [Option.map_eq_some_iff] at hi
      obtain ⟨k,hk,rfl⟩:=hi
      obtain ⟨hlt,hkv⟩:=List.getElem?_eq_some_iff.1 hk
      simp at hlt hkv
      subst hkv
      cases j with
      | zero =>
        simp at hj
        subst hj
        simpa using hcell i (by omega)
      | succ j => simp at hj)
    refine ⟨(List.range len).map B,ty,?_,?_⟩
    · unfold Rd
      simpa [List.map_map,Function.comp_def,absV,toB1,one1,encB] using hs
    · simp [maxLen] at hm ⊢
      omega
theorem open_longs {a : Addr} {L C : Nat} {Z : List Int} (hl : L≤C) (hz : Z.length = C) (hcell : ∀ c,c < C→W.cell? (a.add c) = some (.int .i64 (Z.getD c 0))) :
    ∃ ty,Rd (heap0 W) ty (absV W (.slice (some a) L C)) ((Z.take L).map encI):=by
  obtain ⟨ty,hs⟩:=Sls.start (w:=W) (a:=a) (n:=L) (c:=C) (sz:=1) (xs:=(Z.take L).map fun z => [Value.int .i64 z]) (by simp; omega) hl (by omega) (fun x hx => by
    obtain ⟨z,_,rfl⟩:=List.mem_map.1 hx
    rfl) (by
    intro i x hi j v hj
    rw [List.getElem?_map] at hi
    simp only [Option.map_eq_some_iff] at hi
    obtain ⟨k,hk,rfl⟩:=hi
    obtain ⟨hlt,hkv⟩:=List.getElem?_eq_some_iff.1 hk
    rw [List.length_take] at hlt
    rw [List.getElem_take] at hkv
    cases j with
    | zero =>
      simp at hj
      subst hj
      have:=hcell i (by omega)
      rw [List.getD_eq_getElem?_getD,List.getElem?_eq_getElem (by omega)] at this
      rw [← hkv]
      simpa using this
    | succ j => simp at hj)
  refine ⟨ty,?_⟩
  unfold Rd
  simpa [List.map_map,Function.comp_def,absV,toB1,one1,encI] using hs
theorem open_rows {fuel : Nat} {c : Value} {x : DataW H × List MemPlace} (h : DataW.trod enc Tryz.prog W 0 (fun _ => true) held fuel 23 [c] = some x) :
    ∃ (rows : List (List Int)) (ty : Nat),RdQ (heap0 W) ty (absV W c) encI rows∧rows.length≤9223372036854775807∧∀ xs∈rows,xs.length≤9223372036854775807:=by
  rcases Deep.open_int_rows u23 u37 u2 (by kernel_rfl) (by kernel_rfl) h with ⟨e,_⟩ | ⟨a,len,cap,A,L,C,Z,e,_,hl,hm,_,hr⟩
  · simp at e
    subst e
    exact ⟨[],0,⟨[],sls_nil W 0 1,rfl,fun i u xs hu => by simp at hu⟩,by simp,by simp⟩
  · simp at e
    subst e
    obtain ⟨ty,hs⟩:=Sls.start (w:=W) (a:=a) (n:=len) (c:=cap) (sz:=1) (xs:=(List.range len).map fun r => [Value.slice (A r) (L r) (C r)]) (by simp) hl (by omega) (by simp) (by
      intro i x hi j v hj
      rw [List.getElem?_map] at hi
      simp only [Option.map_eq_some_iff] at hi
      obtain ⟨k,hk,rfl⟩:=hi
      obtain ⟨hlt,hkv⟩:=List.getElem?_eq_some_iff.1 hk
      simp at hlt hkv
      subst hkv
      cases j with
      | zero =>
        simp at hj
        subst hj
        simpa using (hr i (by omega)).1
      | succ j => simp at hj)
    refine ⟨(List.range len).map fun r => (Z r).take (L r),ty,⟨(List.range len).map fun r => absV W (.slice (A r) (L r) (C r)),?_,by simp,?_⟩,?_,?_⟩
    · unfold Rd
      simpa [List.map_map,Function.comp_def,one1] using hs
    · intro i u xs hu hx
      have hil : i < len:=by have:=(List.getElem?_eq_some_iff.1 hu).1; simpa using this
      rw [List.getElem?_map,List.getElem?_range hil] at hu hx
      simp at hu hx
      subst hu hx
      obtain ⟨_,g2,g3,g4,_,g6,g7⟩:=hr i (by omega)
      cases hA : A i with
      | none =>
        have hc:=g6 hA
        have hL : L i = 0:=by omega
        rw [hc,hL]
        exact ⟨0,sls_nil W 0 1⟩
      | some a' => exact open_longs g2 g4 (g7 a' hA).2
    · simp [maxLen] at hm ⊢
      omega
    · intro xs hxs
      obtain ⟨r,hr',rfl⟩:=List.mem_map.1 hxs
      obtain ⟨_,g2,g3,g4,_⟩:=hr r (by have:=List.mem_range.1 hr'; omega)
      simp [maxLen] at g3 ⊢
      omega
end
end Go.Proofs.YtbnmhbmhafbmiaaGreatDoor.W
end

section
namespace Go.Proofs
open Go.Shelf Go.B
def Tryz.laysItoa_ren : Go.Shelf.Ren:=⟨fun | 171 => 210 | 243 => 239 | 246 => 256 | 283 => 260 | 284 => 261 | 285 => 262 | 286 => 263 | 129 => 233 | 317 => 266 | 318 => 267 | 319 => 268 | 320 => 269 | 337 => 270 | 338 => 271 | n => n,fun | 3 => 3 | 9 => 9 | 2 => 2 | 4 => 4 | 171 => 234 | 0 => 0 | 53 => 204 | 37 => 33 | 5 => 5 | 173 => 236 | 212 => 239 | 51 => 202 | 20 => 20 | 213 => 240 | 46 => 105 | 232 => 241 | 233 => 242 | n => n,fun | 17 => 3 | 18 => 4 | 19 => 5 | n => n⟩
theorem Tryz.laysItoa : Go.Proofs.LaysM.n171 Tryz.prog Tryz.laysItoa_ren where
  mixed:=by kernel_rfl
  f129:=Tryz.func233.trans (congrArg some (by kernel_rfl))
  f171:=Tryz.func210.trans (congrArg some (by kernel_rfl))
  f243:=Tryz.func239.trans (congrArg some (by kernel_rfl))
  f246:=Tryz.func256.trans (congrArg some (by kernel_rfl))
  f283:=Tryz.func260.trans (congrArg some (by kernel_rfl))
  f284:=Tryz.func261.trans (congrArg some (by kernel_rfl))
  f285:=Tryz.func262.trans (congrArg some (by kernel_rfl))
  f286:=Tryz.func263.trans (congrArg some (by kernel_rfl))
  f317:=Tryz.func266.trans (congrArg some (by kernel_rfl))
  f318:=Tryz.func267.trans (congrArg some (by kernel_rfl))
  f319:=Tryz.func268.trans (congrArg some (by kernel_rfl))
  f320:=Tryz.func269.trans (congrArg some (by kernel_rfl))
  f337:=Tryz.func270.trans (congrArg some (by kernel_rfl))
  f338:=Tryz.func271.trans (congrArg some (by kernel_rfl))
  t0:=Tryz.underlying0
  a0:=Tryz.isAgg0
  z0:=Tryz.sizeOf0
  v0:=Tryz.zeroValue0
  t2:=Tryz.underlying2
  a2:=Tryz.isAgg2
  z2:=Tryz.sizeOf2
  v2:=Tryz.zeroValue2
  t3:=Tryz.underlying3
  a3:=Tryz.isAgg3
  z3:=Tryz.sizeOf3
  v3:=Tryz.zeroValue3
  t4:=Tryz.underlying4
  a4:=Tryz.isAgg4
  z4:=Tryz.sizeOf4
  v4:=Tryz.zeroValue4
  t5:=Tryz.underlying5
  a5:=Tryz.isAgg5
  z5:=Tryz.sizeOf5
  v5:=Tryz.zeroValue5
  t9:=Tryz.underlying9
  a9:=Tryz.isAgg9
  z9:=Tryz.sizeOf9
  v9:=Tryz.zeroValue9
  t20:=Tryz.underlying20
  a20:=Tryz.isAgg20
  z20:=Tryz.sizeOf20
  v20:=Tryz.zeroValue20
  t37:=Tryz.underlying33
  a37:=Tryz.isAgg33
  z37:=Tryz.sizeOf33
  v37:=Tryz.zeroValue33
  t46:=Tryz.underlying105
  a46:=Tryz.isAgg105
  z46:=Tryz.sizeOf105
  v46:=Tryz.zeroValue105
  t51:=Tryz.underlying202
  a51:=Tryz.isAgg202
  z51:=Tryz.sizeOf202
  v51:=Tryz.zeroValue202
  t53:=Tryz.underlying204
  a53:=Tryz.isAgg204
  z53:=Tryz.sizeOf204
  v53:=Tryz.zeroValue204
  t171:=Tryz.underlying234
  a171:=Tryz.isAgg234
  z171:=Tryz.sizeOf234
  v171:=Tryz.zeroValue234
  t173:=Tryz.underlying236
  a173:=Tryz.isAgg236
  z173:=Tryz.sizeOf236
  v173:=Tryz.zeroValue236
  t212:=Tryz.underlying239
  a212:=Tryz.isAgg239
  z212:=Tryz.sizeOf239
  v212:=Tryz.zeroValue239
  t213:=Tryz.underlying240
  a213:=Tryz.isAgg240
  z213:=Tryz.sizeOf240
  t232:=Tryz.underlying241
  a232:=Tryz.isAgg241
  z232:=Tryz.sizeOf241
  v232:=Tryz.zeroValue241
  t233:=Tryz.underlying242
  a233:=Tryz.isAgg242
  z233:=Tryz.sizeOf242
  v233:=Tryz.zeroValue242
  g17:=by kernel_rfl
  g18:=by kernel_rfl
  g19:=by kernel_rfl
  i0:=by kernel_rfl
  i2:=by kernel_rfl
  i3:=by kernel_rfl
  i4:=by kernel_rfl
  i5:=by kernel_rfl
  i9:=by kernel_rfl
  i20:=by kernel_rfl
  i37:=by kernel_rfl
  i46:=by kernel_rfl
  i51:=by kernel_rfl
  i53:=by kernel_rfl
  i171:=by kernel_rfl
  i173:=by kernel_rfl
  i212:=by kernel_rfl
  i232:=by kernel_rfl
  i233:=by kernel_rfl
  m17:=by kernel_rfl
  m18:=by kernel_rfl
  m19:=by kernel_rfl
def Tryz.laysDel_ren : Go.Shelf.Ren:=⟨fun | 23 => 185 | n => n,fun | 22 => 80 | 3 => 3 | 4 => 4 | 0 => 0 | n => n,fun | n => n⟩
theorem Tryz.laysDel : Go.Proofs.Lays2.n23 Tryz.prog Tryz.laysDel_ren where
  mixed:=by kernel_rfl
  f23:=Tryz.func185.trans (congrArg some (by kernel_rfl))
  t0:=Tryz.underlying0
  a0:=Tryz.isAgg0
  z0:=Tryz.sizeOf0
  v0:=Tryz.zeroValue0
  t3:=Tryz.underlying3
  a3:=Tryz.isAgg3
  z3:=Tryz.sizeOf3
  v3:=Tryz.zeroValue3
  t4:=Tryz.underlying4
  a4:=Tryz.isAgg4
  z4:=Tryz.sizeOf4
  v4:=Tryz.zeroValue4
  t22:=Tryz.underlying80
  a22:=Tryz.isAgg80
  z22:=Tryz.sizeOf80
  v22:=Tryz.zeroValue80
  i3:=by kernel_rfl
def Tryz.laysIns_ren : Go.Shelf.Ren:=⟨fun | 21 => 213 | 27 => 240 | 28 => 241 | 35 => 257 | 39 => 264 | n => n,fun | 22 => 80 | 3 => 3 | 4 => 4 | 0 => 0 | n => n,fun | n => n⟩
theorem Tryz.laysIns : Go.Proofs.Lays2.n21 Tryz.prog Tryz.laysIns_ren where
  mixed:=by kernel_rfl
  f21:=Tryz.func213.trans (congrArg some (by kernel_rfl))
  f27:=Tryz.func240.trans (congrArg some (by kernel_rfl))
  f28:=Tryz.func241.trans (congrArg some (by kernel_rfl))
  f35:=Tryz.func257.trans (congrArg some (by kernel_rfl))
  f39:=Tryz.func264.trans (congrArg some (by kernel_rfl))
  t0:=Tryz.underlying0
  a0:=Tryz.isAgg0
  z0:=Tryz.sizeOf0
  v0:=Tryz.zeroValue0
  t3:=Tryz.underlying3
  a3:=Tryz.isAgg3
  z3:=Tryz.sizeOf3
  v3:=Tryz.zeroValue3
  t4:=Tryz.underlying4
  a4:=Tryz.isAgg4
  z4:=Tryz.sizeOf4
  v4:=Tryz.zeroValue4
  t22:=Tryz.underlying80
  a22:=Tryz.isAgg80
  z22:=Tryz.sizeOf80
  v22:=Tryz.zeroValue80
  i3:=by kernel_rfl
def Tryz.laysSort_ren : Go.Shelf.Ren:=⟨fun | 189 => 144 | 125 => 200 | 257 => 199 | 128 => 232 | 129 => 233 | 294 => 223 | 295 => 224 | 296 => 225 | 297 => 226 | 298 => 227 | 299 => 228 | 216 => 229 | 300 => 230 | 301 => 231 | 328 => 246 | 329 => 247 | 330 => 248 | 331 => 249 | 332 => 250 | 215 => 251 | 343 => 258 | n => n,fun | 28 => 80 | 3 => 3 | 46 => 105 | 0 => 0 | 51 => 202 | 53 => 204 | 4 => 4 | 183 => 195 | 182 => 194 | 131 => 115 | 5 => 5 | 9 => 9 | 218 => 215 | 222 => 219 | 228 => 231 | 229 => 232 | n => n,fun | n => n⟩
theorem Tryz.laysSort : Go.Proofs.Lays.n189 Tryz.prog Tryz.laysSort_ren where
  mixed:=by kernel_rfl
  f125:=Tryz.func200.trans (congrArg some (by kernel_rfl))
  f128:=Tryz.func232.trans (congrArg some (by kernel_rfl))
  f129:=Tryz.func233.trans (congrArg some (by kernel_rfl))
  f189:=Tryz.func144.trans (congrArg some (by kernel_rfl))
  f215:=Tryz.func251.trans (congrArg some (by kernel_rfl))
  f216:=Tryz.func229.trans (congrArg some (by kernel_rfl))
  f257:=Tryz.func199.trans (congrArg some (by kernel_rfl))
  f294:=Tryz.func223.trans (congrArg some (by kernel_rfl))
  f295:=Tryz.func224.trans (congrArg some (by kernel_rfl))
  f296:=Tryz.func225.trans (congrArg some (by kernel_rfl))
  f297:=Tryz.func226.trans (congrArg some (by kernel_rfl))
  f298:=Tryz.func227.trans (congrArg some (by kernel_rfl))
  f299:=Tryz.func228.trans (congrArg some (by kernel_rfl))
  f300:=Tryz.func230.trans (congrArg some (by kernel_rfl))
  f301:=Tryz.func231.trans (congrArg some (by kernel_rfl))
  f328:=Tryz.func246.trans (congrArg some (by kernel_rfl))
  f329:=Tryz.func247.trans (congrArg some (by kernel_rfl))
  f330:=Tryz.func248.trans (congrArg some (by kernel_rfl))
  f331:=Tryz.func249.trans (congrArg some (by kernel_rfl))
  f332:=Tryz.func250.trans (congrArg some (by kernel_rfl))
  f343:=Tryz.func258.trans (congrArg some (by kernel_rfl))
  t0:=Tryz.underlying0
  a0:=Tryz.isAgg0
  z0:=Tryz.sizeOf0
  v0:=Tryz.zeroValue0
  t3:=Tryz.underlying3
  a3:=Tryz.isAgg3
  z3:=Tryz.sizeOf3
  v3:=Tryz.zeroValue3
  t4:=Tryz.underlying4
  a4:=Tryz.isAgg4
  z4:=Tryz.sizeOf4
  v4:=Tryz.zeroValue4
  t5:=Tryz.underlying5
  a5:=Tryz.isAgg5
  z5:=Tryz.sizeOf5
  v5:=Tryz.zeroValue5
  t9:=Tryz.underlying9
  a9:=Tryz.isAgg9
  z9:=Tryz.sizeOf9
  v9:=Tryz.zeroValue9
  t28:=Tryz.underlying80
  a28:=Tryz.isAgg80
  z28:=Tryz.sizeOf80
  v28:=Tryz.zeroValue80
  t46:=Tryz.underlying105
  a46:=Tryz.isAgg105
  z46:=Tryz.sizeOf105
  v46:=Tryz.zeroValue105
  t51:=Tryz.underlying202
  a51:=Tryz.isAgg202
  z51:=Tryz.sizeOf202
  v51:=Tryz.zeroValue202
  t53:=Tryz.underlying204
  a53:=Tryz.isAgg204
  z53:=Tryz.sizeOf204
  v53:=Tryz.zeroValue204
  t131:=Tryz.underlying115
  a131:=Tryz.isAgg115
  z131:=Tryz.sizeOf115
  v131:=Tryz.zeroValue115
  t182:=Tryz.underlying194
  a182:=Tryz.isAgg194
  z182:=Tryz.sizeOf194
  v182:=Tryz.zeroValue194
  t183:=Tryz.underlying195
  a183:=Tryz.isAgg195
  z183:=Tryz.sizeOf195
  v183:=Tryz.zeroValue195
  t218:=Tryz.underlying215
  a218:=Tryz.isAgg215
  z218:=Tryz.sizeOf215
  v218:=Tryz.zeroValue215
  t222:=Tryz.underlying219
  a222:=Tryz.isAgg219
  z222:=Tryz.sizeOf219
  v222:=Tryz.zeroValue219
  t228:=Tryz.underlying231
  a228:=Tryz.isAgg231
  z228:=Tryz.sizeOf231
  v228:=Tryz.zeroValue231
  t229:=Tryz.underlying232
  a229:=Tryz.isAgg232
  z229:=Tryz.sizeOf232
  v229:=Tryz.zeroValue232
def Tryz.laysComp_ren : Go.Shelf.Ren:=⟨fun | 20 => 145 | n => n,fun | 22 => 80 | 3 => 3 | 4 => 4 | 0 => 0 | n => n,fun | n => n⟩
theorem Tryz.laysComp : Go.Proofs.Lays2.n20 Tryz.prog Tryz.laysComp_ren where
  mixed:=by kernel_rfl
  f20:=Tryz.func145.trans (congrArg some (by kernel_rfl))
  t0:=Tryz.underlying0
  a0:=Tryz.isAgg0
  z0:=Tryz.sizeOf0
  v0:=Tryz.zeroValue0
  t3:=Tryz.underlying3
  a3:=Tryz.isAgg3
  z3:=Tryz.sizeOf3
  v3:=Tryz.zeroValue3
  t4:=Tryz.underlying4
  a4:=Tryz.isAgg4
  z4:=Tryz.sizeOf4
  v4:=Tryz.zeroValue4
  t22:=Tryz.underlying80
  a22:=Tryz.isAgg80
  z22:=Tryz.sizeOf80
  v22:=Tryz.zeroValue80
  i3:=by kernel_rfl
theorem tryz_ext {base : Nat} {w0 : World} (htab : Lib.TabIs Tryz.prog w0 "internal/strconv.uint64pow10" .u64 Lib.pow10Tab) : Sound Tryz.prog base w0 False (orC (orC (itoaB 210) (orC (sortB base 144 3) (orC (compB base 145 3) (cntB 143 4 80 3)))) (orC (delB base 185 3) (insB base 213 3))) :=
  orC_sound (orC_sound (itoaB_sound (enters_of Tryz.func210 rfl rfl) htab fun n h0 h1 w ht => Any.strconv_Itoa Tryz.laysItoa n h0 h1 w ht)
      (orC_sound (sortB_sound (enters_of Tryz.func144 rfl rfl) (by kernel_rfl) fun blk off cap zs w hH hb hz => Any.slices_Sort_int Tryz.laysSort blk off cap zs w hH hb hz)
        (orC_sound (compB_sound (enters_of Tryz.func145 rfl rfl) (by kernel_rfl) fun blk off cap zs w hH hz hc => Any.slices_Compact_int Tryz.laysComp blk off cap zs w hH hz hc) _root_.Go.Proofs.YtbnmhbmhafbmiaaGreatDoor.W.cnt_sound)))
    (orC_sound (delB_sound (enters_of Tryz.func185 rfl rfl) (by kernel_rfl) fun blk off cap i j zs w hH hc hm hij hj => Any.slices_Delete_int Tryz.laysDel blk off cap i j zs w hH hc hm hij hj)
      (insB_sound (enters_of Tryz.func213 rfl rfl) (by kernel_rfl) (insDoes_of Tryz.laysIns)))
theorem tryz_framed {base : Nat} : Framed (orC (orC (itoaB 210) (orC (sortB base 144 3) (orC (compB base 145 3) (cntB 143 4 80 3)))) (orC (delB base 185 3) (insB base 213 3))):=orC_framed (orC_framed (itoaB_framed 210) (orC_framed (inB_framed _ _ _ _ _) (orC_framed (inB_framed _ _ _ _ _) (cntB_framed _ _ _ _)))) (orC_framed (delB_framed base 185 3) (insB_framed base 213 3))
end Go.Proofs
end
