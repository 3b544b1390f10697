/-
Texts of our own, put together: F5, F6, F7, H1, H2, H3, H4, H5, H6, H7, H8, H9, H10, H11, H12, H13, J1, J2, J3, J4, J5, J6, J7, J8, J9, J10, J11, J12, J13, J14, J15.
-/
import Derived.Test.YtbnmhbmhafbmiaaGreatDoorK6
section
namespace Go.Proofs.YtbnmhbmhafbmiaaGreatDoor.W
set_option linter.unusedVariables false
set_option linter.unusedSimpArgs false
open Go.B
open Go.Au
variable {aA:Nat}
attribute [local simp] wpC_skip wpC_region wpC_seq kD fU wpC_block wpC_exit wpC_ret nO nP uI uL uJ uK aF6 nC iY fR jR fM fO cR nL fQ nJ mZ nB kB nE nH nF jV fN dS jH iZ jO nI nD nA nK uG fP jG nN uH kC eM nZ nX nY pin BExit.outOf gC gG put_eq sN Opd.ev eX oU kG oO pG kO gI mL pH oK oQ kX oV pD kR kQ oW pE gP uP oJ kJ pF bC iR cY cX nQ kF oneOf pM gY lD eJ pJ gV kZ eE pL gX kY eD uQ lJ pK gW lA eF uR lK lC eI uS lL lB eH cM pW nR iK aC asm dF nM iO jU kU jS kT nG oZ gK Option.map_some lH pI kV kA kW dX eL eK uU gJ kH kN kP kK Go.B.fillB Has
def plU2(t n:Nat):List Pl:=none::((List.range n).flatMap fun q=>(List.range (2^t)).map fun m=>some (q,m))
theorem plU2_len(t n:Nat):(plU2 t n).length=2^t*n+1:=by
 have:∀n,((List.range n).flatMap fun q=>(List.range (2^t)).map fun m=>(some (q,m):Pl)).length=2^t*n:=by
  intro n
  induction n with
  | zero=>rfl
  | succ n ih=>rw[List.range_succ (n:=n),List.flatMap_append,List.length_append,ih];simp[Nat.mul_succ]
 simp only[plU2,List.length_cons,this]
theorem mem_plU2{t n q m:Nat}:some (q,m)∈plU2 t n↔q<n∧m<2^t:=by
 simp[plU2]
theorem aO2{t:Nat}{X:Aut}(h:X.Ok (wd t)){s:Nat}(hs:s<X.y.length):Closed (wd t) (aT7 t X) (some (s,0)) (plU2 t X.y.length):=by
 refine⟨mem_plU2.2 ⟨hs,Nat.two_pow_pos t⟩,fun k hk c hc=>?_⟩
 cases k with
 | none=>exact List.mem_cons_self
 | some p =>
  obtain⟨q,m⟩:=p
  obtain⟨h1,h2⟩:=mem_plU2.1 hk
  rw[oC]
  split
  ·exact mem_plU2.2 ⟨h.to h1 hc,qH t c⟩
  ·exact List.mem_cons_self
theorem TA_len2{t:Nat}{X:Aut}(h:X.Ok (wd t)){s:Nat}(hs:s<X.y.length):(TA t (X.lang s)).y.length≤2^t*X.y.length+1:=by
 obtain⟨h1,h2,h3⟩:=cN (a:=vC X) (aO2 h hs)
 exact Nat.le_trans (tJ h1 h1.pos fun cs hc=>(h3 cs hc).trans (aC3 t X cs s 0)).2 (Nat.le_trans h2 (Nat.le_of_eq (plU2_len _ _)))
theorem TA_idem{t:Nat}(ht:t≤3){X:Aut}(h:X.Ok (wd t)){s:Nat}(hs:s<X.y.length):TA t ((TA t (X.lang s)).lang 0)=TA t (X.lang s):=cP fun cs hc hr=>by
 rw[(aY ht h hs).1.lang hc]
 simp[rl,hr]
theorem joinN_TA{t:Nat}(ht:t≤3){op:Bool→Bool→Bool}{X:Aut}(h:X.Ok (wd t)){s:Nat}(hs:s<X.y.length)(M:List Nat→Bool):bD t op ((TA t (X.lang s)).lang 0) M=bD t op (X.lang s) M:=by
 have e:TA t (fun cs=>op ((TA t (X.lang s)).lang 0 cs) (M cs))=TA t fun cs=>op (X.lang s cs) (M cs):=cP fun cs hc hr=>by
  rw[(aY ht h hs).1.lang hc]
  simp[rl,hr]
 unfold bD
 rw[TA_idem ht h hs,e]
theorem linN_book{kind c0:Int}{terms U:List Int}(h3:terms.length≤3)(hU:Closed (wd terms.length) (nxL kind (lO terms)) c0 U)(hU2:2^terms.length*U.length+1≤150):
  linN kind c0 terms U=bD terms.length (fun a b=>a&&b) ((vL kind c0 terms U).lang 0) ((TA terms.length (LD (List.range terms.length))).lang 0):=by
 obtain⟨hX,hl,-⟩:=wZ hU
 have h1:=TA_len2 hX hX.pos
 have h2:2^terms.length*(vL kind c0 terms U).y.length≤2^terms.length*U.length:=Nat.mul_le_mul_left _ hl
 unfold linN told
 rw[if_neg (by omega)]
 exact joinN_TA h3 hX hX.pos _
theorem vB(kind:Int)(hkd:kind=1∨kind=2)(terms:List Int)(hT:Terms terms)(h0:1≤terms.length)(c0:Int)(hc:-1000≤c0∧c0≤1000)(U:List Int)(hU:Closed (wd terms.length) (nxL kind (lO terms)) c0 U)(hU2:2^terms.length*U.length+1≤150)(hUb:∀s∈U,-1100000000000≤s∧s≤1100000000000)(v:BV)(H:BH)(hv:Rd H 2 v (terms.map encI)):FnDoes (gam aA) 18 [encI kind,v,encI c0] H fun r K=>RelR aA H terms.length (linN kind c0 terms U) r K:=by
 have hl3:=hT.1
 have hp2:1≤2^terms.length:=Nat.one_le_two_pow
 have hUl:U.length≤150:=by
  have:1*U.length≤2^terms.length*U.length:=Nat.mul_le_mul_right _ hp2
  omega
 rw[linN_book hl3 hU hU2]
 refine FnDoes.hide fun R hR=>?_
 refine FnDoes.of (fn:=ir18) rfl ?_
 obtain⟨hX,hXl,-⟩:=wZ hU
 obtain⟨X,hXe⟩:∃X,X=vL kind c0 terms U:=⟨_,rfl⟩
 have hraw:=s_raw (aA:=aA) kind hkd terms hT c0 (by unfold aZ;omega) U hU hUl hUb v
 rw[←hXe] at hR hX hXl hraw
 obtain⟨t,ht⟩:∃t,t=terms.length:=⟨_,rfl⟩
 have hvl:=hv.lenM
 rw[←ht] at hR hX hraw hvl
 simp[ir18]
 intro n6 b6 f6
 have o1:=Own.start (aA:=aA) (H:=H) |>.new f6 b6 (s:=.arr 25 [.int .i64 0,.int .i64 0,.nils,.nils])
 have hk:((kind != 1)=true∧(kind != 2)=false)∨(kind != 1)=false:=by
  rcases hkd with rfl|rfl
  ·exact .inr rfl
  ·exact .inl ⟨rfl,rfl⟩
 have hin1:inB (t:Int) 1 3=true:=by unfold inB;simp;omega
 have hin2:inB c0 (-1000) 1000=true:=by unfold inB;simp;omega
 have hs1:=s_in (aA:=aA) (t:Int) 1 3 (H.set n6 (.arr 25 [.int .i64 0,.int .i64 0,.nils,.nils]))
 have hs2:=s_in (aA:=aA) c0 (-1000) 1000 (H.set n6 (.arr 25 [.int .i64 0,.int .i64 0,.nils,.nils]))
 rw[hin1] at hs1
 rw[hin2] at hs2
 rcases hk with⟨hk1,hk2⟩|hk1
 ·simp[aC f6 b6,hk1,hk2,hv.isSl,hvl]
  refine aN hs1 ?_
  simp
  refine aN hs2 ?_
  simp
  obtain⟨H1,hH1⟩:∃H1,H1=H.set n6 (.arr 25 [.int .i64 0,.int .i64 0,.nils,.nils]):=⟨_,rfl⟩
  rw[←hH1] at o1
  rw[←hH1]
  obtain⟨I,hI⟩:∃I:Nat→Env→BH→Prop,I=(fun i e K=>e 8=aB i∧K=H1):=⟨_,rfl⟩
  refine aE t [(0,encI kind),(1,v),(2,encI c0),(6,.ptr n6 0)] I (i0:=0) ?_ ?_ ?_ (Nat.zero_le _) ?_
  ·rfl
  ·simp
  ·rw[hI]
   exact⟨by simp,rfl⟩
  rintro i e K hi ⟨e0,e1,e2,e6,-⟩ hh
  rw[hI] at hh
  obtain⟨e8,rfl⟩:=hh
  simp only[] at e0 e1 e2 e6
  have wi:=wS (n:=i) (by omega)
  by_cases hlt:i<t
  ·have gi:=(hv.keeps o1.keeps).at (i:=i) (by omega) (rt:=none) rfl
   have hti:i<terms.length:=by omega
   have gi':K.rd none none (v.sat i 1)=some (encI terms[i]):=by simpa using gi
   have hg:=hT.2 _ (List.getElem_mem hti)
   have hin3:inB terms[i] (-20) 20=true:=by unfold inB;simp;omega
   have hs3:=s_in (aA:=aA) terms[i] (-20) 20 K
   rw[hin3] at hs3
   simp[e1,e8,hv.isSl,hvl,hlt,gi']
   refine aN hs3 ?_
   simp[e8,wi,hlt]
   rw[hI]
   exact⟨by simp,rfl⟩
  ·simp[e0,e1,e2,e8,hv.isSl,hvl,hlt]
   refine(hraw K (hv.keeps o1.keeps)).step fun r K1 k1 hr=>?_
   obtain⟨m,rfl,hm⟩:=hr
   have hm:=hm.rd
   obtain⟨u,w,rfl,hu,hw⟩:=id hm
   have u1:=hu.one
   have w1:=aF hw.isSl
   simp[u1,w1]
   intro n9 b9 f9
   obtain⟨K2,g2,o2⟩:=(Own.start (aA:=aA) (H:=K1) |>.new f9 b9 (s:=.arr 25 [.int .i64 0,.int .i64 0,.nils,.nils])).putAll 0 (b:=n9) rfl (n:=4) (ds:=[aB t,aB 0,u,w]) rfl rfl (by simp[u1,w1]) (rt:=none) rfl
   have r9:=aI (o2.at 0 (b:=n9) rfl) (n:=4) (rt:=none) rfl rfl
   simp[aC f9 b9,g2,r9]
   have hm2:=hm.keeps o2.keeps
   refine(s_told (aA:=aA) t 0 X _ K2 hm2 (by omega)).step fun r K3 k3 hr=>?_
   rw[if_neg (by omega)] at hr
   subst hr
   simp[u1,w1]
   intro n11 b11 f11
   obtain⟨K4,g4,o4⟩:=(Own.start (aA:=aA) (H:=K3) |>.new f11 b11 (s:=.arr 25 [.int .i64 0,.int .i64 0,.nils,.nils])).putAll 0 (b:=n11) rfl (n:=4) (ds:=[aB t,aB 0,u,w]) rfl rfl (by simp[u1,w1]) (rt:=none) rfl
   have hm4:=hm2.keeps (k3.trans o4.keeps)
   simp[aC f11 b11,g4]
   refine(aB5 (aA:=aA) K4).step fun r K5 k5 hr=>?_
   rw[LD_dom] at hr
   have hd:=hr.rd
   obtain⟨du,dw,rfl,hdu,hdw⟩:=id hd
   have du1:=hdu.one
   have dw1:=aF hdw.isSl
   simp[du1,dw1]
   intro n13 b13 f13
   obtain⟨K6,g6,o6⟩:=(Own.start (aA:=aA) (H:=K5) |>.new f13 b13 (s:=.arr 28 [.int .i64 0,.int .i64 0,.nils,.nils,.nils])).putAll 0 (b:=n13) rfl (n:=5) (ds:=[aB 1,aB 0,du,dw,.nils]) rfl rfl (by simp[du1,dw1]) (rt:=none) rfl
   simp[aC f13 b13,g6,e1,hv.isSl,hvl]
   refine(s_frame (aA:=aA) t n13 (by omega) (by omega) du dw .nils K6 (o6.at 0 (b:=n13) rfl) (hd.keeps o6.keeps)).step fun r K7 k7 hr=>?_
   obtain⟨mf,rfl,hmf⟩:=hr
   obtain⟨fu,fw,rfl,hfu,hfw⟩:=id hmf
   have fu1:=hfu.one
   have fw1:=aF hfw.isSl
   simp[fu1,fw1]
   intro n14 b14 f14
   obtain⟨K8,g8,o8⟩:=(Own.start (aA:=aA) (H:=K7) |>.new f14 b14 (s:=.arr 25 [.int .i64 0,.int .i64 0,.nils,.nils])).putAll 0 (b:=n14) rfl (n:=4) (ds:=[aB t,aB 0,fu,fw]) rfl rfl (by simp[fu1,fw1]) (rt:=none) rfl
   have k8:=((k5.trans o6.keeps).trans k7).trans o8.keeps
   have p11:=aJ k8 (aI (o4.at 0 (b:=n11) rfl) (n:=4) (rt:=none) rfl rfl)
   have p14:=aI (o8.at 0 (b:=n14) rfl) (n:=4) (rt:=none) rfl rfl
   simp[aC f14 b14,g8,p11,p14]
   obtain⟨hD1,hD2⟩:=bU (t:=t) (by omega) (S:=List.range t) (fun k hk=>List.mem_range.1 hk)
   refine(s_both (aA:=aA) t 0 0 (by omega) (by omega) _ _ _ _ K8 (hm4.keeps k8) (hmf.keeps o8.keeps) hX hD1.ok hX.pos hD1.ok.pos (by omega) (by omega)).step fun r K9 k9 hr=>?_
   obtain⟨m,K10,e8',g10,r10,kk,hrel⟩:=aW (aA:=aA) (o1.call (k1.trans (o2.keeps.trans (k3.trans (o4.keeps.trans k8))))) (i:=0) (n2:=n6) rfl rfl k9 hr
   subst e8'
   simp[e6,g10,r10]
   rw[hR]
   exact⟨kk,hrel⟩
 ·simp[aC f6 b6,hk1,hv.isSl,hvl]
  refine aN hs1 ?_
  simp
  refine aN hs2 ?_
  simp
  obtain⟨H1,hH1⟩:∃H1,H1=H.set n6 (.arr 25 [.int .i64 0,.int .i64 0,.nils,.nils]):=⟨_,rfl⟩
  rw[←hH1] at o1
  rw[←hH1]
  obtain⟨I,hI⟩:∃I:Nat→Env→BH→Prop,I=(fun i e K=>e 8=aB i∧K=H1):=⟨_,rfl⟩
  refine aE t [(0,encI kind),(1,v),(2,encI c0),(6,.ptr n6 0)] I (i0:=0) ?_ ?_ ?_ (Nat.zero_le _) ?_
  ·rfl
  ·simp
  ·rw[hI]
   exact⟨by simp,rfl⟩
  rintro i e K hi ⟨e0,e1,e2,e6,-⟩ hh
  rw[hI] at hh
  obtain⟨e8,rfl⟩:=hh
  simp only[] at e0 e1 e2 e6
  have wi:=wS (n:=i) (by omega)
  by_cases hlt:i<t
  ·have gi:=(hv.keeps o1.keeps).at (i:=i) (by omega) (rt:=none) rfl
   have hti:i<terms.length:=by omega
   have gi':K.rd none none (v.sat i 1)=some (encI terms[i]):=by simpa using gi
   have hg:=hT.2 _ (List.getElem_mem hti)
   have hin3:inB terms[i] (-20) 20=true:=by unfold inB;simp;omega
   have hs3:=s_in (aA:=aA) terms[i] (-20) 20 K
   rw[hin3] at hs3
   simp[e1,e8,hv.isSl,hvl,hlt,gi']
   refine aN hs3 ?_
   simp[e8,wi,hlt]
   rw[hI]
   exact⟨by simp,rfl⟩
  ·simp[e0,e1,e2,e8,hv.isSl,hvl,hlt]
   refine(hraw K (hv.keeps o1.keeps)).step fun r K1 k1 hr=>?_
   obtain⟨m,rfl,hm⟩:=hr
   have hm:=hm.rd
   obtain⟨u,w,rfl,hu,hw⟩:=id hm
   have u1:=hu.one
   have w1:=aF hw.isSl
   simp[u1,w1]
   intro n9 b9 f9
   obtain⟨K2,g2,o2⟩:=(Own.start (aA:=aA) (H:=K1) |>.new f9 b9 (s:=.arr 25 [.int .i64 0,.int .i64 0,.nils,.nils])).putAll 0 (b:=n9) rfl (n:=4) (ds:=[aB t,aB 0,u,w]) rfl rfl (by simp[u1,w1]) (rt:=none) rfl
   have r9:=aI (o2.at 0 (b:=n9) rfl) (n:=4) (rt:=none) rfl rfl
   simp[aC f9 b9,g2,r9]
   have hm2:=hm.keeps o2.keeps
   refine(s_told (aA:=aA) t 0 X _ K2 hm2 (by omega)).step fun r K3 k3 hr=>?_
   rw[if_neg (by omega)] at hr
   subst hr
   simp[u1,w1]
   intro n11 b11 f11
   obtain⟨K4,g4,o4⟩:=(Own.start (aA:=aA) (H:=K3) |>.new f11 b11 (s:=.arr 25 [.int .i64 0,.int .i64 0,.nils,.nils])).putAll 0 (b:=n11) rfl (n:=4) (ds:=[aB t,aB 0,u,w]) rfl rfl (by simp[u1,w1]) (rt:=none) rfl
   have hm4:=hm2.keeps (k3.trans o4.keeps)
   simp[aC f11 b11,g4]
   refine(aB5 (aA:=aA) K4).step fun r K5 k5 hr=>?_
   rw[LD_dom] at hr
   have hd:=hr.rd
   obtain⟨du,dw,rfl,hdu,hdw⟩:=id hd
   have du1:=hdu.one
   have dw1:=aF hdw.isSl
   simp[du1,dw1]
   intro n13 b13 f13
   obtain⟨K6,g6,o6⟩:=(Own.start (aA:=aA) (H:=K5) |>.new f13 b13 (s:=.arr 28 [.int .i64 0,.int .i64 0,.nils,.nils,.nils])).putAll 0 (b:=n13) rfl (n:=5) (ds:=[aB 1,aB 0,du,dw,.nils]) rfl rfl (by simp[du1,dw1]) (rt:=none) rfl
   simp[aC f13 b13,g6,e1,hv.isSl,hvl]
   refine(s_frame (aA:=aA) t n13 (by omega) (by omega) du dw .nils K6 (o6.at 0 (b:=n13) rfl) (hd.keeps o6.keeps)).step fun r K7 k7 hr=>?_
   obtain⟨mf,rfl,hmf⟩:=hr
   obtain⟨fu,fw,rfl,hfu,hfw⟩:=id hmf
   have fu1:=hfu.one
   have fw1:=aF hfw.isSl
   simp[fu1,fw1]
   intro n14 b14 f14
   obtain⟨K8,g8,o8⟩:=(Own.start (aA:=aA) (H:=K7) |>.new f14 b14 (s:=.arr 25 [.int .i64 0,.int .i64 0,.nils,.nils])).putAll 0 (b:=n14) rfl (n:=4) (ds:=[aB t,aB 0,fu,fw]) rfl rfl (by simp[fu1,fw1]) (rt:=none) rfl
   have k8:=((k5.trans o6.keeps).trans k7).trans o8.keeps
   have p11:=aJ k8 (aI (o4.at 0 (b:=n11) rfl) (n:=4) (rt:=none) rfl rfl)
   have p14:=aI (o8.at 0 (b:=n14) rfl) (n:=4) (rt:=none) rfl rfl
   simp[aC f14 b14,g8,p11,p14]
   obtain⟨hD1,hD2⟩:=bU (t:=t) (by omega) (S:=List.range t) (fun k hk=>List.mem_range.1 hk)
   refine(s_both (aA:=aA) t 0 0 (by omega) (by omega) _ _ _ _ K8 (hm4.keeps k8) (hmf.keeps o8.keeps) hX hD1.ok hX.pos hD1.ok.pos (by omega) (by omega)).step fun r K9 k9 hr=>?_
   obtain⟨m,K10,e8',g10,r10,kk,hrel⟩:=aW (aA:=aA) (o1.call (k1.trans (o2.keeps.trans (k3.trans (o4.keeps.trans k8))))) (i:=0) (n2:=n6) rfl rfl k9 hr
   subst e8'
   simp[e6,g10,r10]
   rw[hR]
   exact⟨kk,hrel⟩
theorem wW{κ:Type}[DecidableEq κ]{sx:κ→List κ}{s:κ}{P:κ→Prop}(h0:P s)(hn:∀k,P k→∀l∈sx k,P l):∀i,∀k∈aH sx s i,P k
 | 0,k,hk=>by
  simp[aH] at hk
  subst hk
  exact h0
 | i+1,k,hk=>by
  rw[aH] at hk
  split at hk
  ·rename_i k' hk'
   rcases mem_addAll.1 hk with h1|h1
   ·exact wW h0 hn i k h1
   ·exact hn _ (wW h0 hn i _ (List.mem_of_getElem? hk')) _ h1
  ·exact wW h0 hn i k hk
theorem yF {κ:Type} [DecidableEq κ] (enc:κ→BV) (h1:∀k,(enc k).one=true) (he:∀k l,bK 1 (enc k) (enc l)=some (decide (k=l))) (hk:∀k,pV 1 (enc k)=true) (t:Nat) (ht:t≤3) (s:κ) (lim:Nat)
  (fa fn:Nat) (ca cn:List BV) (nx:κ→Nat→κ) (a:κ→Bool) (P:κ→Prop) (hP0:P s) (hPn:∀k,P k→∀c,c<wd t→P (nx k c)) (hl0:0<lim) (hlN:lim≤1000000) (H:BH)
  (ha:∀K,H.Keeps K→∀k,P k→FnDoes (gam aA) fa (enc k::ca) K fun v _=>v=.bool (a k)) (hn:∀K,H.Keeps K→∀k,P k→∀c,c<wd t→FnDoes (gam aA) fn (enc k::aB c::cn) K fun v _=>v=enc (nx k c)):FnDoes (gam aA) 172 [aB t,enc s,aB lim,.fn fa ca,.fn fn cn] H fun v K=>dA aA H t lim (aQ (wd t) nx a (aH (succs (wd t) nx) s lim)) v K:=by
 refine FnDoes.of (fn:=ir172) rfl ?_
 obtain⟨KS,hKS⟩:∃KS,KS=aH (succs (wd t) nx) s lim:=⟨_,rfl⟩
 rw[←hKS]
 have hw:=eQ ht
 have h2:∀k,(enc k).cells=[enc k]:=fun k=>cells_one (h1 k)
 simp[ir172,h1]
 intro n10 b10 f10
 simp[aC f10 b10]
 intro n12 b12 f12
 have o1:=Own.start (aA:=aA) (H:=H) |>.new f10 b10 (s:=.arr 77 [.int .i64 0,.int .i64 0,.nils,.nils]) |>.new f12 b12 (s:=.arr 77 [.int .i64 0,.int .i64 0,.nils,.nils])
 obtain⟨K2,g2,o2⟩:=o1.putAll 0 (b:=n12) (n:=4) (ds:=[aB t,.int .i64 0,.nils,.nils]) rfl rfl rfl rfl (rt:=none) rfl
 simp[aC f12 b12,g2]
 intro n13 b13 f13
 have o3:=o2.new f13 b13 (s:=.mp (bI enc [] 0))
 obtain⟨K3,g3,o4⟩:=o3.mset 0 (ks:=[]) rfl he hk (k:=s) (by simp)
 have g3':(K2.set n13 (.mp [])).msetv aA 1 (.mp n13) (enc s) (.int .i64 0)=some K3:=g3
 simp[aC f13 b13,g3',h1,h2]
 intro n14 b14 f14
 have o5:=o4.new f14 b14 (s:=.arr 9 [enc s])
 simp[aC f14 b14,h1,h2]
 have pre:∀i,i≤lim→aH (succs (wd t) nx) s i <+: KS:=fun i h=>by rw[hKS];exact fC h
 have hmP:∀i,∀k∈aH (succs (wd t) nx) s i,P k:=wW hP0 fun k hk l hl=>by
  simp only[succs,List.mem_map,List.mem_range] at hl
  obtain⟨c,hc,rfl⟩:=hl
  exact hPn k hk c hc
 obtain⟨I,hI⟩:∃I:Nat→Env→BH→Prop,I=(fun i e K=>e 15=aB i∧∃v3 u w b3 bo wo vs fr,e 14=v3∧i≤(aH (succs (wd t) nx) s i).length∧(lim=0∨(aH (succs (wd t) nx) s i).length≤lim) ∧
   Own aA H K ([(wo,.arr 80 vs),(bo,.arr 4 (((KS.take i).map a).map aK)),(b3,.arr 9 ((aH (succs (wd t) nx) s i).map enc)),(some n13,.mp (bI enc (aH (succs (wd t) nx) s i) 0)),
    (some n12,.arr 77 [aB t,.int .i64 0,u,w]),(some n10,.arr 77 [.int .i64 0,.int .i64 0,.nils,.nils])]++fr) ∧
   Vec b3 v3 (aH (succs (wd t) nx) s i).length∧Vec bo u i∧Vec wo w i∧vs.length=i∧RowsOf 3 vs fr (((KS.take i).map fun k=>bE KS nx k (wd t)).map (·.map aB))):=⟨_,rfl⟩
 refine aE lim [(0,aB t),(2,aB lim),(3,.fn fa ca),(4,.fn fn cn),(10,.ptr n10 0),(12,.ptr n12 0),(13,.mp n13)] I (i0:=0) ?_ ?_ ?_ (Nat.zero_le _) ?_
 ·rfl
 ·simp
 ·rw[hI]
  refine⟨rfl,.sl n14 0 1,.nils,.nils,some n14,none,none,[],[],rfl,Nat.zero_le _,?_,(o5.nil (.arr 4 [])).nil (.arr 80 []),rfl,Vec.none,Vec.none,rfl,trivial⟩
  simp[aH];omega
 rintro i e K hi ⟨e0,e2,e3,e4,e10,e12,e13,-⟩ hh
 rw[hI] at hh
 obtain⟨e15,v3,u,w,b3,bo,wo,vs,fr,e14,hil,hlim,o,hv3,hu,hw',hvs,hrows⟩:=hh
 simp only[] at e0 e2 e3 e4 e10 e12 e13
 by_cases hlt:i<(aH (succs (wd t) nx) s i).length
 ·-- a further row
  have hiN:i<lim:=by omega
  obtain⟨k,hkk⟩:∃k,(aH (succs (wd t) nx) s i)[i]?=some k:=⟨_,List.getElem?_eq_getElem hlt⟩
  have hkU:P k:=hmP i k (List.mem_of_getElem? hkk)
  have hKSi:KS[i]?=some k:=by
   obtain⟨r,hr⟩:=pre i (by omega)
   rw[←hr,List.getElem?_append_left hlt]
   exact hkk
  have hiKS:i<KS.length:=(List.getElem?_eq_some_iff.1 hKSi).1
  have hnext:aH (succs (wd t) nx) s (i+1)=lsU (aH (succs (wd t) nx) s i) nx k (wd t):=by rw[aH,hkk];rfl
  have hpre:∀c,c≤wd t→lsU (aH (succs (wd t) nx) s i) nx k c <+: KS:=fun c hc=>(gZ hc).trans (by rw[←hnext];exact pre (i+1) (by omega))
  have hrd:=(o.rd 2 rfl (v:=v3) (by simpa using hv3)).at hlt (rt:=none) rfl
  have hk':(aH (succs (wd t) nx) s i)[i]=k:=by
   have:=List.getElem?_eq_getElem hlt
   rw[hkk] at this
   simpa using this.symm
  rw[hk'] at hrd
  have wi:=wS (n:=i) (by omega)
  simp[e0,e2,e3,e4,e10,e12,e13,e14,e15,hv3.isSl,hv3.len,hlt,hrd]
  obtain⟨J,hJ⟩:∃J:Nat→Env→BH→Prop,J=(fun c e K=>e 18=aB c∧∃v3 v17 b3 b17,e 14=v3∧e 17=v17∧(lim=0∨(lsU (aH (succs (wd t) nx) s i) nx k c).length≤lim) ∧
    Own aA H K ([(b17,.arr 3 ((bE KS nx k c).map aB)),(wo,.arr 80 vs),(bo,.arr 4 (((KS.take i).map a).map aK)),(b3,.arr 9 ((lsU (aH (succs (wd t) nx) s i) nx k c).map enc)),(some n13,.mp (bI enc (lsU (aH (succs (wd t) nx) s i) nx k c) 0)),
     (some n12,.arr 77 [aB t,.int .i64 0,u,w]),(some n10,.arr 77 [.int .i64 0,.int .i64 0,.nils,.nils])]++fr) ∧
    Vec b3 v3 (lsU (aH (succs (wd t) nx) s i) nx k c).length∧Vec b17 v17 c):=⟨_,rfl⟩
  refine aE (wd t) [(0,aB t),(2,aB lim),(3,.fn fa ca),(4,.fn fn cn),(10,.ptr n10 0),(12,.ptr n12 0),(13,.mp n13),(15,aB i),(16,enc k)] J (i0:=0) ?_ ?_ ?_ (Nat.zero_le _) ?_
  ·rfl
  ·simp[e0,e2,e3,e4,e10,e12,e13,e15]
  ·rw[hJ]
   exact⟨by simp,v3,.nils,b3,none,by simp[e14],by simp,hlim,o.nil _,hv3,Vec.none⟩
  clear e0 e2 e3 e4 e10 e12 e13 e14 e15 o hv3 hrd
  rintro c e K hc ⟨e0,e2,e3,e4,e10,e12,e13,e15,e16,-⟩ hh
  rw[hJ] at hh
  obtain⟨e18,v3,v17,b3,b17,e14,e17,hlim,o,hv3,hv17⟩:=hh
  simp only[] at e0 e2 e3 e4 e10 e12 e13 e15 e16
  simp[e0,e18]
  refine aN (dM t K (by omega)) ?_
  by_cases hcw:c<wd t
  ·simp[hcw,e4,e16,e18]
   refine(hn K o.keeps k hkU c hcw).step fun v K1 k1 hv=>?_
   subst hv
   have o1:=o.call k1
   obtain⟨ls,hls⟩:∃ls,ls=lsU (aH (succs (wd t) nx) s i) nx k c:=⟨_,rfl⟩
   have hlsp:=hpre c hc
   have hlsp1:=hpre (c+1) hcw
   have hsu:lsU (aH (succs (wd t) nx) s i) nx k (c+1)=bF ls (nx k c):=by rw[fH,←hls]
   rw[←hls] at o1 hv3 hlim hlsp
   rw[hsu] at hlsp1
   have hll:=hlsp.length_le
   have hlk:=o1.look 4 (ks:=ls) rfl he hk (nx k c)
   have hlk':K1.mlook 1 true (.int .i64 0) (.mp n13) (enc (nx k c))=some (.tup [if nx k c∈ls then aB (pos ls (nx k c)) else .int .i64 0,.bool (decide (nx k c∈ls))]):=hlk
   simp[e13,hlk']
   have wc:=wS (n:=c) (by omega)
   by_cases hm:nx k c∈ls
   ·have hpos:pos ls (nx k c)=pos KS (nx k c):=(cH hlsp hm).symm
    have hadd:bF ls (nx k c)=ls:=by unfold bF;rw[if_pos hm]
    simp[hm,hpos,e17]
    intro n1 b1 f1
    simp[aC f1 b1]
    intro n2 b2 f2
    obtain⟨v',K',b',q1,q2,q3⟩:=o1.push 0 rfl (by simpa[aG] using hv17) (x:=aB (pos KS (nx k c))) (bytes:=8) rfl (by simp[aG];omega) (by simp[aG];omega) f1 b1 f2 b2
    simp[q1,e18,wc,hcw]
    rw[hJ]
    simp only[hsu,hadd]
    exact⟨by simp,v3,v',b3,some b',by simp[e14],by simp,hlim,by simpa[bA] using q2,hv3,by simpa[aG] using q3⟩
   ·have hpos:ls.length=pos KS (nx k c):=by rw[←dR hm];exact(cH hlsp1 (mem_addK.2 (.inr rfl))).symm
    have hadd:bF ls (nx k c)=ls++[nx k c]:=by unfold bF;rw[if_neg hm]
    rw[hadd] at hlsp1
    have hl1:=hlsp1.length_le
    simp at hl1
    simp[hm,e14,hv3.isSl,hv3.len,e13]
    obtain⟨K2,q1,o2⟩:=o1.mset 4 (ks:=ls) rfl he hk hm
    have q1':K1.msetv aA 1 (.mp n13) (enc (nx k c)) (.int .i64 (ls.length:Nat))=some K2:=q1
    simp[q1',h1,h2]
    intro n1 b1 f1
    simp[aC f1 b1]
    intro n2 b2 f2
    obtain⟨v',K',b',q1,o3,q3⟩:=o2.push 3 rfl (by simpa using hv3) (x:=enc (nx k c)) (bytes:=16) (h1 _) (by simp;omega) (by simp;omega) f1 b1 f2 b2
    have hv':v'=.sl b' 0 (ls.length+1):=by simpa[Vec] using q3
    subst hv'
    simp[q1,e2,e14]
    have o3':Own aA H K' ([(b17,.arr 3 ((bE KS nx k c).map aB)),(wo,.arr 80 vs),(bo,.arr 4 (((KS.take i).map a).map aK)),(some b',.arr 9 ((ls++[nx k c]).map enc)),(some n13,.mp (bI enc (ls++[nx k c]) 0)),
      (some n12,.arr 77 [aB t,.int .i64 0,u,w]),(some n10,.arr 77 [.int .i64 0,.int .i64 0,.nils,.nils])]++fr):=by simpa using o3
    by_cases hov:lim<ls.length+1
    ·-- too many
     obtain⟨K9,q9,o9⟩:=o3'.putAll 6 (b:=n10) (n:=4) (ds:=[.int .i64 0,.int .i64 0,.nils,.nils]) rfl rfl rfl rfl (rt:=none) rfl
     have hov':(lim:Int)<(ls.length:Int)+1:=by omega
     have r9:=aI (o9.at 6 rfl) (n:=4) (rt:=none) rfl rfl
     simp[hl0,hov',e2,e10,q9,r9]
     refine⟨o9.keeps,?_⟩
     unfold dA
     rw[if_pos ⟨hl0,by simp[aQ];omega⟩]
     rfl
    ·have hov':¬(lim:Int)<(ls.length:Int)+1:=by omega
     simp[hl0,hov',e2,e17]
     intro n3 b3' f3
     simp[aC f3 b3']
     intro n4 b4 f4
     obtain⟨v'',K'',b'',p1,p2,p3⟩:=o3'.push 0 rfl (by simpa[aG] using hv17) (x:=aB ls.length) (bytes:=8) rfl (by simp[aG];omega) (by simp[aG];omega) f3 b3' f4 b4
     simp[p1,e18,wc,hcw]
     rw[hJ]
     simp only[hsu,hadd]
     exact⟨by simp,.sl b' 0 (ls.length+1),v'',some b',some b'',by simp,by simp,.inr (by simp;omega),by rw[bA,←hpos];simpa using p2,by simpa using q3,by simpa[aG] using p3⟩
  ·have:c=wd t:=by omega
   subst this
   rw[←hnext] at o hv3 hlim
   have u1:=aD (o.at 5 rfl) (rt:=some 77) (j:=2) (c:=u) rfl rfl
   simp[e12,e3,e16,u1]
   refine(ha K o.keeps k hkU).step fun v K1 k1 hv=>?_
   subst hv
   have o1:=o.call k1
   simp
   intro n1 b1 f1
   simp[aC f1 b1]
   intro n2 b2 f2
   have hti:(KS.take i).length=i:=by simp;omega
   obtain⟨v',K2,b',q1,o2,q3⟩:=o1.push 2 rfl (v:=u) (by simp only[List.length_map,hti];exact hu) (x:=aK (a k)) (bytes:=1) rfl (by simp;omega) (by simp;omega) f1 b1 f2 b2
   obtain⟨K3,q2,o3⟩:=o2.put 5 rfl (j:=2) (u:=v') (by simp) q3.one (rt:=none) rfl
   simp[q1,q2,e12]
   have u2:=aD (o3.at 5 rfl) (rt:=none) (j:=3) (c:=w) rfl rfl
   simp[u2,e17]
   have h17:=hv17.one
   simp[h17,cells_one h17]
   intro n3 b3' f3
   simp[aC f3 b3']
   intro n4 b4 f4
   obtain⟨w',K4,c',p1,o4,p3⟩:=o3.push 1 rfl (v:=w) (by rw[hvs];exact hw') (x:=v17) (bytes:=24) h17 (by omega) (by omega) f3 b3' f4 b4
   obtain⟨K5,p2,o5⟩:=o4.put 5 rfl (j:=3) (u:=w') (by simp) p3.one (rt:=none) rfl
   simp[p1,p2,e12,e15,wi,hiN]
   rw[hI]
   have hta:(KS.take (i+1)).map a=(KS.take i).map a++[a k]:=by rw[List.take_add_one,hKSi];simp
   have htr:((KS.take (i+1)).map fun k=>bE KS nx k (wd t)).map (·.map aB)=((KS.take i).map fun k=>bE KS nx k (wd t)).map (·.map aB)++[(bE KS nx k (wd t)).map aB]:=by rw[List.take_add_one,hKSi];simp
   have hin:i+1≤(aH (succs (wd t) nx) s (i+1)).length:=by
    have:=(iF (sx:=succs (wd t) nx) (s:=s) i).length_le
    omega
   refine⟨by simp,v3,v',w',b3,some b',some c',vs++[v17],fr++[(b17,.arr 3 ((bE KS nx k (wd t)).map aB))],by simp[e14],hin,hlim,?_,hv3,?_,?_,by simp[hvs],?_⟩
   ·refine Own.last (F:=[(some c',.arr 80 (vs++[v17])),(some b',.arr 4 (((KS.take (i+1)).map a).map aK)),(b3,.arr 9 ((aH (succs (wd t) nx) s (i+1)).map enc)),(some n13,.mp (bI enc (aH (succs (wd t) nx) s (i+1)) 0)),
     (some n12,.arr 77 [aB t,.int .i64 0,v',w']),(some n10,.arr 77 [.int .i64 0,.int .i64 0,.nils,.nils])]) ?_
    rw[hta]
    simpa using o5
   ·simp only[List.length_map,hti] at q3
    exact q3
   ·simpa[hvs] using p3
   ·rw[htr]
    exact hrows.snoc (by simpa[aG] using hv17)
 ·-- all rows are made
  have hie:i=(aH (succs (wd t) nx) s i).length:=by omega
  have hdi:Done (wd t) nx s i:=by unfold Done DoneL;omega
  have hKi:aH (succs (wd t) nx) s i=KS:=by
   rw[hKS]
   exact(DoneL.eq hdi (by omega)).symm
  rw[hKi] at hie hlim o
  have htk:KS.take i=KS:=by rw[hie,List.take_length]
  rw[htk] at o hrows
  have r1:=aI (o.at 4 rfl) (n:=4) (rt:=none) rfl rfl
  obtain⟨K9,q9,o9⟩:=o.putAll 5 (b:=n10) (n:=4) (ds:=[aB t,.int .i64 0,u,w]) rfl rfl rfl (by simp[hu.one,hw'.one]) (rt:=none) rfl
  have r9:=aI (o9.at 5 rfl) (n:=4) (rt:=none) rfl rfl
  have hlt':¬i<(aH (succs (wd t) nx) s i).length:=hlt
  simp[e0,e2,e3,e4,e10,e12,e13,e14,e15,hv3.isSl,hv3.len,hlt',r1,q9,r9]
  refine⟨o9.keeps,?_⟩
  unfold dA
  rw[if_neg (by simp[aQ];omega)]
  refine⟨_,rfl,u,w,bo,wo,vs,fr,rfl,?_,by simpa[aQ,←hie] using hu,by rw[hvs];exact hw',by simpa[aQ,bE] using hrows⟩
  have o10:Own aA H K9 ((wo,.arr 80 vs)::(bo,.arr 4 ((KS.map a).map aK))::fr):=o9.sub (.cons_cons _ (.cons_cons _ (.cons _ (.cons _ (.cons _ (.cons _ (List.Sublist.refl _)))))))
  exact o10.perm (List.Perm.swap _ _ _)

theorem bD9{κ:Type}[DecidableEq κ]{w:Nat}{nx:κ→Nat→κ}{s:κ}{a:κ→Bool}{n:Nat}(hd:Done w nx s n):(aQ w nx a (aH (succs w nx) s n)).Ok w ∧
  ∀cs,In w cs→(aQ w nx a (aH (succs w nx) s n)).lang 0 cs=bM nx a s cs:=by
 refine⟨aF1 (List.length_pos_of_mem (bQ _)) fun k hk c hc=>Done.closed hd hk hc,fun cs hcs=>?_⟩
 rw[←rB (a:=a) (fun k hk c hc=>Done.closed hd hk hc) (bQ (sx:=succs w nx) (s:=s) n) hcs]
 obtain⟨r,hr⟩:=pN (sx:=succs w nx) (s:=s) n
 congr 1
 rw[hr]
 simp[pos]
def bZ(t tape c d:Nat):Nat:=cL ((digs t c).insertIdx tape d)
theorem ins_len{t tape c d:Nat}(h:tape≤t):((digs t c).insertIdx tape d).length=t+1:=by
 rw[List.length_insertIdx,aO,if_pos h]
theorem ins_3{t tape c d:Nat}(h:tape≤t)(hd:d<3):Dig3 ((digs t c).insertIdx tape d):=fun x hx=>by
 rcases(List.mem_insertIdx (by rw[aO];exact h)).1 hx with h1|h1
 ·omega
 ·exact xO t c x h1
theorem mG{t tape c d:Nat}(h:tape≤t)(hd:d<3)(hs:d<2∨c<wd t):bZ t tape c d<wd (t+1):=by
 have h1:=colD_wd (ins_3 (c:=c) h hd) (by
  rcases hs with hs|hs
  ·exact⟨d,(List.mem_insertIdx (by rw[aO];exact h)).2 (.inl rfl),hs⟩
  ·obtain⟨k,hk,h2⟩:=aS2 hs
   have h3:=vF c k
   exact⟨dg c k,(List.mem_insertIdx (by rw[aO];exact h)).2 (.inr (List.mem_map.2 ⟨k,List.mem_range.2 hk,rfl⟩)),by omega⟩)
 rw[ins_len h] at h1
 exact h1
def eR(n s:Nat):List Bool:=(List.range n).map fun q=>decide (q=s)
def nxB(A:Aut)(t tape:Nat)(S:List Bool)(c:Nat):List Bool:=(List.range A.y.length).map fun p=>(List.range A.y.length).any fun q=>S.getD q false&&(List.range 3).any fun d=>decide (A.to q (bZ t tape c d)=p)
noncomputable def aQ2(A:Aut)(t tape q:Nat):Bool:=by
 classical
 exact decide (∃ds:List Nat,(∀d∈ds,d<2)∧A.lang q (ds.map (bZ t tape (wd t)))=true)
theorem endQ_iff{A:Aut}{t tape q:Nat}:aQ2 A t tape q=true↔∃ds:List Nat,(∀d∈ds,d<2)∧A.lang q (ds.map (bZ t tape (wd t)))=true:=by
 classical
 unfold aQ2
 rw[decide_eq_true_iff]
theorem aW3{A:Aut}{t tape q:Nat}(h:A.y.getD q false=true):aQ2 A t tape q=true:=endQ_iff.2 ⟨[],by simp,h⟩
theorem aL0{A:Aut}{t tape q d:Nat}(hd:d<2)(h:aQ2 A t tape (A.to q (bZ t tape (wd t) d))=true):aQ2 A t tape q=true:=by
 obtain⟨ds,h1,h2⟩:=endQ_iff.1 h
 refine endQ_iff.2 ⟨d::ds,fun x hx=>?_,h2⟩
 rcases List.mem_cons.1 hx with rfl|hx
 ·exact hd
 ·exact h1 x hx
theorem xN{A:Aut}{t tape:Nat}{P:Nat→Prop}(hacc:∀q,P q→A.y.getD q false=false)(hst:∀q,P q→∀d,d<2→P (A.to q (bZ t tape (wd t) d))){q:Nat}(hq:P q):aQ2 A t tape q=false:=by
 cases he:aQ2 A t tape q with
 | false=>rfl
 | true =>
  obtain⟨ds,h1,h2⟩:=endQ_iff.1 he
  have key:∀(ds:List Nat) (q:Nat),P q→(∀d∈ds,d<2)→A.lang q (ds.map (bZ t tape (wd t)))=false:=by
   intro ds
   induction ds with
   | nil=>intro q hq _;exact hacc q hq
   | cons d ds ih=>intro q hq hd;exact ih _ (hst q hq d (hd d List.mem_cons_self)) fun x hx=>hd x (List.mem_cons_of_mem _ hx)
  rw[key ds q hq h1] at h2
  cases h2
noncomputable def acB(A:Aut)(t tape:Nat)(S:List Bool):Bool:=(List.range A.y.length).any fun q=>S.getD q false&&aQ2 A t tape q
theorem wU(A:Aut)(t tape:Nat)(S:List Bool)(c:Nat):(nxB A t tape S c).length=A.y.length:=by simp[nxB]
theorem lU(n s:Nat):(eR n s).length=n:=by simp[eR]
noncomputable def aZ0(l t tape:Nat)(A:Aut):Aut:=aQ (wd t) (nxB A t tape) (acB A t tape) (aH (succs (wd t) (nxB A t tape)) (eR A.y.length 0) l)
theorem setA_len(l t tape:Nat)(A:Aut):(aZ0 l t tape A).y.length=(aH (succs (wd t) (nxB A t tape)) (eR A.y.length 0) l).length:=by simp[aZ0,aQ]
theorem aB2{l t tape:Nat}{A:Aut}(h:(aZ0 l t tape A).y.length≤l):(aZ0 l t tape A).Ok (wd t)∧TA t ((aZ0 l t tape A).lang 0)=TA t (bM (nxB A t tape) (acB A t tape) (eR A.y.length 0)):=by
 have hd:Done (wd t) (nxB A t tape) (eR A.y.length 0) l:=by
  unfold Done DoneL
  rw[←setA_len]
  exact h
 obtain⟨h1,h2⟩:=bD9 (a:=acB A t tape) hd
 exact⟨h1,cP fun cs hc _=>h2 cs hc⟩
noncomputable def iW(l t tape:Nat)(A:Aut):Option Aut×Nat:=if l<(aZ0 l t tape A).y.length then(none,3) else told (TA t (bM (nxB A t tape) (acB A t tape) (eR A.y.length 0)))
theorem gR{α:Type}:∀(xs:List α) (i:Nat) (x:α),i≤xs.length→xs.insertIdx i x=xs.take i++x::xs.drop i
 | xs,0,x,_=>by simp
 | [],i+1,x,h=>by simp at h
 | y::xs,i+1,x,h=>by simp[List.insertIdx_succ_cons,gR xs i x (by simpa using h)]
theorem i_cloneI(cs:List BV)(h1:∀c∈cs,c.one=true)(u:BV)(H:BH)(h:Rd H 3 u cs)(hp:0<cs.length)(hn:cs.length≤1000000):FnDoes (gam aA) 214 [u] H fun v K=>∃b,v=.sl b 0 cs.length∧Own aA H K [(some b,.arr 3 cs)]:=by
 refine FnDoes.of (fn:=ir214) rfl ?_
 obtain⟨b,o,rfl⟩:=h.slice hp
 simp[ir214]
 intro n1 b1 f1
 simp[aC f1 b1]
 intro n2 b2 f2
 have o1:=Own.start (aA:=aA) (H:=H) |>.new f1 b1 (s:=.arr 3 [])
 obtain⟨v',K',bo,g1,g2,g3⟩:=o1.app 0 rfl (bo:=some n1) (cs:=[]) (v:=.sl n1 0 0) rfl (vy:=.sl b o cs.length) (new:=cs) (bytes:=8) (Rd.cells (h.keeps o1.keeps) hp) h1 (by simp;omega) (by simp;omega) f2 b2
 simp[g1]
 cases bo with
 | none =>
  have h0:=g3.2
  simp at h0
  rw[h0] at hp
  simp at hp
 | some b'=>exact⟨g2.keeps,b',by simpa[Vec] using g3,by simpa using g2⟩
theorem i_insert{H K:BH}{L:List Sl}(o:Own aA H K L)(i j p:Nat){b vb:Nat}{zs:List Int}{x:Int}(h:L[i]?=some (some b,.arr 3 (zs.map (BV.int .i64))))(hv:L[j]?=some (some vb,.arr 3 [.int .i64 x]))(hij:i≠j)(h0:0<zs.length)(hp:p≤zs.length)(hn:zs.length≤1000000):
  ∃nb K',Runs (gam aA) 213 [.sl b 0 zs.length,aB p,.sl vb 0 1] K (.sl nb 0 (zs.length+1)) K'∧Own aA H K' (L.set i (some nb,.arr 3 ((zs.take p++x::zs.drop p).map (BV.int .i64)))):=by
 obtain⟨nb,hb,hf⟩:=K.exists_fresh aA
 obtain⟨h1,h2,h3,h4⟩:=o.row _ (List.mem_of_getElem? h) b rfl
 obtain⟨v1,v2,v3,v4⟩:=o.row _ (List.mem_of_getElem? hv) vb rfl
 have hne:b≠vb:=o.ne h hv hij
 have hnb:nb≠b:=by
  rintro rfl
  simp only[h1] at hf
  cases hf
 have hfH:H.row nb=.fresh:=o.keeps.fresh hf
 refine⟨nb,_,⟨1,.inr (.inr (.inr ⟨rfl,b,vb,nb,p,zs,x,h2,v2,hb,hf,hne,h0,hp,hn,h1,v1,rfl,rfl,rfl⟩))⟩,?_⟩
 refine o.move h ((o.keeps.set hfH _).set h3 _) (fun c hc hcf=>?_) fun b' hb'=>?_
 ·have c1:c≠b:=fun e=>hc (by rw[e])
  have c2:c≠nb:=fun e=>hcf (by rw[e];exact hf)
  rw[BH.row_set_ne _ _ c1,BH.row_set_ne _ _ c2]
 ·cases hb'
  exact⟨by rw[BH.row_set_ne _ _ hnb,BH.row_set_eq],hb,hfH,by simp,.inr hf⟩
theorem i_with(ds:List Nat)(tape d:Nat)(v:BV)(H:BH)(h:Rd H 3 v (ds.map aB))(h0:0<ds.length)(hl:ds.length≤20)(h3:Dig3 ds)(ht:tape≤ds.length)(hd:d<3):FnDoes (gam aA) 170 [v,aB tape,aB d] H fun u K=>u=aB (cL (ds.insertIdx tape d)):=by
 refine FnDoes.of (fn:=ir170) rfl ?_
 simp[ir170]
 refine(i_cloneI (aA:=aA) (ds.map aB) (fun c hc=>by obtain⟨q,_,rfl⟩:=List.mem_map.1 hc;rfl) v H h (by simpa using h0) (by simp;omega)).step fun r K1 k1 hr=>?_
 obtain⟨b,rfl,o1⟩:=hr
 simp
 intro n11 b11 f11
 have o2:=o1.new f11 b11 (s:=.arr 3 [.int .i64 (d:Int)])
 simp[aC f11 b11]
 have hz:(ds.map fun(q:Nat)=>(q:Int)).map (BV.int .i64)=ds.map aB:=by rw[List.map_map];rfl
 have o2:Own aA H (K1.set n11 (.arr 3 [.int .i64 (d:Int)])) [(some n11,.arr 3 [.int .i64 (d:Int)]),(some b,.arr 3 ((ds.map fun(q:Nat)=>(q:Int)).map (BV.int .i64)))]:=by rw[hz];exact o2
 obtain⟨nb,K',hrun,o3⟩:=i_insert (aA:=aA) o2 1 0 tape (b:=b) (vb:=n11) rfl rfl (by decide) (by simpa using h0) (by simpa using ht) (by simp;omega)
 rw[List.length_map] at hrun
 refine⟨_,_,hrun,BH.KeepsTys.nil _ _,?_⟩
 have e:((ds.map fun(q:Nat)=>(q:Int)).take tape++(d:Int)::(ds.map fun(q:Nat)=>(q:Int)).drop tape).map (BV.int .i64)=(ds.insertIdx tape d).map aB:=by
  rw[gR _ _ _ ht,←List.map_take,←List.map_drop]
  simp[List.map_map,Function.comp_def]
 rw[e] at o3
 have hil:(ds.insertIdx tape d).length=ds.length+1:=by rw[List.length_insertIdx,if_pos ht]
 have hrd:Rd K' 3 (.sl nb 0 (ds.length+1)) ((ds.insertIdx tape d).map aB):=o3.rd 1 rfl (by rw[List.length_map,hil];rfl)
 simp
 refine(zJ (aA:=aA) (ds.insertIdx tape d) _ K' hrd (fun x hx=>?_) (by omega)).step fun u K4 k4 hu=>?_
 ·rcases(List.mem_insertIdx ht).1 hx with h1|h1
  ·omega
  ·exact h3 x h1
 subst hu
 simp
 exact o3.keeps.trans k4
theorem aV5(n:Nat)(H:BH)(hn:n≤30):FnDoes (gam aA) 171 [aB n] H fun v K=>Rd K 3 v ((List.replicate n 2).map aB):=by
 refine FnDoes.of (fn:=ir171) rfl ?_
 simp[ir171]
 obtain⟨I,hI⟩:∃I:Nat→Env→BH→Prop,I=(fun i e K=>e 0=aB (n-i)∧∃v bo,e 3=v∧Own aA H K [(bo,.arr 3 ((List.replicate i 2).map aB))]∧Vec bo v i):=⟨_,rfl⟩
 refine aE n [] I (i0:=0) rfl ?_ ?_ (Nat.zero_le _) ?_
 ·simp
 ·rw[hI]
  exact⟨by simp,.nils,none,by simp,Own.start.nil _,Vec.none⟩
 rintro i e K hi-hh
 rw[hI] at hh
 obtain⟨e0,v,bo,e3,o,hv⟩:=hh
 by_cases hlt:i<n
 ·obtain⟨r,hr⟩:∃r,r=n-i:=⟨_,rfl⟩
  rw[←hr] at e0
  have hr0:0<r:=by omega
  simp[e0,hr0,e3]
  intro n1 b1 f1
  simp[aC f1 b1]
  intro n2 b2 f2
  have hvl:Vec bo v ((List.replicate i 2).map aB).length:=by simpa using hv
  obtain⟨v',K',b',p1,p2,p3⟩:=o.push 0 rfl hvl (x:=.int .i64 2) (bytes:=8) rfl (by simp;omega) (by simp;omega) f1 b1 f2 b2
  have wd':IntKind.i64.wrap ((r:Int)-1)=((n-(i+1):Nat):Int):=by rw[w64 (by omega) (by omega)];omega
  simp[p1,e0,wd',hlt]
  rw[hI]
  refine⟨by simp,v',some b',by simp,?_,by simpa using p3⟩
  rw[List.replicate_succ',List.map_append]
  exact p2
 ·have hin:i=n:=by omega
  subst hin
  simp[e0,e3]
  exact⟨o.keeps,by simpa using o.rd 0 rfl (by simpa using hv)⟩
theorem strL_inj2{xs ys:List Nat}(hx:∀x∈xs,x<256)(hy:∀y∈ys,y<256)(h:fW xs=fW ys):xs=ys:=by
 have h1:(xs.map UInt8.ofNat).toArray=(ys.map UInt8.ofNat).toArray:=congrArg ByteArray.data h
 have h2:xs.map UInt8.ofNat=ys.map UInt8.ofNat:=by simpa using h1
 have key:∀zs:List Nat,(∀z∈zs,z<256)→(zs.map UInt8.ofNat).map UInt8.toNat=zs:=fun zs hz=>by
  rw[List.map_map]
  conv=>rhs;rw[←List.map_id zs]
  exact List.map_congr_left fun z hz'=>by
   have:=hz z hz'
   simp[Function.comp,UInt8.toNat_ofNat']
   omega
 rw[←key xs hx,h2,key ys hy]
def bE4(b:Bool):Nat:=if b=true then 1 else 0
def cF(S:List Bool):List Nat:=S.map bE4
def qD(S:List Bool)(i:Nat):List Nat:=(S.take i).map bE4++List.replicate (S.length-i) 0
theorem aM0(S:List Bool):(cF S).length=S.length:=by simp[cF]
theorem bitsI_len{S:List Bool}{i:Nat}(h:i≤S.length):(qD S i).length=S.length:=by simp[qD];omega
theorem bD7(S:List Bool):qD S 0=List.replicate S.length 0:=by simp[qD]
theorem bitsI_all(S:List Bool):qD S S.length=cF S:=by simp[qD,cF]
theorem xX{S:List Bool}{i:Nat}(h:i<S.length):qD S i=(S.take i).map bE4++0::List.replicate (S.length-(i+1)) 0:=by
 unfold qD
 rw[show S.length-i=S.length-(i+1)+1 by omega,List.replicate_succ]
theorem aA1{S:List Bool}{i:Nat}(h:i<S.length):qD S (i+1)=(S.take i).map bE4++bE4 S[i]::List.replicate (S.length-(i+1)) 0:=by
 unfold qD
 rw[List.take_add_one,List.getElem?_eq_getElem h,List.map_append,List.append_assoc]
 rfl
theorem bitsI_set{S:List Bool}{i:Nat}(h:i<S.length)(hb:S[i]=true):(qD S i).set i 1=qD S (i+1):=by
 have hl:((S.take i).map bE4).length=i:=by simp;omega
 rw[xX h,aA1 h,List.set_append_right _ _ (by omega),hl,Nat.sub_self,hb]
 rfl
theorem bD8{S:List Bool}{i:Nat}(h:i<S.length)(hb:S[i]=false):qD S i=qD S (i+1):=by
 rw[xX h,aA1 h,hb]
 rfl
theorem aX7(S:List Bool):∀x∈cF S,x<256:=fun x hx=>by
 obtain⟨b,_,rfl⟩:=List.mem_map.1 hx
 unfold bE4
 split<;>omega
theorem bits_inj{S T:List Bool}(h:fW (cF S)=fW (cF T)):S=T:=by
 have h1:=strL_inj2 (aX7 S) (aX7 T) h
 have key:∀S:List Bool,(cF S).map (fun n=>decide (n=1))=S:=fun S=>by
  unfold cF
  rw[List.map_map]
  conv=>rhs;rw[←List.map_id S]
  exact List.map_congr_left fun b _=>by cases b<;>rfl
 rw[←key S,h1,key T]
theorem aX6{S:List Bool}{i:Nat}(h:i<S.length):(fW (cF S))[i]?=some (UInt8.ofNat (bE4 S[i])):=by
 have hl:i<(fW (cF S)).size:=by rw[dL,aM0];exact h
 rw[getElem?_pos (fW (cF S)) i hl,aB0]
 simp[cF]
theorem aV4(S:List Bool)(v:BV)(H:BH)(h:Rd H 4 v (S.map aK))(hn:S.length≤1000000):FnDoes (gam aA) 173 [v] H fun u K=>u=eZ (cF S):=by
 refine FnDoes.of (fn:=ir173) rfl ?_
 obtain⟨n,hnn⟩:∃n,n=S.length:=⟨_,rfl⟩
 have hvl:=h.lenM
 rw[←hnn] at hvl
 have c1:(n:Int)≤140737488355328:=by omega
 simp[ir173,h.isSl,hvl,c1]
 intro n8 b8 f8
 have o1:=Own.start (aA:=aA) (H:=H) |>.new f8 b8 (s:=.arr 5 (List.replicate n (.int .u8 0)))
 simp[aC f8 b8,h.isSl,hvl]
 obtain⟨I,hI⟩:∃I:Nat→Env→BH→Prop,I=(fun i e K=>e 11=aB i∧Own aA H K [(some n8,.arr 5 ((qD S i).map fun(b:Nat)=>BV.int .u8 (b:Int)))]):=⟨_,rfl⟩
 refine aE n [(3,.sl n8 0 n),(9,v),(10,aB n)] I (i0:=0) rfl ?_ ?_ (Nat.zero_le _) ?_
 ·simp
 ·rw[hI]
  refine⟨by simp,?_⟩
  rw[bD7,←hnn]
  simpa using o1
 clear o1
 rintro i e K hi ⟨e3,e9,e10,-⟩ hh
 rw[hI] at hh
 obtain⟨e11,o⟩:=hh
 simp only[] at e3 e9 e10
 have wi:=wS (n:=i) (by omega)
 by_cases hlt:i<n
 ·have hiS:i<S.length:=by omega
  have gi:=(h.keeps o.keeps).at (i:=i) (by simpa using hiS) (rt:=none) rfl
  have gi':K.rd none none (v.sat i 1)=some (aK S[i]):=by simpa using gi
  by_cases hb:S[i]=true
  ·rw[hb] at gi'
   obtain⟨K5,g5,o5⟩:=o.put 0 (b:=n8) rfl (j:=i) (u:=.int .u8 1) (by rw[List.length_map,bitsI_len (by omega)];exact hiS) rfl (rt:=none) rfl
   simp[e3,e9,e10,e11,hlt,h.isSl,hvl,gi',g5,wi]
   rw[hI]
   refine⟨by simp,?_⟩
   have e:((qD S i).map fun(b:Nat)=>BV.int .u8 (b:Int)).set i (.int .u8 1)=(qD S (i+1)).map fun(b:Nat)=>BV.int .u8 (b:Int):=by
    rw[←bitsI_set hiS hb,List.map_set]
    rfl
   rw[←e]
   exact o5
  ·have hb:S[i]=false:=by simpa using hb
   rw[hb] at gi'
   simp[e3,e9,e10,e11,hlt,h.isSl,hvl,gi',wi]
   rw[hI]
   refine⟨by simp,?_⟩
   rw[←bD8 hiS hb]
   exact o
 ·have hin:i=n:=by omega
  subst hin
  rw[hnn,bitsI_all] at o
  simp[-iO,e3,e10,e11]
  rw[u8str (xs:=cF S) (v:=.sl n8 0 i) o (by simp[Vec,aM0,hnn]) (by simp[e3])]
  simp
  exact⟨o.keeps,rfl⟩
theorem i_some1(E S:List Bool)(hS:S.length=E.length)(n6:Nat)(w:BV)(H:BH)(h6:H.row n6=.arr 22 [w])(hw:Rd H 4 w (E.map aK))(hn:E.length≤1000000):Runs (gam aA) 174 [eZ (cF S),.ptr n6 0] H (.bool ((List.range E.length).any fun q=>S.getD q false&&E.getD q false)) H:=by
 refine aV (fn:=ir174) rfl ?_
 obtain⟨n,hnn⟩:∃n,n=E.length:=⟨_,rfl⟩
 have hwl:=hw.lenM
 rw[←hnn] at hwl
 have r6:=aD h6 (rt:=none) (j:=0) (c:=w) rfl rfl
 simp[ir174,r6,hw.isSl,hwl]
 obtain⟨I,hI⟩:∃I:Nat→Env→BH→Prop,I=(fun i e K=>e 8=aB i∧(∀q,q<i→(S.getD q false&&E.getD q false)=false)∧K=H):=⟨_,rfl⟩
 refine aE n [(0,eZ (cF S)),(6,w),(7,aB n)] I (i0:=0) rfl ?_ ?_ (Nat.zero_le _) ?_
 ·simp
 ·rw[hI]
  exact⟨by simp,fun q hq=>by omega,rfl⟩
 rintro i e K hi ⟨e0,e6,e7,-⟩ hh
 rw[hI] at hh
 obtain⟨e8,hno,rfl⟩:=hh
 simp only[] at e0 e6 e7
 have wi:=wS (n:=i) (by omega)
 by_cases hlt:i<n
 ·have hiE:i<E.length:=by omega
  have hiS:i<S.length:=by omega
  have gi:=hw.at (i:=i) (by simpa using hiE) (rt:=none) rfl
  have gi':K.rd none none (w.sat i 1)=some (aK E[i]):=by simpa using gi
  have gE:E.getD i false=E[i]:=by rw[List.getD_eq_getElem?_getD,List.getElem?_eq_getElem hiE];rfl
  have gS:S.getD i false=S[i]:=by rw[List.getD_eq_getElem?_getD,List.getElem?_eq_getElem hiS];rfl
  have gb:=aX6 hiS
  have next:(S[i]&&E[i])=false→∀q,q<i+1→(S.getD q false&&E.getD q false)=false:=fun h q hq=>by
   by_cases hqi:q=i
   ·subst hqi
    rw[gE,gS]
    exact h
   ·exact hno q (by omega)
  by_cases hE:E[i]=true
  ·rw[hE] at gi'
   by_cases hb:S[i]=true
   ·have hb1:(UInt8.ofNat (bE4 S[i])).toNat=1:=by rw[hb];rfl
    simp[e0,e6,e7,e8,hlt,hw.isSl,hwl,gi',gb,hb1]
    refine⟨i,by omega,?_,?_⟩
    ·rw[←List.getD_eq_getElem?_getD,gS,hb]
    ·rw[←List.getD_eq_getElem?_getD,gE,hE]
   ·have hb:S[i]=false:=by simpa using hb
    have hb1:(UInt8.ofNat (bE4 S[i])).toNat=0:=by rw[hb];rfl
    simp[e0,e6,e7,e8,hlt,hw.isSl,hwl,gi',gb,hb1,wi]
    rw[hI]
    exact⟨by simp,next (by rw[hb];rfl),rfl⟩
  ·have hE:E[i]=false:=by simpa using hE
   rw[hE] at gi'
   simp[e0,e6,e7,e8,hlt,hw.isSl,hwl,gi',wi]
   rw[hI]
   exact⟨by simp,next (by rw[hE,Bool.and_false]),rfl⟩
 ·have hin:i=n:=by omega
  subst hin
  have hany:((List.range E.length).any fun q=>S.getD q false&&E.getD q false)=false:=by
   rw[List.any_eq_false]
   intro q hq
   rw[hno q (by have:=List.mem_range.1 hq;omega)]
   simp
  simp only[List.getD_eq_getElem?_getD] at hany
  simp[e7,e8,hany]
def mrk(A:Aut)(t tape:Nat)(S:List Bool)(c d i:Nat):List Bool:=(List.range A.y.length).map fun p =>
 ((List.range A.y.length).any fun q=>S.getD q false&&(List.range d).any fun d'=>decide (A.to q (bZ t tape c d')=p))||(List.range i).any fun q=>S.getD q false&&decide (A.to q (bZ t tape c d)=p)
theorem aO4(A:Aut)(t tape:Nat)(S:List Bool)(c d i:Nat):(mrk A t tape S c d i).length=A.y.length:=by simp[mrk]
theorem mrk_zero(A:Aut)(t tape:Nat)(S:List Bool)(c:Nat):mrk A t tape S c 0 0=List.replicate A.y.length false:=by
 unfold mrk
 rw[List.eq_replicate_iff]
 refine⟨by simp,fun b hb=>?_⟩
 obtain⟨p,_,rfl⟩:=List.mem_map.1 hb
 simp
theorem mrk_next(A:Aut)(t tape:Nat)(S:List Bool)(c d:Nat):mrk A t tape S c d A.y.length=mrk A t tape S c (d+1) 0:=by
 unfold mrk
 refine List.map_congr_left fun p _=>?_
 rw[Bool.eq_iff_iff]
 simp only[Bool.or_eq_true,List.any_eq_true,Bool.and_eq_true,List.mem_range,decide_eq_true_iff,List.range_zero,List.any_nil,Bool.false_eq_true,or_false]
 constructor
 ·rintro(⟨q,hq,h1,d',hd,h2⟩|⟨q,hq,h1,h2⟩)
  ·exact⟨q,hq,h1,d',by omega,h2⟩
  ·exact⟨q,hq,h1,d,by omega,h2⟩
 ·rintro⟨q,hq,h1,d',hd,h2⟩
  by_cases h:d'=d
  ·subst h
   exact .inr ⟨q,hq,h1,h2⟩
  ·exact .inl ⟨q,hq,h1,d',by omega,h2⟩
theorem mrk_all(A:Aut)(t tape:Nat)(S:List Bool)(c:Nat):mrk A t tape S c 3 0=nxB A t tape S c:=by
 unfold mrk nxB
 refine List.map_congr_left fun p _=>?_
 simp
theorem mrk_same{A:Aut}{t tape:Nat}{S:List Bool}{c d i:Nat}(h:S.getD i false=false):mrk A t tape S c d (i+1)=mrk A t tape S c d i:=by
 unfold mrk
 refine List.map_congr_left fun p _=>?_
 rw[List.range_succ (n:=i),List.any_append]
 simp only[List.any_cons,List.any_nil,h,Bool.false_and,Bool.or_false]
theorem mrk_set{A:Aut}{t tape:Nat}{S:List Bool}{c d i:Nat}(h:S.getD i false=true):(mrk A t tape S c d i).set (A.to i (bZ t tape c d)) true=mrk A t tape S c d (i+1):=by
 apply List.ext_getElem?
 intro p
 by_cases hp:p<A.y.length
 ·rw[List.getElem?_set]
  unfold mrk
  rw[List.getElem?_map,List.getElem?_map,List.getElem?_range hp,List.range_succ (n:=i)]
  simp only[Option.map_some,List.any_append,List.any_cons,List.any_nil,h,Bool.true_and,Bool.or_false]
  by_cases e:A.to i (bZ t tape c d)=p
  ·rw[if_pos e,if_pos (by rw[e];simpa using hp)]
   simp[e]
  ·rw[if_neg e]
   simp[e]
 ·rw[List.getElem?_eq_none (by rw[List.length_set,aO4];omega),List.getElem?_eq_none (by rw[aO4];omega)]
theorem i_some2(t tape n2 n3 c:Nat)(ht1:1≤t)(ht:t+1≤3)(htape:tape≤t)(A:Aut)(S:List Bool)(u x:BV)(H:BH)(h2:H.row n2=.arr 77 [aB (t+1),aB 0,u,x])(hu:Rd H 4 u (A.y.map aK))(hx:RdR H 80 3 x aB A.nxt)(h3:H.row n3=.arr 3 [aB tape])(hok:A.Ok (wd (t+1)))(hn:A.y.length≤1000000)(hS:S.length=A.y.length)(hc:c<wd t):FnDoes (gam aA) 175 [eZ (cF S),aB c,.ptr n2 0,.ptr n3 0] H fun v K=>v=eZ (cF (nxB A t tape S c)):=by
 refine FnDoes.hide fun R hR=>?_
 refine FnDoes.of (fn:=ir175) rfl ?_
 obtain⟨n,hnn⟩:∃n,n=A.y.length:=⟨_,rfl⟩
 have hul:=hu.lenM
 rw[←hnn] at hul
 have c1:(n:Int)≤140737488355328:=by omega
 have g0:=aD h2 (rt:=none) (j:=0) (c:=aB (t+1)) rfl rfl
 have g2:=aD h2 (rt:=none) (j:=2) (c:=u) rfl rfl
 have g3:=aD h2 (rt:=none) (j:=3) (c:=x) rfl rfl
 have p3:=aD h3 (rt:=none) (j:=0) (c:=aB tape) rfl rfl
 have wt:IntKind.i64.wrap (t:Int)=(t:Int):=wN (by omega)
 have hwd:=eQ (t:=t) (by omega)
 simp only[aB] at g0
 simp[ir175,g0,wt]
 refine(lY (aA:=aA) t c H (by omega) (by omega)).step fun v7 K1 k1 hv7=>?_
 obtain⟨bo,hd,hfr⟩:=hv7
 have o1:=(Own.start (aA:=aA) (H:=H)).take k1 hd hfr
 have hdr:=hd.rd
 have g2':=aJ k1 g2
 simp[g2',hu.isSl,hul,c1]
 intro n8 b8 f8
 have o2:=o1.new f8 b8 (s:=.arr 4 (List.replicate n (.bool false)))
 simp[aC f8 b8]
 have hdv:Vec bo v7 t:=by simpa[aO] using hd.vec
 obtain⟨I,hI⟩:∃I:Nat→Env→BH→Prop,I=(fun d e K=>e 9=aB d∧Own aA H K [(some n8,.arr 4 ((mrk A t tape S c d 0).map aK)),(bo,.arr 3 ((digs t c).map aB))]):=⟨_,rfl⟩
 refine aE 3 [(0,eZ (cF S)),(2,.ptr n2 0),(3,.ptr n3 0),(7,v7),(8,.sl n8 0 n)] I (i0:=0) rfl ?_ ?_ (Nat.zero_le _) ?_
 ·simp
 ·rw[hI]
  refine⟨by simp,?_⟩
  rw[mrk_zero,←hnn]
  simpa using o2
 clear o1 o2
 rintro d e K hdd ⟨e0,e2,e3,e7,e8,-⟩ hh
 rw[hI] at hh
 obtain⟨e9,o⟩:=hh
 simp only[] at e0 e2 e3 e7 e8
 have wdd:=wS (n:=d) (by omega)
 have hdr':Rd K 3 v7 ((digs t c).map aB):=o.rd 1 rfl (by simpa[aO] using hdv)
 by_cases hd3:d<3
 ·have hd2:((d:Nat):Int)≤2:=by omega
  have p3':=aJ o.keeps p3
  simp[e0,e2,e3,e7,e8,e9,hd2,p3']
  refine(i_with (aA:=aA) (digs t c) tape d v7 K hdr' (by rw[aO];omega) (by rw[aO];omega) (xO t c) (by rw[aO];exact htape) hd3).step fun v10 K2 k2 hv10=>?_
  subst hv10
  have o2:=o.call k2
  obtain⟨col,hcol⟩:∃col,col=bZ t tape c d:=⟨_,rfl⟩
  have hcol':cL ((digs t c).insertIdx tape d)=col:=hcol.symm
  have hcl:col<wd (t+1):=by rw[hcol];exact mG htape hd3 (.inr hc)
  rw[hcol']
  simp[e8]
  obtain⟨J,hJ⟩:∃J:Nat→Env→BH→Prop,J=(fun q e K=>e 31=aB q∧Own aA H K [(some n8,.arr 4 ((mrk A t tape S c d q).map aK)),(bo,.arr 3 ((digs t c).map aB))]):=⟨_,rfl⟩
  refine aE n [(0,eZ (cF S)),(2,.ptr n2 0),(3,.ptr n3 0),(7,v7),(8,.sl n8 0 n),(9,aB d),(10,aB col),(30,aB n)] J (i0:=0) rfl ?_ ?_ (Nat.zero_le _) ?_
  ·simp[e0,e2,e3,e7,e8,e9]
  ·rw[hJ]
   exact⟨by simp,o2⟩
  clear o o2 e0 e2 e3 e7 e8 e9 hdr'
  rintro q e K hq ⟨e0,e2,e3,e7,e8,e9,e10,e30,-⟩ hh
  rw[hJ] at hh
  obtain⟨e31,o⟩:=hh
  simp only[] at e0 e2 e3 e7 e8 e9 e10 e30
  have wq:=wS (n:=q) (by omega)
  by_cases hlt:q<n
  ·have hqS:q<S.length:=by omega
   have gb:=aX6 hqS
   have gS:S.getD q false=S[q]:=by rw[List.getD_eq_getElem?_getD,List.getElem?_eq_getElem hqS];rfl
   by_cases hb:S[q]=true
   ·have hb1:(UInt8.ofNat (bE4 S[q])).toNat=1:=by rw[hb];rfl
    have hqN:q<A.nxt.length:=by rw[hok.len];omega
    obtain⟨uw,q1,q2⟩:=hx.at hqN
    have q2:=aJ o.keeps (q2 none rfl)
    have g3':=aJ o.keeps g3
    have hrl:(A.nxt[q]).length=wd (t+1):=(hok.row _ (List.getElem_mem hqN)).1
    have q1':=q1.keeps o.keeps
    have gc:=q1'.at (i:=col) (by rw[hrl];exact hcl) (rt:=none) rfl
    have hto:A.nxt[q][col]'(by rw[hrl];exact hcl)=A.to q col:=rF hok hqN (by rw[hrl];exact hcl)
    have gc':K.rd none none (uw.sat col 1)=some (aB (A.to q col)):=by simpa[hto] using gc
    have htl:A.to q col<n:=by rw[hnn];exact aA9 hok (by omega) hcl
    have hcw:col<uw.slen:=by rw[q1.lenM,hrl];exact hcl
    obtain⟨K5,g5,o5⟩:=o.put 0 (b:=n8) rfl (j:=A.to q col) (u:=.bool true) (by rw[List.length_map,aO4];omega) rfl (rt:=none) rfl
    have hxl:q<x.slen:=by rw[hx.len];exact hqN
    simp[e0,e2,e8,e10,e30,e31,hlt,gb,hb1,g3',hx.isSl,hxl,q2,q1.isSl,hcw,gc',htl,g5,wq]
    rw[hJ]
    refine⟨by simp,?_⟩
    have e:((mrk A t tape S c d q).map aK).set (A.to q col) (.bool true)=(mrk A t tape S c d (q+1)).map aK:=by
     rw[←mrk_set (by rw[gS];exact hb),List.map_set,hcol]
    rw[←e]
    exact o5
   ·have hb:S[q]=false:=by simpa using hb
    have hb1:(UInt8.ofNat (bE4 S[q])).toNat=0:=by rw[hb];rfl
    simp[e0,e30,e31,hlt,gb,hb1,wq]
    rw[hJ]
    refine⟨by simp,?_⟩
    rw[mrk_same (by rw[gS];exact hb)]
    exact o
  ·have hqn:q=n:=by omega
   subst hqn
   rw[hnn,mrk_next] at o
   simp[e9,e30,e31,wdd,hd3]
   rw[hI]
   exact⟨by simp,o⟩
 ·have hde:d=3:=by omega
  subst hde
  rw[mrk_all] at o
  simp[e8,e9]
  have hrd:Rd K 4 (.sl n8 0 n) ((nxB A t tape S c).map aK):=o.rd 0 rfl (by rw[List.length_map,wU,hnn];rfl)
  refine(aV4 (aA:=aA) (nxB A t tape S c) _ K hrd (by rw[wU];exact hn)).step fun v K4 k4 hv=>?_
  subst hv
  simp
  rw[hR]
  exact⟨o.keeps.trans k4,rfl⟩
structure EndI(A:Aut)(t tape:Nat)(E:List Bool):Prop where
 len:E.length=A.y.length
 y:∀q,A.y.getD q false=true→E.getD q false=true
 ok:∀q,E.getD q false=true→aQ2 A t tape q=true
theorem EndI.start{A:Aut}{t tape:Nat}:EndI A t tape A.y:=⟨rfl,fun _ h=>h,fun _ h=>aW3 h⟩
theorem EndI.set{A:Aut}{t tape:Nat}{E:List Bool}(h:EndI A t tape E){q d:Nat}(hq:q<E.length)(hd:d<2)(he:E.getD (A.to q (bZ t tape (wd t) d)) false=true):EndI A t tape (E.set q true):=by
 refine⟨by rw[List.length_set];exact h.len,fun p hp=>?_,fun p hp=>?_⟩
 ·rw[List.getD_eq_getElem?_getD,List.getElem?_set]
  split
  ·rfl
  ·rw[←List.getD_eq_getElem?_getD]
   exact h.y p hp
 ·rw[List.getD_eq_getElem?_getD,List.getElem?_set] at hp
  split at hp
  ·rename_i e
   subst e
   exact aL0 hd (h.ok _ he)
  ·rw[←List.getD_eq_getElem?_getD] at hp
   exact h.ok p hp
theorem EndI.done{A:Aut}{t tape:Nat}{E:List Bool}(h:EndI A t tape E)(hok:∀q,q<A.y.length→∀d,d<2→A.to q (bZ t tape (wd t) d)<A.y.length)(hcl:∀q,q<E.length→E.getD q false=false→∀d,d<2→E.getD (A.to q (bZ t tape (wd t) d)) false=false){q:Nat}(hq:q<A.y.length):E.getD q false=aQ2 A t tape q:=by
 cases he:E.getD q false with
 | true=>exact(h.ok q he).symm
 | false =>
  refine(xN (P:=fun q=>q<A.y.length∧E.getD q false=false) (fun p hp=>?_) (fun p hp d hd=>?_) ⟨hq,he⟩).symm
  ·cases ha:A.y.getD p false with
   | false=>rfl
   | true=>rw[h.y p ha] at hp;exact absurd hp.2 (by simp)
  ·exact⟨hok p hp.1 d hd,hcl p (by rw[h.len];exact hp.1) hp.2 d hd⟩
def lI(E:List Bool):Nat:=E.countP fun b=>!b
theorem zR{E:List Bool}{q:Nat}(hq:q<E.length)(h:E[q]=false):lI (E.set q true)+1=lI E:=by
 unfold lI
 induction E generalizing q with
 | nil=>simp at hq
 | cons b E ih =>
  cases q with
  | zero =>
   simp at h
   subst h
   simp
  | succ q =>
   have:=ih (q:=q) (by simpa using hq) (by simpa using h)
   rw[List.set_cons_succ,List.countP_cons,List.countP_cons]
   omega
theorem acB_of{A:Aut}{t tape:Nat}{E S:List Bool}(hl:E.length=A.y.length)(h:∀q,q<A.y.length→E.getD q false=aQ2 A t tape q):((List.range E.length).any fun q=>S.getD q false&&E.getD q false)=acB A t tape S:=by
 unfold acB
 rw[hl,Bool.eq_iff_iff,List.any_eq_true,List.any_eq_true]
 constructor
 ·rintro⟨q,hq,h1⟩
  refine⟨q,hq,?_⟩
  rw[←h q (List.mem_range.1 hq)]
  exact h1
 ·rintro⟨q,hq,h1⟩
  refine⟨q,hq,?_⟩
  rw[h q (List.mem_range.1 hq)]
  exact h1
def muE(n6b:Nat)(e:Env)(K:BH):Nat:=2*(match K.row n6b with
 | .arr _ cs=>cs.countP fun c=>match c with | .bool false=>true|_=>false
 | _=>0)+(match e 8 with | .bool true=>1|_=>0)
theorem bC4(E:List Bool):(E.map aK).countP (fun c=>match c with | .bool false=>true|_=>false)=lI E:=by
 unfold lI
 rw[List.countP_map]
 congr 1
 funext b
 cases b<;>rfl
theorem aB9{n s:Nat}(h:s<n):(List.replicate n false).set s true=eR n s:=by
 apply List.ext_getElem?
 intro p
 unfold eR
 by_cases hp:p<n
 ·rw[List.getElem?_set,List.getElem?_map,List.getElem?_range hp]
  by_cases e:s=p
  ·subst e
   simp[hp]
  ·have e':¬p=s:=fun h=>e h.symm
   simp[e,e',List.getElem?_replicate,hp]
 ·rw[List.getElem?_eq_none (by simp;omega),List.getElem?_eq_none (by simp;omega)]
theorem grow_end{H K K3:BH}{n2 i t lim:Nat}{L:List Sl}{zs:List BV}{A:Aut}{v:BV}(o:Own aA H K L)(hL:L[i]?=some (some n2,.arr 77 zs))(hz:zs.length=4)(k:K.Keeps K3)(hr:dA aA K t lim A v K3):
  ∃m b K7,v=.tup [m,.bool b]∧K3.wr aA none 4 (.ptr n2 0) m=some K7∧K7.rd none (some 4) (.ptr n2 0)=some m∧H.Keeps K7∧dA aA H t lim A (.tup [m,.bool b]) K7:=by
 have hi:i<L.length:=(List.getElem?_eq_some_iff.1 hL).1
 unfold dA at hr ⊢
 by_cases hb:0<lim∧lim<A.y.length
 ·rw[if_pos hb] at hr
  obtain⟨K7,g7,o7⟩:=(o.call k).putAll i (b:=n2) hL (n:=4) (ds:=[aB 0,aB 0,.nils,.nils]) rfl hz rfl (rt:=none) rfl
  have h7:(L.set i (some n2,.arr 77 [aB 0,aB 0,.nils,.nils]))[i]?=some (some n2,.arr 77 [aB 0,aB 0,.nils,.nils]):=by simp[hi]
  exact⟨_,_,K7,hr,g7,aI (o7.at i (b:=n2) h7) rfl rfl,o7.keeps,by rw[if_pos hb]⟩
 ·rw[if_neg hb] at hr
  obtain⟨m,e,hm⟩:=hr
  obtain⟨mu,mw,mbo,mwo,mvs,mfr,rfl,om,hm1,hm2,hm3⟩:=hm
  have u1:=hm1.one
  have w1:=hm2.one
  have oj:=Own.join o k om
  have hL':(L++((mbo,.arr 4 (A.y.map aK))::(mwo,.arr 80 mvs)::mfr))[i]?=some (some n2,.arr 77 zs):=by rw[List.getElem?_append_left hi];exact hL
  obtain⟨K7,g7,o7⟩:=oj.putAll i (b:=n2) hL' (n:=4) (ds:=[aB t,aB 0,mu,mw]) rfl hz (by simp[u1,w1]) (rt:=none) rfl
  rw[List.set_append_left _ _ hi] at o7
  have h7:(L.set i (some n2,.arr 77 [aB t,aB 0,mu,mw])++((mbo,.arr 4 (A.y.map aK))::(mwo,.arr 80 mvs)::mfr))[i]?=some (some n2,.arr 77 [aB t,aB 0,mu,mw]):=by
   rw[List.getElem?_append_left (by simp[hi])]
   simp[hi]
  exact⟨_,_,K7,e,g7,aI (o7.at i (b:=n2) h7) rfl rfl,o7.keeps,by rw[if_neg hb];exact⟨_,rfl,mu,mw,mbo,mwo,mvs,mfr,rfl,o7.sub (List.sublist_append_right _ _),hm1,hm2,hm3⟩⟩
theorem i_some(l:Nat)(hl:l=1000)(t tape:Nat)(ht1:1≤t)(ht:t+1≤3)(htape:tape≤t)(A:Aut)(m:BV)(H:BH)(hm:RdM H (t+1) 0 A m)(hok:A.Ok (wd (t+1)))(hn:A.y.length≤1000000):FnDoes (gam aA) 114 [m,aB tape] H fun v K=>dA aA H t l (aZ0 l t tape A) v K:=by
 refine FnDoes.hide fun R hR=>?_
 refine FnDoes.of (fn:=ir114) rfl ?_
 obtain⟨u,x,rfl,hu,hx⟩:=hm
 have u1:=hu.one
 have x1:=aF hx.isSl
 obtain⟨n,hnn⟩:∃n,n=A.y.length:=⟨_,rfl⟩
 have hul:=hu.lenM
 rw[←hnn] at hul
 have hpos:=hok.pos
 have hxl:=hx.len
 rw[hok.len,←hnn] at hxl
 have wt:IntKind.i64.wrap (t:Int)=(t:Int):=wN (by omega)
 have hto:∀q,q<A.y.length→∀d,d<2→A.to q (bZ t tape (wd t) d)<A.y.length:=fun q hq d hd=>aA9 hok hq (mG htape (by omega) (.inl hd))
 simp[ir114,u1,x1]
 intro n2 b2 f2
 simp[aC f2 b2]
 intro n3 b3 f3
 simp[aC f3 b3]
 intro n4 b4 f4
 have o1:=Own.start (aA:=aA) (H:=H) |>.new f2 b2 (s:=.arr 77 [aB (t+1),aB 0,u,x]) |>.new f3 b3 (s:=.arr 3 [aB tape]) |>.new f4 b4 (s:=.arr 77 [.int .i64 0,.int .i64 0,.nils,.nils])
 have g2:=aD (o1.at 2 (b:=n2) rfl) (rt:=none) (j:=2) (c:=u) rfl rfl
 simp[aC f4 b4,g2]
 refine(sB (aA:=aA) A.y u _ (hu.keeps o1.keeps) hpos (by omega)).step fun v K1 k1 hv=>?_
 obtain⟨bo,hv,hfr⟩:=hv
 have hvec:Vec bo v n:=by rw[hnn];simpa using hv.vec
 cases bo with
 | none=>have:=hvec.2;omega
 | some wb =>
 have ev:v=.sl wb 0 n:=hvec
 subst ev
 have o2:=o1.take k1 hv hfr
 simp
 intro n6 b6 f6
 obtain⟨K2,g6,o3⟩:=(o2.new f6 b6 (s:=.arr 22 [.nils])).put 0 (b:=n6) rfl (j:=0) (u:=.sl wb 0 n) (by simp) rfl (rt:=none) rfl
 have o3:Own aA H K2 [(some n6,.arr 22 [.sl wb 0 n]),(some wb,.arr 4 (A.y.map aK)),(some n4,.arr 77 [.int .i64 0,.int .i64 0,.nils,.nils]),(some n3,.arr 3 [aB tape]),(some n2,.arr 77 [aB (t+1),aB 0,u,x])]:=o3
 have q0:=aD (o3.at 4 (b:=n2) rfl) (rt:=none) (j:=0) (c:=aB (t+1)) rfl rfl
 have q0':=aD (o3.at 4 (b:=n2) rfl) (rt:=some 77) (j:=0) (c:=aB (t+1)) rfl rfl
 have q3:=aD (o3.at 3 (b:=n3) rfl) (rt:=some 3) (j:=0) (c:=aB tape) rfl rfl
 simp only[aB] at q0 q0' q3
 simp[aC f6 b6,g6,q0,q0',q3,wt]
 have hpd:digs t (wd t)=List.replicate t 2:=by
  have:t=1∨t=2:=by omega
  rcases this with rfl|rfl<;>decide
 have hcol:∀d,cL ((List.replicate t 2).insertIdx tape d)=bZ t tape (wd t) d:=fun d=>by unfold bZ;rw[hpd]
 have hrep3:Dig3 (List.replicate t 2):=fun x hx=>by have:=List.eq_of_mem_replicate hx;omega
 have hrl:(List.replicate t 2).length=t:=List.length_replicate
 refine(aV5 (aA:=aA) t K2 (by omega)).step fun v18 K3 k3 hv18=>?_
 simp
 refine(i_with (aA:=aA) (List.replicate t 2) tape 0 v18 K3 hv18 (by omega) (by omega) hrep3 (by omega) (by omega)).step fun v20 K4 k4 hv20=>?_
 subst hv20
 simp
 refine(aV5 (aA:=aA) t K4 (by omega)).step fun v24 K5 k5 hv24=>?_
 simp
 refine(i_with (aA:=aA) (List.replicate t 2) tape 1 v24 K5 hv24 (by omega) (by omega) hrep3 (by omega) (by omega)).step fun v26 K6 k6 hv26=>?_
 subst hv26
 rw[hcol,hcol]
 obtain⟨l0,hl0⟩:∃l0,l0=bZ t tape (wd t) 0:=⟨_,rfl⟩
 obtain⟨l1,hl1⟩:∃l1,l1=bZ t tape (wd t) 1:=⟨_,rfl⟩
 have hl0w:l0<wd (t+1):=by rw[hl0];exact mG htape (by omega) (.inl (by omega))
 have hl1w:l1<wd (t+1):=by rw[hl1];exact mG htape (by omega) (.inl (by omega))
 rw[←hl0,←hl1]
 have k36:=((k3.trans k4).trans k5).trans k6
 simp
 intro n27 b27 f27
 have o4:=(o3.call k36).new f27 b27 (s:=.arr 3 [aB l0,aB l1])
 simp[aC f27 b27]
 obtain⟨F,hF⟩:∃F:List Sl,F=[(some n4,.arr 77 [.int .i64 0,.int .i64 0,.nils,.nils]),(some n3,.arr 3 [aB tape]),(some n2,.arr 77 [aB (t+1),aB 0,u,x])]:=⟨_,rfl⟩
 obtain⟨S,hS⟩:∃S:List Bool→BH→Prop,S=fun E K=>Own aA H K ((some n27,.arr 3 [aB l0,aB l1])::(some n6,.arr 22 [.sl wb 0 n])::(some wb,.arr 4 (E.map aK))::F):=⟨_,rfl⟩
 obtain⟨cl,hcl⟩:∃cl:List Bool→Nat→Prop,cl=fun E q=>∀p,p<q→E.getD p false=false→E.getD (A.to p l0) false=false∧E.getD (A.to p l1) false=false:=⟨_,rfl⟩
 obtain⟨I,hI⟩:∃I:Env→BH→Prop,I=fun e K=>Has e [(2,.ptr n2 0),(3,.ptr n3 0),(4,.ptr n4 0),(5,.bool false),(6,.ptr n6 0),(7,.sl n27 0 2)]∧∃E ch,e 8=.bool ch∧(EndI A t tape E∧S E K)∧(ch=false→cl E n):=⟨_,rfl⟩
 have hmu:∀(e:Env) (K:BH) (E:List Bool) (ch:Bool),e 8=.bool ch→S E K→muE wb e K=2*lI E+(if ch=true then 1 else 0):=fun e K E ch he hs=>by
  rw[hS] at hs
  have hr:=hs.at 2 (b:=wb) rfl
  unfold muE
  rw[hr,he]
  simp only[bC4]
  cases ch<;>rfl
 refine wpC_loop I (muE wb) ?_ ?_
 ·rw[hI]
  refine⟨by simp,A.y,true,by simp,⟨EndI.start,?_⟩,fun h=>by cases h⟩
  rw[hS,hF]
  exact o4
 clear o1 o2 o3 o4 q0 q0' q3 g2 g6
 rintro e K hh
 have hh0:=hh
 rw[hI] at hh
 obtain⟨⟨e2,e3,e4,e5,e6,e7,-⟩,E,ch,e8,⟨hE,hs⟩,hclo⟩:=hh
 simp only[] at e2 e3 e4 e5 e6 e7
 have hmuE:=hmu e K E ch e8 hs
 have hEl:=hE.len
 cases ch with
 | true =>
  have hs0:=hs
  rw[hS,hF] at hs0
  have g3:=aD (hs0.at 5 (b:=n2) rfl) (rt:=none) (j:=3) (c:=x) rfl rfl
  simp[e8,e2,g3,hx.isSl,hxl]
  obtain⟨J,hJ⟩:∃J:Nat→Env→BH→Prop,J=fun q e K=>e 32=aB q∧∃E' ch',e 8=.bool ch'∧(EndI A t tape E'∧S E' K)∧(ch'=false→E'=E∧cl E q)∧(ch'=true→lI E'<lI E):=⟨_,rfl⟩
  refine aE n [(2,.ptr n2 0),(3,.ptr n3 0),(4,.ptr n4 0),(5,.bool false),(6,.ptr n6 0),(7,.sl n27 0 2),(30,x),(31,aB n)] J (i0:=0) rfl ?_ ?_ (Nat.zero_le _) ?_
  ·simp[e2,e3,e4,e5,e6,e7]
  ·rw[hJ]
   refine⟨by simp,E,false,by simp,⟨hE,hs⟩,fun _=>⟨rfl,?_⟩,fun h=>by cases h⟩
   rw[hcl]
   intro p hp
   omega
  clear e2 e3 e4 e5 e6 e7 e8 hs0 g3
  rintro q e' K' hq ⟨e2,e3,e4,e5,e6,e7,e30,e31,-⟩ hh
  rw[hJ] at hh
  obtain⟨e32,E',ch',e8,⟨hE',hs'⟩,hsame,hlt2⟩:=hh
  simp only[] at e2 e3 e4 e5 e6 e7 e30 e31
  have wq:=wS (n:=q) (by omega)
  have hEl':=hE'.len
  by_cases hlt:q<n
  ·have o:=hs'
   rw[hS] at o
   have hqE:q<E'.length:=by omega
   have hqN:q<A.nxt.length:=by rw[hok.len];omega
   obtain⟨uw,q1,q2⟩:=hx.at hqN
   have q2:=aJ o.keeps (q2 none rfl)
   have hrw:(A.nxt[q]).length=wd (t+1):=(hok.row _ (List.getElem_mem hqN)).1
   have q1':=q1.keeps o.keeps
   have gc0:=q1'.at (i:=l0) (by rw[hrw];exact hl0w) (rt:=none) rfl
   have gc1:=q1'.at (i:=l1) (by rw[hrw];exact hl1w) (rt:=none) rfl
   have ht0:A.nxt[q][l0]'(by rw[hrw];exact hl0w)=A.to q l0:=rF hok hqN (by rw[hrw];exact hl0w)
   have ht1':A.nxt[q][l1]'(by rw[hrw];exact hl1w)=A.to q l1:=rF hok hqN (by rw[hrw];exact hl1w)
   have gc0:K'.rd none none (uw.sat l0 1)=some (aB (A.to q l0)):=by simpa[ht0] using gc0
   have gc1:K'.rd none none (uw.sat l1 1)=some (aB (A.to q l1)):=by simpa[ht1'] using gc1
   have hz0:A.to q l0<n:=by rw[hnn];exact aA9 hok (by omega) hl0w
   have hz1:A.to q l1<n:=by rw[hnn];exact aA9 hok (by omega) hl1w
   have hw0:l0<uw.slen:=by rw[q1.lenM,hrw];exact hl0w
   have hw1:l1<uw.slen:=by rw[q1.lenM,hrw];exact hl1w
   have hxl':q<x.slen:=by omega
   have r6:=aD (o.at 1 (b:=n6) rfl) (rt:=none) (j:=0) (c:=.sl wb 0 n) rfl rfl
   have r0:=aD (o.at 0 (b:=n27) rfl) (rt:=none) (j:=0) (c:=aB l0) rfl rfl
   have r1:=aD (o.at 0 (b:=n27) rfl) (rt:=none) (j:=1) (c:=aB l1) rfl rfl
   have gD:∀p,p<n→K'.rd none none (.ptr wb p)=some (aK (E'.getD p false)):=fun p hp=>aD (o.at 2 (b:=wb) rfl) (rt:=none) (j:=p) (c:=aK (E'.getD p false)) rfl (by
    rw[List.getElem?_map,List.getD_eq_getElem?_getD,List.getElem?_eq_getElem (by omega)]
    rfl)
   have gE:=gD q hlt
   have ge0:=gD _ hz0
   have ge1:=gD _ hz1
   have hgq:E'.getD q false=E'[q]:=by rw[List.getD_eq_getElem?_getD,List.getElem?_eq_getElem hqE];rfl
   obtain⟨b,hb⟩:∃b,b=E'.getD q false:=⟨_,rfl⟩
   obtain⟨c0,hc0⟩:∃c0,c0=E'.getD (A.to q l0) false:=⟨_,rfl⟩
   obtain⟨c1,hc1⟩:∃c1,c1=E'.getD (A.to q l1) false:=⟨_,rfl⟩
   rw[←hb] at gE
   rw[←hc0] at ge0
   rw[←hc1] at ge1
   have stay:(b=false→c0=false∧c1=false)→(ch'=false→E'=E∧cl E (q+1)):=fun h hf=>by
    obtain⟨h1,h2⟩:=hsame hf
    refine⟨h1,?_⟩
    rw[hcl] at h2 ⊢
    intro p hp hpf
    by_cases hpq:p=q
    ·subst hpq
     rw[←h1] at hpf ⊢
     rw[hb,hc0,hc1] at h
     exact h hpf
    ·exact h2 p (by omega) hpf
   have hxl:=hxl'
   rcases Bool.eq_false_or_eq_true b with hbt|hbt
   ·subst hbt
    simp[e6,e7,e30,e31,e32,hlt,hx.isSl,hxl,q2,r6,gE,wq]
    rw[hJ]
    exact⟨by simp,E',ch',by simp[e8],⟨hE',hs'⟩,stay (fun h=>by cases h),hlt2⟩
   ·subst hbt
    have hbq:E'[q]=false:=by rw[←hgq];exact hb.symm
    rcases Bool.eq_false_or_eq_true c0 with h0|h0
    ·subst h0
     obtain⟨K5,g5,o5⟩:=o.put 2 (b:=wb) rfl (j:=q) (u:=.bool true) (by rw[List.length_map];omega) rfl (rt:=none) rfl
     simp[e6,e7,e30,e31,e32,hlt,hx.isSl,hxl,q2,r6,gE,r0,r1,q1.isSl,hw0,hw1,hz0,hz1,gc0,gc1,ge0,ge1,g5,wq]
     rw[hJ]
     refine⟨by simp,E'.set q true,true,by simp,⟨hE'.set hqE (d:=0) (by omega) (by rw[←hl0];exact hc0.symm),?_⟩,fun h=>(by cases h),fun _=>?_⟩
     ·rw[hS]
      have o6:Own aA H K5 ((some n27,.arr 3 [aB l0,aB l1])::(some n6,.arr 22 [.sl wb 0 n])::(some wb,.arr 4 ((E'.map aK).set q (.bool true)))::F):=o5
      have e:(E'.map aK).set q (.bool true)=(E'.set q true).map aK:=by rw[List.map_set]
      rw[e] at o6
      exact o6
     ·have:=zR hqE hbq
      by_cases hc':ch'=true
      ·have:=hlt2 hc'
       omega
      ·have hc':ch'=false:=by simpa using hc'
       have h2:lI E'=lI E:=by rw[(hsame hc').1]
       omega
    ·subst h0
     rcases Bool.eq_false_or_eq_true c1 with h1|h1
     ·subst h1
      obtain⟨K5,g5,o5⟩:=o.put 2 (b:=wb) rfl (j:=q) (u:=.bool true) (by rw[List.length_map];omega) rfl (rt:=none) rfl
      simp[e6,e7,e30,e31,e32,hlt,hx.isSl,hxl,q2,r6,gE,r0,r1,q1.isSl,hw0,hw1,hz0,hz1,gc0,gc1,ge0,ge1,g5,wq]
      rw[hJ]
      refine⟨by simp,E'.set q true,true,by simp,⟨hE'.set hqE (d:=1) (by omega) (by rw[←hl1];exact hc1.symm),?_⟩,fun h=>(by cases h),fun _=>?_⟩
      ·rw[hS]
       have o6:Own aA H K5 ((some n27,.arr 3 [aB l0,aB l1])::(some n6,.arr 22 [.sl wb 0 n])::(some wb,.arr 4 ((E'.map aK).set q (.bool true)))::F):=o5
       have e:(E'.map aK).set q (.bool true)=(E'.set q true).map aK:=by rw[List.map_set]
       rw[e] at o6
       exact o6
      ·have:=zR hqE hbq
       by_cases hc':ch'=true
       ·have:=hlt2 hc'
        omega
       ·have hc':ch'=false:=by simpa using hc'
        have h2:lI E'=lI E:=by rw[(hsame hc').1]
        omega
     ·subst h1
      simp[e6,e7,e30,e31,e32,hlt,hx.isSl,hxl,q2,r6,gE,r0,r1,q1.isSl,hw0,hw1,hz0,hz1,gc0,gc1,ge0,ge1,wq]
      rw[hJ]
      exact⟨by simp,E',ch',by simp[e8],⟨hE',hs'⟩,stay (fun _=>⟨rfl,rfl⟩),hlt2⟩
  ·have hqn:q=n:=by omega
   subst hqn
   simp[e31,e32]
   rw[hI]
   refine⟨⟨by simp[e2,e3,e4,e5,e6,e7],E',ch',by simp[e8],⟨hE',hs'⟩,fun h=>?_⟩,?_⟩
   ·obtain⟨h1,h2⟩:=hsame h
    rw[h1]
    exact h2
   ·rw[hmu _ K' E' ch' (by simp[e8]) hs',hmuE]
    cases ch' with
    | true=>have:=hlt2 rfl;simp;omega
    | false =>
     have h2:lI E'=lI E:=by rw[(hsame rfl).1]
     simp
     omega
 | false =>
  have hcln:=hclo rfl
  rw[hcl] at hcln
  have hend:∀q,q<A.y.length→E.getD q false=aQ2 A t tape q:=fun q hq=>hE.done hto (fun p hp hpf d hd=>by
   obtain⟨h0,h1⟩:=hcln p (by omega) hpf
   have:d=0∨d=1:=by omega
   rcases this with rfl|rfl
   ·rw[←hl0];exact h0
   ·rw[←hl1];exact h1) hq
  have o:=hs
  rw[hS,hF] at o
  have g0:=aD (o.at 5 (b:=n2) rfl) (rt:=some 77) (j:=0) (c:=aB (t+1)) rfl rfl
  have g1:=aD (o.at 5 (b:=n2) rfl) (rt:=none) (j:=1) (c:=aB 0) rfl rfl
  have g2:=aD (o.at 5 (b:=n2) rfl) (rt:=none) (j:=2) (c:=u) rfl rfl
  have c1:(n:Int)≤140737488355328:=by omega
  simp only[aB] at g0 g1
  simp[e8,e2,g2,hu.isSl,hul,c1]
  intro n11 b11 f11
  have o2:=o.new f11 b11 (s:=.arr 4 (List.replicate n (.bool false)))
  have g1':=aD (o2.at 6 (b:=n2) rfl) (rt:=none) (j:=1) (c:=aB 0) rfl rfl
  simp only[aB] at g1'
  obtain⟨K3,p3,o3⟩:=o2.put 0 (b:=n11) rfl (j:=0) (u:=.bool true) (by simp;omega) rfl (rt:=none) rfl
  have g0':=aD (o3.at 6 (b:=n2) rfl) (rt:=some 77) (j:=0) (c:=aB (t+1)) rfl rfl
  simp only[aB] at g0'
  have hn0:0<n:=by omega
  have est:(List.replicate n (BV.bool false)).set 0 (.bool true)=(eR n 0).map aK:=by
   rw[←aB9 hn0,List.map_set,List.map_replicate]
  simp[aC f11 b11,e2,e3,e6,g1',hn0,p3,g0',wt]
  have o3:Own aA H K3 ((some n11,.arr 4 ((eR n 0).map aK))::(some n27,.arr 3 [aB l0,aB l1])::(some n6,.arr 22 [.sl wb 0 n])::(some wb,.arr 4 (E.map aK))::[(some n4,.arr 77 [.int .i64 0,.int .i64 0,.nils,.nils]),(some n3,.arr 3 [aB tape]),(some n2,.arr 77 [aB (t+1),aB 0,u,x])]):=by
   rw[←est]
   exact o3
  refine(aV4 (aA:=aA) (eR n 0) (.sl n11 0 n) K3 (o3.rd 0 rfl (by rw[List.length_map,lU];rfl)) (by rw[lU];omega)).step fun v80 K4 k4 hv80=>?_
  subst hv80
  have o4:=o3.call k4
  simp
  have w6:=o4.at 2 (b:=n6) rfl
  have w2:=o4.at 6 (b:=n2) rfl
  have w3:=o4.at 5 (b:=n3) rfl
  have wE:Rd K4 4 (.sl wb 0 n) (E.map aK):=o4.rd 3 rfl (by rw[List.length_map,hEl,←hnn];rfl)
  have wu:=hu.keeps o4.keeps
  have wx:=hx.keeps o4.keeps
  have hfa:∀L,K4.Keeps L→∀S:List Bool,S.length=A.y.length→FnDoes (gam aA) 174 (eZ (cF S)::[.ptr n6 0]) L fun v _=>v=.bool (acB A t tape S):=fun L kL S hS'=>by
   have h6:L.row n6=.arr 22 [.sl wb 0 n]:=by rw[kL n6 (by rw[w6];simp),w6]
   have h1:=i_some1 (aA:=aA) E S (by omega) n6 (.sl wb 0 n) L h6 (wE.keeps kL) (by omega)
   rw[acB_of hEl hend] at h1
   exact⟨_,_,h1,BH.Keeps.refl _,rfl⟩
  have hfn:∀L,K4.Keeps L→∀S:List Bool,S.length=A.y.length→∀c,c<wd t→FnDoes (gam aA) 175 (eZ (cF S)::aB c::[.ptr n2 0,.ptr n3 0]) L fun v _=>v=eZ (cF (nxB A t tape S c)):=fun L kL S hS' c hc=>by
   have h2:L.row n2=.arr 77 [aB (t+1),aB 0,u,x]:=by rw[kL n2 (by rw[w2];simp),w2]
   have h3:L.row n3=.arr 3 [aB tape]:=by rw[kL n3 (by rw[w3];simp),w3]
   exact i_some2 (aA:=aA) t tape n2 n3 c ht1 ht htape A S u x L h2 (wu.keeps kL) (wx.keeps kL) h3 hok hn hS' hc
  have hkey:∀k l:List Bool,bK 1 (eZ (cF k)) (eZ (cF l))=some (decide (k=l)):=fun k l=>by
   have e:bK 1 (eZ (cF k)) (eZ (cF l))=some (fW (cF k)==fW (cF l)):=rfl
   rw[e]
   congr 1
   rw[Bool.eq_iff_iff,decide_eq_true_iff]
   exact⟨fun h=>bits_inj (qB h),fun h=>by rw[h];exact rL _⟩
  have hg:=yF (aA:=aA) (κ:=List Bool) (fun S=>eZ (cF S)) (fun _=>rfl) hkey (fun _=>rfl) t (by omega) (eR n 0) l 174 175 [.ptr n6 0] [.ptr n2 0,.ptr n3 0] (nxB A t tape) (acB A t tape) (fun S=>S.length=A.y.length)
   (by rw[lU,hnn]) (fun S hS' c hc=>wU _ _ _ _ _) (by omega) (by omega) K4 hfa hfn
  have el:aB l=.int .i64 1000:=by rw[hl];rfl
  rw[el] at hg
  refine hg.step fun r K5 k5 hr=>?_
  have hr:dA aA K4 t l (aZ0 l t tape A) r K5:=by
   unfold aZ0
   rw[←hnn]
   exact hr
  obtain⟨m,b,K7,rfl,g7,r7,kk,hrel⟩:=grow_end (aA:=aA) o4 (i:=4) (n2:=n4) rfl rfl k5 hr
  simp[e4,g7,r7]
  rw[hR]
  exact⟨kk,hrel⟩
theorem aD7(T n:Int)(a u x:BV)(H:BH)(ha:a.one=true)(hu:u.one=true)(hx:x.one=true)(hT:-1000≤T∧T≤1000):FnDoes (gam aA) 169 [.agg [.int .i64 T,a,u,x],.int .i64 n] H fun v _=>v=.bool (inB n 0 (T-1)):=by
 refine FnDoes.of (fn:=ir169) rfl ?_
 simp[ir169,ha,hu,hx]
 intro n2 b2 f2
 have o1:=Own.start (aA:=aA) (H:=H) |>.new f2 b2 (s:=.arr 25 [.int .i64 T,a,u,x])
 have r0:=aD (o1.at 0 (b:=n2) rfl) (rt:=none) (j:=0) (c:=.int .i64 T) rfl rfl
 have ws:IntKind.i64.wrap (T-1)=T-1:=w64 (by omega) (by omega)
 simp[aC f2 b2,r0,ws]
 refine aN (lG n 0 (T-1) _) ?_
 simp
 exact o1.keeps
theorem aP6(t s tape:Nat)(ht1:1≤t)(ht:t+1≤3)(htape:tape≤t)(A:Aut)(m:BV)(H:BH)(hA:RdRel H (t+1) s A m)(hok:A.Ok (wd (t+1)))(hs:s<A.y.length)(hn:A.y.length≤150):FnDoes (gam aA) 112 [m,aB tape] H fun v _=>v=aB 0:=by
 refine FnDoes.of (fn:=ir112) rfl ?_
 have g1:=hA
 obtain⟨u,x,rfl,hu,hx⟩:=hA
 have u1:=hu.one
 have x1:=aF hx.isSl
 obtain⟨T,hT⟩:∃T,T=t+1:=⟨_,rfl⟩
 rw[←hT] at g1 hok ⊢
 simp[ir112,u1,x1]
 intro n2 b2 f2
 have o1:=Own.start (aA:=aA) (H:=H) |>.new f2 b2 (s:=.arr 25 [aB T,aB s,u,x])
 have r2:=aI (o1.at 0 (b:=n2) rfl) (n:=4) (rt:=none) rfl rfl
 simp[aC f2 b2,r2]
 refine(lQ (aA:=aA) T s _ _ _ _ (g1.keeps o1.keeps).raw (by omega)).step fun v K1 k1 hv=>?_
 rw[bP (by omega) (by omega) hok hs hn] at hv
 subst hv
 have o2:=o1.call k1
 have r2:=aI (o2.at 0 (b:=n2) rfl) (n:=4) (rt:=none) rfl rfl
 simp[r2]
 refine(aD7 (aA:=aA) T tape (aB s) u x _ rfl u1 x1 (by omega)).step fun v K2 k2 hv=>?_
 have hin:inB tape 0 ((T:Int)-1)=true:=by simp[inB];omega
 rw[hin] at hv
 subst hv
 have r0:=aD ((o2.call k2).at 0 (b:=n2) rfl) (rt:=none) (j:=0) (c:=aB T) rfl rfl
 have hT1:((T:Int)==1)=false:=by simp;omega
 simp[r0,hT1]
 exact(o2.call k2).keeps
theorem yJ{l t tape s:Nat}(ht:t+1≤3){A:Aut}:GoodC t (iW l t tape A):=by
 unfold iW
 split
 ·exact .none _ _ (by omega)
 ·next h =>
  obtain⟨h1,h2⟩:=aB2 (l:=l) (t:=t) (tape:=tape) (A:=A) (by omega)
  have h3:=(aY (by omega) h1 (s:=0) h1.pos).1
  rw[h2] at h3
  exact .told h3.ok
theorem aV7(l:Nat)(hl:l=1000)(t s tape:Nat)(ht1:1≤t)(ht:t+1≤3)(htape:tape≤t)(A:Aut)(m:BV)(H:BH)(hA:RdRel H (t+1) s A m)(hok:A.Ok (wd (t+1)))(hs:s<A.y.length)(hn:A.y.length≤150):FnDoes (gam aA) 70 [m,aB tape] H fun v K=>RelR aA H t (iW l t tape (TA (t+1) (A.lang s))) v K:=by
 refine FnDoes.hide fun R hR=>?_
 refine FnDoes.of (fn:=ir70) rfl ?_
 have g1:=hA
 obtain⟨u,x,rfl,hu,hx⟩:=hA
 have u1:=hu.one
 have x1:=aF hx.isSl
 obtain⟨hT1,hl1⟩:=aY ht hok hs
 obtain⟨T,hT⟩:∃T,T=t+1:=⟨_,rfl⟩
 have e1:(aB (t+1))=aB T:=by rw[hT]
 rw[e1] at g1 ⊢
 simp[ir70,u1,x1]
 intro n2 b2 f2
 simp[aC f2 b2]
 intro n4 b4 f4
 have o1:=Own.start (aA:=aA) (H:=H) |>.new f2 b2 (s:=.arr 25 [aB T,aB s,u,x]) |>.new f4 b4 (s:=.arr 25 [.int .i64 0,.int .i64 0,.nils,.nils])
 have r2:=aI (o1.at 1 (b:=n2) rfl) (n:=4) (rt:=none) rfl rfl
 simp[aC f4 b4,r2]
 refine(aP6 (aA:=aA) t s tape ht1 ht htape A _ _ (g1.keeps o1.keeps) hok hs hn).step fun v K1 k1 hv=>?_
 subst hv
 have o2:=o1.call k1
 have r2:=aI (o2.at 1 (b:=n2) rfl) (n:=4) (rt:=none) rfl rfl
 simp[r2]
 refine(mO (aA:=aA) (t+1) s ht A _ _ (g1.keeps o2.keeps) hok hs (by omega)).step fun v K2 k2 hv=>?_
 have hv:=hv.rd
 have o3:=o2.call k2
 simp
 refine(i_some (aA:=aA) l hl t tape ht1 ht htape _ v K2 hv hT1.ok (by omega)).step fun r K3 k3 hr=>?_
 have o4:=o3.call k3
 obtain⟨B,hB⟩:∃B,B=aZ0 l t tape (TA (t+1) (A.lang s)):=⟨_,rfl⟩
 have hsN:iW l t tape (TA (t+1) (A.lang s))=if l<B.y.length then(none,3) else told (TA t (B.lang 0)):=by
  unfold iW
  rw[←hB]
  split
  ·rfl
  ·next h=>rw[hB,(aB2 (by rw[←hB];omega)).2]
 rw[hsN] at hR
 rw[←hB] at hr
 unfold dA at hr
 by_cases hbig:l<B.y.length
 ·rw[if_pos ⟨by omega,hbig⟩] at hr
  subst hr
  simp
  intro n7 b7 f7
  have o5:=o4.new f7 b7 (s:=.arr 77 [.int .i64 0,.int .i64 0,.nils,.nils])
  obtain⟨K4,g4,o6⟩:=o5.putAll 0 (b:=n7) rfl (n:=4) (ds:=[aB 0,aB 0,.nils,.nils]) rfl rfl rfl (rt:=none) rfl
  obtain⟨m,K8,e8,g8,r8,kk,hrel⟩:=aW (aA:=aA) (t:=t) (r:=(none,3)) (o6.sub (M:=[(some n4,.arr 25 [.int .i64 0,.int .i64 0,.nils,.nils]),(some n2,.arr 25 [aB T,aB s,u,x])]) (.cons _ (List.Sublist.refl _))) (i:=0) (n2:=n4) rfl rfl (BH.Keeps.refl _) rfl
  cases e8
  have g8':K4.wr aA none 4 (.ptr n4 0) (.agg [.int .i64 0,.int .i64 0,.nils,.nils])=some K8:=g8
  simp[aC f7 b7,g4,g8',r8]
  rw[hR,if_pos hbig]
  exact⟨kk,hrel⟩
 ·rw[if_neg (fun h=>hbig h.2)] at hr
  obtain⟨m,rfl,hm⟩:=hr
  have hm:=hm.rd
  obtain⟨mu,mx,rfl,hmu,hmx⟩:=id hm
  have mu1:=hmu.one
  have mx1:=aF hmx.isSl
  have hBok:B.Ok (wd t):=by rw[hB];exact(aB2 (by rw[←hB];omega)).1
  simp[mu1,mx1]
  intro n7 b7 f7
  obtain⟨K4,g4,o6⟩:=(o4.new f7 b7 (s:=.arr 77 [.int .i64 0,.int .i64 0,.nils,.nils])).putAll 0 (b:=n7) rfl (n:=4) (ds:=[aB t,aB 0,mu,mx]) rfl rfl (by simp[mu1,mx1]) (rt:=none) rfl
  have o6':=(Own.start (aA:=aA) (H:=K3) |>.new f7 b7 (s:=.arr 77 [.int .i64 0,.int .i64 0,.nils,.nils])).putAll 0 (b:=n7) rfl (n:=4) (ds:=[aB t,aB 0,mu,mx]) rfl rfl (by simp[mu1,mx1]) (rt:=none) rfl
  obtain⟨K4',g4',o7⟩:=o6'
  have ek:K4'=K4:=by rw[g4] at g4';exact(Option.some.inj g4').symm
  subst ek
  have r7:=aI (o7.at 0 (b:=n7) rfl) (n:=4) (rt:=none) rfl rfl
  simp[aC f7 b7,g4,r7]
  refine(qQ (aA:=aA) t 0 (by omega) B _ K4' (hm.keeps o7.keeps) hBok hBok.pos (by omega)).step fun r K5 k5 hr=>?_
  obtain⟨m,K8,rfl,g8,r8,kk,hrel⟩:=aW (aA:=aA) (o4.call (o7.keeps)) (i:=0) (n2:=n4) rfl rfl k5 hr
  simp[g8,r8]
  rw[hR,if_neg hbig]
  exact⟨kk,hrel⟩
def sP(c tape d i:Nat):Nat:=if i≤tape then cL (digs i c)+d*p3 tape else cL ((digs (i-1) c).insertIdx tape d)
def atW(tape i:Nat):Nat:=if i≤tape then i else i-1
theorem bB0{xs:List Nat}{x:Nat}:xs.insertIdx xs.length x=xs++[x]:=by
 rw[gR _ _ _ (Nat.le_refl _)]
 simp
theorem aO9{xs:List Nat}{x y i:Nat}(h:i≤xs.length):(xs++[y]).insertIdx i x=xs.insertIdx i x++[y]:=by
 rw[gR _ _ _ (by simp;omega),gR _ _ _ h,List.take_append_of_le_length h,List.drop_append_of_le_length h]
 simp
theorem bA2(c tape d:Nat):sP c tape d (tape+1)=sP c tape d tape:=by
 unfold sP
 rw[if_neg (by omega),if_pos (Nat.le_refl _),Nat.add_sub_cancel]
 have:=bB0 (xs:=digs tape c) (x:=d)
 rw[aO] at this
 rw[this,tD,aO]
theorem bA1{c tape d i:Nat}(h:i≠tape):sP c tape d (i+1)=sP c tape d i+dg c (atW tape i)*p3 i:=by
 unfold sP atW
 by_cases h1:i<tape
 ·rw[if_pos (by omega),if_pos (by omega),if_pos (by omega),qA,tD,aO]
  omega
 ·rw[if_neg (by omega),if_neg (by omega),if_neg (by omega),Nat.add_sub_cancel]
  obtain⟨j,rfl⟩:∃j,i=j+1:=⟨i-1,by omega⟩
  rw[Nat.add_sub_cancel,qA,aO9 (by rw[aO];omega),tD,List.length_insertIdx,aO,if_pos (by omega)]
theorem partW_lt{c tape d i:Nat}(hd:d<3)(ht:tape≤2)(hi:i≤3):sP c tape d i<100:=by
 unfold sP
 have hp:p3 tape≤9:=Nat.pow_le_pow_right (by omega) ht
 split
 ·have h1:=rY (xO i c)
  rw[aO] at h1
  have h2:p3 i≤27:=Nat.pow_le_pow_right (by omega) hi
  have h3:d*p3 tape≤2*9:=Nat.mul_le_mul (by omega) hp
  omega
 ·have h1:=rY (ins_3 (t:=i-1) (tape:=tape) (c:=c) (d:=d) (by omega) hd)
  rw[ins_len (by omega)] at h1
  have h2:p3 (i-1+1)≤27:=Nat.pow_le_pow_right (by omega) (show i-1+1≤3 by omega)
  omega
theorem s_with(c t tape d:Nat)(H:BH)(ht:t≤2)(hc:c<1000000)(htape:tape≤t)(hd:d<3):Runs (gam aA) 242 [aB c,aB (t+1),aB tape,aB d] H (aB (bZ t tape c d)) H:=by
 refine aV (fn:=ir242) rfl ?_
 obtain⟨T,hT⟩:∃T,T=t+1:=⟨_,rfl⟩
 rw[←hT]
 simp[ir242]
 refine aN (wI (aA:=aA) tape H (by omega)) ?_
 have hp:p3 tape≤9:=Nat.pow_le_pow_right (by omega) (show tape≤2 by omega)
 have hdp:d*p3 tape≤2*9:=Nat.mul_le_mul (by omega) hp
 have wm:IntKind.i64.wrap ((d:Int)*(p3 tape:Int))=((d*p3 tape:Nat):Int):=by
  have:(d:Int)*(p3 tape:Int)=((d*p3 tape:Nat):Int):=by simp
  rw[this]
  exact wN (by omega)
 have h0:sP c tape d 0=d*p3 tape:=by unfold sP;rw[if_pos (Nat.zero_le _)];simp[digs,cL]
 simp[wm]
 refine aE T [(0,aB c),(1,aB T),(2,aB tape)] (fun i e K=>e 11=aB i∧e 9=aB (sP c tape d i)∧e 10=aB (atW tape i)∧K=H) (i0:=0) rfl ?_ ?_ (Nat.zero_le _) ?_
 ·simp
 ·simp[h0,atW]
 rintro i e K hi ⟨e0,e1,e2,-⟩ ⟨e11,e9,e10,rfl⟩
 simp only[] at e0 e1 e2
 have wi:=wS (n:=i) (by omega)
 by_cases hlt:i<T
 ·by_cases heq:i=tape
  ·have heb:((i:Int) != (tape:Int))=false:=by simp[heq]
   have h1:=bA2 c tape d
   have h2:atW tape (tape+1)=atW tape tape:=by unfold atW;rw[if_neg (by omega),if_pos (Nat.le_refl _)];omega
   subst heq
   simp[e1,e2,e9,e10,e11,hlt,wi,h1,h2]
  ·have heb:((i:Int) != (tape:Int))=true:=by simp;omega
   have hne:¬(i:Int)=(tape:Int):=by omega
   have h1:=bA1 (c:=c) (d:=d) heq
   have h2:atW tape (i+1)=atW tape i+1:=by unfold atW;split<;>split<;>omega
   have hl:=partW_lt (c:=c) (tape:=tape) (d:=d) (i:=i) hd (by omega) (by omega)
   have ha2:atW tape i≤3:=by unfold atW;split<;>omega
   obtain⟨k,hk⟩:∃k,k=atW tape i:=⟨_,rfl⟩
   rw[←hk] at e10 h1 h2 ha2
   obtain⟨X,hX⟩:∃X,X=sP c tape d i:=⟨_,rfl⟩
   rw[←hX] at e9 h1 hl
   obtain⟨a,ha⟩:∃a,a=dg c k:=⟨_,rfl⟩
   have ha3:a≤2:=by have:=vF c k;omega
   obtain⟨b,hb⟩:∃b,b=p3 i:=⟨_,rfl⟩
   have hb27:b≤27:=by rw[hb];exact Nat.pow_le_pow_right (by omega) (show i≤3 by omega)
   have hab:a*b≤54:=Nat.le_trans (Nat.mul_le_mul ha3 hb27) (by decide)
   rw[←ha,←hb] at h1
   have wab:IntKind.i64.wrap ((a:Int)*(b:Int))=(a:Int)*(b:Int):=by
    have:(a:Int)*(b:Int)=((a*b:Nat):Int):=by simp
    rw[this]
    exact w64 (by omega) (by omega)
   have wa:IntKind.i64.wrap ((X:Int)+(a:Int)*(b:Int))=(X:Int)+(a:Int)*(b:Int):=by
    have:(X:Int)+(a:Int)*(b:Int)=((X+a*b:Nat):Int):=by simp
    rw[this]
    exact w64 (by omega) (by omega)
   have wk:=wS (n:=k) (by omega)
   have hdg:=tR (aA:=aA) c k K (by omega) hc
   rw[←ha] at hdg
   have hpw:=wI (aA:=aA) i K (by omega)
   rw[←hb] at hpw
   simp[e0,e1,e2,e9,e10,e11,hlt,hne,heq]
   refine aN hdg ?_
   simp[e11]
   refine aN hpw ?_
   simp[wab,wa,e9,e10,e11,wk,wi,hlt]
   rw[h1,h2]
   simp
 ·have hie:i=T:=by omega
  subst hie
  have hf:sP c tape d i=bZ t tape c d:=by
   rw[hT]
   unfold sP bZ
   rw[if_neg (by omega),Nat.add_sub_cancel]
  simp[e1,e9,e11,hf]
theorem s_Same(xs ys:List Nat)(v w:BV)(H:BH)(hv:Rd H 2 v (xs.map aB))(hw:Rd H 2 w (ys.map aB))(hx:xs.length≤1000000)(hy:ys.length≤1000000):Runs (gam aA) 55 [v,w] H (.bool (decide (xs=ys))) H:=by
 refine aV (fn:=ir55) rfl ?_
 have hvl:=hv.lenM
 have hwl:=hw.lenM
 by_cases hl:xs.length=ys.length
 ·have hl1:((xs.length:Int) != (ys.length:Int))=false:=by simp[hl]
  simp[ir55,hv.isSl,hvl,hw.isSl,hwl,hl]
  refine aE ys.length [(0,v),(1,w)] (fun i e K=>e 5=aB i∧xs.take i=ys.take i∧K=H) (i0:=0) rfl ?_ ?_ (Nat.zero_le _) ?_
  ·simp
  ·simp
  rintro i e K hi ⟨e0,e1,-⟩ ⟨e5,htk,rfl⟩
  simp only[] at e0 e1
  have wi:=wS (n:=i) (by omega)
  by_cases hlt:i<ys.length
  ·have hlx:i<xs.length:=by omega
   have gx:=hv.at (i:=i) (by simpa using hlx) (rt:=none) rfl
   have gx':K.rd none none (v.sat i 1)=some (aB xs[i]):=by simpa using gx
   have gy:=hw.at (i:=i) (by simpa using hlt) (rt:=none) rfl
   have gy':K.rd none none (w.sat i 1)=some (aB ys[i]):=by simpa using gy
   by_cases he:xs[i]=ys[i]
   ·simp[e0,e1,e5,hv.isSl,hvl,hw.isSl,hwl,hl,hlt,gx',gy',he,wi]
    rw[List.take_add_one,List.take_add_one,List.getElem?_eq_getElem hlx,List.getElem?_eq_getElem hlt,he,htk]
   ·have he':¬((xs[i]:Nat):Int)=((ys[i]:Nat):Int):=by omega
    have hne:¬xs=ys:=fun e=>he (by subst e;rfl)
    simp[e0,e1,e5,hv.isSl,hvl,hw.isSl,hwl,hl,hlt,gx',gy',he,he',hne]
  ·have hie:i=ys.length:=by omega
   subst hie
   have he:xs=ys:=by
    have h1:=htk
    rw[List.take_length,←hl,List.take_length] at h1
    exact h1
   simp[e0,e5,hv.isSl,hvl,hl,he]
 ·have hl1:((xs.length:Int) != (ys.length:Int))=true:=by simp;omega
  have hl2:¬(xs.length:Int)=(ys.length:Int):=by omega
  have hne:¬xs=ys:=fun e=>hl (by rw[e])
  simp[ir55,hv.isSl,hvl,hw.isSl,hwl,hl,hl2,hne]
def sC(M:List Bool)(i:Nat):List Nat:=(List.range i).filter fun q=>M.getD q false
def cU(M:List Bool):List Nat:=sC M M.length
theorem mem_setL{M:List Bool}{q:Nat}:q∈cU M↔q<M.length∧M.getD q false=true:=by simp[cU,sC]
theorem aY8(M:List Bool)(i:Nat):sC M (i+1)=sC M i++if M.getD i false=true then [i] else []:=by
 unfold sC
 rw[List.range_succ,List.filter_append]
 congr 1
 rw[List.filter_cons,List.filter_nil]
theorem aG5(M:List Bool)(i:Nat):(sC M i).length≤i:=by
 have:=List.length_filter_le (fun q=>M.getD q false) (List.range i)
 simpa[sC] using this
theorem vH(M:List Bool):(cU M).length≤M.length:=aG5 M _
theorem aY7(M:List Bool):(cU M).Nodup:=List.nodup_range.sublist List.filter_sublist
theorem setL_lt{M:List Bool}:∀q∈cU M,q<M.length:=fun q hq=>(mem_setL.1 hq).1
theorem setL_inj{S T:List Bool}(hl:S.length=T.length)(h:cU S=cU T):S=T:=by
 apply List.ext_getElem hl
 intro q h1 h2
 have hS:S.getD q false=S[q]:=by rw[List.getD_eq_getElem?_getD,List.getElem?_eq_getElem h1];rfl
 have hT:T.getD q false=T[q]:=by rw[List.getD_eq_getElem?_getD,List.getElem?_eq_getElem h2];rfl
 have hm:q∈cU S↔q∈cU T:=by rw[h]
 rw[mem_setL,mem_setL,hS,hT] at hm
 rw[Bool.eq_iff_iff]
 constructor
 ·intro h;exact(hm.1 ⟨h1,h⟩).2
 ·intro h;exact(hm.2 ⟨h2,h⟩).2
def aF3(A:Aut)(t tape:Nat)(ks:List Nat)(c d i:Nat):List Bool:=(List.range A.y.length).map fun p =>
 (ks.any fun q=>(List.range d).any fun d'=>decide (A.to q (bZ t tape c d')=p))||(ks.take i).any fun q=>decide (A.to q (bZ t tape c d)=p)
theorem vJ(A:Aut)(t tape:Nat)(ks:List Nat)(c d i:Nat):(aF3 A t tape ks c d i).length=A.y.length:=by simp[aF3]
theorem mrkK_zero(A:Aut)(t tape:Nat)(ks:List Nat)(c:Nat):aF3 A t tape ks c 0 0=List.replicate A.y.length false:=by
 unfold aF3
 rw[List.eq_replicate_iff]
 refine⟨by simp,fun b hb=>?_⟩
 obtain⟨p,_,rfl⟩:=List.mem_map.1 hb
 simp
theorem aI5(A:Aut)(t tape:Nat)(ks:List Nat)(c d:Nat):aF3 A t tape ks c d ks.length=aF3 A t tape ks c (d+1) 0:=by
 unfold aF3
 refine List.map_congr_left fun p _=>?_
 rw[Bool.eq_iff_iff]
 simp only[Bool.or_eq_true,List.any_eq_true,List.mem_range,decide_eq_true_iff,List.take_length,List.take_zero,List.any_nil,Bool.false_eq_true,or_false]
 constructor
 ·rintro(⟨q,hq,d',hd,h2⟩|⟨q,hq,h2⟩)
  ·exact⟨q,hq,d',by omega,h2⟩
  ·exact⟨q,hq,d,by omega,h2⟩
 ·rintro⟨q,hq,d',hd,h2⟩
  by_cases h:d'=d
  ·subst h
   exact .inr ⟨q,hq,h2⟩
  ·exact .inl ⟨q,hq,d',by omega,h2⟩
theorem mrkK_all{A:Aut}{t tape c:Nat}{S:List Bool}(hS:S.length=A.y.length):aF3 A t tape (cU S) c 3 0=nxB A t tape S c:=by
 unfold aF3 nxB
 refine List.map_congr_left fun p _=>?_
 rw[Bool.eq_iff_iff]
 simp only[Bool.or_eq_true,List.any_eq_true,List.mem_range,decide_eq_true_iff,List.take_zero,List.any_nil,Bool.false_eq_true,or_false,Bool.and_eq_true]
 constructor
 ·rintro⟨q,hq,h⟩
  obtain⟨h1,h2⟩:=mem_setL.1 hq
  exact⟨q,by omega,h2,h⟩
 ·rintro⟨q,hq,h1,h⟩
  exact⟨q,mem_setL.2 ⟨by omega,h1⟩,h⟩
theorem aU4{A:Aut}{t tape:Nat}{ks:List Nat}{c d i:Nat}(h:i<ks.length):(aF3 A t tape ks c d i).set (A.to ks[i] (bZ t tape c d)) true=aF3 A t tape ks c d (i+1):=by
 apply List.ext_getElem?
 intro p
 by_cases hp:p<A.y.length
 ·rw[List.getElem?_set]
  unfold aF3
  rw[List.getElem?_map,List.getElem?_map,List.getElem?_range hp,List.take_add_one,List.getElem?_eq_getElem h]
  simp only[Option.map_some,Option.toList_some,List.any_append,List.any_cons,List.any_nil,Bool.or_false]
  by_cases e:A.to ks[i] (bZ t tape c d)=p
  ·rw[if_pos e,if_pos (by rw[e];simpa using hp)]
   simp[e]
  ·rw[if_neg e]
   simp[e]
 ·rw[List.getElem?_eq_none (by rw[List.length_set,vJ];omega),List.getElem?_eq_none (by rw[vJ];omega)]
theorem s_Some(t tape rb c:Nat)(ht1:1≤t)(ht:t+1≤3)(htape:tape≤t)(A:Aut)(S:List Bool)(v:BV)(H:BH)(hA:RdP H rb (t+1) 0 A)(hok:A.Ok (wd (t+1)))(hn:A.y.length≤1000000)(hS:S.length=A.y.length)(hc:c<wd t)(hv:Rd H 2 v ((cU S).map aB)):FnDoes (gam aA) 216 [.ptr rb 0,v,aB c,aB tape,.bool true] H fun r K=>∃bo,OwnV aA K 2 r ((cU (nxB A t tape S c)).map aB) bo∧Fr H bo:=by
 refine FnDoes.hide fun R hR=>?_
 refine FnDoes.of (fn:=ir216) rfl ?_
 obtain⟨u,x,hr,hu,hx⟩:=hA
 obtain⟨n,hnn⟩:∃n,n=A.y.length:=⟨_,rfl⟩
 have hul:=hu.lenM
 rw[←hnn] at hul
 obtain⟨ks,hks⟩:∃ks,ks=cU S:=⟨_,rfl⟩
 rw[←hks] at hv
 have hvl:=hv.lenM
 have hkl:ks.length≤n:=by have:=vH S;rw[hks];omega
 have hkn:∀q∈ks,q<n:=fun q hq=>by rw[hks] at hq;have:=setL_lt q hq;omega
 have hxl:=hx.len
 rw[hok.len,←hnn] at hxl
 have c1:(n:Int)≤140737488355328:=by omega
 have hwd:=eQ (t:=t) (by omega)
 have r2:=aD hr (rt:=none) (j:=2) (c:=u) rfl rfl
 have r0:=aD hr (rt:=none) (j:=0) (c:=aB (t+1)) rfl rfl
 have r3:=aD hr (rt:=none) (j:=3) (c:=x) rfl rfl
 simp[ir216,r2,hu.isSl,hul,c1]
 intro n11 b11 f11
 have o1:=Own.start (aA:=aA) (H:=H) |>.new f11 b11 (s:=.arr 4 (List.replicate n (.bool false)))
 simp[aC f11 b11]
 obtain⟨I,hI⟩:∃I:Nat→Env→BH→Prop,I=(fun d e K=>e 12=aB d∧Own aA H K [(some n11,.arr 4 ((aF3 A t tape ks c d 0).map aK))]):=⟨_,rfl⟩
 refine aE 3 [(0,.ptr rb 0),(1,v),(2,aB c),(3,aB tape),(4,.bool true),(11,.sl n11 0 n)] I (i0:=0) rfl ?_ ?_ (Nat.zero_le _) ?_
 ·simp
 ·rw[hI]
  refine⟨by simp,?_⟩
  rw[mrkK_zero,←hnn]
  simpa using o1
 clear o1
 rintro d e K hdd ⟨e0,e1,e2,e3,e4,e11,-⟩ hh
 rw[hI] at hh
 obtain⟨e12,o⟩:=hh
 simp only[] at e0 e1 e2 e3 e4 e11
 have wdd:=wS (n:=d) (by omega)
 by_cases hd3:d<3
 ·have hd3':((d:Nat):Int)<3:=by omega
  have r0':=aJ o.keeps r0
  obtain⟨col,hcol⟩:∃col,col=bZ t tape c d:=⟨_,rfl⟩
  have hcl:col<wd (t+1):=by rw[hcol];exact mG htape hd3 (.inr hc)
  have hsw:=s_with (aA:=aA) c t tape d K (by omega) (by omega) htape hd3
  rw[←hcol] at hsw
  have hd2:(((d:Nat):Int)==2)=true∨(((d:Nat):Int)==2)=false:=by cases (((d:Nat):Int)==2)<;>simp
  obtain⟨J,hJ⟩:∃J:Nat→Env→BH→Prop,J=(fun q e K=>e 14=aB q∧Own aA H K [(some n11,.arr 4 ((aF3 A t tape ks c d q).map aK))]):=⟨_,rfl⟩
  rcases hd2 with hd2|hd2
  ·simp[e0,e1,e2,e3,e4,e12,hd3,hd3',hd2,r0']
   refine aN hsw ?_
   simp
   refine aE ks.length [(0,.ptr rb 0),(1,v),(2,aB c),(3,aB tape),(4,.bool true),(11,.sl n11 0 n),(12,aB d),(13,aB col)] J (i0:=0) rfl ?_ ?_ (Nat.zero_le _) ?_
   ·simp[e0,e1,e2,e3,e4,e11,e12]
   ·rw[hJ]
    exact⟨by simp,o⟩
   clear o e0 e1 e2 e3 e4 e11 e12 r0' hsw
   rintro q e K hq ⟨e0,e1,e2,e3,e4,e11,e12,e13,-⟩ hh
   rw[hJ] at hh
   obtain⟨e14,o⟩:=hh
   simp only[] at e0 e1 e2 e3 e4 e11 e12 e13
   have wq:=wS (n:=q) (by omega)
   by_cases hlt:q<ks.length
   ·have hkq:=hkn _ (List.getElem_mem hlt)
    have gk:=(hv.keeps o.keeps).at (i:=q) (by simpa using hlt) (rt:=none) rfl
    have gk':K.rd none none (v.sat q 1)=some (aB ks[q]):=by simpa using gk
    obtain⟨k,hk⟩:∃k,k=ks[q]:=⟨_,rfl⟩
    rw[←hk] at gk' hkq
    have hqN:k<A.nxt.length:=by rw[hok.len];omega
    obtain⟨uw,q1,q2⟩:=hx.at hqN
    have q2:=aJ o.keeps (q2 none rfl)
    have r3':=aJ o.keeps r3
    have hrl:(A.nxt[k]).length=wd (t+1):=(hok.row _ (List.getElem_mem hqN)).1
    have gc:=(q1.keeps o.keeps).at (i:=col) (by rw[hrl];exact hcl) (rt:=none) rfl
    have hto:A.nxt[k][col]'(by rw[hrl];exact hcl)=A.to k col:=rF hok hqN (by rw[hrl];exact hcl)
    have gc':K.rd none none (uw.sat col 1)=some (aB (A.to k col)):=by simpa[hto] using gc
    have htl:A.to k col<n:=by rw[hnn];exact aA9 hok (by omega) hcl
    have hcw:col<uw.slen:=by rw[q1.lenM,hrl];exact hcl
    obtain⟨K5,g5,o5⟩:=o.put 0 (b:=n11) rfl (j:=A.to k col) (u:=.bool true) (by rw[List.length_map,vJ];omega) rfl (rt:=none) rfl
    have hxk:k<x.slen:=by omega
    simp[e0,e1,e11,e13,e14,hv.isSl,hvl,hlt,gk',r3',hx.isSl,hxk,q2,q1.isSl,hcw,gc',htl,g5,wq]
    rw[hJ]
    refine⟨by simp,?_⟩
    have e:((aF3 A t tape ks c d q).map aK).set (A.to k col) (.bool true)=(aF3 A t tape ks c d (q+1)).map aK:=by
     rw[←aU4 hlt,List.map_set,hcol,hk]
    rw[←e]
    exact o5
   ·have hqn:q=ks.length:=by omega
    subst hqn
    rw[aI5] at o
    simp[e1,e12,e14,hv.isSl,hvl,wdd,hd3]
    rw[hI]
    exact⟨by simp,o⟩
  ·simp[e0,e1,e2,e3,e4,e12,hd3,hd3',hd2,r0']
   refine aN hsw ?_
   simp
   refine aE ks.length [(0,.ptr rb 0),(1,v),(2,aB c),(3,aB tape),(4,.bool true),(11,.sl n11 0 n),(12,aB d),(13,aB col)] J (i0:=0) rfl ?_ ?_ (Nat.zero_le _) ?_
   ·simp[e0,e1,e2,e3,e4,e11,e12]
   ·rw[hJ]
    exact⟨by simp,o⟩
   clear o e0 e1 e2 e3 e4 e11 e12 r0' hsw
   rintro q e K hq ⟨e0,e1,e2,e3,e4,e11,e12,e13,-⟩ hh
   rw[hJ] at hh
   obtain⟨e14,o⟩:=hh
   simp only[] at e0 e1 e2 e3 e4 e11 e12 e13
   have wq:=wS (n:=q) (by omega)
   by_cases hlt:q<ks.length
   ·have hkq:=hkn _ (List.getElem_mem hlt)
    have gk:=(hv.keeps o.keeps).at (i:=q) (by simpa using hlt) (rt:=none) rfl
    have gk':K.rd none none (v.sat q 1)=some (aB ks[q]):=by simpa using gk
    obtain⟨k,hk⟩:∃k,k=ks[q]:=⟨_,rfl⟩
    rw[←hk] at gk' hkq
    have hqN:k<A.nxt.length:=by rw[hok.len];omega
    obtain⟨uw,q1,q2⟩:=hx.at hqN
    have q2:=aJ o.keeps (q2 none rfl)
    have r3':=aJ o.keeps r3
    have hrl:(A.nxt[k]).length=wd (t+1):=(hok.row _ (List.getElem_mem hqN)).1
    have gc:=(q1.keeps o.keeps).at (i:=col) (by rw[hrl];exact hcl) (rt:=none) rfl
    have hto:A.nxt[k][col]'(by rw[hrl];exact hcl)=A.to k col:=rF hok hqN (by rw[hrl];exact hcl)
    have gc':K.rd none none (uw.sat col 1)=some (aB (A.to k col)):=by simpa[hto] using gc
    have htl:A.to k col<n:=by rw[hnn];exact aA9 hok (by omega) hcl
    have hcw:col<uw.slen:=by rw[q1.lenM,hrl];exact hcl
    obtain⟨K5,g5,o5⟩:=o.put 0 (b:=n11) rfl (j:=A.to k col) (u:=.bool true) (by rw[List.length_map,vJ];omega) rfl (rt:=none) rfl
    have hxk:k<x.slen:=by omega
    simp[e0,e1,e11,e13,e14,hv.isSl,hvl,hlt,gk',r3',hx.isSl,hxk,q2,q1.isSl,hcw,gc',htl,g5,wq]
    rw[hJ]
    refine⟨by simp,?_⟩
    have e:((aF3 A t tape ks c d q).map aK).set (A.to k col) (.bool true)=(aF3 A t tape ks c d (q+1)).map aK:=by
     rw[←aU4 hlt,List.map_set,hcol,hk]
    rw[←e]
    exact o5
   ·have hqn:q=ks.length:=by omega
    subst hqn
    rw[aI5] at o
    simp[e1,e12,e14,hv.isSl,hvl,wdd,hd3]
    rw[hI]
    exact⟨by simp,o⟩
 ·have hde:d=3:=by omega
  subst hde
  rw[hks,mrkK_all hS] at o
  obtain⟨M,hM⟩:∃M,M=nxB A t tape S c:=⟨_,rfl⟩
  have hMl:M.length=n:=by rw[hM,wU,hnn]
  rw[←hM] at o hR
  simp[e12]
  intro n15 b15 f15
  have o2:=o.new f15 b15 (s:=.arr 2 [])
  simp[aC f15 b15]
  obtain⟨J,hJ⟩:∃J:Nat→Env→BH→Prop,J=(fun q e K=>e 16=aB q∧∃y bo,e 15=y∧Own aA H K [(bo,.arr 2 ((sC M q).map aB)),(some n11,.arr 4 (M.map aK))]∧Vec bo y (sC M q).length):=⟨_,rfl⟩
  refine aE n [(11,.sl n11 0 n)] J (i0:=0) rfl ?_ ?_ (Nat.zero_le _) ?_
  ·simp[e11]
  ·rw[hJ]
   exact⟨by simp,.sl n15 0 0,some n15,by simp,by simpa[sC] using o2,by simp[sC,Vec]⟩
  clear o o2 e0 e1 e2 e3 e4 e11 e12
  rintro q e K hq ⟨e11,-⟩ hh
  rw[hJ] at hh
  obtain⟨e16,y,bo,e15,o,hy⟩:=hh
  simp only[] at e11
  have wq:=wS (n:=q) (by omega)
  have hlen:=aG5 M q
  have hsu:=aY8 M q
  by_cases hlt:q<n
  ·have hqM:q<M.length:=by omega
   have gM:M.getD q false=M[q]:=by rw[List.getD_eq_getElem?_getD,List.getElem?_eq_getElem hqM];rfl
   have gi:=aD (o.at 1 (b:=n11) rfl) (rt:=none) (j:=q) (c:=aK M[q]) rfl (by rw[List.getElem?_map,List.getElem?_eq_getElem hqM];rfl)
   rw[gM] at hsu
   by_cases hb:M[q]=true
   ·rw[hb] at gi
    rw[if_pos hb] at hsu
    simp[e11,e15,e16,hlt,gi]
    intro n1 b1 f1
    simp[aC f1 b1]
    intro n2 b2 f2
    have hyl:Vec bo y ((sC M q).map aB).length:=by simpa using hy
    obtain⟨y',M',bo',p1,p2,p3⟩:=o.push 0 rfl hyl (x:=aB q) (bytes:=8) rfl (by simp;omega) (by simp;omega) f1 b1 f2 b2
    simp[p1,e16,wq,hlt]
    rw[hJ]
    refine⟨by simp,y',some bo',by simp,?_,by rw[hsu];simpa using p3⟩
    rw[hsu,List.map_append]
    exact p2
   ·have hb:M[q]=false:=by simpa using hb
    rw[hb] at gi
    rw[hb,if_neg (by simp),List.append_nil] at hsu
    simp[e11,e15,e16,hlt,gi,wq]
    rw[hJ]
    exact⟨by simp,y,bo,by simp[e15],by rw[hsu];exact o,by rw[hsu];exact hy⟩
  ·have hqn:q=n:=by omega
   subst hqn
   simp[e11,e15,e16]
   rw[hR]
   have hsm:sC M q=cU M:=by unfold cU;rw[hMl]
   rw[hsm] at o hy
   refine⟨o.keeps,bo,o.vec 0 rfl (by simpa using hy),fun b hb=>by subst hb;exact o.fr 0 rfl⟩
structure EndS(A:Aut)(t tape:Nat)(ks ls:List Nat):Prop where
 nodup:ls.Nodup
 lt:∀q∈ls,q<A.y.length
 sub:∀q∈ks,q∈ls
 back:∀q∈ls,aQ2 A t tape q=true→∃k∈ks,aQ2 A t tape k=true
theorem EndS.len{A:Aut}{t tape:Nat}{ks ls:List Nat}(h:EndS A t tape ks ls):ls.length≤A.y.length:=by
 have:=nodup_le h.nodup (ys:=List.range A.y.length) fun q hq=>List.mem_range.2 (h.lt q hq)
 simpa using this
theorem EndS.push{A:Aut}{t tape:Nat}{ks ls:List Nat}(h:EndS A t tape ks ls){p d:Nat}(hp:p∈ls)(hd:d<2)(hlt:A.to p (bZ t tape (wd t) d)<A.y.length)(hn:A.to p (bZ t tape (wd t) d)∉ls):EndS A t tape ks (ls++[A.to p (bZ t tape (wd t) d)]):=by
 refine⟨?_,fun q hq=>?_,fun q hq=>List.mem_append_left _ (h.sub q hq),fun q hq he=>?_⟩
 ·rw[List.nodup_append]
  refine⟨h.nodup,by simp,fun a ha b hb=>?_⟩
  simp at hb
  subst hb
  rintro rfl
  exact hn ha
 ·rcases List.mem_append.1 hq with hq|hq
  ·exact h.lt q hq
  ·simp at hq
   subst hq
   exact hlt
 ·rcases List.mem_append.1 hq with hq|hq
  ·exact h.back q hq he
  ·simp at hq
   subst hq
   exact h.back p hp (aL0 hd he)
theorem acB_iff{A:Aut}{t tape:Nat}{S:List Bool}(hS:S.length=A.y.length):acB A t tape S=true↔∃k∈cU S,aQ2 A t tape k=true:=by
 unfold acB
 rw[List.any_eq_true]
 constructor
 ·rintro⟨q,hq,h⟩
  rw[Bool.and_eq_true] at h
  exact⟨q,mem_setL.2 ⟨by rw[hS];exact List.mem_range.1 hq,h.1⟩,h.2⟩
 ·rintro⟨q,hq,h⟩
  obtain⟨h1,h2⟩:=mem_setL.1 hq
  exact⟨q,List.mem_range.2 (by omega),by rw[Bool.and_eq_true];exact⟨h2,h⟩⟩
theorem s_Ends(t tape rb:Nat)(ht1:1≤t)(ht:t+1≤3)(htape:tape≤t)(A:Aut)(S:List Bool)(v:BV)(H:BH)(hA:RdP H rb (t+1) 0 A)(hok:A.Ok (wd (t+1)))(hn:A.y.length≤1000000)(hS:S.length=A.y.length)(hv:Rd H 2 v ((cU S).map aB)):FnDoes (gam aA) 217 [.ptr rb 0,v,aB tape] H fun r _=>r=.bool (acB A t tape S):=by
 refine FnDoes.hide fun R hR=>?_
 refine FnDoes.of (fn:=ir217) rfl ?_
 obtain⟨u,x,hr,hu,hx⟩:=hA
 obtain⟨n,hnn⟩:∃n,n=A.y.length:=⟨_,rfl⟩
 have hul:=hu.lenM
 rw[←hnn] at hul
 have hacB:=acB_iff (t:=t) (tape:=tape) hS
 obtain⟨ks,hks⟩:∃ks,ks=cU S:=⟨_,rfl⟩
 rw[←hks] at hv hacB
 have hvl:=hv.lenM
 have hkl:ks.length≤n:=by have:=vH S;rw[hks];omega
 have hkn:∀q∈ks,q<n:=fun q hq=>by rw[hks] at hq;have:=setL_lt q hq;omega
 have hknd:ks.Nodup:=by rw[hks];exact aY7 S
 have hxl:=hx.len
 rw[hok.len,←hnn] at hxl
 have c1:(n:Int)≤140737488355328:=by omega
 have hto:∀q,q<n→∀d,d<2→A.to q (bZ t tape (wd t) d)<n:=fun q hq d hd=>by rw[hnn];exact aA9 hok (by omega) (mG htape (by omega) (.inl hd))
 have r2:=aD hr (rt:=none) (j:=2) (c:=u) rfl rfl
 have r0:=aD hr (rt:=none) (j:=0) (c:=aB (t+1)) rfl rfl
 have r3:=aD hr (rt:=some 25) (j:=3) (c:=x) rfl rfl
 have wt:IntKind.i64.wrap (t:Int)=(t:Int):=wN (by omega)
 simp[ir217,r2,hu.isSl,hul,c1]
 intro n7 b7 f7
 have o1:=Own.start (aA:=aA) (H:=H) |>.new f7 b7 (s:=.arr 4 (List.replicate n (.bool false)))
 simp[aC f7 b7]
 intro n8 b8 f8
 have o2:=o1.new f8 b8 (s:=.arr 2 [])
 simp[aC f8 b8]
 obtain⟨I,hI⟩:∃I:Nat→Env→BH→Prop,I=(fun i e K=>e 9=aB i∧∃y bo,e 8=y∧Own aA H K [(bo,.arr 2 ((ks.take i).map aB)),(some n7,.arr 4 ((iE n (ks.take i)).map aK))]∧Vec bo y i):=⟨_,rfl⟩
 refine aE ks.length [(0,.ptr rb 0),(1,v),(2,aB tape),(7,.sl n7 0 n)] I (i0:=0) rfl ?_ ?_ (Nat.zero_le _) ?_
 ·simp
 ·rw[hI]
  refine⟨by simp,.sl n8 0 0,some n8,by simp,?_,rfl⟩
  have e:(iE n []).map aK=List.replicate n (.bool false):=by
   unfold iE
   rw[List.eq_replicate_iff]
   exact⟨by simp,fun b hb=>by simp at hb;exact hb.2.symm⟩
  rw[List.take_zero,e]
  exact o2
 clear o1 o2
 rintro i e K hi ⟨e0,e1,e2,e7,-⟩ hh
 rw[hI] at hh
 obtain⟨e9,y,bo,e8,o,hy⟩:=hh
 simp only[] at e0 e1 e2 e7
 have wi:=wS (n:=i) (by omega)
 by_cases hlt:i<ks.length
 ·have hkq:=hkn _ (List.getElem_mem hlt)
  have gk:=(hv.keeps o.keeps).at (i:=i) (by simpa using hlt) (rt:=none) rfl
  have gk':K.rd none none (v.sat i 1)=some (aB ks[i]):=by simpa using gk
  obtain⟨K5,g5,o5⟩:=o.put 1 (b:=n7) rfl (j:=ks[i]) (u:=aK true) (by rw[List.length_map,fX];exact hkq) rfl (rt:=none) rfl
  have g5':K.wr aA none 1 (.ptr n7 ks[i]) (.bool true)=some K5:=g5
  have gk5:K5.rd none none (v.sat i 1)=some (aB ks[i]):=by
   have:=(hv.keeps o5.keeps).at (i:=i) (by simpa using hlt) (rt:=none) rfl
   simpa using this
  simp[e1,e7,e8,e9,hv.isSl,hvl,hlt,gk',hkq,g5',gk5]
  intro n1 b1 f1
  simp[aC f1 b1]
  intro n2 b2 f2
  have htl:(ks.take i).length=i:=by simp;omega
  have o5:Own aA H K5 [(bo,.arr 2 ((ks.take i).map aB)),(some n7,.arr 4 (((iE n (ks.take i)).map aK).set ks[i] (aK true)))]:=o5
  obtain⟨y',M',bo',p1,p2,p3⟩:=o5.push 0 rfl (by rw[List.length_map,htl];exact hy) (x:=aB ks[i]) (bytes:=8) rfl (by simp;omega) (by simp;omega) f1 b1 f2 b2
  simp[p1,e9,wi,hlt]
  rw[hI]
  refine⟨by simp,y',some bo',by simp,?_,by rw[List.length_map,htl] at p3;exact p3⟩
  have et:ks.take (i+1)=ks.take i++[ks[i]]:=by rw[List.take_add_one,List.getElem?_eq_getElem hlt];rfl
  have e:((iE n (ks.take i)).map aK).set ks[i] (aK true)=(iE n (ks.take (i+1))).map aK:=by rw[et,←sD hkq,List.map_set]
  rw[e] at p2
  rw[et,List.map_append,←et]
  exact p2
 have hie:i=ks.length:=by omega
 subst hie
 rw[List.take_length] at o
 have r0':=aJ o.keeps r0
 simp only[aB] at r0'
 simp[e0,e1,e9,hv.isSl,hvl,r0',wt]
 refine aN (sF t K (by omega)) ?_
 simp
 obtain⟨J,hJ⟩:∃J:Nat→Env→BH→Prop,J=(fun i e K=>e 11=aB i∧∃ls y bo,e 8=y∧EndS A t tape ks ls∧i≤ls.length∧(∀p∈ls.take i,A.y.getD p false=false∧∀d,d<2→A.to p (bZ t tape (wd t) d)∈ls) ∧
  Own aA H K [(bo,.arr 2 (ls.map aB)),(some n7,.arr 4 ((iE n ls).map aK))]∧Vec bo y ls.length):=⟨_,rfl⟩
 refine aE n [(0,.ptr rb 0),(2,aB tape),(7,.sl n7 0 n),(10,aB (wd t))] J (i0:=0) rfl ?_ ?_ (Nat.zero_le _) ?_
 ·simp[e0,e2,e7]
 ·rw[hJ]
  exact⟨by simp,ks,y,bo,by simp[e8],⟨hknd,fun q hq=>by rw[←hnn];exact hkn q hq,fun q hq=>hq,fun q hq he=>⟨q,hq,he⟩⟩,Nat.zero_le _,fun p hp=>by simp at hp,o,hy⟩
 clear e0 e1 e2 e7 e8 e9 o r0' hy wi
 rintro i e K hi ⟨e0,e2,e7,e10,-⟩ hh
 rw[hJ] at hh
 obtain⟨e11,ls,y,bo,e8,hE,hil,hcl,o,hy⟩:=hh
 simp only[] at e0 e2 e7 e10
 have wi:=wS (n:=i) (by omega)
 have hlsl:=hE.len
 rw[←hnn] at hlsl
 by_cases hlt:i<ls.length
 ·obtain⟨p,hp⟩:∃p,p=ls[i]:=⟨_,rfl⟩
  have hpm:p∈ls:=by rw[hp];exact List.getElem_mem hlt
  have hpn:p<n:=by rw[hnn];exact hE.lt p hpm
  have gi:=(o.rd 0 rfl (v:=y) (by simpa using hy)).at (i:=i) (by simpa using hlt) (rt:=none) rfl
  have gi':K.rd none none (y.sat i 1)=some (aB p):=by simpa[hp] using gi
  have r2':=aJ o.keeps r2
  have ga:=(hu.keeps o.keeps).at (i:=p) (by simpa[hnn] using hpn) (rt:=none) rfl
  have hga:A.y.getD p false=A.y[p]'(by omega):=by rw[List.getD_eq_getElem?_getD,List.getElem?_eq_getElem (by omega)];rfl
  have ga':K.rd none none (u.sat p 1)=some (aK (A.y.getD p false)):=by rw[hga];simpa using ga
  obtain⟨b,hb⟩:∃b,b=A.y.getD p false:=⟨_,rfl⟩
  rw[←hb] at ga'
  rcases Bool.eq_false_or_eq_true b with hbt|hbt
  ·rw[hbt] at ga'
   simp[e0,e8,e11,hy.isSl,hy.len,hlt,gi',r2',hu.isSl,hul,hpn,ga']
   rw[hR]
   refine⟨o.keeps,?_⟩
   have:acB A t tape S=true:=hacB.2 (hE.back p hpm (aW3 (by rw[←hb];exact hbt)))
   rw[this]
  ·rw[hbt] at ga'
   simp[e0,e8,e11,hy.isSl,hy.len,hlt,gi',r2',hu.isSl,hul,hpn,ga']
   obtain⟨M,hM⟩:∃M:Nat→Env→BH→Prop,M=(fun d e K=>e 12=aB d∧∃ls' y bo,e 8=y∧EndS A t tape ks ls'∧ls <+: ls'∧(∀d',d'<d→A.to p (bZ t tape (wd t) d')∈ls') ∧
    Own aA H K [(bo,.arr 2 (ls'.map aB)),(some n7,.arr 4 ((iE n ls').map aK))]∧Vec bo y ls'.length):=⟨_,rfl⟩
   refine aE 2 [(0,.ptr rb 0),(2,aB tape),(7,.sl n7 0 n),(10,aB (wd t)),(11,aB i)] M (i0:=0) rfl ?_ ?_ (Nat.zero_le _) ?_
   ·simp[e0,e2,e7,e10,e11]
   ·rw[hM]
    exact⟨by simp,ls,y,bo,by simp[e8],hE,List.prefix_refl _,fun d' hd'=>by omega,o,hy⟩
   clear e0 e2 e7 e8 e10 e11 o gi gi' r2' ga ga' hy
   rintro d e K hdd ⟨e0,e2,e7,e10,e11,-⟩ hh
   rw[hM] at hh
   obtain⟨e12,ls',y,bo,e8,hE',hpre,hin,o,hy⟩:=hh
   simp only[] at e0 e2 e7 e10 e11
   have wd1:=wS (n:=d) (by omega)
   have hl':=hE'.len
   rw[←hnn] at hl'
   have hll:=hpre.length_le
   have hi':i<ls'.length:=by omega
   have hpi:ls'[i]=p:=by
    obtain⟨r,hr'⟩:=hpre
    have:ls'[i]?=ls[i]?:=by rw[←hr',List.getElem?_append_left hlt]
    rw[List.getElem?_eq_getElem hi',List.getElem?_eq_getElem hlt] at this
    rw[hp]
    exact Option.some.inj this
   have hpm':p∈ls':=by rw[←hpi];exact List.getElem_mem hi'
   by_cases hd2:d<2
   ·have hd2':((d:Nat):Int)<2:=by omega
    obtain⟨col,hcol⟩:∃col,col=bZ t tape (wd t) d:=⟨_,rfl⟩
    have hcw:col<wd (t+1):=by rw[hcol];exact mG htape (by omega) (.inl hd2)
    obtain⟨q,hq⟩:∃q,q=A.to p col:=⟨_,rfl⟩
    have hqn:q<n:=by rw[hq,hcol];exact hto p hpn d hd2
    have gi:=(o.rd 0 rfl (v:=y) (by simpa using hy)).at (i:=i) (by simpa using hi') (rt:=some 2) rfl
    have gi':K.rd (some 2) none (y.sat i 1)=some (aB p):=by simpa[hpi] using gi
    have r3':=aJ o.keeps r3
    have r0':=aJ o.keeps r0
    have hpN:p<A.nxt.length:=by rw[hok.len];omega
    obtain⟨uw,q1,q2⟩:=hx.at hpN
    have q2:=aJ o.keeps (q2 (some 36) rfl)
    have hrl:(A.nxt[p]).length=wd (t+1):=(hok.row _ (List.getElem_mem hpN)).1
    have gc:=(q1.keeps o.keeps).at (i:=col) (by rw[hrl];exact hcw) (rt:=none) rfl
    have hto':A.nxt[p][col]'(by rw[hrl];exact hcw)=A.to p col:=rF hok hpN (by rw[hrl];exact hcw)
    have gc':K.rd none none (uw.sat col 1)=some (aB q):=by rw[hq];simpa[hto'] using gc
    have hcl2:col<uw.slen:=by rw[q1.lenM,hrl];exact hcw
    have hxp:p<x.slen:=by omega
    have hsw:=s_with (aA:=aA) (wd t) t tape d K (by omega) (by have:=eQ (t:=t) (by omega);omega) htape (by omega)
    rw[←hcol] at hsw
    have gs:=aD (o.at 1 (b:=n7) rfl) (rt:=none) (j:=q) (c:=aK (decide (q∈ls'))) rfl (by rw[List.getElem?_map,List.getElem?_eq_getElem (by rw[fX];exact hqn),nU hqn];rfl)
    have hstep:∀ls'':List Nat,(∀z∈ls',z∈ls'')→q∈ls''→∀d',d'<d+1→A.to p (bZ t tape (wd t) d')∈ls'':=fun ls'' hs hq' d' hd'=>by
     by_cases e:d'=d
     ·subst e
      rw[←hcol,←hq]
      exact hq'
     ·exact hs _ (hin d' (by omega))
    simp[e0,e2,e8,e10,e11,e12,hd2,hd2',hy.isSl,hy.len,hi',gi',r3',hx.isSl,hxp,q2,r0']
    refine aN hsw ?_
    by_cases hm:q∈ls'
    ·have gs':K.rd none none (.ptr n7 q)=some (.bool true):=by simpa[hm] using gs
     simp[q1.isSl,hcl2,gc',e7,hqn,gs',e12,wd1,hd2]
     rw[hM]
     exact⟨by simp,ls',y,bo,by simp[e8],hE',hpre,hstep ls' (fun z hz=>hz) hm,o,hy⟩
    ·have gs':K.rd none none (.ptr n7 q)=some (.bool false):=by simpa[hm] using gs
     obtain⟨K5,g5,o5⟩:=o.put 1 (b:=n7) rfl (j:=q) (u:=aK true) (by rw[List.length_map,fX];exact hqn) rfl (rt:=none) rfl
     have g5':K.wr aA none 1 (.ptr n7 q) (.bool true)=some K5:=g5
     simp[q1.isSl,hcl2,gc',e7,hqn,gs',g5',e8]
     intro n1 b1 f1
     simp[aC f1 b1]
     intro n2 b2 f2
     have o5:Own aA H K5 [(bo,.arr 2 (ls'.map aB)),(some n7,.arr 4 (((iE n ls').map aK).set q (aK true)))]:=o5
     obtain⟨y',M',bo',p1,p2,p3⟩:=o5.push 0 rfl (by rw[List.length_map];exact hy) (x:=aB q) (bytes:=8) rfl (by simp;omega) (by simp;omega) f1 b1 f2 b2
     simp[p1,e12,wd1,hd2]
     rw[hM]
     have hpush:=hE'.push hpm' hd2 (by rw[←hcol,←hq,←hnn];exact hqn) (by rw[←hcol,←hq];exact hm)
     rw[←hcol,←hq] at hpush
     refine⟨by simp,ls'++[q],y',some bo',by simp,hpush,hpre.trans (List.prefix_append _ _),hstep _ (fun z hz=>List.mem_append_left _ hz) (by simp),?_,by simpa using p3⟩
     have e:((iE n ls').map aK).set q (aK true)=(iE n (ls'++[q])).map aK:=by rw[←sD hqn,List.map_set]
     rw[e] at p2
     rw[List.map_append]
     exact p2
   ·have hde:d=2:=by omega
    subst hde
    simp[e11,e12,wi]
    have hin':i<n:=by omega
    simp[hin']
    rw[hJ]
    refine⟨by simp,ls',y,bo,by simp[e8],hE',by omega,fun z hz=>?_,o,hy⟩
    have htk:ls'.take (i+1)=ls.take i++[p]:=by
     rw[List.take_add_one,List.getElem?_eq_getElem hi',hpi]
     obtain⟨r,hr'⟩:=hpre
     rw[←hr',List.take_append_of_le_length (by omega)]
     rfl
    rw[htk] at hz
    rcases List.mem_append.1 hz with hz|hz
    ·obtain⟨h1,h2⟩:=hcl z hz
     exact⟨h1,fun d hd=>hpre.subset (h2 d hd)⟩
    ·simp at hz
     subst hz
     exact⟨by rw[←hb];exact hbt,fun d hd=>hin d hd⟩
 ·have hie:i=ls.length:=by omega
  have hlt':¬i<ls.length:=hlt
  simp[e8,e11,hy.isSl,hy.len,hlt']
  rw[hR]
  refine⟨o.keeps,?_⟩
  rw[hie,List.take_length] at hcl
  have hno:acB A t tape S=false:=by
   cases hac:acB A t tape S with
   | false=>rfl
   | true =>
    obtain⟨k,hk,he⟩:=hacB.1 hac
    have:=xN (A:=A) (t:=t) (tape:=tape) (P:=(·∈ls)) (fun q hq=>(hcl q hq).1) (fun q hq d hd=>(hcl q hq).2 d hd) (hE.sub k hk)
    rw[this] at he
    cases he
  rw[hno]
theorem _root_.Go.B.Own.last2{H K:BH}{p:Sl}{F fr gr:List Sl}(o:Own aA H K (p::(F++(fr++gr)))):Own aA H K (F++((fr++[p])++gr)):=o.perm (by
 have h1:(p::(F++(fr++gr))).Perm ((F++fr)++p::gr):=by
  rw[←List.append_assoc]
  exact List.perm_middle.symm
 refine(h1.trans ?_).symm
 simp only[List.append_assoc,List.singleton_append]
 exact List.Perm.refl _)
theorem aA4{κ:Type}[DecidableEq κ]:∀(xs ks:List κ),(eN ks xs).length≤ks.length+xs.length
 | [],ks=>Nat.le_refl _
 | x::xs,ks=>by
  have h1:=aA4 xs (bF ks x)
  have h2:(bF ks x).length≤ks.length+1:=by
   unfold bF
   split
   ·omega
   ·simp
  show (eN (bF ks x) xs).length≤_
  simp only[List.length_cons]
  omega
theorem lsU_len{κ:Type}[DecidableEq κ](ks:List κ)(nx:κ→Nat→κ)(k:κ)(c:Nat):(lsU ks nx k c).length≤ks.length+c:=by
 have:=aA4 ((List.range c).map (nx k)) ks
 unfold lsU
 simpa using this
theorem aY6{n:Nat}(h:0<n):cU (eR n 0)=[0]:=by
 unfold cU sC
 rw[lU]
 have hg:∀q,q<n→(eR n 0).getD q false=decide (q=0):=fun q hq=>by
  unfold eR
  rw[List.getD_eq_getElem?_getD,List.getElem?_map,List.getElem?_range hq]
  rfl
 have e:(List.range n).filter (fun q=>(eR n 0).getD q false)=(List.range n).filter (fun q=>decide (q=0)):=List.filter_congr fun q hq=>hg q (List.mem_range.1 hq)
 rw[e]
 obtain⟨m,rfl⟩:∃m,n=m+1:=⟨n-1,by omega⟩
 rw[List.range_succ_eq_map,List.filter_cons,if_pos (by simp)]
 congr 1
 rw[List.filter_eq_nil_iff]
 intro q hq
 obtain⟨r,_,rfl⟩:=List.mem_map.1 hq
 simp
theorem aG8(l:Nat)(hl:l=1000)(t s tape rb:Nat)(ht1:1≤t)(ht:t+1≤3)(htape:tape≤t)(A:Aut)(H:BH)(hA:RdP H rb (t+1) s A)(hok:A.Ok (wd (t+1)))(hs:s<A.y.length)(hn:A.y.length≤150):FnDoes (gam aA) 180 [.ptr rb 0,aB tape] H fun v K=>RelR aA H t (iW l t tape (TA (t+1) (A.lang s))) v K:=by
 refine FnDoes.hide fun R hR=>?_
 refine FnDoes.of (fn:=ir180) rfl ?_
 obtain⟨hT1,hl1⟩:=aY ht hok hs
 simp[ir180]
 intro n4 b4 f4
 have o1:=Own.start (aA:=aA) (H:=H) |>.new f4 b4 (s:=.arr 25 [.int .i64 0,.int .i64 0,.nils,.nils])
 simp[aC f4 b4]
 refine(dD (aA:=aA) (t+1) s rb ht A _ (hA.keeps o1.keeps) hok hs (by omega)).step fun v K1 k1 hv=>?_
 obtain⟨B,hB⟩:∃B,B=TA (t+1) (A.lang s):=⟨_,rfl⟩
 rw[←hB] at hR hv hT1 hl1
 have hBok:=hT1.ok
 have hBp:=hBok.pos
 have hv:=hv.rd
 obtain⟨u0,x0,rfl,hu0,hx0⟩:=id hv
 have u01:=hu0.one
 have x01:=aF hx0.isSl
 obtain⟨T,hT⟩:∃T,T=t+1:=⟨_,rfl⟩
 have eT:(aB (t+1))=aB T:=by rw[hT]
 simp only[eT]
 simp[u01,x01]
 intro n6 b6 f6
 obtain⟨K2,g2,o2⟩:=((o1.call k1).new f6 b6 (s:=.arr 25 [.int .i64 0,.int .i64 0,.nils,.nils])).putAll 0 (b:=n6) rfl (n:=4) (ds:=[aB T,aB 0,u0,x0]) rfl rfl (by simp[u01,x01]) (rt:=none) rfl
 have o2:Own aA H K2 [(some n6,.arr 25 [aB T,aB 0,u0,x0]),(some n4,.arr 25 [.int .i64 0,.int .i64 0,.nils,.nils])]:=o2
 have o26:=(Own.start (aA:=aA) (H:=K1) |>.new f6 b6 (s:=.arr 25 [.int .i64 0,.int .i64 0,.nils,.nils])).putAll 0 (b:=n6) rfl (n:=4) (ds:=[aB T,aB 0,u0,x0]) rfl rfl (by simp[u01,x01]) (rt:=none) rfl
 obtain⟨K2',g2',o26⟩:=o26
 have ek:K2'=K2:=by rw[g2] at g2';exact(Option.some.inj g2').symm
 subst ek
 have hP:RdP K2' n6 (t+1) 0 B:=by
  have:=hv.at (n:=n6) o26.keeps (by rw[eT];exact o26.at 0 (b:=n6) rfl)
  exact this
 have q0:=aD (o2.at 0 (b:=n6) rfl) (rt:=none) (j:=0) (c:=aB T) rfl rfl
 have q1:=aD (o2.at 0 (b:=n6) rfl) (rt:=none) (j:=1) (c:=aB 0) rfl rfl
 simp only[aB] at q1
 simp[aC f6 b6,g2,q1]
 intro n19 b19 f19
 have o3:=(Own.start (aA:=aA) (H:=K2')).new f19 b19 (s:=.arr 2 [.int .i64 0])
 simp[aC f19 b19]
 intro n7 b7 f7
 have o4:=o3.new f7 b7 (s:=.arr 36 [.sl n19 0 1])
 have q0':=aJ o4.keeps q0
 have wt:IntKind.i64.wrap (t:Int)=(t:Int):=wN (by omega)
 rw[hT] at q0'
 simp only[aB] at q0'
 simp[aC f7 b7,q0',wt]
 intro n8 b8 f8
 obtain⟨K5,g5,o5⟩:=(o4.new f8 b8 (s:=.arr 25 [.int .i64 0,.int .i64 0,.nils,.nils])).putAll 0 (b:=n8) rfl (n:=4) (ds:=[aB t,.int .i64 0,.nils,.nils]) rfl rfl rfl (rt:=none) rfl
 simp[aC f8 b8,g5]
 have o5:Own aA K2' K5 [(some n8,.arr 25 [aB t,.int .i64 0,.nils,.nils]),(some n7,.arr 36 [.sl n19 0 1]),(some n19,.arr 2 [.int .i64 0])]:=o5
 obtain⟨n,hnn⟩:∃n,n=B.y.length:=⟨_,rfl⟩
 obtain⟨nx,hnx⟩:∃nx,nx=nxB B t tape:=⟨_,rfl⟩
 obtain⟨ac,hac⟩:∃ac,ac=acB B t tape:=⟨_,rfl⟩
 obtain⟨s0,hs0⟩:∃s0,s0=eR B.y.length 0:=⟨_,rfl⟩
 obtain⟨KS,hKS⟩:∃KS,KS=aH (succs (wd t) nx) s0 l:=⟨_,rfl⟩
 have hX:aZ0 l t tape B=aQ (wd t) nx ac KS:=by rw[hKS,hnx,hac,hs0];rfl
 have hXl:(aZ0 l t tape B).y.length=KS.length:=by rw[hX];simp[aQ]
 have hnxl:∀S c,(nx S c).length=n:=fun S c=>by rw[hnx,wU,hnn]
 have hs0l:s0.length=n:=by rw[hs0,lU,hnn]
 have hmet:∀i,∀S∈aH (succs (wd t) nx) s0 i,S.length=n:=wW hs0l fun k _ S hS=>by
  obtain⟨c,_,rfl⟩:=List.mem_map.1 hS
  exact hnxl k c
 have pre:∀i,i≤l→aH (succs (wd t) nx) s0 i <+: KS:=fun i h=>by rw[hKS];exact fC h
 have hw:=eQ (t:=t) (by omega)
 have hstart:cU s0=[0]:=by rw[hs0];exact aY6 hBp
 clear g2 g5 q0 q1 q0' o26 g2'
 obtain⟨F,hF⟩:∃F:BV→BV→List Sl,F=fun u w=>[(some n8,.arr 25 [aB t,.int .i64 0,u,w])]:=⟨_,rfl⟩
 obtain⟨I,hI⟩:∃I:Nat→Env→BH→Prop,I=(fun i e K=>e 9=aB i∧∃v7 u w b7 bo wo vs7 vs fr7 fr,e 7=v7∧i≤(aH (succs (wd t) nx) s0 i).length∧(aH (succs (wd t) nx) s0 i).length≤l ∧
   Own aA K2' K ([(wo,.arr 36 vs),(bo,.arr 4 (((KS.take i).map ac).map aK)),(b7,.arr 36 vs7)]++F u w++(fr7++fr)) ∧
   Vec b7 v7 (aH (succs (wd t) nx) s0 i).length∧vs7.length=(aH (succs (wd t) nx) s0 i).length∧Vec bo u i∧Vec wo w i∧vs.length=i ∧
   RowsOf 2 vs7 fr7 (((aH (succs (wd t) nx) s0 i).map cU).map (·.map aB))∧RowsOf 2 vs fr (((KS.take i).map fun k=>bE KS nx k (wd t)).map (·.map aB))):=⟨_,rfl⟩
 refine aE l [(0,.ptr rb 0),(1,aB tape),(4,.ptr n4 0),(6,.ptr n6 0),(8,.ptr n8 0)] I (i0:=0) ?_ ?_ ?_ (Nat.zero_le _) ?_
 ·rfl
 ·simp
 ·rw[hI]
  refine⟨by simp,.sl n7 0 1,.nils,.nils,some n7,none,none,[.sl n19 0 1],[],[(some n19,.arr 2 [.int .i64 0])],[],by simp,Nat.zero_le _,by simp[aH];omega,?_,rfl,rfl,Vec.none,Vec.none,rfl,?_,trivial⟩
  ·rw[hF]
   have:=((o5.nil (.arr 4 [])).nil (.arr 36 []))
   have e1:((none,BSt.arr 36 ([]:List BV))::(none,BSt.arr 4 ([]:List BV))::(some n8,BSt.arr 25 [aB t,.int .i64 0,.nils,.nils])::(some n7,BSt.arr 36 [.sl n19 0 1])::(some n19,BSt.arr 2 [.int .i64 0])::([]:List Sl)).Perm
     ([(none,.arr 36 []),(none,.arr 4 []),(some n7,.arr 36 [.sl n19 0 1])]++[(some n8,.arr 25 [aB t,.int .i64 0,.nils,.nils])]++([(some n19,.arr 2 [.int .i64 0])]++[])) :=
    List.Perm.cons _ (List.Perm.cons _ (List.Perm.swap _ _ _))
   exact this.perm e1.symm
  ·simp only[aH,List.map_cons,List.map_nil,hstart]
   exact RowsOf.snoc (vs:=[]) (fr:=[]) (xss:=[]) (v:=.sl n19 0 1) (bo:=some n19) (xs:=[.int .i64 0]) rfl trivial
 clear o3 o4 o5
 rintro i e K hi ⟨e0,e1,e4,e6,e8,-⟩ hh
 rw[hI] at hh
 obtain⟨e9,v7,u,w,b7,bo,wo,vs7,vs,fr7,fr,e7,hil,hlim,o,hv7,hv7l,hu,hw',hvs,hr7,hrows⟩:=hh
 simp only[] at e0 e1 e4 e6 e8
 have wi:=wS (n:=i) (by omega)
 by_cases hlt:i<(aH (succs (wd t) nx) s0 i).length
 ·have hiN:i<l:=by omega
  obtain⟨k,hkk⟩:∃k,(aH (succs (wd t) nx) s0 i)[i]?=some k:=⟨_,List.getElem?_eq_getElem hlt⟩
  have hkl:k.length=n:=hmet i k (List.mem_of_getElem? hkk)
  have hKSi:KS[i]?=some k:=by
   obtain⟨r,hr⟩:=pre i (by omega)
   rw[←hr,List.getElem?_append_left hlt]
   exact hkk
  have hiKS:i<KS.length:=(List.getElem?_eq_some_iff.1 hKSi).1
  have hnext:aH (succs (wd t) nx) s0 (i+1)=lsU (aH (succs (wd t) nx) s0 i) nx k (wd t):=by rw[aH,hkk];rfl
  have hpre:∀c,c≤wd t→lsU (aH (succs (wd t) nx) s0 i) nx k c <+: KS:=fun c hc=>(gZ hc).trans (by rw[←hnext];exact pre (i+1) (by omega))
  simp[e9,e7,hv7.isSl,hv7.len,hlt]
  intro n10 b10 f10
  have o6:=o.new f10 b10 (s:=.arr 2 [])
  simp[aC f10 b10]
  obtain⟨J,hJ⟩:∃J:Nat→Env→BH→Prop,J=(fun c e K=>e 11=aB c∧∃v7 v10 b7 b10 vs7 fr7,e 7=v7∧e 10=v10 ∧
   Own aA K2' K ([(b10,.arr 2 ((bE KS nx k c).map aB)),(wo,.arr 36 vs),(bo,.arr 4 (((KS.take i).map ac).map aK)),(b7,.arr 36 vs7)]++F u w++(fr7++fr)) ∧
   Vec b7 v7 (lsU (aH (succs (wd t) nx) s0 i) nx k c).length∧vs7.length=(lsU (aH (succs (wd t) nx) s0 i) nx k c).length∧Vec b10 v10 c ∧
   RowsOf 2 vs7 fr7 (((lsU (aH (succs (wd t) nx) s0 i) nx k c).map cU).map (·.map aB))):=⟨_,rfl⟩
  refine aE (wd t) [(0,.ptr rb 0),(1,aB tape),(4,.ptr n4 0),(6,.ptr n6 0),(8,.ptr n8 0),(9,aB i)] J (i0:=0) ?_ ?_ ?_ (Nat.zero_le _) ?_
  ·rfl
  ·simp[e0,e1,e4,e6,e8,e9]
  ·rw[hJ]
   refine⟨by simp,v7,.sl n10 0 0,b7,some n10,vs7,fr7,by simp[e7],by simp,o6,by rw[mM];exact hv7,by rw[mM];exact hv7l,rfl,by rw[mM];exact hr7⟩
  clear e0 e1 e4 e6 e7 e8 e9 o o6 hv7 hv7l hr7
  rintro c e K hc ⟨e0,e1,e4,e6,e8,e9,-⟩ hh
  rw[hJ] at hh
  obtain⟨e11,v7,v10,b7,b10,vs7,fr7,e7,e10,o,hv7,hv7l,hv10,hr7⟩:=hh
  simp only[] at e0 e1 e4 e6 e8 e9
  have wc:=wS (n:=c) (by omega)
  have hlsp:=hpre c hc
  obtain⟨ls,hls⟩:∃ls,ls=lsU (aH (succs (wd t) nx) s0 i) nx k c:=⟨_,rfl⟩
  have hlsnd:ls.Nodup:=by rw[hls];exact dH (pO i)
  have hlsk:ls[i]?=some k:=by
   rw[hls]
   obtain⟨r,hr⟩:=(gZ (ks:=aH (succs (wd t) nx) s0 i) (nx:=nx) (k:=k) (Nat.zero_le c))
   rw[←hr,mM,List.getElem?_append_left hlt]
   exact hkk
  have hlsl:ls.length≤l+c:=by
   rw[hls]
   exact Nat.le_trans (lsU_len _ _ _ c) (by omega)
  have hKSl:∀S∈KS,S.length=n:=fun S hS=>hmet l S (by rw[←hKS];exact hS)
  have hlsn:∀S∈ls,S.length=n:=fun S hS=>by
   obtain⟨r,hr⟩:=hlsp
   exact hKSl S (by rw[←hr,←hls];exact List.mem_append_left _ hS)
  rw[←hls] at hv7 hv7l hr7 hlsp
  have hil2:i<ls.length:=(List.getElem?_eq_some_iff.1 hlsk).1
  have o':=o
  rw[hF] at o'
  have r8:=aD (o'.at 4 (b:=n8) rfl) (rt:=none) (j:=0) (c:=aB t) rfl rfl
  simp[e8,e11,r8]
  refine aN (sF t K (by omega)) ?_
  have hset:∀{L:BH},K.Keeps L→RdR L 36 2 v7 aB (ls.map cU):=fun kL=>(RowsOf.rdR (bo:=b7) (F:=[(b10,.arr 2 ((bE KS nx k c).map aB)),(wo,.arr 36 vs),(bo,.arr 4 (((KS.take i).map ac).map aK)),(b7,.arr 36 vs7)]++F u w) (o.sub (List.Sublist.append (List.Sublist.refl _) (List.sublist_append_left _ _))) hr7 (o.rd 3 rfl (by rw[hv7l];exact hv7))).keeps kL
  have hPK:=hP.keeps o.keeps
  by_cases hcw:c<wd t
  ·have hlsp1:=hpre (c+1) hcw
   obtain⟨ln,hln⟩:∃ln,ln=nx k c:=⟨_,rfl⟩
   have hsu:lsU (aH (succs (wd t) nx) s0 i) nx k (c+1)=bF ls ln:=by rw[fH,←hls,hln]
   rw[hsu] at hlsp1
   have hpk:pos (bF ls ln) ln=pos KS ln:=(cH hlsp1 (mem_addK.2 (.inr rfl))).symm
   have hlnl:ln.length=n:=by rw[hln];exact hnxl k c
   obtain⟨ux,q1,q2⟩:=(hset (BH.Keeps.refl K)).at (i:=i) (by simpa using hil2)
   have q2:=q2 none rfl
   have hgk:(ls.map cU)[i]'(by simpa using hil2)=cU k:=by
    have:ls[i]=k:=(List.getElem?_eq_some_iff.1 hlsk).2
    simp[this]
   rw[hgk] at q1
   simp[hcw,e7,e9,hv7.isSl,hv7.len,hil2,q2,e1,e6,e11]
   refine(s_Some (aA:=aA) t tape n6 c ht1 ht htape B k ux K hPK hBok (by omega) (by omega) hcw q1).step fun r K1 k1 hr=>?_
   obtain⟨b12,hr12,hfr12⟩:=hr
   rw[←hnx,←hln] at hr12
   have o2:=o.take k1 hr12 hfr12
   have hr12v:Vec b12 r (cU ln).length:=by simpa using hr12.vec
   have hr12d:Rd K1 2 r ((cU ln).map aB):=hr12.rd
   simp
   obtain⟨T2,hT2⟩:∃T2:Nat→Env→BH→Prop,T2=(fun m e L=>e 14=aB m∧L=K1∧((e 13=encI (-1)∧∀j,j<m→ls[j]?≠some ln)∨(ln∈ls∧e 13=aB (pos ls ln)))):=⟨_,rfl⟩
   refine aE ls.length [(0,.ptr rb 0),(1,aB tape),(4,.ptr n4 0),(6,.ptr n6 0),(8,.ptr n8 0),(9,aB i),(7,v7),(10,v10),(11,aB c),(12,r)] T2 (i0:=0) ?_ ?_ ?_ (Nat.zero_le _) ?_
   ·rfl
   ·simp[e0,e1,e4,e6,e8,e9,e7,e10,e11]
   ·rw[hT2]
    exact⟨by simp,rfl,.inl ⟨by simp,fun j hj=>by omega⟩⟩
   clear e0 e1 e4 e6 e7 e8 e9 e10 e11 q2 r8 o'
   rintro m e L hm0 ⟨e0,e1,e4,e6,e8,e9,e7,e10,e11,e12,-⟩ hh
   rw[hT2] at hh
   obtain⟨e14,rfl,hor⟩:=hh
   simp only[] at e0 e1 e4 e6 e8 e9 e7 e10 e11 e12
   have wm:=wS (n:=m) (by omega)
   rcases hor with⟨e13,hno⟩|⟨hm,e13⟩
   ·by_cases hml:m<ls.length
    ·obtain⟨uy,p1,p2⟩:=(hset k1).at (i:=m) (by simpa using hml)
     have p2:=p2 none rfl
     have hgm:(ls.map cU)[m]'(by simpa using hml)=cU ls[m]:=by simp
     rw[hgm] at p1
     have hlm:=hlsn _ (List.getElem_mem hml)
     have hsl1:=vH ls[m]
     have hsl2:=vH ln
     have hsame:=s_Same (aA:=aA) (cU ls[m]) (cU ln) uy r L p1 hr12d (by omega) (by omega)
     simp[e14,e7,hv7.isSl,hv7.len,hml,e13,p2,e12]
     refine aN hsame ?_
     by_cases heq:ls[m]=ln
     ·have hpos:pos ls ln=m:=by rw[←heq];exact qP hlsnd hml
      have hd:decide (cU ls[m]=cU ln)=true:=by rw[heq];simp
      rw[hd]
      simp[e14,wm,hml]
      rw[hT2]
      exact⟨by simp,rfl,.inr ⟨by rw[←heq];exact List.getElem_mem hml,by simp[hpos]⟩⟩
     ·have hd:decide (cU ls[m]=cU ln)=false:=by
       rw[decide_eq_false_iff_not]
       exact fun h=>heq (setL_inj (by omega) h)
      rw[hd]
      simp[e14,wm,hml]
      rw[hT2]
      refine⟨by simp,rfl,.inl ⟨by simp[e13],fun j hj hjl=>?_⟩⟩
      by_cases hjm:j=m
      ·subst hjm
       rw[List.getElem?_eq_getElem hml] at hjl
       exact heq (Option.some.inj hjl)
      ·exact hno j (by omega) hjl
    ·have hme:m=ls.length:=by omega
     have hnm:ln∉ls:=fun h=>by
      obtain⟨j,hj⟩:=List.getElem?_of_mem h
      have hjl:=(List.getElem?_eq_some_iff.1 hj).1
      exact hno j (by omega) hj
     have hadd:bF ls ln=ls++[ln]:=if_neg hnm
     have hp2:pos (ls++[ln]) ln=ls.length:=by rw[←hadd];exact dR hnm
     rw[hadd] at hpk hsu hlsp1
     simp[e14,e7,hv7.isSl,hv7.len,hml,e13,e12,hr12v.one,cells_one hr12v.one]
     intro n3 b3 f3
     simp[aC f3 b3]
     intro n4' b4' f4'
     obtain⟨w7,K3,b7',p1,p2,p3⟩:=o2.push 4 rfl (v:=v7) (by rw[hv7l];exact hv7) (x:=r) (bytes:=24) hr12v.one (by omega) (by omega) f3 b3 f4' b4'
     simp[p1,e10]
     intro n1 b1 f1
     simp[aC f1 b1]
     intro n2 b2 f2
     have p2:Own aA K2' K3 ((b12,.arr 2 ((cU ln).map aB))::(b10,.arr 2 ((bE KS nx k c).map aB))::([(wo,.arr 36 vs),(bo,.arr 4 (((KS.take i).map ac).map aK)),(some b7',.arr 36 (vs7++[r]))]++F u w++(fr7++fr))):=p2
     obtain⟨v',K',b',t1,t2,t3⟩:=p2.push 1 rfl (by simpa[aG] using hv10) (x:=aB ls.length) (bytes:=8) rfl (by simp[aG];omega) (by simp[aG];omega) f1 b1 f2 b2
     simp[t1,e11,wc,hcw]
     rw[hJ]
     simp only[hsu]
     refine⟨by simp,w7,v',some b7',some b',vs7++[r],fr7++[(b12,.arr 2 ((cU ln).map aB))],by simp,by simp,?_,by simpa[hv7l] using p3,by simp[hv7l],by simpa[aG] using t3,?_⟩
     ·rw[bA,←hln,←hpk,hp2,List.map_append]
      exact Own.last2 (p:=(b12,.arr 2 ((cU ln).map aB))) (F:=[(some b',.arr 2 ((bE KS nx k c).map aB++[aB ls.length])),(wo,.arr 36 vs),(bo,.arr 4 (((KS.take i).map ac).map aK)),(some b7',.arr 36 (vs7++[r]))]++F u w) t2
     ·simp only[List.map_append,List.map_cons,List.map_nil]
      exact hr7.snoc (by simpa using hr12v)
   ·have hp0:¬((pos ls ln:Nat):Int)<0:=by omega
    by_cases hml:m<ls.length
    ·simp[e14,e7,hv7.isSl,hv7.len,hml,e13,hp0]
     have hadd:bF ls ln=ls:=if_pos hm
     rw[hadd] at hpk hsu
     simp[e13,hp0,e10]
     intro n1 b1 f1
     simp[aC f1 b1]
     intro n2 b2 f2
     have o3:Own aA K2' L ((b10,.arr 2 ((bE KS nx k c).map aB))::([(wo,.arr 36 vs),(bo,.arr 4 (((KS.take i).map ac).map aK)),(b7,.arr 36 vs7)]++F u w++(fr7++fr))):=o2.tail
     obtain⟨v',K',b',p1,p2,p3⟩:=o3.push 0 rfl (by simpa[aG] using hv10) (x:=aB (pos ls ln)) (bytes:=8) rfl (by simp[aG];omega) (by simp[aG];omega) f1 b1 f2 b2
     simp[p1,e11,wc,hcw]
     rw[hJ]
     simp only[hsu]
     refine⟨by simp,v7,v',b7,some b',vs7,fr7,by simp[e7],by simp,?_,hv7,hv7l,by simpa[aG] using p3,hr7⟩
     rw[bA,←hln,←hpk,List.map_append]
     exact p2
    ·simp[e14,e7,hv7.isSl,hv7.len,hml]
     have hadd:bF ls ln=ls:=if_pos hm
     rw[hadd] at hpk hsu
     simp[e13,hp0,e10]
     intro n1 b1 f1
     simp[aC f1 b1]
     intro n2 b2 f2
     have o3:Own aA K2' L ((b10,.arr 2 ((bE KS nx k c).map aB))::([(wo,.arr 36 vs),(bo,.arr 4 (((KS.take i).map ac).map aK)),(b7,.arr 36 vs7)]++F u w++(fr7++fr))):=o2.tail
     obtain⟨v',K',b',p1,p2,p3⟩:=o3.push 0 rfl (by simpa[aG] using hv10) (x:=aB (pos ls ln)) (bytes:=8) rfl (by simp[aG];omega) (by simp[aG];omega) f1 b1 f2 b2
     simp[p1,e11,wc,hcw]
     rw[hJ]
     simp only[hsu]
     refine⟨by simp,v7,v',b7,some b',vs7,fr7,by simp[e7],by simp,?_,hv7,hv7l,by simpa[aG] using p3,hr7⟩
     rw[bA,←hln,←hpk,List.map_append]
     exact p2
  ·have hcc:c=wd t:=by omega
   subst hcc
   by_cases hbig:l<ls.length
   ·have hb1:1000<ls.length:=by omega
    have hb2:(1000:Int)<(ls.length:Int):=by omega
    obtain⟨m,K7,e7',g7,r7,kk,hrel⟩:=aW (aA:=aA) (t:=t) (r:=(none,3)) (Own.join o2 o.keeps o) (i:=1) (n2:=n4) rfl rfl (BH.Keeps.refl _) rfl
    cases e7'
    have g7':K.wr aA none 4 (.ptr n4 0) (.agg [.int .i64 0,.int .i64 0,.nils,.nils])=some K7:=g7
    simp[e4,e7,hv7.isSl,hv7.len,hb1,hb2,g7',r7]
    have hsm:iW l t tape B=(none,3):=by
     unfold iW
     rw[if_pos (by rw[hXl];have:=hlsp.length_le;omega)]
    rw[hR,hsm]
    exact⟨kk,hrel⟩
   ·have hb1:¬1000<ls.length:=by omega
    have hb2:¬(1000:Int)<(ls.length:Int):=by omega
    have u1:=aD (o'.at 4 (b:=n8) rfl) (rt:=some 25) (j:=2) (c:=u) rfl rfl
    obtain⟨ux,q1,q2⟩:=(hset (BH.Keeps.refl K)).at (i:=i) (by simpa using hil2)
    have q2:=q2 none rfl
    have hgk:(ls.map cU)[i]'(by simpa using hil2)=cU k:=by
     have:ls[i]=k:=(List.getElem?_eq_some_iff.1 hlsk).2
     simp[this]
    rw[hgk] at q1
    have hti:(KS.take i).length=i:=by simp;omega
    have hta:(KS.take (i+1)).map ac=(KS.take i).map ac++[ac k]:=by rw[List.take_add_one,hKSi];simp
    have htr:((KS.take (i+1)).map fun k=>bE KS nx k (wd t)).map (·.map aB)=((KS.take i).map fun k=>bE KS nx k (wd t)).map (·.map aB)++[(bE KS nx k (wd t)).map aB]:=by rw[List.take_add_one,hKSi];simp
    have hin:i+1≤(aH (succs (wd t) nx) s0 (i+1)).length:=by
     have:=(iF (sx:=succs (wd t) nx) (s:=s0) i).length_le
     omega
    simp[e1,e6,e7,e8,e9,hv7.isSl,hv7.len,hb1,hb2,u1,hil2,q2]
    refine(s_Ends (aA:=aA) t tape n6 ht1 ht htape B k ux K hPK hBok (by omega) (by omega) q1).step fun r K1 k1 hr=>?_
    rw[←hac] at hr
    subst hr
    have o1':=o.call k1
    simp
    intro n1 b1 f1
    simp[aC f1 b1]
    intro n2 b2 f2
    obtain⟨v',K3,b',q1,o3,q3⟩:=o1'.push 2 rfl (v:=u) (by simp only[List.length_map,hti];exact hu) (x:=aK (ac k)) (bytes:=1) rfl (by simp;omega) (by simp;omega) f1 b1 f2 b2
    have o3:Own aA K2' K3 ([(b10,.arr 2 ((bE KS nx k (wd t)).map aB)),(wo,.arr 36 vs),(some b',.arr 4 (((KS.take i).map ac).map aK++[aK (ac k)])),(b7,.arr 36 vs7)]++F u w++(fr7++fr)):=o3
    rw[hF] at o3
    obtain⟨K4,q2,o4⟩:=o3.put 4 (b:=n8) rfl (j:=2) (u:=v') (by simp) q3.one (rt:=none) rfl
    simp[q1,q2,e8]
    have u2:=aD (o4.at 4 (b:=n8) rfl) (rt:=none) (j:=3) (c:=w) rfl rfl
    have h17:=hv10.one
    simp[u2,e10,h17,cells_one h17]
    intro n3 b3' f3
    simp[aC f3 b3']
    intro n4' b4' f4'
    obtain⟨w',K5',c',p1,o5,p3⟩:=o4.push 1 rfl (v:=w) (by rw[hvs];exact hw') (x:=v10) (bytes:=24) h17 (by omega) (by omega) f3 b3' f4' b4'
    obtain⟨K6,p2,o6⟩:=o5.put 4 (b:=n8) rfl (j:=3) (u:=w') (by simp) p3.one (rt:=none) rfl
    simp[p1,p2,e8,e9,wi,hiN]
    rw[hI]
    refine⟨by simp,v7,v',w',b7,some b',some c',vs7,vs++[v10],fr7,fr++[(b10,.arr 2 ((bE KS nx k (wd t)).map aB))],by simp[e7],hin,by rw[hnext,←hls];omega,?_,by rw[hnext,←hls];exact hv7,by rw[hnext,←hls];exact hv7l,?_,?_,by simp[hvs],by rw[hnext,←hls];exact hr7,?_⟩
    ·have o7:Own aA K2' K6 ((b10,.arr 2 ((bE KS nx k (wd t)).map aB))::(([(some c',.arr 36 (vs++[v10])),(some b',.arr 4 (((KS.take i).map ac).map aK++[aK (ac k)])),(b7,.arr 36 vs7)]++[(some n8,.arr 25 [aB t,.int .i64 0,v',w'])]++fr7)++fr)):=by
      simpa[List.append_assoc] using o6
     have o8:=Own.last o7
     rw[hta,hF]
     simpa[List.append_assoc] using o8
    ·simp only[List.length_map,hti] at q3
     exact q3
    ·simpa[hvs] using p3
    ·rw[htr]
     exact hrows.snoc (by simpa[aG] using hv10)
 ·have hie:i=(aH (succs (wd t) nx) s0 i).length:=by omega
  have hdi:Done (wd t) nx s0 i:=by unfold Done DoneL;omega
  have hKi:aH (succs (wd t) nx) s0 i=KS:=by
   rw[hKS]
   exact(DoneL.eq hdi (by omega)).symm
  rw[hKi] at hie
  have htk:KS.take i=KS:=by rw[hie,List.take_length]
  rw[htk] at o hrows
  have hlt':¬i<(aH (succs (wd t) nx) s0 i).length:=hlt
  obtain⟨X,hXe⟩:∃X,X=aZ0 l t tape B:=⟨_,rfl⟩
  have hXok:=aB2 (l:=l) (t:=t) (tape:=tape) (A:=B) (by rw[hXl,←hie];omega)
  rw[←hXe] at hX hXl hXok
  have o':=o
  rw[hF] at o'
  have hRd:RdP K n8 t 0 X:=by
   refine⟨u,w,o'.at 3 (b:=n8) rfl,?_,?_⟩
   ·rw[hX]
    show Rd K 4 u ((KS.map ac).map aK)
    exact o'.rd 1 rfl (by rw[List.length_map,List.length_map,←hie];exact hu)
   ·rw[hX]
    exact RowsOf.rdR (bo:=wo) (F:=[(wo,.arr 36 vs),(bo,.arr 4 ((KS.map ac).map aK)),(b7,.arr 36 vs7)]++[(some n8,.arr 25 [aB t,.int .i64 0,u,w])]++fr7) (by simpa[List.append_assoc] using o') (by simpa[aQ,bE] using hrows) (o'.rd 0 rfl (by rw[hvs];exact hw'))
  simp[e7,e8,e9,hv7.isSl,hv7.len,hlt']
  refine(dD (aA:=aA) t 0 n8 (by omega) X K hRd hXok.1 hXok.1.pos (by omega)).step fun v K6 k6 hv=>?_
  have hXs:=(aY (by omega:t≤3) hXok.1 hXok.1.pos).2
  simp
  refine(wH (aA:=aA) t _ v _ K6 hv (by omega)).step fun v3 K7 k7 hv3=>?_
  rw[hXok.2] at hv3
  obtain⟨m,K8,rfl,g8,r8,kk,hrel⟩:=aW (aA:=aA) (o2.call o.keeps) (i:=1) (n2:=n4) rfl rfl (k6.trans k7) hv3
  simp[e4,g8,r8]
  have hsm:iW l t tape B=told (TA t (bM (nxB B t tape) (acB B t tape) (eR B.y.length 0))):=by
   unfold iW
   rw[←hXe,if_neg (by rw[hXl,←hie];omega)]
  rw[hR,hsm]
  exact⟨kk,hrel⟩
theorem s_Fewer(t s tape rb:Nat)(ht1:1≤t)(ht:t+1≤3)(htape:tape≤t)(A:Aut)(H:BH)(hA:RdP H rb (t+1) s A)(hok:A.Ok (wd (t+1)))(hs:s<A.y.length)(hn:A.y.length≤150):Runs (gam aA) 181 [.ptr rb 0,aB tape] H (aB 0) H:=by
 obtain⟨T,hT⟩:∃T,T=t+1:=⟨_,rfl⟩
 rw[←hT] at hA hok
 obtain⟨u,x,hr,hu,hx⟩:=id hA
 have r0:=aD hr (rt:=none) (j:=0) (c:=aB T) rfl rfl
 have c1:=s_ok (aA:=aA) rb T s _ _ _ hA.raw (by omega)
 rw[bP (by omega) (by omega) hok hs hn] at c1
 have wT:IntKind.i64.wrap ((T:Int)-1)=(T:Int)-1:=w64 (by omega) (by omega)
 have hone:Runs (gam aA) 178 [.ptr rb 0,aB tape] H (aB 0) H:=by
  refine aV (fn:=ir178) rfl ?_
  simp[ir178]
  refine aN c1 ?_
  simp[r0,wT]
  refine aN (s_in tape 0 ((T:Int)-1) H) ?_
  have hin:inB tape 0 ((T:Int)-1)=true:=by simp[inB];omega
  rw[hin]
  simp
 refine aV (fn:=ir181) rfl ?_
 have hT1:((T:Int)==1)=false:=by simp;omega
 simp[ir181]
 refine aN hone ?_
 simp[r0,hT1]
theorem s_SomeOn(l:Nat)(hl:l=1000)(t s tape:Nat)(ht1:1≤t)(ht:t+1≤3)(htape:tape≤t)(A:Aut)(m:BV)(H:BH)(hA:RdRel H (t+1) s A m)(hok:A.Ok (wd (t+1)))(hs:s<A.y.length)(hn:A.y.length≤150):FnDoes (gam aA) 121 [m,aB tape] H fun v K=>RelR aA H t (iW l t tape (TA (t+1) (A.lang s))) v K:=by
 refine FnDoes.hide fun R hR=>?_
 refine FnDoes.of (fn:=ir121) rfl ?_
 have g1:=hA
 obtain⟨u,x,rfl,hu,hx⟩:=hA
 have u1:=hu.one
 have x1:=aF hx.isSl
 obtain⟨T,hT⟩:∃T,T=t+1:=⟨_,rfl⟩
 have e1:(aB (t+1))=aB T:=by rw[hT]
 rw[e1] at g1 ⊢
 simp[ir121,u1,x1]
 intro n2 b2 f2
 simp[aC f2 b2]
 intro n4 b4 f4
 have o1:=Own.start (aA:=aA) (H:=H) |>.new f2 b2 (s:=.arr 25 [aB T,aB s,u,x]) |>.new f4 b4 (s:=.arr 25 [.int .i64 0,.int .i64 0,.nils,.nils])
 have p1:RdP _ n2 (t+1) s A:=RdRel.at (n:=n2) (by rw[e1];exact g1) o1.keeps (by rw[e1];exact o1.at 1 (b:=n2) rfl)
 simp[aC f4 b4]
 refine aN (s_Fewer (aA:=aA) t s tape n2 ht1 ht htape A _ p1 hok hs hn) ?_
 simp
 refine(aG8 (aA:=aA) l hl t s tape n2 ht1 ht htape A _ p1 hok hs hn).step fun r K5 k5 hr=>?_
 obtain⟨m,K8,rfl,g8,r8,kk,hrel⟩:=aW (aA:=aA) o1 (i:=0) (n2:=n4) rfl rfl k5 hr
 simp[g8,r8]
 rw[hR]
 exact⟨kk,hrel⟩
noncomputable def cS(f:Aut→Option Aut×Nat)(r:Option Aut×Nat):Option Aut×Nat:=match r with
 | (none,c)=>(none,c)
 | (some A,_)=>f A
theorem dV{t:Nat}{f:Aut→Option Aut×Nat}{t':Nat}{r:Option Aut×Nat}(h:GoodC t' r)(hf:∀A,A.Ok (wd t')→A.y.length≤150→GoodC t (f A)):GoodC t (cS f r):=by
 obtain⟨a,c⟩:=r
 cases a with
 | none=>exact h
 | some A=>exact hf A h.2.1 h.2.2
theorem tM{C:bR}{b:BCode}{Q:Post}{e:Env}{H:BH}(h:wpC aA C b (Post.then (wpC aA C (.loop b) Q) Q) e H):wpC aA C (.loop b) Q e H:=by
 obtain⟨x,e1,H1,hx,hQ⟩:=fF h
 cases x with
 | normal =>
  obtain⟨x2,e2,H2,hx2,hQ2⟩:=hQ
  exact⟨x2,e2,H2,.loopn hx hx2,hQ2⟩
 | exit i=>exact⟨_,e1,H1,.loopx hx (by simp),hQ⟩
 | ret=>exact⟨_,e1,H1,.loopx hx (by simp),hQ⟩
theorem Has.put{e:Env}{t:Nat}{v:BV}{kp:List (Nat×BV)}(h:Has e kp)(ht:kp.all (fun p=>!(p.1==t))=true):Has (e.put t v) kp:=Has.frame (W:=[t]) (fun s hs=>by
 have:s≠t:=fun he=>hs (by simp[he])
 simp[Env.put,this]) (by
 rw[List.all_eq_true] at ht ⊢
 intro p hp
 have:=ht p hp
 simp only[List.contains_cons,List.contains_nil,Bool.or_false]
 exact this) h
abbrev zR4:List BV:=[.int .i64 0,.int .i64 0,.nils,.nils]
theorem rel_step{C:bR}{H K0 K1:BH}{L:List Sl}{i n4 t:Nat}{zs:List BV}{G:Option Aut×Nat}{v:BV}{e:Env}{rest:BCode}{Q:Post}{Kn:Env→BH→Prop}{cd d a b x y p q z w r4 r5:Nat}(o:Own aA H K0 L)(hL:L[i]?=some (some n4,.arr 25 zs))(hz:zs.length=4)(k:K0.Keeps K1)(hr:RelR aA K0 t G v K1)(hg:GoodC t G)(kp:List (Nat×BV))(hkp:Has e ((r4,.ptr n4 0)::kp))(hv:e cd=v)(hfr:(((r4,BV.ptr n4 0)::kp).all fun s=>!(s.1==d||s.1==a||s.1==b||s.1==x||s.1==y||s.1==p||s.1==q||s.1==z||s.1==w||s.1==r5))=true)(hne:(decide (a≠d)&&decide (b≠d)&&decide (a≠b)&&decide (x≠a)&&decide (x≠b)&&decide (y≠x)&&decide (p≠x)&&decide (q≠x)&&decide (p≠y)&&decide (q≠y)&&decide (z≠y)&&decide (w≠z))=true)(hKn:∀e K,wpC aA C (.seq (.seq (.region [⟨some p,.mov (.t y),none,[]⟩,⟨some q,.bin .neq (.t p) (.c (.int .i64 0)),none,[]⟩]) (.cond (.t q) (.seq (.region [⟨some z,.build zR4 [],none,[]⟩,⟨some w,.mov (.t y),none,[]⟩,⟨none,.store none 4 (.t r4) (.t z),none,[]⟩,⟨some r5,.mov (.t w),none,[]⟩]) .ret) .skip)) rest) Q e K→Kn e K)(good:∀(e':Env) (n:Nat) (K2:BH) (A:Aut) (ms:List BV),G=(some A,0)→Has e' ((x,.ptr n 0)::(y,aB 0)::(r4,.ptr n4 0)::kp)→Own aA H K2 ((some n,.arr 25 ms)::L)→K1.Keeps K2→OwnRel aA K0 K2 t 0 A (.agg ms)→K2.rd none (some 4) (.ptr n 0)=some (.agg ms)→wpC aA C rest Q e' K2)(bad:∀(e':Env) (K2:BH) (c:Nat),G=(none,c)→Has e' ((r5,aB c)::(r4,.ptr n4 0)::kp)→K2.rd none (some 4) (.ptr n4 0)=some (.agg zR4)→H.Keeps K2→Q .ret e' K2):
  wpO aA C [⟨some d,.mov (.t cd),none,[]⟩,⟨some a,.ext 0 (.t d),none,[]⟩,⟨some b,.ext 1 (.t d),none,[]⟩,⟨some x,.new 25 zR4,none,[]⟩,⟨none,.store none 4 (.t x) (.t a),none,[]⟩,⟨some y,.mov (.t b),none,[]⟩] Kn e K1:=by
 simp only[Bool.and_eq_true,decide_eq_true_eq] at hne
 obtain⟨⟨⟨⟨⟨⟨⟨⟨⟨⟨⟨h1,h2⟩,h3⟩,h4⟩,h5⟩,h6⟩,h7⟩,h8⟩,h9⟩,h10⟩,h11⟩,h12⟩:=hne
 have hr0:=hr
 obtain⟨m,rfl,hm⟩:=hr.out
 obtain⟨c1,c2,u,w',e2,p1,p2,p3,p4⟩:=hm.ones
 subst e2
 have hfr':∀s∈(r4,BV.ptr n4 0)::kp,s.1≠d∧s.1≠a∧s.1≠b∧s.1≠x∧s.1≠y∧s.1≠p∧s.1≠q∧s.1≠z∧s.1≠w∧s.1≠r5:=fun s hs=>by
  have:=List.all_eq_true.1 hfr s hs
  simp only[Bool.not_eq_true',Bool.or_eq_false_iff,beq_eq_false_iff_ne] at this
  obtain⟨⟨⟨⟨⟨⟨⟨⟨⟨q1,q2⟩,q3⟩,q4⟩,q5⟩,q6⟩,q7⟩,q8⟩,q9⟩,q10⟩:=this
  exact⟨q1,q2,q3,q4,q5,q6,q7,q8,q9,q10⟩
 have fr:∀(e':Env),(∀s,s≠d→s≠a→s≠b→s≠x→s≠y→s≠p→s≠q→s≠z→s≠w→s≠r5→e' s=e s)→Has e' ((r4,.ptr n4 0)::kp):=fun e' he=>Has.frame (W:=[d,a,b,x,y,p,q,z,w,r5]) (fun s hs=>by
   simp only[List.mem_cons,List.not_mem_nil,or_false,not_or] at hs
   obtain⟨q1,q2,q3,q4,q5,q6,q7,q8,q9,q10⟩:=hs
   exact he s q1 q2 q3 q4 q5 q6 q7 q8 q9 q10) (by
   rw[List.all_eq_true]
   intro s hs
   obtain⟨q1,q2,q3,q4,q5,q6,q7,q8,q9,q10⟩:=hfr' s hs
   simp[q1,q2,q3,q4,q5,q6,q7,q8,q9,q10]) hkp
 obtain⟨r1,r2,r3,r4',r5',r6,r7,r8,r9,r10⟩:=hfr' _ (List.mem_cons_self)
 simp only[] at r1 r2 r3 r4' r5' r6 r7 r8 r9 r10
 have e4:e r4=.ptr n4 0:=hkp.1
 simp[zR4,hv,p1,p2,p3,p4,h1,h2,h3,h4,h5,h6,Ne.symm h1,Ne.symm h2,Ne.symm h3,Ne.symm h4,Ne.symm h5,Ne.symm h6]
 intro n bn fn
 have o2:=(o.call k).new fn bn (s:=.arr 25 [.int .i64 0,.int .i64 0,.nils,.nils])
 obtain⟨K3,g3,o3⟩:=o2.putAll 0 (b:=n) rfl (n:=4) (ds:=[c1,c2,u,w']) rfl rfl (by simp[p1,p2,p3,p4]) (rt:=none) rfl
 obtain⟨K3',g3',o3'⟩:=((Own.start (aA:=aA) (H:=K1)).new fn bn (s:=.arr 25 [.int .i64 0,.int .i64 0,.nils,.nils])).putAll 0 (b:=n) rfl (n:=4) (ds:=[c1,c2,u,w']) rfl rfl (by simp[p1,p2,p3,p4]) (rt:=none) rfl
 have ek:K3'=K3:=by rw[g3] at g3';exact(Option.some.inj g3').symm
 subst ek
 have r3x:=aI (o3.at 0 (b:=n) rfl) (n:=4) (rt:=none) rfl rfl
 simp[zR4,aC fn bn,g3,h1,h2,h3,h4,h5,h6,Ne.symm h1,Ne.symm h2,Ne.symm h3,Ne.symm h4,Ne.symm h5,Ne.symm h6]
 refine hKn _ _ ?_
 obtain⟨zG,cG⟩:=G
 cases zG with
 | none =>
  have hc:=aE8 hg.1
  have hc':¬cG=0:=by have:0<cG:=hg.1;omega
  obtain⟨m8,K8,e8,g8,r8x,kk8,hrel8⟩:=aW (aA:=aA) (t:=t) (r:=(none,cG)) (o3.tail) (i:=i) (n2:=n4) hL hz (BH.Keeps.refl _) rfl
  cases e8
  have g8':K3'.wr aA none 4 (.ptr n4 0) (.agg zR4)=some K8:=g8
  simp[zR4,h1,h2,h3,h4,h5,h6,h7,h8,h9,h10,h11,h12,Ne.symm h1,Ne.symm h2,Ne.symm h3,Ne.symm h4,Ne.symm h5,Ne.symm h6,Ne.symm h7,Ne.symm h8,Ne.symm h9,Ne.symm h10,Ne.symm h11,Ne.symm h12,hc,hc',r1,r2,r3,r4',r5',r6,r7,r8,r9,r10,Ne.symm r1,e4,g8']
  refine bad _ K8 cG rfl ⟨by simp,fr _ fun s s1 s2 s3 s4 s5 s6 s7 s8 s9 s10=>by simp[Env.put,s1,s2,s3,s4,s5,s6,s7,s8,s9,s10]⟩ r8x kk8
 | some A =>
  have ec:cG=0:=hg.1
  subst ec
  simp[h1,h2,h3,h4,h5,h6,h7,h8,h9,h10,Ne.symm h1,Ne.symm h2,Ne.symm h3,Ne.symm h4,Ne.symm h5,Ne.symm h6,Ne.symm h7,Ne.symm h8,Ne.symm h9,Ne.symm h10]
  refine good _ n K3' A [c1,c2,u,w'] rfl ⟨by simp[Ne.symm h6,Ne.symm h7,Ne.symm h8,h6,h7,h8],by simp[Ne.symm h9,Ne.symm h10,h9,h10],fr _ fun s s1 s2 s3 s4 s5 s6 s7 s8 s9 s10=>by simp[Env.put,s1,s2,s3,s4,s5,s6,s7,s8,s9,s10]⟩ o3 o3'.keeps (by
   obtain⟨m',e',ho⟩:=hr0
   simp only[BV.tup.injEq,List.cons.injEq,and_true] at e'
   rw[e']
   exact ho.keeps o3'.keeps) r3x
theorem OwnRel.rows2{H K:BH}{t s:Nat}{A:Aut}{m:BV}(h:OwnRel aA H K t s A m):∃Y,Own aA H K Y∧∀{H' K':BH} {Z:List Sl},Own aA H' K' (Z++Y)→OwnRel aA H' K' t s A m:=by
 obtain⟨u,w,bo,wo,vs,fr,e,o,hu,hw,hr⟩:=h
 exact⟨_,o,fun {H' K' Z} o'=>⟨u,w,bo,wo,vs,fr,e,o'.sub (List.sublist_append_right _ _),hu,hw,hr⟩⟩
theorem OwnRel.cells{H K:BH}{t s:Nat}{A:Aut}{m:BV}(h:OwnRel aA H K t s A m):∃u x:BV,m=.agg [aB t,aB s,u,x]∧u.one=true∧x.one=true:=by
 obtain⟨u,w,bo,wo,vs,fr,e,o,hu,hw,hr⟩:=h
 exact⟨u,w,e,hu.one,hw.one⟩
theorem lay{K:BH}{n:Nat}{a b c d:BV}(f:K.row n=.fresh)(hb:aA≤n)(p:([a,b,c,d]:List BV).all BV.one=true):∃K',(K.set n (.arr 25 [.int .i64 0,.int .i64 0,.nils,.nils])).wr aA none 4 (.ptr n 0) (.agg [a,b,c,d])=some K' ∧
  K.Keeps K'∧K'.rd none (some 4) (.ptr n 0)=some (.agg [a,b,c,d])∧K'.row n=.arr 25 [a,b,c,d]∧∀{H:BH} {L:List Sl},Own aA H K L→Own aA H K' ((some n,.arr 25 [a,b,c,d])::L):=by
 obtain⟨K',g,o⟩:=((Own.start (aA:=aA) (H:=K)).new f hb (s:=.arr 25 [.int .i64 0,.int .i64 0,.nils,.nils])).putAll 0 (b:=n) rfl (n:=4) (ds:=[a,b,c,d]) rfl rfl p (rt:=none) rfl
 refine⟨K',g,o.keeps,aI (o.at 0 (b:=n) rfl) rfl rfl,o.at 0 (b:=n) rfl,fun {H L} oh=>?_⟩
 obtain⟨K2,g2,o2⟩:=(oh.new f hb (s:=.arr 25 [.int .i64 0,.int .i64 0,.nils,.nils])).putAll 0 (b:=n) rfl (n:=4) (ds:=[a,b,c,d]) rfl rfl p (rt:=none) rfl
 have ek:K2=K':=by rw[g] at g2;exact(Option.some.inj g2).symm
 subst ek
 exact o2
theorem RdRs.two{K:BH}{r q:aA5}{n:Nat}{u x u' x':BV}(h:RdRaw K r.1 r.2.1 r.2.2.1 r.2.2.2 (.agg [.int .i64 r.1,.int .i64 r.2.1,u,x]))(h':RdRaw K q.1 q.2.1 q.2.2.1 q.2.2.2 (.agg [.int .i64 q.1,.int .i64 q.2.1,u',x']))(hr:K.row n=.arr 25 [.int .i64 r.1,.int .i64 r.2.1,u,x,.int .i64 q.1,.int .i64 q.2.1,u',x']):RdRs K (.sl n 0 2) [r,q]:=by
 refine⟨[[.int .i64 r.1,.int .i64 r.2.1,u,x],[.int .i64 q.1,.int .i64 q.2.1,u',x']],⟨rfl,rfl,fun i y hi=>?_⟩,rfl,fun i c s hi hq=>?_⟩
 ·have hi2:=(List.getElem?_eq_some_iff.1 hi).1
  have:i=0∨i=1:=by have:i<2:=hi2;omega
  rcases this with rfl|rfl
  ·simp at hi
   subst hi
   exact⟨n,0,_,rfl,hr,by simp,rfl⟩
  ·simp at hi
   subst hi
   exact⟨n,4,_,rfl,hr,by simp,rfl⟩
 ·have hi2:=(List.getElem?_eq_some_iff.1 hi).1
  have:i=0∨i=1:=by have:i<2:=hi2;omega
  rcases this with rfl|rfl
  ·simp at hi hq
   subst hi hq
   exact h
  ·simp at hi hq
   subst hi hq
   exact h'
def hvI(c:Int):Nat→Int
 | 0=>c
 | i+1=>hvI c i / 2
def leftV(c:Int):List Int:=c::(List.range 10).flatMap fun i=>[hvI c (i+1),hvI c (i+1)+1]
theorem mem_leftV{c v:Int}:v∈leftV c↔v=c∨∃i,i<10∧(v=hvI c (i+1)∨v=hvI c (i+1)+1):=by
 unfold leftV
 rw[List.mem_cons,List.mem_flatMap]
 refine or_congr Iff.rfl ⟨?_,?_⟩
 ·rintro⟨i,hi,h⟩
  refine⟨i,List.mem_range.1 hi,by simpa using h⟩
 ·rintro⟨i,hi,h⟩
  exact⟨i,List.mem_range.2 hi,by simpa using h⟩
theorem xF(c:Int):(leftV c).length=21:=by
 simp[leftV]
 rfl
theorem half_step(q e d:Int)(he:e=0∨e=1)(hd:(d = -1∨d=0)∨(d=1∧(q+e-d) % 2=0)):(q+e-d) / 2=q / 2∨(q+e-d) / 2=q / 2+1:=by omega
theorem bA9{c v d:Int}(hc:-1000≤c∧c≤1000)(hv:v∈leftV c)(hd:(d = -1∨d=0)∨(d=1∧(v-d) % 2=0)):(v-d) / 2∈leftV c:=by
 have key:∀(i:Nat) (e:Int),i≤10→(e=0∨e=1)→v=hvI c i+e→(v-d) / 2∈leftV c:=fun i e hi he hv=>by
  rw[hv] at hd ⊢
  rcases Nat.lt_or_ge i 10 with h10|h10
  ·exact mem_leftV.2 (.inr ⟨i,h10,half_step _ e d he hd⟩)
  ·have e10:i=10:=by omega
   subst e10
   have h0:hvI c 10=0∨hvI c 10 = -1:=by
    simp only[hvI]
    omega
   refine mem_leftV.2 (.inr ⟨9,by omega,?_⟩)
   show _=hvI c 10∨_=hvI c 10+1
   rcases h0 with h0|h0<;>rw[h0] at hd ⊢<;>omega
 rcases mem_leftV.1 hv with h|⟨i,hi,h|h⟩
 ·exact key 0 0 (by omega) (.inl rfl) (by rw[h];simp[hvI])
 ·exact key (i+1) 0 (by omega) (.inl rfl) (by rw[h];simp)
 ·exact key (i+1) 1 (by omega) (.inr rfl) h
theorem xE(c:Int):c∈leftV c:=List.mem_cons_self
theorem aJ0{c v:Int}(hc:-1000≤c∧c≤1000)(hv:v∈leftV c):-1001≤v∧v≤1001:=by
 have key:∀i:Nat,-1000≤hvI c i∧hvI c i≤1000:=fun i=>by
  induction i with
  | zero=>exact hc
  | succ i ih=>simp only[hvI];omega
 rcases mem_leftV.1 hv with rfl|⟨i,hi,rfl|rfl⟩
 ·omega
 ·have:=key (i+1);omega
 ·have:=key (i+1);omega
theorem xC{w:Nat}{kind c:Int}{sums:Nat→Int}(hc:-1000≤c∧c≤1000)(hs:∀x,x<w→(sums x = -1∨sums x=0)∨(sums x=1∧kind=1)):Closed w (nxL kind sums) c (aZ::leftV c):=by
 refine⟨List.mem_cons_of_mem _ (xE c),fun s hsU x hx=>?_⟩
 unfold nxL
 split
 ·exact List.mem_cons_self
 ·next hne =>
  split
  ·exact List.mem_cons_self
  ·next hk =>
   refine List.mem_cons_of_mem _ ?_
   rcases List.mem_cons.1 hsU with h|h
   ·exact absurd h hne
   ·refine bA9 hc h ?_
    rcases hs x hx with h1|⟨h1,h2⟩
    ·exact .inl h1
    ·refine .inr ⟨h1,?_⟩
     by_cases h3:(s-sums x).tmod 2=0
     ·have:=Int.emod_eq_zero_of_dvd (Int.dvd_of_tmod_eq_zero h3)
      exact this
     ·exact absurd ⟨h2,h3⟩ hk
def sm2(c:Nat):Int:=lO [1,-1] c
def cJ(v:Int):Nat:=if v=aZ then 0 else if v=0 then 1 else if 0<v then 2 else 3
def kd2(a fx fy:Nat):Nat:=if a=0 then 0 else if a=1 then(if fx=1∨fy=1 then(if fx=2∨fy=2 then 0 else 3) else if fx=2∨fy=2 then 1 else 2)
 else if a=2 then(if fx=2 then 0 else if fy=2 then 6 else if fy=1 then 5 else 4) else(if fy=2 then 0 else if fx=2 then 6 else if fx=1 then 5 else 4)
def kdW(a:Nat):Ks→Nat
 | none=>0
 | some q=>kd2 a (q.getD 0 0) (q.getD 1 0)
def hW(v:Int)(k:Ks):Nat×Int:=(kdW (cJ v) k,if kdW (cJ v) k<4 then 0 else v)
def repK(n a:Nat):Ks:=if n=0 then none else if n=1 then some [2,2] else if n=2 then some [0,0] else if n=3 then some [1,1] else if n=4 then some [0,0] else if n=5 then some [1,1] else if a=2 then some [0,2] else some [2,0]
def nxW(s:Nat×Int)(c:Nat):Nat×Int:=hW (nxL 1 sm2 s.2 c) (vM 2 [0,1] (repK s.1 (cJ s.2)) c)
def accW(s:Nat×Int):Bool:=decide (s.1=1∨s.1=2)
def okW(a a' c:Nat):Bool:=if a=1 then decide (a'=if sm2 c=0 then 1 else 0) else if a=2 then decide (a'=0∨a'=2∨(a'=1∧sm2 c=1)) else decide (a'=0∨a'=3∨(a'=1∧sm2 c = -1))
def finW:Bool:=(List.range 4).all fun a=>(List.range 4).all fun a'=>(List.range 3).all fun fx=>(List.range 3).all fun fy=>(List.range 8).all fun c=>decide (a=0)||!okW a a' c||decide (kdW a' (vM 2 [0,1] (some [fx,fy]) c)=kdW a' (vM 2 [0,1] (repK (kd2 a fx fy) a) c))
theorem finW_ok:finW=true:=by decide +kernel
theorem way_fin{a a' fx fy c:Nat}(ha:a<4)(ha':a'<4)(hx:fx<3)(hy:fy<3)(hc:c<8)(h0:a≠0)(hk:okW a a' c=true):kdW a' (vM 2 [0,1] (some [fx,fy]) c)=kdW a' (vM 2 [0,1] (repK (kd2 a fx fy) a) c):=by
 have h:=finW_ok
 unfold finW at h
 have h1:=List.all_eq_true.1 h a (List.mem_range.2 ha)
 have h2:=List.all_eq_true.1 h1 a' (List.mem_range.2 ha')
 have h3:=List.all_eq_true.1 h2 fx (List.mem_range.2 hx)
 have h4:=List.all_eq_true.1 h3 fy (List.mem_range.2 hy)
 have h5:=List.all_eq_true.1 h4 c (List.mem_range.2 hc)
 rw[hk] at h5
 simpa[h0] using h5
theorem clsW_lt(v:Int):cJ v<4:=by
 unfold cJ
 split
 ·omega
 ·split
  ·omega
  ·split<;>omega
theorem aG4:∀c,c<8→sm2 c = -1∨sm2 c=0∨sm2 c=1:=by decide +kernel
theorem xR:cJ aZ=0:=by unfold cJ;rw[if_pos rfl]
theorem qX:cJ 0=1:=by decide
theorem cls_pos{v:Int}(h:0<v)(ho:v≠aZ):cJ v=2:=by unfold cJ;rw[if_neg ho,if_neg (by omega),if_pos h]
theorem cls_neg{v:Int}(h:v<0):cJ v=3:=by unfold cJ;rw[if_neg (by unfold aZ;omega),if_neg (by omega),if_neg (by omega)]
theorem nxL_cls{v:Int}{c:Nat}(hc:c<8)(hv:v≠aZ)(hb:v<1000000∧-1000000<v):okW (cJ v) (cJ (nxL 1 sm2 v c)) c=true:=by
 have hs:=aG4 c hc
 obtain⟨d,hd⟩:∃d,d=sm2 c:=⟨_,rfl⟩
 rcases Int.lt_trichotomy v 0 with v0|v0|v0
 ·rw[cls_neg v0]
  by_cases h:(v-d).tmod 2=0
  ·have hnx:nxL 1 sm2 v c=(v-d) / 2:=by
    unfold nxL
    rw[if_neg hv,←hd,if_neg (fun hh=>hh.2 h)]
   rw[hnx]
   have h2:(v-d) % 2=0:=Int.emod_eq_zero_of_dvd (Int.dvd_of_tmod_eq_zero h)
   rcases Int.lt_trichotomy ((v-d) / 2) 0 with w0|w0|w0
   ·rw[cls_neg w0];simp[okW]
   ·rw[w0,qX]
    have:d = -1:=by omega
    simp[okW,←hd,this]
   ·omega
  ·have hnx:nxL 1 sm2 v c=aZ:=by
    unfold nxL
    rw[if_neg hv,←hd,if_pos ⟨rfl,h⟩]
   rw[hnx,xR]
   simp[okW]
 ·subst v0
  rw[qX]
  by_cases h:((0:Int)-d).tmod 2=0
  ·have hnx:nxL 1 sm2 0 c=(0-d) / 2:=by
    unfold nxL
    rw[if_neg hv,←hd,if_neg (fun hh=>hh.2 h)]
   have h2:((0:Int)-d) % 2=0:=Int.emod_eq_zero_of_dvd (Int.dvd_of_tmod_eq_zero h)
   have hd0:d=0:=by omega
   rw[hnx,hd0,show ((0:Int)-0) / 2=0 from rfl,qX]
   simp[okW,←hd,hd0]
  ·have hnx:nxL 1 sm2 0 c=aZ:=by
    unfold nxL
    rw[if_neg hv,←hd,if_pos ⟨rfl,h⟩]
   have h2:((0:Int)-d) % 2≠0:=fun h3=>h (Int.tmod_eq_zero_of_dvd (Int.dvd_of_emod_eq_zero h3))
   have hd0:d≠0:=by omega
   rw[hnx,xR]
   simp[okW,←hd,hd0]
 ·rw[cls_pos v0 hv]
  by_cases h:(v-d).tmod 2=0
  ·have hnx:nxL 1 sm2 v c=(v-d) / 2:=by
    unfold nxL
    rw[if_neg hv,←hd,if_neg (fun hh=>hh.2 h)]
   rw[hnx]
   have h2:(v-d) % 2=0:=Int.emod_eq_zero_of_dvd (Int.dvd_of_tmod_eq_zero h)
   rcases Int.lt_trichotomy ((v-d) / 2) 0 with w0|w0|w0
   ·omega
   ·rw[w0,qX]
    have:d=1:=by omega
    simp[okW,←hd,this]
   ·rw[cls_pos w0 (by unfold aZ;omega)];simp[okW]
  ·have hnx:nxL 1 sm2 v c=aZ:=by
    unfold nxL
    rw[if_neg hv,←hd,if_pos ⟨rfl,h⟩]
   rw[hnx,xR]
   simp[okW]
def KsOk(k:Ks):Prop:=k=none∨∃fx fy,fx<3∧fy<3∧k=some [fx,fy]
theorem aT0(b:Bool)(st d:Nat):(stepT b st d).getD 0<3:=by
 cases h:stepT b st d with
 | none=>simp
 | some x=>simpa using aS8 h
theorem ks_ok(k:Ks)(c:Nat):KsOk (vM 2 [0,1] k c):=by
 cases k with
 | none=>exact .inl rfl
 | some q =>
  simp only[vM]
  split
  ·exact .inr ⟨_,_,aT0 _ _ _,aT0 _ _ _,rfl⟩
  ·exact .inl rfl
theorem kdW_le(a:Nat)(k:Ks):kdW a k≤6:=by
 cases k with
 | none=>simp[kdW]
 | some q =>
  unfold kdW kd2
  repeat' split
  all_goals omega
theorem kd_cls{a fx fy:Nat}(h:kd2 a fx fy≠0)(h4:kd2 a fx fy<4):a=1:=by
 unfold kd2 at h h4
 repeat' split at h
 all_goals first|omega|(split at h4<;>omega)|skip
 all_goals (repeat' split at h4)
 all_goals omega
theorem hW_step{v:Int}{k:Ks}{c:Nat}(hc:c<8)(hk:KsOk k)(hb:v=aZ∨(v<1000000∧-1000000<v)):nxW (hW v k) c=hW (nxL 1 sm2 v c) (vM 2 [0,1] k c):=by
 rcases hk with rfl|⟨fx,fy,hx,hy,rfl⟩
 ·rfl
 by_cases hv:v=aZ
 ·subst hv
  have e1:nxL 1 sm2 aZ c=aZ:=by unfold nxL;rw[if_pos rfl]
  have e2:∀k,hW aZ k=(0,0):=fun k=>by
   unfold hW
   rw[xR]
   cases k<;>simp[kdW,kd2]
  rw[e1,e2,e2]
  rfl
 have hb:v<1000000∧-1000000<v:=hb.resolve_left hv
 have ho:=nxL_cls hc hv hb
 have ha0:cJ v≠0:=by
  unfold cJ
  rw[if_neg hv]
  split
  ·omega
  ·split<;>omega
 have hf:=way_fin (clsW_lt v) (clsW_lt _) hx hy hc ha0 ho
 have e0:kdW (cJ v) (some [fx,fy])=kd2 (cJ v) fx fy:=rfl
 unfold nxW
 by_cases hn:kd2 (cJ v) fx fy=0
 ·have e3:hW v (some [fx,fy])=(0,0):=by unfold hW;rw[e0,hn];rfl
  rw[e3]
  rw[hn] at hf
  have e4:repK 0 (cJ v)=none:=rfl
  rw[e4] at hf
  have e5:∀w:Int,hW w (vM 2 [0,1] none c)=(0,0):=fun w=>rfl
  have e6:kdW (cJ (nxL 1 sm2 v c)) (vM 2 [0,1] none c)=0:=rfl
  rw[e6] at hf
  show hW _ (vM 2 [0,1] none c)=_
  rw[e5]
  unfold hW
  rw[hf]
  rfl
 by_cases h4:kd2 (cJ v) fx fy<4
 ·have h1:=kd_cls hn h4
  have v0:v=0:=by
   unfold cJ at h1
   rw[if_neg hv] at h1
   by_cases v0:v=0
   ·exact v0
   ·rw[if_neg v0] at h1
    split at h1<;>omega
  subst v0
  have e3:hW 0 (some [fx,fy])=(kd2 (cJ 0) fx fy,0):=by unfold hW;rw[e0,if_pos h4]
  rw[e3]
  show hW (nxL 1 sm2 0 c) (vM 2 [0,1] (repK (kd2 (cJ 0) fx fy) (cJ 0)) c)=_
  unfold hW
  rw[hf]
 ·have e3:hW v (some [fx,fy])=(kd2 (cJ v) fx fy,v):=by unfold hW;rw[e0,if_neg h4]
  rw[e3]
  show hW (nxL 1 sm2 v c) (vM 2 [0,1] (repK (kd2 (cJ v) fx fy) (cJ v)) c)=_
  unfold hW
  rw[hf]
theorem nxL_big{v:Int}{c:Nat}(hc:c<8)(hb:v=aZ∨(v<1000000∧-1000000<v)):nxL 1 sm2 v c=aZ∨(nxL 1 sm2 v c<1000000∧-1000000<nxL 1 sm2 v c):=by
 have hs:=aG4 c hc
 unfold nxL
 split
 ·exact .inl rfl
 ·next h =>
  split
  ·exact .inl rfl
  ·rcases hb with h1|h1
   ·exact absurd h1 h
   ·exact .inr (by omega)
theorem accW_eq{v:Int}{k:Ks}(hk:KsOk k):accW (hW v k)=(cO 1 v&&aD4 2 [0,1] k):=by
 have e1:cO 1 v=decide (v=0):=by unfold cO;simp
 rw[e1]
 rcases hk with rfl|⟨fx,fy,hx,hy,rfl⟩
 ·simp[accW,hW,kdW,aD4]
 have e0:(hW v (some [fx,fy])).1=kd2 (cJ v) fx fy:=rfl
 unfold accW
 rw[e0]
 have h3:∀fx,fx<3→∀fy,fy<3→decide (kd2 1 fx fy=1∨kd2 1 fx fy=2)=aD4 2 [0,1] (some [fx,fy]):=by decide +kernel
 by_cases v0:v=0
 ·subst v0
  rw[qX]
  simpa using h3 fx hx fy hy
 ·have hc1:cJ v≠1:=by
   unfold cJ
   split
   ·omega
   ·split<;>omega
  have hn:¬(kd2 (cJ v) fx fy=1∨kd2 (cJ v) fx fy=2):=fun h=>by
   rcases h with h|h
   ·exact hc1 (kd_cls (fx:=fx) (fy:=fy) (by rw[h];decide) (by rw[h];decide))
   ·exact hc1 (kd_cls (fx:=fx) (fy:=fy) (by rw[h];decide) (by rw[h];decide))
  simp[hn,v0]
theorem aS3:∀(cs:List Nat) (v:Int) (k:Ks),In 8 cs→KsOk k→(v=aZ∨(v<1000000∧-1000000<v))→bM nxW accW (hW v k) cs=(bM (nxL 1 sm2) (cO 1) v cs&&bM (vM 2 [0,1]) (aD4 2 [0,1]) k cs)
 | [],v,k,_,hk,_=>accW_eq hk
 | c::cs,v,k,hin,hk,hb=>by
  rw[bW,bW,bW,hW_step hin.head hk hb]
  exact aS3 cs _ _ hin.tail (ks_ok k c) (nxL_big hin.head hb)
def wayU(c:Int):List (Nat×Int):=(0,0)::(1,0)::(2,0)::(3,0)::(leftV c).flatMap fun v=>[(4,v),(5,v),(6,v)]
theorem wayU_len(c:Int):(wayU c).length=67:=by
 have h1:∀l:List Int,(l.flatMap fun v=>[((4:Nat),v),(5,v),(6,v)]).length=3*l.length:=fun l=>by
  induction l with
  | nil=>rfl
  | cons x xs ih=>rw[List.flatMap_cons,List.length_append,ih];simp;omega
 unfold wayU
 simp only[List.length_cons,h1,xF]
theorem sU{c:Int}{v:Int}{k:Ks}(h:v=aZ∨v=0∨v∈leftV c):hW v k∈wayU c:=by
 have hle:=kdW_le (cJ v) k
 by_cases h4:kdW (cJ v) k<4
 ·have e:hW v k=(kdW (cJ v) k,0):=by unfold hW;rw[if_pos h4]
  rw[e]
  have:kdW (cJ v) k=0∨kdW (cJ v) k=1∨kdW (cJ v) k=2∨kdW (cJ v) k=3:=by omega
  rcases this with h|h|h|h<;>rw[h]<;>simp[wayU]
 ·have e:hW v k=(kdW (cJ v) k,v):=by unfold hW;rw[if_neg h4]
  have hv:v∈leftV c:=by
   rcases h with rfl|rfl|h
   ·rw[xR] at h4
    exfalso
    apply h4
    cases k<;>simp[kdW,kd2]
   ·rw[qX] at h4
    exfalso
    apply h4
    cases k with
    | none=>simp[kdW]
    | some q =>
     unfold kdW kd2
     repeat' split
     all_goals omega
   ·exact h
  rw[e]
  refine List.mem_cons_of_mem _ (List.mem_cons_of_mem _ (List.mem_cons_of_mem _ (List.mem_cons_of_mem _ (List.mem_flatMap.2 ⟨v,hv,?_⟩))))
  have:kdW (cJ v) k=4∨kdW (cJ v) k=5∨kdW (cJ v) k=6:=by omega
  rcases this with h|h|h<;>rw[h]<;>simp
theorem aY1{c:Int}(hc:-1000≤c∧c≤1000):Closed 8 nxW (hW c (some [0,0])) (wayU c):=by
 refine⟨sU (.inr (.inr (xE c))),fun s hs x hx=>?_⟩
 have hsm:=aG4 x hx
 have nx0:nxL 1 sm2 0 x=aZ∨nxL 1 sm2 0 x=0:=by
  unfold nxL
  rw[if_neg (by unfold aZ;omega)]
  split
  ·exact .inl rfl
  ·next h =>
   by_cases h3:((0:Int)-sm2 x).tmod 2=0
   ·have h2:((0:Int)-sm2 x) % 2=0:=Int.emod_eq_zero_of_dvd (Int.dvd_of_tmod_eq_zero h3)
    exact .inr (by omega)
   ·exact absurd ⟨rfl,h3⟩ h
 unfold nxW
 have hs2:s.2=0∨s.2∈leftV c:=by
  unfold wayU at hs
  simp only[List.mem_cons,List.mem_flatMap,List.not_mem_nil,or_false] at hs
  rcases hs with rfl|rfl|rfl|rfl|⟨v,hv,rfl|rfl|rfl⟩<;>first|exact .inl rfl|exact .inr hv
 rcases hs2 with h|h
 ·rw[h]
  rcases nx0 with h|h
  ·exact sU (.inl h)
  ·exact sU (.inr (.inl h))
 ·have hcl:=(xC (w:=8) (kind:=1) (sums:=sm2) hc (fun y hy=>by have:=aG4 y hy;omega)).2 s.2 (List.mem_cons_of_mem _ h) x hx
  rcases List.mem_cons.1 hcl with h|h
  ·exact sU (.inl h)
  ·exact sU (.inr (.inr h))
theorem aI9{kind c0:Int}{terms U:List Int}{W:Aut}{c:Nat}(h:linN kind c0 terms U=(some W,c)):W=TA terms.length (fun cs=>(TA terms.length ((vL kind c0 terms U).lang 0)).lang 0 cs&&(TA terms.length (LD (List.range terms.length))).lang 0 cs):=by
 unfold linN at h
 obtain⟨G,hG⟩:∃G,G=told (TA terms.length ((vL kind c0 terms U).lang 0)):=⟨_,rfl⟩
 rw[←hG] at h
 obtain⟨a,d⟩:=G
 cases a with
 | none=>cases h
 | some X =>
  have hX:X=TA terms.length ((vL kind c0 terms U).lang 0):=by
   unfold told at hG
   split at hG
   ·cases hG
   ·cases hG;rfl
  subst hX
  have h:bD terms.length (fun a b=>a&&b) ((TA terms.length ((vL kind c0 terms U).lang 0)).lang 0) ((TA terms.length (LD (List.range terms.length))).lang 0)=(some W,c):=h
  unfold bD at h
  split at h
  ·cases h
  ·unfold told at h
   split at h
   ·cases h
   ·cases h;rfl
theorem sums_sm2:lO [1,-1]=sm2:=rfl
theorem vW{c:Int}(hc:-1000≤c∧c≤1000):Closed (wd 2) (nxL 1 (lO [1,-1])) c (aZ::leftV c):=xC hc fun y hy=>by
 have e8:wd 2=8:=by decide
 have:=aG4 y (by omega)
 rw[sums_sm2]
 omega
theorem way_small{c:Int}{W:Aut}{d:Nat}(hc:-1000≤c∧c≤1000)(h:linN 1 c [1,-1] (aZ::leftV c)=(some W,d)):W.y.length≤67:=by
 have hW:=aI9 h
 have e8:wd 2=8:=by decide
 have hU:=vW hc
 obtain⟨hX,-,hl⟩:=wZ (terms:=[1,-1]) hU
 have hX:(vL 1 c [1,-1] (aZ::leftV c)).Ok (wd 2):=hX
 have hTX:=(aY (t:=2) (by decide) hX hX.pos).1
 have hD:=(bU (t:=2) (by decide) (S:=List.range 2) (fun k hk=>List.mem_range.1 hk)).1
 have hcl:=aY1 hc
 rw[←e8] at hcl
 obtain⟨h1,h2,h3⟩:=cN (a:=accW) hcl
 have hs:=(tJ (t:=2) h1 h1.pos (L:=fun cs=>(TA 2 ((vL 1 c [1,-1] (aZ::leftV c)).lang 0)).lang 0 cs&&(TA 2 (LD (List.range 2))).lang 0 cs) fun cs hcs=>by
  rw[h3 cs hcs,aS3 cs c (some [0,0]) (by rw[←e8];exact hcs) (.inr ⟨0,0,by decide,by decide,rfl⟩) (.inr (by omega))]
  show _=(cB 2 0 cs&&((TA 2 ((vL 1 c [1,-1] (aZ::leftV c)).lang 0)).lang 0 cs&&(TA 2 (LD (List.range 2))).lang 0 cs))
  rw[hTX.lang hcs,hD.lang hcs]
  have e1:bM (vM 2 [0,1]) (aD4 2 [0,1]) (some [0,0]) cs=rl 2 (LD (List.range 2)) cs:=ks_rl (t:=2) (S:=List.range 2) (fun k hk=>List.mem_range.1 hk) cs
  have e2:(vL 1 c [1,-1] (aZ::leftV c)).lang 0 cs=bM (nxL 1 sm2) (cO 1) c cs:=hl cs hcs
  rw[e1]
  unfold rl
  rw[e2]
  cases cB 2 0 cs<;>simp).2
 rw[hW]
 exact Nat.le_trans hs (Nat.le_trans h2 (by rw[wayU_len];exact Nat.le_refl _))
theorem sJ:∀{u ds:List Nat},(∀d∈u,d≠2)→bL false (u++ds)=bL false ds
 | [],_,_=>rfl
 | d::u,ds,h=>by
  have hd:=h d List.mem_cons_self
  have ih:=sJ (u:=u) (ds:=ds) fun x hx=>h x (List.mem_cons_of_mem _ hx)
  simp only[List.cons_append,bL]
  simpa[hd] using ih
theorem rtape_all2:∀{ds:List Nat},bL true ds=true↔∀d∈ds,d=2
 | []=>by simp[bL]
 | d::ds=>by
  have ih:=rtape_all2 (ds:=ds)
  simp only[bL]
  by_cases hd:d=2
  ·simp[hd,ih]
  ·simp[hd]
theorem yM:∀{b:Bool} {ds:List Nat},(∀d∈ds,d=2)→bL b ds=true
 | b,[],_=>rfl
 | b,d::ds,h=>by
  have hd:=h d List.mem_cons_self
  have ih:=yM (b:=true) (ds:=ds) fun x hx=>h x (List.mem_cons_of_mem _ hx)
  simp only[bL]
  simp[hd,ih]
theorem yN:∀{b:Bool} {u ds:List Nat},(∀d∈ds,d=2)→bL b (u++ds)=bL b u
 | b,[],ds,h=>by rw[List.nil_append,yM h];rfl
 | b,d::u,ds,h=>by
  simp only[List.cons_append,bL]
  rw[yN h]
theorem aH2:∀{b:Bool} {u ds:List Nat},bL b (u++2::ds)=true→bL true ds=true
 | b,[],ds,h=>by
  simp only[List.nil_append,bL,Bool.and_eq_true] at h
  simpa using h.2
 | b,d::u,ds,h=>by
  simp only[List.cons_append,bL,Bool.and_eq_true] at h
  exact aH2 h.2
theorem iM{t at_:Nat}(h:at_≤t)(w:List Nat):cB (t+1) 0 w=true↔(∀k,k<t→bL false (w.map fun c=>dg (aL t at_ c) k)=true)∧bL false (w.map (dg · at_))=true:=by
 rw[dW w 0 (Nat.two_pow_pos _)]
 have e:∀k,k<t→(w.map fun c=>dg (aL t at_ c) k)=w.map (dg · (if k<at_ then k else k+1)):=fun k hk=>List.map_congr_left fun c _=>fL c h hk
 constructor
 ·intro hh
  refine⟨fun k hk=>?_,by simpa using hh at_ (by omega)⟩
  rw[e k hk]
  have:=hh (if k<at_ then k else k+1) (by split<;>omega)
  simpa using this
 ·rintro⟨h1,h2⟩ k hk
  rw[Nat.zero_testBit]
  by_cases hka:k=at_
  ·subst hka;exact h2
  ·by_cases hlt:k<at_
   ·have:=h1 k (by omega)
    rw[e k (by omega),if_pos hlt] at this
    exact this
   ·have:=h1 (k-1) (by omega)
    rw[e (k-1) (by omega),if_neg (by omega),Nat.sub_add_cancel (by omega)] at this
    exact this
theorem qL{t at_ c:Nat}(h:at_≤t)(hc:c<wd (t+1))(hd:dg c at_=2):aL t at_ c<wd t:=by
 rcases Nat.lt_or_ge (aL t at_ c) (wd t) with h1|h1
 ·exact h1
 ·exfalso
  have he:aL t at_ c=wd t:=by have:=lE (t:=t) (at_:=at_) c h;omega
  obtain⟨k,hk,hk2⟩:=aS2 hc
  by_cases hka:k=at_
  ·exact hk2 (by rw[hka];exact hd)
  ·by_cases hlt:k<at_
   ·have:=fL (t:=t) (at_:=at_) (k:=k) c h (by omega)
    rw[he,aE2 t k (by omega),if_pos hlt] at this
    exact hk2 this.symm
   ·have:=fL (t:=t) (at_:=at_) (k:=k-1) c h (by omega)
    rw[he,aE2 t (k-1) (by omega),if_neg (by omega),Nat.sub_add_cancel (by omega)] at this
    exact hk2 this.symm
theorem less_all{t at_ c:Nat}(h:at_≤t)(ha:∀k,k<t→dg (aL t at_ c) k=2):¬aL t at_ c<wd t:=fun h1=>by
 obtain⟨k,hk,hk2⟩:=aS2 h1
 exact hk2 (ha k hk)
def nxE(t at_:Nat)(W:Aut)(s:Nat×Nat)(c:Nat):Nat×Nat :=
 if s.1=0 then(if dg c at_=2 then(1,W.to s.2 (aL t at_ c)) else if aL t at_ c<wd t then(0,W.to s.2 (aL t at_ c)) else if W.y.getD s.2 false=true then(2,0) else(3,0))
 else if s.1=1 then(if dg c at_=2 then(1,W.to s.2 (aL t at_ c)) else(3,0))
 else if s.1=2 then(if dg c at_=2 then(3,0) else if aL t at_ c<wd t then(3,0) else(2,0)) else(3,0)
def accE(W:Aut)(s:Nat×Nat):Bool:=if s.1=0∨s.1=1 then W.y.getD s.2 false else decide (s.1=2)
variable {t at_:Nat} {W:Aut}
theorem sS:∀cs:List Nat,bM (nxE t at_ W) (accE W) (3,0) cs=false
 | []=>rfl
 | c::cs=>by
  rw[bW,show nxE t at_ W (3,0) c=(3,0) from rfl]
  exact sS cs
theorem dG{w:Nat}{col:Nat→Nat}{c:Nat}{cs:List Nat}(h:col c<w):dB w col (c::cs)=col c::dB w col cs:=by
 unfold dB
 rw[List.filterMap_cons,if_pos h]
theorem dY{w:Nat}{col:Nat→Nat}{c:Nat}{cs:List Nat}(h:¬col c<w):dB w col (c::cs)=dB w col cs:=by
 unfold dB
 rw[List.filterMap_cons,if_neg h]
theorem aH9(h:at_≤t):∀(cs:List Nat) (q:Nat),In (wd (t+1)) cs→bM (nxE t at_ W) (accE W) (1,q) cs=(bL true (cs.map (dg · at_))&&W.lang q (dB (wd t) (aL t at_) cs))
 | [],q,_=>by simp[bM,accE,bL,dB,Aut.lang,Aut.run]
 | c::cs,q,hc=>by
  rw[bW]
  by_cases hd:dg c at_=2
  ·have hlt:=qL h hc.head hd
   have e:nxE t at_ W (1,q) c=(1,W.to q (aL t at_ c)):=by unfold nxE;simp[hd]
   rw[e,aH9 h cs _ hc.tail,dG hlt]
   simp only[List.map_cons,bL,hd]
   simp[Aut.lang,Aut.run]
  ·have e:nxE t at_ W (1,q) c=(3,0):=by unfold nxE;simp[hd]
   rw[e,sS]
   simp[bL,hd]
theorem aU2:∀(cs:List Nat),bM (nxE t at_ W) (accE W) (2,0) cs=cs.all fun c=>decide (dg c at_≠2)&&decide (¬aL t at_ c<wd t)
 | []=>rfl
 | c::cs=>by
  rw[bW,List.all_cons]
  by_cases hd:dg c at_=2
  ·have e:nxE t at_ W (2,0) c=(3,0):=by unfold nxE;simp[hd]
   rw[e,sS]
   simp[hd]
  ·by_cases hl:aL t at_ c<wd t
   ·have e:nxE t at_ W (2,0) c=(3,0):=by unfold nxE;simp[hl]
    rw[e,sS]
    simp[hl]
   ·have e:nxE t at_ W (2,0) c=(2,0):=by unfold nxE;simp[hd,hl]
    rw[e,aU2 cs]
    simp[hd,hl]
theorem aD1(w:Nat)(col:Nat→Nat)(u v:List Nat):dB w col (u++v)=dB w col u++dB w col v:=by
 unfold dB
 rw[List.filterMap_append]
theorem qK{w:Nat}{col:Nat→Nat}:∀{u:List Nat},(∀c∈u,col c<w)→dB w col u=u.map col
 | [],_=>rfl
 | c::u,h=>by
  rw[dG (h c List.mem_cons_self),qK fun x hx=>h x (List.mem_cons_of_mem _ hx)]
  rfl
theorem wY{w:Nat}{col:Nat→Nat}:∀{u:List Nat},(∀c∈u,¬col c<w)→dB w col u=[]
 | [],_=>rfl
 | c::u,h=>by
  rw[dY (h c List.mem_cons_self),wY fun x hx=>h x (List.mem_cons_of_mem _ hx)]
theorem aV2(A:Aut)(q:Nat)(u v:List Nat):A.lang q (u++v)=A.lang (u.foldl A.to q) v:=by
 unfold Aut.lang Aut.run
 rw[List.foldl_append]
theorem nxE_open(h:at_≤t)(hW:∀ds,In (wd t) ds→W.lang 0 ds=true→cB t 0 ds=true):∀(cs u:List Nat),In (wd (t+1)) cs→In (wd (t+1)) u→(∀c∈u,dg c at_≠2∧aL t at_ c<wd t) →
  bM (nxE t at_ W) (accE W) (0,(u.map (aL t at_)).foldl W.to 0) cs=rl (t+1) (bV t at_ (W.lang 0)) (u++cs):=by
 have others:∀w:List Nat,(∀c∈w,aL t at_ c<wd t)→W.lang 0 (w.map (aL t at_))=true→∀k,k<t→bL false (w.map fun c=>dg (aL t at_ c) k)=true:=fun w hw hl k hk=>by
  have:=hW (w.map (aL t at_)) (fun d hd=>by obtain⟨c,hc,rfl⟩:=List.mem_map.1 hd;exact hw c hc) hl
  have:=(dW _ 0 (Nat.two_pow_pos t)).1 this k hk
  rw[Nat.zero_testBit,List.map_map] at this
  exact this
 intro cs
 induction cs with
 | nil =>
  intro u _ _ hu
  have hu1:∀c∈u,aL t at_ c<wd t:=fun c hc=>(hu c hc).2
  rw[List.append_nil]
  unfold rl bV
  rw[qK hu1]
  have e1:bM (nxE t at_ W) (accE W) (0,(u.map (aL t at_)).foldl W.to 0) []=W.lang 0 (u.map (aL t at_)):=by simp[bM,accE,Aut.lang,Aut.run]
  rw[e1,Bool.eq_iff_iff,Bool.and_eq_true]
  refine⟨fun hl=>⟨(iM h u).2 ⟨others u hu1 hl,?_⟩,hl⟩,fun hh=>hh.2⟩
  have:=sJ (u:=u.map (dg · at_)) (ds:=[]) fun d hd=>by obtain⟨c,hc,rfl⟩:=List.mem_map.1 hd;exact(hu c hc).1
  rw[List.append_nil] at this
  rw[this]
  rfl
 | cons c cs ih =>
  intro u hcs hiu hu
  have hu1:∀c∈u,aL t at_ c<wd t:=fun c hc=>(hu c hc).2
  have hu2:∀d∈u.map (dg · at_),d≠2:=fun d hd=>by obtain⟨x,hx,rfl⟩:=List.mem_map.1 hd;exact(hu x hx).1
  rw[bW]
  obtain⟨q,hq⟩:∃q,q=(u.map (aL t at_)).foldl W.to 0:=⟨_,rfl⟩
  by_cases hd:dg c at_=2
  ·have hlt:=qL h hcs.head hd
   have e:nxE t at_ W (0,(u.map (aL t at_)).foldl W.to 0) c=(1,W.to ((u.map (aL t at_)).foldl W.to 0) (aL t at_ c)):=by unfold nxE;simp[hd]
   rw[e,aH9 h cs _ hcs.tail]
   have em:dB (wd t) (aL t at_) (u++c::cs)=u.map (aL t at_)++aL t at_ c::dB (wd t) (aL t at_) cs:=by rw[aD1,qK hu1,dG hlt]
   have el:W.lang 0 (dB (wd t) (aL t at_) (u++c::cs))=W.lang (W.to ((u.map (aL t at_)).foldl W.to 0) (aL t at_ c)) (dB (wd t) (aL t at_) cs):=by rw[em,aV2];rfl
   have et:bL false ((u++c::cs).map (dg · at_))=bL true (cs.map (dg · at_)):=by
    rw[List.map_append,sJ hu2]
    simp only[List.map_cons,bL,hd]
    simp
   unfold rl bV
   rw[el,Bool.eq_iff_iff,Bool.and_eq_true,Bool.and_eq_true]
   constructor
   ·rintro⟨h1,h2⟩
    refine⟨(iM h _).2 ⟨?_,by rw[et];exact h1⟩,h2⟩
    have hall:=rtape_all2.1 h1
    have hw:∀x∈u++c::cs,aL t at_ x<wd t:=fun x hx=>by
     rcases List.mem_append.1 hx with hx|hx
     ·exact hu1 x hx
     ·rcases List.mem_cons.1 hx with rfl|hx
      ·exact hlt
      ·exact qL h (hcs.tail x hx) (hall _ (List.mem_map.2 ⟨x,hx,rfl⟩))
    refine others _ hw ?_
    rw[←qK hw,el]
    exact h2
   ·rintro⟨h1,h2⟩
    refine⟨?_,h2⟩
    rw[←et]
    exact((iM h _).1 h1).2
  ·by_cases hl:aL t at_ c<wd t
   ·have e:nxE t at_ W (0,(u.map (aL t at_)).foldl W.to 0) c=(0,((u++[c]).map (aL t at_)).foldl W.to 0):=by
     unfold nxE
     simp[hd,hl]
    rw[e,ih (u++[c]) hcs.tail (hiu.append (In.cons hcs.head (In.nil _))) fun x hx=>by
     rcases List.mem_append.1 hx with hx|hx
     ·exact hu x hx
     ·rw[List.mem_singleton.1 hx];exact⟨hd,hl⟩]
    rw[List.append_assoc]
    rfl
   ·have hc2:∀k,k<t→dg (aL t at_ c) k=2:=fun k hk=>by
     have he:aL t at_ c=wd t:=by have:=lE (t:=t) (at_:=at_) c h;omega
     rw[he,aE2 t k hk]
    have ea:W.lang 0 (u.map (aL t at_))=W.y.getD ((u.map (aL t at_)).foldl W.to 0) false:=by simp[Aut.lang,Aut.run]
    have e:nxE t at_ W (0,(u.map (aL t at_)).foldl W.to 0) c=if W.lang 0 (u.map (aL t at_))=true then(2,0) else(3,0):=by
     rw[ea]
     unfold nxE
     simp[hd,hl]
    have key:rl (t+1) (bV t at_ (W.lang 0)) (u++c::cs)=(W.lang 0 (u.map (aL t at_))&&cs.all fun c=>decide (dg c at_≠2)&&decide (¬aL t at_ c<wd t)):=by
     unfold rl bV
     rw[Bool.eq_iff_iff,Bool.and_eq_true,Bool.and_eq_true,List.all_eq_true]
     constructor
     ·rintro⟨h1,h2⟩
      obtain⟨h3,h4⟩:=(iM h _).1 h1
      have hoth:∀x∈cs,¬aL t at_ x<wd t:=fun x hx=>less_all h fun k hk=>by
       have:=h3 k hk
       rw[List.map_append,List.map_cons,hc2 k hk] at this
       exact rtape_all2.1 (aH2 this) _ (List.mem_map.2 ⟨x,hx,rfl⟩)
      have hno:dB (wd t) (aL t at_) (u++c::cs)=u.map (aL t at_):=by
       rw[aD1,qK hu1,wY fun x hx=>by
        rcases List.mem_cons.1 hx with rfl|hx
        ·exact hl
        ·exact hoth x hx]
       simp
      rw[hno] at h2
      refine⟨h2,fun x hx=>?_⟩
      have hx2:dg x at_≠2:=fun hh=>hoth x hx (qL h (hcs.tail x hx) hh)
      simp only[Bool.and_eq_true,decide_eq_true_eq]
      exact⟨hx2,hoth x hx⟩
     ·rintro⟨h1,h2⟩
      have h2':∀x∈cs,dg x at_≠2∧¬aL t at_ x<wd t:=fun x hx=>by
       have:=h2 x hx
       simp only[Bool.and_eq_true,decide_eq_true_eq] at this
       exact this
      have hno:dB (wd t) (aL t at_) (u++c::cs)=u.map (aL t at_):=by
       rw[aD1,qK hu1,wY fun x hx=>by
        rcases List.mem_cons.1 hx with rfl|hx
        ·exact hl
        ·exact(h2' x hx).2]
       simp
      rw[hno]
      refine⟨(iM h _).2 ⟨fun k hk=>?_,?_⟩,h1⟩
      ·rw[List.map_append,yN fun d hd'=>by
        obtain⟨x,hx,rfl⟩:=List.mem_map.1 hd'
        rcases List.mem_cons.1 hx with rfl|hx
        ·exact hc2 k hk
        ·have he:aL t at_ x=wd t:=by have:=lE (t:=t) (at_:=at_) x h;have:=(h2' x hx).2;omega
         rw[he,aE2 t k hk]]
       exact others u hu1 h1 k hk
      ·have:=sJ (u:=(u++c::cs).map (dg · at_)) (ds:=[]) fun d hd'=>by
        obtain⟨x,hx,rfl⟩:=List.mem_map.1 hd'
        rcases List.mem_append.1 hx with hx|hx
        ·exact(hu x hx).1
        ·rcases List.mem_cons.1 hx with rfl|hx
         ·exact hd
         ·exact(h2' x hx).1
       rw[List.append_nil] at this
       rw[this]
       rfl
    rw[key,e]
    by_cases hw:W.lang 0 (u.map (aL t at_))=true
    ·rw[if_pos hw,aU2,hw,Bool.true_and]
    ·rw[if_neg hw,sS]
     simp at hw
     rw[hw,Bool.false_and]
def addU(n:Nat):List (Nat×Nat):=(3,0)::(2,0)::(List.range n).flatMap fun q=>[(0,q),(1,q)]
theorem addU_len(n:Nat):(addU n).length=2*n+2:=by
 have h1:∀l:List Nat,(l.flatMap fun q=>[((0:Nat),q),(1,q)]).length=2*l.length:=fun l=>by
  induction l with
  | nil=>rfl
  | cons x xs ih=>rw[List.flatMap_cons,List.length_append,ih];simp;omega
 unfold addU
 simp only[List.length_cons,h1,List.length_range]
theorem vK{n b q:Nat}(hb:b<2)(hq:q<n):(b,q)∈addU n:=by
 refine List.mem_cons_of_mem _ (List.mem_cons_of_mem _ (List.mem_flatMap.2 ⟨q,List.mem_range.2 hq,?_⟩))
 have:b=0∨b=1:=by omega
 rcases this with rfl|rfl<;>simp
theorem aR7(h:at_≤t)(hW:W.Ok (wd t)):Closed (wd (t+1)) (nxE t at_ W) (0,0) (addU W.y.length):=by
 refine⟨vK (by omega) hW.pos,fun s hs c hc=>?_⟩
 have d0:((3,0):Nat×Nat)∈addU W.y.length:=List.mem_cons_self
 have d1:((2,0):Nat×Nat)∈addU W.y.length:=List.mem_cons_of_mem _ List.mem_cons_self
 have hs2:s.1=3∨s.1=2∨s.2<W.y.length:=by
  unfold addU at hs
  simp only[List.mem_cons,List.mem_flatMap,List.not_mem_nil,or_false,List.mem_range] at hs
  rcases hs with rfl|rfl|⟨q,hq,rfl|rfl⟩
  ·exact .inl rfl
  ·exact .inr (.inl rfl)
  ·exact .inr (.inr hq)
  ·exact .inr (.inr hq)
 unfold nxE
 split
 ·next h0 =>
  have hq:s.2<W.y.length:=by omega
  split
  ·next hd=>exact vK (by omega) (hW.to hq (qL h hc hd))
  ·split
   ·next hl=>exact vK (by omega) (hW.to hq hl)
   ·split
    ·exact d1
    ·exact d0
 ·split
  ·next h0 =>
   have hq:s.2<W.y.length:=by omega
   split
   ·next hd=>exact vK (by omega) (hW.to hq (qL h hc hd))
   ·exact d0
  ·split
   ·split
    ·exact d0
    ·split
     ·exact d0
     ·exact d1
   ·exact d0
theorem add_len(h:at_≤t)(hW:W.Ok (wd t))(hr:∀ds,In (wd t) ds→W.lang 0 ds=true→cB t 0 ds=true):(TA (t+1) (bV t at_ (W.lang 0))).y.length≤2*W.y.length+2:=by
 obtain⟨h1,h2,h3⟩:=cN (a:=accE W) (aR7 h hW)
 have hs:=(tJ (t:=t+1) h1 h1.pos (L:=bV t at_ (W.lang 0)) fun cs hcs=>by
  rw[h3 cs hcs]
  exact nxE_open h hr cs [] hcs (In.nil _) (fun _ hx=>by cases hx)).2
 exact Nat.le_trans hs (Nat.le_trans h2 (by rw[addU_len];exact Nat.le_refl _))
def diag(a b:Nat)(cs:List Nat):Bool:=cs.all fun c=>decide (dg c a=dg c b)
def piC(c:Nat):Nat:=dg c 0+3*dg c 2
theorem dg_small{x y:Nat}(hx:x<3)(hy:y<3):dg (x+3*y) 0=x∧dg (x+3*y) 1=y:=by
 unfold dg qt
 simp only[p3]
 omega
theorem piC_dg(c:Nat):dg (piC c) 0=dg c 0∧dg (piC c) 1=dg c 2:=dg_small (vF c 0) (vF c 2)
theorem piC_lt{c:Nat}(hc:c<wd 3)(hd:dg c 0=dg c 1):piC c<wd 2:=by
 obtain⟨k,hk,hk2⟩:=aS2 hc
 have h0:=vF c 0
 have h2:=vF c 2
 have e:wd 2=8:=by decide
 rw[e]
 unfold piC
 have:k=0∨k=1∨k=2:=by omega
 rcases this with rfl|rfl|rfl<;>omega
theorem aV1{c:Nat}(hc:dg c 0<3):aL 1 1 c=dg c 0:=by
 have h1:=fL (t:=1) (at_:=1) (k:=0) c (by omega) (by omega)
 have h2:=lE (t:=1) (at_:=1) c (by omega)
 rw[if_pos (by omega)] at h1
 have e:wd 1=2:=by decide
 have:dg (aL 1 1 c) 0=aL 1 1 c:=by unfold dg;rw[tV];omega
 omega
theorem zE:∀cs:List Nat,In (wd 3) cs→diag 0 1 cs=true→dB (wd 1) (aL 1 1) (dB (wd 2) (aL 2 2) cs)=dB (wd 1) (aL 1 1) (cs.map piC)
 | [],_,_=>rfl
 | c::cs,hc,hd=>by
  unfold diag at hd
  rw[List.all_cons,Bool.and_eq_true,decide_eq_true_eq] at hd
  have ih:=zE cs hc.tail hd.2
  have e2:wd 1=2:=by decide
  have hp:aL 1 1 (piC c)=dg c 0:=by rw[aV1 (vF _ _),(piC_dg c).1]
  rw[List.map_cons]
  by_cases h2:aL 2 2 c<wd 2
  ·rw[dG h2]
   have hq:aL 1 1 (aL 2 2 c)=dg c 0:=by
    rw[aV1 (vF _ _),fL (t:=2) (at_:=2) (k:=0) c (by omega) (by omega)]
    rfl
   by_cases h0:dg c 0<wd 1
   ·rw[dG (by rw[hq];exact h0),dG (by rw[hp];exact h0),hq,hp,ih]
   ·rw[dY (by rw[hq];exact h0),dY (by rw[hp];exact h0),ih]
  ·rw[dY h2]
   have he:aL 2 2 c=wd 2:=by have:=lE (t:=2) (at_:=2) c (by omega);omega
   have h0:dg c 0=2:=by
    have:=fL (t:=2) (at_:=2) (k:=0) c (by omega) (by omega)
    rw[he,aE2 2 0 (by omega)] at this
    exact this.symm
   rw[dY (by rw[hp,h0,e2];omega),ih]
theorem aL4:∀cs:List Nat,diag 0 1 (dB (wd 2) (aL 2 2) cs)=diag 0 1 cs
 | []=>rfl
 | c::cs=>by
  have ih:=aL4 cs
  have d0:=fL (t:=2) (at_:=2) (k:=0) c (by omega) (by omega)
  have d1:=fL (t:=2) (at_:=2) (k:=1) c (by omega) (by omega)
  rw[if_pos (by omega)] at d0 d1
  unfold diag at ih ⊢
  by_cases h2:aL 2 2 c<wd 2
  ·rw[dG h2,List.all_cons,List.all_cons,ih,d0,d1]
  ·rw[dY h2,List.all_cons,ih]
   have he:aL 2 2 c=wd 2:=by have:=lE (t:=2) (at_:=2) c (by omega);omega
   rw[he,aE2 2 0 (by omega)] at d0
   rw[he,aE2 2 1 (by omega)] at d1
   rw[←d0,←d1]
   simp
theorem aT5{cs:List Nat}(hd:diag 0 1 cs=true):cB 3 0 cs=cB 2 0 (cs.map piC):=by
 rw[Bool.eq_iff_iff,dW cs 0 (Nat.two_pow_pos 3),dW (cs.map piC) 0 (Nat.two_pow_pos 2)]
 have e0:(cs.map piC).map (dg · 0)=cs.map (dg · 0):=by rw[List.map_map];exact List.map_congr_left fun c _=>(piC_dg c).1
 have e1:(cs.map piC).map (dg · 1)=cs.map (dg · 2):=by rw[List.map_map];exact List.map_congr_left fun c _=>(piC_dg c).2
 have e2:cs.map (dg · 1)=cs.map (dg · 0):=List.map_congr_left fun c hc=>by
  have:=List.all_eq_true.1 hd c hc
  simpa using (show dg c 0=dg c 1 by simpa using this).symm
 simp only[Nat.zero_testBit]
 constructor
 ·intro h k hk
  have:k=0∨k=1:=by omega
  rcases this with rfl|rfl
  ·rw[e0];exact h 0 (by omega)
  ·rw[e1];exact h 2 (by omega)
 ·intro h k hk
  have:k=0∨k=1∨k=2:=by omega
  rcases this with rfl|rfl|rfl
  ·rw[←e0];exact h 0 (by omega)
  ·rw[e2,←e0];exact h 0 (by omega)
  ·rw[←e1];exact h 1 (by omega)
def nxS(B:Aut)(a b:Nat)(q:Int)(c:Nat):Int:=if q<0∨dg c a≠dg c b then -1 else(B.to q.toNat c:Int)
def acS(B:Aut)(q:Int):Bool:=decide (0≤q)&&B.y.getD q.toNat false
def aB3(n:Nat):List Int:=-1::(List.range n).map fun(q:Nat)=>(q:Int)
theorem aU1(B:Aut)(a b:Nat):∀cs:List Nat,bM (nxS B a b) (acS B) (-1) cs=false
 | []=>rfl
 | c::cs=>by
  rw[bW,show nxS B a b (-1) c = -1 from if_pos (.inl (by omega))]
  exact aU1 B a b cs
theorem sR(B:Aut)(a b:Nat):∀(cs:List Nat) (q:Nat),bM (nxS B a b) (acS B) (q:Int) cs=(B.lang q cs&&diag a b cs)
 | [],q=>by simp[bM,acS,Aut.lang,Aut.run,diag]
 | c::cs,q=>by
  rw[bW]
  by_cases hd:dg c a=dg c b
  ·have e:nxS B a b (q:Int) c=(B.to q c:Int):=by unfold nxS;rw[if_neg (by omega)];simp
   rw[e,sR B a b cs]
   simp[diag,hd,Aut.lang,Aut.run]
  ·have e:nxS B a b (q:Int) c = -1:=by unfold nxS;rw[if_pos (.inr hd)]
   rw[e,aU1]
   simp[diag,hd]
theorem rP{w a b s:Nat}{B:Aut}(hB:B.Ok w)(hs:s<B.y.length):Closed w (nxS B a b) (s:Int) (aB3 B.y.length):=by
 have hm:∀q,q<B.y.length→(q:Int)∈aB3 B.y.length:=fun q hq=>List.mem_cons_of_mem _ (List.mem_map.2 ⟨q,List.mem_range.2 hq,rfl⟩)
 refine⟨hm s hs,fun q hq c hc=>?_⟩
 unfold nxS
 split
 ·exact List.mem_cons_self
 ·next h =>
  rcases List.mem_cons.1 hq with rfl|hq
  ·exact absurd (.inl (by omega)) h
  ·obtain⟨p,hp,rfl⟩:=List.mem_map.1 hq
   exact hm _ (hB.to (List.mem_range.1 hp) hc)
theorem TA_dia{t a b:Nat}(ht:t≤3){B:Aut}(hB:B.Ok (wd t)):IsTidy (wd t) (TA t (fun cs=>B.lang 0 cs&&diag a b cs)) (rl t (fun cs=>B.lang 0 cs&&diag a b cs)):=by
 obtain⟨h1,h2,h3⟩:=cN (a:=acS B) (rP (a:=a) (b:=b) hB hB.pos)
 have e:TA t ((aQ (wd t) (nxS B a b) (acS B) (aH (succs (wd t) (nxS B a b)) ((0:Nat):Int) (aB3 B.y.length).length)).lang 0)=TA t (fun cs=>B.lang 0 cs&&diag a b cs):=cP fun cs hc _=>by rw[h3 cs hc,sR]
 have h:=(aY ht h1 h1.pos).1
 rw[e] at h
 obtain⟨κ,i1,nx,ac,s',n,hd,hA,hdist,hl⟩:=h
 exact⟨κ,i1,nx,ac,s',n,hd,hA,hdist,fun cs hc=>by rw[hl cs hc];unfold rl;rw[h3 cs hc,sR]⟩
theorem aG6{A:Aut}{s:Nat}(hA:A.Ok (wd 1))(hs:s<A.y.length):(TA 3 (bV 2 2 ((TA 2 (fun cs=>(TA 2 (bV 1 1 (A.lang s))).lang 0 cs&&diag 0 1 cs)).lang 0))).y.length≤(TA 2 (bV 1 1 (A.lang s))).y.length:=by
 have hB:=(aY (t:=2) (by decide) (rR (w':=wd 2) (col:=aL 1 1) hA) (s:=s) hs).1
 have eB:TA 2 ((yD (wd 1) (wd 2) A (aL 1 1)).lang s)=TA 2 (bV 1 1 (A.lang s)):=bE0 (t:=1) (at_:=1) hA hs
 rw[eB] at hB
 have hBl:∀ds,In (wd 2) ds→(TA 2 (bV 1 1 (A.lang s))).lang 0 ds=rl 2 (bV 1 1 (A.lang s)) ds:=fun ds hds=>by
  rw[hB.lang hds]
  unfold rl
  rw[pS hA ds s hs hds]
  rfl
 obtain⟨B,hBB⟩:∃B,B=TA 2 (bV 1 1 (A.lang s)):=⟨_,rfl⟩
 rw[←hBB] at hB hBl ⊢
 have e26:In (wd 2) [2,0]:=by
  have e2:wd 2=8:=by decide
  rw[e2]
  intro c hc
  simp at hc
  omega
 obtain⟨q0,hq0⟩:∃q,q=[2,0].foldl B.to 0:=⟨_,rfl⟩
 have hq0l:q0<B.y.length:=by
  rw[hq0]
  exact hB.ok.to (hB.ok.to hB.ok.pos (e26.head)) (e26.tail.head)
 have dead0:∀ds,In (wd 2) ds→B.lang q0 ds=false:=fun ds hds=>by
  rw[hq0,←aV2,hBl _ (e26.append hds)]
  have:cB 2 0 ([2,0]++ds)=false:=by
   rw[Bool.eq_false_iff]
   intro hr
   have:=(dW _ 0 (Nat.two_pow_pos 2)).1 hr 0 (by omega)
   have d2:dg 2 0=2:=by decide
   have d0:dg 0 0=0:=by decide
   simp[bL,d2,d0] at this
  unfold rl
  rw[this,Bool.false_and]
 obtain⟨nx,hnx⟩:∃nx:Nat→Nat→Nat,nx=fun q c=>if dg c 0=dg c 1 then B.to q (piC c) else q0:=⟨_,rfl⟩
 obtain⟨ac,hac⟩:∃ac:Nat→Bool,ac=fun q=>B.y.getD q false:=⟨_,rfl⟩
 have deadL:∀(cs:List Nat) (q:Nat),In (wd 3) cs→(∀ds,In (wd 2) ds→B.lang q ds=false)→bM nx ac q cs=false:=by
  intro cs
  induction cs with
  | nil =>
   intro q _ hq
   have:=hq [] (In.nil _)
   rw[hac]
   simpa[bM,Aut.lang,Aut.run] using this
  | cons c cs ih =>
   intro q hc hq
   rw[bW]
   by_cases hd:dg c 0=dg c 1
   ·have e:nx q c=B.to q (piC c):=by rw[hnx];simp only[];rw[if_pos hd]
    rw[e]
    exact ih _ hc.tail fun ds hds=>hq (piC c::ds) (In.cons (piC_lt hc.head hd) hds)
   ·have e:nx q c=q0:=by rw[hnx];simp only[];rw[if_neg hd]
    rw[e]
    exact ih _ hc.tail dead0
 have lang3:∀(cs:List Nat) (q:Nat),In (wd 3) cs→bM nx ac q cs=(diag 0 1 cs&&B.lang q (cs.map piC)):=by
  intro cs
  induction cs with
  | nil =>
   intro q _
   rw[hac]
   simp[bM,Aut.lang,Aut.run,diag]
  | cons c cs ih =>
   intro q hc
   rw[bW]
   by_cases hd:dg c 0=dg c 1
   ·have e:nx q c=B.to q (piC c):=by rw[hnx];simp only[];rw[if_pos hd]
    rw[e,ih _ hc.tail]
    simp[diag,hd,Aut.lang,Aut.run]
   ·have e:nx q c=q0:=by rw[hnx];simp only[];rw[if_neg hd]
    rw[e,deadL cs q0 hc.tail dead0]
    simp[diag,hd]
 have hcl:Closed (wd 3) nx 0 (List.range B.y.length):=by
  refine⟨List.mem_range.2 hB.ok.pos,fun q hq c hc=>?_⟩
  rw[hnx]
  simp only[]
  split
  ·next hd=>exact List.mem_range.2 (hB.ok.to (List.mem_range.1 hq) (piC_lt hc hd))
  ·exact List.mem_range.2 hq0l
 have hS:∀es,In (wd 2) es→(TA 2 (fun cs=>B.lang 0 cs&&diag 0 1 cs)).lang 0 es=rl 2 (fun cs=>B.lang 0 cs&&diag 0 1 cs) es:=fun es hes=>(TA_dia (by decide) hB.ok).lang hes
 obtain⟨h1,h2,h3⟩:=cN (a:=ac) hcl
 have hs:=(tJ (t:=3) h1 h1.pos (L:=bV 2 2 ((TA 2 (fun cs=>B.lang 0 cs&&diag 0 1 cs)).lang 0)) fun cs hcs=>by
  rw[h3 cs hcs,lang3 cs 0 hcs]
  unfold rl bV
  rw[hS _ (aD0 _ _ _)]
  show _=(cB 3 0 cs&&(cB 2 0 (dB (wd 2) (aL 2 2) cs)&&(B.lang 0 (dB (wd 2) (aL 2 2) cs)&&diag 0 1 (dB (wd 2) (aL 2 2) cs))))
  rw[aL4]
  cases hd:diag 0 1 cs
  ·simp
  ·rw[hBl _ (aD0 _ _ _),hBl (cs.map piC) (fun d hd'=>by
    obtain⟨c,hc,rfl⟩:=List.mem_map.1 hd'
    exact piC_lt (hcs c hc) (by simpa using List.all_eq_true.1 hd c hc))]
   unfold rl bV
   rw[zE cs hcs hd,aT5 hd]
   cases hr:cB 2 0 (cs.map piC)
   ·simp
   ·have hr3:cB (2+1) 0 cs=true:=by
     rw[←hr]
     exact aT5 hd
    rw[tU (t:=2) (at_:=2) (by omega) hr3]
    simp).2
 exact Nat.le_trans hs (Nat.le_trans h2 (by rw[List.length_range];exact Nat.le_refl _))
noncomputable def vA(t a b:Nat)(L:List Nat→Bool):Option Aut×Nat:=told (TA t (fun cs=>L cs&&diag a b cs))
theorem i_same1(A:Aut)(q:Int)(t s n8:Nat)(u x:BV)(H:BH)(h8:H.row n8=.arr 77 [aB t,aB s,u,x])(hu:Rd H 4 u (A.y.map aK))(hq:q = -1∨(0≤q∧q.toNat<A.y.length)):Runs (gam aA) 186 [encI q,.ptr n8 0] H (.bool (acS A q)) H:=by
 refine aV (fn:=ir186) rfl ?_
 have r2:=aD h8 (rt:=none) (j:=2) (c:=u) rfl rfl
 rcases hq with rfl|⟨h0,hl⟩
 ·simp[ir186,acS]
 ·obtain⟨p,rfl⟩:∃p:Nat,q=p:=⟨q.toNat,by omega⟩
  simp only[Int.toNat_natCast] at hl
  have gi:=hu.at (i:=p) (by simpa using hl) (rt:=none) rfl
  have gi':H.rd none none (u.sat p 1)=some (aK A.y[p]):=by simpa using gi
  have e:A.y.getD p false=A.y[p]:=by rw[List.getD_eq_getElem?_getD,List.getElem?_eq_getElem hl];rfl
  simp[ir186,acS,r2,hu.isSl,hu.lenM,hl,gi']
theorem i_same2(A:Aut)(q:Int)(t s a b c n8 n4 n5:Nat)(u x:BV)(H:BH)(h8:H.row n8=.arr 77 [aB t,aB s,u,x])(hx:RdR H 80 3 x aB A.nxt)(h4:H.row n4=.arr 2 [aB a])(h5:H.row n5=.arr 2 [aB b])(ht:t≤3)(ha:a<t)(hb:b<t)(hok:A.Ok (wd t))(hc:c<wd t)(hq:q = -1∨(0≤q∧q.toNat<A.y.length)):FnDoes (gam aA) 187 [encI q,aB c,.ptr n8 0,.ptr n4 0,.ptr n5 0] H fun v _=>v=encI (nxS A a b q c):=by
 refine FnDoes.hide fun R hR=>?_
 refine FnDoes.of (fn:=ir187) rfl ?_
 have r0:=aD h8 (rt:=none) (j:=0) (c:=aB t) rfl rfl
 have hw3:=eQ ht
 simp[ir187,r0]
 refine(lY (aA:=aA) t c H (by omega) (by omega)).step fun v K k hv=>?_
 obtain⟨bo,hv,hfr⟩:=hv
 have hvr:=hv.rd
 have hvl:v.slen=t:=by rw[hvr.lenM,aO]
 have ga:=hvr.at (i:=a) (by rw[aO];exact ha) (rt:=none) rfl
 have gb:=hvr.at (i:=b) (by rw[aO];exact hb) (rt:=none) rfl
 have ea:(digs t c)[a]'(by rw[aO];exact ha)=dg c a:=by simp[digs]
 have eb:(digs t c)[b]'(by rw[aO];exact hb)=dg c b:=by simp[digs]
 rw[ea] at ga
 rw[eb] at gb
 have r4:=aJ k (aD h4 (rt:=none) (j:=0) (c:=aB a) rfl rfl)
 have r5:=aJ k (aD h5 (rt:=none) (j:=0) (c:=aB b) rfl rfl)
 have r3:=aJ k (aD h8 (rt:=none) (j:=3) (c:=x) rfl rfl)
 rcases hq with rfl|⟨h0,hl⟩
 ·have e:nxS A a b (-1) c = -1:=if_pos (.inl (by omega))
  simp
  rw[hR,e]
  exact⟨k,rfl⟩
 ·obtain⟨p,rfl⟩:∃p:Nat,q=p:=⟨q.toNat,by omega⟩
  simp only[Int.toNat_natCast] at hl
  have hp0:¬((p:Int)<0):=by omega
  have hpn:p<A.nxt.length:=by rw[hok.len];exact hl
  by_cases hd:dg c a=dg c b
  ·have e:nxS A a b (p:Int) c=(A.to p c:Int):=by unfold nxS;rw[if_neg (by omega)];simp
   obtain⟨ri,hri,hrr⟩:=hx.at hpn
   have hrr:=aJ k (hrr none rfl)
   have hrw:=(hok.row _ (List.getElem_mem hpn)).1
   have hrj:=(hri.keeps k).at (i:=c) (by rw[hrw];exact hc) (rt:=none) rfl
   rw[rF hok hpn (by rw[hrw];exact hc)] at hrj
   simp[hp0,hvr.isSl,hvl,ha,hb,r4,r5,ga,gb,hd,r3,hx.isSl,hx.len,hpn,hrr,hri.isSl,hri.lenM,hrw,hc,hrj]
   rw[hR,e]
   exact⟨k,rfl⟩
  ·have e:nxS A a b (p:Int) c = -1:=by unfold nxS;rw[if_pos (.inr hd)]
   have hd':¬((dg c a:Nat):Int)=((dg c b:Nat):Int):=by omega
   simp[hp0,hvr.isSl,hvl,ha,hb,r4,r5,ga,gb,hd,hd']
   rw[hR,e]
   exact⟨k,rfl⟩
theorem yK{t a b s:Nat}(ht:t≤3){A:Aut}(hA:A.Ok (wd t))(hs:s<A.y.length):GoodC t (vA t a b (A.lang s)):=by
 obtain⟨h1,h2,h3⟩:=cN (a:=acS A) (rP (a:=a) (b:=b) hA hs)
 have e:TA t ((aQ (wd t) (nxS A a b) (acS A) (aH (succs (wd t) (nxS A a b)) (s:Int) (aB3 A.y.length).length)).lang 0)=TA t (fun cs=>A.lang s cs&&diag a b cs):=cP fun cs hc _=>by rw[h3 cs hc,sR]
 have h:=(aY ht h1 h1.pos).1.ok
 rw[e] at h
 exact GoodC.told h
theorem i_SameOn(t s a b:Nat)(ht1:1≤t)(ht:t≤3)(ha:a<t)(hb:b<t)(hab:a≠b)(A:Aut)(m:BV)(H:BH)(hA:RdRel H t s A m)(hok:A.Ok (wd t))(hs:s<A.y.length)(hn:A.y.length≤150):FnDoes (gam aA) 128 [m,aB a,aB b] H fun v K=>RelR aA H t (vA t a b (A.lang s)) v K:=by
 refine FnDoes.hide fun R hR=>?_
 refine FnDoes.of (fn:=ir128) rfl ?_
 have g1:=hA
 obtain⟨u,x,rfl,hu,hx⟩:=hA
 have u1:=hu.one
 have x1:=aF hx.isSl
 simp[ir128,u1,x1]
 intro n3 b3 f3
 simp[aC f3 b3]
 intro n4 b4 f4
 simp[aC f4 b4]
 intro n5 b5 f5
 simp[aC f5 b5]
 intro n6 b6 f6
 have o1:=Own.start (aA:=aA) (H:=H) |>.new f3 b3 (s:=.arr 25 [aB t,aB s,u,x]) |>.new f4 b4 (s:=.arr 2 [aB a]) |>.new f5 b5 (s:=.arr 2 [aB b]) |>.new f6 b6 (s:=.arr 25 [.int .i64 0,.int .i64 0,.nils,.nils])
 have r3:=aI (o1.at 3 (b:=n3) rfl) (n:=4) (rt:=none) rfl rfl
 simp[aC f6 b6,r3]
 refine(lQ (aA:=aA) t s _ _ _ _ (g1.keeps o1.keeps).raw (by omega)).step fun v K1 k1 hv=>?_
 rw[bP ht1 (by omega) hok hs hn] at hv
 subst hv
 have o2:=o1.call k1
 have r3:=aI (o2.at 3 (b:=n3) rfl) (n:=4) (rt:=none) rfl rfl
 have r4:=aD (o2.at 2 (b:=n4) rfl) (rt:=none) (j:=0) (c:=aB a) rfl rfl
 simp[r3,r4]
 refine(aD7 (aA:=aA) t a (aB s) u x _ rfl u1 x1 (by omega)).step fun v K2 k2 hv=>?_
 have hin:inB a 0 ((t:Int)-1)=true:=by simp[inB];omega
 rw[hin] at hv
 subst hv
 have o3:=o2.call k2
 have r3:=aI (o3.at 3 (b:=n3) rfl) (n:=4) (rt:=none) rfl rfl
 have r5:=aD (o3.at 1 (b:=n5) rfl) (rt:=none) (j:=0) (c:=aB b) rfl rfl
 simp[r3,r5]
 refine(aD7 (aA:=aA) t b (aB s) u x _ rfl u1 x1 (by omega)).step fun v K3 k3 hv=>?_
 have hin:inB b 0 ((t:Int)-1)=true:=by simp[inB];omega
 rw[hin] at hv
 subst hv
 have o4:=o3.call k3
 have r3:=aI (o4.at 3 (b:=n3) rfl) (n:=4) (rt:=none) rfl rfl
 have r4:=aD (o4.at 2 (b:=n4) rfl) (rt:=none) (j:=0) (c:=aB a) rfl rfl
 have r5:=aD (o4.at 1 (b:=n5) rfl) (rt:=none) (j:=0) (c:=aB b) rfl rfl
 have hab':¬(a:Int)=(b:Int):=by omega
 simp[r4,r5,hab,hab',r3]
 have hw3:=eQ ht
 refine(xI (aA:=aA) t s (wd t) A _ _ (g1.keeps o4.keeps) (by omega) hok (by omega)).step fun v K4 k4 hv=>?_
 have hv:=hv.rd
 obtain⟨mu,mx,rfl,hmu,hmx⟩:=id hv
 have mu1:=hmu.one
 have mx1:=aF hmx.isSl
 simp[mu1,mx1]
 intro n8 b8 f8
 obtain⟨K5,g5,o5⟩:=((o4.call k4).new f8 b8 (s:=.arr 77 [.int .i64 0,.int .i64 0,.nils,.nils])).putAll 0 (b:=n8) rfl (n:=4) (ds:=[aB t,aB s,mu,mx]) rfl rfl (by simp[mu1,mx1]) (rt:=none) rfl
 have p0:=aD (o5.at 0 (b:=n8) rfl) (rt:=none) (j:=0) (c:=aB t) rfl rfl
 have p1:=aD (o5.at 0 (b:=n8) rfl) (rt:=none) (j:=1) (c:=aB s) rfl rfl
 have k45:K4.Keeps K5:=by
  obtain⟨K5',g5',o5'⟩:=((Own.start (aA:=aA) (H:=K4)).new f8 b8 (s:=.arr 77 [.int .i64 0,.int .i64 0,.nils,.nils])).putAll 0 (b:=n8) rfl (n:=4) (ds:=[aB t,aB s,mu,mx]) rfl rfl (by simp[mu1,mx1]) (rt:=none) rfl
  rw[g5] at g5'
  cases g5'
  exact o5'.keeps
 simp[aC f8 b8,g5,p0,p1]
 have hcl:=rP (a:=a) (b:=b) hok hs
 have hUl:(aB3 A.y.length).length=A.y.length+1:=by simp[aB3]
 have hmemU:∀q∈aB3 A.y.length,q = -1∨(0≤q∧q.toNat<A.y.length):=fun q hq=>by
  rcases List.mem_cons.1 hq with rfl|hq
  ·exact .inl rfl
  ·obtain⟨p,hp,rfl⟩:=List.mem_map.1 hq
   have:=List.mem_range.1 hp
   exact .inr ⟨by omega,by simpa using this⟩
 have hgrow:=uC (aA:=aA) (κ:=Int) encI (fun _=>rfl) encI_eq (fun _=>rfl) t ht (s:Int) 0 186 187 [.ptr n8 0] [.ptr n8 0,.ptr n4 0,.ptr n5 0] (nxS A a b) (acS A) (aB3 A.y.length) hcl (by omega) K5
  (fun L kL q hq=>⟨_,L,i_same1 A q t s n8 mu mx L ((o5.call kL).at 0 rfl) (hmu.keeps (k45.trans kL)) (hmemU q hq),BH.Keeps.refl L,rfl⟩)
  (fun L kL q hq c hc=>i_same2 A q t s a b c n8 n4 n5 mu mx L ((o5.call kL).at 0 rfl) (hmx.keeps (k45.trans kL)) ((o5.call kL).at 3 rfl) ((o5.call kL).at 2 rfl) ht ha hb hok hc (hmemU q hq))
 refine hgrow.step fun r K6 k6 hr=>?_
 obtain⟨h1,h2,h3⟩:=cN (a:=acS A) hcl
 obtain⟨X,hX⟩:∃X,X=aQ (wd t) (nxS A a b) (acS A) (aH (succs (wd t) (nxS A a b)) (s:Int) (aB3 A.y.length).length):=⟨_,rfl⟩
 rw[←hX] at hr h1 h2 h3
 unfold dA at hr
 rw[if_neg (by omega)] at hr
 obtain⟨mm,rfl,hmm⟩:=hr
 have hrd:=hmm.rd
 obtain⟨uu,ww,rfl,huu,hww⟩:=id hrd
 have uu1:=huu.one
 have ww1:=aF hww.isSl
 simp[uu1,ww1]
 intro n9 b9 f9
 obtain⟨K7,g7,o7⟩:=((Own.start (aA:=aA) (H:=K6)).new f9 b9 (s:=.arr 77 [.int .i64 0,.int .i64 0,.nils,.nils])).putAll 0 (b:=n9) rfl (n:=4) (ds:=[aB t,aB 0,uu,ww]) rfl rfl (by simp[uu1,ww1]) (rt:=none) rfl
 have r9:=aI (o7.at 0 (b:=n9) rfl) (n:=4) (rt:=none) rfl rfl
 simp[aC f9 b9,g7,r9]
 refine(qQ (aA:=aA) t 0 ht X _ K7 (hrd.keeps o7.keeps) h1 h1.pos (by omega)).step fun r K8 k8 hr=>?_
 have e:TA t (X.lang 0)=TA t (fun cs=>A.lang s cs&&diag a b cs):=cP fun cs hc _=>by rw[h3 cs hc,sR]
 rw[e] at hr
 have hr:RelR aA K7 t (vA t a b (A.lang s)) r K8:=hr
 obtain⟨m8,K9,rfl,g8,r8,kk,hrel⟩:=aW (aA:=aA) ((o5.call k6).call o7.keeps) (i:=1) (n2:=n6) rfl rfl k8 hr
 simp[g8,r8]
 rw[hR]
 exact⟨kk,hrel⟩
theorem i_chainG(t0 t1 t2 s f g:Nat)(A:Aut)(G1:Option Aut×Nat)(G2:Aut→Option Aut×Nat)(m v:BV)(H:BH)(hA:RdRel H t0 s A m)(hv:Rd H 66 v [.fn f [],.fn g []])(hf:∀(K:BH) (m:BV),RdRel K t0 s A m→FnDoes (gam aA) f [m] K fun r K'=>RelR aA K t1 G1 r K')(hg1:GoodC t1 G1)(hg:∀(B:Aut),G1=(some B,0)→∀(K:BH) (m:BV),RdRel K t1 0 B m→FnDoes (gam aA) g [m] K fun r K'=>RelR aA K t2 (G2 B) r K')(hg2:∀B,G1=(some B,0)→GoodC t2 (G2 B)):FnDoes (gam aA) 124 [m,v] H fun r K=>RelR aA H t2 (cS G2 G1) r K:=by
 refine FnDoes.hide fun R hR=>?_
 refine FnDoes.of (fn:=ir124) rfl ?_
 have g1:=hA
 obtain⟨u,x,rfl,hu,hx⟩:=hA
 have u1:=hu.one
 have x1:=aF hx.isSl
 simp[ir124,u1,x1]
 intro n2 b2 f2
 simp[aC f2 b2]
 intro n4 b4 f4
 have o1:=Own.start (aA:=aA) (H:=H) |>.new f2 b2 (s:=.arr 25 [aB t0,aB s,u,x]) |>.new f4 b4 (s:=.arr 25 [.int .i64 0,.int .i64 0,.nils,.nils])
 have r2:=aI (o1.at 1 (b:=n2) rfl) (n:=4) (rt:=none) rfl rfl
 have gv0:=(hv.keeps o1.keeps).get (i:=0) (by simp) (rt:=none) rfl
 have w1:IntKind.i64.wrap 1=1:=by decide
 have w2:IntKind.i64.wrap 2=2:=by decide
 have hvl2:v.slen=2:=by rw[hv.len];rfl
 simp only[List.getElem_cons_zero] at gv0
 simp[aC f4 b4,hv.isSl,hvl2]
 refine tM ?_
 simp[hv.isSl,hvl2,gv0,r2]
 refine(hf _ _ (g1.keeps o1.keeps)).step fun r K1 k1 hr=>?_
 refine rel_step (d:=16) (a:=20) (b:=21) (x:=8) (y:=9) (p:=22) (q:=23) (z:=24) (w:=25) (r4:=4) (r5:=5) (t:=t1) o1 (L:=_) (i:=0) (n4:=n4) rfl rfl k1 hr hg1 [(2,.ptr n2 0),(10,v),(12,aB 0),(11,aB 2)] ?_ ?_ (by simp) (by decide) (fun _ _ h=>h) ?_ ?_
 ·simp[Has]
 ·simp
 ·rintro e1 n K2 B ms eG ⟨e8,e9,e4,e2,e10,e12,e11,-⟩ - - hrel g8
  simp only[] at e8 e9 e4 e2 e10 e12 e11
  rw[eG] at hR
  obtain⟨u',x',em,u1',x1'⟩:=hrel.cells
  cases em
  obtain⟨Y,oY,hY⟩:=hrel.rows2
  have oj:=Own.join o1 oY.keeps oY
  obtain⟨K6,g6,o6⟩:=oj.putAll 1 (b:=n2) rfl (n:=4) (ds:=[aB t1,aB 0,u',x']) rfl rfl (by simp[u1',x1']) (rt:=none) rfl
  have o6:Own aA H K6 ([(some n4,.arr 25 [.int .i64 0,.int .i64 0,.nils,.nils]),(some n2,.arr 25 [aB t1,aB 0,u',x'])]++Y):=o6
  have r2:=aI (o6.at 1 (b:=n2) rfl) (n:=4) (rt:=none) rfl rfl
  have gv1:=(hv.keeps o6.keeps).get (i:=1) (by simp) (rt:=none) rfl
  simp only[List.getElem_cons_succ,List.getElem_cons_zero] at gv1
  have hBr:RdRel K6 t1 0 B (.agg [aB t1,aB 0,u',x']):=(hY o6).rd
  simp[e8,e2,g8,g6,e12,w1]
  refine tM ?_
  simp[e10,e11,e12,hv.isSl,hvl2,gv1,e2,r2,w1]
  refine(hg B eG _ _ hBr).step fun r K1' k1' hr'=>?_
  have hg':=hg2 B eG
  have hR':R=fun r K=>RelR aA H t2 (G2 B) r K:=hR
  obtain⟨G',hG'⟩:∃G',G'=G2 B:=⟨_,rfl⟩
  rw[←hG'] at hr' hg' hR'
  refine rel_step (d:=16) (a:=20) (b:=21) (x:=8) (y:=9) (p:=22) (q:=23) (z:=24) (w:=25) (r4:=4) (r5:=5) (t:=t2) o6 (L:=_) (i:=0) (n4:=n4) rfl rfl k1' hr' hg' [(2,.ptr n2 0),(10,v),(12,aB 1),(11,aB 2)] ?_ ?_ (by simp) (by decide) (fun _ _ h=>h) ?_ ?_
  ·simp[Has,e4,e2,e10,e12,e11]
  ·simp
  ·rintro e3 n' K3 B' ms' eG' ⟨e8',e9',e4',e2',e10',e12',e11',-⟩ - - hrel' g8'
   simp only[] at e8' e9' e4' e2' e10' e12' e11'
   rw[eG'] at hR'
   obtain⟨u3,x3,em,u31,x31⟩:=hrel'.cells
   cases em
   obtain⟨Y',oY',hY'⟩:=hrel'.rows2
   have oj':=Own.join (o6.sub (List.sublist_append_left _ _)) oY'.keeps oY'
   obtain⟨K7,g7,o7⟩:=oj'.putAll 1 (b:=n2) rfl (n:=4) (ds:=[aB t2,aB 0,u3,x3]) rfl rfl (by simp[u31,x31]) (rt:=none) rfl
   have r7:=aI (o7.at 1 (b:=n2) rfl) (n:=4) (rt:=none) rfl rfl
   obtain⟨K8,g9,o8⟩:=o7.putAll 0 (b:=n4) rfl (n:=4) (ds:=[aB t2,aB 0,u3,x3]) rfl rfl (by simp[u31,x31]) (rt:=none) rfl
   have o8:Own aA H K8 ([(some n4,.arr 25 [aB t2,aB 0,u3,x3]),(some n2,.arr 25 [aB t2,aB 0,u3,x3])]++Y'):=o8
   have r8:=aI (o8.at 0 (b:=n4) rfl) (n:=4) (rt:=none) rfl rfl
   simp[e8',e2',g8',g7,e12',w2]
   refine tM ?_
   simp[e11',e2',e4',r7,g9,r8,w2]
   rw[hR']
   exact⟨o8.keeps,_,rfl,hY' o8⟩
  ·intro e3 K3 c eG' hh r4 kk
   rw[eG'] at hR'
   obtain⟨e5,e4,-⟩:=hh
   simp[e4,e5,r4]
   rw[hR']
   exact⟨kk,rfl⟩
 ·intro e1 K2 c eG hh r4 kk
  rw[eG] at hR
  obtain⟨e5,e4,-⟩:=hh
  simp[e4,e5,r4]
  rw[hR]
  exact⟨kk,rfl⟩
theorem i_shift1  (s:Nat) (A:Aut) (m:BV) (H:BH) (hA:RdRel H 1 s A m) (hok:A.Ok (wd 1)) (hs:s<A.y.length) (hn:A.y.length≤150):FnDoes (gam aA) 125 [m] H fun v K=>RelR aA H 2 (addN 1 1 (A.lang s)) v K:=by
 refine FnDoes.of (fn:=ir125) rfl ?_
 have g1:=hA
 obtain⟨u,x,rfl,hu,hx⟩:=hA
 have u1:=hu.one
 have x1:=aF hx.isSl
 simp[ir125,u1,x1]
 intro n1 b1 f1
 simp[aC f1 b1]
 intro n2 b2 f2
 have o1:=Own.start (aA:=aA) (H:=H) |>.new f1 b1 (s:=.arr 25 [aB 1,aB s,u,x]) |>.new f2 b2 (s:=.arr 25 [.int .i64 0,.int .i64 0,.nils,.nils])
 have r1:=aI (o1.at 1 (b:=n1) rfl) (n:=4) (rt:=none) rfl rfl
 simp[aC f2 b2,r1]
 have g2:=g1.keeps o1.keeps
 refine(sW (aA:=aA) 1 s 1 (by decide) (by decide) (by decide) A _ _ g2 hok hs hn).step fun r K1 k1 hr=>?_
 obtain⟨m',K7,rfl,g7,r7,kk,hrel⟩:=aW (aA:=aA) o1 (i:=0) (n2:=n2) rfl rfl k1 hr
 simp[g7,r7]
 exact⟨kk,hrel⟩

theorem i_shift2  (s:Nat) (A:Aut) (m:BV) (H:BH) (hA:RdRel H 2 s A m) (hok:A.Ok (wd 2)) (hs:s<A.y.length) (hn:A.y.length≤150):FnDoes (gam aA) 127 [m] H fun v K=>RelR aA H 2 (vA 2 0 1 (A.lang s)) v K:=by
 refine FnDoes.of (fn:=ir127) rfl ?_
 have g1:=hA
 obtain⟨u,x,rfl,hu,hx⟩:=hA
 have u1:=hu.one
 have x1:=aF hx.isSl
 simp[ir127,u1,x1]
 intro n1 b1 f1
 simp[aC f1 b1]
 intro n2 b2 f2
 have o1:=Own.start (aA:=aA) (H:=H) |>.new f1 b1 (s:=.arr 25 [aB 2,aB s,u,x]) |>.new f2 b2 (s:=.arr 25 [.int .i64 0,.int .i64 0,.nils,.nils])
 have r1:=aI (o1.at 1 (b:=n1) rfl) (n:=4) (rt:=none) rfl rfl
 simp[aC f2 b2,r1]
 have g2:=g1.keeps o1.keeps
 refine(i_SameOn (aA:=aA) 2 s 0 1 (by decide) (by decide) (by decide) (by decide) (by decide) A _ _ g2 hok hs hn).step fun r K1 k1 hr=>?_
 obtain⟨m',K7,rfl,g7,r7,kk,hrel⟩:=aW (aA:=aA) o1 (i:=0) (n2:=n2) rfl rfl k1 hr
 simp[g7,r7]
 exact⟨kk,hrel⟩

noncomputable def rX(l:Nat)(L M:List Nat→Bool):Option Aut×Nat:=cS (fun C=>iW l 2 1 (TA 3 (C.lang 0))) (bD 3 (fun a b=>a&&b) ((TA 3 (bV 2 2 L)).lang 0) ((TA 3 (bV 2 0 M)).lang 0))
theorem tH{t at_:Nat}{L:List Nat→Bool}(h:(TA (t+1) (bV t at_ L)).y.length≤150):addN t at_ L=(some (TA (t+1) (bV t at_ L)),0):=by
 unfold addN told
 rw[if_neg (by omega)]
theorem i_Compose(l:Nat)(hl:l=1000)(s1 s2:Nat)(A B:Aut)(m m':BV)(H:BH)(hA:RdRel H 2 s1 A m)(hB:RdRel H 2 s2 B m')(hokA:A.Ok (wd 2))(hokB:B.Ok (wd 2))(hs1:s1<A.y.length)(hs2:s2<B.y.length)(hna:A.y.length≤150)(hnb:B.y.length≤150)(hx:(TA 3 (bV 2 2 (A.lang s1))).y.length≤150)(hy:(TA 3 (bV 2 0 (B.lang s2))).y.length≤150):FnDoes (gam aA) 129 [m,m'] H fun v K=>RelR aA H 2 (rX l (A.lang s1) (B.lang s2)) v K:=by
 refine FnDoes.hide fun R hR=>?_
 refine FnDoes.of (fn:=ir129) rfl ?_
 have g:=hA
 have g':=hB
 obtain⟨u,x,rfl,hu,hx'⟩:=hA
 obtain⟨u',x',rfl,hu',hx''⟩:=hB
 have u1:=hu.one
 have x1:=aF hx'.isSl
 have u1':=hu'.one
 have x1':=aF hx''.isSl
 simp[ir129,u1,x1]
 intro n2 b2 f2
 simp[aC f2 b2,u1',x1']
 intro n3 b3 f3
 simp[aC f3 b3]
 intro n4 b4 f4
 have o1:=Own.start (aA:=aA) (H:=H) |>.new f2 b2 (s:=.arr 25 [aB 2,aB s1,u,x]) |>.new f3 b3 (s:=.arr 25 [aB 2,aB s2,u',x']) |>.new f4 b4 (s:=.arr 25 [.int .i64 0,.int .i64 0,.nils,.nils])
 have r2:=aI (o1.at 2 (b:=n2) rfl) (n:=4) (rt:=none) rfl rfl
 simp[aC f4 b4,r2]
 refine(lQ (aA:=aA) (2:Nat) s1 _ _ _ _ (g.keeps o1.keeps).raw (by omega)).step fun v K1 k1 hv=>?_
 rw[bP (by decide) (by decide) hokA hs1 hna] at hv
 subst hv
 have o2:=o1.call k1
 have r3:=aI (o2.at 1 (b:=n3) rfl) (n:=4) (rt:=none) rfl rfl
 simp[r3]
 refine(lQ (aA:=aA) (2:Nat) s2 _ _ _ _ (g'.keeps o2.keeps).raw (by omega)).step fun v K2 k2 hv=>?_
 rw[bP (by decide) (by decide) hokB hs2 hnb] at hv
 subst hv
 have o3:=o2.call k2
 have p2:=aD (o3.at 2 (b:=n2) rfl) (rt:=none) (j:=0) (c:=aB 2) rfl rfl
 have p3:=aD (o3.at 1 (b:=n3) rfl) (rt:=none) (j:=0) (c:=aB 2) rfl rfl
 have r2:=aI (o3.at 2 (b:=n2) rfl) (n:=4) (rt:=none) rfl rfl
 simp[p2,p3,r2]
 refine(sW (aA:=aA) 2 s1 2 (by decide) (by decide) (by decide) A _ _ (g.keeps o3.keeps) hokA hs1 hna).step fun v1 K4 k4 hr1=>?_
 rw[tH hx] at hr1
 obtain⟨X,hX⟩:∃X,X=TA (2+1) (bV 2 2 (A.lang s1)):=⟨_,rfl⟩
 obtain⟨Y,hY⟩:∃Y,Y=TA (2+1) (bV 2 0 (B.lang s2)):=⟨_,rfl⟩
 have hXok:X.Ok (wd 3):=by
  have h:=mE (t:=2) (at_:=2) (by decide) hokA hs1
  rw[tH hx,←hX] at h
  exact h.2.1
 have hYok:Y.Ok (wd 3):=by
  have h:=mE (t:=2) (at_:=0) (by decide) hokB hs2
  rw[tH hy,←hY] at h
  exact h.2.1
 rw[←hX] at hr1
 have hxl:X.y.length≤150:=by rw[hX];exact hx
 have hyl:Y.y.length≤150:=by rw[hY];exact hy
 have hr1:RelR aA _ 3 (some X,0) v1 K4:=hr1
 obtain⟨m1,rfl,hm1⟩:=hr1.out
 obtain⟨a1,a2,a3,a4,em,p1,p2,p3,p4⟩:=hm1.ones
 subst em
 simp[p1,p2,p3,p4]
 intro n6 b6 f6
 obtain⟨K5,g5,k5,r5,w5,l5⟩:=lay f6 b6 (a:=a1) (b:=a2) (c:=a3) (d:=a4) (by simp[p1,p2,p3,p4])
 have o5:=l5 (o3.call k4)
 have r3:=aI (o5.at 2 (b:=n3) rfl) (n:=4) (rt:=none) rfl rfl
 simp[aC f6 b6,g5,r3]
 refine(sW (aA:=aA) 2 s2 0 (by decide) (by decide) (by decide) B _ _ (g'.keeps o5.keeps) hokB hs2 hnb).step fun v2 K6 k6 hr2=>?_
 rw[tH hy,←hY] at hr2
 have hr2:RelR aA _ 3 (some Y,0) v2 K6:=hr2
 obtain⟨m2,rfl,hm2⟩:=hr2.out
 obtain⟨c1,c2,c3,c4,em,q1,q2,q3,q4⟩:=hm2.ones
 subst em
 simp[q1,q2,q3,q4]
 intro n8 b8 f8
 obtain⟨K7,g7,k7,r7,w7,l7⟩:=lay f8 b8 (a:=c1) (b:=c2) (c:=c3) (d:=c4) (by simp[q1,q2,q3,q4])
 have o7:=l7 (o5.call k6)
 have r5':=aI (o7.at 1 (b:=n6) rfl) (n:=4) (rt:=none) rfl rfl
 simp[aC f8 b8,g7,r5',r7]
 refine(i_bothC (aA:=aA) 3 0 0 (by decide) (by decide) X Y _ _ K7 (RdRel.keeps hm1 (k5.trans (k6.trans k7))) (RdRel.keeps hm2 k7) hXok hYok hXok.pos hYok.pos hxl hyl).step fun v3 K8 k8 hr3=>?_
 have gg3:GoodC 3 (bD 3 (fun a b=>a&&b) (X.lang 0) (Y.lang 0)):=cE (by decide) hXok hYok hXok.pos hYok.pos
 have hres:rX l (A.lang s1) (B.lang s2)=cS (fun C=>iW l 2 1 (TA 3 (C.lang 0))) (bD 3 (fun a b=>a&&b) (X.lang 0) (Y.lang 0)):=by rw[hX,hY];rfl
 rw[hres] at hR
 obtain⟨G3,hG3⟩:∃G,G=bD 3 (fun a b=>a&&b) (X.lang 0) (Y.lang 0):=⟨_,rfl⟩
 rw[←hG3] at hr3 gg3 hR
 refine rel_step (d:=41) (a:=47) (b:=48) (x:=10) (y:=7) (p:=49) (q:=50) (z:=51) (w:=52) (r4:=4) (r5:=5) (t:=3) o7 (i:=2) (n4:=n4) rfl rfl k8 hr3 gg3 [] ?_ ?_ (by simp) (by decide) (fun _ _ h=>h) (fun e1 n K9 C ms eG hh _ kk1 hc1 gc1=>?_) (fun e K2 c eG hh r4 kk=>?_)
 ·simp[Has]
 ·simp
 ·obtain⟨e10,-,e4,-⟩:=hh
  simp only[] at e10 e4
  rw[eG] at hR gg3
  have o9:=o7.call (k8.trans kk1)
  simp[e10,gc1]
  refine(aV7 (aA:=aA) l hl 2 0 1 (by decide) (by decide) (by decide) C _ _ hc1.rd gg3.2.1 gg3.2.1.pos gg3.2.2).step fun r8 L8 l8 hr8=>?_
  obtain⟨m8,K8',rfl,g8,r8x,kk8,hrel8⟩:=aW (aA:=aA) o9 (i:=2) (n2:=n4) rfl rfl l8 hr8
  simp[e4,g8,r8x]
  rw[hR]
  exact⟨kk8,hrel8⟩
 ·rw[eG] at hR
  obtain⟨e5,e4,-⟩:=hh
  simp[e4,e5,r4]
  rw[hR]
  exact⟨kk,rfl⟩
theorem aG0{A S:Aut}{c:Nat}(h:told A=(some S,c)):S=A∧A.y.length≤150:=by
 unfold told at h
 split at h
 ·cases h
 ·cases h
  exact⟨rfl,by omega⟩
theorem way_right{c:Int}{W:Aut}{d:Nat}(hc:-1000≤c∧c≤1000)(h:linN 1 c [1,-1] (aZ::leftV c)=(some W,d)):∀ds,In (wd 2) ds→W.lang 0 ds=true→cB 2 0 ds=true:=by
 have hW:=aI9 h
 obtain⟨hX,-,hl⟩:=wZ (terms:=[1,-1]) (vW hc)
 have hX:(vL 1 c [1,-1] (aZ::leftV c)).Ok (wd 2):=hX
 have hTX:=(aY (t:=2) (by decide) hX hX.pos).1
 have hD:=(bU (t:=2) (by decide) (S:=List.range 2) (fun k hk=>List.mem_range.1 hk)).1
 have hp:=aC2 (op:=fun a b=>a&&b) hTX.ok hD.ok
 have hT:=(aY (t:=2) (by decide) hp hp.pos).1
 have e:TA 2 ((iN (wd 2) (TA 2 ((vL 1 c [1,-1] (aZ::leftV c)).lang 0)) (TA 2 (LD (List.range 2))) fun a b=>a&&b).lang 0)=W:=by
  rw[hW]
  exact cP fun cs hcs _=>by
   have:=qG (op:=fun a b=>a&&b) hTX.ok hD.ok cs 0 0 hTX.ok.pos hD.ok.pos hcs
   rw[Nat.zero_mul,Nat.zero_add] at this
   exact this
 rw[e] at hT
 intro ds hds hl
 rw[hT.lang hds] at hl
 unfold rl at hl
 simp only[Bool.and_eq_true] at hl
 exact hl.1
theorem way_add{c:Int}{W:Aut}{d:Nat}(hc:-1000≤c∧c≤1000)(hok:W.Ok (wd 2))(h:linN 1 c [1,-1] (aZ::leftV c)=(some W,d)):(TA 3 (bV 2 0 (W.lang 0))).y.length≤150:=by
 have h1:=add_len (t:=2) (at_:=0) (by omega) hok (way_right hc h)
 have h2:=way_small hc h
 have h1:(TA 3 (bV 2 0 (W.lang 0))).y.length≤2*W.y.length+2:=h1
 omega
theorem aE4{A B:Aut}{s1 s2:Nat}(hA:A.Ok (wd 2))(hB:B.Ok (wd 2))(hs1:s1<A.y.length)(hs2:s2<B.y.length):(TA 3 (bV 2 2 (A.lang s1))).Ok (wd 3)∧(TA 3 (bV 2 0 (B.lang s2))).Ok (wd 3):=by
 refine⟨?_,?_⟩
 ·have h:=(aY (t:=3) (by decide) (rR (w':=wd 3) (col:=aL 2 2) hA) (s:=s1) hs1).1.ok
  have e:=bE0 (t:=2) (at_:=2) hA hs1
  rw[show (yD (wd 2) (wd 3) A (aL 2 2))=yD (wd 2) (wd (2+1)) A (aL 2 2) from rfl,e] at h
  exact h
 ·have h:=(aY (t:=3) (by decide) (rR (w':=wd 3) (col:=aL 2 0) hB) (s:=s2) hs2).1.ok
  have e:=bE0 (t:=2) (at_:=0) hB hs2
  rw[show (yD (wd 2) (wd 3) B (aL 2 0))=yD (wd 2) (wd (2+1)) B (aL 2 0) from rfl,e] at h
  exact h
theorem xQ{l:Nat}{A B:Aut}{s1 s2:Nat}(hA:A.Ok (wd 2))(hB:B.Ok (wd 2))(hs1:s1<A.y.length)(hs2:s2<B.y.length):GoodC 2 (rX l (A.lang s1) (B.lang s2)):=by
 obtain⟨hX,hY⟩:=aE4 hA hB hs1 hs2
 exact dV (t':=3) (cE (by decide) hX hY hX.pos hY.pos) fun C hC _=>yJ (s:=0) (by decide)
noncomputable def aN4(L:List Nat→Bool):Option Aut×Nat:=cS (fun B=>vA 2 0 1 (B.lang 0)) (addN 1 1 L)
theorem tQ{A:Aut}{s:Nat}(hA:A.Ok (wd 1))(hs:s<A.y.length):GoodC 2 (aN4 (A.lang s)):=dV (t':=2) (mE (t:=1) (by decide) hA hs) fun B hB _=>yK (by decide) hB hB.pos
theorem aT3{A S:Aut}{s c:Nat}(hA:A.Ok (wd 1))(hs:s<A.y.length)(h:aN4 (A.lang s)=(some S,c)):(TA 3 (bV 2 2 (S.lang 0))).y.length≤150:=by
 unfold aN4 at h
 obtain⟨G,hG⟩:∃G,G=addN 1 1 (A.lang s):=⟨_,rfl⟩
 rw[←hG] at h
 obtain⟨a,d⟩:=G
 cases a with
 | none=>cases h
 | some B =>
  obtain⟨e1,e2⟩:=aG0 (show told (TA 2 (bV 1 1 (A.lang s)))=(some B,d) from hG.symm)
  have h:told (TA 2 (fun cs=>B.lang 0 cs&&diag 0 1 cs))=(some S,c):=h
  obtain⟨e3,-⟩:=aG0 h
  rw[e3,e1]
  exact Nat.le_trans (aG6 hA hs) e2
noncomputable def bE3(c:Int):Option Aut×Nat:=linN 1 c [1,-1] (aZ::leftV c)
noncomputable def rG(l:Nat)(by_:Int)(L:List Nat→Bool):Option Aut×Nat:=cS (fun S=>cS (fun W=>cS (fun C=>iW l 1 0 (TA 2 (C.lang 0))) (rX l (S.lang 0) (W.lang 0))) (bE3 (-by_))) (aN4 L)
theorem aF9:Terms [1,-1]:=⟨by decide,by decide⟩
theorem i_shift(l:Nat)(hl:l=1000)(s:Nat)(by_:Int)(hby:-1000≤by_∧by_≤1000)(A:Aut)(m:BV)(H:BH)(hA:RdRel H 1 s A m)(hok:A.Ok (wd 1))(hs:s<A.y.length)(hn:A.y.length≤150):FnDoes (gam aA) 78 [m,encI by_] H fun v K=>RelR aA H 1 (rG l by_ (A.lang s)) v K:=by
 refine FnDoes.hide fun R hR=>?_
 refine FnDoes.of (fn:=ir78) rfl ?_
 have g1:=hA
 obtain⟨u,x,rfl,hu,hx⟩:=hA
 have u1:=hu.one
 have x1:=aF hx.isSl
 have hc:-1000≤-by_∧-by_≤1000:=by omega
 have wn:IntKind.i64.wrap (-by_) = -by_:=w64 (by omega) (by omega)
 simp[ir78,u1,x1]
 intro n2 b2 f2
 simp[aC f2 b2]
 intro n4 b4 f4
 have o1:=Own.start (aA:=aA) (H:=H) |>.new f2 b2 (s:=.arr 25 [aB 1,aB s,u,x]) |>.new f4 b4 (s:=.arr 25 [.int .i64 0,.int .i64 0,.nils,.nils])
 obtain⟨H1,hH1⟩:∃H1,H1=(H.set n2 (.arr 25 [aB 1,aB s,u,x])).set n4 (.arr 25 [.int .i64 0,.int .i64 0,.nils,.nils]):=⟨_,rfl⟩
 have r2:=aI (o1.at 1 (b:=n2) rfl) (n:=4) (rt:=none) rfl rfl
 simp[aC f4 b4,r2]
 intro n12 b12 f12
 rw[←hH1] at o1 f12 ⊢
 have o2:=(Own.start (aA:=aA) (H:=H1)).new f12 b12 (s:=.arr 66 [.fn 125 [],.fn 127 []])
 have hvf:Rd _ 66 (.sl n12 0 2) [.fn 125 [],.fn 127 []]:=o2.rd 0 rfl rfl
 simp[aC f12 b12]
 have gA:=mE (t:=1) (at_:=1) (by decide) hok hs
 have hch:=i_chainG (aA:=aA) 1 2 2 s 125 127 A (addN 1 1 (A.lang s)) (fun B=>vA 2 0 1 (B.lang 0)) _ _ _ (g1.keeps (o1.keeps.trans o2.keeps)) hvf
  (fun K m h=>i_shift1 s A m K h hok hs hn) gA (fun B hB K m h=>by
   rw[hB] at gA
   exact i_shift2 0 B m K h gA.2.1 gA.2.1.pos gA.2.2) (fun B hB=>by
   rw[hB] at gA
   exact yK (by decide) gA.2.1 gA.2.1.pos)
 refine hch.step fun r1 L1 l1 hr1=>?_
 have ga1:=tQ hok hs
 have hr1:RelR aA _ 2 (aN4 (A.lang s)) r1 L1:=hr1
 have hsz:=fun S c h=>aT3 (S:=S) (c:=c) hok hs h
 unfold rG at hR
 obtain⟨G1,hG1⟩:∃G,G=aN4 (A.lang s):=⟨_,rfl⟩
 rw[←hG1] at hr1 ga1 hsz hR
 have o3:=o1.call o2.keeps
 refine rel_step (d:=10) (a:=14) (b:=15) (x:=6) (y:=7) (p:=16) (q:=17) (z:=18) (w:=19) (r4:=4) (r5:=5) (t:=2) o3 (i:=0) (n4:=n4) rfl rfl l1 hr1 ga1 [(1,encI by_)] ?_ ?_ (by simp) (by decide) (fun _ _ h=>h) (fun e1 m1 M1 S ms1 eG hh oN1 kk1 hb1 gg1=>?_) (fun e K2 c eG hh r4 kk=>?_)
 ·simp[Has]
 ·simp
 rotate_left
 ·rw[eG] at hR
  obtain⟨e5,e4,-⟩:=hh
  simp[e4,e5,r4]
  rw[hR]
  exact⟨kk,rfl⟩
 obtain⟨e16,-,e14,e11,-⟩:=hh
 simp only[] at e16 e14 e11
 rw[eG] at hR ga1
 have hsz:=hsz S 0 eG
 have o4:=o3.call (l1.trans kk1)
 simp[e11,wn]
 intro n21 b21 f21
 have o5:=(Own.start (aA:=aA) (H:=M1)).new f21 b21 (s:=.arr 2 [.int .i64 1,.int .i64 (-1)])
 have hv:Rd _ 2 (.sl n21 0 2) (([1,-1]:List Int).map encI):=o5.rd 0 rfl rfl
 simp[aC f21 b21,e11,wn]
 have hU:=vW hc
 have hUb:∀v∈(aZ::leftV (-by_)),-1100000000000≤v∧v≤1100000000000:=fun v hv=>by
  rcases List.mem_cons.1 hv with rfl|hv
  ·unfold aZ;omega
  ·have:=aJ0 hc hv;omega
 refine(i_linear (aA:=aA) 1 [1,-1] aF9 (by decide) (-by_) (aZ::leftV (-by_)) hU (by rw[List.length_cons,xF];omega) hUb (.sl n21 0 2) _ hv).step fun r2' L2 l2 hr2=>?_
 have ga2:GoodC 2 (bE3 (-by_)):=xA (terms:=[1,-1]) (by decide) hU
 have hr2:RelR aA _ 2 (bE3 (-by_)) r2' L2:=hr2
 have hwy:=fun W c hok h=>way_add (W:=W) (d:=c) hc hok h
 have hR:R=fun v K=>RelR aA H 1 (cS (fun W=>cS (fun C=>iW l 1 0 (TA 2 (C.lang 0))) (rX l (S.lang 0) (W.lang 0))) (bE3 (-by_))) v K:=hR
 have hwy:∀(W:Aut) (c:Nat),W.Ok (wd 2)→bE3 (-by_)=(some W,c)→(TA 3 (bV 2 0 (W.lang 0))).y.length≤150:=hwy
 obtain⟨G2,hG2⟩:∃G,G=bE3 (-by_):=⟨_,rfl⟩
 rw[←hG2] at hr2 ga2 hwy hR
 have o6:=o4.call o5.keeps
 refine rel_step (d:=20) (a:=25) (b:=26) (x:=8) (y:=7) (p:=27) (q:=28) (z:=29) (w:=30) (r4:=4) (r5:=5) (t:=2) o6 (i:=0) (n4:=n4) rfl rfl l2 hr2 ga2 [(6,.ptr m1 0)] ?_ ?_ (by simp) (by decide) (fun _ _ h=>h) (fun e2 m2 M2 W ms2 eG2 hh oN2 kk2 hb2 gg2=>?_) (fun e K2 c eG hh r4 kk=>?_)
 ·simp[Has,e14,e16]
 ·simp
 rotate_left
 ·rw[eG] at hR
  obtain⟨e5,e4,-⟩:=hh
  simp[e4,e5,r4]
  rw[hR]
  exact⟨kk,rfl⟩
 obtain⟨e28,-,e24,e26,-⟩:=hh
 simp only[] at e28 e24 e26
 rw[eG2] at hR ga2
 have hwy:=hwy W 0 ga2.2.1 eG2
 have kS:=o5.keeps.trans (l2.trans kk2)
 have gg1':=aJ kS gg1
 have o7:=o6.call (l2.trans kk2)
 simp[e28,e26,gg1',gg2]
 refine(i_Compose (aA:=aA) l hl 0 0 S W _ _ _ (hb1.rd.keeps kS) hb2.rd ga1.2.1 ga2.2.1 ga1.2.1.pos ga2.2.1.pos ga1.2.2 ga2.2.2 hsz hwy).step fun r3 L3 l3 hr3=>?_
 have hR:R=fun v K=>RelR aA H 1 (cS (fun C=>iW l 1 0 (TA 2 (C.lang 0))) (rX l (S.lang 0) (W.lang 0))) v K:=hR
 have ga3:GoodC 2 (rX l (S.lang 0) (W.lang 0)):=xQ ga1.2.1 ga2.2.1 ga1.2.1.pos ga2.2.1.pos
 obtain⟨G3,hG3⟩:∃G,G=rX l (S.lang 0) (W.lang 0):=⟨_,rfl⟩
 rw[←hG3] at hr3 ga3 hR
 refine rel_step (d:=31) (a:=35) (b:=36) (x:=9) (y:=7) (p:=37) (q:=38) (z:=39) (w:=40) (r4:=4) (r5:=5) (t:=2) o7 (i:=0) (n4:=n4) rfl rfl l3 hr3 ga3 [] ?_ ?_ (by simp) (by decide) (fun _ _ h=>h) (fun e3 m3 M3 C ms3 eG3 hh oN3 kk3 hb3 gg3=>?_) (fun e K2 c eG hh r4 kk=>?_)
 ·simp[Has,e24]
 ·simp
 rotate_left
 ·rw[eG] at hR
  obtain⟨e5,e4,-⟩:=hh
  simp[e4,e5,r4]
  rw[hR]
  exact⟨kk,rfl⟩
 obtain⟨e39,-,e34,-⟩:=hh
 simp only[] at e39 e34
 rw[eG3] at hR ga3
 have hR:R=fun v K=>RelR aA H 1 (iW l 1 0 (TA 2 (C.lang 0))) v K:=hR
 have o8:=o7.call (l3.trans kk3)
 simp[e39,gg3]
 refine(aV7 (aA:=aA) l hl 1 0 0 (by decide) (by decide) (by decide) C _ _ hb3.rd ga3.2.1 ga3.2.1.pos ga3.2.2).step fun r8 L8 l8 hr8=>?_
 obtain⟨m8,K8',rfl,g8,r8x,kk8,hrel8⟩:=aW (aA:=aA) o8 (i:=0) (n2:=n4) rfl rfl l8 hr8
 simp[e34,g8,r8x]
 rw[hR]
 exact⟨kk8,hrel8⟩
theorem s_Compose(l:Nat)(hl:l=1000)(s1 s2:Nat)(A B:Aut)(m m':BV)(H:BH)(hA:RdRel H 2 s1 A m)(hB:RdRel H 2 s2 B m')(hokA:A.Ok (wd 2))(hokB:B.Ok (wd 2))(hs1:s1<A.y.length)(hs2:s2<B.y.length)(hna:A.y.length≤150)(hnb:B.y.length≤150)(hx:(TA 3 (bV 2 2 (A.lang s1))).y.length≤150)(hy:(TA 3 (bV 2 0 (B.lang s2))).y.length≤150):FnDoes (gam aA) 120 [m,m'] H fun v K=>RelR aA H 2 (rX l (A.lang s1) (B.lang s2)) v K:=by
 refine FnDoes.hide fun R hR=>?_
 refine FnDoes.of (fn:=ir120) rfl ?_
 have g:=hA
 have g':=hB
 obtain⟨u,x,rfl,hu,hx'⟩:=hA
 obtain⟨u',x',rfl,hu',hx''⟩:=hB
 have u1:=hu.one
 have x1:=aF hx'.isSl
 have u1':=hu'.one
 have x1':=aF hx''.isSl
 simp[ir120,u1,x1]
 intro n2 b2 f2
 simp[aC f2 b2,u1',x1']
 intro n3 b3 f3
 simp[aC f3 b3]
 intro n4 b4 f4
 have o1:=Own.start (aA:=aA) (H:=H) |>.new f2 b2 (s:=.arr 25 [aB 2,aB s1,u,x]) |>.new f3 b3 (s:=.arr 25 [aB 2,aB s2,u',x']) |>.new f4 b4 (s:=.arr 25 [.int .i64 0,.int .i64 0,.nils,.nils])
 obtain⟨H1,hH1⟩:∃H1,H1=((H.set n2 (.arr 25 [aB 2,aB s1,u,x])).set n3 (.arr 25 [aB 2,aB s2,u',x'])).set n4 (.arr 25 [.int .i64 0,.int .i64 0,.nils,.nils]):=⟨_,rfl⟩
 simp[aC f4 b4]
 rw[←hH1] at o1 ⊢
 have pA:RdP H1 n2 2 s1 A:=RdRel.at g o1.keeps (o1.at 2 (b:=n2) rfl)
 have pB:RdP H1 n3 2 s2 B:=RdRel.at g' o1.keeps (o1.at 1 (b:=n3) rfl)
 have c1:=s_ok (aA:=aA) n2 (2:Nat) s1 _ _ H1 pA.raw (by omega)
 rw[bP (by decide) (by decide) hokA hs1 hna] at c1
 have c2:=s_ok (aA:=aA) n3 (2:Nat) s2 _ _ H1 pB.raw (by omega)
 rw[bP (by decide) (by decide) hokB hs2 hnb] at c2
 have p2:=aD (o1.at 2 (b:=n2) rfl) (rt:=none) (j:=0) (c:=aB 2) rfl rfl
 have p3:=aD (o1.at 1 (b:=n3) rfl) (rt:=none) (j:=0) (c:=aB 2) rfl rfl
 refine aN c1 ?_
 simp
 refine aN c2 ?_
 simp[p2,p3]
 refine(wJ (aA:=aA) 2 s1 2 n2 (by decide) (by decide) A H1 pA hokA hs1 (by omega)).step fun v1 K1 k1 hv1=>?_
 have hX3:(TA 3 (bV 2 2 (A.lang s1))).Ok (wd 3):=(aE4 hokA hokB hs1 hs2).1
 have hY3:(TA 3 (bV 2 0 (B.lang s2))).Ok (wd 3):=(aE4 hokA hokB hs1 hs2).2
 have hres:rX l (A.lang s1) (B.lang s2)=cS (fun C=>iW l 2 1 (TA 3 (C.lang 0))) (bD 3 (fun a b=>a&&b) ((TA 3 (bV 2 2 (A.lang s1))).lang 0) ((TA 3 (bV 2 0 (B.lang s2))).lang 0)):=rfl
 rw[hres] at hR
 have hv1:OwnRel aA H1 K1 3 0 (TA 3 (bV 2 2 (A.lang s1))) v1:=hv1
 obtain⟨X,hX⟩:∃X,X=TA 3 (bV 2 2 (A.lang s1)):=⟨_,rfl⟩
 rw[←hX] at hv1 hX3 hx hR
 obtain⟨ua,xa,em,ua1,xa1⟩:=hv1.cells
 subst em
 simp[ua1,xa1]
 intro n6 b6 f6
 obtain⟨K2,g2,k2,r6,w6,l6⟩:=lay f6 b6 (a:=aB 3) (b:=aB 0) (c:=ua) (d:=xa) (by simp[ua1,xa1])
 have o2:=l6 (o1.call k1)
 simp[aC f6 b6,g2]
 refine(wJ (aA:=aA) 2 s2 0 n3 (by decide) (by decide) B K2 (pB.keeps (k1.trans k2)) hokB hs2 (by omega)).step fun v2 K3 k3 hv2=>?_
 have hv2:OwnRel aA K2 K3 3 0 (TA 3 (bV 2 0 (B.lang s2))) v2:=hv2
 obtain⟨Y,hY⟩:∃Y,Y=TA 3 (bV 2 0 (B.lang s2)):=⟨_,rfl⟩
 rw[←hY] at hv2 hY3 hy hR
 obtain⟨ub,xb,em,ub1,xb1⟩:=hv2.cells
 subst em
 simp[ub1,xb1]
 intro n7 b7 f7
 obtain⟨K4,g4,k4,r7,w7,l7⟩:=lay f7 b7 (a:=aB 3) (b:=aB 0) (c:=ub) (d:=xb) (by simp[ub1,xb1])
 have o4:=l7 (o2.call k3)
 simp[aC f7 b7,g4]
 have pX:RdP K4 n6 3 0 X:=RdRel.at hv1.rd (k2.trans (k3.trans k4)) (o4.at 1 (b:=n6) rfl)
 have pY:RdP K4 n7 3 0 Y:=RdRel.at hv2.rd k4 w7
 have hj:=aB4 (aA:=aA) 3 0 0 1 n6 n7 (by decide) X Y K4 pX pY hX3 hY3 hX3.pos hY3.pos hx hy
 rw[opW_1] at hj
 refine hj.step fun r3 K5 k5 hr3=>?_
 have gg3:GoodC 3 (bD 3 (fun a b=>a&&b) (X.lang 0) (Y.lang 0)):=cE (by decide) hX3 hY3 hX3.pos hY3.pos
 obtain⟨G3,hG3⟩:∃G,G=bD 3 (fun a b=>a&&b) (X.lang 0) (Y.lang 0):=⟨_,rfl⟩
 rw[←hG3] at hr3 gg3 hR
 refine rel_step (d:=28) (a:=30) (b:=31) (x:=8) (y:=9) (p:=32) (q:=33) (z:=34) (w:=35) (r4:=4) (r5:=5) (t:=3) o4 (i:=2) (n4:=n4) rfl rfl k5 hr3 gg3 [] ?_ ?_ (by simp) (by decide) (fun _ _ h=>h) (fun e1 n K9 C ms eG hh oN kk1 hc1 gc1=>?_) (fun e K2 c eG hh r4 kk=>?_)
 ·simp[Has]
 ·simp
 ·obtain⟨e10,-,e4,-⟩:=hh
  simp only[] at e10 e4
  rw[eG] at hR gg3
  have o9:=o4.call (k5.trans kk1)
  obtain⟨uc,xc,em,uc1,xc1⟩:=hc1.cells
  cases em
  have pC:RdP K9 n 3 0 C:=RdRel.at hc1.rd (BH.Keeps.refl _) (oN.at 0 (b:=n) rfl)
  simp[e10]
  refine(aG8 (aA:=aA) l hl 2 0 1 n (by decide) (by decide) (by decide) C _ pC gg3.2.1 gg3.2.1.pos gg3.2.2).step fun r8 L8 l8 hr8=>?_
  obtain⟨m8,K8',rfl,g8,r8x,kk8,hrel8⟩:=aW (aA:=aA) o9 (i:=2) (n2:=n4) rfl rfl l8 hr8
  simp[e4,g8,r8x]
  rw[hR]
  exact⟨kk8,hrel8⟩
 ·rw[eG] at hR
  obtain⟨e5,e4,-⟩:=hh
  simp[e4,e5,r4]
  rw[hR]
  exact⟨kk,rfl⟩
end Go.Proofs.YtbnmhbmhafbmiaaGreatDoor.W
end
