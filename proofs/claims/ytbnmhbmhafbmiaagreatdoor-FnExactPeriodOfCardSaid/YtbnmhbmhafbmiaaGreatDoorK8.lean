/-
Texts of our own, put together: J16, J17, J18, J19, J20, J21, D1, D2, D3, D4, Qa, Qb, Qc, Qd, Qe, Qf, Qg, Qh, Qi, O1, X1.
-/
import Derived.Test.YtbnmhbmhafbmiaaGreatDoorK7
import Derived.Test.YtbnmhbmhafbmiaaGreatDoorProg
import Derived.WalkKit
import Derived.Maps.RangeWalk
import Derived.Maps.OwnOps
import Derived.Below
import Derived.KernelRfl
import Derived.Shelf.Abstract
import Derived.Lib.SlicesCompact
import Derived.Lib.SmallJoins
import Derived.Deep.Grids
import Derived.Deep.Matrix
import Derived.ChangeArms
import Derived.Shelf.Strconv.Itoa3
import Derived.Shelf.Slices.Delete
import Derived.Shelf.Sort.Plain
import Derived.Shelf.Slices.CompactI
import Derived.Ground.NamesProg
import Derived.Ground.Names2Prog
import Derived.Shelf.Spec.SlicesInsertGrow
section
namespace Go.Proofs.YtbnmhbmhafbmiaaGreatDoor.W
set_option linter.unusedVariables false
set_option linter.unusedSimpArgs false
open Go.B
open Go.Au
variable {aA:Nat}
attribute [local simp] wpC_skip wpC_region wpC_seq kD fU wpC_block wpC_exit wpC_ret nO nP uI uL uJ uK aF6 nC iY fR jR fM fO cR nL fQ nJ mZ nB kB nE nH nF jV fN dS jH iZ jO nI nD nA nK uG fP jG nN uH kC eM nZ nX nY pin BExit.outOf gC gG put_eq sN Opd.ev eX oU kG oO pG kO gI mL pH oK oQ kX oV pD kR kQ oW pE gP uP oJ kJ pF bC iR cY cX nQ kF oneOf pM gY lD eJ pJ gV kZ eE pL gX kY eD uQ lJ pK gW lA eF uR lK lC eI uS lL lB eH cM pW nR iK aC asm dF nM iO jU kU jS kT nG oZ gK Option.map_some lH pI kV kA kW dX eL eK uU gJ kH kN kP kK Go.B.fillB Has
theorem s_ownRow(cs:List BV)(v:BV)(H:BH)(h:Rd H 2 v cs)(hp:0<cs.length)(hone:∀c∈cs,c.one=true)(hn:cs.length≤1000000):FnDoes (gam aA) 215 [v] H fun v' K=>∃bo,OwnV aA K 2 v' cs bo∧Fr H bo:=by
 refine FnDoes.of (fn:=ir215) rfl ?_
 simp[ir215]
 intro n3 b3 f3
 simp[aC f3 b3]
 intro n5 b5 f5
 have o:=Own.start (aA:=aA) (H:=H) |>.new f3 b3 (s:=.arr 2 [])
 obtain⟨v',K',bo',a1,a2,a3⟩:=o.app 0 rfl (v:=.sl n3 0 0) rfl (vy:=v) (new:=cs) (bytes:=8) (nb:=n5) ((h.keeps o.keeps).cells hp) hone (by simp;omega) (by simp;omega) f5 b5
 simp[a1]
 exact⟨a2.keeps,bo',a2.vec 0 rfl (by simpa using a3),fun b hb=>by subst hb;exact a2.fr 0 rfl⟩
theorem s_copy(t s rb w:Nat)(A:Aut)(H:BH)(hA:RdP H rb t s A)(hok:A.Ok w)(hw0:0<w)(hw:w≤26)(hn:A.y.length≤10000):FnDoes (gam aA) 179 [.ptr rb 0] H fun v K=>OwnRel aA H K t s A v:=by
 refine FnDoes.hide fun R hR=>?_
 refine FnDoes.of (fn:=ir179) rfl ?_
 obtain⟨u,x,hrow,hu,hx⟩:=id hA
 have hnl:A.nxt.length=A.y.length:=hok.len
 simp[ir179]
 intro n2 b2 f2
 have o0:=Own.start (aA:=aA) (H:=H) |>.new f2 b2 (s:=.arr 25 [.int .i64 0,.int .i64 0,.nils,.nils])
 have q0:=aJ o0.keeps (aD hrow (rt:=some 25) (j:=0) (c:=aB t) rfl rfl)
 have q1:=aJ o0.keeps (aD hrow (rt:=some 25) (j:=1) (c:=aB s) rfl rfl)
 have q2:=aJ o0.keeps (aD hrow (rt:=none) (j:=2) (c:=u) rfl rfl)
 simp[aC f2 b2,q0,q1,q2]
 intro n13 b13 f13
 simp[aC f13 b13]
 intro n18 b18 f18
 have o1:=o0.new f13 b13 (s:=.arr 4 [])
 obtain⟨v,K1,bo,g1,o2,hv⟩:=o1.app 0 rfl (bo:=some n13) (cs:=[]) (v:=.sl n13 0 0) rfl (vy:=u) (new:=A.y.map aK) (bytes:=1) (Rd.cells (hu.keeps o1.keeps) (by simpa using hok.pos)) (fun c hc=>by obtain⟨b,_,rfl⟩:=List.mem_map.1 hc;rfl) (by simp;omega) (by simp;omega) f18 b18
 have v1:=hv.one
 simp[g1,v1,cells_one v1]
 intro n3 b3 f3
 obtain⟨K2,g2,o3⟩:=(o2.new f3 b3 (s:=.arr 25 [.int .i64 0,.int .i64 0,.nils,.nils])).putAll 0 (b:=n3) (n:=4) (ds:=[aB t,aB s,v,.nils]) rfl rfl rfl (by simp[v1]) (rt:=none) rfl
 simp[aC f3 b3,g2]
 obtain⟨n,hnn⟩:∃n,n=A.nxt.length:=⟨_,rfl⟩
 obtain⟨F,hF⟩:∃F:BV→List Sl,F=fun z=>[(some n3,.arr 25 [aB t,aB s,v,z]),(bo,.arr 4 (A.y.map aK)),(some n2,.arr 25 [.int .i64 0,.int .i64 0,.nils,.nils])]:=⟨_,rfl⟩
 obtain⟨I,hI⟩:∃I:Nat→Env→BH→Prop,I=(fun q e K=>e 4=aB q∧∃z wo vs fr,Own aA H K (((wo,.arr 36 vs)::F z)++fr)∧Vec wo z q∧vs.length=q∧RowsOf 2 vs fr ((A.nxt.take q).map (·.map aB))):=⟨_,rfl⟩
 refine aE n [(0,.ptr rb 0),(2,.ptr n2 0),(3,.ptr n3 0)] I (i0:=0) ?_ ?_ ?_ (Nat.zero_le _) ?_
 ·rfl
 ·simp
 ·rw[hI]
  refine⟨by simp,.nils,none,[],[],?_,Vec.none,rfl,trivial⟩
  rw[hF]
  have o4:Own aA H K2 [(some n3,.arr 25 [aB t,aB s,v,.nils]),(bo,.arr 4 (A.y.map aK)),(some n2,.arr 25 [.int .i64 0,.int .i64 0,.nils,.nils])]:=o3
  simpa using o4.nil (.arr 36 [])
 clear o0 o1 o2 o3 q0 q1 q2 g1 g2
 rintro q e K hq ⟨e0,e2,e3,-⟩ hh
 rw[hI] at hh
 obtain⟨e4,z,wo,vs,fr,o,hz,hvs,hrows⟩:=hh
 rw[hF] at o
 simp only[] at e0 e2 e3
 have wq:=wS (n:=q) (by omega)
 have s3:=aJ o.keeps (aD hrow (rt:=none) (j:=3) (c:=x) rfl rfl)
 by_cases hlq:q<n
 ·have hqx:q<A.nxt.length:=by omega
  obtain⟨ri,hri,hrr⟩:=hx.at (i:=q) hqx
  have hrr:=aJ o.keeps (hrr none rfl)
  have hrw:=(hok.row _ (List.getElem_mem hqx)).1
  have p3:=aD (o.at 1 (b:=n3) rfl) (rt:=some 25) (j:=3) (c:=z) rfl rfl
  simp[e0,e3,e4,s3,hx.isSl,hx.len,←hnn,hlq,p3,hqx,hrr]
  refine(s_ownRow (aA:=aA) (A.nxt[q].map aB) ri K (hri.keeps o.keeps) (by simp;omega) (fun c hc=>by obtain⟨b,_,rfl⟩:=List.mem_map.1 hc;rfl) (by simp;omega)).step fun y K3 k3 hy=>?_
  obtain⟨yo,hy,hfr⟩:=hy
  have oL:=o.take k3 hy hfr
  have hy1:=hy.rd.one
  simp[hy1,cells_one hy1]
  intro n70 b70 f70
  simp[aC f70 b70]
  intro n71 b71 f71
  obtain⟨z',M',wo',q1,o5,q3⟩:=oL.push 1 rfl (v:=z) (by rw[hvs];exact hz) (x:=y) (bytes:=24) hy1 (by omega) (by omega) f70 b70 f71 b71
  obtain⟨M2,p2,o6⟩:=o5.put 2 (b:=n3) rfl (j:=3) (u:=z') (by simp) q3.one (rt:=none) rfl
  simp[q1,e3,p2,e4,wq,hlq]
  rw[hI,hF]
  refine⟨by simp,z',some wo',vs++[y],fr++[(yo,.arr 2 (A.nxt[q].map aB))],?_,by rw[hvs] at q3;exact q3,by simp[hvs],?_⟩
  ·have o7:Own aA H M2 ((yo,.arr 2 (A.nxt[q].map aB))::(((some wo',.arr 36 (vs++[y]))::[(some n3,.arr 25 [aB t,aB s,v,z']),(bo,.arr 4 (A.y.map aK)),(some n2,.arr 25 [.int .i64 0,.int .i64 0,.nils,.nils])])++fr)):=o6
   exact o7.last
  ·rw[List.take_add_one,List.getElem?_eq_getElem hqx,List.map_append]
   exact hrows.snoc hy.vec
 ·have hqn:q=n:=by omega
  subst hqn
  rw[hnn,List.take_length] at hrows
  have r3:=aI (o.at 1 (b:=n3) rfl) (n:=4) (rt:=none) rfl rfl
  have v1':=hv.one
  have z1:=hz.one
  obtain⟨K7,g7,o7⟩:=o.putAll 3 (b:=n2) rfl (n:=4) (ds:=[aB t,aB s,v,z]) rfl rfl (by simp[v1',z1]) (rt:=none) rfl
  have r7:=aI (o7.at 3 (b:=n2) rfl) (n:=4) (rt:=none) rfl rfl
  simp[e0,e2,e3,e4,s3,hx.isSl,hx.len,←hnn,r3,g7,r7]
  rw[hR]
  refine⟨o7.keeps,v,z,bo,wo,vs,fr,rfl,?_,by simpa using hv,by rw[hvs];exact hz,hrows⟩
  have o8:Own aA H K7 (((wo,.arr 36 vs)::(some n3,.arr 25 [aB t,aB s,v,z])::(bo,.arr 4 (A.y.map aK))::(some n2,.arr 25 [aB t,aB s,v,z])::fr)):=o7
  exact(o8.sub (M:=(wo,.arr 36 vs)::(bo,.arr 4 (A.y.map aK))::fr) (.cons_cons _ (.cons _ (.cons_cons _ (.cons _ (List.Sublist.refl _)))))).perm (List.Perm.swap _ _ _)
def celS(A:Aut)(n a b c q p j:Nat):Nat:=if (j<c∨(j=c∧p<q))∧dg j a≠dg j b then n else A.to p j
def cV(A:Aut)(n W a b c q:Nat):List (List Nat):=(List.range n).map fun p=>(List.range W).map fun j=>celS A n a b c q p j
def cD(A:Aut)(W a b:Nat):Aut:=⟨A.y++[false],cV A A.y.length W a b W 0++[List.replicate W A.y.length]⟩
theorem eU(A:Aut)(n W a b c q:Nat):(cV A n W a b c q).length=n:=by simp[cV]
theorem aZ4{A:Aut}{W a b:Nat}(hok:A.Ok W):cV A A.y.length W a b 0 0=A.nxt:=by
 have hnl:A.nxt.length=A.y.length:=hok.len
 refine List.ext_getElem (by rw[eU,hnl]) fun p h1 h2=>?_
 have hrw:=(hok.row _ (List.getElem_mem h2)).1
 simp only[cV,List.getElem_map,List.getElem_range]
 refine List.ext_getElem (by simp[hrw]) fun j h3 h4=>?_
 simp only[List.getElem_map,List.getElem_range]
 rw[rF hok h2 h4]
 unfold celS
 rw[if_neg (by omega)]
theorem aZ6(A:Aut)(n W a b c:Nat):cV A n W a b c n=cV A n W a b (c+1) 0:=by
 refine List.map_congr_left fun p hp=>List.map_congr_left fun j _=>?_
 have:=List.mem_range.1 hp
 unfold celS
 by_cases h1:j<c+1
 ·have h2:j<c∨(j=c∧p<n):=by omega
  simp only[h1,h2,true_or]
 ·have h2:¬(j<c∨(j=c∧p<n)):=by omega
  have h3:¬(j<c+1∨(j=c+1∧p<0)):=by omega
  simp only[h2,h3]
theorem aZ5{A:Aut}{n W a b c q:Nat}(hd:dg c a=dg c b):cV A n W a b c (q+1)=cV A n W a b c q:=by
 refine List.map_congr_left fun p hp=>List.map_congr_left fun j _=>?_
 unfold celS
 by_cases hj:j=c
 ·subst hj
  rw[if_neg (fun h=>h.2 hd),if_neg (fun h=>h.2 hd)]
 ·have e:(j<c∨(j=c∧p<q+1))↔(j<c∨(j=c∧p<q)):=by omega
  simp only[e]
theorem rowsS_set{A:Aut}{n W a b c q:Nat}(hd:dg c a≠dg c b)(hq:q<n):cV A n W a b c (q+1)=(cV A n W a b c q).set q (((cV A n W a b c q)[q]'(by rw[eU];exact hq)).set c n):=by
 refine List.ext_getElem (by simp[eU]) fun p h1 h2=>?_
 have hp:p<n:=by rw[eU] at h1;exact h1
 by_cases hpq:q=p
 ·subst hpq
  rw[List.getElem_set_self]
  refine List.ext_getElem (by simp[cV]) fun j h3 h4=>?_
  simp only[cV,List.getElem_map,List.getElem_range,List.getElem_set]
  by_cases hj:c=j
  ·subst hj
   rw[if_pos rfl]
   unfold celS
   rw[if_pos ⟨.inr ⟨rfl,by omega⟩,hd⟩]
  ·rw[if_neg hj]
   unfold celS
   have e:(j<c∨(j=c∧q<q+1))↔(j<c∨(j=c∧q<q)):=by omega
   simp only[e]
 ·rw[List.getElem_set_ne hpq]
  simp only[cV,List.getElem_map,List.getElem_range]
  refine List.map_congr_left fun j _=>?_
  unfold celS
  have e:(j<c∨(j=c∧p<q+1))↔(j<c∨(j=c∧p<q)):=by omega
  simp only[e]
theorem sameA_to{A:Aut}{W a b p j:Nat}(hp:p<A.y.length)(hj:j<W):(cD A W a b).to p j=if dg j a≠dg j b then A.y.length else A.to p j:=by
 have e:(cD A W a b).nxt.getD p []=(List.range W).map fun j=>celS A A.y.length a b W 0 p j:=by
  rw[List.getD_eq_getElem?_getD]
  unfold cD
  simp only[]
  rw[List.getElem?_append_left (by rw[eU];exact hp)]
  simp only[cV,List.getElem?_map,List.getElem?_range hp,Option.map_some,Option.getD_some]
 show ((cD A W a b).nxt.getD p []).getD j 0=_
 rw[e,getD_map (by simpa using hj)]
 simp only[List.getElem_range]
 unfold celS
 by_cases hd:dg j a=dg j b
 ·rw[if_neg (fun h=>h.2 hd),if_neg (fun h=>h hd)]
 ·rw[if_pos ⟨.inl hj,hd⟩,if_pos hd]
theorem aZ1{A:Aut}{W a b j:Nat}(hj:j<W):(cD A W a b).to A.y.length j=A.y.length:=by
 have e:(cD A W a b).nxt.getD A.y.length []=List.replicate W A.y.length:=by
  rw[List.getD_eq_getElem?_getD]
  unfold cD
  simp only[]
  rw[List.getElem?_append_right (by rw[eU];omega),eU]
  simp
 show ((cD A W a b).nxt.getD A.y.length []).getD j 0=_
 rw[e,List.getD_eq_getElem?_getD]
 simp[hj]
theorem wG{A:Aut}{W a b:Nat}:∀cs:List Nat,In W cs→(cD A W a b).lang A.y.length cs=false
 | [],_=>by simp[Aut.lang,Aut.run,cD]
 | c::cs,h=>by
  have:=wG (A:=A) (W:=W) (a:=a) (b:=b) cs h.tail
  show (cD A W a b).lang ((cD A W a b).to A.y.length c) cs=false
  rw[aZ1 h.head,this]
theorem yL{A:Aut}{W a b:Nat}(hok:A.Ok W):∀(cs:List Nat) (p:Nat),p<A.y.length→In W cs→(cD A W a b).lang p cs=(A.lang p cs&&diag a b cs)
 | [],p,hp,_=>by simp[Aut.lang,Aut.run,cD,diag,List.getElem?_append_left hp]
 | c::cs,p,hp,h=>by
  show (cD A W a b).lang ((cD A W a b).to p c) cs=_
  rw[sameA_to hp h.head]
  by_cases hd:dg c a=dg c b
  ·rw[if_neg (fun h=>h hd),yL hok cs _ (hok.to hp h.head) h.tail]
   simp[diag,hd,Aut.lang,Aut.run]
  ·rw[if_pos hd,wG cs h.tail]
   simp[diag,hd]
theorem sameA_ok{A:Aut}{W a b:Nat}(hok:A.Ok W):(cD A W a b).Ok W:=by
 refine⟨by simp[cD,eU],by simp[cD],fun r hr=>?_⟩
 have hl:(cD A W a b).y.length=A.y.length+1:=by simp[cD]
 rw[hl]
 unfold cD at hr
 simp only[] at hr
 rcases List.mem_append.1 hr with hr|hr
 ·unfold cV at hr
  obtain⟨p,hp,rfl⟩:=List.mem_map.1 hr
  have hp:=List.mem_range.1 hp
  refine⟨by simp,fun x hx=>?_⟩
  obtain⟨j,hj,rfl⟩:=List.mem_map.1 hx
  have hj:=List.mem_range.1 hj
  unfold celS
  split
  ·omega
  ·have:=hok.to hp hj;omega
 ·rw[List.mem_singleton.1 hr]
  refine⟨by simp,fun x hx=>?_⟩
  rw[List.eq_of_mem_replicate hx]
  omega
theorem s_one(T s tape rb:Nat)(ht1:1≤T)(ht:T≤3)(htape:tape+1≤T)(A:Aut)(H:BH)(hA:RdP H rb T s A)(hok:A.Ok (wd T))(hs:s<A.y.length)(hn:A.y.length≤150):Runs (gam aA) 178 [.ptr rb 0,aB tape] H (aB 0) H:=by
 obtain⟨u,x,hr,hu,hx⟩:=id hA
 have r0:=aD hr (rt:=none) (j:=0) (c:=aB T) rfl rfl
 have c1:=s_ok (aA:=aA) rb T s _ _ _ hA.raw (by omega)
 rw[bP ht1 ht hok hs hn] at c1
 have wT:IntKind.i64.wrap ((T:Int)-1)=(T:Int)-1:=w64 (by omega) (by omega)
 refine aV (fn:=ir178) rfl ?_
 simp[ir178]
 refine aN c1 ?_
 simp[r0,wT]
 refine aN (s_in tape 0 ((T:Int)-1) H) ?_
 have hin:inB tape 0 ((T:Int)-1)=true:=by simp[inB];omega
 rw[hin]
 simp
theorem s_SameOn(t s a b:Nat)(ht1:1≤t)(ht:t≤3)(ha:a<t)(hb:b<t)(hab:a≠b)(A:Aut)(m:BV)(H:BH)(hA:RdRel H t s A m)(hok:A.Ok (wd t))(hs:s<A.y.length)(hn:A.y.length≤150):FnDoes (gam aA) 119 [m,aB a,aB b] H fun v K=>RelR aA H t (vA t a b (A.lang s)) v K:=by
 refine FnDoes.hide fun R hR=>?_
 refine FnDoes.of (fn:=ir119) rfl ?_
 have g1:=hA
 obtain⟨u,x,rfl,hu,hx⟩:=hA
 have u1:=hu.one
 have x1:=aF hx.isSl
 have hw3:=eQ ht
 have hw0:0<wd t:=by
  have h1:=aF8 t
  have h2:p3 1≤p3 t:=p3_le ht1
  have h3:p3 1=3:=rfl
  omega
 simp[ir119,u1,x1]
 intro n3 b3 f3
 simp[aC f3 b3]
 intro n6 b6 f6
 have o1:=Own.start (aA:=aA) (H:=H) |>.new f3 b3 (s:=.arr 25 [aB t,aB s,u,x]) |>.new f6 b6 (s:=.arr 25 [.int .i64 0,.int .i64 0,.nils,.nils])
 obtain⟨H1,hH1⟩:∃H1,H1=(H.set n3 (.arr 25 [aB t,aB s,u,x])).set n6 (.arr 25 [.int .i64 0,.int .i64 0,.nils,.nils]):=⟨_,rfl⟩
 simp[aC f6 b6]
 rw[←hH1] at o1 ⊢
 have pA:RdP H1 n3 t s A:=RdRel.at g1 o1.keeps (o1.at 1 (b:=n3) rfl)
 have p0:=aD (o1.at 1 (b:=n3) rfl) (rt:=none) (j:=0) (c:=aB t) rfl rfl
 have p2:=aD (o1.at 1 (b:=n3) rfl) (rt:=none) (j:=2) (c:=u) rfl rfl
 have wT:IntKind.i64.wrap ((t:Int)-1)=(t:Int)-1:=w64 (by omega) (by omega)
 have hin:inB b 0 ((t:Int)-1)=true:=by simp[inB];omega
 have hab':¬(a:Int)=(b:Int):=by omega
 refine aN (s_one (aA:=aA) t s a n3 ht1 ht (by omega) A H1 pA hok hs hn) ?_
 simp[p0,wT]
 refine aN (s_in b 0 ((t:Int)-1) H1) ?_
 rw[hin]
 simp[hab,hab']
 refine(s_copy (aA:=aA) t s n3 (wd t) A H1 pA hok hw0 hw3 (by omega)).step fun v K1 k1 hv=>?_
 obtain⟨uc,xc,bo,wo,vs,fr,em,oc,huc,hxc,hrows⟩:=hv
 subst em
 have uc1:=huc.one
 have xc1:=hxc.one
 simp[uc1,xc1]
 intro n9 b9 f9
 obtain⟨K2,g2,o2⟩:=(oc.new f9 b9 (s:=.arr 25 [.int .i64 0,.int .i64 0,.nils,.nils])).putAll 0 (b:=n9) rfl (n:=4) (ds:=[aB t,aB s,uc,xc]) rfl rfl (by simp[uc1,xc1]) (rt:=none) rfl
 obtain⟨n,hnn⟩:∃n,n=A.y.length:=⟨_,rfl⟩
 have o2:Own aA H1 K2 ((some n9,.arr 25 [aB t,aB s,uc,xc])::(bo,.arr 4 (A.y.map aK))::(wo,.arr 36 vs)::fr):=o2
 have c2:=aD (o2.at 0 (b:=n9) rfl) (rt:=none) (j:=2) (c:=uc) rfl rfl
 have hub:Rd K2 4 uc (A.y.map aK):=o2.rd 1 rfl (by simpa using huc)
 simp[aC f9 b9,g2,c2,hub.isSl,hub.lenM,←hnn]
 intro n39 b39 f39
 have o3:=o2.new f39 b39 (s:=.arr 2 [])
 simp[aC f39 b39]
 obtain⟨W,hW⟩:∃W,W=wd t:=⟨_,rfl⟩
 rw[←hW] at hok hw0 hw3
 have hnl:A.nxt.length=n:=by rw[hok.len,hnn]
 have hvl:=hrows.len
 rw[List.length_map,hnl] at hvl
 obtain⟨I,hI⟩:∃I:Nat→Env→BH→Prop,I=(fun c e K=>e 12=aB c∧∃y yo fr,e 11=y∧Own aA H1 K ((yo,.arr 2 ((List.replicate c n).map aB))::(some n9,.arr 25 [aB t,aB s,uc,xc])::(bo,.arr 4 (A.y.map aK))::(wo,.arr 36 vs)::fr)∧Vec yo y c∧RowsOf 2 vs fr ((cV A n W a b c 0).map (·.map aB))):=⟨_,rfl⟩
 refine aE W [(1,aB a),(2,aB b),(3,.ptr n3 0),(6,.ptr n6 0),(9,.ptr n9 0),(10,aB n)] I (i0:=0) ?_ ?_ ?_ (Nat.zero_le _) ?_
 ·rfl
 ·simp
 ·rw[hI]
  refine⟨by simp,.sl n39 0 0,some n39,fr,by simp,o3,rfl,?_⟩
  rw[hnn,aZ4 hok]
  exact hrows
 clear oc o2 o3 c2 hub g2
 rintro c e K hcW ⟨e1,e2,e3,e6,e9,e10,-⟩ hh
 rw[hI] at hh
 obtain⟨e12,y,yo,fr',e11,oL,hy,hrs⟩:=hh
 simp only[] at e1 e2 e3 e6 e9 e10
 have wc:=wS (n:=c) (by omega)
 have s0:=aJ oL.keeps p0
 have hwide:=sF (aA:=aA) t K (by omega)
 rw[←hW] at hwide
 simp[e3,e12,s0]
 refine aN hwide ?_
 by_cases hlc:c<W
 ·simp[hlc,e10,e11]
  intro n70 b70 f70
  simp[aC f70 b70]
  intro n71 b71 f71
  have hyl:Vec yo y ((List.replicate c n).map aB).length:=by simpa using hy
  obtain⟨y',M',yo',q1,q2,q3⟩:=oL.push 0 rfl hyl (x:=aB n) (bytes:=8) rfl (by simp;omega) (by simp;omega) f70 b70 f71 b71
  simp[q1]
  have q2:Own aA H1 M' ((some yo',.arr 2 ((List.replicate (c+1) n).map aB))::(some n9,.arr 25 [aB t,aB s,uc,xc])::(bo,.arr 4 (A.y.map aK))::(wo,.arr 36 vs)::fr'):=by
   rw[List.replicate_succ',List.map_append]
   exact q2
  obtain⟨J,hJ⟩:∃J:Nat→Env→BH→Prop,J=(fun q e K=>e 13=aB q∧∃fr,Own aA H1 K ((some yo',.arr 2 ((List.replicate (c+1) n).map aB))::(some n9,.arr 25 [aB t,aB s,uc,xc])::(bo,.arr 4 (A.y.map aK))::(wo,.arr 36 vs)::fr)∧RowsOf 2 vs fr ((cV A n W a b c q).map (·.map aB))):=⟨_,rfl⟩
  refine aE n [(1,aB a),(2,aB b),(3,.ptr n3 0),(6,.ptr n6 0),(9,.ptr n9 0),(10,aB n),(11,y'),(12,aB c)] J (i0:=0) ?_ ?_ ?_ (Nat.zero_le _) ?_
  ·rfl
  ·simp[e1,e2,e3,e6,e9,e10,e12]
  ·rw[hJ]
   exact⟨by simp,fr',q2,hrs⟩
  clear e1 e2 e3 e6 e9 e10 e11 e12 s0 q1
  rintro q e L hqn ⟨e1,e2,e3,e6,e9,e10,e11,e12,-⟩ hh
  rw[hJ] at hh
  obtain⟨e13,fr2,oM,hrs2⟩:=hh
  simp only[] at e1 e2 e3 e6 e9 e10 e11 e12
  have wq:=wS (n:=q) (by omega)
  have s2:=aJ oM.keeps p2
  have huk:=hu.keeps (o1.keeps.trans oM.keeps)
  by_cases hlq:q<n
  ·simp[e3,e13,s2,huk.isSl,huk.lenM,←hnn,hlq,e12,e1]
   refine aN (tR (aA:=aA) c a L (by omega) (by omega)) ?_
   simp[e12,e2]
   refine aN (tR (aA:=aA) c b L (by omega) (by omega)) ?_
   by_cases hd:dg c a=dg c b
   ·have hdb:((dg c a:Nat):Int)=((dg c b:Nat):Int):=by rw[hd]
    simp[hd,e13,wq,hlq]
    rw[hJ]
    refine⟨by simp,fr2,oM,?_⟩
    rw[aZ5 hd]
    exact hrs2
   ·have hdb:¬((dg c a:Nat):Int)=((dg c b:Nat):Int):=by omega
    have hqr:q<(cV A n W a b c q).length:=by rw[eU];exact hlq
    have hqv:q<vs.length:=by omega
    have hxq:((cV A n W a b c q).map (·.map aB))[q]?=some (((cV A n W a b c q)[q]).map aB):=by rw[List.getElem?_map,List.getElem?_eq_getElem hqr];rfl
    obtain⟨uo,hfr,huv⟩:=hrs2.get (List.getElem?_eq_getElem hqv) hxq
    have hrl:(((cV A n W a b c q)[q]).map aB).length=W:=by simp[cV]
    have p3:=aD (oM.at 1 (b:=n9) rfl) (rt:=none) (j:=3) (c:=xc) rfl rfl
    have hvec:Rd L 36 xc vs:=oM.rd 3 rfl hxc
    have g1:=hvec.get (i:=q) hqv (rt:=none) rfl
    have hrow:Rd L 2 vs[q] (((cV A n W a b c q)[q]).map aB):=oM.rd (q+4) (by simpa using hfr) huv
    have hrl2:vs[q].slen=W:=by rw[hrow.len,hrl]
    obtain⟨K',w1,o'⟩:=oM.wr (q+4) (by simpa using hfr) huv (j:=c) (by rw[hrl];exact hlc) (u:=aB n) rfl (rt:=none) rfl
    simp[hd,hdb,e9,p3,e13,hvec.isSl,hvec.len,hqv,g1,e12,e10,hrow.isSl,hrl2,hlc,w1,wq,hlq]
    rw[hJ]
    refine⟨by simp,fr2.set q (uo,.arr 2 ((((cV A n W a b c q)[q]).map aB).set c (aB n))),o',?_⟩
    rw[rowsS_set hd hlq,List.map_set,List.map_set]
    exact RowsOf.upd (by simp) hrs2 hfr
  ·have hqe:q=n:=by omega
   subst hqe
   simp[e3,e13,s2,huk.isSl,huk.lenM,←hnn,e12,wc,hlc]
   rw[hI]
   refine⟨by simp,y',some yo',fr2,by simp[e11],oM,by simpa using q3,?_⟩
   rw[←aZ6]
   exact hrs2
 ·have hce:c=W:=by omega
  subst hce
  have c2:=aD (oL.at 1 (b:=n9) rfl) (rt:=none) (j:=2) (c:=uc) rfl rfl
  simp[e9,c2]
  intro n75 b75 f75
  simp[aC f75 b75]
  intro n76 b76 f76
  obtain⟨ud,M1,bo',q1,o4,q3⟩:=oL.push 2 rfl (v:=uc) (by simpa using huc) (x:=.bool false) (bytes:=1) rfl (by simp;omega) (by simp;omega) f75 b75 f76 b76
  have ud1:=q3.one
  obtain⟨M2,w2,o5⟩:=o4.put 1 (b:=n9) rfl (j:=2) (u:=ud) (by simp) ud1 (rt:=none) rfl
  have c3:=aD (o5.at 1 (b:=n9) rfl) (rt:=none) (j:=3) (c:=xc) rfl rfl
  have y1:=hy.one
  simp[q1,w2,e9,c3,e11,y1,cells_one y1]
  intro n81 b81 f81
  simp[aC f81 b81]
  intro n82 b82 f82
  obtain⟨xd,M3,wo',q4,o6,q6⟩:=o5.push 3 rfl (v:=xc) hxc (x:=y) (bytes:=24) y1 (by omega) (by omega) f81 b81 f82 b82
  have xd1:=q6.one
  obtain⟨M4,w4,o7⟩:=o6.put 1 (b:=n9) rfl (j:=3) (u:=xd) (by simp) xd1 (rt:=none) rfl
  have o7:Own aA H1 M4 ((yo,.arr 2 ((List.replicate c n).map aB))::([(some n9,.arr 25 [aB t,aB s,ud,xd]),(some bo',.arr 4 (A.y.map aK++[.bool false])),(some wo',.arr 36 (vs++[y]))]++fr')):=o7
  have o8:=o7.last
  have hrs3:=hrs.snoc (show Vec yo y ((List.replicate c n).map aB).length from by simpa using hy)
  have hP:RdP M4 n9 t s (cD A c a b):=by
   have eacc:(cD A c a b).y.map aK=A.y.map aK++[.bool false]:=by simp[cD]
   refine⟨ud,xd,o8.at 0 rfl,by rw[eacc];exact o8.rd 1 rfl (by simpa using q3),?_⟩
   have en:(cD A c a b).nxt=cV A n c a b c 0++[List.replicate c n]:=by rw[hnn];rfl
   rw[en]
   exact RowsOf.rdR (bo:=bo) (F:=[(some n9,.arr 25 [aB t,aB s,ud,xd]),(some bo',.arr 4 (A.y.map aK++[.bool false])),(some wo',.arr 36 (vs++[y]))]) o8 (by rw[List.map_append];exact hrs3) (o8.rd 2 rfl (by simpa using q6))
  have hok2:(cD A c a b).Ok (wd t):=by rw[←hW];exact sameA_ok hok
  have hl2:(cD A c a b).y.length=n+1:=by simp[cD,hnn]
  have hs2:s<(cD A c a b).y.length:=by omega
  have et:TA t ((cD A c a b).lang s)=TA t (fun cs=>A.lang s cs&&diag a b cs):=cP fun cs hc _=>yL hok cs s hs (by rw[hW];exact hc)
  have hlen:=(aY ht hok2 hs2).2
  rw[et] at hlen
  simp[q4,w4,e9]
  refine(dD (aA:=aA) t s n9 ht (cD A c a b) M4 hP hok2 hs2 (by omega)).step fun v K5 k5 hv=>?_
  rw[et] at hv
  simp
  refine(wH (aA:=aA) t _ v M4 K5 hv (by omega)).step fun r K6 k6 hr=>?_
  have hr:RelR aA M4 t (vA t a b (A.lang s)) r K6:=hr
  obtain⟨m8,K9,rfl,g8,r8,kk,hrel⟩:=aW (aA:=aA) (o1.call o8.keeps) (i:=0) (n2:=n6) rfl rfl (k5.trans k6) hr
  simp[e6,g8,r8]
  rw[hR]
  exact⟨kk,hrel⟩
theorem s_shift(l:Nat)(hl:l=1000)(s rb:Nat)(by_:Int)(hby:-1000≤by_∧by_≤1000)(A:Aut)(H:BH)(hA:RdP H rb 1 s A)(hok:A.Ok (wd 1))(hs:s<A.y.length)(hn:A.y.length≤150):FnDoes (gam aA) 74 [.ptr rb 0,encI by_] H fun v K=>RelR aA H 1 (rG l by_ (A.lang s)) v K:=by
 refine FnDoes.hide fun R hR=>?_
 refine FnDoes.of (fn:=ir74) rfl ?_
 obtain⟨u,x,hrow,hu,hx⟩:=id hA
 have u1:=hu.one
 have x1:=aF hx.isSl
 have hc:-1000≤-by_∧-by_≤1000:=by omega
 have wn:IntKind.i64.wrap (-by_) = -by_:=w64 (by omega) (by omega)
 simp[ir74]
 intro n4 b4 f4
 have o1:=Own.start (aA:=aA) (H:=H) |>.new f4 b4 (s:=.arr 25 [.int .i64 0,.int .i64 0,.nils,.nils])
 obtain⟨H1,hH1⟩:∃H1,H1=H.set n4 (.arr 25 [.int .i64 0,.int .i64 0,.nils,.nils]):=⟨_,rfl⟩
 simp[aC f4 b4]
 rw[←hH1] at o1 ⊢
 have hrow1:H1.row rb=.arr 25 [aB 1,aB s,u,x]:=by rw[o1.keeps rb (by rw[hrow];simp),hrow]
 have r2:=aI hrow1 (n:=4) (rt:=none) rfl rfl
 have hrel:RdRel H1 1 s A (.agg [aB 1,aB s,u,x]):=⟨u,x,rfl,hu.keeps o1.keeps,hx.keeps o1.keeps⟩
 simp[r2]
 have gA:=mE (t:=1) (at_:=1) (by decide) hok hs
 refine(s_AddTape (aA:=aA) 1 s 1 (by decide) (by decide) (by decide) A _ _ hrel hok hs hn).step fun r0 L0 l0 hr0=>?_
 have hr0:RelR aA _ 2 (addN 1 1 (A.lang s)) r0 L0:=hr0
 have ga1:=tQ hok hs
 have hsz:=fun S c h=>aT3 (S:=S) (c:=c) hok hs h
 unfold rG at hR
 unfold aN4 at hR ga1 hsz
 obtain⟨G0,hG0⟩:∃G,G=addN 1 1 (A.lang s):=⟨_,rfl⟩
 rw[←hG0] at hr0 gA ga1 hsz hR
 refine rel_step (d:=14) (a:=19) (b:=20) (x:=6) (y:=7) (p:=21) (q:=22) (z:=23) (w:=24) (r4:=4) (r5:=5) (t:=2) o1 (i:=0) (n4:=n4) rfl rfl l0 hr0 gA [(1,encI by_)] ?_ ?_ (by simp) (by decide) (fun _ _ h=>h) (fun e0 m0 M0 B ms0 eG0 hh oN0 kk0 hb0 gg0=>?_) (fun e K2 c eG hh r4 kk=>?_)
 ·simp[Has]
 ·simp
 rotate_left
 ·rw[eG] at hR
  obtain⟨e5,e4,-⟩:=hh
  simp[e4,e5,r4]
  rw[hR]
  exact⟨kk,rfl⟩
 obtain⟨e06,-,e04,e01,-⟩:=hh
 simp only[] at e06 e04 e01
 rw[eG0] at hR ga1 hsz gA
 have hR:R=fun v K=>RelR aA H 1 (cS (fun S=>cS (fun W=>cS (fun C=>iW l 1 0 (TA 2 (C.lang 0))) (rX l (S.lang 0) (W.lang 0))) (bE3 (-by_))) (vA 2 0 1 (B.lang 0))) v K:=hR
 have ga1:GoodC 2 (vA 2 0 1 (B.lang 0)):=ga1
 have hsz:∀(S:Aut) (c:Nat),vA 2 0 1 (B.lang 0)=(some S,c)→(TA 3 (bV 2 2 (S.lang 0))).y.length≤150:=hsz
 have o3:=o1.call (l0.trans kk0)
 simp[e06,gg0]
 refine(s_SameOn (aA:=aA) 2 0 0 1 (by decide) (by decide) (by decide) (by decide) (by decide) B _ _ hb0.rd gA.2.1 gA.2.1.pos gA.2.2).step fun r1 L1 l1 hr1=>?_
 obtain⟨G1,hG1⟩:∃G,G=vA 2 0 1 (B.lang 0):=⟨_,rfl⟩
 rw[←hG1] at hr1 ga1 hsz hR
 refine rel_step (d:=25) (a:=28) (b:=29) (x:=8) (y:=9) (p:=30) (q:=31) (z:=32) (w:=33) (r4:=4) (r5:=5) (t:=2) o3 (i:=0) (n4:=n4) rfl rfl l1 hr1 ga1 [(1,encI by_)] ?_ ?_ (by simp) (by decide) (fun _ _ h=>h) (fun e1 m1 M1 S ms1 eG hh oN1 kk1 hb1 gg1=>?_) (fun e K2 c eG hh r4 kk=>?_)
 ·simp[Has,e04,e01]
 ·simp
 rotate_left
 ·rw[eG] at hR
  obtain⟨e5,e4,-⟩:=hh
  simp[e4,e5,r4]
  rw[hR]
  exact⟨kk,rfl⟩
 obtain⟨e16,-,e14,e11,-⟩:=hh
 simp only[] at e16 e14 e11
 rw[eG] at hR ga1
 have hsz:=hsz S 0 eG
 have o4:=o3.call (l1.trans kk1)
 simp[e11,wn]
 intro n21 b21 f21
 have o5:=(Own.start (aA:=aA) (H:=M1)).new f21 b21 (s:=.arr 2 [.int .i64 1,.int .i64 (-1)])
 have hv:Rd _ 2 (.sl n21 0 2) (([1,-1]:List Int).map encI):=o5.rd 0 rfl rfl
 simp[aC f21 b21,e11,wn]
 have hU:=vW hc
 have hUb:∀v∈(aZ::leftV (-by_)),-1100000000000≤v∧v≤1100000000000:=fun v hv=>by
  rcases List.mem_cons.1 hv with rfl|hv
  ·unfold aZ;omega
  ·have:=aJ0 hc hv;omega
 refine(vB (aA:=aA) 1 (.inl rfl) [1,-1] aF9 (by decide) (-by_) (by omega) (aZ::leftV (-by_)) hU (show 2^2*((leftV (-by_)).length+1)+1≤150 by rw[xF];decide) hUb (.sl n21 0 2) _ hv).step fun r2' L2 l2 hr2=>?_
 have ga2:GoodC 2 (bE3 (-by_)):=xA (terms:=[1,-1]) (by decide) hU
 have hr2:RelR aA _ 2 (bE3 (-by_)) r2' L2:=hr2
 have hwy:=fun W c hok h=>way_add (W:=W) (d:=c) hc hok h
 have hR:R=fun v K=>RelR aA H 1 (cS (fun W=>cS (fun C=>iW l 1 0 (TA 2 (C.lang 0))) (rX l (S.lang 0) (W.lang 0))) (bE3 (-by_))) v K:=hR
 have hwy:∀(W:Aut) (c:Nat),W.Ok (wd 2)→bE3 (-by_)=(some W,c)→(TA 3 (bV 2 0 (W.lang 0))).y.length≤150:=hwy
 obtain⟨G2,hG2⟩:∃G,G=bE3 (-by_):=⟨_,rfl⟩
 rw[←hG2] at hr2 ga2 hwy hR
 have o6:=o4.call o5.keeps
 refine rel_step (d:=34) (a:=39) (b:=40) (x:=10) (y:=11) (p:=41) (q:=42) (z:=43) (w:=44) (r4:=4) (r5:=5) (t:=2) o6 (i:=0) (n4:=n4) rfl rfl l2 hr2 ga2 [(8,.ptr m1 0)] ?_ ?_ (by simp) (by decide) (fun _ _ h=>h) (fun e2 m2 M2 W ms2 eG2 hh oN2 kk2 hb2 gg2=>?_) (fun e K2 c eG hh r4 kk=>?_)
 ·simp[Has,e14,e16]
 ·simp
 rotate_left
 ·rw[eG] at hR
  obtain⟨e5,e4,-⟩:=hh
  simp[e4,e5,r4]
  rw[hR]
  exact⟨kk,rfl⟩
 obtain⟨e28,-,e24,e26,-⟩:=hh
 simp only[] at e28 e24 e26
 rw[eG2] at hR ga2
 have hwy:=hwy W 0 ga2.2.1 eG2
 have kS:=o5.keeps.trans (l2.trans kk2)
 have gg1':=aJ kS gg1
 have o7:=o6.call (l2.trans kk2)
 simp[e28,e26,gg1',gg2]
 refine(s_Compose (aA:=aA) l hl 0 0 S W _ _ _ (hb1.rd.keeps kS) hb2.rd ga1.2.1 ga2.2.1 ga1.2.1.pos ga2.2.1.pos ga1.2.2 ga2.2.2 hsz hwy).step fun r3 L3 l3 hr3=>?_
 have hR:R=fun v K=>RelR aA H 1 (cS (fun C=>iW l 1 0 (TA 2 (C.lang 0))) (rX l (S.lang 0) (W.lang 0))) v K:=hR
 have ga3:GoodC 2 (rX l (S.lang 0) (W.lang 0)):=xQ ga1.2.1 ga2.2.1 ga1.2.1.pos ga2.2.1.pos
 obtain⟨G3,hG3⟩:∃G,G=rX l (S.lang 0) (W.lang 0):=⟨_,rfl⟩
 rw[←hG3] at hr3 ga3 hR
 refine rel_step (d:=45) (a:=49) (b:=50) (x:=12) (y:=13) (p:=51) (q:=52) (z:=53) (w:=54) (r4:=4) (r5:=5) (t:=2) o7 (i:=0) (n4:=n4) rfl rfl l3 hr3 ga3 [] ?_ ?_ (by simp) (by decide) (fun _ _ h=>h) (fun e3 m3 M3 C ms3 eG3 hh oN3 kk3 hb3 gg3=>?_) (fun e K2 c eG hh r4 kk=>?_)
 ·simp[Has,e24]
 ·simp
 rotate_left
 ·rw[eG] at hR
  obtain⟨e5,e4,-⟩:=hh
  simp[e4,e5,r4]
  rw[hR]
  exact⟨kk,rfl⟩
 obtain⟨e39,-,e34,-⟩:=hh
 simp only[] at e39 e34
 rw[eG3] at hR ga3
 have hR:R=fun v K=>RelR aA H 1 (iW l 1 0 (TA 2 (C.lang 0))) v K:=hR
 have o8:=o7.call (l3.trans kk3)
 simp[e39,gg3]
 refine(s_SomeOn (aA:=aA) l hl 1 0 0 (by decide) (by decide) (by decide) C _ _ hb3.rd ga3.2.1 ga3.2.1.pos ga3.2.2).step fun r8 L8 l8 hr8=>?_
 obtain⟨m8,K8',rfl,g8,r8x,kk8,hrel8⟩:=aW (aA:=aA) o8 (i:=0) (n2:=n4) rfl rfl l8 hr8
 simp[e34,g8,r8x]
 rw[hR]
 exact⟨kk8,hrel8⟩
noncomputable def langS(r:aA5):List Nat→Bool:=(autR r).lang r.2.1.toNat
theorem rO{l:Nat}{by_:Int}(hby:-1000≤by_∧by_≤1000){A:Aut}{s:Nat}(hA:A.Ok (wd 1))(hs:s<A.y.length):GoodC 1 (rG l by_ (A.lang s)) :=
 dV (t':=2) (tQ hA hs) fun S hS _=>dV (t':=2) (xA (terms:=[1,-1]) (by decide) (vW (by omega))) fun W hW _=>dV (t':=2) (xQ hS hW hS.pos hW.pos) fun C _ _=>yJ (s:=0) (by decide)
theorem i_either1(H:BH):Op2 aA H 189 [] (fun a b=>a||b):=by
 intro K hK a b
 refine FnDoes.of (fn:=ir189) rfl ?_
 cases a<;>simp[ir189]<;>exact BH.Keeps.refl K
theorem i_either(t s1 s2:Nat)(ht1:1≤t)(ht:t≤3)(A B:Aut)(m1 m2:BV)(H:BH)(hA:RdRel H t s1 A m1)(hB:RdRel H t s2 B m2)(hokA:A.Ok (wd t))(hokB:B.Ok (wd t))(hs1:s1<A.y.length)(hs2:s2<B.y.length)(hna:A.y.length≤150)(hnb:B.y.length≤150):FnDoes (gam aA) 136 [m1,m2] H fun v K=>RelR aA H t (bD t (fun a b=>a||b) (A.lang s1) (B.lang s2)) v K:=by
 refine FnDoes.hide fun R hR=>?_
 refine FnDoes.of (fn:=ir136) rfl ?_
 have g1:=hA
 have g2:=hB
 obtain⟨u,x,rfl,hu,hx⟩:=hA
 obtain⟨u',x',rfl,hu',hx'⟩:=hB
 have u1:=hu.one
 have x1:=aF hx.isSl
 have u1':=hu'.one
 have x1':=aF hx'.isSl
 simp[ir136,u1,x1,u1',x1']
 intro n2 b2 f2
 simp[aC f2 b2,u1',x1']
 intro n3 b3 f3
 simp[aC f3 b3]
 intro n4 b4 f4
 have o1:=Own.start (aA:=aA) (H:=H) |>.new f2 b2 (s:=.arr 25 [aB t,aB s1,u,x]) |>.new f3 b3 (s:=.arr 25 [aB t,aB s2,u',x']) |>.new f4 b4 (s:=.arr 25 [.int .i64 0,.int .i64 0,.nils,.nils])
 have r0:=aI (o1.at 2 (b:=n2) rfl) (n:=4) (rt:=none) rfl rfl
 have r1:=aI (o1.at 1 (b:=n3) rfl) (n:=4) (rt:=none) rfl rfl
 simp[aC f4 b4,r0,r1]
 refine(aD6 (aA:=aA) t s1 s2 ht1 ht A B _ _ _ _ i_either1 _ (g1.keeps o1.keeps) (g2.keeps o1.keeps) hokA hokB hs1 hs2 hna hnb).step fun v K2 k2 hv=>?_
 obtain⟨m,K8,rfl,g8,r8,kk,hrel⟩:=aW (aA:=aA) o1 (i:=0) (n2:=n4) rfl rfl k2 hv
 simp[g8,r8]
 rw[hR]
 exact⟨kk,hrel⟩
theorem s_either(t s1 s2:Nat)(ht1:1≤t)(ht:t≤3)(A B:Aut)(m1 m2:BV)(H:BH)(hA:RdRel H t s1 A m1)(hB:RdRel H t s2 B m2)(hokA:A.Ok (wd t))(hokB:B.Ok (wd t))(hs1:s1<A.y.length)(hs2:s2<B.y.length)(hna:A.y.length≤150)(hnb:B.y.length≤150):FnDoes (gam aA) 133 [m1,m2] H fun v K=>RelR aA H t (bD t (fun a b=>a||b) (A.lang s1) (B.lang s2)) v K:=by
 refine FnDoes.hide fun R hR=>?_
 refine FnDoes.of (fn:=ir133) rfl ?_
 have g1:=hA
 have g2:=hB
 obtain⟨u,x,rfl,hu,hx⟩:=hA
 obtain⟨u',x',rfl,hu',hx'⟩:=hB
 have u1:=hu.one
 have x1:=aF hx.isSl
 have u1':=hu'.one
 have x1':=aF hx'.isSl
 simp[ir133,u1,x1,u1',x1']
 intro n2 b2 f2
 simp[aC f2 b2,u1',x1']
 intro n3 b3 f3
 simp[aC f3 b3]
 intro n4 b4 f4
 have o1:=Own.start (aA:=aA) (H:=H) |>.new f2 b2 (s:=.arr 25 [aB t,aB s1,u,x]) |>.new f3 b3 (s:=.arr 25 [aB t,aB s2,u',x']) |>.new f4 b4 (s:=.arr 25 [.int .i64 0,.int .i64 0,.nils,.nils])
 have p1:RdP _ n2 t s1 A:=g1.at o1.keeps (o1.at 2 (b:=n2) rfl)
 have p2:RdP _ n3 t s2 B:=g2.at o1.keeps (o1.at 1 (b:=n3) rfl)
 simp[aC f4 b4]
 refine(aN6 (aA:=aA) t s1 s2 2 n2 n3 ht1 ht A B _ p1 p2 hokA hokB hs1 hs2 hna hnb).step fun v K2 k2 hv=>?_
 rw[opW_2] at hv
 obtain⟨m,K8,rfl,g8,r8,kk,hrel⟩:=aW (aA:=aA) o1 (i:=0) (n2:=n4) rfl rfl k2 hv
 simp[g8,r8]
 rw[hR]
 exact⟨kk,hrel⟩
theorem bB3(H:BH):Op2 aA H 191 [] (fun a b=>a&&!b):=by
 intro K hK a b
 refine FnDoes.of (fn:=ir191) rfl ?_
 cases a<;>simp[ir191]<;>exact BH.Keeps.refl K
theorem i_without(t s1 s2:Nat)(ht1:1≤t)(ht:t≤3)(A B:Aut)(m1 m2:BV)(H:BH)(hA:RdRel H t s1 A m1)(hB:RdRel H t s2 B m2)(hokA:A.Ok (wd t))(hokB:B.Ok (wd t))(hs1:s1<A.y.length)(hs2:s2<B.y.length)(hna:A.y.length≤150)(hnb:B.y.length≤150):FnDoes (gam aA) 138 [m1,m2] H fun v K=>RelR aA H t (bD t (fun a b=>a&&!b) (A.lang s1) (B.lang s2)) v K:=by
 refine FnDoes.hide fun R hR=>?_
 refine FnDoes.of (fn:=ir138) rfl ?_
 have g1:=hA
 have g2:=hB
 obtain⟨u,x,rfl,hu,hx⟩:=hA
 obtain⟨u',x',rfl,hu',hx'⟩:=hB
 have u1:=hu.one
 have x1:=aF hx.isSl
 have u1':=hu'.one
 have x1':=aF hx'.isSl
 simp[ir138,u1,x1,u1',x1']
 intro n2 b2 f2
 simp[aC f2 b2,u1',x1']
 intro n3 b3 f3
 simp[aC f3 b3]
 intro n4 b4 f4
 have o1:=Own.start (aA:=aA) (H:=H) |>.new f2 b2 (s:=.arr 25 [aB t,aB s1,u,x]) |>.new f3 b3 (s:=.arr 25 [aB t,aB s2,u',x']) |>.new f4 b4 (s:=.arr 25 [.int .i64 0,.int .i64 0,.nils,.nils])
 have r0:=aI (o1.at 2 (b:=n2) rfl) (n:=4) (rt:=none) rfl rfl
 have r1:=aI (o1.at 1 (b:=n3) rfl) (n:=4) (rt:=none) rfl rfl
 simp[aC f4 b4,r0,r1]
 refine(aD6 (aA:=aA) t s1 s2 ht1 ht A B _ _ _ _ bB3 _ (g1.keeps o1.keeps) (g2.keeps o1.keeps) hokA hokB hs1 hs2 hna hnb).step fun v K2 k2 hv=>?_
 obtain⟨m,K8,rfl,g8,r8,kk,hrel⟩:=aW (aA:=aA) o1 (i:=0) (n2:=n4) rfl rfl k2 hv
 simp[g8,r8]
 rw[hR]
 exact⟨kk,hrel⟩
theorem s_without(t s1 s2:Nat)(ht1:1≤t)(ht:t≤3)(A B:Aut)(m1 m2:BV)(H:BH)(hA:RdRel H t s1 A m1)(hB:RdRel H t s2 B m2)(hokA:A.Ok (wd t))(hokB:B.Ok (wd t))(hs1:s1<A.y.length)(hs2:s2<B.y.length)(hna:A.y.length≤150)(hnb:B.y.length≤150):FnDoes (gam aA) 134 [m1,m2] H fun v K=>RelR aA H t (bD t (fun a b=>a&&!b) (A.lang s1) (B.lang s2)) v K:=by
 refine FnDoes.hide fun R hR=>?_
 refine FnDoes.of (fn:=ir134) rfl ?_
 have g1:=hA
 have g2:=hB
 obtain⟨u,x,rfl,hu,hx⟩:=hA
 obtain⟨u',x',rfl,hu',hx'⟩:=hB
 have u1:=hu.one
 have x1:=aF hx.isSl
 have u1':=hu'.one
 have x1':=aF hx'.isSl
 simp[ir134,u1,x1,u1',x1']
 intro n2 b2 f2
 simp[aC f2 b2,u1',x1']
 intro n3 b3 f3
 simp[aC f3 b3]
 intro n4 b4 f4
 have o1:=Own.start (aA:=aA) (H:=H) |>.new f2 b2 (s:=.arr 25 [aB t,aB s1,u,x]) |>.new f3 b3 (s:=.arr 25 [aB t,aB s2,u',x']) |>.new f4 b4 (s:=.arr 25 [.int .i64 0,.int .i64 0,.nils,.nils])
 have p1:RdP _ n2 t s1 A:=g1.at o1.keeps (o1.at 2 (b:=n2) rfl)
 have p2:RdP _ n3 t s2 B:=g2.at o1.keeps (o1.at 1 (b:=n3) rfl)
 simp[aC f4 b4]
 refine(aN6 (aA:=aA) t s1 s2 3 n2 n3 ht1 ht A B _ p1 p2 hokA hokB hs1 hs2 hna hnb).step fun v K2 k2 hv=>?_
 rw[opW_3] at hv
 obtain⟨m,K8,rfl,g8,r8,kk,hrel⟩:=aW (aA:=aA) o1 (i:=0) (n2:=n4) rfl rfl k2 hv
 simp[g8,r8]
 rw[hR]
 exact⟨kk,hrel⟩
noncomputable def dP(l:Nat)(per:Int)(L:List Nat→Bool):Option Aut×Nat:=cS (fun S=>cS (fun E=>cS (fun B=>bD 1 (fun a b=>a&&!b) (E.lang 0) (B.lang 0)) (bD 1 (fun a b=>a&&b) L (S.lang 0))) (bD 1 (fun a b=>a||b) L (S.lang 0))) (rG l (-per) L)
theorem vX{l:Nat}{per:Int}(hp:-1000≤per∧per≤1000){A:Aut}{s:Nat}(hA:A.Ok (wd 1))(hs:s<A.y.length):GoodC 1 (dP l per (A.lang s)) :=
 dV (t':=1) (rO (by omega) hA hs) fun S hS _=>dV (t':=1) (cE (by decide) hA hS hs hS.pos) fun E hE _=>dV (t':=1) (cE (by decide) hA hS hs hS.pos) fun B hB _=>cE (by decide) hE hB hE.pos hB.pos
theorem i_unlike(l:Nat)(hl:l=1000)(s:Nat)(per:Int)(hp:-1000≤per∧per≤1000)(A:Aut)(m:BV)(H:BH)(hA:RdRel H 1 s A m)(hok:A.Ok (wd 1))(hs:s<A.y.length)(hn:A.y.length≤150):FnDoes (gam aA) 87 [m,encI per] H fun v K=>RelR aA H 1 (dP l per (A.lang s)) v K:=by
 refine FnDoes.hide fun R hR=>?_
 refine FnDoes.of (fn:=ir87) rfl ?_
 have g1:=hA
 obtain⟨u,x,rfl,hu,hx⟩:=hA
 have u1:=hu.one
 have x1:=aF hx.isSl
 have wn:IntKind.i64.wrap (-per) = -per:=w64 (by omega) (by omega)
 simp[ir87,u1,x1]
 intro n2 b2 f2
 simp[aC f2 b2]
 intro n4 b4 f4
 have o1:=Own.start (aA:=aA) (H:=H) |>.new f2 b2 (s:=.arr 25 [aB 1,aB s,u,x]) |>.new f4 b4 (s:=.arr 25 [.int .i64 0,.int .i64 0,.nils,.nils])
 obtain⟨H1,hH1⟩:∃H1,H1=(H.set n2 (.arr 25 [aB 1,aB s,u,x])).set n4 (.arr 25 [.int .i64 0,.int .i64 0,.nils,.nils]):=⟨_,rfl⟩
 have r2:=aI (o1.at 1 (b:=n2) rfl) (n:=4) (rt:=none) rfl rfl
 simp[aC f4 b4,r2,wn]
 rw[←hH1] at o1 r2 ⊢
 refine(i_shift (aA:=aA) l hl s (-per) (by omega) A _ H1 (g1.keeps o1.keeps) hok hs hn).step fun r1 L1 l1 hr1=>?_
 have ga1:GoodC 1 (rG l (-per) (A.lang s)):=rO (by omega) hok hs
 unfold dP at hR
 obtain⟨G1,hG1⟩:∃G,G=rG l (-per) (A.lang s):=⟨_,rfl⟩
 rw[←hG1] at hr1 ga1 hR
 refine rel_step (d:=10) (a:=15) (b:=16) (x:=6) (y:=7) (p:=17) (q:=18) (z:=19) (w:=20) (r4:=4) (r5:=5) (t:=1) o1 (i:=0) (n4:=n4) rfl rfl l1 hr1 ga1 [(2,.ptr n2 0)] ?_ ?_ (by simp) (by decide) (fun _ _ h=>h) (fun e1 m1 M1 S ms1 eG hh oN1 kk1 hb1 gg1=>?_) (fun e K2 c eG hh r4 kk=>?_)
 ·simp[Has]
 ·simp
 rotate_left
 ·rw[eG] at hR
  obtain⟨e5,e4,-⟩:=hh
  simp[e4,e5,r4]
  rw[hR]
  exact⟨kk,rfl⟩
 obtain⟨e16,-,e14,e12,-⟩:=hh
 simp only[] at e16 e14 e12
 rw[eG] at hR ga1
 have hR:R=fun v K=>RelR aA H 1 (cS (fun E=>cS (fun B=>bD 1 (fun a b=>a&&!b) (E.lang 0) (B.lang 0)) (bD 1 (fun a b=>a&&b) (A.lang s) (S.lang 0))) (bD 1 (fun a b=>a||b) (A.lang s) (S.lang 0))) v K:=hR
 have k1:=l1.trans kk1
 have o2:=o1.call k1
 have r2:=aJ k1 r2
 have g2:=(g1.keeps o1.keeps).keeps k1
 simp[e12,e16,r2,gg1]
 refine(i_either (aA:=aA) 1 s 0 (by decide) (by decide) A S _ _ _ g2 hb1.rd hok ga1.2.1 hs ga1.2.1.pos hn ga1.2.2).step fun r2' L2 l2 hr2=>?_
 have ga2:GoodC 1 (bD 1 (fun a b=>a||b) (A.lang s) (S.lang 0)):=cE (by decide) hok ga1.2.1 hs ga1.2.1.pos
 obtain⟨G2,hG2⟩:∃G,G=bD 1 (fun a b=>a||b) (A.lang s) (S.lang 0):=⟨_,rfl⟩
 rw[←hG2] at hr2 ga2 hR
 refine rel_step (d:=21) (a:=25) (b:=26) (x:=8) (y:=7) (p:=27) (q:=28) (z:=29) (w:=30) (r4:=4) (r5:=5) (t:=1) o2 (i:=0) (n4:=n4) rfl rfl l2 hr2 ga2 [(2,.ptr n2 0),(6,.ptr m1 0)] ?_ ?_ (by simp) (by decide) (fun _ _ h=>h) (fun e2 m2 M2 E ms2 eG2 hh oN2 kk2 hb2 gg2=>?_) (fun e K2 c eG hh r4 kk=>?_)
 ·simp[Has,e14,e16,e12]
 ·simp
 rotate_left
 ·rw[eG] at hR
  obtain⟨e5,e4,-⟩:=hh
  simp[e4,e5,r4]
  rw[hR]
  exact⟨kk,rfl⟩
 obtain⟨e28,-,e24,e22,e26,-⟩:=hh
 simp only[] at e28 e24 e22 e26
 rw[eG2] at hR ga2
 have hR:R=fun v K=>RelR aA H 1 (cS (fun B=>bD 1 (fun a b=>a&&!b) (E.lang 0) (B.lang 0)) (bD 1 (fun a b=>a&&b) (A.lang s) (S.lang 0))) v K:=hR
 have k2:=l2.trans kk2
 have o3:=o2.call k2
 have r2:=aJ k2 r2
 have gg1:=aJ k2 gg1
 have g3:=g2.keeps k2
 simp[e22,e26,r2,gg1]
 refine(i_both (aA:=aA) 1 s 0 (by decide) (by decide) A S _ _ _ g3 (hb1.rd.keeps k2) hok ga1.2.1 hs ga1.2.1.pos hn ga1.2.2).step fun r3' L3 l3 hr3=>?_
 have ga3:GoodC 1 (bD 1 (fun a b=>a&&b) (A.lang s) (S.lang 0)):=cE (by decide) hok ga1.2.1 hs ga1.2.1.pos
 obtain⟨G3,hG3⟩:∃G,G=bD 1 (fun a b=>a&&b) (A.lang s) (S.lang 0):=⟨_,rfl⟩
 rw[←hG3] at hr3 ga3 hR
 refine rel_step (d:=31) (a:=35) (b:=36) (x:=9) (y:=7) (p:=37) (q:=38) (z:=39) (w:=40) (r4:=4) (r5:=5) (t:=1) o3 (i:=0) (n4:=n4) rfl rfl l3 hr3 ga3 [(8,.ptr m2 0)] ?_ ?_ (by simp) (by decide) (fun _ _ h=>h) (fun e3 m3 M3 B ms3 eG3 hh oN3 kk3 hb3 gg3=>?_) (fun e K2 c eG hh r4 kk=>?_)
 ·simp[Has,e24,e28]
 ·simp
 rotate_left
 ·rw[eG] at hR
  obtain⟨e5,e4,-⟩:=hh
  simp[e4,e5,r4]
  rw[hR]
  exact⟨kk,rfl⟩
 obtain⟨e39,-,e34,e38,-⟩:=hh
 simp only[] at e39 e34 e38
 rw[eG3] at hR ga3
 have hR:R=fun v K=>RelR aA H 1 (bD 1 (fun a b=>a&&!b) (E.lang 0) (B.lang 0)) v K:=hR
 have k3:=l3.trans kk3
 have o4:=o3.call k3
 have gg2:=aJ k3 gg2
 simp[e38,e39,gg2,gg3]
 refine(i_without (aA:=aA) 1 0 0 (by decide) (by decide) E B _ _ _ (hb2.rd.keeps k3) hb3.rd ga2.2.1 ga3.2.1 ga2.2.1.pos ga3.2.1.pos ga2.2.2 ga3.2.2).step fun r8 L8 l8 hr8=>?_
 obtain⟨m8,K8',rfl,g8,r8x,kk8,hrel8⟩:=aW (aA:=aA) o4 (i:=0) (n2:=n4) rfl rfl l8 hr8
 simp[e34,g8,r8x]
 rw[hR]
 exact⟨kk8,hrel8⟩
theorem s_Wrong(l:Nat)(hl:l=1000)(s rb:Nat)(per:Int)(hp:-1000≤per∧per≤1000)(A:Aut)(H:BH)(hA:RdP H rb 1 s A)(hok:A.Ok (wd 1))(hs:s<A.y.length)(hn:A.y.length≤150):FnDoes (gam aA) 85 [.ptr rb 0,encI per] H fun v K=>RelR aA H 1 (dP l per (A.lang s)) v K:=by
 refine FnDoes.hide fun R hR=>?_
 refine FnDoes.of (fn:=ir85) rfl ?_
 obtain⟨u,x,hrow,hu,hx⟩:=id hA
 have u1:=hu.one
 have x1:=aF hx.isSl
 have wn:IntKind.i64.wrap (-per) = -per:=w64 (by omega) (by omega)
 simp[ir85]
 intro n4 b4 f4
 have o1:=Own.start (aA:=aA) (H:=H) |>.new f4 b4 (s:=.arr 25 [.int .i64 0,.int .i64 0,.nils,.nils])
 obtain⟨H1,hH1⟩:∃H1,H1=H.set n4 (.arr 25 [.int .i64 0,.int .i64 0,.nils,.nils]):=⟨_,rfl⟩
 simp[aC f4 b4,wn]
 rw[←hH1] at o1 ⊢
 have hA1:=hA.keeps o1.keeps
 have hrow1:H1.row rb=.arr 25 [aB 1,aB s,u,x]:=by rw[o1.keeps rb (by rw[hrow];simp),hrow]
 have r2:=aI hrow1 (n:=4) (rt:=none) rfl rfl
 have g1:RdRel H1 1 s A (.agg [aB 1,aB s,u,x]):=⟨u,x,rfl,hu.keeps o1.keeps,hx.keeps o1.keeps⟩
 refine(s_shift (aA:=aA) l hl s rb (-per) (by omega) A H1 hA1 hok hs hn).step fun r1 L1 l1 hr1=>?_
 have ga1:GoodC 1 (rG l (-per) (A.lang s)):=rO (by omega) hok hs
 unfold dP at hR
 obtain⟨G1,hG1⟩:∃G,G=rG l (-per) (A.lang s):=⟨_,rfl⟩
 rw[←hG1] at hr1 ga1 hR
 refine rel_step (d:=12) (a:=17) (b:=18) (x:=6) (y:=7) (p:=19) (q:=20) (z:=21) (w:=22) (r4:=4) (r5:=5) (t:=1) o1 (i:=0) (n4:=n4) rfl rfl l1 hr1 ga1 [(0,.ptr rb 0)] ?_ ?_ (by simp) (by decide) (fun _ _ h=>h) (fun e1 m1 M1 S ms1 eG hh oN1 kk1 hb1 gg1=>?_) (fun e K2 c eG hh r4 kk=>?_)
 ·simp[Has]
 ·simp
 rotate_left
 ·rw[eG] at hR
  obtain⟨e5,e4,-⟩:=hh
  simp[e4,e5,r4]
  rw[hR]
  exact⟨kk,rfl⟩
 obtain⟨e16,-,e14,e12,-⟩:=hh
 simp only[] at e16 e14 e12
 rw[eG] at hR ga1
 have hR:R=fun v K=>RelR aA H 1 (cS (fun E=>cS (fun B=>bD 1 (fun a b=>a&&!b) (E.lang 0) (B.lang 0)) (bD 1 (fun a b=>a&&b) (A.lang s) (S.lang 0))) (bD 1 (fun a b=>a||b) (A.lang s) (S.lang 0))) v K:=hR
 have k1:=l1.trans kk1
 have o2:=o1.call k1
 have r2:=aJ k1 r2
 have g2:=g1.keeps k1
 simp[e12,e16,r2,gg1]
 refine(s_either (aA:=aA) 1 s 0 (by decide) (by decide) A S _ _ _ g2 hb1.rd hok ga1.2.1 hs ga1.2.1.pos hn ga1.2.2).step fun r2' L2 l2 hr2=>?_
 have ga2:GoodC 1 (bD 1 (fun a b=>a||b) (A.lang s) (S.lang 0)):=cE (by decide) hok ga1.2.1 hs ga1.2.1.pos
 obtain⟨G2,hG2⟩:∃G,G=bD 1 (fun a b=>a||b) (A.lang s) (S.lang 0):=⟨_,rfl⟩
 rw[←hG2] at hr2 ga2 hR
 refine rel_step (d:=23) (a:=29) (b:=30) (x:=8) (y:=9) (p:=31) (q:=32) (z:=33) (w:=34) (r4:=4) (r5:=5) (t:=1) o2 (i:=0) (n4:=n4) rfl rfl l2 hr2 ga2 [(0,.ptr rb 0),(6,.ptr m1 0)] ?_ ?_ (by simp) (by decide) (fun _ _ h=>h) (fun e2 m2 M2 E ms2 eG2 hh oN2 kk2 hb2 gg2=>?_) (fun e K2 c eG hh r4 kk=>?_)
 ·simp[Has,e14,e16,e12]
 ·simp
 rotate_left
 ·rw[eG] at hR
  obtain⟨e5,e4,-⟩:=hh
  simp[e4,e5,r4]
  rw[hR]
  exact⟨kk,rfl⟩
 obtain⟨e28,-,e24,e22,e26,-⟩:=hh
 simp only[] at e28 e24 e22 e26
 rw[eG2] at hR ga2
 have hR:R=fun v K=>RelR aA H 1 (cS (fun B=>bD 1 (fun a b=>a&&!b) (E.lang 0) (B.lang 0)) (bD 1 (fun a b=>a&&b) (A.lang s) (S.lang 0))) v K:=hR
 have k2:=l2.trans kk2
 have o3:=o2.call k2
 have r2:=aJ k2 r2
 have gg1:=aJ k2 gg1
 have g3:=g2.keeps k2
 simp[e22,e26,r2,gg1]
 refine(s_both (aA:=aA) 1 s 0 (by decide) (by decide) A S _ _ _ g3 (hb1.rd.keeps k2) hok ga1.2.1 hs ga1.2.1.pos hn ga1.2.2).step fun r3' L3 l3 hr3=>?_
 have ga3:GoodC 1 (bD 1 (fun a b=>a&&b) (A.lang s) (S.lang 0)):=cE (by decide) hok ga1.2.1 hs ga1.2.1.pos
 obtain⟨G3,hG3⟩:∃G,G=bD 1 (fun a b=>a&&b) (A.lang s) (S.lang 0):=⟨_,rfl⟩
 rw[←hG3] at hr3 ga3 hR
 refine rel_step (d:=35) (a:=41) (b:=42) (x:=10) (y:=11) (p:=43) (q:=44) (z:=45) (w:=46) (r4:=4) (r5:=5) (t:=1) o3 (i:=0) (n4:=n4) rfl rfl l3 hr3 ga3 [(8,.ptr m2 0)] ?_ ?_ (by simp) (by decide) (fun _ _ h=>h) (fun e3 m3 M3 B ms3 eG3 hh oN3 kk3 hb3 gg3=>?_) (fun e K2 c eG hh r4 kk=>?_)
 ·simp[Has,e24,e28]
 ·simp
 rotate_left
 ·rw[eG] at hR
  obtain⟨e5,e4,-⟩:=hh
  simp[e4,e5,r4]
  rw[hR]
  exact⟨kk,rfl⟩
 obtain⟨e39,-,e34,e38,-⟩:=hh
 simp only[] at e39 e34 e38
 rw[eG3] at hR ga3
 have hR:R=fun v K=>RelR aA H 1 (bD 1 (fun a b=>a&&!b) (E.lang 0) (B.lang 0)) v K:=hR
 have k3:=l3.trans kk3
 have o4:=o3.call k3
 have gg2:=aJ k3 gg2
 simp[e38,e39,gg2,gg3]
 refine(s_without (aA:=aA) 1 0 0 (by decide) (by decide) E B _ _ _ (hb2.rd.keeps k3) hb3.rd ga2.2.1 ga3.2.1 ga2.2.1.pos ga3.2.1.pos ga2.2.2 ga3.2.2).step fun r8 L8 l8 hr8=>?_
 obtain⟨m8,K8',rfl,g8,r8x,kk8,hrel8⟩:=aW (aA:=aA) o4 (i:=0) (n2:=n4) rfl rfl l8 hr8
 simp[e34,g8,r8x]
 rw[hR]
 exact⟨kk8,hrel8⟩
theorem aH4{C:bR}{H K0 K1:BH}{L:List Sl}{t:Nat}{G:Option Aut×Nat}{v:BV}{e:Env}{bd rest:BCode}{Q:Post}{Kn:Env→BH→Prop}{cd d a b x y p q:Nat}(o:Own aA H K0 L)(k:K0.Keeps K1)(hr:RelR aA K0 t G v K1)(hg:GoodC t G)(kp:List (Nat×BV))(hkp:Has e kp)(hv:e cd=v)(hfr:(kp.all fun s=>!(s.1==d||s.1==a||s.1==b||s.1==x||s.1==y||s.1==p||s.1==q))=true)(hne:(decide (a≠d)&&decide (b≠d)&&decide (a≠b)&&decide (x≠a)&&decide (x≠b)&&decide (y≠x)&&decide (p≠x)&&decide (q≠x)&&decide (p≠y)&&decide (q≠y))=true)(hKn:∀e K,wpC aA C (.seq (.seq (.region [⟨some p,.mov (.t y),none,[]⟩,⟨some q,.bin .neq (.t p) (.c (.int .i64 0)),none,[]⟩]) (.cond (.t q) bd .skip)) rest) Q e K→Kn e K)(good:∀(e':Env) (n:Nat) (K2:BH) (A:Aut) (ms:List BV),G=(some A,0)→Has e' ((x,.ptr n 0)::(y,aB 0)::kp)→Own aA H K2 ((some n,.arr 25 ms)::L)→K1.Keeps K2→OwnRel aA K0 K2 t 0 A (.agg ms)→K2.rd none (some 4) (.ptr n 0)=some (.agg ms)→wpC aA C rest Q e' K2)(bad:∀(e':Env) (K2:BH) (c:Nat),G=(none,c)→Has e' ((y,aB c)::kp)→H.Keeps K2→wpC aA C bd (Post.then (wpC aA C rest Q) Q) e' K2):
  wpO aA C [⟨some d,.mov (.t cd),none,[]⟩,⟨some a,.ext 0 (.t d),none,[]⟩,⟨some b,.ext 1 (.t d),none,[]⟩,⟨some x,.new 25 zR4,none,[]⟩,⟨none,.store none 4 (.t x) (.t a),none,[]⟩,⟨some y,.mov (.t b),none,[]⟩] Kn e K1:=by
 simp only[Bool.and_eq_true,decide_eq_true_eq] at hne
 obtain⟨⟨⟨⟨⟨⟨⟨⟨⟨h1,h2⟩,h3⟩,h4⟩,h5⟩,h6⟩,h7⟩,h8⟩,h9⟩,h10⟩:=hne
 have hr0:=hr
 obtain⟨m,rfl,hm⟩:=hr.out
 obtain⟨c1,c2,u,w',e2,p1,p2,p3,p4⟩:=hm.ones
 subst e2
 have hfr':∀s∈kp,s.1≠d∧s.1≠a∧s.1≠b∧s.1≠x∧s.1≠y∧s.1≠p∧s.1≠q:=fun s hs=>by
  have:=List.all_eq_true.1 hfr s hs
  simp only[Bool.not_eq_true',Bool.or_eq_false_iff,beq_eq_false_iff_ne] at this
  obtain⟨⟨⟨⟨⟨⟨q1,q2⟩,q3⟩,q4⟩,q5⟩,q6⟩,q7⟩:=this
  exact⟨q1,q2,q3,q4,q5,q6,q7⟩
 have fr:∀(e':Env),(∀s,s≠d→s≠a→s≠b→s≠x→s≠y→s≠p→s≠q→e' s=e s)→Has e' kp:=fun e' he=>Has.frame (W:=[d,a,b,x,y,p,q]) (fun s hs=>by
   simp only[List.mem_cons,List.not_mem_nil,or_false,not_or] at hs
   obtain⟨q1,q2,q3,q4,q5,q6,q7⟩:=hs
   exact he s q1 q2 q3 q4 q5 q6 q7) (by
   rw[List.all_eq_true]
   intro s hs
   obtain⟨q1,q2,q3,q4,q5,q6,q7⟩:=hfr' s hs
   simp[q1,q2,q3,q4,q5,q6,q7]) hkp
 simp[zR4,hv,p1,p2,p3,p4,h1,h2,h3,h4,h5,h6,Ne.symm h1,Ne.symm h2,Ne.symm h3,Ne.symm h4,Ne.symm h5,Ne.symm h6]
 intro n bn fn
 have o2:=(o.call k).new fn bn (s:=.arr 25 [.int .i64 0,.int .i64 0,.nils,.nils])
 obtain⟨K3,g3,o3⟩:=o2.putAll 0 (b:=n) rfl (n:=4) (ds:=[c1,c2,u,w']) rfl rfl (by simp[p1,p2,p3,p4]) (rt:=none) rfl
 obtain⟨K3',g3',o3'⟩:=((Own.start (aA:=aA) (H:=K1)).new fn bn (s:=.arr 25 [.int .i64 0,.int .i64 0,.nils,.nils])).putAll 0 (b:=n) rfl (n:=4) (ds:=[c1,c2,u,w']) rfl rfl (by simp[p1,p2,p3,p4]) (rt:=none) rfl
 have ek:K3'=K3:=by rw[g3] at g3';exact(Option.some.inj g3').symm
 subst ek
 have r3x:=aI (o3.at 0 (b:=n) rfl) (n:=4) (rt:=none) rfl rfl
 simp[zR4,aC fn bn,g3,h1,h2,h3,h4,h5,h6,Ne.symm h1,Ne.symm h2,Ne.symm h3,Ne.symm h4,Ne.symm h5,Ne.symm h6]
 refine hKn _ _ ?_
 obtain⟨zG,cG⟩:=G
 cases zG with
 | none =>
  have hc:=aE8 hg.1
  have hc':¬cG=0:=by have:0<cG:=hg.1;omega
  simp[h1,h2,h3,h4,h5,h6,h7,h8,h9,h10,Ne.symm h1,Ne.symm h2,Ne.symm h3,Ne.symm h4,Ne.symm h5,Ne.symm h6,Ne.symm h7,Ne.symm h8,Ne.symm h9,Ne.symm h10,hc,hc']
  refine bad _ K3' cG rfl ⟨by simp[Ne.symm h9,Ne.symm h10,h9,h10],fr _ fun s s1 s2 s3 s4 s5 s6 s7=>by simp[Env.put,s1,s2,s3,s4,s5,s6,s7]⟩ o3.keeps
 | some A =>
  have ec:cG=0:=hg.1
  subst ec
  simp[h1,h2,h3,h4,h5,h6,h7,h8,h9,h10,Ne.symm h1,Ne.symm h2,Ne.symm h3,Ne.symm h4,Ne.symm h5,Ne.symm h6,Ne.symm h7,Ne.symm h8,Ne.symm h9,Ne.symm h10]
  refine good _ n K3' A [c1,c2,u,w'] rfl ⟨by simp[Ne.symm h6,Ne.symm h7,Ne.symm h8,h6,h7,h8],by simp[Ne.symm h9,Ne.symm h10,h9,h10],fr _ fun s s1 s2 s3 s4 s5 s6 s7=>by simp[Env.put,s1,s2,s3,s4,s5,s6,s7]⟩ o3 o3'.keeps (by
   obtain⟨m',e',ho⟩:=hr0
   simp only[BV.tup.injEq,List.cons.injEq,and_true] at e'
   rw[e']
   exact ho.keeps o3'.keeps) r3x
end Go.Proofs.YtbnmhbmhafbmiaaGreatDoor.W
end

section
namespace Go.Proofs.YtbnmhbmhafbmiaaGreatDoor.Cnt
open Go.RowKit Go.Maps
open Go.WideElems (Fit rd rg pl rd_val elemAt)
theorem law3:Keyed Tryz.prog 3:=int_keyed Tryz.underlying3
theorem zero2(w:World):(zeroValue 2).run Tryz.prog w=.ok (.int .i64 0) w:=by kernel_rfl
theorem wf_cap(a:Int):(Lit.int .i64 (min (wrap64 a) 1000000001)).wf=true:=by
 rw[Int.min_def]
 split
 ·exact wrap64_wf _
 ·exact WalkArith.wf_i64 (by omega)
section
variable {H:Type}
theorem qF(x y:Int):(Lit.int .i64 x).sameKey (.int .i64 y)=decide (x=y):=by
 by_cases h:x=y
 ·subst h
  simp[Lit.sameKey]
 ·rw[sameKey_ne (fun e=>h (by cases e;rfl))]
  simp[h]
theorem tight{w:World}{b N n:Nat}{D:DataW H}(h:w.ownsMap Tryz.prog 3 (plainElem Tryz.prog 2) b N D)(hk:∀x:Int,Maps.has D (.int .i64 x)=true→∃q:Nat,q<n∧x=q):w.ownsMap Tryz.prog 3 (plainElem Tryz.prog 2) b n D:=by
 obtain⟨es,clock,hb,F,hs,rfl⟩:=h
 refine⟨es,clock,hb,F,?_,rfl⟩
 have hkeys:=Maps.fit_keys F
 have hap:=Maps.fit_apart law3 F
 obtain⟨l,hl⟩:∃l:List (Lit×DataW H),l=es.toList.map (rg Tryz.prog 3 (plainElem Tryz.prog 2)):=⟨_,rfl⟩
 rw[←hl] at hkeys hap hk
 have hlen:es.size=l.length:=by rw[hl];simp
 have hint:∀p∈l,∃q:Nat,q<n∧p.1=.int .i64 (q:Int):=fun p hp=>by
  obtain⟨v,hv⟩:=hkeys p hp
  obtain⟨x,-,hx,-⟩:=Maps.keyOf_int_inv Tryz.underlying3 hv
  have hh:Maps.has (.map (l.foldr DataW.insert [])) (.int .i64 x)=true:=by
   rw[has_eq,List.any_eq_true]
   exact⟨p,(Go.WideShapes.sorted_perm l).mem_iff.2 hp,by rw[hx,qF];simp⟩
  obtain⟨q,hq,rfl⟩:=hk x hh
  exact⟨q,hq,hx⟩
 obtain⟨f,hf⟩:∃f:Lit×DataW H→Nat,f=fun p=>match p.1 with | .int _ x=>x.toNat|_=>0:=⟨_,rfl⟩
 have hnd:(l.map f).Nodup:=by
  unfold List.Nodup
  rw[List.pairwise_map]
  refine hap.imp_of_mem fun {p q} hp hq hne he=>hne ?_
  obtain⟨a,-,ea⟩:=hint p hp
  obtain⟨c,-,ec⟩:=hint q hq
  rw[hf] at he
  simp only[ea,ec] at he
  rw[ea,ec]
  have:a=c:=by simpa using he
  rw[this]
 have:=Go.Au.nodup_le (ys:=List.range n) hnd fun x hx=>by
  obtain⟨p,hp,rfl⟩:=List.mem_map.1 hx
  obtain⟨a,ha,ea⟩:=hint p hp
  rw[hf]
  show (match p.1 with | .int _ x=>x.toNat|_=>0)∈List.range n
  rw[ea]
  exact List.mem_range.2 (by simpa using ha)
 rw[List.length_map,List.length_range] at this
 omega
theorem tK{P:Program}(w:World){ops:Array Oper}{rest:List Oper}{o:Oper}{a:Act}{Q:Exit→Act→World→Prop}(hg:o.guard=none)(m x v:Operand)(t:TypeId)(hop:o.op=Op.insert t m x v)(k e:TypeId)(K:Keyed P k)(ht:P.underlying t=some (.map k e))(R:Value→Option (DataW H×List MemPlace))(b n:Nat)(D:DataW H)(hm:a.eval m=.map (some b))(hown:w.ownsMap P k R b n D)(hn:n<maxLen)(key val:Value)(kl:Lit)(hx:a.eval x=key)(hv:a.eval v=val)(hkey:keyOf P k key=some kl)(d:DataW H)(ps:List MemPlace)(hval:R val=some (d,ps))(hK:∀w',w'.ownsMap P k R b (n+1) (D.put kl d)→w.grownBy w' (some b)→wpList P ops Q rest (a.put o.dst undef) w'):
  wpList P ops Q (o::rest) a w:=by
 refine wpList_plain hg fun K' hK'=>?_
 obtain⟨w',hrun,r1,r2⟩:=hown.update K ht hn hkey hval
 unfold Oper.wp
 simp[execOp,hop,hm,hx,hv,hrun,Result.andThen]
 exact hK' _ _ (hK w' r1 r2)
end
def stepK(F:Nat→Int)(to:Nat→Nat→Nat)(W:Nat)(S:Nat→Prop):Nat→Prop:=fun x=>∃q,S q∧0≤F q∧∃c,c<W∧x=to q c
def lV(F:Nat→Int)(to:Nat→Nat→Nat)(W s:Nat):Nat→Nat→Prop
 | 0=>fun x=>x=s
 | k+1=>stepK F to W (lV F to W s k)
theorem sM{F:Nat→Int}{to:Nat→Nat→Nat}{W s n:Nat}(hs:s<n)(hto:∀i c,i<n→c<W→to i c<n):∀k x,lV F to W s k x→x<n
 | 0,x,h=>by
  have:x=s:=h
  omega
 | k+1,x,h=>by
  obtain⟨q,hq,-,c,hc,rfl⟩:=h
  exact hto q c (sM hs hto k q hq) hc
def KeysIs{H:Type}(D:DataW H)(S:Nat→Prop):Prop:=∀x:Int,Maps.has D (.int .i64 x)=true↔∃q:Nat,S q∧x=q
theorem KeysIs.empty{H:Type}:KeysIs (.map []:DataW H) fun _=>False:=fun x=>by simp[Maps.has]
theorem KeysIs.put{H:Type}{D:DataW H}{S:Nat→Prop}(h:KeysIs D S)(hm:IsMap D)(q:Nat)(d:DataW H):KeysIs (D.put (.int .i64 q) d) fun x=>S x∨x=q:=fun x=>by
 by_cases e:x=q
 ·subst e
  rw[has_put_same hm (show WideAt.IsKeyLit (.int .i64 (q:Int)) from trivial)]
  simp
 ·rw[has_put_other (fun he=>e (by cases he;rfl)),h x]
  constructor
  ·rintro⟨y,h1,rfl⟩
   exact⟨y,.inl h1,rfl⟩
  ·rintro⟨y,h1|rfl,rfl⟩
   ·exact⟨y,h1,rfl⟩
   ·exact absurd rfl e
theorem KeysIs.congr{H:Type}{D:DataW H}{S S':Nat→Prop}(h:KeysIs D S)(e:∀x,S x↔S' x):KeysIs D S':=fun x=>by
 rw[h x]
 exact exists_congr fun q=>and_congr_left fun _=>e q
theorem yR{H:Type}{w:World}{b r n cnt:Nat}{D:DataW H}{left:Lit→Bool}(h:w.ranges Tryz.prog 3 (plainElem Tryz.prog 2) b r n D left cnt){x:Int}(hx:left (.int .i64 x)=true):Maps.has D (.int .i64 x)=true:=by
 obtain⟨es,clock,since,seen,c0,h1,h2,h3,rfl,h5,h6,h7,h8,h9,h10⟩:=h
 obtain⟨y,hy,he⟩:=h9 _ hx
 rw[has_eq,List.any_eq_true]
 exact⟨rg Tryz.prog 3 (plainElem Tryz.prog 2) y,(Go.WideShapes.sorted_perm _).mem_iff.2 (List.mem_map.2 ⟨y,hy,rfl⟩),by rw[he,qF];simp⟩
theorem cell_lt{w:World}{p:Addr}{v:Value}(h:w.cell? p=some v):p.block<w.heap.size:=by
 rcases Nat.lt_or_ge p.block w.heap.size with h1|h1
 ·exact h1
 ·unfold World.cell? at h
  rw[Array.getElem?_eq_none h1] at h
  cases h
def aD3(F:Nat→Int)(to:Nat→Nat→Nat)(W:Nat)(S:Nat→Prop)(left:Lit→Bool):Nat→Prop:=fun x=>∃q,S q∧left (.int .i64 q)=false∧0≤F q∧∃c,c<W∧x=to q c
theorem laid_lt{F:Nat→Int}{to:Nat→Nat→Nat}{W n:Nat}{S:Nat→Prop}{left:Lit→Bool}(hS:∀q,S q→q<n)(hto:∀i c,i<n→c<W→to i c<n){x:Nat}(h:aD3 F to W S left x):x<n:=by
 obtain⟨q,h1,-,-,c,hc,rfl⟩:=h
 exact hto q c (hS q h1) hc
theorem laid_skip{F:Nat→Int}{to:Nat→Nat→Nat}{W:Nat}{S:Nat→Prop}{left:Lit→Bool}{q:Nat}(hq:F q<0)(x:Nat):aD3 F to W S left x↔aD3 F to W S (fun z=>left z&&!z.sameKey (.int .i64 q)) x:=by
 unfold aD3
 constructor
 ·rintro⟨q',h1,h2,h3⟩
  exact⟨q',h1,by simp[h2],h3⟩
 ·rintro⟨q',h1,h2,h3,h4⟩
  refine⟨q',h1,?_,h3,h4⟩
  have h2:(left (.int .i64 q')&&!(Lit.int .i64 (q':Int)).sameKey (.int .i64 q))=false:=h2
  rw[qF] at h2
  by_cases e:(q':Int)=q
  ·have:q'=q:=by omega
   subst this
   omega
  ·simpa[e] using h2
theorem laid_take{F:Nat→Int}{to:Nat→Nat→Nat}{W:Nat}{S:Nat→Prop}{left:Lit→Bool}{q:Nat}(hS:S q)(hq:0≤F q)(x:Nat):(aD3 F to W S left x∨∃c,c<W∧x=to q c)↔aD3 F to W S (fun z=>left z&&!z.sameKey (.int .i64 q)) x:=by
 unfold aD3
 constructor
 ·rintro(⟨q',h1,h2,h3⟩|h)
  ·exact⟨q',h1,by simp[h2],h3⟩
  ·exact⟨q,hS,by show (left _&&!(Lit.int .i64 (q:Int)).sameKey (.int .i64 q))=false;rw[qF];simp,hq,h⟩
 ·rintro⟨q',h1,h2,h3,h4⟩
  have h2:(left (.int .i64 q')&&!(Lit.int .i64 (q':Int)).sameKey (.int .i64 q))=false:=h2
  rw[qF] at h2
  by_cases e:(q':Int)=q
  ·have:q'=q:=by omega
   subst this
   exact .inr h4
  ·exact .inl ⟨q',h1,by simpa[e] using h2,h3,h4⟩
theorem isMap_of{H:Type}{w:World}{b N:Nat}{D:DataW H}(h:w.ownsMap Tryz.prog 3 (plainElem Tryz.prog 2) b N D):IsMap D:=by
 obtain⟨es,clock,hb,F,hs,rfl⟩:=h
 exact⟨_,rfl⟩
end Go.Proofs.YtbnmhbmhafbmiaaGreatDoor.Cnt
end

section
namespace Go.Proofs.YtbnmhbmhafbmiaaGreatDoor.Cnt
open Go.RowKit Go.Maps
set_option maxRecDepth 100000 in
theorem aL5 {H:Type} (W n:Nat) (t:Int) (s:Nat) (ba oa bb ob ca cb:Nat) (B:Nat→Bool) (F:Nat→Int) (to:Nat→Nat→Nat) (rb ro rc:Nat→Nat) (w:World) (hs:s<n) (hn:n≤100000) (hW:W≤100)
    (hacc:∀i,i<n→w.cell? ⟨ba,oa+i,none⟩=some (.bool (B i)))
    (hrow:∀i,i<n→w.cell? ⟨bb,ob+i,none⟩=some (.slice (some ⟨rb i,ro i,none⟩) W (rc i)))
    (hto:∀i c,i<n→c<W→w.cell? ⟨rb i,ro i+c,none⟩=some (.int .i64 (to i c))∧to i c<n)
    (hfar:∀w1,Below w.heap.size w w1→Calls Tryz.prog 198 #[.agg #[.int .i64 t,.int .i64 s,.slice (some ⟨ba,oa,none⟩) n ca,.slice (some ⟨bb,ob,none⟩) n cb]] w1 fun e w2=>∃fb fo cap,e=.returned (.slice (some ⟨fb,fo,none⟩) n cap)∧Below w1.heap.size w1 w2∧∀i,i<n→w2.cell? ⟨fb,fo+i,none⟩=some (.int .i64 (F i))):Calls Tryz.prog 143 #[.agg #[.int .i64 t,.int .i64 s,.slice (some ⟨ba,oa,none⟩) n ca,.slice (some ⟨bb,ob,none⟩) n cb]] w fun e w'=>∃c ok,e=.returned (.tuple #[.int .i64 c,.bool ok])∧(ok=true↔∀q,lV F to W s (n+1) q→F q<0)∧Below w.heap.size w w':=by
  have hmm:=@run_makeMap Tryz.prog
  go_enter Tryz.func143,Tryz.ntmps143
  go_wp2_with (first
    | (go_at_call 198;refine(hfar _ ((Below.refl _ _).alloc (Nat.le_refl _) _)).mono ?_;rintro e w1 ⟨fb,fo,cap,rfl,hbel,hF⟩;have hx1:w1.cell? ⟨w.heap.size,1,none⟩=some (.int .i64 s):=by rw[hbel.cell (by simp)];simp
       have hx2:w1.cell? ⟨w.heap.size,2,none⟩=some (.slice (some ⟨ba,oa,none⟩) n ca):=by rw[hbel.cell (by simp)];simp
       have hx3:w1.cell? ⟨w.heap.size,3,none⟩=some (.slice (some ⟨bb,ob,none⟩) n cb):=by rw[hbel.cell (by simp)];simp
       have hsz:w.heap.size<w1.heap.size:=by have:=hbel.size;simp at this;omega
       have hx4:(w1.alloc (.map #[] 0)).cell? ⟨w.heap.size,1,none⟩=some (.int .i64 s):=by rw[((Below.refl w1.heap.size w1).alloc (Nat.le_refl _) _).cell (by exact hsz)];exact hx1)
    | (refine tK _ rfl _ _ _ 173 rfl 3 2 law3 Tryz.underlying173 (plainElem (H:=H) Tryz.prog 2) w1.heap.size 0 (.map []) rfl (World.ownsMap_made _ _ _ _) (by unfold maxLen;omega) _ _ _ rfl rfl (keyOf_int_mk Tryz.underlying3 (WalkArith.wf_i64 (by omega))) _ [] (plainElem_int Tryz.underlying2 (WalkArith.wf_i64 (by omega))) ?_;intro w2 hown2 hg2)
    | go_in)
  have hbw:Below w.heap.size w w1:=((Below.refl _ _).alloc (Nat.le_refl _) _).trans (hbel.mono (by simp))
  have hb2:Below w1.heap.size w1 w2:=((Below.refl _ _).alloc (Nat.le_refl _) _).grown hg2 (by simp) (fun j hj=>by cases hj;exact Nat.le_refl _)
  go_loopw [5,6,7] (fun c mp i wr=>∃(k b:Nat) (D:DataW H) (cv:Int),i=.int .i64 k∧k≤n+1∧mp=.map (some b)∧c=.int .i64 cv∧w1.heap.size≤b∧wr.ownsMap Tryz.prog 3 (plainElem Tryz.prog 2) b n D∧KeysIs D (lV F to W s k)∧Below w1.heap.size w1 wr)
    (fun _ _ i _=>n+1-(intOf i).toNat)
  case atStart =>
    refine⟨0,w1.heap.size,_,0,rfl,by omega,rfl,rfl,Nat.le_refl _,hown2.mono (by omega),?_,hb2⟩
    exact(KeysIs.empty.put isMap_empty s _).congr fun x=>by simp[lV]
  case round =>
    obtain⟨k,b,D,cv,rfl,hk,rfl,rfl,hb,hown,hkeys,hbr⟩:=hrel
    have hy2:wr.cell? ⟨w.heap.size,2,none⟩=some (.slice (some ⟨ba,oa,none⟩) n ca):=by rw[hbr.cell (by exact hsz)];exact hx2
    have hy3:wr.cell? ⟨w.heap.size,3,none⟩=some (.slice (some ⟨bb,ob,none⟩) n cb):=by rw[hbr.cell (by exact hsz)];exact hx3
    go_wp2_with (first
      | (at_range;refine wpList_range_own _ rfl _ 173 rfl 3 2 law3 Tryz.underlying173 _ b n D rfl (hown.alloc _) ?_;intro w3 hrg3 hg3 hs3)
      | (at_range;refine wpList_range_own _ rfl _ 173 rfl 3 2 law3 Tryz.underlying173 _ b n D rfl hown ?_;intro w3 hrg3 hg3 hs3)
      | go_in)
    · go_frame
      have e1:(wr.alloc (.map #[] 0)).heap.size=wr.heap.size+1:=by simp
      have hsr:w1.heap.size≤wr.heap.size:=hbr.size
      have hbN:b<wr.heap.size:=hown.lt
      have hb3:Below w1.heap.size w1 w3:=(hbr.alloc hsr _).grown hg3 (by rw[e1];omega) (fun j hj=>by cases hj)
      have ho3:w3.ownsMap Tryz.prog 3 (plainElem (H:=H) Tryz.prog 2) wr.heap.size n (.map []):=((World.ownsMap_made wr _ _ _).kept hg3 (by simp)).mono (Nat.zero_le _)
      rw[e1] at hrg3 hs3 ⊢
      obtain⟨N0,hN0⟩:∃N0,N0=wr.heap.size:=⟨_,rfl⟩
      rw[←hN0] at hrg3 hs3 ho3 hsr hbN ⊢
      clear hN0
      rw[show decide (k≤n)=true from decide_eq_true (by assumption)]
      go_loopw [5] (fun c wq=>∃(left:Lit→Bool) (cnt:Nat) (D1:DataW H) (cv:Int),c=.int .i64 cv∧wq.ranges Tryz.prog 3 (plainElem Tryz.prog 2) b (N0+1) n D left cnt∧wq.ownsMap Tryz.prog 3 (plainElem Tryz.prog 2) N0 n D1 ∧
          KeysIs D1 (aD3 F to W (lV F to W s k) left)∧Below w1.heap.size w1 wq)
        (fun _ wq=>wq.rangeLeft b (N0+1))
      case atStart =>
        refine⟨_,_,_,_,rfl,hrg3,ho3,KeysIs.empty.congr fun x=>?_,hb3⟩
        simp only[false_iff]
        rintro⟨q,h1,h2,-⟩
        rw[(hkeys q).2 ⟨q,h1,rfl⟩] at h2
        cases h2
      case round =>
        obtain⟨left,cnt,D1,cv,rfl,hrg,ho1,hk1,hbq⟩:=hrel
        go_wp2_with (first
          | (at_next;refine wpList_next_ranges_ii _ rfl _ rfl 3 2 .i64 .i64 law3 Tryz.underlying3 Tryz.underlying2 b (N0+1) n _ _ _ rfl hrg ?_ ?_)
          | go_in)
        · intro _ hl0
          go_wp2
          go_roundw
          case rel =>
            refine⟨k+1,N0,D1,cv,by go_num,by omega,rfl,rfl,hsr,ho1,hk1.congr fun x=>?_,hbq⟩
            constructor
            · rintro⟨q,h1,-,h2⟩
              exact⟨q,h1,h2⟩
            · rintro⟨q,h1,h2⟩
              exact⟨q,h1,hl0 _,h2⟩
          case measure=>simp[intOf];omega
        · intro x c w4 cnt1 hwx hwc hlx hat hrg4 hlt hg4 hs4 hen
          obtain⟨q,hq,rfl⟩:=(hkeys x).1 (yR hrg hlx)
          have hqn:q<n:=sM hs (fun i c hi hc=>(hto i c hi hc).2) k q hq
          have hb4:Below w1.heap.size w1 w4:=hbq.grown hg4 hbq.size (fun j hj=>by cases hj;omega)
          have hz2:w4.cell? ⟨w.heap.size,2,none⟩=some (.slice (some ⟨ba,oa,none⟩) n ca):=by rw[hb4.cell (by exact hsz)];exact hx2
          have hz3:w4.cell? ⟨w.heap.size,3,none⟩=some (.slice (some ⟨bb,ob,none⟩) n cb):=by rw[hb4.cell (by exact hsz)];exact hx3
          have keep:∀{p:Addr} {v:Value},w.cell? p=some v→w4.cell? p=some v:=fun {p v} h=>by
            have hp:=cell_lt h
            rw[hb4.cell (by omega),hbw.cell hp]
            exact h
          have hf:=(hb4.cell (p:=⟨fb,fo+q,none⟩) (by exact cell_lt (hF q hqn))).trans (hF q hqn)
          have ha:=keep (hacc q hqn)
          have hr:=keep (hrow q hqn)
          have ho4:w4.ownsMap Tryz.prog 3 (plainElem (H:=H) Tryz.prog 2) N0 n D1:=ho1.kept hg4 (by simp)
          have hS:∀x,lV F to W s k x→x<n:=sM hs (fun i c hi hc=>(hto i c hi hc).2) k
          have hto2:∀i c,i<n→c<W→to i c<n:=fun i c hi hc=>(hto i c hi hc).2
          by_cases hneg:F q<0
          · go_wp2
            go_roundw
            case rel=>exact⟨_,cnt1,D1,cv,rfl,hrg4,ho4,hk1.congr (laid_skip hneg),hb4⟩
            case measure=>rw[hrg4.left_eq,hrg.left_eq];exact hlt
          · cases hB:B q<;>rw[hB] at ha<;>go_wp2
            all_goals
              go_loopw [55] (fun i wz=>∃(j:Nat) (D2:DataW H),i=.int .i64 j∧j≤W∧wz.ranges Tryz.prog 3 (plainElem Tryz.prog 2) b (N0+1) n D (fun z=>left z&&!z.sameKey (.int .i64 q)) cnt1∧wz.ownsMap Tryz.prog 3 (plainElem Tryz.prog 2) N0 n D2 ∧
                  KeysIs D2 (fun x=>aD3 F to W (lV F to W s k) left x∨∃c,c<j∧x=to q c)∧Below w1.heap.size w1 wz)
                (fun i _=>W-(intOf i).toNat)
              case atStart=>exact⟨0,D1,rfl,Nat.zero_le _,hrg4,ho4,hk1.congr fun x=>by simp,hb4⟩
              case round =>
                obtain⟨j,D2,rfl,hj,hrgz,hoz,hkz,hbz⟩:=hrel
                have hcz:j<W→wr.cell? ⟨rb q,ro q+j,none⟩=some (.int .i64 (to q j)):=fun hj=>by
                  have h:=(hto q j hqn hj).1
                  have hp:=cell_lt h
                  rw[hbz.cell (by exact Nat.lt_of_lt_of_le hp (by omega)),hbw.cell hp]
                  exact h
                have htl:j<W→to q j<n:=fun hj=>(hto q j hqn hj).2
                go_wp2_with (first
                  | (at_lookup;refine wpList_lookup_own_int _ rfl _ _ 173 rfl 3 2 .i64 law3 Tryz.underlying173 Tryz.underlying2 (zero2 _) N0 n _ rfl hoz _ _ rfl (keyOf_int_mk Tryz.underlying3 (WalkArith.wf_i64 (by omega))) ?_;intro c2 hat2 hwc2)
                  | (at_mapUpdate;refine wpList_mapUpdate_own _ rfl _ _ _ 173 rfl 3 2 law3 Tryz.underlying173 _ N0 n _ rfl hoz (by unfold maxLen;omega) _ _ _ rfl rfl (keyOf_int_mk Tryz.underlying3 (WalkArith.wf_i64 (by omega))) _ [] (plainElem_int Tryz.underlying2 (by first|exact wf_cap _|(split<;>first|exact wrap64_wf _|exact WalkArith.wf_i64 (by omega)))) ?_;intro w5 ho5 hg5)
                  | go_in)
                · have hlt5:j<W:=by assumption
                  have hkp:=fun d=>hkz.put (isMap_of hoz) (to q j) d
                  have ho6:=tight ho5 (n:=n) fun x hx=>by
                    obtain⟨y,hy,rfl⟩:=((hkp _) x).1 hx
                    refine⟨y,?_,rfl⟩
                    rcases hy with(hy|⟨c',hc',rfl⟩)|rfl
                    · exact laid_lt hS hto2 hy
                    · exact hto2 q c' hqn (by omega)
                    · exact htl hlt5
                  go_roundw
                  case rel =>
                    refine⟨j+1,_,by go_num,hlt5,hrgz.kept hg5 (by simp;omega) (by simp),ho6,(hkp _).congr fun x=>?_,hbz.grown hg5 hbz.size (fun y hy=>by cases hy;omega)⟩
                    constructor
                    · rintro((h|⟨c',hc',rfl⟩)|rfl)
                      · exact .inl h
                      · exact .inr ⟨c',by omega,rfl⟩
                      · exact .inr ⟨j,by omega,rfl⟩
                    · rintro(h|⟨c',hc',rfl⟩)
                      · exact .inl (.inl h)
                      · by_cases hcj:c'=j
                        · subst hcj;exact .inr rfl
                        · exact .inl (.inr ⟨c',by omega,rfl⟩)
                  case measure=>simp[intOf];omega
                · have hjW:j=W:=by omega
                  subst hjW
                  go_roundw
                  case rel=>exact⟨_,cnt1,D2,_,rfl,hrgz,hoz,hkz.congr (laid_take hq hneg),hbz⟩
                  case measure=>rw[hrgz.left_eq,hrg.left_eq];exact hlt
    · have hkn:k=n+1:=by omega
      subst hkn
      have hsr:w1.heap.size≤wr.heap.size:=hbr.size
      have hbN:b<wr.heap.size:=hown.lt
      have hb3:Below w1.heap.size w1 w3:=hbr.grown hg3 hsr (fun j hj=>by cases hj)
      obtain⟨N0,hN0⟩:∃N0,N0=wr.heap.size:=⟨_,rfl⟩
      rw[←hN0] at hrg3 hs3 hsr hbN ⊢
      clear hN0
      go_simp
      go_loopw [] (fun wq=>∃(left:Lit→Bool) (cnt:Nat),wq.ranges Tryz.prog 3 (plainElem Tryz.prog 2) b N0 n D left cnt∧(∀q,lV F to W s (n+1) q→left (.int .i64 q)=false→F q<0)∧Below w1.heap.size w1 wq)
        (fun wq=>wq.rangeLeft b N0)
      case atStart =>
        refine⟨_,_,hrg3,fun q hq h0=>?_,hb3⟩
        rw[(hkeys q).2 ⟨q,hq,rfl⟩] at h0
        cases h0
      case round =>
        obtain⟨left,cnt,hrg,hno,hbq⟩:=hrel
        go_wp2_with (first
          | (at_next;refine wpList_next_ranges_ii _ rfl _ rfl 3 2 .i64 .i64 law3 Tryz.underlying3 Tryz.underlying2 b N0 n _ _ _ rfl hrg ?_ ?_)
          | go_in)
        · intro _ hl0
          go_wp2
          first|go_ret|go_ret2
          exact⟨_,true,rfl,by simp;exact fun q hq=>hno q hq (hl0 _),hbw.trans (hbq.mono (by omega))⟩
        · intro x c w4 cnt1 hwx hwc hlx hat hrg4 hlt hg4 hs4 hen
          obtain⟨q,hq,rfl⟩:=(hkeys x).1 (yR hrg hlx)
          have hqn:q<n:=sM hs (fun i c hi hc=>(hto i c hi hc).2) _ q hq
          have hb4:Below w1.heap.size w1 w4:=hbq.grown hg4 hbq.size (fun j hj=>by cases hj;omega)
          have hf:=(hb4.cell (p:=⟨fb,fo+q,none⟩) (by exact cell_lt (hF q hqn))).trans (hF q hqn)
          by_cases hneg:F q<0
          · go_wp2
            go_roundw
            case rel =>
              refine⟨_,cnt1,hrg4,fun q' h1 h2=>?_,hb4⟩
              have h2:(left (.int .i64 q')&&!(Lit.int .i64 (q':Int)).sameKey (.int .i64 q))=false:=h2
              rw[qF] at h2
              by_cases e:(q':Int)=q
              · have:q'=q:=by omega
                subst this
                exact hneg
              · exact hno q' h1 (by simpa[e] using h2)
            case measure=>rw[hrg4.left_eq,hrg.left_eq];exact hlt
          · go_wp2
            first|go_ret|go_ret2
            exact⟨_,.inl ⟨rfl,⟨q,hq,by omega⟩,hbw.trans (hb4.mono (by omega))⟩⟩
end Go.Proofs.YtbnmhbmhafbmiaaGreatDoor.Cnt
end

section
namespace Go.Proofs.YtbnmhbmhafbmiaaGreatDoor.W
set_option linter.unusedVariables false
open Go.B Go.Au
open Go.Proofs.YtbnmhbmhafbmiaaGreatDoor.Cnt (lV aL5)
theorem yQ{F:Nat→Int}{A:Aut}{W s:Nat}:∀(k x:Nat),lV F A.to W s k x→∃cs,In W cs∧cs.length=k∧A.run s cs=x
 | 0,x,h=>by
  have h:x=s:=h
  subst h
  exact⟨[],In.nil W,rfl,rfl⟩
 | k+1,x,h=>by
  obtain⟨q,hq,-,c,hc,rfl⟩:=h
  obtain⟨cs,h1,h2,h3⟩:=yQ k q hq
  exact⟨cs++[c],h1.append (In.cons hc (In.nil W)),by simp[h2],by rw[mK,h3]⟩
theorem aQ0{A:Aut}{w q:Nat}(hok:A.Ok w)(hq:q<A.y.length):0≤eY A w q↔∃d,TkL A w q d:=by
 have hge:=xM A w A.y.length q
 have hge:-1≤eY A w q:=hge
 constructor
 ·intro h
  refine Classical.byContradiction fun hn=>?_
  have:=(tA hok hq).2 fun d hd=>hn ⟨d,hd⟩
  omega
 ·rintro⟨d,hd⟩
  rcases Int.lt_or_le (eY A w q) 0 with h|h
  ·exact absurd hd ((tA hok hq).1 (by omega) d)
  ·exact h
theorem aZ9{A:Aut}{W s:Nat}(hok:A.Ok W)(hs:s<A.y.length):(∀q,lV (eY A W) A.to W s (A.y.length+1) q→eY A W q<0)↔rJ A.y A.nxt W s:=by
 constructor
 ·intro h cs hcs hlen
  refine Bool.eq_false_iff.2 fun hl=>?_
  have hl:A.lang s cs=true:=hl
  have suf:∀i,i≤cs.length→TkL A W (A.run s (cs.take i)) (cs.length-i):=fun i hi=>⟨cs.drop i,fun c hc=>hcs c (List.mem_of_mem_drop hc),by simp,by
   unfold Aut.lang at hl ⊢
   rw[Aut.run,Aut.run,←List.foldl_append,List.take_append_drop]
   exact hl⟩
  have st:∀i,A.run s (cs.take i)<A.y.length:=fun i=>hok.run hs fun c hc=>hcs c (List.mem_of_mem_take hc)
  have pre:∀i,i≤cs.length→lV (eY A W) A.to W s i (A.run s (cs.take i)):=by
   intro i
   induction i with
   | zero=>intro _;rfl
   | succ i ih =>
    intro hi
    refine⟨_,ih (by omega),(aQ0 hok (st i)).2 ⟨_,suf i (by omega)⟩,cs[i],hcs _ (List.getElem_mem (by omega)),?_⟩
    rw[List.take_succ_eq_append_getElem (by omega),mK]
  have h1:=h _ (pre (A.y.length+1) (by omega))
  have h2:=(aQ0 hok (st (A.y.length+1))).2 ⟨_,suf _ (by omega)⟩
  omega
 ·intro h q hq
  obtain⟨cs,h1,h2,rfl⟩:=yQ _ _ hq
  rcases Int.lt_or_le (eY A W (A.run s cs)) 0 with hn|hn
  ·exact hn
  obtain⟨d,ds,k1,k2,k3⟩:=(aQ0 hok (hok.run hs h1)).1 hn
  have:=h (cs++ds) (h1.append k1) (by simp;omega)
  have h3:A.lang s (cs++ds)=false:=this
  unfold Aut.lang at h3 k3
  rw[Aut.run,List.foldl_append] at h3
  rw[Aut.run,Aut.run] at k3
  rw[k3] at h3
  cases h3
theorem cnt_sound{aA:Nat}{w0:World}{LO:Prop}:mU Tryz.prog aA w0 LO (cntB 143 4 80 3):=by
 rintro g args H v H1 ⟨rfl,rfl,t,s,W,acc,nxt,u,x,vs,ok,rfl,hu,hx,hvl,hrows,hnl,hrow,hs,hn,hW0,hW,rfl,hok⟩
 refine⟨_root_.Go.Proofs.enters_of Tryz.func143 rfl rfl,fun X w args' ha hr=>?_⟩
 obtain⟨A,hA⟩:∃A:Aut,A=⟨acc,nxt⟩:=⟨_,rfl⟩
 have hAok:A.Ok W:=by subst hA;exact⟨hnl,by show 0<acc.length;omega,hrow⟩
 have ha0:=ha
 obtain⟨v1,r1,e1,⟨cs',rfl,hcs⟩,hr1⟩:=ha
 have hr1:r1=[]:=hr1
 subst hr1
 obtain⟨a1,q1,f1,k1,c1⟩:=hcs
 have k1:a1=.int .i64 t:=k1
 subst k1
 obtain⟨a2,q2,rfl,k2,c2⟩:=c1
 have k2:a2=.int .i64 s:=k2
 subst k2
 obtain⟨a3,q3,rfl,h3,c3⟩:=c2
 obtain⟨a4,q4,rfl,h4,c4⟩:=c3
 have c4:q4=[]:=c4
 subst c4
 have mB:(acc.map fun b=>[BV.bool b])=(acc.map BV.bool).map fun c=>[c]:=by rw[List.map_map];rfl
 have hu':=hu
 rw[mB] at hu'
 obtain⟨ba,oa,ca,rfl,hacc⟩:=Sls.cellsOf hr hu' (by rw[List.length_map];omega) h3
 obtain⟨bb,ob,cb,rfl,hvs⟩:=Sls.cellsOf hr hx (by omega) h4
 rw[List.length_map] at f1
 rw[hvl,hnl] at f1
 have ec:cs'=#[.int .i64 t,.int .i64 s,.slice (some ⟨ba,oa,none⟩) acc.length ca,.slice (some ⟨bb,ob,none⟩) acc.length cb]:=by
  apply Array.toList_inj.1
  exact f1
 subst ec
 have ea:args'=#[.agg #[.int .i64 t,.int .i64 s,.slice (some ⟨ba,oa,none⟩) acc.length ca,.slice (some ⟨bb,ob,none⟩) acc.length cb]]:=by
  apply Array.toList_inj.1
  exact e1
 subst ea
 have hR:∀i,∃p:Nat×Nat×Nat,i<acc.length→w.cell? ⟨bb,ob+i,none⟩=some (.slice (some ⟨p.1,p.2.1,none⟩) W p.2.2)∧∀c,c<W→w.cell? ⟨p.1,p.2.1+c,none⟩=some (.int .i64 (A.to i c))∧A.to i c<acc.length:=fun i=>by
  by_cases hi:i<acc.length
  ·have hiv:i<vs.length:=by omega
   have hin:i<nxt.length:=by omega
   obtain⟨v',hc',hv'⟩:=hvs i vs[i] (List.getElem?_eq_getElem hiv)
   have hs1:=hrows i vs[i] nxt[i] (List.getElem?_eq_getElem hiv) (List.getElem?_eq_getElem hin)
   obtain⟨hl1,hl2⟩:=hrow nxt[i] (List.getElem_mem hin)
   have mR:(nxt[i].map fun(z:Nat)=>[BV.int .i64 (z:Int)])=(nxt[i].map fun(z:Nat)=>BV.int .i64 (z:Int)).map fun c=>[c]:=by rw[List.map_map];rfl
   rw[mR] at hs1
   obtain⟨rb,ro,rc,rfl,hcell⟩:=Sls.cellsOf hr hs1 (by rw[List.length_map];omega) hv'
   rw[List.length_map,hl1] at hc'
   refine⟨(rb,ro,rc),fun _=>⟨hc',fun c hc=>?_⟩⟩
   obtain⟨u',hu1,hu2⟩:=hcell c (.int .i64 ((nxt[i][c]'(by omega):Nat):Int)) (by rw[List.getElem?_map,List.getElem?_eq_getElem (by omega)];rfl)
   have hu2:u'=.int .i64 ((nxt[i][c]'(by omega):Nat):Int):=hu2
   subst hu2
   have eA:A.to i c=nxt[i][c]'(by omega):=by
    subst hA
    simp[Aut.to,hin,hl1,hc]
   rw[eA]
   exact⟨hu1,hl2 _ (List.getElem_mem _)⟩
  ·exact⟨(0,0,0),fun h=>absurd h hi⟩
 obtain⟨p,hp⟩:=Classical.skolem.1 hR
 have hM:RdM H1 t s A (.agg [.int .i64 t,.int .i64 s,u,x]):=by
  subst hA
  refine⟨u,x,rfl,?_,vs,?_,hvl,fun i c xs hc hx=>?_⟩
  ·unfold Rd;rw[List.map_map];exact hu
  ·exact hx
  ·unfold Rd;rw[List.map_map];exact hrows i c xs hc hx
 refine Calls.mono (aL5 (H:=Unit) W acc.length t s ba oa bb ob ca cb (fun i=>acc.getD i false) (eY A W) A.to (fun i=>(p i).1) (fun i=>(p i).2.1) (fun i=>(p i).2.2) w hs hn hW (fun i hi=>?_) (fun i hi=>(hp i hi).1) (fun i c hi hc=>(hp i hi).2 c hc) fun w1 hb=>?_) ?_
 ·obtain⟨v',h1,h2⟩:=hacc i (.bool acc[i]) (by rw[List.getElem?_map,List.getElem?_eq_getElem hi];rfl)
  have h2:v'=.bool acc[i]:=h2
  subst h2
  rw[h1]
  simp[hi]
 ·obtain⟨base',hlt,hr'⟩:=hr.rebase (w':=w1) hb.block
  obtain⟨v',K,hrun,hkeep,bo,hown,hfr⟩:=i_farX (aA:=base') (fun _ _ _ _ _=>False) t s W A (.agg [.int .i64 t,.int .i64 s,u,x]) H1 hM hAok (by subst hA;show acc.length≤_;omega) (by omega)
  have hsd:=zZ (LO:=False) (w0:=w1) (Γ:=⟨base',fnOf,fun _ _ _ _ _=>False⟩) (P:=Tryz.prog) (sq:=sq) (by kernel_rfl) sqOk (fun f bfn h=>linked base' f bfn h) (fun _ _ _ _ _ h=>h.elim) (fun _ _ _ _ _ _ h=>h.elim) _ _ _ _ _ hrun
  refine Calls.mono (hsd.2 X w1 _ (VRL.rebase hlt ha0) hr') fun e w2 he=>?_
  cases e with
  | returned v'' =>
   obtain⟨X',_,hv,hr2⟩:=he
   have hsl:Sls K 3 1 v' ((((List.range A.y.length).map (eY A W)).map encI).map fun c=>[c]):=hown.rd
   have hAl:A.y.length=acc.length:=by subst hA;rfl
   obtain⟨fb,fo,cap,rfl,hcell⟩:=Sls.cellsOf hr2 hsl (by simp;omega) hv
   refine⟨fb,fo,cap,by simp[hAl],⟨hr2.ext.os,hr2.ext.tape,hr2.ext.output,hr2.ext.size,hr2.ext.block⟩,fun i hi=>?_⟩
   obtain⟨z,h1,h2⟩:=hcell i (encI (eY A W i)) (by rw[List.getElem?_map,List.getElem?_map,List.getElem?_range (by omega)];rfl)
   have h2:z=.int .i64 (eY A W i):=h2
   subst h2
   exact h1
  | panicked c=>exact he.elim
  | outgrown=>exact he.elim
 ·rintro e w' ⟨c,ok',rfl,hok',hb⟩
  have hoo:ok'=ok:=by
   have hAl:A.y.length=acc.length:=by subst hA;rfl
   have:=aZ9 hAok (s:=s) (by omega)
   rw[hAl] at this
   have h3:rJ A.y A.nxt W s↔rJ acc nxt W s:=by subst hA;exact Iff.rfl
   have:ok'=true↔ok=true:=hok'.trans (this.trans (h3.trans hok.symm))
   cases ok<;>cases ok'<;>simp_all
  subst hoo
  exact⟨X,Tie.le_refl X,⟨_,rfl,_,_,rfl,trivial,_,_,rfl,rfl,rfl⟩,hr.grow (pZ hr.ext hb.os hb.tape hb.output hb.size fun k hk=>hb.block k (Nat.lt_of_lt_of_le hk hr.ext.size)) hb.block⟩
end Go.Proofs.YtbnmhbmhafbmiaaGreatDoor.W
end

section
namespace Go.Proofs.YtbnmhbmhafbmiaaGreatDoor.W
set_option linter.unusedVariables false
set_option linter.unusedSimpArgs false
open Go.B
open Go.Au
variable {aA:Nat}
attribute [local simp] wpC_skip wpC_region wpC_seq kD fU wpC_block wpC_exit wpC_ret nO nP uI uL uJ uK aF6 nC iY fR jR fM fO cR nL fQ nJ mZ nB kB nE nH nF jV fN dS jH iZ jO nI nD nA nK uG fP jG nN uH kC eM nZ nX nY pin BExit.outOf gC gG put_eq sN Opd.ev eX oU kG oO pG kO gI mL pH oK oQ kX oV pD kR kQ oW pE gP uP oJ kJ pF bC iR cY cX nQ kF oneOf pM gY lD eJ pJ gV kZ eE pL gX kY eD uQ lJ pK gW lA eF uR lK lC eI uS lL lB eH cM pW nR iK aC asm dF nM iO jU kU jS kT nG oZ gK Option.map_some lH pI kV kA kW dX eL eK uU gJ kH kN kP kK Go.B.fillB Has
theorem aL6(d:Array Int)(hm:∀i j:Nat,i≤j→j<d.size→d[i]!≤d[j]!):∀m,m≤d.size→(∀x,x∈Lib.compactUpTo d m↔∃j,j<m∧d[j]! = x)∧(Lib.compactUpTo d m).Pairwise (· < ·)
 | 0,_=>by simp[Lib.compactUpTo]
 | m+1,hlt=>by
  obtain⟨h1,h2⟩:=aL6 d hm m (by omega)
  rw[Lib.compactUpTo_succ]
  cases hk:Lib.keeps d m with
  | true =>
   have hk':m=0∨d[m]!≠d[m-1]!:=by simpa[Lib.keeps] using hk
   simp only[if_true]
   refine⟨fun x=>?_,List.pairwise_append.2 ⟨h2,List.pairwise_singleton _ _,fun y hy z hz=>?_⟩⟩
   ·rw[List.mem_append,h1,List.mem_singleton]
    constructor
    ·rintro(⟨j,hj,rfl⟩|rfl)
     ·exact⟨j,by omega,rfl⟩
     ·exact⟨m,by omega,rfl⟩
    ·rintro⟨j,hj,rfl⟩
     by_cases e:j=m
     ·subst e;exact .inr rfl
     ·exact .inl ⟨j,by omega,rfl⟩
   ·rw[List.mem_singleton] at hz
    subst hz
    obtain⟨j,hj,rfl⟩:=(h1 y).1 hy
    have g1:=hm j (m-1) (by omega) (by omega)
    have g2:=hm (m-1) m (by omega) (by omega)
    rcases hk' with h0|h0<;>omega
  | false =>
   have hk':m≠0∧d[m]! = d[m-1]!:=by simpa[Lib.keeps] using hk
   simp only[Bool.false_eq_true,if_false,List.append_nil]
   refine⟨fun x=>?_,h2⟩
   rw[h1]
   constructor
   ·rintro⟨j,hj,rfl⟩
    exact⟨j,by omega,rfl⟩
   ·rintro⟨j,hj,rfl⟩
    by_cases e:j=m
    ·subst e;exact⟨j-1,by omega,hk'.2.symm⟩
    ·exact⟨j,by omega,rfl⟩
theorem rW(zs:List Int):(∀x,x∈Lib.compact (cT zs)↔x∈zs)∧(Lib.compact (cT zs)).Pairwise (· < ·):=by
 have hp:(cT zs).Pairwise fun a b=>decide (a≤b)=true:=List.pairwise_mergeSort (by intro a b c h1 h2;simp at *;omega) (by intro a b;simp;omega) zs
 have hg:∀(i:Nat) (h:i<(cT zs).length),(cT zs).toArray[i]! = (cT zs)[i]:=fun i h=>by
  rw[getElem!_pos (cT zs).toArray i (by simpa using h)]
  rfl
 obtain⟨h1,h2⟩:=aL6 (cT zs).toArray (fun i j hij hj=>by
  have hj:j<(cT zs).length:=by simpa using hj
  rw[hg i (by omega),hg j hj]
  by_cases e:i=j
  ·subst e;exact Int.le_refl _
  ·simpa using List.pairwise_iff_getElem.1 hp i j (by omega) hj (by omega)) (cT zs).length (by simp)
 refine⟨fun x=>(h1 x).trans ?_,h2⟩
 have hmem:x∈zs↔x∈cT zs:=by unfold cT;rw[List.mem_mergeSort]
 rw[hmem]
 constructor
 ·rintro⟨j,hj,rfl⟩
  rw[hg j hj]
  exact List.getElem_mem hj
 ·intro h
  obtain⟨j,hj,rfl⟩:=List.getElem_of_mem h
  exact⟨j,hj,hg j hj⟩
def nextL(T:Aut)(now:List Nat):List Nat:=now.flatMap fun q=>[T.to q 0,T.to q 1]
def rE(l:List Nat):List Int:=l.map fun(q:Nat)=>(q:Int)
def aY4(T:Aut)(now:List Nat):List Nat:=(Lib.compact (cT (rE (nextL T now)))).map Int.toNat
def aC6(T:Aut)(s:Nat):Nat→List Nat
 | 0=>[s]
 | i+1=>aY4 T (aC6 T s i)
theorem tP(T:Aut)(now:List Nat):rE (aY4 T now)=Lib.compact (cT (rE (nextL T now))):=by
 unfold aY4 rE
 rw[List.map_map]
 refine(List.map_congr_left fun x hx=>?_).trans (List.map_id _)
 have:=((rW _).1 x).1 hx
 obtain⟨q,_,rfl⟩:=List.mem_map.1 this
 show (((q:Int).toNat:Nat):Int)=(q:Int)
 omega
theorem mem_stepL{T:Aut}{now:List Nat}{x:Nat}:x∈aY4 T now↔x∈nextL T now:=by
 have h:∀l:List Nat,x∈l↔(x:Int)∈rE l:=fun l=>by
  unfold rE
  rw[List.mem_map]
  constructor
  ·exact fun h=>⟨x,h,rfl⟩
  ·rintro⟨y,hy,e⟩
   have:y=x:=by omega
   rw[←this];exact hy
 rw[h,tP,(rW _).1,←h]
theorem aN0(T:Aut)(now:List Nat):(aY4 T now).Nodup:=by
 have h:=(rW (rE (nextL T now))).2
 rw[←tP] at h
 unfold rE at h
 rw[List.pairwise_map] at h
 exact h.imp fun {a b} hab=>by omega
theorem qI{T:Aut}{s:Nat}:∀(i x:Nat),x∈aC6 T s i↔∃cs,In 2 cs∧cs.length=i∧T.run s cs=x
 | 0,x=>by
  simp only[aC6,List.mem_singleton]
  constructor
  ·rintro rfl;exact⟨[],In.nil 2,rfl,rfl⟩
  ·rintro⟨cs,_,h2,h3⟩
   rw[List.length_eq_zero_iff] at h2
   subst h2
   exact h3.symm
 | i+1,x=>by
  rw[aC6,mem_stepL]
  unfold nextL
  rw[List.mem_flatMap]
  constructor
  ·rintro⟨q,hq,hx⟩
   obtain⟨cs,g1,g2,g3⟩:=(qI i q).1 hq
   simp only[List.mem_cons,List.not_mem_nil,or_false] at hx
   rcases hx with rfl|rfl
   ·exact⟨cs++[0],g1.append (fun c hc=>by simp at hc;omega),by simp[g2],by rw[mK,g3]⟩
   ·exact⟨cs++[1],g1.append (fun c hc=>by simp at hc;omega),by simp[g2],by rw[mK,g3]⟩
  ·rintro⟨cs,g1,g2,g3⟩
   have hne:cs≠[]:=by rintro rfl;simp at g2
   have e:=List.dropLast_concat_getLast hne
   refine⟨T.run s cs.dropLast,(qI i _).2 ⟨_,fun c hc=>g1 c (List.dropLast_subset _ hc),by simp[g2],rfl⟩,?_⟩
   have hl:cs.getLast hne<2:=g1 _ (List.getLast_mem hne)
   rw[←e,Aut.run,List.foldl_append] at g3
   have g3':T.to (T.run s cs.dropLast) (cs.getLast hne)=x:=g3
   have:cs.getLast hne=0∨cs.getLast hne=1:=by omega
   rcases this with h|h<;>rw[h] at g3'<;>simp[g3']
theorem nowL_lt{T:Aut}{w s:Nat}(hok:T.Ok w)(hw:2≤w)(hs:s<T.y.length){i x:Nat}(h:x∈aC6 T s i):x<T.y.length:=by
 obtain⟨cs,h1,_,rfl⟩:=(qI i x).1 h
 exact hok.run hs fun c hc=>by have:=h1 c hc;omega
theorem nowL_len{T:Aut}{w s:Nat}(hok:T.Ok w)(hw:2≤w)(hs:s<T.y.length)(i:Nat):(aC6 T s i).length≤T.y.length:=by
 have hn:(aC6 T s i).Nodup:=by
  cases i with
  | zero=>simp[aC6]
  | succ i=>exact aN0 _ _
 have:=nodup_le hn (ys:=List.range T.y.length) fun x hx=>List.mem_range.2 (nowL_lt hok hw hs hx)
 simpa using this
theorem nowL_pos(T:Aut)(s i:Nat):0<(aC6 T s i).length:=by
 refine List.length_pos_of_mem ((qI i (T.run s (List.replicate i 0))).2 ⟨_,fun c hc=>?_,List.length_replicate,rfl⟩)
 rw[List.eq_of_mem_replicate hc]
 omega
theorem wV(T:Aut):∀now:List Nat,(nextL T now).length=2*now.length
 | []=>rfl
 | q::r=>by
  have:=wV T r
  unfold nextL at this ⊢
  simp[this]
  omega
theorem count_now{T:Aut}{w s:Nat}(hok:T.Ok w)(hw:2≤w)(hs:s<T.y.length)(i:Nat):countB T s i=(aC6 T s i).any fun q=>T.y.getD q false:=by
 rw[Bool.eq_iff_iff,zW T hok hw hs,List.any_eq_true]
 constructor
 ·rintro⟨cs,h1,h2,h3⟩
  exact⟨_,(qI i _).2 ⟨cs,h1,h2,rfl⟩,h3⟩
 ·rintro⟨x,hx,h⟩
  obtain⟨cs,h1,h2,rfl⟩:=(qI i x).1 hx
  exact⟨cs,h1,h2,h⟩
def xG(T:Aut)(s:Nat):Nat→Nat
 | 0=>0
 | i+1=>if countB T s i=true then i else xG T s i
theorem zF{T:Aut}{s:Nat}:∀n,(∃d,d<n∧countB T s d=true)→xG T s n<n∧countB T s (xG T s n)=true∧∀k,xG T s n<k→k<n→countB T s k=false
 | 0,h=>by obtain⟨d,hd,_⟩:=h;omega
 | n+1,h=>by
  by_cases hc:countB T s n=true
  ·simp only[xG,if_pos hc]
   exact⟨by omega,hc,fun k h1 h2=>by omega⟩
  ·simp only[xG,if_neg hc]
   obtain⟨h1,h2,h3⟩:=zF n (by
    obtain⟨d,hd,hd2⟩:=h
    refine⟨d,?_,hd2⟩
    by_cases e:d=n
    ·subst e;exact absurd hd2 hc
    ·omega)
   exact⟨by omega,h2,fun k k1 k2=>by
    by_cases e:k=n
    ·subst e;simpa using hc
    ·exact h3 k k1 (by omega)⟩
theorem pump{A:Aut}{w s:Nat}(hok:A.Ok w)(hs:s<A.y.length){cs:List Nat}(hc:In w cs)(hl:A.y.length≤cs.length):∃i j,i<j∧j≤A.y.length∧A.run s (cs.take i)=A.run s (cs.take j):=by
 refine Classical.byContradiction fun hno=>?_
 have hn:((List.range (A.y.length+1)).map fun i=>A.run s (cs.take i)).Nodup:=by
  refine List.pairwise_map.2 ((List.pairwise_lt_range).imp_of_mem fun {i j} hi hj hij he=>?_)
  rw[List.mem_range] at hi hj
  exact hno ⟨i,j,hij,by omega,he⟩
 have:=nodup_le hn (ys:=List.range A.y.length) fun x hx=>by
  obtain⟨i,_,rfl⟩:=List.mem_map.1 hx
  exact List.mem_range.2 (hok.run hs fun c h=>hc c (List.mem_of_mem_take h))
 simp at this
 omega
theorem aB7(A:Aut)(s:Nat)(cs ds:List Nat):A.run s (cs++ds)=A.run (A.run s cs) ds:=by simp[Aut.run,List.foldl_append]
theorem pump_down{A:Aut}{w s:Nat}(hok:A.Ok w)(hs:s<A.y.length){k:Nat}(h:TkL A w s k)(hk:A.y.length≤k):∃k',k'<k∧k≤k'+A.y.length∧TkL A w s k':=by
 obtain⟨cs,h1,rfl,h3⟩:=h
 obtain⟨i,j,hij,hj,he⟩:=pump hok hs h1 hk
 refine⟨cs.length-(j-i),by omega,by omega,cs.take i++cs.drop j,fun c hc=>?_,by simp;omega,?_⟩
 ·rcases List.mem_append.1 hc with hc|hc
  ·exact h1 c (List.mem_of_mem_take hc)
  ·exact h1 c (List.mem_of_mem_drop hc)
 ·unfold Aut.lang at h3 ⊢
  rw[aB7,he,←aB7,List.take_append_drop]
  exact h3
theorem pump_up{A:Aut}{w s:Nat}(hok:A.Ok w)(hs:s<A.y.length){k:Nat}(h:TkL A w s k)(hk:A.y.length≤k):∃k',k<k'∧TkL A w s k':=by
 obtain⟨cs,h1,rfl,h3⟩:=h
 obtain⟨i,j,hij,hj,he⟩:=pump hok hs h1 hk
 refine⟨cs.length+(j-i),by omega,cs.take j++cs.drop i,fun c hc=>?_,by simp;omega,?_⟩
 ·rcases List.mem_append.1 hc with hc|hc
  ·exact h1 c (List.mem_of_mem_take hc)
  ·exact h1 c (List.mem_of_mem_drop hc)
 ·unfold Aut.lang at h3 ⊢
  rw[aB7,←he,←aB7,List.take_append_drop]
  exact h3
theorem bA7{A:Aut}{w s:Nat}(hok:A.Ok w)(hs:s<A.y.length):rJ A.y A.nxt w s↔∀k,A.y.length≤k→k≤2*A.y.length→¬TkL A w s k:=by
 have hl:rJ A.y A.nxt w s↔∀k,A.y.length<k→¬TkL A w s k:=by
  constructor
  ·rintro h k hk ⟨cs,h1,rfl,h3⟩
   have:=h cs h1 hk
   have h3':A.y.getD (cs.foldl (fun q c=>(A.nxt.getD q []).getD c 0) s) false=true:=h3
   rw[this] at h3'
   cases h3'
  ·intro h cs h1 h2
   refine Bool.eq_false_iff.2 fun h3=>h cs.length h2 ⟨cs,h1,rfl,h3⟩
 rw[hl]
 constructor
 ·intro h k hk _ ht
  obtain⟨k',h1,h2⟩:=pump_up hok hs ht hk
  exact h k' (by omega) h2
 ·intro h
  have key:∀n k,k≤n→A.y.length<k→¬TkL A w s k:=by
   intro n
   induction n with
   | zero=>intro k h1 h2;omega
   | succ n ih =>
    intro k h1 h2 ht
    by_cases hk:k≤2*A.y.length
    ·exact h k (by omega) hk ht
    ·obtain⟨k',g1,g2,g3⟩:=pump_down hok hs ht (by omega)
     exact ih k' (by omega) (by omega) g3
  exact fun k hk=>key k k (Nat.le_refl _) hk
def yA(A:Aut)(f:Nat→Nat)(q:Nat):Nat→Nat
 | 0=>0
 | c+1=>min (yA A f q c+f (A.to q c)) 2
def fB(A:Aut)(w:Nat):Nat→Nat→Nat
 | 0=>fun q=>if A.y.getD q false=true then 1 else 0
 | k+1=>fun q=>yA A (fB A w k) q w
theorem wayP_le(A:Aut)(f:Nat→Nat)(q:Nat):∀c,yA A f q c≤2
 | 0=>by simp[yA]
 | c+1=>by simp only[yA];omega
theorem wayC_le(A:Aut)(w:Nat):∀k q,fB A w k q≤2
 | 0,q=>by simp only[fB];split<;>omega
 | k+1,q=>wayP_le A _ q w
theorem aS4(A:Aut)(f:Nat→Nat)(q:Nat):∀c,0<yA A f q c↔∃d,d<c∧0<f (A.to q d)
 | 0=>by simp[yA]
 | c+1=>by
  have ih:=aS4 A f q c
  simp only[yA]
  constructor
  ·intro h
   by_cases h1:0<yA A f q c
   ·obtain⟨d,hd,hf⟩:=ih.1 h1
    exact⟨d,by omega,hf⟩
   ·exact⟨c,by omega,by omega⟩
  ·rintro⟨d,hd,hf⟩
   by_cases e:d=c
   ·subst e;omega
   ·have:=ih.2 ⟨d,by omega,hf⟩
    omega
theorem aA8(A:Aut)(w:Nat):∀k q,0<fB A w k q↔TkL A w q k
 | 0,q=>by
  rw[TkL_zero]
  simp only[fB]
  cases A.y.getD q false<;>simp
 | k+1,q=>by
  rw[TkL_succ]
  show 0<yA A (fB A w k) q w↔_
  rw[aS4]
  exact exists_congr fun c=>and_congr_right fun _=>aA8 A w k _
noncomputable def finA(T:Aut):Bool:=@decide (rJ T.y T.nxt 2 0) (Classical.propDecidable _)
theorem aV9{T:Aut}:finA T=true↔rJ T.y T.nxt 2 0:=by simp[finA]
def topA(T:Aut):Nat:=xG T 0 (T.y.length+1)
noncomputable def bT(T:Aut):Nat×Nat:=if eY T 2 0<0 then(0,6) else if finA T=false then(0,4) else bA6 (iC T 0 (topA T) 1)
theorem rd_front{H:BH}{b ty:Nat}{cs rest:List BV}(h:H.row b=.arr ty (cs++rest)):Rd H ty (.sl b 0 cs.length) cs:=by
 refine⟨rfl,by simp[BV.slen],fun i x hx=>?_⟩
 rw[List.getElem?_map] at hx
 simp only[Option.map_eq_some_iff] at hx
 obtain⟨c,hc,rfl⟩:=hx
 obtain⟨hi,hci⟩:=List.getElem?_eq_some_iff.1 hc
 refine⟨b,i,cs++rest,by simp[BV.sat],h,by simp;omega,?_⟩
 rw[List.drop_append_of_le_length (by omega),List.drop_eq_getElem_cons hi,hci]
 rfl
theorem bB7(t s w:Nat)(A:Aut)(m:BV)(H:BH)(h:RdM H t s A m)(hok:A.Ok w)(hs:s<A.y.length)(hn:A.y.length≤100000)(hw0:0<w)(hw:w≤100)(ok:Bool)(hb:ok=true↔rJ A.y A.nxt w s):Runs (gam aA) 143 [m] H (.tup [.any,.bool ok]) H:=by
 obtain⟨u,x,rfl,hu,vs,hx,hvl,hrows⟩:=h
 refine⟨1,.inr (.inl (.inr (.inr (.inr ⟨rfl,rfl,t,s,w,A.y,A.nxt,u,x,vs,ok,rfl,?_,hx,hvl,fun i c xs hc hxs=>?_,hok.len,hok.row,hs,hn,hw0,hw,rfl,hb⟩))))⟩
 ·have:=hu
  unfold Rd at this
  rw[List.map_map] at this
  exact this
 ·have:=hrows i c xs hc hxs
  unfold Rd at this
  rw[List.map_map] at this
  exact this
theorem i_sortZ(zs:List Int)(b:Nat)(H:BH)(hb:aA≤b)(h0:0<zs.length)(hn:zs.length≤1000000)(hr:H.row b=.arr 3 (zs.map (BV.int .i64))):Runs (gam aA) 144 [.sl b 0 zs.length] H (.tup []) (H.set b (.arr 3 ((cT zs).map (BV.int .i64)))):=⟨1,.inr (.inl (.inr (.inl ⟨rfl,b,zs,hb,h0,hn,hr,rfl,rfl,rfl⟩)))⟩
theorem i_compZ(zs:List Int)(b:Nat)(H:BH)(hb:aA≤b)(h0:0<zs.length)(hn:zs.length≤1000000)(hr:H.row b=.arr 3 (zs.map (BV.int .i64))):Runs (gam aA) 145 [.sl b 0 zs.length] H (.sl b 0 (Lib.compact zs).length) (H.set b (.arr 3 ((bD3 zs).map (BV.int .i64)))):=⟨1,.inr (.inl (.inr (.inr (.inl ⟨rfl,b,zs,hb,h0,hn,hr,rfl,rfl,rfl⟩))))⟩
theorem bA8{T:Aut}{now:List Nat}{j:Nat}(h:j<now.length):nextL T (now.take (j+1))=nextL T (now.take j)++[T.to now[j] 0,T.to now[j] 1]:=by
 rw[List.take_succ_eq_append_getElem h]
 unfold nextL
 rw[List.flatMap_append]
 rfl
theorem any_take{T:Aut}{now:List Nat}{j:Nat}(h:j<now.length):((now.take (j+1)).any fun q=>T.y.getD q false)=(((now.take j).any fun q=>T.y.getD q false)||T.y.getD now[j] false):=by
 rw[List.take_succ_eq_append_getElem h,List.any_append]
 simp
theorem bC1(w n4:Nat)(T:Aut)(mu mw:BV)(K0:BH)(hr4:K0.row n4=.arr 77 [aB 1,aB 0,mu,mw])(hmu:Rd K0 4 mu (T.y.map aK))(hmw:RdR K0 80 3 mw aB T.nxt)(hok:T.Ok w)(hw:2≤w)(hn:T.y.length≤10000)(Z:Env→BH→Prop)(hZ:Z=fun e K=>e 4=.ptr n4 0∧e 7=aB (topA T)∧K0.Keeps K)(e:Env)(K:BH)(n8:Nat)(o:Own aA K0 K [(some n8,.arr 3 [aB 0])])(e4:e 4=.ptr n4 0)(e7:e 7=aB 0)(e8:e 8=.sl n8 0 1)(Q:Post):
  wpC aA (Runs (gam aA)) ((ir91.body.tl 6).hd 1) (Post.then Z Q) e K:=by
 have hp:=hok.pos
 simp[ir91,BCode.tl,BCode.hd]
 obtain⟨I,hI⟩:∃I:Nat→Env→BH→Prop,I=(fun i e K=>e 9=aB i∧e 7=aB (xG T 0 i)∧∃nb rest,e 8=.sl nb 0 (aC6 T 0 i).length∧Own aA K0 K [(some nb,.arr 3 ((aC6 T 0 i).map aB++rest))]):=⟨_,rfl⟩
 refine aE (T.y.length+1) [(4,.ptr n4 0)] I (i0:=0) rfl ?_ ?_ (Nat.zero_le _) ?_
 ·simp[e4]
 ·rw[hI]
  exact⟨by simp,by simp[e7,xG],n8,[],by simp[e8,aC6],by simpa[aC6] using o⟩
 clear o e4 e7 e8
 rintro i e K hi ⟨e4,-⟩ hh
 rw[hI] at hh
 obtain⟨e9,e7,nb,rest,e8,o⟩:=hh
 simp only[] at e4
 have wi:=wS (n:=i) (by omega)
 have hr4':K.row n4=.arr 77 [aB 1,aB 0,mu,mw]:=by rw[o.keeps n4 (by rw[hr4];simp),hr4]
 have r2:=aD hr4' (rt:=none) (j:=2) (c:=mu) rfl rfl
 obtain⟨now,hnow⟩:∃now,now=aC6 T 0 i:=⟨_,rfl⟩
 have hnl:now.length≤T.y.length:=by rw[hnow];exact nowL_len hok hw hp i
 have hnp:0<now.length:=by rw[hnow];exact nowL_pos T 0 i
 have hnlt:∀x∈now,x<T.y.length:=fun x hx=>nowL_lt hok hw hp (by rw[hnow] at hx;exact hx)
 have hcnt:countB T 0 i=now.any fun q=>T.y.getD q false:=by rw[hnow];exact count_now hok hw hp i
 rw[←hnow] at e8 o
 by_cases hlt:i<T.y.length+1
 ·have hle:(i:Int)≤(T.y.length:Int):=by omega
  simp[e4,e8,e9,r2,hmu.isSl,hmu.lenM,hle]
  obtain⟨J,hJ⟩:∃J:Nat→Env→BH→Prop,J=(fun j e K=>e 36=aB j∧e 7=aB (if ((now.take j).any fun q=>T.y.getD q false)=true then i else xG T 0 i)∧∃v10 bo,e 10=v10 ∧
    Own aA K0 K [(bo,.arr 3 ((nextL T (now.take j)).map aB)),(some nb,.arr 3 (now.map aB++rest))]∧Vec bo v10 (2*j)):=⟨_,rfl⟩
  refine aE now.length [(4,.ptr n4 0),(9,aB i),(34,.sl nb 0 now.length),(35,aB now.length)] J (i0:=0) rfl ?_ ?_ (Nat.zero_le _) ?_
  ·simp[e4,e9]
  ·rw[hJ]
   exact⟨by simp,by simp[e7],.nils,none,by simp,by simpa[nextL] using o.nil (.arr 3 []),Vec.none⟩
  clear o e4 e7 e8 e9 r2 hr4'
  rintro j e K hj ⟨e4,e9,e34,e35,-⟩ hh
  rw[hJ] at hh
  obtain⟨e36,e7,v10,bo,e10,o,hv⟩:=hh
  simp only[] at e4 e9 e34 e35
  have wj:=wS (n:=j) (by omega)
  by_cases hjl:j<now.length
  ·have hr4':K.row n4=.arr 77 [aB 1,aB 0,mu,mw]:=by rw[o.keeps n4 (by rw[hr4];simp),hr4]
   have r2:=aD hr4' (rt:=none) (j:=2) (c:=mu) rfl rfl
   have r3:=aD hr4' (rt:=none) (j:=3) (c:=mw) rfl rfl
   have hN:=rd_front (o.at 1 (b:=nb) rfl)
   have g0:K.rd none none (.ptr nb j)=some (aB now[j]):=by simpa[BV.sat] using hN.at (i:=j) hjl (rt:=none) rfl
   obtain⟨q,hq⟩:∃q,q=now[j]:=⟨_,rfl⟩
   rw[←hq] at g0
   have hql:q<T.y.length:=hnlt q (by rw[hq];exact List.getElem_mem hjl)
   have hmu':=hmu.keeps o.keeps
   have hmw':=hmw.keeps o.keeps
   have g1:=hmu'.at (i:=q) hql (rt:=none) rfl
   have d1:=getD_get (L:=T.y) rfl hql
   have hw0:0<w:=by omega
   have hw1:1<w:=by omega
   have hw1':(1:Int)<(w:Int):=by omega
   obtain⟨row,q1,q2,q3,q4⟩:=aE9 hmw' hok hql hw0
   obtain⟨row',q1',q2',q3',q4'⟩:=aE9 hmw' hok hql hw1
   have q1:=q1 none rfl
   have q1':=q1' none rfl
   rw[q1] at q1'
   cases q1'
   have q4:=q4 none rfl
   have q5:=q4' none rfl
   have hnt:=bA8 (T:=T) hjl
   have hat:=any_take (T:=T) hjl
   rw[←hq] at hnt hat
   have hNl:(nextL T (now.take j)).length=2*j:=by rw[wV,List.length_take,Nat.min_eq_left (by omega)]
   have fin:∀{n1 n2:Nat} (f1:K.row n1=.fresh) (b1:aA≤n1) (f2:(K.set n1 (.arr 3 [aB (T.to q 0),aB (T.to q 1)])).row n2=.fresh) (b2:aA≤n2),∃v' K',(K.set n1 (.arr 3 [aB (T.to q 0),aB (T.to q 1)])).appd aA n2 3 1 8 v10 (.sl n1 0 2)=some (v',K') ∧
     ∃bo',Own aA K0 K' [(bo',.arr 3 ((nextL T (now.take (j+1))).map aB)),(some nb,.arr 3 (now.map aB++rest))]∧Vec bo' v' (2*(j+1)):=by
    intro n1 n2 f1 b1 f2 b2
    have o1:=o.new f1 b1 (s:=.arr 3 [aB (T.to q 0),aB (T.to q 1)])
    obtain⟨v',K',bo',p1,p2,p3⟩:=o1.app 1 rfl (by rw[List.length_map,hNl];exact hv) (vy:=.sl n1 0 2) (new:=[aB (T.to q 0),aB (T.to q 1)]) (bytes:=8) (nb:=n2) (aC8 (sz:=1) (n:=2) rfl) (by simp) (by simp[hNl];omega) (by simp[hNl];omega) f2 b2
    refine⟨v',K',p1,bo',?_,?_⟩
    ·rw[hnt,List.map_append]
     exact p2.tail
    ·rw[List.length_append,List.length_map,hNl] at p3
     exact p3
   cases ha:T.y[q] with
   | false =>
    rw[ha] at g1 d1
    rw[d1,Bool.or_false] at hat
    simp[e4,e10,e34,e35,e36,hjl,g0,r2,r3,hmu'.isSl,hmu'.lenM,hql,g1,hmw'.isSl,hmw'.len,hok.len,q1,q2,q3,q4,q5,hw0,hw1,hw1',hN.isSl]
    intro n1 b1 f1
    simp[aC f1 b1]
    intro n2 b2 f2
    obtain⟨v',K',p1,bo',p2,p3⟩:=fin f1 b1 f2 b2
    simp[p1,e36,wj,hjl]
    rw[hJ]
    exact⟨by simp,by rw[hat];simp[e7],v',bo',by simp,p2,p3⟩
   | true =>
    rw[ha] at g1 d1
    rw[d1,Bool.or_true] at hat
    simp[e4,e9,e10,e34,e35,e36,hjl,g0,r2,r3,hmu'.isSl,hmu'.lenM,hql,g1,hmw'.isSl,hmw'.len,hok.len,q1,q2,q3,q4,q5,hw0,hw1,hw1',hN.isSl]
    intro n1 b1 f1
    simp[aC f1 b1]
    intro n2 b2 f2
    obtain⟨v',K',p1,bo',p2,p3⟩:=fin f1 b1 f2 b2
    simp[p1,e36,wj,hjl]
    rw[hJ]
    exact⟨by simp,by rw[hat];simp,v',bo',by simp,p2,p3⟩
  ·have hje:j=now.length:=by omega
   subst hje
   rw[List.take_length] at e7 o
   have hzl:(rE (nextL T now)).length=2*now.length:=by simp[rE,wV]
   obtain⟨zs,hzs⟩:∃zs,zs=rE (nextL T now):=⟨_,rfl⟩
   have hzm:(nextL T now).map aB=zs.map (BV.int .i64):=by rw[hzs,rE,List.map_map];rfl
   rw[←hzs] at hzl
   rw[hzm] at o
   cases bo with
   | none=>have:=hv.2;omega
   | some b =>
    have hv10:v10=.sl b 0 zs.length:=by rw[hzl];exact hv
    subst hv10
    have hb:=o.ge 0 (b:=b) rfl
    have hsort:=i_sortZ (aA:=aA) zs b K hb (by omega) (by omega) (o.at 0 rfl)
    have o2:=o.upd 0 (b:=b) (s':=.arr 3 ((cT zs).map (BV.int .i64))) rfl
    have hsl:(cT zs).length=zs.length:=List.length_mergeSort zs
    have hcomp:=i_compZ (aA:=aA) (cT zs) b _ hb (by omega) (by omega) (o2.at 0 rfl)
    rw[hsl] at hcomp
    have o3:=o2.upd 0 (b:=b) (s':=.arr 3 ((bD3 (cT zs)).map (BV.int .i64))) rfl
    simp[e10,e34,e35,e36]
    refine⟨_,_,hsort,BH.KeepsTys.nil _ _,?_⟩
    simp[e10]
    refine⟨_,_,hcomp,BH.KeepsTys.nil _ _,?_⟩
    simp[e9,wi,hlt]
    rw[hI]
    have hst:rE (aC6 T 0 (i+1))=Lib.compact (cT zs):=by rw[hzs];show rE (aY4 T (aC6 T 0 i))=_;rw[←hnow];exact tP T now
    have hlen:(aC6 T 0 (i+1)).length=(Lib.compact (cT zs)).length:=by rw[←hst];simp[rE]
    refine⟨by simp,?_,b,((List.replicate ((cT zs).length-(Lib.compact (cT zs)).length) 0).map (BV.int .i64)),by simp[hlen],?_⟩
    ·simp[e7,xG,hcnt]
    ·have hm:(aC6 T 0 (i+1)).map aB++((List.replicate ((cT zs).length-(Lib.compact (cT zs)).length) 0).map (BV.int .i64))=(bD3 (cT zs)).map (BV.int .i64):=by
      unfold bD3
      rw[List.map_append,←hst,rE,List.map_map]
      rfl
     rw[hm]
     exact o3.sub (List.Sublist.cons_cons _ (List.nil_sublist _))
 ·have hie:i=T.y.length+1:=by omega
  subst hie
  have hle:¬(T.y.length:Int)+1≤(T.y.length:Int):=by omega
  simp[e4,e8,e9,r2,hmu.isSl,hmu.lenM,hle]
  rw[hZ]
  exact⟨e4,e7,o.keeps⟩
theorem tidy_any{w:Nat}{A:Aut}{L:List Nat→Bool}(h:IsTidy w A L):A.y.contains true=true↔∃d,TkL A w 0 d:=by
 have hl:=fun cs (hc:In w cs)=>h.lang hc
 obtain⟨κ,i1,nx,a,s,n,hd,rfl,hdist,hL⟩:=h
 have hs:=aB1 (a:=a) hd
 constructor
 ·intro h
  obtain⟨cs,c1,c2⟩:=hs.1 (by simpa[aQ] using h)
  exact⟨cs.length,cs,c1,rfl,by rw[hl cs c1,←hL cs c1];exact c2⟩
 ·rintro⟨d,cs,c1,_,c2⟩
  have:=hs.2 ⟨cs,c1,by rw[hL cs c1,←hl cs c1];exact c2⟩
  simpa[aQ] using this
theorem aQ1{T:Aut}(hok:T.Ok 2):eY T 2 0<0↔¬∃d,TkL T 2 0 d:=by
 have hge:-1≤eY T 2 0:=xM T 2 T.y.length 0
 constructor
 ·rintro h ⟨d,hd⟩
  exact(tA hok hok.pos).1 (by omega) d hd
 ·intro h
  have:=(tA hok hok.pos).2 fun d hd=>h ⟨d,hd⟩
  omega
theorem yH{T:Aut}(hok:T.Ok 2)(h:¬eY T 2 0<0):topA T≤T.y.length∧countB T 0 (topA T)=true∧∀k,topA T<k→k≤T.y.length→countB T 0 k=false:=by
 have hge:-1≤eY T 2 0:=xM T 2 T.y.length 0
 obtain⟨d,hd⟩:∃d:Nat,eY T 2 0=(d:Int):=⟨(eY T 2 0).toNat,by omega⟩
 obtain⟨hc,hdl⟩:=far_count hok hd
 obtain⟨h1,h2,h3⟩:=zF (T:=T) (s:=0) (T.y.length+1) ⟨d,by omega,hc⟩
 exact⟨by unfold topA;omega,h2,fun k k1 k2=>h3 k k1 (by omega)⟩
theorem bB6(s:Nat)(A:Aut)(m:BV)(H:BH)(h:RdRel H 1 s A m)(hok:A.Ok (wd 1))(hs:s<A.y.length)(hlen:A.y.length≤150):FnDoes (gam aA) 91 [m] H fun v _=>v=.tup [aB (bT (TA 1 (A.lang s))).1,aB (bT (TA 1 (A.lang s))).2]:=by
 obtain⟨hT1,hT2⟩:=aY (t:=1) (by omega) hok hs
 have hTo:(TA 1 (A.lang s)).Ok 2:=hT1.ok
 have hem:(TA 1 (A.lang s)).y.contains true=true↔∃d,TkL (TA 1 (A.lang s)) 2 0 d:=tidy_any hT1
 obtain⟨T,hTe⟩:∃T,T=TA 1 (A.lang s):=⟨_,rfl⟩
 rw[←hTe] at hTo hT2 hem ⊢
 have hTp:=hTo.pos
 have hem':T.y.contains true=!decide (eY T 2 0<0):=by
  rw[Bool.eq_iff_iff,hem]
  simp only[Bool.not_eq_true',decide_eq_false_iff_not,aQ1 hTo,Classical.not_not]
 obtain⟨R,hR⟩:∃R:BV→BH→Prop,R=fun v _=>v=.tup [aB (bT T).1,aB (bT T).2]:=⟨_,rfl⟩
 have hR':(fun(v:BV) (_:BH)=>v=.tup [aB (bT T).1,aB (bT T).2])=R:=hR.symm
 rw[hR']
 refine FnDoes.of (fn:=ir91) rfl ?_
 have h':=h
 obtain⟨u,x,rfl,hu,hx⟩:=h
 have u1:=hu.one
 have x1:=aF hx.isSl
 obtain⟨Y,hY⟩:∃Y:Env→BH→Prop,Y=fun e K=>∃n4 mu mw,e 4=.ptr n4 0∧H.Keeps K∧K.row n4=.arr 77 [aB 1,aB 0,mu,mw]∧Rd K 4 mu (T.y.map aK)∧RdR K 80 3 mw aB T.nxt∧¬eY T 2 0<0∧finA T=true:=⟨_,rfl⟩
 refine dO 4 Y ?_ fun e K hh=>?_
 ·simp[ir91,BCode.hd,u1,x1]
  intro n1 b1 f1
  have o1:=Own.start (aA:=aA) (H:=H) |>.new f1 b1 (s:=.arr 25 [aB 1,aB s,u,x])
  have r1:=aI (o1.at 0 (b:=n1) rfl) (n:=4) (rt:=none) rfl rfl
  simp[aC f1 b1,r1]
  refine(mO (aA:=aA) 1 s (by omega) A _ _ (h'.keeps o1.keeps) hok hs (by omega)).step fun mm K2 k2 hm=>?_
  have o2:=o1.call k2
  rw[←hTe] at hm
  obtain⟨mu,mw,hme,hmu,hmw⟩:=hm.rd
  subst hme
  have mu1:=hmu.one
  have mw1:=aF hmw.isSl
  simp[mu1,mw1]
  intro n5 b5 f5
  obtain⟨K5,g5,o5⟩:=(o2.new f5 b5 (s:=.arr 77 [.int .i64 0,.int .i64 0,.nils,.nils])).putAll 0 (b:=n5) (n:=4) (ds:=[aB 1,aB 0,mu,mw]) rfl rfl rfl (by simp[mu1,mw1]) (rt:=none) rfl
  obtain⟨K5',g5',o5'⟩:=(Own.start (aA:=aA) (H:=K2) |>.new f5 b5 (s:=.arr 77 [.int .i64 0,.int .i64 0,.nils,.nils])).putAll 0 (b:=n5) (n:=4) (ds:=[aB 1,aB 0,mu,mw]) rfl rfl rfl (by simp[mu1,mw1]) (rt:=none) rfl
  rw[g5] at g5'
  cases g5'
  have hmm:RdM K5 1 0 T (.agg [aB 1,aB 0,mu,mw]):=(show RdM K2 1 0 T _ from⟨mu,mw,rfl,hmu,hmw⟩).keeps o5'.keeps
  have r5:=aI (o5.at 0 (b:=n5) rfl) (n:=4) (rt:=none) rfl rfl
  simp[aC f5 b5,g5,r5]
  refine(aJ7 (aA:=aA) 1 0 T _ K5 hmm (by omega)).step fun v K6 k6 hv=>?_
  subst hv
  have o6:=o5.call k6
  rw[hem']
  by_cases hneg:eY T 2 0<0
  ·simp[hneg]
   rw[hR]
   exact⟨o6.keeps,by simp[bT,hneg]⟩
  have r6:=aI (o6.at 0 (b:=n5) rfl) (n:=4) (rt:=none) rfl rfl
  simp[hneg,r6]
  refine aN (bB7 (aA:=aA) 1 0 2 T _ K6 (hmm.keeps k6) hTo hTp (by omega) (by omega) (by omega) (finA T) aV9) ?_
  cases hf:finA T with
  | false =>
   simp
   rw[hR]
   exact⟨o6.keeps,by simp[bT,hneg,hf]⟩
  | true =>
   simp
   rw[hY]
   exact⟨n5,mu,mw,by simp,o6.keeps,o6.at 0 rfl,hmu.keeps (o5'.keeps.trans k6),hmw.keeps (o5'.keeps.trans k6),hneg,hf⟩
 rw[hY] at hh
 obtain⟨n4,mu,mw,e4,k,hr4,hmu,hmw,hneg,hf⟩:=hh
 obtain⟨Y2,hY2⟩:∃Y2:Env→BH→Prop,Y2=fun e K1=>∃n8,e 4=.ptr n4 0∧e 7=aB 0∧e 8=.sl n8 0 1∧Own aA K K1 [(some n8,.arr 3 [aB 0])]:=⟨_,rfl⟩
 refine dO 2 Y2 ?_ fun e K1 hh=>?_
 ·have r2:=aD hr4 (rt:=none) (j:=1) (c:=aB 0) rfl rfl
  simp[ir91,BCode.tl,BCode.hd,e4,r2]
  intro n8 b8 f8
  simp[aC f8 b8]
  rw[hY2]
  exact⟨n8,by simp[e4],by simp,by simp,Own.start (aA:=aA) (H:=K) |>.new f8 b8⟩
 rw[hY2] at hh
 obtain⟨n8,e4,e7,e8,o8⟩:=hh
 obtain⟨Z,hZ⟩:∃Z:Env→BH→Prop,Z=fun e K1=>e 4=.ptr n4 0∧e 7=aB (topA T)∧K.Keeps K1:=⟨_,rfl⟩
 refine dO 1 Z (bC1 2 n4 T mu mw K hr4 hmu hmw hTo (by omega) (by omega) Z hZ e K1 n8 o8 e4 e7 e8 _) fun e K2 hh=>?_
 rw[hZ] at hh
 obtain⟨e4,e7,k2⟩:=hh
 obtain⟨ht1,ht2,-⟩:=yH hTo hneg
 have hr4':K2.row n4=.arr 77 [aB 1,aB 0,mu,mw]:=by rw[k2 n4 (by rw[hr4];simp),hr4]
 have r7:=aI hr4' (n:=4) (rt:=none) rfl rfl
 have hmm:RdM K2 1 0 T (.agg [aB 1,aB 0,mu,mw]):=⟨mu,mw,rfl,hmu.keeps k2,hmw.keeps k2⟩
 simp[ir91,BCode.tl,e4,e7,r7]
 refine(i_extreme (aA:=aA) 1 0 2 (topA T) true T _ K2 hmm hTo (by omega) hTp (by omega) (by omega) ht2).step fun v K7 k7 hv=>?_
 subst hv
 simp
 refine aN (bB4 (iC T 0 (topA T) 1) K7 (extW_w (by omega)) (by rw[qT];omega)) ?_
 simp
 rw[hR]
 refine⟨(k.trans k2).trans k7,?_⟩
 have:bT T=bA6 (iC T 0 (topA T) 1):=by simp[bT,hneg,hf]
 rw[this]
theorem s_Min(a b:Nat)(H:BH):Runs (gam aA) 222 [aB a,aB b] H (aB (min a b)) H:=by
 refine aV (fn:=ir222) rfl ?_
 by_cases h:a<b
 ·have h':(a:Int)<(b:Int):=by omega
  simp[ir222,h,h',Nat.min_eq_left (Nat.le_of_lt h)]
 ·have h':¬(a:Int)<(b:Int):=by omega
  simp[ir222,h,h',Nat.min_eq_right (Nat.not_lt.1 h)]
def fV(A:Aut)(w k:Nat):Nat→Int:=fun q=>((fB A w k q:Nat):Int)
def wayR(A:Aut)(w k:Nat):List (List BV):=(List.range k).map fun i=>((List.range A.y.length).map (fV A w i)).map encI
theorem wayR_succ(A:Aut)(w k:Nat):wayR A w (k+1)=wayR A w k++[((List.range A.y.length).map (fV A w k)).map encI]:=by simp[wayR,List.range_succ]
theorem wayR_len(A:Aut)(w k:Nat):(wayR A w k).length=k:=by simp[wayR]
theorem wayR_get{A:Aut}{w k i:Nat}(h:i<k):(wayR A w k)[i]?=some (((List.range A.y.length).map (fV A w i)).map encI):=by simp[wayR,h]
theorem bC3{n i:Nat}(f:Nat→Int)(h:i<n):(cQ n f i).set i 0=cQ n f i:=by
 unfold cQ
 rw[List.set_append_right _ _ (by simp),show n-i=(n-(i+1))+1 by omega,List.replicate_succ]
 simp
theorem s_Ways(t s w rb len:Nat)(A:Aut)(H:BH)(h:RdP H rb t s A)(hok:A.Ok w)(hw:w≤1000)(hn:A.y.length≤10000)(hlen:len≤100000):FnDoes (gam aA) 193 [.ptr rb 0,aB len,aB 2] H fun v K=>∃wo vs fr,Own aA H K ((wo,.arr 36 vs)::fr)∧Vec wo v vs.length∧RowsOf 2 vs fr (wayR A w (len+1)):=by
 refine FnDoes.hide fun R hR=>?_
 refine FnDoes.of (fn:=ir193) rfl ?_
 obtain⟨u,x,hr,hu,hx⟩:=id h
 have r2:=aD hr (rt:=none) (j:=2) (c:=u) rfl rfl
 have c1:(A.y.length:Int)≤140737488355328:=by omega
 have c8:8*(A.y.length:Int)≤140737488355328:=by omega
 have hrb:H.row rb≠.fresh:=by rw[hr];simp
 simp[ir193,r2,hu.isSl,hu.lenM,c1,c8]
 intro n7 b7 f7
 have o2:=Own.start (aA:=aA) (H:=H) |>.new f7 b7 (s:=.arr 2 (List.replicate A.y.length (.int .i64 0)))
 simp[aC f7 b7,c8]
 obtain⟨I,hI⟩:∃I:Nat→Env→BH→Prop,I=(fun i e K=>e 8=aB i∧Own aA H K [(some n7,.arr 2 ((cQ A.y.length (fV A w 0) i).map encI))]):=⟨_,rfl⟩
 refine aE A.y.length [(0,.ptr rb 0),(1,aB len),(2,aB 2),(7,.sl n7 0 A.y.length)] I (i0:=0) rfl ?_ ?_ (Nat.zero_le _) ?_
 ·simp
 ·rw[hI]
  refine⟨by simp,?_⟩
  rw[iJ,yP]
  exact o2
 clear o2
 rintro i e K hi ⟨e0,e1,e2,e7,-⟩ hh
 rw[hI] at hh
 obtain⟨e8,o⟩:=hh
 simp only[] at e0 e1 e2 e7
 have wi:=wS (n:=i) (by omega)
 have hrk:K.row rb=.arr 25 [aB t,aB s,u,x]:=by rw[o.keeps rb hrb,hr]
 have r2:=aD hrk (rt:=none) (j:=2) (c:=u) rfl rfl
 by_cases hlt:i<A.y.length
 ·have g1:=(hu.keeps o.keeps).at hlt (rt:=none) rfl
  have hga:A.y.getD i false=A.y[i]:=by simp[hlt]
  cases hb:A.y[i] with
  | false =>
   rw[hb] at g1
   simp[e0,e8,hlt,r2,hu.isSl,hu.lenM,g1,wi]
   rw[hI]
   refine⟨by simp,?_⟩
   rw[zO _ hlt (by simp only[fV,fB];rw[hga,hb];rfl)]
   exact o
  | true =>
   rw[hb] at g1
   obtain⟨K5,g5,o5⟩:=o.put 0 (b:=n7) rfl (j:=i) (u:=encI 1) (by simp[eW _ hi,hlt]) rfl (rt:=none) rfl
   have g5':K.wr aA none 1 (.ptr n7 i) (.int .i64 1)=some K5:=g5
   simp[e0,e7,e8,hlt,r2,hu.isSl,hu.lenM,g1,g5',wi]
   rw[hI]
   refine⟨by simp,?_⟩
   rw[←iT _ hlt]
   have e0:fV A w 0 i=1:=by simp only[fV,fB];rw[hga,hb];rfl
   rw[e0]
   simpa using o5
 have hie:i=A.y.length:=by omega
 subst hie
 rw[lZ] at o
 simp[e0,e7,e8,r2,hu.isSl,hu.lenM]
 intro n9 b9 f9
 simp[aC f9 b9]
 have o4:Own aA H (K.set n9 (.arr 36 [.sl n7 0 A.y.length])) ([(some n9,.arr 36 [.sl n7 0 A.y.length])]++[(some n7,.arr 2 (((List.range A.y.length).map (fV A w 0)).map encI))]):=o.new f9 b9
 have hr0:RowsOf 2 [.sl n7 0 A.y.length] [(some n7,.arr 2 (((List.range A.y.length).map (fV A w 0)).map encI))] (wayR A w 1):=⟨rfl,by simp[Vec],trivial⟩
 obtain⟨J,hJ⟩:∃J:Nat→Env→BH→Prop,J=(fun i e K=>e 10=aB (i+1)∧∃v7 v9 wo vs fr,e 7=v7∧e 9=v9∧vs[i]?=some v7∧Own aA H K ([(wo,.arr 36 vs)]++fr)∧Vec wo v9 vs.length∧RowsOf 2 vs fr (wayR A w (i+1))):=⟨_,rfl⟩
 refine aE len [(0,.ptr rb 0),(1,aB len),(2,aB 2)] J (i0:=0) rfl ?_ ?_ (Nat.zero_le _) ?_
 ·simp[e0,e1,e2]
 ·rw[hJ]
  exact⟨by simp,.sl n7 0 A.y.length,.sl n9 0 1,some n9,_,_,by simp[e7],by simp,rfl,o4,rfl,hr0⟩
 clear o4 hr0 o e0 e1 e2 e7 e8 r2 hrk
 rintro i e K hi ⟨e0,e1,e2,-⟩ hh
 rw[hJ] at hh
 obtain⟨e10,v7,v9,wo,vs,fr,e7,e9,hvi,o,hv9,hrows⟩:=hh
 simp only[] at e0 e1 e2
 have wi:=wS (n:=i+1) (by omega)
 have wi':IntKind.i64.wrap ((i:Int)+1+1)=((i+1+1:Nat):Int):=by rw[←wi];simp
 have hvl:=hrows.len
 rw[wayR_len] at hvl
 by_cases hlt:i<len
 ·obtain⟨uo,hfr,huv⟩:=hrows.get hvi (wayR_get (by omega))
  have huv':Vec uo v7 A.y.length:=by simpa using huv
  have hrk:K.row rb=.arr 25 [aB t,aB s,u,x]:=by rw[o.keeps rb hrb,hr]
  have r2:=aD hrk (rt:=none) (j:=2) (c:=u) rfl rfl
  have hlt':(i:Int)+1≤(len:Int):=by omega
  have hlt2:i+1≤len:=hlt
  simp[e0,e1,e10,hlt',hlt2,r2,hu.isSl,hu.lenM,c1,c8]
  intro n11 b11 f11
  simp[aC f11 b11,c8]
  have o6:=o.new f11 b11 (s:=.arr 2 (List.replicate A.y.length (.int .i64 0)))
  obtain⟨G,hG⟩:∃G:Nat→Env→BH→Prop,G=(fun q e K=>e 12=aB q∧Own aA H K ((some n11,.arr 2 ((cQ A.y.length (fV A w (i+1)) q).map encI))::([(wo,.arr 36 vs)]++fr))):=⟨_,rfl⟩
  refine aE A.y.length [(0,.ptr rb 0),(1,aB len),(2,aB 2),(7,v7),(9,v9),(10,aB (i+1)),(11,.sl n11 0 A.y.length)] G (i0:=0) rfl ?_ ?_ (Nat.zero_le _) ?_
  ·simp[e0,e1,e2,e7,e9,e10]
  ·rw[hG]
   refine⟨by simp,?_⟩
   rw[iJ,yP]
   exact o6
  clear o6 e0 e1 e2 e7 e9 e10 r2 hrk
  rintro q e K hq ⟨e0,e1,e2,e7,e9,e10,e11,-⟩ hh
  rw[hG] at hh
  obtain⟨e12,o⟩:=hh
  simp only[] at e0 e1 e2 e7 e9 e10 e11
  have wq:=wS (n:=q) (by omega)
  have hrk:K.row rb=.arr 25 [aB t,aB s,u,x]:=by rw[o.keeps rb hrb,hr]
  have r2:=aD hrk (rt:=none) (j:=2) (c:=u) rfl rfl
  by_cases hql:q<A.y.length
  ·simp[e0,e12,hql,r2,hu.isSl,hu.lenM]
   obtain⟨M,hM⟩:∃M:Nat→Env→BH→Prop,M=(fun c e K=>e 13=aB c∧Own aA H K ((some n11,.arr 2 (((cQ A.y.length (fV A w (i+1)) q).set q ((yA A (fB A w i) q c:Nat):Int)).map encI))::([(wo,.arr 36 vs)]++fr))):=⟨_,rfl⟩
   refine aE w [(0,.ptr rb 0),(1,aB len),(2,aB 2),(7,v7),(9,v9),(10,aB (i+1)),(11,.sl n11 0 A.y.length),(12,aB q)] M (i0:=0) rfl ?_ ?_ (Nat.zero_le _) ?_
   ·simp[e0,e1,e2,e7,e9,e10,e11,e12]
   ·rw[hM]
    refine⟨by simp,?_⟩
    have:((cQ A.y.length (fV A w (i+1)) q).set q ((yA A (fB A w i) q 0:Nat):Int))=cQ A.y.length (fV A w (i+1)) q:=bC3 _ hql
    rw[this]
    exact o
   clear o e0 e1 e2 e7 e9 e10 e11 e12 r2 hrk
   rintro c e K hc ⟨e0,e1,e2,e7,e9,e10,e11,e12,-⟩ hh
   rw[hM] at hh
   obtain⟨e13,o⟩:=hh
   simp only[] at e0 e1 e2 e7 e9 e10 e11 e12
   have wc:=wS (n:=c) (by omega)
   have hrk:K.row rb=.arr 25 [aB t,aB s,u,x]:=by rw[o.keeps rb hrb,hr]
   have r3:=aD hrk (rt:=none) (j:=3) (c:=x) rfl rfl
   have hx':=hx.keeps o.keeps
   have hq':q<A.nxt.length:=by rw[hok.len];exact hql
   obtain⟨row,h1,h2⟩:=hx'.at hq'
   have h2:=h2 none rfl
   have hl:=(hok.row _ (List.getElem_mem hq')).1
   have h1l:row.slen=w:=by rw[h1.lenM,hl]
   by_cases hcl:c<w
   ·obtain⟨row',q1,q2,q3,q4⟩:=aE9 hx' hok hql hcl
    have q1:=q1 none rfl
    rw[h2] at q1
    cases q1
    have q4:=q4 none rfl
    have htl:=hok.to hql hcl
    have hui:=o.rd (ty:=2) (2+i) (by rw[show 2+i=i+1+1 by omega];simpa using hfr) (by simpa using huv')
    have g1:=hui.at (i:=A.to q c) (by simpa using htl) (rt:=none) rfl
    simp at g1
    have hfl:=eW (fV A w (i+1)) hq
    have g2:K.rd none none (.ptr n11 q)=some (encI ((yA A (fB A w i) q c:Nat):Int)):=by
     refine aD (o.at 0 (b:=n11) rfl) (rt:=none) (j:=q) rfl ?_
     rw[List.getElem?_map,List.getElem?_set_self (by omega)]
     rfl
    have hp1:=wayP_le A (fB A w i) q c
    have hp2:=wayC_le A w i (A.to q c)
    have wa:IntKind.i64.wrap (((yA A (fB A w i) q c:Nat):Int)+fV A w i (A.to q c))=((yA A (fB A w i) q c+fB A w i (A.to q c):Nat):Int):=by unfold fV;rw[w64 (by omega) (by omega)];simp
    obtain⟨K5,g5,o5⟩:=o.put 0 (b:=n11) rfl (j:=q) (u:=aB (min (yA A (fB A w i) q c+fB A w i (A.to q c)) 2)) (by simp[hfl,hql]) rfl (rt:=none) rfl
    simp[e0,e2,e7,e11,e12,e13,hcl,r3,hx'.isSl,hx'.len,hok.len,hql,h2,h1.isSl,h1l,q4,htl,g2,hui.isSl,huv'.len,g1,wa]
    refine aN (s_Min (aA:=aA) (yA A (fB A w i) q c+fB A w i (A.to q c)) 2 K) ?_
    have g5':K.wr aA none 1 (.ptr n11 q) (.int .i64 ((min (yA A (fB A w i) q c+fB A w i (A.to q c)) 2:Nat):Int))=some K5:=g5
    simp[g5',e11,e12,e13,hql,wc,hcl]
    rw[hM]
    refine⟨by simp,?_⟩
    have:((cQ A.y.length (fV A w (i+1)) q).set q ((yA A (fB A w i) q (c+1):Nat):Int)).map encI=(((cQ A.y.length (fV A w (i+1)) q).set q ((yA A (fB A w i) q c:Nat):Int)).map encI).set q (aB (min (yA A (fB A w i) q c+fB A w i (A.to q c)) 2)):=by
     rw[List.map_set,List.map_set,List.set_set]
     rfl
    rw[this]
    simpa using o5
   ·have hce:c=w:=by omega
    subst hce
    simp[e0,e12,e13,r3,hx'.isSl,hx'.len,hok.len,hql,h2,h1.isSl,h1l,wq]
    rw[hG]
    refine⟨by simp,?_⟩
    rw[←iT _ hql]
    exact o
  ·have hqe:q=A.y.length:=by omega
   subst hqe
   rw[lZ] at o
   simp[e0,e9,e11,e12,r2,hu.isSl,hu.lenM]
   intro n2 b2 f2
   simp[aC f2 b2]
   intro n3 b3 f3
   obtain⟨v',K',b',p1,p2,p3⟩:=o.push 1 rfl hv9 (x:=.sl n11 0 A.y.length) (bytes:=24) rfl (by omega) (by omega) f2 b2 f3 b3
   simp[p1,e10,e11,wi',hlt]
   rw[hJ]
   refine⟨by simp,.sl n11 0 A.y.length,v',some b',vs++[.sl n11 0 A.y.length],fr++[(some n11,.arr 2 (((List.range A.y.length).map (fV A w (i+1))).map encI))],by simp[e11],by simp,?_,?_,by simpa using p3,?_⟩
   ·rw[List.getElem?_append_right (by omega)]
    simp[hvl.1]
   ·have p2':Own aA H K' ((some n11,.arr 2 (((List.range A.y.length).map (fV A w (i+1))).map encI))::([(some b',.arr 36 (vs++[.sl n11 0 A.y.length]))]++fr)):=p2
    exact p2'.last
   ·rw[wayR_succ A w (i+1)]
    exact RowsOf.snoc (by simp[Vec]) hrows
 ·have hie:i=len:=by omega
  subst hie
  have hgt:¬(i:Int)+1≤(i:Int):=by omega
  simp[e1,e7,e9,e10,hgt]
  rw[hR]
  exact⟨o.keeps,wo,vs,fr,o,hv9,hrows⟩
theorem s_Finite(t s w rb:Nat)(A:Aut)(H:BH)(h:RdP H rb t s A)(hok:A.Ok w)(hs:s<A.y.length)(hw:w≤1000)(hn:A.y.length≤10000)(fin:Bool)(hf:fin=true↔rJ A.y A.nxt w s):FnDoes (gam aA) 140 [.ptr rb 0] H fun v _=>v=.bool fin:=by
 rw[bA7 hok hs] at hf
 refine FnDoes.hide fun R hR=>?_
 refine FnDoes.of (fn:=ir140) rfl ?_
 obtain⟨u,x,hr,hu,hx⟩:=id h
 have r2:=aD hr (rt:=none) (j:=2) (c:=u) rfl rfl
 have wm:IntKind.i64.wrap (2*(A.y.length:Int))=((2*A.y.length:Nat):Int):=by rw[w64 (by omega) (by omega)];simp
 simp[ir140,r2,hu.isSl,hu.lenM,wm]
 refine(s_Ways (aA:=aA) t s w rb (2*A.y.length) A H h hok hw hn (by omega)).step fun v K k hv=>?_
 obtain⟨wo,vs,fr,o,hv',hrows⟩:=hv
 have hrr:RdR K 36 2 v encI ((List.range (2*A.y.length+1)).map fun i=>(List.range A.y.length).map (fV A w i)):=by
  refine RowsOf.rdR (F:=[(wo,.arr 36 vs)]) (bo:=wo) o ?_ (o.rd 0 rfl hv')
  rw[List.map_map]
  exact hrows
 have l1:v.slen=2*A.y.length+1:=by rw[hrr.len];simp
 have hrk:K.row rb=.arr 25 [aB t,aB s,u,x]:=by rw[k rb (by rw[hr];simp),hr]
 have r1:=aD hrk (rt:=none) (j:=1) (c:=aB s) rfl rfl
 simp
 obtain⟨I,hI⟩:∃I:Nat→Env→BH→Prop,I=(fun i e K'=>e 5=aB (A.y.length+i)∧(∀q,A.y.length≤q→q<A.y.length+i→¬TkL A w s q)∧K'=K):=⟨_,rfl⟩
 refine aE (A.y.length+1) [(0,.ptr rb 0),(3,aB A.y.length),(4,v)] I (i0:=0) rfl ?_ ?_ (Nat.zero_le _) ?_
 ·simp
 ·rw[hI];exact⟨by simp,fun q h1 h2=>by omega,rfl⟩
 rintro i e K' hi ⟨e0,e3,e4,-⟩ hh
 rw[hI] at hh
 obtain⟨e5,hno,rfl⟩:=hh
 simp only[] at e0 e3 e4
 obtain⟨j,hj⟩:∃j,j=A.y.length+i:=⟨_,rfl⟩
 rw[←hj] at e5 hno
 have wj:=wS (n:=j) (by omega)
 by_cases hlt:i<A.y.length+1
 ·have hle:(j:Int)≤((2*A.y.length:Nat):Int):=by omega
  have hle':(j:Int)≤2*(A.y.length:Int):=by omega
  have hjl:j<2*A.y.length+1:=by omega
  have hjl':(j:Int)<2*(A.y.length:Int)+1:=by omega
  obtain⟨row,q1,q2⟩:=hrr.at (i:=j) (by simp;omega)
  have q2:=q2 none rfl
  have q1':Rd K' 2 row (((List.range A.y.length).map (fV A w j)).map encI):=by simpa using q1
  have g1:=q1'.at (i:=s) (by simpa using hs) (rt:=none) rfl
  simp at g1
  have l2:row.slen=A.y.length:=by rw[q1'.lenM];simp
  by_cases hp:0<fB A w j s
  ·have hp':0<fV A w j s:=by unfold fV;omega
   simp[e0,e3,e4,e5,wm,hle,hle',hrr.isSl,l1,hjl,hjl',q2,r1,q1'.isSl,l2,hs,g1,hp']
   rw[hR]
   refine⟨k,?_⟩
   have:¬fin=true:=fun hft=>hf.1 hft j (by omega) (by omega) ((aA8 A w j s).1 hp)
   simpa using this
  ·have hp':¬0<fV A w j s:=by unfold fV;omega
   simp[e0,e3,e4,e5,wm,hle,hle',hrr.isSl,l1,hjl,hjl',q2,r1,q1'.isSl,l2,hs,g1,hp',wj,hlt]
   rw[hI]
   refine⟨by simp[hj];omega,fun q h1 h2=>?_,rfl⟩
   by_cases hqj:q=j
   ·subst hqj
    exact fun ht=>hp ((aA8 A w q s).2 ht)
   ·exact hno q h1 (by omega)
 ·have hle':¬(j:Int)≤2*(A.y.length:Int):=by omega
  simp[e0,e3,e4,e5,wm,hle']
  rw[hR]
  refine⟨k,?_⟩
  have:fin=true:=hf.2 fun q h1 h2=>hno q h1 (by omega)
  simpa using this
theorem end_great(t s w rb d:Nat)(A:Aut)(H:BH)(h:RdP H rb t s A)(hok:A.Ok w)(hw:2≤w)(hs:s<A.y.length)(hn:A.y.length≤1000000)(hd:d≤A.y.length)(hc:countB A s d=true)(hno:∀k,d<k→k≤A.y.length→countB A s k=false)(Q:Post):
  wpC aA (Runs (gam aA)) (ir141.body.hd 3) (Post.then (En1 H rb d true) Q) (eX [.ptr rb 0,.bool true]) H:=by
 obtain⟨Z,hZ⟩:∃Z:Env→BH→Prop,Z=En1 H rb d true:=⟨_,rfl⟩
 rw[←hZ]
 obtain⟨u,x,hr,hu,hx⟩:=id h
 have r2:=aD hr (rt:=none) (j:=2) (c:=u) rfl rfl
 simp[ir141,BCode.hd,r2,hu.isSl,hu.lenM]
 obtain⟨I,hI⟩:∃I:Nat→Env→BH→Prop,I=(fun i e K=>e 6=aB (A.y.length-i)∧H.Keeps K):=⟨_,rfl⟩
 refine aE (A.y.length-d) [(0,.ptr rb 0),(1,.bool true)] I (i0:=0) rfl ?_ ?_ (Nat.zero_le _) ?_
 ·simp
 ·rw[hI];exact⟨by simp,BH.Keeps.refl H⟩
 rintro i e K hi ⟨e0,e1,-⟩ hh
 rw[hI] at hh
 obtain⟨e6,k⟩:=hh
 simp only[] at e0 e1
 obtain⟨j,hj⟩:∃j,j=A.y.length-i:=⟨_,rfl⟩
 rw[←hj] at e6
 simp[e0,e6]
 refine(s_Count (aA:=aA) t s w rb j A K (h.keeps k) hok hw hs hn (by omega)).step fun v K2 k2 hv=>?_
 subst hv
 by_cases hlt:i<A.y.length-d
 ·have hz:=hno j (by omega) (by omega)
  have hb:(((if countB A s j=true then 1 else 0:Nat):Int)==0)=true:=by rw[hz];rfl
  have hj0:((j:Int)==0)=false:=by simp;omega
  have hj0':¬j=0:=by omega
  have wp:IntKind.i64.wrap ((j:Int)-1)=((j-1:Nat):Int):=by rw[w64 (by omega) (by omega)];omega
  simp[hz,e6,hj0,hj0',wp,hlt]
  rw[hI]
  exact⟨by simp;omega,k.trans k2⟩
 ·have hje:j=d:=by omega
  subst hje
  simp[hc]
  rw[hZ]
  exact⟨by simp[e0,e1,e6],k.trans k2⟩
theorem s_EndG(t s w rb d:Nat)(A:Aut)(H:BH)(h:RdP H rb t s A)(hok:A.Ok w)(hw:2≤w)(hs:s<A.y.length)(hn:A.y.length≤1000000)(hd:d≤A.y.length)(hc:countB A s d=true)(hno:∀k,d<k→k≤A.y.length→countB A s k=false):FnDoes (gam aA) 141 [.ptr rb 0,.bool true] H fun v _=>v=.tup (if 40<d then [.str ⟨#[]⟩,aB 3] else [eZ (iC A s d 1),aB 0]):=by
 refine FnDoes.of (fn:=ir141) rfl ?_
 refine dO 3 (En1 H rb d true) (end_great t s w rb d A H h hok hw hs hn hd hc hno _) fun e K hh=>?_
 exact end_word t s w rb d true A H h hok hw hs hn (by omega) 1 rfl e K hh
theorem s_Great(s rb:Nat)(A:Aut)(H:BH)(h:RdP H rb 1 s A)(hok:A.Ok (wd 1))(hs:s<A.y.length)(hn:A.y.length≤150):FnDoes (gam aA) 90 [.ptr rb 0,.bool true] H fun v _=>v=.tup [aB (bT (TA 1 (A.lang s))).1,aB (bT (TA 1 (A.lang s))).2]:=by
 refine FnDoes.hide fun R hR=>?_
 refine FnDoes.of (fn:=ir90) rfl ?_
 simp[ir90]
 refine(dD (aA:=aA) 1 s rb (by omega) A H h hok hs (by omega)).step fun v K1 k1 hv=>?_
 obtain⟨hT1,hT2⟩:=aY (t:=1) (by omega) hok hs
 have hTo:(TA 1 (A.lang s)).Ok 2:=hT1.ok
 obtain⟨T,hTe⟩:∃T,T=TA 1 (A.lang s):=⟨_,rfl⟩
 rw[←hTe] at hv hTo hT2 hR
 have hTp:=hTo.pos
 obtain⟨u,x,hve,hu,hx⟩:=hv.rd
 subst hve
 have u1:=hu.one
 have x1:=aF hx.isSl
 simp[u1,x1]
 intro n5 b5 f5
 obtain⟨K5,g5,o5⟩:=(Own.start (aA:=aA) (H:=K1) |>.new f5 b5 (s:=.arr 25 [.int .i64 0,.int .i64 0,.nils,.nils])).putAll 0 (b:=n5) (n:=4) (ds:=[aB 1,aB 0,u,x]) rfl rfl rfl (by simp[u1,x1]) (rt:=none) rfl
 have hP:RdP K5 n5 1 0 T:=hv.rd.at o5.keeps (o5.at 0 (b:=n5) rfl)
 simp[aC f5 b5,g5]
 refine(s_first (aA:=aA) 1 0 n5 (by omega) T K5 hP hTo hTp (by omega)).step fun v K6 k6 hv6=>?_
 obtain⟨c,f,rfl,hf⟩:=hv6
 have kk:H.Keeps K6:=(k1.trans o5.keeps).trans k6
 have hf':f=true↔∃d,TkL T 2 0 d:=by
  rw[hf]
  constructor
  ·rintro⟨cs,h1,h2⟩;exact⟨cs.length,cs,h1,rfl,h2⟩
  ·rintro⟨d,cs,h1,_,h2⟩;exact⟨cs,h1,h2⟩
 cases f with
 | false =>
  simp
  rw[hR]
  have hneg:eY T 2 0<0:=(aQ1 hTo).2 fun hh=>by
   have:=hf'.2 hh
   cases this
  refine⟨kk,?_⟩
  simp[bT,hneg]
 | true =>
  have hpos:¬eY T 2 0<0:=fun hneg=>(aQ1 hTo).1 hneg (hf'.1 rfl)
  simp
  refine(s_Finite (aA:=aA) 1 0 2 n5 T K6 (hP.keeps k6) hTo hTp (by omega) (by omega) (finA T) aV9).step fun v K7 k7 hv=>?_
  subst hv
  cases hfin:finA T with
  | false =>
   simp
   rw[hR]
   exact⟨kk.trans k7,by simp[bT,hpos,hfin]⟩
  | true =>
   obtain⟨ht1,ht2,ht3⟩:=yH hTo hpos
   obtain⟨d,hd⟩:∃d,d=topA T:=⟨_,rfl⟩
   rw[←hd] at ht1 ht2 ht3
   simp
   refine(s_EndG (aA:=aA) 1 0 2 n5 d T K7 ((hP.keeps k6).keeps k7) hTo (by omega) hTp (by omega) ht1 ht2 ht3).step fun v K8 k8 hv=>?_
   subst hv
   have hla:bT T=bA6 (iC T 0 d 1):=by simp[bT,hpos,hfin,hd]
   by_cases h40:40<d
   ·simp[h40]
    rw[hR]
    refine⟨(kk.trans k7).trans k8,?_⟩
    rw[hla]
    simp[bA6,qT,h40]
   ·simp[h40]
    refine aN (s_number (iC T 0 d 1) K8 (extW_w (by omega)) (by rw[qT];omega)) ?_
    by_cases h9:eV (iC T 0 d 1)≤1000000000
    ·have h9':¬(1000000000:Int)<(eV (iC T 0 d 1):Int):=by omega
     simp[h9',show ¬1000000000<eV (iC T 0 d 1) by omega]
     rw[hR]
     refine⟨(kk.trans k7).trans k8,?_⟩
     rw[hla]
     simp[bA6,qT,h40,h9]
    ·have h9':(1000000000:Int)<(eV (iC T 0 d 1):Int):=by omega
     simp[h9',show 1000000000<eV (iC T 0 d 1) by omega]
     rw[hR]
     refine⟨(kk.trans k7).trans k8,?_⟩
     rw[hla]
     simp[bA6,qT,h40,h9]
noncomputable def wC(l:Nat)(L:List Nat→Bool)(p:Nat):Option (Nat×Nat×Nat):=match dP l (p:Int) L with
 | (none,c)=>some (0,0,c)
 | (some A,_)=>if (bT (TA 1 (A.lang 0))).2=0 then some ((bT (TA 1 (A.lang 0))).1+1,p,0) else if (bT (TA 1 (A.lang 0))).2=6 then some (0,p,0) else if (bT (TA 1 (A.lang 0))).2=4 then none else some (0,0,(bT (TA 1 (A.lang 0))).2)
noncomputable def aZ3(l:Nat)(L:List Nat→Bool)(p:Nat):Nat→Nat×Nat×Nat
 | 0=>(0,0,6)
 | n+1=>match wC l L p with
  | some r=>r
  | none=>aZ3 l L (p+1) n
noncomputable def aM3(l:Nat)(r:aA5)(most:Int):Nat×Nat×Nat:=if nT [r]=0 then(if inB most 1 20=true then aZ3 l (langS r) 1 most.toNat else(0,0,2)) else(0,0,nT [r])
theorem aH1{l:Nat}{L:List Nat→Bool}{p n:Nat}(h:wC l L p=none):aZ3 l L p (n+1)=aZ3 l L (p+1) n:=by simp[aZ3,h]
theorem fY{l:Nat}{L:List Nat→Bool}{p n:Nat}{r:Nat×Nat×Nat}(h:wC l L p=some r):aZ3 l L p (n+1)=r:=by simp[aZ3,h]
theorem numA_le(w:List Nat):(bA6 w).1≤1000000000:=by
 unfold bA6
 split<;>(try split)<;>simp<;>omega
theorem aK0(T:Aut):(bT T).1≤1000000000:=by
 unfold bT
 split
 ·simp
 split
 ·simp
 ·exact numA_le _
def ansP(g:Nat×Nat)(p:Nat):Option (Nat×Nat×Nat):=if g.2=0 then some (g.1+1,p,0) else if g.2=6 then some (0,p,0) else if g.2=4 then none else some (0,0,g.2)
theorem yI{l:Nat}{L:List Nat→Bool}{p:Nat}{A:Aut}{c:Nat}(h:dP l (p:Int) L=(some A,c)):wC l L p=ansP (bT (TA 1 (A.lang 0))) p:=by
 unfold wC
 rw[h]
 rfl
theorem bC0(l:Nat)(hl:l=1000)(r:aA5)(most:Int)(m:BV)(H:BH)(h:RdRaw H r.1 r.2.1 r.2.2.1 r.2.2.2 m)(hn:r.2.2.1.length≤4611686018427387904):FnDoes (gam aA) 39 [m,encI most] H fun v _=>v=.tup [aB (aM3 l r most).1,aB (aM3 l r most).2.1,aB (aM3 l r most).2.2]:=by
 refine FnDoes.hide fun R hR=>?_
 refine FnDoes.of (fn:=ir39) rfl ?_
 have g:=h
 obtain⟨u,x,rfl,hu,hx⟩:=h
 have u1:=hu.one
 have x1:=aF hx.isSl
 simp[ir39,u1,x1]
 intro n2 b2 f2
 have o1:=Own.start (aA:=aA) (H:=H) |>.new f2 b2 (s:=.arr 25 [.int .i64 r.1,.int .i64 r.2.1,u,x])
 have r2:=aI (o1.at 0 (b:=n2) rfl) (n:=4) (rt:=none) rfl rfl
 simp[aC f2 b2,r2,u1,x1]
 intro n8 b8 f8
 have o2:=o1.new f8 b8 (s:=.arr 25 [.int .i64 r.1,.int .i64 r.2.1,u,x])
 simp[aC f8 b8]
 refine(aP7 (aA:=aA) [r] (.sl n8 0 1) _ (RdRs.one (g.keeps o2.keeps) (o2.at 0 rfl)) (by simp) (by simpa using hn)).step fun v K3 k3 hv=>?_
 subst hv
 have o3:=(o2.call k3).tail
 by_cases h0:nT [r]=0
 case neg =>
  simp[sets_ne h0]
  rw[hR]
  have hres:aM3 l r most=(0,0,nT [r]):=if_neg h0
  rw[hres]
  exact⟨o3.keeps,rfl⟩
 simp[h0]
 refine aN (lG most 1 20 K3) ?_
 by_cases hb:inB most 1 20=true
 case neg =>
  have hb':inB most 1 20=false:=by simpa using hb
  rw[hb']
  simp
  rw[hR]
  have hres:aM3 l r most=(0,0,2):=by unfold aM3;rw[if_pos h0,if_neg hb]
  rw[hres]
  exact⟨o3.keeps,rfl⟩
 rw[hb]
 obtain⟨s,A,e1,e2,e3,e4,hok,hs,hlen,hA,-⟩:=ns_elim h0
 have hL:langS r=A.lang s:=by unfold langS;rw[hA,e2];rfl
 have hmo:1≤most∧most≤20:=by simpa[inB] using hb
 obtain⟨M,hM⟩:∃M,M=most.toNat:=⟨_,rfl⟩
 have hres:aM3 l r most=aZ3 l (A.lang s) 1 M:=by unfold aM3;rw[if_pos h0,if_pos hb,hL,hM]
 have hmM:most=(M:Int):=by omega
 have hM20:M≤20:=by omega
 rw[hres] at hR
 clear hres
 have hrel:RdRel K3 1 s A (.agg [.int .i64 r.1,.int .i64 r.2.1,u,x]):=by
  have:=g.keeps o3.keeps
  rw[e1,e2,e3,e4] at this
  rw[e1,e2]
  exact this.rel
 simp
 obtain⟨I,hI⟩:∃I:Nat→Env→BH→Prop,I=(fun i e K=>e 8=aB (i+1)∧aZ3 l (A.lang s) 1 M=aZ3 l (A.lang s) (i+1) (M-i)∧Own aA H K [(some n2,.arr 25 [.int .i64 r.1,.int .i64 r.2.1,u,x])]∧K3.Keeps K):=⟨_,rfl⟩
 refine aE M [(1,encI most),(2,.ptr n2 0)] I (i0:=0) rfl ?_ ?_ (Nat.zero_le _) ?_
 ·simp
 ·rw[hI]
  exact⟨by simp,rfl,o3,BH.Keeps.refl _⟩
 rintro i e K hi ⟨e1',e2',-⟩ hh
 rw[hI] at hh
 obtain⟨e8,hrun,o,k⟩:=hh
 simp only[] at e1' e2'
 obtain⟨p,hp⟩:∃p,p=i+1:=⟨_,rfl⟩
 rw[←hp] at e8 hrun
 have wp:=wS (n:=p) (by omega)
 by_cases hlt:i<M
 case neg =>
  have hle:¬(p:Int)≤most:=by omega
  simp[e1',e8,hle]
  rw[hR,hrun,show M-i=0 by omega]
  exact⟨o.keeps,rfl⟩
 have hle:(p:Int)≤most:=by omega
 rw[show M-i=(M-(i+1))+1 by omega] at hrun
 have r2:=aI (o.at 0 (b:=n2) rfl) (n:=4) (rt:=none) rfl rfl
 simp[e1',e2',e8,hle,r2]
 refine(i_unlike (aA:=aA) l hl s (p:Int) (by omega) A _ K (hrel.keeps k) hok hs hlen).step fun r1 L1 l1 hr1=>?_
 have ga1:GoodC 1 (dP l (p:Int) (A.lang s)):=vX (by omega) hok hs
 have hst:∀B c,dP l (p:Int) (A.lang s)=(some B,c)→wC l (A.lang s) p=ansP (bT (TA 1 (B.lang 0))) p:=fun B c h=>yI h
 have hsn:∀c,dP l (p:Int) (A.lang s)=(none,c)→wC l (A.lang s) p=some (0,0,c):=fun c h=>by unfold wC;rw[h]
 obtain⟨G1,hG1⟩:∃G,G=dP l (p:Int) (A.lang s):=⟨_,rfl⟩
 rw[←hG1] at hr1 ga1 hst hsn
 refine aH4 (d:=26) (a:=30) (b:=31) (x:=9) (y:=10) (p:=32) (q:=33) (t:=1) o l1 hr1 ga1 [(1,encI most),(2,.ptr n2 0),(8,aB p)] ?_ ?_ (by simp) (by decide) (fun _ _ h=>h) (fun e1 m1 M1 S ms1 eG hh oN1 kk1 hb1 gg1=>?_) (fun e K2 c eG hh kk=>?_)
 ·simp[Has,e1',e2',e8]
 ·simp
 rotate_left
 ·obtain⟨e10,-⟩:=hh
  simp[e10]
  rw[hR,hrun,fY (hsn c eG)]
  exact⟨kk,rfl⟩
 obtain⟨e19,e110,e11,e12,e18,-⟩:=hh
 simp only[] at e19 e110 e11 e12 e18
 rw[eG] at ga1
 have hst:=hst S 0 eG
 have o4:=(oN1.tail:Own aA H M1 [(some n2,.arr 25 [.int .i64 r.1,.int .i64 r.2.1,u,x])])
 simp[e19,gg1]
 refine(bB6 (aA:=aA) 0 S _ M1 hb1.rd ga1.2.1 ga1.2.1.pos ga1.2.2).step fun v K5 k5 hv=>?_
 subst hv
 have o5:=o4.call k5
 have kk5:=((k.trans l1).trans kk1).trans k5
 obtain⟨gr,hgr⟩:∃gr,gr=bT (TA 1 (S.lang 0)):=⟨_,rfl⟩
 have hg1:gr.1≤1000000000:=by rw[hgr];exact aK0 _
 rw[←hgr] at hst ⊢
 obtain⟨g1,g2⟩:=gr
 have wg:=wS (n:=g1) (by have:g1≤1000000000:=hg1;omega)
 unfold ansP at hst
 by_cases c0:g2=0
 ·subst c0
  simp[e18,wg]
  rw[hR,hrun,fY (hst.trans (if_pos rfl))]
  exact⟨o5.keeps,by simp⟩
 have c0':¬(g2:Int)=0:=by omega
 rw[if_neg c0] at hst
 by_cases c6:g2=6
 ·subst c6
  simp[e18]
  rw[hR,hrun,fY (hst.trans (if_pos rfl))]
  exact⟨o5.keeps,rfl⟩
 have c6':¬(g2:Int)=6:=by omega
 rw[if_neg c6] at hst
 by_cases c4:g2=4
 ·subst c4
  simp[e18,wp,hlt]
  rw[hI]
  exact⟨by simp[hp],by rw[hrun,aH1 (hst.trans (if_pos rfl)),hp],o5,kk5⟩
 have c4':¬(g2:Int)=4:=by omega
 simp[c0,c0',c6,c6',c4,c4']
 rw[hR,hrun,fY (hst.trans (if_neg c4))]
 exact⟨o5.keeps,rfl⟩
theorem aZ2(l:Nat)(hl:l=1000)(r:aA5)(most:Int)(m:BV)(H:BH)(h:RdRaw H r.1 r.2.1 r.2.2.1 r.2.2.2 m)(hn:r.2.2.1.length≤4611686018427387904):FnDoes (gam aA) 38 [m,encI most] H fun v _=>v=.tup [aB (aM3 l r most).1,aB (aM3 l r most).2.1,aB (aM3 l r most).2.2]:=by
 refine FnDoes.hide fun R hR=>?_
 refine FnDoes.of (fn:=ir38) rfl ?_
 have g:=h
 obtain⟨u,x,rfl,hu,hx⟩:=h
 have u1:=hu.one
 have x1:=aF hx.isSl
 simp[ir38,u1,x1]
 intro n2 b2 f2
 have o1:=Own.start (aA:=aA) (H:=H) |>.new f2 b2 (s:=.arr 25 [.int .i64 r.1,.int .i64 r.2.1,u,x])
 obtain⟨H1,hH1⟩:∃H1,H1=H.set n2 (.arr 25 [.int .i64 r.1,.int .i64 r.2.1,u,x]):=⟨_,rfl⟩
 simp[aC f2 b2]
 rw[←hH1] at o1 ⊢
 have pr:RdRawP H1 n2 r.1 r.2.1 r.2.2.1 r.2.2.2:=⟨u,x,o1.at 0 (b:=n2) rfl,hu.keeps o1.keeps,hx.keeps o1.keeps⟩
 refine(s_set (aA:=aA) r n2 H1 pr hn).step fun v K3 k3 hv=>?_
 subst hv
 have o3:=o1.call k3
 by_cases h0:nT [r]=0
 case neg =>
  simp[sets_ne h0]
  rw[hR]
  have hres:aM3 l r most=(0,0,nT [r]):=if_neg h0
  rw[hres]
  exact⟨o3.keeps,rfl⟩
 simp[h0]
 refine aN (s_in most 1 20 K3) ?_
 by_cases hb:inB most 1 20=true
 case neg =>
  have hb':inB most 1 20=false:=by simpa using hb
  rw[hb']
  simp
  rw[hR]
  have hres:aM3 l r most=(0,0,2):=by unfold aM3;rw[if_pos h0,if_neg hb]
  rw[hres]
  exact⟨o3.keeps,rfl⟩
 rw[hb]
 obtain⟨s,A,e1,e2,e3,e4,hok,hs,hlen,hA,-⟩:=ns_elim h0
 have hL:langS r=A.lang s:=by unfold langS;rw[hA,e2];rfl
 have hmo:1≤most∧most≤20:=by simpa[inB] using hb
 obtain⟨M,hM⟩:∃M,M=most.toNat:=⟨_,rfl⟩
 have hres:aM3 l r most=aZ3 l (A.lang s) 1 M:=by unfold aM3;rw[if_pos h0,if_pos hb,hL,hM]
 have hmM:most=(M:Int):=by omega
 have hM20:M≤20:=by omega
 rw[hres] at hR
 clear hres
 have hrel:RdP K3 n2 1 s A:=by
  have:=pr.keeps k3
  rw[e1,e2,e3,e4] at this
  exact this.rel
 simp
 obtain⟨I,hI⟩:∃I:Nat→Env→BH→Prop,I=(fun i e K=>e 8=aB (i+1)∧aZ3 l (A.lang s) 1 M=aZ3 l (A.lang s) (i+1) (M-i)∧Own aA H K [(some n2,.arr 25 [.int .i64 r.1,.int .i64 r.2.1,u,x])]∧K3.Keeps K):=⟨_,rfl⟩
 refine aE M [(1,encI most),(2,.ptr n2 0)] I (i0:=0) rfl ?_ ?_ (Nat.zero_le _) ?_
 ·simp
 ·rw[hI]
  exact⟨by simp,rfl,o3,BH.Keeps.refl _⟩
 rintro i e K hi ⟨e1',e2',-⟩ hh
 rw[hI] at hh
 obtain⟨e8,hrun,o,k⟩:=hh
 simp only[] at e1' e2'
 obtain⟨p,hp⟩:∃p,p=i+1:=⟨_,rfl⟩
 rw[←hp] at e8 hrun
 have wp:=wS (n:=p) (by omega)
 by_cases hlt:i<M
 case neg =>
  have hle:¬(p:Int)≤most:=by omega
  simp[e1',e8,hle]
  rw[hR,hrun,show M-i=0 by omega]
  exact⟨o.keeps,rfl⟩
 have hle:(p:Int)≤most:=by omega
 rw[show M-i=(M-(i+1))+1 by omega] at hrun
 simp[e1',e2',e8,hle]
 refine(s_Wrong (aA:=aA) l hl s n2 (p:Int) (by omega) A K (hrel.keeps k) hok hs hlen).step fun r1 L1 l1 hr1=>?_
 have ga1:GoodC 1 (dP l (p:Int) (A.lang s)):=vX (by omega) hok hs
 have hst:∀B c,dP l (p:Int) (A.lang s)=(some B,c)→wC l (A.lang s) p=ansP (bT (TA 1 (B.lang 0))) p:=fun B c h=>yI h
 have hsn:∀c,dP l (p:Int) (A.lang s)=(none,c)→wC l (A.lang s) p=some (0,0,c):=fun c h=>by unfold wC;rw[h]
 obtain⟨G1,hG1⟩:∃G,G=dP l (p:Int) (A.lang s):=⟨_,rfl⟩
 rw[←hG1] at hr1 ga1 hst hsn
 refine aH4 (d:=25) (a:=28) (b:=29) (x:=9) (y:=10) (p:=30) (q:=31) (t:=1) o l1 hr1 ga1 [(1,encI most),(2,.ptr n2 0),(8,aB p)] ?_ ?_ (by simp) (by decide) (fun _ _ h=>h) (fun e1 m1 M1 S ms1 eG hh oN1 kk1 hb1 gg1=>?_) (fun e K2 c eG hh kk=>?_)
 ·simp[Has,e1',e2',e8]
 ·simp
 rotate_left
 ·obtain⟨e10,-⟩:=hh
  simp[e10]
  rw[hR,hrun,fY (hsn c eG)]
  exact⟨kk,rfl⟩
 obtain⟨e19,e110,e11,e12,e18,-⟩:=hh
 simp only[] at e19 e110 e11 e12 e18
 rw[eG] at ga1
 have hst:=hst S 0 eG
 have o4:=(oN1.tail:Own aA H M1 [(some n2,.arr 25 [.int .i64 r.1,.int .i64 r.2.1,u,x])])
 have hpS:RdP M1 m1 1 0 S:=by
  obtain⟨uu,ww,hme,h1,h2⟩:=hb1.rd
  have hrw:=oN1.at 0 (b:=m1) rfl
  simp only[BV.agg.injEq] at hme
  subst hme
  exact⟨uu,ww,hrw,h1,h2⟩
 simp[e19]
 refine(s_Great (aA:=aA) 0 m1 S M1 hpS ga1.2.1 ga1.2.1.pos ga1.2.2).step fun v K5 k5 hv=>?_
 subst hv
 have o5:=o4.call k5
 have kk5:=((k.trans l1).trans kk1).trans k5
 obtain⟨gr,hgr⟩:∃gr,gr=bT (TA 1 (S.lang 0)):=⟨_,rfl⟩
 have hg1:gr.1≤1000000000:=by rw[hgr];exact aK0 _
 rw[←hgr] at hst ⊢
 obtain⟨g1,g2⟩:=gr
 have wg:=wS (n:=g1) (by have:g1≤1000000000:=hg1;omega)
 unfold ansP at hst
 by_cases c0:g2=0
 ·subst c0
  simp[e18,wg]
  rw[hR,hrun,fY (hst.trans (if_pos rfl))]
  exact⟨o5.keeps,by simp⟩
 have c0':¬(g2:Int)=0:=by omega
 rw[if_neg c0] at hst
 by_cases c6:g2=6
 ·subst c6
  simp[e18]
  rw[hR,hrun,fY (hst.trans (if_pos rfl))]
  exact⟨o5.keeps,rfl⟩
 have c6':¬(g2:Int)=6:=by omega
 rw[if_neg c6] at hst
 by_cases c4:g2=4
 ·subst c4
  simp[e18,wp,hlt]
  rw[hI]
  exact⟨by simp[hp],by rw[hrun,aH1 (hst.trans (if_pos rfl)),hp],o5,kk5⟩
 have c4':¬(g2:Int)=4:=by omega
 simp[c0,c0',c6,c6',c4,c4']
 rw[hR,hrun,fY (hst.trans (if_neg c4))]
 exact⟨o5.keeps,rfl⟩
theorem aJ1(T S:Int)(acc:List Bool)(rows:List (List Int))(n:Int)(m:BV)(H:BH)(h:RdL H T S acc rows m)(hn1:acc.length≤9223372036854775807)(hn:rows.length≤9223372036854775807)(hr:∀xs∈rows,xs.length≤9223372036854775807):FnDoes (gam aA) 9 [m,.int .i64 n] H fun v _=>v=.bool true:=by
 refine FnDoes.of (fn:=ir9) rfl ?_
 obtain⟨l,hl⟩:∃l:Nat,l=1000:=⟨_,rfl⟩
 have g:=h
 obtain⟨u,x,tb,tw,rfl,hu,hx⟩:=h
 have u1:=hu.one
 have x1:=aF hx.isSl
 simp[ir9,u1,x1]
 intro n1 b1 f1
 have o1:=Own.start (aA:=aA) (H:=H) |>.new f1 b1 (s:=.arr 49 [.int .i64 T,.int .i64 S,u,x])
 have r1:=aI (o1.at 0 (b:=n1) rfl) (n:=4) (rt:=none) rfl rfl
 simp[aC f1 b1,r1]
 refine(z_rel (aA:=aA) T S acc rows _ _ (g.keeps o1.keeps) hn1 hn hr).step fun v K1 k1 hv=>?_
 obtain⟨z,rfl,hz⟩:=hv
 have o2:=o1.call k1
 by_cases hz0:z<0
 ·simp[hz0]
  exact o2.keeps
 obtain⟨m1,m2,m3⟩:=hz (by omega)
 have r1:=aI (o2.at 0 (b:=n1) rfl) (n:=4) (rt:=none) rfl rfl
 simp[hz0,r1]
 refine(t_rel (aA:=aA) T S acc rows _ _ (g.keeps o2.keeps) m1 m2 m3).step fun v K2 k2 hv=>?_
 have o3:=o2.call k2
 simp
 refine(aZ2 (aA:=aA) l hl (T,S,acc,rows) n v K2 hv (by show acc.length≤_;omega)).step fun v' K3 k3 hv'=>?_
 subst hv'
 have o4:=o3.call k3
 have r1:=aI (o4.at 0 (b:=n1) rfl) (n:=4) (rt:=none) rfl rfl
 simp[r1]
 refine(t_rel (aA:=aA) T S acc rows _ _ (g.keeps o4.keeps) m1 m2 m3).step fun w K4 k4 hw=>?_
 have o5:=o4.call k4
 obtain⟨uu,ww,rfl,hu2,hx2⟩:=id hw
 have u2:=hu2.one
 have x2:=aF hx2.isSl
 simp[u2,x2]
 intro n6 b6 f6
 obtain⟨K5,g5,o6⟩:=(o5.new f6 b6 (s:=.arr 25 [.int .i64 0,.int .i64 0,.nils,.nils])).putAll 0 (b:=n6) (n:=4) (ds:=[encI T,encI S,uu,ww]) rfl rfl rfl (by simp[u2,x2]) (rt:=none) rfl
 obtain⟨K5',g5',o6'⟩:=(Own.start (aA:=aA) (H:=K4) |>.new f6 b6 (s:=.arr 25 [.int .i64 0,.int .i64 0,.nils,.nils])).putAll 0 (b:=n6) (n:=4) (ds:=[encI T,encI S,uu,ww]) rfl rfl rfl (by simp[u2,x2]) (rt:=none) rfl
 rw[g5] at g5'
 cases g5'
 have k5:=o6'.keeps
 have r6:=aI (o6.at 0 (b:=n6) rfl) (n:=4) (rt:=none) rfl rfl
 simp[aC f6 b6,g5,r6]
 refine(bC0 (aA:=aA) l hl (T,S,acc,rows) n _ K5 (hw.keeps k5) (by show acc.length≤_;omega)).step fun v' K6 k6 hv'=>?_
 subst hv'
 have o7:=o6.call k6
 have r6:=aI (o7.at 0 (b:=n6) rfl) (n:=4) (rt:=some 25) rfl rfl
 have r1:=aI (o7.at 1 (b:=n1) rfl) (n:=4) (rt:=none) rfl rfl
 simp[r6,r1]
 refine(t_rel (aA:=aA) T S acc rows _ _ (g.keeps o7.keeps) m1 m2 m3).step fun w K7 k7 hw2=>?_
 simp
 refine(q_rel (aA:=aA) T S acc rows _ w K7 ((hw.keeps (k5.trans k6)).keeps k7) hw2 (by omega) (by omega) (fun r hr'=>by have:=m3 r hr';omega)).step fun v' K8 k8 hv'=>?_
 subst hv'
 simp
 exact(o7.keeps.trans k7).trans k8
end Go.Proofs.YtbnmhbmhafbmiaaGreatDoor.W
end

section
namespace Go.Proofs.YtbnmhbmhafbmiaaGreatDoor.W
set_option linter.unusedVariables false
set_option linter.unusedSimpArgs false
open Go.B
variable {aA:Nat}
attribute [local simp] wpC_skip wpC_region wpC_seq kD fU wpC_block wpC_exit wpC_ret nO nP uI uL uJ uK aF6 nC iY fR jR fM fO cR nL fQ nJ mZ nB kB nE nH nF jV fN dS jH iZ jO nI nD nA nK uG fP jG nN uH kC eM nZ nX nY pin BExit.outOf gC gG put_eq sN Opd.ev eX oU kG oO pG kO gI mL pH oK oQ kX oV pD kR kQ oW pE gP uP oJ kJ pF bC iR cY cX nQ kF oneOf pM gY lD eJ pJ gV kZ eE pL gX kY eD uQ lJ pK gW lA eF uR lK lC eI uS lL lB eH cM pW nR iK aC asm dF nM iO jU kU jS kT nG oZ gK Option.map_some lH pI kV kA kW dX eL eK uU gJ kH kN kP kK Go.B.fillB Has
section
variable {H:Type} {enc:TypeId×Value→H} {W:World} {held:Bool}
theorem aN3(w:World)(ty sz:Nat):Sls (vD w) ty sz (yG w (.slice none 0 0)) []:=⟨rfl,rfl,fun i x hi=>by simp at hi⟩
def fs25:Array Field:=#[⟨"Tapes",2,0,false,"","",0⟩,⟨"Start",2,1,false,"","",8⟩,⟨"Accept",22,2,false,"","",16⟩,⟨"Next",23,3,false,"","",40⟩]
theorem u25:Tryz.prog.underlying 49=some (.struct fs25):=by kernel_rfl
theorem u2:Tryz.prog.underlying 2=some (.int .i64):=by kernel_rfl
theorem u4:Tryz.prog.underlying 4=some .bool:=by kernel_rfl
theorem u22:Tryz.prog.underlying 22=some (.slice 4):=by kernel_rfl
theorem u23:Tryz.prog.underlying 23=some (.slice 36):=by kernel_rfl
theorem u37:Tryz.prog.underlying 36=some (.slice 2):=by kernel_rfl
theorem bA5{fuel:Nat}{c:Value}{x:DataW H×List MemPlace}(h:DataW.trod enc Tryz.prog W 0 (fun _=>true) held fuel 22 [c]=some x):
  ∃(bs:List Bool) (ty:Nat),Rd (vD W) ty (yG W c) (bs.map aK)∧bs.length≤9223372036854775807:=by
 rcases Deep.open_bools u22 u4 (by kernel_rfl) h with⟨e,_⟩|⟨a,len,cap,B,e,_,hl,hm,_,hcell⟩
 ·simp at e
  subst e
  exact⟨[],0,aN3 W 0 1,by simp⟩
 ·simp at e
  subst e
  obtain⟨ty,hs⟩:=Sls.start (w:=W) (a:=a) (n:=len) (c:=cap) (sz:=1) (xs:=(List.range len).map fun i=>[Value.bool (B i)]) (by simp) hl (by omega) (by simp) (by
   intro i x hi j v hj
   rw[List.getElem?_map] at hi
   simp only[Option.map_eq_some_iff] at hi
   obtain⟨k,hk,rfl⟩:=hi
   obtain⟨hlt,hkv⟩:=List.getElem?_eq_some_iff.1 hk
   simp at hlt hkv
   subst hkv
   cases j with
   | zero =>
    simp at hj
    subst hj
    simpa using hcell i (by omega)
   | succ j=>simp at hj)
  refine⟨(List.range len).map B,ty,?_,?_⟩
  ·unfold Rd
   simpa[List.map_map,Function.comp_def,yG,aG1,one1,aK] using hs
  ·simp[maxLen] at hm ⊢
   omega
theorem bA4{a:Addr}{L C:Nat}{Z:List Int}(hl:L≤C)(hz:Z.length=C)(hcell:∀c,c<C→W.cell? (a.add c)=some (.int .i64 (Z.getD c 0))):
  ∃ty,Rd (vD W) ty (yG W (.slice (some a) L C)) ((Z.take L).map encI):=by
 obtain⟨ty,hs⟩:=Sls.start (w:=W) (a:=a) (n:=L) (c:=C) (sz:=1) (xs:=(Z.take L).map fun z=>[Value.int .i64 z]) (by simp;omega) hl (by omega) (fun x hx=>by
  obtain⟨z,_,rfl⟩:=List.mem_map.1 hx
  rfl) (by
  intro i x hi j v hj
  rw[List.getElem?_map] at hi
  simp only[Option.map_eq_some_iff] at hi
  obtain⟨k,hk,rfl⟩:=hi
  obtain⟨hlt,hkv⟩:=List.getElem?_eq_some_iff.1 hk
  rw[List.length_take] at hlt
  rw[List.getElem_take] at hkv
  cases j with
  | zero =>
   simp at hj
   subst hj
   have:=hcell i (by omega)
   rw[List.getD_eq_getElem?_getD,List.getElem?_eq_getElem (by omega)] at this
   rw[←hkv]
   simpa using this
  | succ j=>simp at hj)
 refine⟨ty,?_⟩
 unfold Rd
 simpa[List.map_map,Function.comp_def,yG,aG1,one1,encI] using hs
theorem open_rows{fuel:Nat}{c:Value}{x:DataW H×List MemPlace}(h:DataW.trod enc Tryz.prog W 0 (fun _=>true) held fuel 23 [c]=some x):
  ∃(rows:List (List Int)) (ty:Nat),RdQ (vD W) ty (yG W c) encI rows∧rows.length≤9223372036854775807∧∀xs∈rows,xs.length≤9223372036854775807:=by
 rcases Deep.open_int_rows u23 u37 u2 (by kernel_rfl) (by kernel_rfl) h with⟨e,_⟩|⟨a,len,cap,A,L,C,Z,e,_,hl,hm,_,hr⟩
 ·simp at e
  subst e
  exact⟨[],0,⟨[],aN3 W 0 1,rfl,fun i u xs hu=>by simp at hu⟩,by simp,by simp⟩
 ·simp at e
  subst e
  obtain⟨ty,hs⟩:=Sls.start (w:=W) (a:=a) (n:=len) (c:=cap) (sz:=1) (xs:=(List.range len).map fun r=>[Value.slice (A r) (L r) (C r)]) (by simp) hl (by omega) (by simp) (by
   intro i x hi j v hj
   rw[List.getElem?_map] at hi
   simp only[Option.map_eq_some_iff] at hi
   obtain⟨k,hk,rfl⟩:=hi
   obtain⟨hlt,hkv⟩:=List.getElem?_eq_some_iff.1 hk
   simp at hlt hkv
   subst hkv
   cases j with
   | zero =>
    simp at hj
    subst hj
    simpa using (hr i (by omega)).1
   | succ j=>simp at hj)
  refine⟨(List.range len).map fun r=>(Z r).take (L r),ty,⟨(List.range len).map fun r=>yG W (.slice (A r) (L r) (C r)),?_,by simp,?_⟩,?_,?_⟩
  ·unfold Rd
   simpa[List.map_map,Function.comp_def,one1] using hs
  ·intro i u xs hu hx
   have hil:i<len:=by have:=(List.getElem?_eq_some_iff.1 hu).1;simpa using this
   rw[List.getElem?_map,List.getElem?_range hil] at hu hx
   simp at hu hx
   subst hu hx
   obtain⟨_,g2,g3,g4,_,g6,g7⟩:=hr i (by omega)
   cases hA:A i with
   | none =>
    have hc:=g6 hA
    have hL:L i=0:=by omega
    rw[hc,hL]
    exact⟨0,aN3 W 0 1⟩
   | some a'=>exact bA4 g2 g4 (g7 a' hA).2
  ·simp[maxLen] at hm ⊢
   omega
  ·intro xs hxs
   obtain⟨r,hr',rfl⟩:=List.mem_map.1 hxs
   obtain⟨_,g2,g3,g4,_⟩:=hr r (by have:=List.mem_range.1 hr';omega)
   simp[maxLen] at g3 ⊢
   omega
end
end Go.Proofs.YtbnmhbmhafbmiaaGreatDoor.W
end

section
namespace Go.Proofs
open Go.Shelf Go.B
def Tryz.laysItoa_ren:Go.Shelf.Ren:=⟨fun|171=>210|243=>239|246=>256|283=>260|284=>261|285=>262|286=>263|129=>233|317=>266|318=>267|319=>268|320=>269|337=>270|338=>271|n=>n,fun|3=>3|9=>9|2=>2|4=>4|171=>234|0=>0|53=>204|37=>33|5=>5|173=>236|212=>239|51=>202|20=>20|213=>240|46=>105|232=>241|233=>242|n=>n,fun|17=>3|18=>4|19=>5|n=>n⟩
theorem Tryz.laysItoa:Go.Proofs.LaysM.n171 Tryz.prog Tryz.laysItoa_ren where
 mixed:=by kernel_rfl
 f129:=Tryz.func233.trans (congrArg some (by kernel_rfl))
 f171:=Tryz.func210.trans (congrArg some (by kernel_rfl))
 f243:=Tryz.func239.trans (congrArg some (by kernel_rfl))
 f246:=Tryz.func256.trans (congrArg some (by kernel_rfl))
 f283:=Tryz.func260.trans (congrArg some (by kernel_rfl))
 f284:=Tryz.func261.trans (congrArg some (by kernel_rfl))
 f285:=Tryz.func262.trans (congrArg some (by kernel_rfl))
 f286:=Tryz.func263.trans (congrArg some (by kernel_rfl))
 f317:=Tryz.func266.trans (congrArg some (by kernel_rfl))
 f318:=Tryz.func267.trans (congrArg some (by kernel_rfl))
 f319:=Tryz.func268.trans (congrArg some (by kernel_rfl))
 f320:=Tryz.func269.trans (congrArg some (by kernel_rfl))
 f337:=Tryz.func270.trans (congrArg some (by kernel_rfl))
 f338:=Tryz.func271.trans (congrArg some (by kernel_rfl))
 t0:=Tryz.underlying0
 a0:=Tryz.isAgg0
 z0:=Tryz.sizeOf0
 v0:=Tryz.zeroValue0
 t2:=Tryz.underlying2
 a2:=Tryz.isAgg2
 z2:=Tryz.sizeOf2
 v2:=Tryz.zeroValue2
 t3:=Tryz.underlying3
 a3:=Tryz.isAgg3
 z3:=Tryz.sizeOf3
 v3:=Tryz.zeroValue3
 t4:=Tryz.underlying4
 a4:=Tryz.isAgg4
 z4:=Tryz.sizeOf4
 v4:=Tryz.zeroValue4
 t5:=Tryz.underlying5
 a5:=Tryz.isAgg5
 z5:=Tryz.sizeOf5
 v5:=Tryz.zeroValue5
 t9:=Tryz.underlying9
 a9:=Tryz.isAgg9
 z9:=Tryz.sizeOf9
 v9:=Tryz.zeroValue9
 t20:=Tryz.underlying20
 a20:=Tryz.isAgg20
 z20:=Tryz.sizeOf20
 v20:=Tryz.zeroValue20
 t37:=Tryz.underlying33
 a37:=Tryz.isAgg33
 z37:=Tryz.sizeOf33
 v37:=Tryz.zeroValue33
 t46:=Tryz.underlying105
 a46:=Tryz.isAgg105
 z46:=Tryz.sizeOf105
 v46:=Tryz.zeroValue105
 t51:=Tryz.underlying202
 a51:=Tryz.isAgg202
 z51:=Tryz.sizeOf202
 v51:=Tryz.zeroValue202
 t53:=Tryz.underlying204
 a53:=Tryz.isAgg204
 z53:=Tryz.sizeOf204
 v53:=Tryz.zeroValue204
 t171:=Tryz.underlying234
 a171:=Tryz.isAgg234
 z171:=Tryz.sizeOf234
 v171:=Tryz.zeroValue234
 t173:=Tryz.underlying236
 a173:=Tryz.isAgg236
 z173:=Tryz.sizeOf236
 v173:=Tryz.zeroValue236
 t212:=Tryz.underlying239
 a212:=Tryz.isAgg239
 z212:=Tryz.sizeOf239
 v212:=Tryz.zeroValue239
 t213:=Tryz.underlying240
 a213:=Tryz.isAgg240
 z213:=Tryz.sizeOf240
 t232:=Tryz.underlying241
 a232:=Tryz.isAgg241
 z232:=Tryz.sizeOf241
 v232:=Tryz.zeroValue241
 t233:=Tryz.underlying242
 a233:=Tryz.isAgg242
 z233:=Tryz.sizeOf242
 v233:=Tryz.zeroValue242
 g17:=by kernel_rfl
 g18:=by kernel_rfl
 g19:=by kernel_rfl
 i0:=by kernel_rfl
 i2:=by kernel_rfl
 i3:=by kernel_rfl
 i4:=by kernel_rfl
 i5:=by kernel_rfl
 i9:=by kernel_rfl
 i20:=by kernel_rfl
 i37:=by kernel_rfl
 i46:=by kernel_rfl
 i51:=by kernel_rfl
 i53:=by kernel_rfl
 i171:=by kernel_rfl
 i173:=by kernel_rfl
 i212:=by kernel_rfl
 i232:=by kernel_rfl
 i233:=by kernel_rfl
 m17:=by kernel_rfl
 m18:=by kernel_rfl
 m19:=by kernel_rfl
def Tryz.laysDel_ren:Go.Shelf.Ren:=⟨fun|23=>185|n=>n,fun|22=>80|3=>3|4=>4|0=>0|n=>n,fun|n=>n⟩
theorem Tryz.laysDel:Go.Proofs.Lays2.n23 Tryz.prog Tryz.laysDel_ren where
 mixed:=by kernel_rfl
 f23:=Tryz.func185.trans (congrArg some (by kernel_rfl))
 t0:=Tryz.underlying0
 a0:=Tryz.isAgg0
 z0:=Tryz.sizeOf0
 v0:=Tryz.zeroValue0
 t3:=Tryz.underlying3
 a3:=Tryz.isAgg3
 z3:=Tryz.sizeOf3
 v3:=Tryz.zeroValue3
 t4:=Tryz.underlying4
 a4:=Tryz.isAgg4
 z4:=Tryz.sizeOf4
 v4:=Tryz.zeroValue4
 t22:=Tryz.underlying80
 a22:=Tryz.isAgg80
 z22:=Tryz.sizeOf80
 v22:=Tryz.zeroValue80
 i3:=by kernel_rfl
def Tryz.laysIns_ren:Go.Shelf.Ren:=⟨fun|21=>213|27=>240|28=>241|35=>257|39=>264|n=>n,fun|22=>80|3=>3|4=>4|0=>0|n=>n,fun|n=>n⟩
theorem Tryz.laysIns:Go.Proofs.Lays2.n21 Tryz.prog Tryz.laysIns_ren where
 mixed:=by kernel_rfl
 f21:=Tryz.func213.trans (congrArg some (by kernel_rfl))
 f27:=Tryz.func240.trans (congrArg some (by kernel_rfl))
 f28:=Tryz.func241.trans (congrArg some (by kernel_rfl))
 f35:=Tryz.func257.trans (congrArg some (by kernel_rfl))
 f39:=Tryz.func264.trans (congrArg some (by kernel_rfl))
 t0:=Tryz.underlying0
 a0:=Tryz.isAgg0
 z0:=Tryz.sizeOf0
 v0:=Tryz.zeroValue0
 t3:=Tryz.underlying3
 a3:=Tryz.isAgg3
 z3:=Tryz.sizeOf3
 v3:=Tryz.zeroValue3
 t4:=Tryz.underlying4
 a4:=Tryz.isAgg4
 z4:=Tryz.sizeOf4
 v4:=Tryz.zeroValue4
 t22:=Tryz.underlying80
 a22:=Tryz.isAgg80
 z22:=Tryz.sizeOf80
 v22:=Tryz.zeroValue80
 i3:=by kernel_rfl
def Tryz.laysSort_ren:Go.Shelf.Ren:=⟨fun|189=>144|125=>200|257=>199|128=>232|129=>233|294=>223|295=>224|296=>225|297=>226|298=>227|299=>228|216=>229|300=>230|301=>231|328=>246|329=>247|330=>248|331=>249|332=>250|215=>251|343=>258|n=>n,fun|28=>80|3=>3|46=>105|0=>0|51=>202|53=>204|4=>4|183=>195|182=>194|131=>115|5=>5|9=>9|218=>215|222=>219|228=>231|229=>232|n=>n,fun|n=>n⟩
theorem Tryz.laysSort:Go.Proofs.Lays.n189 Tryz.prog Tryz.laysSort_ren where
 mixed:=by kernel_rfl
 f125:=Tryz.func200.trans (congrArg some (by kernel_rfl))
 f128:=Tryz.func232.trans (congrArg some (by kernel_rfl))
 f129:=Tryz.func233.trans (congrArg some (by kernel_rfl))
 f189:=Tryz.func144.trans (congrArg some (by kernel_rfl))
 f215:=Tryz.func251.trans (congrArg some (by kernel_rfl))
 f216:=Tryz.func229.trans (congrArg some (by kernel_rfl))
 f257:=Tryz.func199.trans (congrArg some (by kernel_rfl))
 f294:=Tryz.func223.trans (congrArg some (by kernel_rfl))
 f295:=Tryz.func224.trans (congrArg some (by kernel_rfl))
 f296:=Tryz.func225.trans (congrArg some (by kernel_rfl))
 f297:=Tryz.func226.trans (congrArg some (by kernel_rfl))
 f298:=Tryz.func227.trans (congrArg some (by kernel_rfl))
 f299:=Tryz.func228.trans (congrArg some (by kernel_rfl))
 f300:=Tryz.func230.trans (congrArg some (by kernel_rfl))
 f301:=Tryz.func231.trans (congrArg some (by kernel_rfl))
 f328:=Tryz.func246.trans (congrArg some (by kernel_rfl))
 f329:=Tryz.func247.trans (congrArg some (by kernel_rfl))
 f330:=Tryz.func248.trans (congrArg some (by kernel_rfl))
 f331:=Tryz.func249.trans (congrArg some (by kernel_rfl))
 f332:=Tryz.func250.trans (congrArg some (by kernel_rfl))
 f343:=Tryz.func258.trans (congrArg some (by kernel_rfl))
 t0:=Tryz.underlying0
 a0:=Tryz.isAgg0
 z0:=Tryz.sizeOf0
 v0:=Tryz.zeroValue0
 t3:=Tryz.underlying3
 a3:=Tryz.isAgg3
 z3:=Tryz.sizeOf3
 v3:=Tryz.zeroValue3
 t4:=Tryz.underlying4
 a4:=Tryz.isAgg4
 z4:=Tryz.sizeOf4
 v4:=Tryz.zeroValue4
 t5:=Tryz.underlying5
 a5:=Tryz.isAgg5
 z5:=Tryz.sizeOf5
 v5:=Tryz.zeroValue5
 t9:=Tryz.underlying9
 a9:=Tryz.isAgg9
 z9:=Tryz.sizeOf9
 v9:=Tryz.zeroValue9
 t28:=Tryz.underlying80
 a28:=Tryz.isAgg80
 z28:=Tryz.sizeOf80
 v28:=Tryz.zeroValue80
 t46:=Tryz.underlying105
 a46:=Tryz.isAgg105
 z46:=Tryz.sizeOf105
 v46:=Tryz.zeroValue105
 t51:=Tryz.underlying202
 a51:=Tryz.isAgg202
 z51:=Tryz.sizeOf202
 v51:=Tryz.zeroValue202
 t53:=Tryz.underlying204
 a53:=Tryz.isAgg204
 z53:=Tryz.sizeOf204
 v53:=Tryz.zeroValue204
 t131:=Tryz.underlying115
 a131:=Tryz.isAgg115
 z131:=Tryz.sizeOf115
 v131:=Tryz.zeroValue115
 t182:=Tryz.underlying194
 a182:=Tryz.isAgg194
 z182:=Tryz.sizeOf194
 v182:=Tryz.zeroValue194
 t183:=Tryz.underlying195
 a183:=Tryz.isAgg195
 z183:=Tryz.sizeOf195
 v183:=Tryz.zeroValue195
 t218:=Tryz.underlying215
 a218:=Tryz.isAgg215
 z218:=Tryz.sizeOf215
 v218:=Tryz.zeroValue215
 t222:=Tryz.underlying219
 a222:=Tryz.isAgg219
 z222:=Tryz.sizeOf219
 v222:=Tryz.zeroValue219
 t228:=Tryz.underlying231
 a228:=Tryz.isAgg231
 z228:=Tryz.sizeOf231
 v228:=Tryz.zeroValue231
 t229:=Tryz.underlying232
 a229:=Tryz.isAgg232
 z229:=Tryz.sizeOf232
 v229:=Tryz.zeroValue232
def Tryz.laysComp_ren:Go.Shelf.Ren:=⟨fun|20=>145|n=>n,fun|22=>80|3=>3|4=>4|0=>0|n=>n,fun|n=>n⟩
theorem Tryz.laysComp:Go.Proofs.Lays2.n20 Tryz.prog Tryz.laysComp_ren where
 mixed:=by kernel_rfl
 f20:=Tryz.func145.trans (congrArg some (by kernel_rfl))
 t0:=Tryz.underlying0
 a0:=Tryz.isAgg0
 z0:=Tryz.sizeOf0
 v0:=Tryz.zeroValue0
 t3:=Tryz.underlying3
 a3:=Tryz.isAgg3
 z3:=Tryz.sizeOf3
 v3:=Tryz.zeroValue3
 t4:=Tryz.underlying4
 a4:=Tryz.isAgg4
 z4:=Tryz.sizeOf4
 v4:=Tryz.zeroValue4
 t22:=Tryz.underlying80
 a22:=Tryz.isAgg80
 z22:=Tryz.sizeOf80
 v22:=Tryz.zeroValue80
 i3:=by kernel_rfl
theorem tryz_ext{aA:Nat}{w0:World}(htab:Lib.TabIs Tryz.prog w0 "internal/strconv.uint64pow10" .u64 Lib.pow10Tab):mU Tryz.prog aA w0 False (orC (orC (itoaB 210) (orC (sortB aA 144 3) (orC (compB aA 145 3) (cntB 143 4 80 3)))) (orC (delB aA 185 3) (insB aA 213 3))) :=
 oI (oI (aO8 (enters_of Tryz.func210 rfl rfl) htab fun n h0 h1 w ht=>Any.strconv_Itoa Tryz.laysItoa n h0 h1 w ht)
   (oI (aN1 (enters_of Tryz.func144 rfl rfl) (by kernel_rfl) fun blk off cap zs w hH hb hz=>Any.slices_Sort_int Tryz.laysSort blk off cap zs w hH hb hz)
    (oI (aQ9 (enters_of Tryz.func145 rfl rfl) (by kernel_rfl) fun blk off cap zs w hH hz hc=>Any.slices_Compact_int Tryz.laysComp blk off cap zs w hH hz hc) _root_.Go.Proofs.YtbnmhbmhafbmiaaGreatDoor.W.cnt_sound)))
  (oI (bD1 (enters_of Tryz.func185 rfl rfl) (by kernel_rfl) fun blk off cap i j zs w hH hc hm hij hj=>Any.slices_Delete_int Tryz.laysDel blk off cap i j zs w hH hc hm hij hj)
   (bB2 (enters_of Tryz.func213 rfl rfl) (by kernel_rfl) (bB1 Tryz.laysIns)))
theorem aM7{aA:Nat}:eO (orC (orC (itoaB 210) (orC (sortB aA 144 3) (orC (compB aA 145 3) (cntB 143 4 80 3)))) (orC (delB aA 185 3) (insB aA 213 3))):=lX (lX (aJ3 210) (lX (zI _ _ _ _ _) (lX (zI _ _ _ _ _) (aR0 _ _ _ _)))) (lX (aQ5 aA 185 3) (aP0 aA 213 3))
end Go.Proofs
end
