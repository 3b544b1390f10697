/-
Texts of our own, put together: S6, S7, V1, V2, P1, P2, P3, P4, P5, N1, N2, N3, L1, L2, L3, M1, M2, M3, M4, M5, M6, M7, M8, M9, A6, C11, C12, C13, C14, C15.
-/
import Derived.Test.YtbnmhbmhafbmiaaGreatDoorK4
section
namespace Go.Proofs.YtbnmhbmhafbmiaaGreatDoor.W
set_option linter.unusedVariables false
set_option linter.unusedSimpArgs false
open Go.B
open Go.Au
variable {aA:Nat}
attribute [local simp] wpC_skip wpC_region wpC_seq kD fU wpC_block wpC_exit wpC_ret nO nP uI uL uJ uK aF6 nC iY fR jR fM fO cR nL fQ nJ mZ nB kB nE nH nF jV fN dS jH iZ jO nI nD nA nK uG fP jG nN uH kC eM nZ nX nY pin BExit.outOf gC gG put_eq sN Opd.ev eX oU kG oO pG kO gI mL pH oK oQ kX oV pD kR kQ oW pE gP uP oJ kJ pF bC iR cY cX nQ kF oneOf pM gY lD eJ pJ gV kZ eE pL gX kY eD uQ lJ pK gW lA eF uR lK lC eI uS lL lB eH cM pW nR iK aC asm dF nM iO jU kU jS kT nG oZ gK Option.map_some lH pI kV kA kW dX eL eK uU gJ kH kN kP kK Go.B.fillB Has
def Ts1(aA:Nat)(H:BH)(rb t s:Nat)(A:Aut)(e:Env)(K:BH):Prop:=∃K1 n2 n3 n4 u w,Own aA H K1 [(some n2,.arr 25 [.int .i64 0,.int .i64 0,.nils,.nils])]∧Rd K1 4 u ((bH t A s).y.map aK)∧RdR K1 36 2 w aB (bH t A s).nxt ∧
 Has e [(0,.ptr rb 0),(2,.ptr n2 0),(3,.ptr n3 0),(4,.sl n4 0 (bH t A s).y.length)]∧Own aA K1 K [(some n4,.arr 2 ((mX (bH t A s)).map aB)),(some n3,.arr 25 [aB t,aB 0,u,w])]
theorem tidied_p1(t s rb:Nat)(ht:t≤3)(A:Aut)(H:BH)(h:RdP H rb t s A)(hok:A.Ok (wd t))(hs:s<A.y.length)(hn:A.y.length≤100000)(Q:Post):
  wpC aA (Runs (gam aA)) (ir102.body.hd 4) (Post.then (Ts1 aA H rb t s A) Q) (eX [.ptr rb 0]) H:=by
 obtain⟨R,hR⟩:∃R,R=Ts1 aA H rb t s A:=⟨_,rfl⟩
 rw[←hR]
 unfold Ts1 at hR
 have hT8:2^t≤8:=Nat.pow_le_pow_right (n:=2) (by omega) ht
 have hNT:A.y.length*2^t≤800000:=by have:=Nat.mul_le_mul hn hT8;omega
 obtain⟨hX,hXl,hXL⟩:=sK hok hs
 simp[ir102,BCode.hd]
 intro n2 b2 f2
 have o1:=Own.start (aA:=aA) (H:=H) |>.new f2 b2 (s:=.arr 25 [.int .i64 0,.int .i64 0,.nils,.nils])
 simp[aC f2 b2]
 refine(s_right (aA:=aA) t s rb ht A _ (h.keeps o1.keeps) hok hs hn).step fun v K1 k1 hv=>?_
 obtain⟨u,w,rfl,hu,hw⟩:=hv
 have oH:=o1.call k1
 have u1:=hu.one
 have w1:=aF hw.isSl
 obtain⟨X,hXd⟩:∃X,X=bH t A s:=⟨_,rfl⟩
 rw[←hXd] at hu hw hX hXl hR
 simp[u1,w1]
 intro n3 b3 f3
 obtain⟨K2,g2,o2⟩:=((Own.start (aA:=aA) (H:=K1)).new f3 b3 (s:=.arr 25 [.int .i64 0,.int .i64 0,.nils,.nils])).putAll 0 (b:=n3) (n:=4) (ds:=[aB t,aB 0,u,w]) rfl rfl rfl (by simp[u1,w1]) (rt:=none) rfl
 have r2:=aD (o2.at 0 (b:=n3) rfl) (rt:=none) (j:=2) (c:=u) rfl rfl
 have c1:(X.y.length:Int)≤140737488355328:=by omega
 have c8:8*(X.y.length:Int)≤140737488355328:=by omega
 simp[aC f3 b3,g2,r2,hu.isSl,hu.lenM,c1,c8]
 intro n4 b4 f4
 have o3:=o2.new f4 b4 (s:=.arr 2 (List.replicate X.y.length (.int .i64 0)))
 simp[aC f4 b4]
 obtain⟨f0,hf0⟩:∃f0:Nat→Nat,f0=fun j=>if X.y.getD j false=true then 1 else 0:=⟨_,rfl⟩
 obtain⟨I,hI⟩:∃I:Nat→Env→BH→Prop,I=(fun i e K=>e 5=aB i∧Own aA K1 K [(some n4,.arr 2 ((iG X.y.length f0 i).map aB)),(some n3,.arr 25 [aB t,aB 0,u,w])]):=⟨_,rfl⟩
 refine aE X.y.length [(0,.ptr rb 0),(2,.ptr n2 0),(3,.ptr n3 0),(4,.sl n4 0 X.y.length)] I (i0:=0) ?_ ?_ ?_ (Nat.zero_le _) ?_
 ·rfl
 ·simp
 ·rw[hI]
  refine⟨rfl,?_⟩
  rw[qR,repl0]
  exact o3
 rintro i e K hi ⟨e0,e2,e3,e4,-⟩ hh
 rw[hI] at hh
 obtain⟨e5,o⟩:=hh
 simp only[] at e0 e2 e3 e4
 have wi:=wS (n:=i) (by omega)
 have r2:=aD (o.at 1 (b:=n3) rfl) (rt:=none) (j:=2) (c:=u) rfl rfl
 by_cases hlt:i<X.y.length
 ·have hr:=(hu.keeps o.keeps).at hlt (rt:=none) rfl
  have hga:X.y.getD i false=X.y[i]:=by simp[hlt]
  simp[e3,e5,r2,hu.isSl,hu.lenM,hlt,hr]
  cases hb:X.y[i] with
  | false =>
   simp[e5,wi,hlt]
   rw[hI]
   refine⟨by simp,?_⟩
   rw[zP f0 hlt (by rw[hf0];show (if X.y.getD i false=true then 1 else 0)=0;rw[hga,hb];rfl)]
   exact o
  | true =>
   obtain⟨K5,g5,o5⟩:=o.put 0 (b:=n4) rfl (j:=i) (u:=aB 1) (by simp[mC f0 hi,hlt]) rfl (rt:=none) rfl
   have g5':K.wr aA none 1 (.ptr n4 i) (.int .i64 1)=some K5:=g5
   simp[e4,hlt,g5',e5,wi]
   rw[hI]
   refine⟨by simp,?_⟩
   rw[←mA f0 hlt,show f0 i=1 by rw[hf0];show (if X.y.getD i false=true then 1 else 0)=1;rw[hga,hb];rfl]
   simpa[List.map_set] using o5
 ·have hie:i=X.y.length:=by omega
  subst hie
  have hc0:iG X.y.length f0 X.y.length=mX X:=by rw[sZ,hf0];exact xU X
  rw[hc0] at o
  simp[e3,e5,r2,hu.isSl,hu.lenM]
  rw[hR]
  exact⟨K1,n2,n3,n4,u,w,oH,hu,hw,by simp[e0,e2,e3,e4],o⟩
def Ts2(aA:Nat)(H:BH)(rb t s N:Nat)(A:Aut)(e:Env)(K:BH):Prop:=∃K1 n2 n3 cv u w,Own aA H K1 [(some n2,.arr 25 [.int .i64 0,.int .i64 0,.nils,.nils])]∧Rd K1 4 u ((bH t A s).y.map aK)∧RdR K1 36 2 w aB (bH t A s).nxt ∧
 Has e [(0,.ptr rb 0),(2,.ptr n2 0),(3,.ptr n3 0),(4,cv),(6,aB (bB (bH t A s) N))]∧Own aA K1 K [(some n3,.arr 25 [aB t,aB 0,u,w])]∧Rd K 2 cv ((aP (bH t A s) (N+1)).map aB)
theorem tidied_p2(t s rb N:Nat)(ht:t≤3)(A:Aut)(H:BH)(hok:A.Ok (wd t))(hs:s<A.y.length)(hn:A.y.length≤100000)(hstop:bB (bH t A s) (N+1)=bB (bH t A s) N)(hgo:∀j,j<N→bB (bH t A s) (j+1)≠bB (bH t A s) j)(Q:Post)(e:Env)(K:BH)(hh:Ts1 aA H rb t s A e K):
  wpC aA (Runs (gam aA)) ((ir102.body.tl 4).hd 2) (Post.then (Ts2 aA H rb t s N A) Q) e K:=by
 obtain⟨R,hR⟩:∃R,R=Ts2 aA H rb t s N A:=⟨_,rfl⟩
 rw[←hR]
 unfold Ts2 at hR
 have hT8:2^t≤8:=Nat.pow_le_pow_right (n:=2) (by omega) ht
 have hNT:A.y.length*2^t≤800000:=by have:=Nat.mul_le_mul hn hT8;omega
 obtain⟨hX,hXl,hXL⟩:=sK hok hs
 obtain⟨K1,n2,n3,n4,u,w,oH,hu,hw,⟨e0,e2,e3,e4,-⟩,o⟩:=hh
 simp only[] at e0 e2 e3 e4
 obtain⟨X,hXd⟩:∃X,X=bH t A s:=⟨_,rfl⟩
 rw[←hXd] at hu hw hX hXl hR hstop hgo o e4
 simp[ir102,BCode.hd,BCode.tl]
 obtain⟨I,hI⟩:∃I:Nat→Env→BH→Prop,I=(fun k e K=>e 6=aB (bB X k)∧∃cv,e 4=cv∧Own aA K1 K [(some n3,.arr 25 [aB t,aB 0,u,w])]∧Rd K 2 cv ((aP X k).map aB)):=⟨_,rfl⟩
 refine aE N [(0,.ptr rb 0),(2,.ptr n2 0),(3,.ptr n3 0)] I (i0:=0) ?_ ?_ ?_ (Nat.zero_le _) ?_
 ·rfl
 ·simp[e0,e2,e3]
 ·rw[hI]
  exact⟨rfl,.sl n4 0 X.y.length,by simp[e4],o.tail,o.rd 0 rfl (by rw[List.length_map,qZ];rfl)⟩
 clear e0 e2 e3 e4 o
 rintro k e K hk ⟨e0,e2,e3,-⟩ hh
 rw[hI] at hh
 obtain⟨e6,cv,e4,o,hcv⟩:=hh
 simp only[] at e0 e2 e3
 have hP:RdP K n3 t 0 X:=⟨u,w,o.at 0 rfl,hu.keeps o.keeps,hw.keeps o.keeps⟩
 have hw3:=eQ ht
 simp[e3,e4]
 refine(s_finer (aA:=aA) t 0 n3 (wd t) X (aP X k) cv K hP hX (by omega) hcv (qZ k) (by omega)).step fun v K2 k2 hv=>?_
 obtain⟨y,bo,rfl,hy,hfr⟩:=hv
 have o2:=o.call k2
 have hcn:(cC X (aP X k)).length=bB X (k+1):=rfl
 rw[hcn]
 by_cases hkN:k<N
 ·have hne:=hgo k hkN
  have hne':((bB X (k+1):Int)==(bB X k:Int))=false:=by simp;omega
  simp[e6,hne',hkN]
  rw[hI]
  exact⟨by simp,y,by simp,o2,hy.rd⟩
 ·have hkE:k=N:=by omega
  subst hkE
  simp[e6,hstop]
  rw[hR]
  exact⟨K1,n2,n3,y,u,w,oH,hu,hw,by simp[e0,e2,e3,e6],o2,hy.rd⟩
theorem tidied_p3 (t s rb N:Nat) (ht:t≤3) (A:Aut) (H:BH) (h:RdP H rb t s A) (hok:A.Ok (wd t)) (hs:s<A.y.length) (hn:A.y.length≤100000)
  (hstop:bB (bH t A s) (N+1)=bB (bH t A s) N) (e:Env) (K:BH) (hh:Ts2 aA H rb t s N A e K):
  wpC aA (Runs (gam aA)) ((ir102.body.tl 4).tl 2) (fun x e' K=>(x=.normal∨x=.ret)∧∃v,cY ir102.results e' K=some v∧H.Keeps K∧OwnRel aA H K t 0 (TA t (A.lang s)) v) e K:=by
 obtain⟨hX,hXl,hXL⟩:=sK hok hs
 have hM:=pP hX hstop
 have hTA:fD (wd t) (bH t A s) (aP (bH t A s) (N+1)) 0=TA t (A.lang s):=lM hM hX hX.pos hXL
 rw[←hTA]
 obtain⟨R,hR⟩:∃R:BV→BH→Prop,R=fun v K=>H.Keeps K∧OwnRel aA H K t 0 (fD (wd t) (bH t A s) (aP (bH t A s) (N+1)) 0) v:=⟨_,rfl⟩
 have hR':(fun(x:BExit) (e':Env) (K:BH)=>(x=.normal∨x=.ret)∧∃v,cY ir102.results e' K=some v∧H.Keeps K∧OwnRel aA H K t 0 (fD (wd t) (bH t A s) (aP (bH t A s) (N+1)) 0) v)=fun x e' K=>(x=.normal∨x=.ret)∧∃v,cY ir102.results e' K=some v∧R v K:=by rw[hR]
 rw[hR']
 obtain⟨u0,x0,hr0,_,_⟩:=h
 have hT8:2^t≤8:=Nat.pow_le_pow_right (n:=2) (by omega) ht
 have hNT:A.y.length*2^t≤800000:=by have:=Nat.mul_le_mul hn hT8;omega
 have hw3:=eQ ht
 obtain⟨K1,n2,n3,cv,u,w,oH,hu,hw,⟨e0,e2,e3,e4,e6,-⟩,o,hcv⟩:=hh
 simp only[] at e0 e2 e3 e4 e6
 obtain⟨X,hXd⟩:∃X,X=bH t A s:=⟨_,rfl⟩
 rw[←hXd] at hu hw hX hXl hR hstop e6 hM hcv
 obtain⟨cnt,hcnt⟩:∃cnt,cnt=bB X N:=⟨_,rfl⟩
 rw[←hcnt] at hstop e6
 obtain⟨G,hG⟩:∃G,G=aP X (N+1):=⟨_,rfl⟩
 rw[←hG] at hM hcv hR
 have hGl:G.length=X.y.length:=hM.len
 have hGlt:∀q,q<X.y.length→G.getD q 0<cnt:=fun q hq=>by
  have h1:=vO (X:=X) (g:=aP X N) hq
  rw[hG]
  show (lR X (aP X N)).getD q 0<_
  have h2:(cC X (aP X N)).length=cnt:=hstop
  omega
 have hcl1:cnt≤X.y.length:=by rw[hcnt];exact xP
 obtain⟨K2,hK2⟩:∃K2,K2=K:=⟨_,rfl⟩
 have oH2:=oH.call (o.keeps.trans (by rw[←hK2];exact BH.Keeps.refl _):K1.Keeps K2)
 have hr3:K2.row n3=.arr 25 [aB t,aB 0,u,w]:=by rw[hK2];exact o.at 0 rfl
 have hu:=hu.keeps (by rw[hK2];exact o.keeps:K1.Keeps K2)
 have hw:=hw.keeps (by rw[hK2];exact o.keeps:K1.Keeps K2)
 have hr0:K2.row rb=.arr 25 [aB t,aB s,u0,x0]:=by rw[oH2.keeps rb (by rw[hr0];simp),hr0]
 rw[←hK2] at hcv ⊢
 clear o hK2 oH
 have o:=Own.start (aA:=aA) (H:=K2)
 simp[ir102,BCode.tl,BCode.hd]
 have c1:(cnt:Int)≤140737488355328:=by omega
 have c8:8*(cnt:Int)≤140737488355328:=by omega
 simp[e6,c1,c8]
 intro n9 b9 f9
 have o1:=o.new f9 b9 (s:=.arr 2 (List.replicate cnt (.int .i64 0)))
 simp[aC f9 b9]
 obtain⟨I,hI⟩:∃I:Nat→Env→BH→Prop,I=(fun i e K=>e 10=aB i∧Own aA K2 K [(some n9,.arr 2 ((cQ cnt (fun _=>-1) i).map encI))]):=⟨_,rfl⟩
 refine aE cnt [(0,.ptr rb 0),(2,.ptr n2 0),(3,.ptr n3 0),(4,cv),(6,aB cnt),(9,.sl n9 0 cnt)] I (i0:=0) ?_ ?_ ?_ (Nat.zero_le _) ?_
 ·rfl
 ·simp[e0,e2,e3,e4,e6]
 ·rw[hI]
  refine⟨by simp,?_⟩
  rw[iJ,yP]
  exact o1
 clear e0 e2 e3 e4 e6 o o1
 rintro i e K hi ⟨e0,e2,e3,e4,e6,e9,-⟩ hh
 rw[hI] at hh
 obtain⟨e10,o⟩:=hh
 simp only[] at e0 e2 e3 e4 e6 e9
 have wi:=wS (n:=i) (by omega)
 by_cases hlt:i<cnt
 ·obtain⟨K5,g5,o5⟩:=o.put 0 (b:=n9) rfl (j:=i) (u:=.int .i64 (-1)) (by simp[eW _ hi,hlt]) rfl (rt:=none) rfl
  simp[e6,e9,e10,hlt,g5,wi]
  rw[hI]
  refine⟨by simp,?_⟩
  rw[←iT _ hlt]
  simpa[List.map_set] using o5
 have hie:i=cnt:=by omega
 subst hie
 rw[lZ,←aU3] at o
 have r1:=aJ o.keeps (aD hr3 (rt:=none) (j:=1) (c:=aB 0) rfl rfl)
 simp[e3,e6,e9,e10,r1]
 intro n11 b11 f11
 have o2:=o.new f11 b11 (s:=.arr 2 [aB 0])
 have r1':=aJ o2.keeps (aD hr3 (rt:=none) (j:=1) (c:=aB 0) rfl rfl)
 have h0G:0<G.length:=by rw[hGl];exact hX.pos
 have hG0:=(hcv.keeps o2.keeps).at h0G (rt:=none) rfl
 have hg0:G.getD 0 0=G[0]:=by simp[h0G]
 have hg0l:G[0]<i:=by rw[←hg0];exact hGlt 0 hX.pos
 obtain⟨K4,g4,o4⟩:=o2.put 1 (b:=n9) rfl (j:=G[0]) (u:=encI 0) (by simp[fG,hg0l]) rfl (rt:=none) rfl
 have g4':(K.set n11 (.arr 2 [.int .i64 0])).wr aA none 1 (.ptr n9 G[0]) (.int .i64 0)=some K4:=g4
 have r1'':(K.set n11 (.arr 2 [.int .i64 0])).rd none none (.ptr n3 1)=some (aB 0):=r1'
 have hG0':(K.set n11 (.arr 2 [.int .i64 0])).rd none none (cv.sat 0 1)=some (aB G[0]):=hG0
 have r0:=aJ o4.keeps (aD hr0 (rt:=none) (j:=0) (c:=aB t) rfl rfl)
 simp[aC f11 b11,e0,e3,e4,e9,r1'',hcv.isSl,hcv.lenM,h0G,hG0',hg0l,g4',r0]
 intro n12 b12 f12
 obtain⟨K6,g6,o6⟩:=(o4.new f12 b12 (s:=.arr 25 [.int .i64 0,.int .i64 0,.nils,.nils])).putAll 0 (b:=n12) (n:=4) (ds:=[aB t,.int .i64 0,.nils,.nils]) rfl rfl rfl rfl (rt:=none) rfl
 simp[aC f12 b12,g6]
 have hset:=vI (N:=i) (ks:=[]) hg0l (by simp)
 rw[List.nil_append] at hset
 have o7:Own aA K2 K6 [(some n12,.arr 25 [aB t,.int .i64 0,.nils,.nils]),(some n11,.arr 2 [aB 0]),(some n9,.arr 2 ((aI1 i [G[0]]).map encI))]:=by
  rw[←hset]
  simpa[List.map_set] using o6
 -- one state for each class
 have hcl:=hM.closed hX hX.pos
 rw[hg0] at hcl
 have hdone:=hcl.done
 obtain⟨KS,hKS⟩:∃KS,KS=aH (succs (wd t) (nxG X G)) G[0] G.length:=⟨_,rfl⟩
 have hKl:KS.length≤G.length:=by rw[hKS];exact hcl.len _
 have pre:∀i,aH (succs (wd t) (nxG X G)) G[0] i <+: KS:=fun i=>by
  rcases Nat.le_total i G.length with h|h
  ·rw[hKS];exact fC h
  ·rw[hdone.eq h,hKS];exact List.prefix_refl _
 have hlen:∀i,(aH (succs (wd t) (nxG X G)) G[0] i).length≤G.length:=fun i=>hcl.len i
 obtain⟨J,hJ⟩:∃J:Nat→Env→BH→Prop,J=(fun j e K=>e 13=aB j∧∃v11 lo u' w' bo wo vs fr,∃ls:List Nat,e 11=v11∧ls.map (fun q=>G.getD q 0)=aH (succs (wd t) (nxG X G)) G[0] j∧(∀q∈ls,q<X.y.length)∧j≤ls.length ∧
   Own aA K2 K ([(wo,.arr 36 vs),(bo,.arr 4 (((KS.take j).map (aR8 X G)).map aK)),(some n12,.arr 25 [aB t,.int .i64 0,u',w']),(lo,.arr 2 (ls.map aB)),(some n9,.arr 2 ((aI1 i (aH (succs (wd t) (nxG X G)) G[0] j)).map encI))]++fr) ∧
   Vec lo v11 ls.length∧Vec bo u' j∧Vec wo w' j∧vs.length=j∧RowsOf 2 vs fr (((KS.take j).map fun k=>bE KS (nxG X G) k (wd t)).map (·.map aB))):=⟨_,rfl⟩
 refine aE G.length [(2,.ptr n2 0),(3,.ptr n3 0),(4,cv),(9,.sl n9 0 i),(12,.ptr n12 0)] J (i0:=0) ?_ ?_ ?_ (Nat.zero_le _) ?_
 ·rfl
 ·simp[e2,e3,e4,e9]
 ·rw[hJ]
  refine⟨by simp,.sl n11 0 1,some n11,.nils,.nils,none,none,[],[],[0],by simp,by simp[aH,h0G],by simp;exact hX.pos,Nat.zero_le _,?_,rfl,Vec.none,Vec.none,rfl,trivial⟩
  exact(o7.nil (.arr 4 [])).nil (.arr 36 [])
 clear e0 e2 e3 e4 e6 e9 e10 o o2 o4 o6 o7 r0 r1 r1' r1'' hG0 hG0'
 rintro j e K hj ⟨e2,e3,e4,e9,e12,-⟩ hh
 rw[hJ] at hh
 obtain⟨e13,v11,lo,u',w',bo,wo,vs,fr,ls,e11,hls,hlsn,hjl,o,hv11,hu',hw',hvs,hrows⟩:=hh
 simp only[] at e2 e3 e4 e9 e12
 have wj:=wS (n:=j) (by omega)
 have hlsl:ls.length=(aH (succs (wd t) (nxG X G)) G[0] j).length:=by rw[←hls,List.length_map]
 by_cases hjt:j<ls.length
 ·have hjG:j<G.length:=by have:=hlen j;omega
  obtain⟨q,hq⟩:∃q,q=ls[j]:=⟨_,rfl⟩
  have hqn:q<X.y.length:=by rw[hq];exact hlsn _ (List.getElem_mem hjt)
  have hkj:(aH (succs (wd t) (nxG X G)) G[0] j)[j]?=some (G.getD q 0):=by rw[←hls,List.getElem?_map,List.getElem?_eq_getElem hjt,hq];rfl
  have hKSj:KS[j]?=some (G.getD q 0):=by
   obtain⟨r,hr⟩:=pre j
   rw[←hr,List.getElem?_append_left (by omega)]
   exact hkj
  have hjKS:j<KS.length:=(List.getElem?_eq_some_iff.1 hKSj).1
  have hnext:aH (succs (wd t) (nxG X G)) G[0] (j+1)=lsU (aH (succs (wd t) (nxG X G)) G[0] j) (nxG X G) (G.getD q 0) (wd t):=by rw[aH,hkj];rfl
  have hpre:∀c,c≤wd t→lsU (aH (succs (wd t) (nxG X G)) G[0] j) (nxG X G) (G.getD q 0) c <+: KS:=fun c hc=>(gZ hc).trans (by rw[←hnext];exact pre (j+1))
  have hqn':q<X.nxt.length:=by rw[hX.len];exact hqn
  obtain⟨ri,hri,hrr⟩:=hw.at hqn'
  have hrr:=hrr none rfl
  have hrow:=hX.row _ (List.getElem_mem hqn')
  simp[e11,e13,hv11.isSl,hv11.len,hjt]
  intro n14 b14 f14
  simp[aC f14 b14]
  have o1:=o.new f14 b14 (s:=.arr 2 [])
  obtain⟨P,hP⟩:∃P:Nat→Env→BH→Prop,P=(fun c e K=>e 15=aB c∧∃v11 v14 lo ro,∃ls2:List Nat,e 11=v11∧e 14=v14∧ls2.map (fun q=>G.getD q 0)=lsU (aH (succs (wd t) (nxG X G)) G[0] j) (nxG X G) (G.getD q 0) c∧(∀q∈ls2,q<X.y.length)∧ls2[j]?=some q ∧
   Own aA K2 K ([(ro,.arr 2 ((bE KS (nxG X G) (G.getD q 0) c).map aB)),(wo,.arr 36 vs),(bo,.arr 4 (((KS.take j).map (aR8 X G)).map aK)),(some n12,.arr 25 [aB t,.int .i64 0,u',w']),(lo,.arr 2 (ls2.map aB)),
    (some n9,.arr 2 ((aI1 i (lsU (aH (succs (wd t) (nxG X G)) G[0] j) (nxG X G) (G.getD q 0) c)).map encI))]++fr)∧Vec lo v11 ls2.length∧Vec ro v14 c):=⟨_,rfl⟩
  refine aE (wd t) [(2,.ptr n2 0),(3,.ptr n3 0),(4,cv),(9,.sl n9 0 i),(12,.ptr n12 0),(13,aB j)] P (i0:=0) ?_ ?_ ?_ (Nat.zero_le _) ?_
  ·rfl
  ·simp[e2,e3,e4,e9,e12,e13]
  ·rw[hP]
   exact⟨by simp,v11,.sl n14 0 0,lo,some n14,ls,by simp[e11],by simp,hls,hlsn,by rw[List.getElem?_eq_getElem hjt,hq],o1,hv11,rfl⟩
  clear e2 e3 e4 e9 e11 e12 e13 o o1
  rintro c e M hc ⟨e2,e3,e4,e9,e12,e13,-⟩ hh
  rw[hP] at hh
  obtain⟨e15,v11,v14,lo,ro,ls2,e11,e14,hls2,hlsn2,hjq,o,hv11,hv14⟩:=hh
  simp only[] at e2 e3 e4 e9 e12 e13
  have wc:=wS (n:=c) (by omega)
  have hj2:j<ls2.length:=(List.getElem?_eq_some_iff.1 hjq).1
  have hjq':ls2[j]=q:=by rw[List.getElem?_eq_getElem hj2] at hjq;simpa using hjq
  have hrl:=(o.rd 4 rfl (v:=v11) (by simpa using hv11)).at hj2 (rt:=none) rfl
  rw[hjq'] at hrl
  have r3:=aJ o.keeps (aD hr3 (rt:=none) (j:=3) (c:=w) rfl rfl)
  have hrr':=aJ o.keeps hrr
  simp[e3,e15,r3,e11,e13,hv11.isSl,hv11.len,hj2,hrl,hw.isSl,hw.len,hqn',hrr',hri.isSl,hri.lenM,hrow.1]
  by_cases hcw:c<wd t
  ·have hcr:c<X.nxt[q].length:=by rw[hrow.1];exact hcw
   obtain⟨z,hz⟩:∃z,z=X.to q c:=⟨_,rfl⟩
   have hz1:z<X.y.length:=by rw[hz];exact hX.to hqn hcw
   have hzr:X.nxt[q][c]=z:=by
    obtain⟨r,g1,g2,g3⟩:=iL hX hqn hcw
    have h1:X.nxt.getD q []=X.nxt[q]:=by simp[hqn']
    rw[h1] at g1
    subst g1
    rw[List.getElem?_eq_getElem hcr] at g3
    rw[hz]
    simpa using g3
   have hrc:=(hri.keeps o.keeps).at hcr (rt:=none) rfl
   rw[hzr] at hrc
   have hzG:z<G.length:=by omega
   have hgz:=(hcv.keeps o.keeps).at hzG (rt:=none) rfl
   have hgz':G.getD z 0=G[z]:=by simp[hzG]
   obtain⟨gz,hgzd⟩:∃gz,gz=G[z]:=⟨_,rfl⟩
   rw[←hgzd] at hgz hgz'
   have hgzi:gz<i:=by rw[←hgz'];exact hGlt z hz1
   have hnx:nxG X G (G.getD q 0) c=gz:=by rw[hM.to hX hqn hcw,←hz,hgz']
   obtain⟨lk,hlk⟩:∃lk,lk=lsU (aH (succs (wd t) (nxG X G)) G[0] j) (nxG X G) (G.getD q 0) c:=⟨_,rfl⟩
   have hsu:=fH (ks:=aH (succs (wd t) (nxG X G)) G[0] j) (nx:=nxG X G) (k:=G.getD q 0) c
   rw[←hlk,hnx] at hsu
   have hlsp:=hpre c hc
   have hlsp1:=hpre (c+1) hcw
   rw[←hlk] at o hls2 hlsp
   rw[hsu] at hlsp1
   have hll:=hlsp.length_le
   have hlkl:ls2.length=lk.length:=by rw[←hls2,List.length_map]
   have hrn:=aD (o.at 5 (b:=n9) rfl) (rt:=none) (j:=gz) (c:=encI (if gz∈lk then((pos lk gz:Nat):Int) else -1)) rfl (by
    rw[List.getElem?_map,List.getElem?_eq_getElem (by rw[fG];exact hgzi),sT hgzi]
    rfl)
   have hrs:=bA (nx:=nxG X G) (k:=G.getD q 0) KS c
   rw[hnx] at hrs
   simp[hcw,e3,r3,e11,e13,hv11.isSl,hv11.len,hj2,hrl,hw.isSl,hw.len,hqn',hrr',hri.isSl,hri.lenM,hrow.1,e15,hrc,e4,hcv.isSl,hcv.lenM,hzG,hgz,e9,hgzi,hrn]
   by_cases hm:gz∈lk
   ·have hadd:bF lk gz=lk:=by unfold bF;rw[if_pos hm]
    rw[hadd] at hsu
    have hpos:pos lk gz=pos KS gz:=(cH hlsp hm).symm
    have hnn:¬((pos KS gz:Int)<0):=by omega
    simp[hm,hpos] at hrn
    simp[hm,hpos,hnn,e14,e9,e4,hcv.isSl,hcv.lenM,hzG,hgz,hgzi,hrn]
    intro n1 b1 f1
    simp[aC f1 b1]
    intro n4 b4 f4
    obtain⟨v',K',b',q1,q2,q3⟩:=o.push 0 rfl (v:=v14) (by simpa[aG] using hv14) (x:=aB (pos KS gz)) (bytes:=8) rfl (by simp[aG];omega) (by simp[aG];omega) f1 b1 f4 b4
    simp[q1,e15,wc,hcw]
    rw[hP]
    refine⟨by simp,v11,v',lo,some b',ls2,by simp[e11],by simp,by rw[hsu];exact hls2,hlsn2,hjq,?_,hv11,by simpa[aG] using q3⟩
    rw[hsu,hrs]
    simpa using q2
   ·have hadd:bF lk gz=lk++[gz]:=by unfold bF;rw[if_neg hm]
    rw[hadd] at hsu hlsp1
    have hl1:=hlsp1.length_le
    simp at hl1
    have hpos:lk.length=pos KS gz:=by rw[←dR hm,hadd];exact(cH hlsp1 (by simp)).symm
    simp[hm] at hrn
    obtain⟨K5,g5,o5⟩:=o.put 5 (b:=n9) rfl (j:=gz) (u:=encI (lk.length:Nat)) (by simp[fG,hgzi]) rfl (rt:=none) rfl
    have g5':M.wr aA none 1 (.ptr n9 gz) (.int .i64 (lk.length:Nat))=some K5:=g5
    have hset2:=vI hgzi hm
    simp[hm,e9,e4,hcv.isSl,hcv.lenM,hzG,hgz,hgzi,hrn,e11,hv11.isSl,hv11.len,hlkl,g5']
    intro n1 b1 f1
    simp[aC f1 b1]
    intro n4 b4 f4
    obtain⟨v',K',b',q1,q2,q3⟩:=o5.push 4 rfl (v:=v11) (by simpa using hv11) (x:=aB z) (bytes:=8) rfl (by simp;omega) (by simp;omega) f1 b1 f4 b4
    have hrn2:=aD (q2.at 5 (b:=n9) rfl) (rt:=none) (j:=gz) (c:=aB (pos KS gz)) rfl (by
     rw[hpos]
     simp[fG,hgzi])
    have hgz2:=(hcv.keeps q2.keeps).at hzG (rt:=none) rfl
    rw[←hgzd] at hgz2
    simp[q1,e14,e9,e4,hcv.isSl,hcv.lenM,hzG,hgz2,hgzi,hrn2]
    intro n5' b5' f5'
    simp[aC f5' b5']
    intro n6 b6 f6
    obtain⟨v'',K'',b'',p1,p2,p3⟩:=q2.push 0 rfl (v:=v14) (by simpa[aG] using hv14) (x:=aB (pos KS gz)) (bytes:=8) rfl (by simp[aG];omega) (by simp[aG];omega) f5' b5' f6 b6
    simp[p1,e15,wc,hcw]
    rw[hP]
    refine⟨by simp,v',v'',some b',some b'',ls2++[z],by simp,by simp,by rw[hsu,List.map_append,hls2];simp only[List.map_cons,List.map_nil,hgz'],fun y hy=>?_,by rw[List.getElem?_append_left hj2];exact hjq,?_,by simpa using q3,by simpa[aG] using p3⟩
    ·rcases List.mem_append.1 hy with hy|hy
     ·exact hlsn2 y hy
     ·rw[List.mem_singleton] at hy;omega
    ·rw[hsu,hrs,←hset2]
     simpa[List.map_set] using p2
  ·have hce:c=wd t:=by omega
   subst hce
   rw[←hnext] at o hls2
   have u1:=aD (o.at 3 (b:=n12) rfl) (rt:=none) (j:=2) (c:=u') rfl rfl
   have ra:=aJ o.keeps (aD hr3 (rt:=none) (j:=2) (c:=u) rfl rfl)
   have rq:=(hu.keeps o.keeps).at hqn (rt:=none) rfl
   have hga:aR8 X G (G.getD q 0)=X.y[q]:=by rw[hM.y hqn];simp[hqn]
   have hl2l:ls2.length=(aH (succs (wd t) (nxG X G)) G[0] (j+1)).length:=by rw[←hls2,List.length_map]
   simp[e12,u1,e3,ra,hu.isSl,hu.lenM,hqn,rq,e11,e13,hv11.isSl,hv11.len,hj2,hrl]
   intro n1 b1 f1
   simp[aC f1 b1]
   intro n4 b4 f4
   have hti:(KS.take j).length=j:=by simp;omega
   obtain⟨v',K3,b',q1,o2,q3⟩:=o.push 2 rfl (v:=u') (by simp only[List.length_map,hti];exact hu') (x:=aK X.y[q]) (bytes:=1) rfl (by simp;omega) (by simp;omega) f1 b1 f4 b4
   obtain⟨K4,q2,o3⟩:=o2.put 3 (b:=n12) rfl (j:=2) (u:=v') (by simp) q3.one (rt:=none) rfl
   have u2:=aD (o3.at 3 (b:=n12) rfl) (rt:=none) (j:=3) (c:=w') rfl rfl
   have h14:=hv14.one
   simp[q1,q2,e12,u2,e14,h14,cells_one h14]
   intro n5' b5' f5'
   simp[aC f5' b5']
   intro n6 b6 f6
   obtain⟨w2,K5,c',p1,o4,p3⟩:=o3.push 1 rfl (v:=w') (by rw[hvs];exact hw') (x:=v14) (bytes:=24) h14 (by omega) (by omega) f5' b5' f6 b6
   obtain⟨K7,p2,o5⟩:=o4.put 3 (b:=n12) rfl (j:=3) (u:=w2) (by simp) p3.one (rt:=none) rfl
   simp[p1,p2,e12,e13,wj,hjG]
   rw[hJ]
   have hta:(KS.take (j+1)).map (aR8 X G)=(KS.take j).map (aR8 X G)++[X.y[q]]:=by
    rw[List.take_add_one,hKSj,List.map_append,←hga]
    rfl
   have htr:((KS.take (j+1)).map fun k=>bE KS (nxG X G) k (wd t)).map (·.map aB)=((KS.take j).map fun k=>bE KS (nxG X G) k (wd t)).map (·.map aB)++[(bE KS (nxG X G) (G.getD q 0) (wd t)).map aB]:=by rw[List.take_add_one,hKSj];simp
   have hin:j+1≤ls2.length:=by omega
   refine⟨by simp,v11,lo,v',w2,some b',some c',vs++[v14],fr++[(ro,.arr 2 ((bE KS (nxG X G) (G.getD q 0) (wd t)).map aB))],ls2,by simp[e11],hls2,hlsn2,hin,?_,hv11,?_,?_,by simp[hvs],?_⟩
   ·refine Own.last (p:=(ro,.arr 2 ((bE KS (nxG X G) (G.getD q 0) (wd t)).map aB))) (F:=[(some c',.arr 36 (vs++[v14])),(some b',.arr 4 (((KS.take (j+1)).map (aR8 X G)).map aK)),(some n12,.arr 25 [aB t,.int .i64 0,v',w2]),(lo,.arr 2 (ls2.map aB)),
     (some n9,.arr 2 ((aI1 i (aH (succs (wd t) (nxG X G)) G[0] (j+1))).map encI))]) ?_
    rw[hta]
    simpa using o5
   ·simp only[List.length_map,hti] at q3
    exact q3
   ·rw[hvs] at p3
    exact p3
   ·rw[htr]
    exact hrows.snoc (by simpa[aG] using hv14)
 ·have hje:j=(aH (succs (wd t) (nxG X G)) G[0] j).length:=by omega
  have hdj:Done (wd t) (nxG X G) G[0] j:=by unfold Done DoneL;omega
  have hKj:aH (succs (wd t) (nxG X G)) G[0] j=KS:=by
   rw[hKS]
   exact DoneL.same hdj hdone
  rw[hKj] at hje o
  have htk:KS.take j=KS:=by rw[hje,List.take_length]
  rw[htk] at o hrows
  have hme:fD (wd t) X G 0=aQ (wd t) (nxG X G) (aR8 X G) KS:=by
   unfold fD
   rw[hg0,←hKS]
  have r9:=aI (o.at 2 (b:=n12) rfl) (n:=4) (rt:=none) rfl rfl
  have oj:=Own.join oH2 o.keeps o
  obtain⟨K9,g9,o9⟩:=oj.putAll 0 (b:=n2) (n:=4) (ds:=[aB t,.int .i64 0,u',w']) rfl rfl rfl (by simp[hu'.one,hw'.one]) (rt:=none) rfl
  have r10:=aI (o9.at 0 (b:=n2) rfl) (n:=4) (rt:=none) rfl rfl
  simp[e11,e13,hv11.isSl,hv11.len,hjt,e12,r9,e2,g9,r10]
  rw[hR]
  refine⟨o9.keeps,?_⟩
  rw[hme]
  have o10:Own aA H K9 ([(wo,.arr 36 vs),(bo,.arr 4 ((KS.map (aR8 X G)).map aK))]++fr):=o9.sub (.cons _ (.cons_cons _ (.cons_cons _ (.cons _ (.cons _ (.cons _ (List.Sublist.refl _)))))))
  exact⟨u',w',bo,wo,vs,fr,rfl,o10.perm (List.Perm.swap _ _ _),by simpa[aQ,←hje] using hu',by rw[hvs];exact hw',by simpa[aQ,bE] using hrows⟩
theorem dD(t s rb:Nat)(ht:t≤3)(A:Aut)(H:BH)(h:RdP H rb t s A)(hok:A.Ok (wd t))(hs:s<A.y.length)(hn:A.y.length≤100000):FnDoes (gam aA) 102 [.ptr rb 0] H fun v K=>OwnRel aA H K t 0 (TA t (A.lang s)) v:=by
 refine FnDoes.of (fn:=ir102) rfl ?_
 obtain⟨hX,hXl,hXL⟩:=sK hok hs
 obtain⟨N,hN,hstop,hgo⟩:=mI hX
 refine dO 4 (Ts1 aA H rb t s A) (tidied_p1 t s rb ht A H h hok hs hn _) fun e K h1=>?_
 refine dO 2 (Ts2 aA H rb t s N A) (tidied_p2 t s rb N ht A H hok hs hn hstop hgo _ e K h1) fun e K h2=>?_
 exact tidied_p3 t s rb N ht A H h hok hs hn hstop e K h2
def RdRaw(H:BH)(T S:Int)(acc:List Bool)(rows:List (List Int))(m:BV):Prop:=∃u w,m=.agg [.int .i64 T,.int .i64 S,u,w]∧Rd H 4 u (acc.map aK)∧RdR H 36 2 w encI rows
theorem RdRaw.keeps{H K:BH}{T S:Int}{acc:List Bool}{rows:List (List Int)}{m:BV}(h:RdRaw H T S acc rows m)(k:H.Keeps K):RdRaw K T S acc rows m:=by
 obtain⟨u,w,h1,h2,h3⟩:=h
 exact⟨u,w,h1,h2.keeps k,h3.keeps k⟩
def rowB(T n:Int)(r:List Int):Bool:=decide ((r.length:Int)=(wd T.toNat:Int))&&r.all fun x=>inB x 0 (n-1)
def bC2(T S:Int)(acc:List Bool)(rows:List (List Int)):Bool:=inB T 1 3&&(decide (1≤(acc.length:Int))&&(inB S 0 (acc.length-1)&&(decide ((rows.length:Int)=(acc.length:Int))&&rows.all (rowB T acc.length))))
def dU(T S:Int)(acc:List Bool)(rows:List (List Int)):Bool:=decide ((acc.length:Int)≤150)&&bC2 T S acc rows
theorem valid_alt(T S:Int)(acc:List Bool)(rows:List (List Int)):dU T S acc rows=(inB T 1 3&&(inB acc.length 1 150&&(decide ((rows.length:Int)=(acc.length:Int))&&(inB S 0 (acc.length-1)&&rows.all (rowB T acc.length))))):=by
 unfold dU bC2 inB
 generalize rows.all (rowB T acc.length)=a
 generalize decide ((acc.length:Int)≤150)=b1
 generalize decide (1≤T)=b2
 generalize decide (T≤3)=b3
 generalize decide (1≤(acc.length:Int))=b4
 generalize decide (0≤S)=b5
 generalize decide (S≤(acc.length:Int)-1)=b6
 generalize decide ((rows.length:Int)=(acc.length:Int))=b7
 cases a<;>cases b1<;>cases b2<;>cases b3<;>cases b4<;>cases b5<;>cases b6<;>cases b7<;>rfl
theorem tO{T S:Int}{acc:List Bool}{rows:List (List Int)}(h:dU T S acc rows=true):∃(t s:Nat) (A:Aut),T=t∧S=s∧1≤t∧t≤3∧acc=A.y∧rows=A.nxt.map (·.map fun(q:Nat)=>(q:Int))∧A.Ok (wd t)∧s<A.y.length∧A.y.length≤150:=by
 unfold dU bC2 inB at h
 simp only[Bool.and_eq_true,decide_eq_true_eq,List.all_eq_true] at h
 obtain⟨h1,⟨h2,h3⟩,h4,⟨h5,h6⟩,h7,h8⟩:=h
 have key:∀r∈rows,r=(r.map Int.toNat).map (fun(q:Nat)=>(q:Int)):=fun r hr=>by
  have:=h8 r hr
  unfold rowB at this
  simp only[Bool.and_eq_true,List.all_eq_true,inB,decide_eq_true_eq] at this
  rw[List.map_map]
  conv=>lhs;rw[←List.map_id r]
  refine List.map_congr_left fun x hx=>?_
  have:=(this.2 x hx).1
  simp
  omega
 refine⟨T.toNat,S.toNat,⟨acc,rows.map (·.map Int.toNat)⟩,by omega,by omega,by omega,by omega,rfl,?_,⟨by simp;omega,by show 0<acc.length;omega,fun r hr=>?_⟩,by show S.toNat<acc.length;omega,by show acc.length≤150;omega⟩
 ·rw[List.map_map]
  conv=>lhs;rw[←List.map_id rows]
  refine List.map_congr_left fun r hr=>?_
  exact key r hr
 ·obtain⟨r',hr',rfl⟩:=List.mem_map.1 hr
  have:=h8 r' hr'
  unfold rowB at this
  simp only[Bool.and_eq_true,List.all_eq_true,inB,decide_eq_true_eq] at this
  refine⟨by rw[List.length_map];omega,fun q hq=>?_⟩
  obtain⟨x,hx,rfl⟩:=List.mem_map.1 hq
  have:=this.2 x hx
  show x.toNat<acc.length
  omega
theorem RdRaw.rel{H:BH}{t s:Nat}{A:Aut}{m:BV}(h:RdRaw H t s A.y (A.nxt.map (·.map fun(q:Nat)=>(q:Int))) m):RdRel H t s A m:=by
 obtain⟨u,w,h1,h2,vs,h3,h4,h5⟩:=h
 refine⟨u,w,h1,h2,vs,h3,by simpa using h4,fun i y xs hy hx=>?_⟩
 have:=h5 i y (xs.map fun(q:Nat)=>(q:Int)) hy (by simp[hx])
 rw[List.map_map] at this
 exact this
theorem RdRel.raw{H:BH}{t s:Nat}{A:Aut}{m:BV}(h:RdRel H t s A m):RdRaw H t s A.y (A.nxt.map (·.map fun(q:Nat)=>(q:Int))) m:=by
 obtain⟨u,w,h1,h2,vs,h3,h4,h5⟩:=h
 refine⟨u,w,h1,h2,vs,h3,by simpa using h4,fun i y xs hy hx=>?_⟩
 rw[List.getElem?_map,Option.map_eq_some_iff] at hx
 obtain⟨ys,hys,rfl⟩:=hx
 have:=h5 i y ys hy hys
 rw[List.map_map]
 exact this
theorem bP{t s:Nat}{A:Aut}(h1:1≤t)(ht:t≤3)(hok:A.Ok (wd t))(hs:s<A.y.length)(hn:A.y.length≤150):dU t s A.y (A.nxt.map (·.map fun(q:Nat)=>(q:Int)))=true:=by
 have hl:=hok.len
 unfold dU bC2 inB
 simp only[Bool.and_eq_true,decide_eq_true_eq,List.all_eq_true]
 refine⟨by omega,⟨by omega,by omega⟩,by omega,⟨by omega,by omega⟩,by rw[List.length_map];omega,fun r hr=>?_⟩
 obtain⟨r',hr',rfl⟩:=List.mem_map.1 hr
 have:=hok.row r' hr'
 unfold rowB
 simp only[Bool.and_eq_true,decide_eq_true_eq,List.all_eq_true]
 refine⟨by rw[List.length_map,this.1];simp,fun x hx=>?_⟩
 obtain⟨q,hq,rfl⟩:=List.mem_map.1 hx
 have:=this.2 q hq
 unfold inB
 simp only[Bool.and_eq_true,decide_eq_true_eq]
 omega
theorem xZ{n:Nat}(h:n≤4611686018427387904):IntKind.i64.wrap ((n:Int)-1)=(n:Int)-1:=w64 (by omega) (by omega)
theorem lQ(T S:Int)(acc:List Bool)(rows:List (List Int))(m:BV)(H:BH)(h:RdRaw H T S acc rows m)(hn:acc.length≤4611686018427387904):FnDoes (gam aA) 58 [m] H fun v _=>v=.bool (dU T S acc rows):=by
 refine FnDoes.of (fn:=ir58) rfl ?_
 obtain⟨u,x,rfl,hu,hx⟩:=h
 have u1:=hu.one
 have x1:=aF hx.isSl
 rw[valid_alt]
 obtain⟨V,hV⟩:∃V,V=rows.all (rowB T acc.length):=⟨_,rfl⟩
 rw[←hV]
 simp[ir58,u1,x1]
 intro n1 b1 f1
 have o1:=Own.start (aA:=aA) (H:=H) |>.new f1 b1 (s:=.arr 25 [.int .i64 T,.int .i64 S,u,x])
 have r0:=aD (o1.at 0 (b:=n1) rfl) (rt:=none) (j:=0) (c:=.int .i64 T) rfl rfl
 have r1:=aD (o1.at 0 (b:=n1) rfl) (rt:=none) (j:=1) (c:=.int .i64 S) rfl rfl
 have r2:=aD (o1.at 0 (b:=n1) rfl) (rt:=none) (j:=2) (c:=u) rfl rfl
 have r3:=aD (o1.at 0 (b:=n1) rfl) (rt:=none) (j:=3) (c:=x) rfl rfl
 have ws:=xZ hn
 simp[aC f1 b1,r0,r2,hu.isSl,hu.lenM]
 refine aN (bB8 T _) ?_
 cases h1:inB T 1 3
 ·simp
  exact o1.keeps
 simp
 refine aN (lG acc.length 1 150 _) ?_
 cases h2:inB acc.length 1 150
 ·simp
  exact o1.keeps
 simp[r3,hx.isSl,hx.len]
 by_cases h3:rows.length=acc.length
 ·have hb3:((rows.length:Int) != (acc.length:Int))=false:=by simp;omega
  simp[h3,r1,ws]
  refine aN (lG S 0 (acc.length-1) _) ?_
  cases h4:inB S 0 (acc.length-1)
  ·simp
   exact o1.keeps
  unfold inB at h1 h2
  simp only[Bool.and_eq_true,decide_eq_true_eq] at h1 h2
  obtain⟨t,rfl⟩:∃t:Nat,T=t:=⟨T.toNat,by omega⟩
  simp[r3,hx.isSl,hx.len]
  obtain⟨K1,hK1⟩:∃K1,K1=H.set n1 (.arr 25 [.int .i64 (t:Int),.int .i64 S,u,x]):=⟨_,rfl⟩
  rw[←hK1] at o1 r0 r3 ⊢
  refine aE rows.length [(1,.ptr n1 0),(3,aB acc.length),(36,x),(37,aB rows.length)] (fun i e K=>e 38=aB i∧K=K1∧(rows.take i).all (rowB t acc.length)=true) (i0:=0) ?_ ?_ ?_ (Nat.zero_le _) ?_
  ·rfl
  ·simp[h3]
  ·exact⟨by simp,rfl,by simp⟩
  rintro i e K hi ⟨e1,e3,e36,e37,-⟩ ⟨e38,hK,hall⟩
  subst hK
  simp only[] at e1 e3 e36 e37
  have wi:=wS (n:=i) (by omega)
  by_cases hlt:i<rows.length
  ·obtain⟨ri,hri,hrr⟩:=hx.at hlt
   have hrr:=aJ o1.keeps (hrr none rfl)
   have hri:=hri.keeps o1.keeps
   have hta:(rows.take (i+1)).all (rowB t acc.length)=((rows.take i).all (rowB t acc.length)&&rowB t acc.length rows[i]):=by rw[List.take_add_one,List.getElem?_eq_getElem hlt,List.all_append];simp
   have hfa:rowB t acc.length rows[i]=false→rows.all (rowB t acc.length)=false:=fun hf=>by
    rw[List.all_eq_false]
    exact⟨rows[i],List.getElem_mem hlt,by simp[hf]⟩
   simp[e1,e3,e36,e37,e38,hlt,hx.isSl,hx.len,hrr,hri.isSl,hri.lenM,r0]
   refine aN (dM t K (by omega)) ?_
   by_cases hwl:rows[i].length=wd t
   ·have hwb:((rows[i].length:Int) != (wd t:Int))=false:=by simp;omega
    simp[hwl,hri.isSl,hri.lenM]
    refine aE (wd t) [(1,.ptr n1 0),(3,aB acc.length),(36,x),(37,aB rows.length),(38,aB i),(48,ri),(49,aB (wd t))] (fun j e M=>e 50=aB j∧M=K∧(rows[i].take j).all (fun x=>inB x 0 (acc.length-1))=true) (i0:=0) ?_ ?_ ?_ (Nat.zero_le _) ?_
    ·rfl
    ·simp[e1,e3,e36,e37,e38]
    ·exact⟨by simp,rfl,by simp⟩
    rintro j e M hj ⟨e1,e3,e36,e37,e38,e48,e49,-⟩ ⟨e50,hM,hallj⟩
    subst hM
    simp only[] at e1 e3 e36 e37 e38 e48 e49
    have wj:=wS (n:=j) (by have:=eQ (show t≤3 by omega);omega)
    by_cases hlj:j<wd t
    ·have hlj':j<rows[i].length:=by omega
     have hrj:=hri.at hlj' (rt:=none) rfl
     simp[e48,e49,e50,hlj,hri.isSl,hri.lenM,hlj',hrj,e3,ws]
     refine aN (lG rows[i][j] 0 (acc.length-1) M) ?_
     cases hin:inB rows[i][j] 0 (acc.length-1)
     ·simp
      refine⟨o1.keeps,?_⟩
      have:rowB t acc.length rows[i]=false:=by
       unfold rowB
       rw[Bool.and_eq_false_iff]
       right
       rw[List.all_eq_false]
       exact⟨rows[i][j],List.getElem_mem hlj',by simp[hin]⟩
      rw[hV,hfa this]
     ·simp[e50,wj,hlj]
      have:(rows[i].take (j+1)).all (fun x=>inB x 0 (acc.length-1))=true:=by
       rw[List.take_add_one,List.getElem?_eq_getElem hlj',List.all_append,hallj]
       simp[hin]
      simpa using this
    ·have hje:j=wd t:=by omega
     subst hje
     rw[←hwl,List.take_length] at hallj
     have hrb:rowB t acc.length rows[i]=true:=by
      unfold rowB
      rw[hallj,Bool.and_true,decide_eq_true_eq]
      simp
      omega
     simp[e49,e50,e38,wi,hlt]
     rw[hall,hrb] at hta
     simpa using hta
   ·have hwb:((rows[i].length:Int) != (wd t:Int))=true:=by simp;omega
    have hrb:rowB t acc.length rows[i]=false:=by
     unfold rowB
     rw[Bool.and_eq_false_iff]
     left
     simp
     omega
    simp[hwb]
    exact⟨o1.keeps,by rw[hV,hfa hrb]⟩
  ·have hie:i=rows.length:=by omega
   subst hie
   rw[List.take_length] at hall
   simp[e37,e38]
   exact⟨o1.keeps,by rw[hV,hall]⟩
 ·have hb3:((rows.length:Int) != (acc.length:Int))=true:=by simp;omega
  have hb3':¬((rows.length:Int)=(acc.length:Int)):=by omega
  simp[hb3,hb3']
  exact o1.keeps
def RdRawP(H:BH)(rb:Nat)(T S:Int)(acc:List Bool)(rows:List (List Int)):Prop:=∃u x,H.row rb=.arr 25 [.int .i64 T,.int .i64 S,u,x]∧Rd H 4 u (acc.map aK)∧RdR H 36 2 x encI rows
theorem RdRawP.keeps{H K:BH}{rb:Nat}{T S:Int}{acc:List Bool}{rows:List (List Int)}(h:RdRawP H rb T S acc rows)(k:H.Keeps K):RdRawP K rb T S acc rows:=by
 obtain⟨u,x,h1,h2,h3⟩:=h
 exact⟨u,x,by rw[k rb (by rw[h1];simp),h1],h2.keeps k,h3.keeps k⟩
theorem RdRawP.rel{H:BH}{rb t s:Nat}{A:Aut}(h:RdRawP H rb t s A.y (A.nxt.map (·.map fun(q:Nat)=>(q:Int)))):RdP H rb t s A:=by
 obtain⟨u,x,h1,h2,h3⟩:=h
 obtain⟨u',x',e1,e2,e3⟩:=RdRaw.rel (H:=H) (t:=t) (s:=s) (A:=A) (m:=.agg [.int .i64 t,.int .i64 s,u,x]) ⟨u,x,rfl,h2,h3⟩
 simp only[BV.agg.injEq,List.cons.injEq,and_true,true_and] at e1
 obtain⟨eu,ex⟩:=e1
 rw[←eu] at e2
 rw[←ex] at e3
 exact⟨u,x,h1,e2,e3⟩
theorem s_form(rb:Nat)(T S:Int)(acc:List Bool)(rows:List (List Int))(H:BH)(h:RdRawP H rb T S acc rows)(hn:acc.length≤4611686018427387904):Runs (gam aA) 176 [.ptr rb 0] H (.bool (bC2 T S acc rows)) H:=by
 refine aV (fn:=ir176) rfl ?_
 obtain⟨u,x,hr,hu,hx⟩:=h
 unfold bC2
 obtain⟨V,hV⟩:∃V,V=rows.all (rowB T acc.length):=⟨_,rfl⟩
 rw[←hV]
 have r0:=aD hr (rt:=none) (j:=0) (c:=.int .i64 T) rfl rfl
 have r1:=aD hr (rt:=none) (j:=1) (c:=.int .i64 S) rfl rfl
 have r2:=aD hr (rt:=none) (j:=2) (c:=u) rfl rfl
 have r3:=aD hr (rt:=none) (j:=3) (c:=x) rfl rfl
 have r3':=aD hr (rt:=some 25) (j:=3) (c:=x) rfl rfl
 have ws:=xZ hn
 simp[ir176,r2,hu.isSl,hu.lenM,r0]
 refine aN (s_in T 1 3 _) ?_
 cases h1:inB T 1 3
 ·simp
 by_cases h2:1≤(acc.length:Int)
 ·have h2':¬((acc.length:Int)<1):=by omega
  have h2n:acc.length≠0:=by omega
  simp[h2',h2n,r1,ws]
  refine aN (s_in S 0 (acc.length-1) _) ?_
  cases h4:inB S 0 (acc.length-1)
  ·simp
  by_cases h3:rows.length=acc.length
  ·unfold inB at h1
   simp only[Bool.and_eq_true,decide_eq_true_eq] at h1
   obtain⟨t,rfl⟩:∃t:Nat,T=t:=⟨T.toNat,by omega⟩
   simp[r3,hx.isSl,hx.len,h3]
   refine aE rows.length [(0,.ptr rb 0),(3,aB acc.length)] (fun i e K=>e 4=aB i∧K=H∧(rows.take i).all (rowB t acc.length)=true) (i0:=0) ?_ ?_ ?_ (Nat.zero_le _) ?_
   ·rfl
   ·simp
   ·exact⟨by simp,rfl,by simp⟩
   rintro i e K hi ⟨e0,e3,-⟩ ⟨e4,hK,hall⟩
   subst hK
   simp only[] at e0 e3
   have wi:=wS (n:=i) (by omega)
   by_cases hlt:i<rows.length
   ·have hlt2:i<acc.length:=by omega
    obtain⟨ri,hri,hrr⟩:=hx.at hlt
    have hrr':=hrr (some 36) rfl
    have hrr:=hrr none rfl
    have hta:(rows.take (i+1)).all (rowB t acc.length)=((rows.take i).all (rowB t acc.length)&&rowB t acc.length rows[i]):=by rw[List.take_add_one,List.getElem?_eq_getElem hlt,List.all_append];simp
    have hfa:rowB t acc.length rows[i]=false→rows.all (rowB t acc.length)=false:=fun hf=>by
     rw[List.all_eq_false]
     exact⟨rows[i],List.getElem_mem hlt,by simp[hf]⟩
    simp[e0,e4,r3,r3',hx.isSl,hx.len,h3,hlt2,hrr',hri.isSl,hri.lenM,r0]
    refine aN (sF t K (by omega)) ?_
    by_cases hwl:rows[i].length=wd t
    ·have hwb:((rows[i].length:Int) != (wd t:Int))=false:=by simp;omega
     simp[hwl]
     refine aE (wd t) [(0,.ptr rb 0),(3,aB acc.length),(4,aB i)] (fun j e M=>e 5=aB j∧M=K∧(rows[i].take j).all (fun x=>inB x 0 (acc.length-1))=true) (i0:=0) ?_ ?_ ?_ (Nat.zero_le _) ?_
     ·rfl
     ·simp[e0,e3,e4]
     ·exact⟨by simp,rfl,by simp⟩
     rintro j e M hj ⟨e0,e3,e4,-⟩ ⟨e5,hM,hallj⟩
     subst hM
     simp only[] at e0 e3 e4
     have wj:=wS (n:=j) (by have:=eQ (show t≤3 by omega);omega)
     by_cases hlj:j<wd t
     ·have hlj':j<rows[i].length:=by omega
      have hrj:=hri.at hlj' (rt:=none) rfl
      simp[e0,e4,e5,r3,hx.isSl,hx.len,h3,hlt2,hrr,hri.isSl,hri.lenM,hwl,hlj,hlj',hrj,e3,ws]
      refine aN (s_in rows[i][j] 0 (acc.length-1) M) ?_
      cases hin:inB rows[i][j] 0 (acc.length-1)
      ·have:rowB t acc.length rows[i]=false:=by
        unfold rowB
        rw[Bool.and_eq_false_iff]
        right
        rw[List.all_eq_false]
        exact⟨rows[i][j],List.getElem_mem hlj',by simp[hin]⟩
       simp
       rw[hV,hfa this]
       intros;rfl
      ·simp[e5,wj,hlj]
       have:(rows[i].take (j+1)).all (fun x=>inB x 0 (acc.length-1))=true:=by
        rw[List.take_add_one,List.getElem?_eq_getElem hlj',List.all_append,hallj]
        simp[hin]
       simpa using this
     ·have hje:j=wd t:=by omega
      subst hje
      rw[←hwl,List.take_length] at hallj
      have hrb:rowB t acc.length rows[i]=true:=by
       unfold rowB
       rw[hallj,Bool.and_true,decide_eq_true_eq]
       simp
       omega
      simp[e0,e4,e5,r3,hx.isSl,hx.len,h3,hlt2,hrr,hri.isSl,hri.lenM,hwl,wi,hlt]
      rw[hall,hrb] at hta
      simpa using hta
    ·have hwb:((rows[i].length:Int) != (wd t:Int))=true:=by simp;omega
     have hrb:rowB t acc.length rows[i]=false:=by
      unfold rowB
      rw[Bool.and_eq_false_iff]
      left
      simp
      omega
     simp[hwb]
     rw[hV,hfa hrb]
     intros;rfl
   ·have hie:i=rows.length:=by omega
    subst hie
    rw[List.take_length] at hall
    simp[e0,e4,r3,hx.isSl,hx.len,h3]
    rw[hV,hall]
    exact⟨h2,rfl⟩
  ·have hb3:((rows.length:Int) != (acc.length:Int))=true:=by simp;omega
   have hb3':¬((rows.length:Int)=(acc.length:Int)):=by omega
   simp[r3,hx.isSl,hx.len,hb3,hb3']
 ·have h2':(acc.length:Int)<1:=by omega
  have h2n:acc.length=0:=by omega
  simp[h2n]
theorem s_ok(rb:Nat)(T S:Int)(acc:List Bool)(rows:List (List Int))(H:BH)(h:RdRawP H rb T S acc rows)(hn:acc.length≤4611686018427387904):Runs (gam aA) 116 [.ptr rb 0] H (.bool (dU T S acc rows)) H:=by
 refine aV (fn:=ir116) rfl ?_
 have h0:=h
 obtain⟨u,x,hr,hu,hx⟩:=h
 have r2:=aD hr (rt:=none) (j:=2) (c:=u) rfl rfl
 unfold dU
 by_cases h1:(acc.length:Int)≤150
 ·have h1n:acc.length≤150:=by omega
  simp[ir116,r2,hu.isSl,hu.lenM,h1]
  refine aN (s_form rb T S acc rows H h0 hn) ?_
  simp
 ·simp[ir116,r2,hu.isSl,hu.lenM,h1]
def pNx(A B:Aut)(p:Nat×Nat)(c:Nat):Nat×Nat:=(A.to p.1 c,B.to p.2 c)
def pAcc(A B:Aut)(op:Bool→Bool→Bool)(p:Nat×Nat):Bool:=op (A.y.getD p.1 false) (B.y.getD p.2 false)
def pU(a b:Nat):List (Nat×Nat):=(List.range a).flatMap fun p=>(List.range b).map fun q=>(p,q)
theorem pU_len(a b:Nat):(pU a b).length=a*b:=by
 unfold pU
 induction a with
 | zero=>simp
 | succ a ih=>rw[List.range_succ,List.flatMap_append,List.length_append,ih,Nat.succ_mul];simp
theorem mem_pU{a b:Nat}{k:Nat×Nat}:k∈pU a b↔k.1<a∧k.2<b:=by
 obtain⟨p,q⟩:=k
 simp[pU]
theorem sQ{w:Nat}{A B:Aut}(hA:A.Ok w)(hB:B.Ok w):Closed w (pNx A B) (0,0) (pU A.y.length B.y.length) :=
 ⟨mem_pU.2 ⟨hA.pos,hB.pos⟩,fun k hk c hc=>by
  obtain⟨h1,h2⟩:=mem_pU.1 hk
  exact mem_pU.2 ⟨hA.to h1 hc,hB.to h2 hc⟩⟩
theorem p_lang(A B:Aut)(op:Bool→Bool→Bool):∀(cs:List Nat) (p q:Nat),bM (pNx A B) (pAcc A B op) (p,q) cs=op (A.lang p cs) (B.lang q cs)
 | [],p,q=>rfl
 | c::cs,p,q=>p_lang A B op cs (A.to p c) (B.to q c)
def yC(w:Nat)(A B:Aut)(op:Bool→Bool→Bool):Aut:=aQ w (pNx A B) (pAcc A B op) (aH (succs w (pNx A B)) (0,0) (pU A.y.length B.y.length).length)
theorem aC5{w:Nat}{A B:Aut}{op:Bool→Bool→Bool}(hA:A.Ok w)(hB:B.Ok w):(yC w A B op).Ok w∧(yC w A B op).y.length≤A.y.length*B.y.length∧∀cs,In w cs→(yC w A B op).lang 0 cs=op (A.lang 0 cs) (B.lang 0 cs):=by
 obtain⟨h1,h2,h3⟩:=cN (a:=pAcc A B op) (sQ hA hB)
 refine⟨h1,?_,fun cs hcs=>(h3 cs hcs).trans (p_lang A B op cs 0 0)⟩
 have h2':(yC w A B op).y.length≤(pU A.y.length B.y.length).length:=h2
 rwa [pU_len] at h2'
theorem iP{κ:Type}[DecidableEq κ]{w:Nat}{nx:κ→Nat→κ}{s:κ}:∀(n:Nat) (k:κ),k∈aH (succs w nx) s n→∃cs,In w cs∧cs.foldl nx s=k
 | 0,k,h=>by
  simp[aH] at h
  subst h
  exact⟨[],In.nil w,rfl⟩
 | n+1,k,h=>by
  rw[aH] at h
  split at h
  ·rename_i k' hk'
   rcases mem_addAll.1 h with h|h
   ·exact iP n k h
   ·obtain⟨cs,h1,h2⟩:=iP n k' (List.mem_of_getElem? hk')
    simp only[succs,List.mem_map,List.mem_range] at h
    obtain⟨c,hc,rfl⟩:=h
    exact⟨cs++[c],h1.append ((In.nil w).cons hc),by rw[List.foldl_append,h2];rfl⟩
  ·exact iP n k h
theorem aV8{κ:Type}[DecidableEq κ]{w:Nat}{nx:κ→Nat→κ}{s:κ}{n:Nat}(hd:Done w nx s n):∀(cs:List Nat) (k:κ),k∈aH (succs w nx) s n→In w cs→cs.foldl nx k∈aH (succs w nx) s n
 | [],k,hk,_=>hk
 | c::cs,k,hk,hin=>aV8 hd cs (nx k c) (Done.closed hd hk hin.head) hin.tail
theorem aB1{κ:Type}[DecidableEq κ]{w:Nat}{nx:κ→Nat→κ}{s:κ}{a:κ→Bool}{n:Nat}(hd:Done w nx s n):(∃k∈aH (succs w nx) s n,a k=true)↔∃cs,In w cs∧bM nx a s cs=true:=by
 constructor
 ·rintro⟨k,hk,ha⟩
  obtain⟨cs,h1,rfl⟩:=iP n k hk
  exact⟨cs,h1,ha⟩
 ·rintro⟨cs,h1,h2⟩
  exact⟨_,aV8 hd cs s (bQ n) h1,h2⟩
noncomputable def yE(w:Nat)(L M:List Nat→Bool):Bool:=by
 classical
 exact decide (∀cs,In w cs→L cs=true→M cs=true)
theorem inclB_of{w:Nat}{L M:List Nat→Bool}{b:Bool}(h:b=true↔∃cs,In w cs∧(L cs&&!M cs)=true):yE w L M=!b:=by
 classical
 unfold yE
 cases b with
 | true =>
  obtain⟨cs,h1,h2⟩:=h.1 rfl
  simp only[Bool.and_eq_true,Bool.not_eq_true'] at h2
  rw[Bool.not_true,decide_eq_false_iff_not]
  intro hh
  rw[hh cs h1 h2.1] at h2
  cases h2.2
 | false =>
  rw[Bool.not_false,decide_eq_true_eq]
  intro cs h1 h2
  cases hm:M cs with
  | true=>rfl
  | false=>exact absurd (h.2 ⟨cs,h1,by simp[h2,hm]⟩) (by simp)
theorem aP1{w:Nat}{L M L' M':List Nat→Bool}(h1:∀cs,In w cs→L cs=L' cs)(h2:∀cs,In w cs→M cs=M' cs):yE w L M=yE w L' M':=by
 classical
 unfold yE
 congr 1
 apply propext
 exact⟨fun h cs hc hl=>by rw[←h2 cs hc];exact h cs hc (by rw[h1 cs hc];exact hl),fun h cs hc hl=>by rw[h2 cs hc];exact h cs hc (by rw[←h1 cs hc];exact hl)⟩
def aF4(p:Nat×Nat):List BV:=[aB p.1,aB p.2]
theorem encQ_len(k:Nat×Nat):(aF4 k).length=2∧∀c∈aF4 k,c.one=true:=⟨rfl,by simp[aF4]⟩
theorem encQ_eq(k l:Nat×Nat):bK 5 (.agg (aF4 k)) (.agg (aF4 l))=some (decide (k=l)):=by
 have h:bK 5 (.agg (aF4 k)) (.agg (aF4 l))=bO (aF4 k) (aF4 l):=rfl
 rw[h]
 obtain⟨q,m⟩:=k
 obtain⟨q',m'⟩:=l
 by_cases h0:q=q'
 ·subst h0
  by_cases h1:m=m'
  ·subst h1;simp[aF4,bO]
  ·have h1':¬((m:Int)=(m':Int)):=by omega
   simp[aF4,bO,h1,h1']
 ·have h0':¬((q:Int)=(q':Int)):=by omega
  simp[aF4,bO,h0,h0']
def Op2(aA:Nat)(H:BH)(f:Nat)(caps:List BV)(op:Bool→Bool→Bool):Prop:=∀K,H.Keeps K→∀a b,FnDoes (gam aA) f ([.bool a,.bool b]++caps) K fun v _=>v=.bool (op a b)
theorem i_pairs1(t:Nat)(A B:Aut)(m1 m2 fb f:Nat)(caps:List BV)(op:Bool→Bool→Bool)(u x u' x':BV)(H:BH)(hA:Rd H 4 u (A.y.map aK))(hB:Rd H 4 u' (B.y.map aK))(rm:H.row m1=.arr 77 [aB t,aB 0,u,x])(rm':H.row m2=.arr 77 [aB t,aB 0,u',x'])(tf:Nat)(rf:H.row fb=.arr tf [.fn f caps])(hop:Op2 aA H f caps op)(k:Nat×Nat)(hk:k∈pU A.y.length B.y.length):FnDoes (gam aA) 244 [.agg (aF4 k),.ptr fb 0,.ptr m1 0,.ptr m2 0] H fun v _=>v=.bool (pAcc A B op k):=by
 refine FnDoes.of (fn:=ir244) rfl ?_
 obtain⟨p,q⟩:=k
 obtain⟨hp,hq⟩:=mem_pU.1 hk
 simp only at hp hq
 simp[ir244,aF4]
 intro n4 b4 f4
 have o1:=Own.start (aA:=aA) (H:=H) |>.new f4 b4 (s:=.arr 212 [aB p,aB q])
 have q0:=aD (o1.at 0 (b:=n4) rfl) (rt:=none) (j:=0) (c:=aB p) rfl rfl
 have q1:=aD (o1.at 0 (b:=n4) rfl) (rt:=none) (j:=1) (c:=aB q) rfl rfl
 have r1:=aJ o1.keeps (aD rf (rt:=none) (j:=0) (c:=.fn f caps) rfl rfl)
 have r2:=aJ o1.keeps (aD rm (rt:=none) (j:=2) (c:=u) rfl rfl)
 have r3:=aJ o1.keeps (aD rm' (rt:=none) (j:=2) (c:=u') rfl rfl)
 have r4:=(hA.keeps o1.keeps).at hp (rt:=none) rfl
 have r5:=(hB.keeps o1.keeps).at hq (rt:=none) rfl
 simp[aC f4 b4,r1,r2,q0,hA.isSl,hA.lenM,hp,r4,r3,q1,hB.isSl,hB.lenM,hq,r5]
 refine(hop _ o1.keeps A.y[p] B.y[q]).step fun v K1 k1 hv=>?_
 subst hv
 simp[pAcc,hp,hq]
 exact o1.keeps.trans k1
theorem i_pairs2(t w:Nat)(A B:Aut)(m1 m2:Nat)(u x u' x':BV)(H:BH)(hokA:A.Ok w)(hokB:B.Ok w)(hA:RdR H 80 3 x aB A.nxt)(hB:RdR H 80 3 x' aB B.nxt)(rm:H.row m1=.arr 77 [aB t,aB 0,u,x])(rm':H.row m2=.arr 77 [aB t,aB 0,u',x'])(k:Nat×Nat)(hk:k∈pU A.y.length B.y.length)(c:Nat)(hc:c<w):FnDoes (gam aA) 245 [.agg (aF4 k),aB c,.ptr m1 0,.ptr m2 0] H fun v _=>v=.agg (aF4 (pNx A B k c)):=by
 refine FnDoes.of (fn:=ir245) rfl ?_
 obtain⟨p,q⟩:=k
 obtain⟨hp,hq⟩:=mem_pU.1 hk
 simp only at hp hq
 have cell:∀{A:Aut},A.Ok w→∀{q:Nat},(hq:q<A.y.length)→∃h1:q<A.nxt.length,∃h2:c<A.nxt[q].length,A.nxt[q][c]=A.to q c:=by
  intro A hok q hq
  have h1:q<A.nxt.length:=by rw[hok.len];exact hq
  obtain⟨r,g1,g2,g3⟩:=iL hok hq hc
  have e1:A.nxt.getD q []=A.nxt[q]:=by simp[h1]
  rw[e1] at g1
  subst g1
  have h2:c<A.nxt[q].length:=by omega
  rw[List.getElem?_eq_getElem h2] at g3
  exact⟨h1,h2,by simpa using g3⟩
 obtain⟨a1,a2,a3⟩:=cell hokA hp
 obtain⟨b1',b2',b3'⟩:=cell hokB hq
 obtain⟨ra,hra,hra2⟩:=hA.at a1
 obtain⟨rb,hrb,hrb2⟩:=hB.at b1'
 simp[ir245,aF4]
 intro n4 b4 f4
 simp[aC f4 b4]
 intro n6 b6 f6
 have o1:=Own.start (aA:=aA) (H:=H) |>.new f4 b4 (s:=.arr 212 [aB p,aB q]) |>.new f6 b6 (s:=.arr 212 [.int .i64 0,.int .i64 0])
 have q0:=aD (o1.at 1 (b:=n4) rfl) (rt:=none) (j:=0) (c:=aB p) rfl rfl
 have q1:=aD (o1.at 1 (b:=n4) rfl) (rt:=none) (j:=1) (c:=aB q) rfl rfl
 have r2:=aJ o1.keeps (aD rm (rt:=none) (j:=3) (c:=x) rfl rfl)
 have r3:=aJ o1.keeps (aD rm' (rt:=none) (j:=3) (c:=x') rfl rfl)
 have r4:=aJ o1.keeps (hra2 none rfl)
 have r5:=aJ o1.keeps (hrb2 none rfl)
 have r6:=(hra.keeps o1.keeps).at a2 (rt:=none) rfl
 have r7:=(hrb.keeps o1.keeps).at b2' (rt:=none) rfl
 rw[a3] at r6
 rw[b3'] at r7
 obtain⟨K2,g2,o2⟩:=o1.putAll 0 (b:=n6) (n:=2) (ds:=[aB (A.to p c),aB (B.to q c)]) rfl rfl rfl rfl (rt:=none) rfl
 have r8:=aI (o2.at 0 (b:=n6) rfl) (n:=2) (rt:=none) rfl rfl
 simp[aC f6 b6,r2,q0,hA.isSl,hA.len,a1,r4,hra.isSl,hra.lenM,a2,r6,r3,q1,hB.isSl,hB.len,b1',r5,hrb.isSl,hrb.lenM,b2',r7,g2,r8,pNx]
 exact o2.keeps
theorem i_pairs(t:Nat)(ht:t≤3)(A B:Aut)(ma mb:BV)(f:Nat)(caps:List BV)(op:Bool→Bool→Bool)(H:BH)(hA:RdM H t 0 A ma)(hB:RdM H t 0 B mb)(hokA:A.Ok (wd t))(hokB:B.Ok (wd t))(hn:A.y.length*B.y.length≤1000000000)(hop:Op2 aA H f caps op):FnDoes (gam aA) 219 [ma,mb,.fn f caps] H fun v K=>OwnM aA H K t 0 (yC (wd t) A B op) v:=by
 refine FnDoes.of (fn:=ir219) rfl ?_
 obtain⟨u,x,rfl,hu,hx⟩:=hA
 obtain⟨u',x',rfl,hu',hx'⟩:=hB
 have u1:=hu.one
 have x1:=aF hx.isSl
 have u1':=hu'.one
 have x1':=aF hx'.isSl
 simp[ir219,u1,x1,u1',x1']
 intro n3 b3 f3
 simp[aC f3 b3,u1',x1']
 intro n4 b4 f4
 simp[aC f4 b4]
 intro n5 b5 f5
 simp[aC f5 b5]
 intro n6 b6 f6
 have o1:=Own.start (aA:=aA) (H:=H) |>.new f3 b3 (s:=.arr 77 [aB t,aB 0,u,x]) |>.new f4 b4 (s:=.arr 77 [aB t,aB 0,u',x']) |>.new f5 b5 (s:=.arr 165 [.fn f caps]) |>.new f6 b6 (s:=.arr 77 [.int .i64 0,.int .i64 0,.nils,.nils])
 have r0:=aD (o1.at 3 (b:=n3) rfl) (rt:=none) (j:=0) (c:=aB t) rfl rfl
 have r1:=aD (o1.at 3 (b:=n3) rfl) (rt:=none) (j:=1) (c:=aB 0) rfl rfl
 have r2:=aD (o1.at 2 (b:=n4) rfl) (rt:=none) (j:=1) (c:=aB 0) rfl rfl
 obtain⟨K,hK⟩:∃K,K=(((H.set n3 (.arr 77 [aB t,aB 0,u,x])).set n4 (.arr 77 [aB t,aB 0,u',x'])).set n5 (.arr 165 [.fn f caps])).set n6 (.arr 77 [.int .i64 0,.int .i64 0,.nils,.nils]):=⟨_,rfl⟩
 rw[←hK] at o1 r0 r1 r2
 have grow:=aP3 (aA:=aA) (κ:=Nat×Nat) aF4 encQ_len encQ_eq t ht (0,0) 0 244 245 [.ptr n5 0,.ptr n3 0,.ptr n4 0] [.ptr n3 0,.ptr n4 0] (pNx A B) (pAcc A B op) (pU A.y.length B.y.length) (sQ hokA hokB) (by rw[pU_len];exact hn) K
  (fun L kL k hk=>i_pairs1 t A B n3 n4 n5 f caps op u x u' x' L (hu.keeps (o1.keeps.trans kL)) (hu'.keeps (o1.keeps.trans kL)) ((o1.call kL).at 3 rfl) ((o1.call kL).at 2 rfl) _ ((o1.call kL).at 1 rfl) (fun M kM=>hop M ((o1.keeps.trans kL).trans kM)) k hk)
  (fun L kL k hk c hc=>i_pairs2 t (wd t) A B n3 n4 u x u' x' L hokA hokB (hx.keeps (o1.keeps.trans kL)) (hx'.keeps (o1.keeps.trans kL)) ((o1.call kL).at 3 rfl) ((o1.call kL).at 2 rfl) k hk c hc)
 simp[aC f6 b6]
 rw[←hK]
 simp[r0,r1,r2]
 refine grow.step fun v K1 k1 hv=>?_
 unfold dA at hv
 rw[if_neg (by omega)] at hv
 obtain⟨mm,rfl,hmm⟩:=hv
 obtain⟨uu,ww,bo,wo,vs,fr,rfl,om,hm1,hm2,hm3⟩:=hmm
 have oj:=Own.join (o1.sub (M:=[(some n6,.arr 77 [.int .i64 0,.int .i64 0,.nils,.nils])]) (.cons_cons _ (.cons _ (.cons _ (.cons _ .slnil))))) k1 om
 simp[hm1.one,hm2.one]
 intro n19 b19 f19
 obtain⟨K11,g11,o11⟩:=(oj.new f19 b19 (s:=.arr 77 [.int .i64 0,.int .i64 0,.nils,.nils])).putAll 0 (b:=n19) (n:=4) (ds:=[aB t,aB 0,uu,ww]) rfl rfl rfl (by simp[hm1.one,hm2.one]) (rt:=none) rfl
 have q8:=aI (o11.at 0 (b:=n19) rfl) (n:=4) (rt:=none) rfl rfl
 obtain⟨K12,g12,o12⟩:=o11.putAll 1 (b:=n6) (n:=4) (ds:=[aB t,aB 0,uu,ww]) rfl rfl rfl (by simp[hm1.one,hm2.one]) (rt:=none) rfl
 have q9:=aI (o12.at 1 (b:=n6) rfl) (n:=4) (rt:=none) rfl rfl
 simp[aC f19 b19,g11,q8,g12,q9]
 exact⟨o12.keeps,uu,ww,bo,wo,vs,fr,rfl,o12.drop 2,hm1,hm2,hm3⟩
theorem x_indexB(bs:List Bool)(u:BV)(H:BH)(h:Rd H 4 u (bs.map aK))(hn:bs.length≤1000000000):Runs (gam aA) 192 [u,.bool true] H (.bool (bs.contains true)) H:=by
 refine aV (fn:=ir192) rfl ?_
 simp[ir192]
 obtain⟨r,hr,hrt⟩:∃r:Int,Runs (gam aA) 221 [u,.bool true] H (.int .i64 r) H∧(decide (0≤r))=bs.contains true:=by
  have:FnDoes (gam aA) 221 [u,.bool true] H fun v K=>K=H∧∃r:Int,v=.int .i64 r∧(decide (0≤r))=bs.contains true:=by
   refine FnDoes.of (fn:=ir221) rfl ?_
   simp[ir221,h.isSl,h.lenM]
   refine aE bs.length [(0,u),(1,.bool true),(6,u),(7,aB bs.length)] (fun i e K=>e 8=aB i∧K=H∧∀j,j<i→bs[j]?=some false) (i0:=0) ?_ ?_ ?_ (Nat.zero_le _) ?_
   ·rfl
   ·simp
   ·exact⟨by simp,rfl,fun j hj=>by omega⟩
   rintro i e K hi ⟨e0,e1,e6,e7,-⟩ ⟨e8,hK,hall⟩
   subst hK
   simp only[] at e0 e1 e6 e7
   have wi:=wS (n:=i) (by omega)
   by_cases hlt:i<bs.length
   ·have hr:=h.at hlt (rt:=none) rfl
    simp[e0,e1,e7,e8,hlt,h.isSl,h.lenM,hr]
    cases hb:bs[i] with
    | true =>
     simp
     refine⟨BH.Keeps.refl K,?_⟩
     have:=List.getElem_mem hlt
     rw[hb] at this
     exact this
    | false =>
     simp[e8,wi,hlt]
     intro j hj
     by_cases hji:j=i
     ·subst hji;rw[List.getElem?_eq_getElem hlt,hb]
     ·exact hall j (by omega)
   ·have hie:i=bs.length:=by omega
    subst hie
    simp[e7,e8]
    refine⟨BH.Keeps.refl K,?_⟩
    intro hm
    obtain⟨j,hj⟩:=List.getElem?_of_mem hm
    have hjl:=(List.getElem?_eq_some_iff.1 hj).1
    rw[hall j hjl] at hj
    cases hj
  obtain⟨v,K,h1,_,rfl,r,rfl,h3⟩:=this
  exact⟨r,h1,h3⟩
 refine aN hr ?_
 simp[hrt]
theorem aJ7(t s:Nat)(A:Aut)(m:BV)(H:BH)(h:RdM H t s A m)(hn:A.y.length≤1000000000):FnDoes (gam aA) 139 [m] H fun v _=>v=.bool (!A.y.contains true):=by
 refine FnDoes.of (fn:=ir139) rfl ?_
 obtain⟨u,x,rfl,hu,hx⟩:=h
 have u1:=hu.one
 have x1:=aF hx.isSl
 simp[ir139,u1,x1]
 intro n1 b1 f1
 have o1:=Own.start (aA:=aA) (H:=H) |>.new f1 b1 (s:=.arr 77 [aB t,aB s,u,x])
 have r2:=aD (o1.at 0 (b:=n1) rfl) (rt:=none) (j:=2) (c:=u) rfl rfl
 simp[aC f1 b1,r2]
 refine aN (x_indexB A.y u _ (hu.keeps o1.keeps) hn) ?_
 simp
 exact o1.keeps
def iN(w:Nat)(A B:Aut)(op:Bool→Bool→Bool):Aut:=⟨(List.range (A.y.length*B.y.length)).map fun p=>op (A.y.getD (p / B.y.length) false) (B.y.getD (p % B.y.length) false),
 (List.range (A.y.length*B.y.length)).map fun p=>(List.range w).map fun c=>A.to (p / B.y.length) c*B.y.length+B.to (p % B.y.length) c⟩
section
variable {w:Nat} {A B:Aut} {op:Bool→Bool→Bool}
theorem tW{a m i k:Nat}(h1:i<a)(h2:k<m):i*m+k<a*m:=by
 have:i*m+m≤a*m:=by rw[←Nat.succ_mul];exact Nat.mul_le_mul_right _ h1
 omega
theorem sO:(iN w A B op).y.length=A.y.length*B.y.length:=by simp[iN]
theorem prodA_to{p c:Nat}(hp:p<A.y.length*B.y.length)(hc:c<w):(iN w A B op).to p c=A.to (p / B.y.length) c*B.y.length+B.to (p % B.y.length) c:=by
 show ((iN w A B op).nxt.getD p []).getD c 0=_
 unfold iN
 simp[hp,hc]
theorem aC2(hA:A.Ok w)(hB:B.Ok w):(iN w A B op).Ok w:=by
 refine⟨by simp[iN],by rw[sO];exact Nat.mul_pos hA.pos hB.pos,fun r hr=>?_⟩
 simp only[iN,List.mem_map,List.mem_range] at hr
 obtain⟨p,hp,rfl⟩:=hr
 refine⟨by simp,fun q hq=>?_⟩
 simp only[List.mem_map,List.mem_range] at hq
 obtain⟨c,hc,rfl⟩:=hq
 rw[sO]
 exact tW (hA.to (Nat.div_lt_of_lt_mul (by rw[Nat.mul_comm];exact hp)) hc) (hB.to (Nat.mod_lt _ hB.pos) hc)
theorem qG(hA:A.Ok w)(hB:B.Ok w):∀(cs:List Nat) (i k:Nat),i<A.y.length→k<B.y.length→In w cs→(iN w A B op).lang (i*B.y.length+k) cs=op (A.lang i cs) (B.lang k cs)
 | [],i,k,hi,hk,_=>by
  have hp:=tW hi hk
  show (iN w A B op).y.getD (i*B.y.length+k) false=op (A.y.getD i false) (B.y.getD k false)
  unfold iN
  rw[getD_map (by simpa using hp)]
  have h1:(i*B.y.length+k) / B.y.length=i:=by rw[Nat.mul_comm,Nat.mul_add_div hB.pos,Nat.div_eq_of_lt hk,Nat.add_zero]
  have h2:(i*B.y.length+k) % B.y.length=k:=by rw[Nat.mul_comm,Nat.mul_add_mod,Nat.mod_eq_of_lt hk]
  simp[h1,h2]
 | c::cs,i,k,hi,hk,hin=>by
  have h1:(i*B.y.length+k) / B.y.length=i:=by rw[Nat.mul_comm,Nat.mul_add_div hB.pos,Nat.div_eq_of_lt hk,Nat.add_zero]
  have h2:(i*B.y.length+k) % B.y.length=k:=by rw[Nat.mul_comm,Nat.mul_add_mod,Nat.mod_eq_of_lt hk]
  show (iN w A B op).lang ((iN w A B op).to (i*B.y.length+k) c) cs=op (A.lang (A.to i c) cs) (B.lang (B.to k c) cs)
  rw[prodA_to (tW hi hk) hin.head,h1,h2]
  exact qG hA hB cs _ _ (hA.to hi hin.head) (hB.to hk hin.head) hin.tail
end
theorem RdP.cell{H K:BH}{x:BV}{A:Aut}{w:Nat}(hx:RdR H 36 2 x aB A.nxt)(hok:A.Ok w)(k:H.Keeps K){q c:Nat}(hq:q<A.y.length)(hc:c<w):
  ∃ri,ri.isSl=true∧ri.slen=w∧(∀rt,dF rt 36=true→K.rd rt none (x.sat q 1)=some ri)∧K.rd none none (ri.sat c 1)=some (aB (A.to q c)):=by
 have h1:q<A.nxt.length:=by rw[hok.len];exact hq
 obtain⟨r,g1,g2,g3⟩:=iL hok hq hc
 have e1:A.nxt.getD q []=A.nxt[q]:=by simp[h1]
 rw[e1] at g1
 subst g1
 have h2:c<A.nxt[q].length:=by omega
 rw[List.getElem?_eq_getElem h2] at g3
 obtain⟨ri,hri,hrr⟩:=hx.at h1
 have:=(hri.keeps k).at h2 (rt:=none) rfl
 refine⟨ri,hri.isSl,by rw[hri.lenM,g2],fun rt h=>aJ k (hrr rt h),?_⟩
 rw[this]
 simp at g3
 rw[g3]
theorem RdP.row0{H K:BH}{x:BV}{A:Aut}{w:Nat}(hx:RdR H 36 2 x aB A.nxt)(hok:A.Ok w)(k:H.Keeps K){q:Nat}(hq:q<A.y.length):
  ∃ri,ri.isSl=true∧ri.slen=w∧(∀rt,dF rt 36=true→K.rd rt none (x.sat q 1)=some ri)∧∀c,c<w→K.rd none none (ri.sat c 1)=some (aB (A.to q c)):=by
 have h1:q<A.nxt.length:=by rw[hok.len];exact hq
 obtain⟨ri,hri,hrr⟩:=hx.at h1
 have hl:=(hok.row _ (List.getElem_mem h1)).1
 refine⟨ri,hri.isSl,by rw[hri.lenM,hl],fun rt h=>aJ k (hrr rt h),fun c hc=>?_⟩
 have h2:c<A.nxt[q].length:=by omega
 rw[(hri.keeps k).at h2 (rt:=none) rfl]
 obtain⟨r,g1,g2,g3⟩:=iL hok hq hc
 have e1:A.nxt.getD q []=A.nxt[q]:=by simp[h1]
 rw[e1] at g1
 subst g1
 rw[List.getElem?_eq_getElem h2] at g3
 simp at g3
 rw[g3]
theorem s_differ (t ra rb:Nat) (ht:t≤3) (A B:Aut) (H:BH) (hA:RdP H ra t 0 A) (hB:RdP H rb t 0 B) (hokA:A.Ok (wd t)) (hokB:B.Ok (wd t)) (hn:A.y.length*B.y.length≤1000000000) (hna:A.y.length≤1000000) (hnb:B.y.length≤1000000):FnDoes (gam aA) 235 [.ptr ra 0,.ptr rb 0] H fun v K=>OwnRel aA H K t 0 (iN (wd t) A B (fun a b=>a != b)) v:=by
 refine FnDoes.hide fun R hR=>?_
 refine FnDoes.of (fn:=ir235) rfl ?_
 obtain⟨u,x,hr,hu,hx⟩:=hA
 obtain⟨u',x',hr',hu',hx'⟩:=hB
 obtain⟨a,ha⟩:∃a,a=A.y.length:=⟨_,rfl⟩
 obtain⟨m,hm⟩:∃m,m=B.y.length:=⟨_,rfl⟩
 have hm0:0<m:=by rw[hm];exact hokB.pos
 rw[←ha,←hm] at hn
 rw[←ha] at hna
 rw[←hm] at hnb
 have hw3:=eQ ht
 obtain⟨fa,hfa⟩:∃fa:Nat→Bool,fa=fun p=>A.y.getD (p / m) false != B.y.getD (p % m) false:=⟨_,rfl⟩
 obtain⟨fx,hfx⟩:∃fx:Nat→Nat→Nat,fx=fun p c=>A.to (p / m) c*m+B.to (p % m) c:=⟨_,rfl⟩
 have hpr:iN (wd t) A B (fun a b=>a != b)=⟨(List.range (a*m)).map fa,(List.range (a*m)).map fun p=>(List.range (wd t)).map (fx p)⟩:=by rw[hfa,hfx,ha,hm];rfl
 rw[hpr] at hR
 simp[ir235]
 intro n4 b4 f4
 have o1:=Own.start (aA:=aA) (H:=H) |>.new f4 b4 (s:=.arr 25 [.int .i64 0,.int .i64 0,.nils,.nils])
 have r0:=aJ o1.keeps (aD hr (rt:=none) (j:=0) (c:=aB t) rfl rfl)
 have r1:=aJ o1.keeps (aD hr (rt:=none) (j:=1) (c:=aB 0) rfl rfl)
 have r2':=aJ o1.keeps (aD hr' (rt:=none) (j:=2) (c:=u') rfl rfl)
 have r1':=aJ o1.keeps (aD hr' (rt:=none) (j:=1) (c:=aB 0) rfl rfl)
 have hul:u'.slen=m:=by rw[hu'.lenM,hm]
 have w00:IntKind.i64.wrap 0=0:=rfl
 simp[aC f4 b4,r0,r1,r1',r2',hu'.isSl,hul,w00]
 intro n6 b6 f6
 obtain⟨K3,g3,o3⟩:=(o1.new f6 b6 (s:=.arr 25 [.int .i64 0,.int .i64 0,.nils,.nils])).putAll 0 (b:=n6) (n:=4) (ds:=[aB t,.int .i64 0,.nils,.nils]) rfl rfl rfl rfl (rt:=none) rfl
 simp[aC f6 b6,g3]
 have hal:u.slen=a:=by rw[hu.lenM,ha]
 -- the state with so many pairs
 obtain⟨S,hS⟩:∃S:Nat→BH→Prop,S=(fun p K=>∃y z bo wo vs fr,Own aA H K ([(wo,.arr 36 vs),(bo,.arr 4 (((List.range p).map fa).map aK)),(some n6,.arr 25 [aB t,.int .i64 0,y,z]),(some n4,.arr 25 [.int .i64 0,.int .i64 0,.nils,.nils])]++fr) ∧
  Vec bo y p∧Vec wo z p∧vs.length=p∧RowsOf 2 vs fr (((List.range p).map fun p=>(List.range (wd t)).map (fx p)).map (·.map aB))):=⟨_,rfl⟩
 obtain⟨I,hI⟩:∃I:Nat→Env→BH→Prop,I=(fun i e K=>e 7=aB i∧S (i*m) K):=⟨_,rfl⟩
 refine aE a [(0,.ptr ra 0),(1,.ptr rb 0),(4,.ptr n4 0),(5,aB m),(6,.ptr n6 0)] I (i0:=0) ?_ ?_ ?_ (Nat.zero_le _) ?_
 ·rfl
 ·simp
 ·rw[hI,hS]
  refine⟨by simp,.nils,.nils,none,none,[],[],?_,?_,?_,by simp,by simp[RowsOf]⟩
  ·simpa using (o3.nil (.arr 4 [])).nil (.arr 36 [])
  ·rw[Nat.zero_mul];exact Vec.none
  ·rw[Nat.zero_mul];exact Vec.none
 clear o1 o3 r0 r1 r1' r2' g3
 rintro i e K hi ⟨e0,e1,e4,e5,e6,-⟩ hh
 rw[hI] at hh
 obtain⟨e7,hs⟩:=hh
 simp only[] at e0 e1 e4 e5 e6
 have wi:=wS (n:=i) (by omega)
 have hk:H.Keeps K:=by rw[hS] at hs;obtain⟨y,z,bo,wo,vs,fr,o,_⟩:=hs;exact o.keeps
 have r2:=aJ hk (aD hr (rt:=none) (j:=2) (c:=u) rfl rfl)
 by_cases hlt:i<a
 ·have hiA:i<A.y.length:=by omega
  simp[e0,e7,r2,hu.isSl,hal,hlt]
  obtain⟨J,hJ⟩:∃J:Nat→Env→BH→Prop,J=(fun k e K=>e 8=aB k∧S (i*m+k) K):=⟨_,rfl⟩
  refine aE m [(0,.ptr ra 0),(1,.ptr rb 0),(4,.ptr n4 0),(5,aB m),(6,.ptr n6 0),(7,aB i)] J (i0:=0) ?_ ?_ ?_ (Nat.zero_le _) ?_
  ·rfl
  ·simp[e0,e1,e4,e5,e6,e7]
  ·rw[hJ]
   exact⟨by simp,hs⟩
  clear e0 e1 e4 e5 e6 e7 hs hk r2
  rintro k e K hk ⟨e0,e1,e4,e5,e6,e7,-⟩ hh
  rw[hJ] at hh
  obtain⟨e8,hs⟩:=hh
  simp only[] at e0 e1 e4 e5 e6 e7
  have wk:=wS (n:=k) (by omega)
  have hs0:=hs
  rw[hS] at hs0
  obtain⟨y,z,bo,wo,vs,fr,o,hy,hz,hvs,hrows⟩:=hs0
  have r2':=aJ o.keeps (aD hr' (rt:=none) (j:=2) (c:=u') rfl rfl)
  by_cases hltk:k<m
  ·have hkB:k<B.y.length:=by omega
   have hpm:i*m+k<a*m:=tW hlt hltk
   have d1:(i*m+k) / m=i:=by rw[Nat.mul_comm,Nat.mul_add_div hm0,Nat.div_eq_of_lt hltk,Nat.add_zero]
   have d2:(i*m+k) % m=k:=by rw[Nat.mul_comm,Nat.mul_add_mod,Nat.mod_eq_of_lt hltk]
   obtain⟨p,hp⟩:∃p,p=i*m+k:=⟨_,rfl⟩
   rw[←hp] at o hy hz hvs hrows hpm d1 d2
   simp[e1,e8,r2',hu'.isSl,hul,hltk]
   intro n9 b9 f9
   have o1:=o.new f9 b9 (s:=.arr 2 [])
   simp[aC f9 b9]
   obtain⟨L,hL⟩:∃L:Nat→Env→BH→Prop,L=(fun c e K=>e 10=aB c∧∃v9 ro,e 9=v9∧Own aA H K ([(ro,.arr 2 (((List.range c).map (fx p)).map aB)),(wo,.arr 36 vs),(bo,.arr 4 (((List.range p).map fa).map aK)),(some n6,.arr 25 [aB t,.int .i64 0,y,z]),(some n4,.arr 25 [.int .i64 0,.int .i64 0,.nils,.nils])]++fr)∧Vec ro v9 c):=⟨_,rfl⟩
   refine aE (wd t) [(0,.ptr ra 0),(1,.ptr rb 0),(4,.ptr n4 0),(5,aB m),(6,.ptr n6 0),(7,aB i),(8,aB k)] L (i0:=0) ?_ ?_ ?_ (Nat.zero_le _) ?_
   ·rfl
   ·simp[e0,e1,e4,e5,e6,e7,e8]
   ·rw[hL]
    exact⟨by simp,.sl n9 0 0,some n9,by simp,by simpa using o1,rfl⟩
   clear e0 e1 e4 e5 e6 e7 e8 o o1 r2'
   rintro c e M hc ⟨e0,e1,e4,e5,e6,e7,e8,-⟩ hh
   rw[hL] at hh
   obtain⟨e10,v9,ro,e9,o,hv9⟩:=hh
   simp only[] at e0 e1 e4 e5 e6 e7 e8
   have wc:=wS (n:=c) (by omega)
   have r3:=aJ o.keeps (aD hr (rt:=none) (j:=3) (c:=x) rfl rfl)
   have r3':=aJ o.keeps (aD hr' (rt:=none) (j:=3) (c:=x') rfl rfl)
   have hxl:x.slen=a:=by rw[hx.len,hokA.len,ha]
   have hxl':x'.slen=m:=by rw[hx'.len,hokB.len,hm]
   obtain⟨ri,ri1,ri2,ri3,ri4⟩:=RdP.row0 hx hokA o.keeps hiA
   have ri3:=ri3 none rfl
   simp[e0,e7,e10,r3,hx.isSl,hxl,hlt,ri3,ri1,ri2]
   by_cases hcw:c<wd t
   ·obtain⟨rj,rj1,rj2,rj3,rj4⟩:=RdP.row0 hx' hokB o.keeps hkB
    have rj3:=rj3 none rfl
    have ri4:=ri4 c hcw
    have rj4:=rj4 c hcw
    have ta:=hokA.to hiA hcw
    have tb:=hokB.to hkB hcw
    have hfp:fx p c=A.to i c*m+B.to k c:=by rw[hfx];simp only[d1,d2]
    have hfb:fx p c<a*m:=by rw[hfp];exact tW (by omega) (by omega)
    obtain⟨zA,hzA⟩:∃zA,zA=A.to i c:=⟨_,rfl⟩
    obtain⟨zB,hzB⟩:∃zB,zB=B.to k c:=⟨_,rfl⟩
    obtain⟨zM,hzM⟩:∃zM,zM=zA*m:=⟨_,rfl⟩
    rw[←hzA] at ri4 hfp
    rw[←hzB] at rj4 hfp
    rw[←hzM] at hfp
    have hmz:IntKind.i64.wrap ((zA:Int)*(m:Int))=(zM:Int):=by rw[←Int.natCast_mul,←hzM];exact wN (by omega)
    obtain⟨fp,hfp2⟩:∃fp,fp=fx p c:=⟨_,rfl⟩
    rw[←hfp2] at hfp hfb
    have hma:IntKind.i64.wrap ((zM:Int)+(zB:Int))=(fp:Int):=by rw[←Int.natCast_add,←hfp];exact wN (by omega)
    simp[hcw,e9,e0,e1,e5,e7,e8,e10,r3,r3',hx.isSl,hxl,hlt,ri3,ri1,ri2,ri4,hx'.isSl,hxl',hltk,rj3,rj1,rj2,rj4,hmz,hma]
    intro n1 b1 f1
    simp[aC f1 b1]
    intro n5 b5 f5
    obtain⟨v',K',b',q1,q2,q3⟩:=o.push 0 rfl (v:=v9) (by simpa using hv9) (x:=aB fp) (bytes:=8) rfl (by simp;omega) (by simp;omega) f1 b1 f5 b5
    simp[q1,e10,wc,hcw]
    rw[hL]
    refine⟨by simp,v',some b',by simp,?_,by simpa using q3⟩
    rw[List.range_succ,List.map_append,List.map_append]
    simpa[←hfp2] using q2
   ·have hce:c=wd t:=by omega
    subst hce
    have q0:=aD (o.at 3 (b:=n6) rfl) (rt:=none) (j:=2) (c:=y) rfl rfl
    have r2:=aJ o.keeps (aD hr (rt:=none) (j:=2) (c:=u) rfl rfl)
    have r2':=aJ o.keeps (aD hr' (rt:=none) (j:=2) (c:=u') rfl rfl)
    have ra1:=(hu.keeps o.keeps).at hiA (rt:=none) rfl
    have rb1:=(hu'.keeps o.keeps).at hkB (rt:=none) rfl
    simp[e6,q0,e0,r2,e7,hu.isSl,hal,hlt,ra1,e1,r2',e8,hu'.isSl,hul,hltk,rb1]
    intro n1 b1 f1
    simp[aC f1 b1]
    intro n5 b5 f5
    have hti:((List.range p).map fa).length=p:=by simp
    have hfap:fa p=!(A.y[i]==B.y[k]):=by rw[hfa];simp only[d1,d2];simp[hiA,hkB];rfl
    obtain⟨v',K2,b',q1,o2,q3⟩:=o.push 2 rfl (v:=y) (by simp only[List.length_map,List.length_range];exact hy) (x:=aK (!(A.y[i]==B.y[k]))) (bytes:=1) rfl (by simp;omega) (by simp;omega) f1 b1 f5 b5
    obtain⟨K3,q2,o3⟩:=o2.put 3 (b:=n6) rfl (j:=2) (u:=v') (by simp) q3.one (rt:=none) rfl
    have q4:=aD (o3.at 3 (b:=n6) rfl) (rt:=none) (j:=3) (c:=z) rfl rfl
    have h9:=hv9.one
    simp[q1,q2,e6,q4,e9,h9,cells_one h9]
    intro n5' b5' f5'
    simp[aC f5' b5']
    intro n7 b7 f7
    obtain⟨w2,K5,c',p1,o4,p3⟩:=o3.push 1 rfl (v:=z) (by rw[hvs];exact hz) (x:=v9) (bytes:=24) h9 (by omega) (by omega) f5' b5' f7 b7
    obtain⟨K7,p2,o5⟩:=o4.put 3 (b:=n6) rfl (j:=3) (u:=w2) (by simp) p3.one (rt:=none) rfl
    simp[p1,p2,e6,e8,wk,hltk]
    rw[hJ,hS]
    refine⟨by simp,v',w2,some b',some c',vs++[v9],fr++[(ro,.arr 2 (((List.range (wd t)).map (fx p)).map aB))],?_,?_,?_,by simp[hvs,hp];omega,?_⟩
    ·rw[←Nat.add_assoc,←hp]
     refine Own.last (p:=(ro,.arr 2 (((List.range (wd t)).map (fx p)).map aB))) (F:=[(some c',.arr 36 (vs++[v9])),(some b',.arr 4 (((List.range (p+1)).map fa).map aK)),(some n6,.arr 25 [aB t,.int .i64 0,v',w2]),(some n4,.arr 25 [.int .i64 0,.int .i64 0,.nils,.nils])]) ?_
     rw[List.range_succ (n:=p),List.map_append,List.map_append]
     simpa[hfap] using o5
    ·rw[←Nat.add_assoc,←hp]
     simpa using q3
    ·rw[←Nat.add_assoc,←hp]
     rw[hvs] at p3
     exact p3
    ·rw[←Nat.add_assoc,←hp,List.range_succ (n:=p),List.map_append,List.map_append]
     exact hrows.snoc (by simpa using hv9)
  ·have hke:k=m:=by omega
   subst hke
   simp[e1,e8,r2',hu'.isSl,hul,e7,wi,hlt]
   rw[hI]
   refine⟨by simp,?_⟩
   rw[Nat.succ_mul]
   exact hs
 ·have hie:i=a:=by omega
  subst hie
  rw[hS] at hs
  obtain⟨y,z,bo,wo,vs,fr,o,hy,hz,hvs,hrows⟩:=hs
  have r9:=aI (o.at 2 (b:=n6) rfl) (n:=4) (rt:=none) rfl rfl
  obtain⟨K9,g9,o9⟩:=o.putAll 3 (b:=n4) (n:=4) (ds:=[aB t,.int .i64 0,y,z]) rfl rfl rfl (by simp[hy.one,hz.one]) (rt:=none) rfl
  have r10:=aI (o9.at 3 (b:=n4) rfl) (n:=4) (rt:=none) rfl rfl
  simp[e0,e7,r2,hu.isSl,hal,e4,e6,r9,g9,r10]
  rw[hR]
  refine⟨o9.keeps,y,z,bo,wo,vs,fr,rfl,?_,by simpa using hy,by rw[hvs];exact hz,hrows⟩
  have o10:Own aA H K9 ((wo,.arr 36 vs)::(bo,.arr 4 (((List.range (i*m)).map fa).map aK))::fr):=o9.sub (.cons_cons _ (.cons_cons _ (.cons _ (.cons _ (List.Sublist.refl _)))))
  exact o10.perm (List.Perm.swap _ _ _)
def opW(way:Nat)(a b:Bool):Bool:=if way=1 then a&&b else if way=2 then a||b else a&&!b
theorem aT2{α:Type}{f g:Nat→α}{n p:Nat}(hp:p<n):((List.range n).map fun q=>if q<p then f q else g q).set p (f p)=(List.range n).map fun q=>if q<p+1 then f q else g q:=by
 apply List.ext_getElem?
 intro i
 by_cases hi:i<n
 ·rw[List.getElem?_set]
  by_cases h:p=i
  ·subst h;simp[hp]
  ·simp only[h,if_false,List.getElem?_map,List.getElem?_range hi,Option.map_some]
   by_cases h1:i<p
   ·rw[if_pos h1,if_pos (by omega)]
   ·rw[if_neg h1,if_neg (by omega)]
 ·rw[List.getElem?_eq_none (by simp;omega),List.getElem?_eq_none (by simp;omega)]
theorem s_pairs(t ra rb way:Nat)(ht:t≤3)(A B:Aut)(H:BH)(hA:RdP H ra t 0 A)(hB:RdP H rb t 0 B)(hokA:A.Ok (wd t))(hokB:B.Ok (wd t))(hn:A.y.length*B.y.length≤1000000000)(hna:A.y.length≤1000000)(hnb:B.y.length≤1000000):FnDoes (gam aA) 205 [.ptr ra 0,.ptr rb 0,aB way] H fun v K=>OwnRel aA H K t 0 (iN (wd t) A B (opW way)) v:=by
 refine FnDoes.hide fun R hR=>?_
 refine FnDoes.of (fn:=ir205) rfl ?_
 have hA0:=hA
 have hB0:=hB
 obtain⟨u,x,hr,hu,hx⟩:=hA
 obtain⟨u',x',hr',hu',hx'⟩:=hB
 obtain⟨a,ha⟩:∃a,a=A.y.length:=⟨_,rfl⟩
 obtain⟨m,hm⟩:∃m,m=B.y.length:=⟨_,rfl⟩
 have hm0:0<m:=by rw[hm];exact hokB.pos
 obtain⟨ft,hft⟩:∃ft:Nat→Bool,ft=fun p=>opW way (A.y.getD (p / m) false) (B.y.getD (p % m) false):=⟨_,rfl⟩
 obtain⟨fd,hfd⟩:∃fd:Nat→Bool,fd=fun p=>A.y.getD (p / m) false != B.y.getD (p % m) false:=⟨_,rfl⟩
 obtain⟨nx,hnx⟩:∃nx,nx=(iN (wd t) A B (fun a b=>a != b)).nxt:=⟨_,rfl⟩
 have hpd:(iN (wd t) A B (fun a b=>a != b)).y=(List.range (a*m)).map fd:=by rw[hfd,ha,hm];rfl
 have hpr:iN (wd t) A B (opW way)=⟨(List.range (a*m)).map ft,nx⟩:=by rw[hft,ha,hm,hnx];rfl
 rw[hpr] at hR
 have hal:u.slen=a:=by rw[hu.lenM,ha]
 have hul:u'.slen=m:=by rw[hu'.lenM,hm]
 simp[ir205]
 intro n6 b6 f6
 have o1:=Own.start (aA:=aA) (H:=H) |>.new f6 b6 (s:=.arr 25 [.int .i64 0,.int .i64 0,.nils,.nils])
 simp[aC f6 b6]
 refine(s_differ t ra rb ht A B _ (hA0.keeps o1.keeps) (hB0.keeps o1.keeps) hokA hokB hn hna hnb).step fun v K hk hv=>?_
 obtain⟨y,z,bo,wo,vs,fr,rfl,o2,hy,hz,hrows⟩:=hv
 rw[←hnx] at hrows
 rw[hpd] at o2 hy
 have hyl:Vec bo y (a*m):=by simpa using hy
 have o3:=o1.join hk o2
 clear o1 o2
 simp
 intro n7 b7 f7
 obtain⟨K4,g4,o4⟩:=(o3.new f7 b7 (s:=.arr 25 [.int .i64 0,.int .i64 0,.nils,.nils])).putAll 0 (b:=n7) (n:=4) (ds:=[aB t,aB 0,y,z]) rfl rfl rfl (by simp[hy.one,hz.one]) (rt:=none) rfl
 rw[←ha,←hm] at hn
 rw[←ha] at hna
 rw[←hm] at hnb
 have r2':=aJ o4.keeps (aD hr' (rt:=none) (j:=2) (c:=u') rfl rfl)
 simp[aC f7 b7,g4,r2',hu'.isSl,hul]
 obtain⟨S,hS⟩:∃S:Nat→BH→Prop,S=(fun p K=>Own aA H K ([(bo,.arr 4 (((List.range (a*m)).map fun q=>if q<p then ft q else fd q).map aK)),(some n7,.arr 25 [aB t,aB 0,y,z]),(some n6,.arr 25 [.int .i64 0,.int .i64 0,.nils,.nils])]++((wo,.arr 36 vs)::fr))):=⟨_,rfl⟩
 obtain⟨I,hI⟩:∃I:Nat→Env→BH→Prop,I=(fun i e K=>e 9=aB i∧S (i*m) K):=⟨_,rfl⟩
 refine aE a [(0,.ptr ra 0),(1,.ptr rb 0),(2,aB way),(6,.ptr n6 0),(7,.ptr n7 0),(8,aB m)] I (i0:=0) ?_ ?_ ?_ (Nat.zero_le _) ?_
 ·rfl
 ·simp
 ·rw[hI,hS]
  refine⟨by simp,?_⟩
  rw[Nat.zero_mul]
  have hz0:((List.range (a*m)).map fun q=>if q<0 then ft q else fd q)=(List.range (a*m)).map fd:=by simp
  simp only[]
  rw[hz0]
  refine o4.perm ?_
  simp only[List.set_cons_zero,List.cons_append,List.nil_append]
  exact(List.Perm.swap _ _ _).trans (List.Perm.cons _ (List.Perm.swap _ _ _))
 clear o4 g4 r2'
 rintro i e K hi ⟨e0,e1,e2,e6,e7,e8,-⟩ hh
 rw[hI] at hh
 obtain⟨e9,hs⟩:=hh
 simp only[] at e0 e1 e2 e6 e7 e8
 have wi:=wS (n:=i) (by omega)
 have hk:H.Keeps K:=by rw[hS] at hs;exact hs.keeps
 have r2:=aJ hk (aD hr (rt:=none) (j:=2) (c:=u) rfl rfl)
 by_cases hlt:i<a
 ·have hiA:i<A.y.length:=by omega
  simp[e0,e9,r2,hu.isSl,hal,hlt]
  obtain⟨J,hJ⟩:∃J:Nat→Env→BH→Prop,J=(fun k e K=>e 10=aB k∧S (i*m+k) K):=⟨_,rfl⟩
  refine aE m [(0,.ptr ra 0),(1,.ptr rb 0),(2,aB way),(6,.ptr n6 0),(7,.ptr n7 0),(8,aB m),(9,aB i)] J (i0:=0) ?_ ?_ ?_ (Nat.zero_le _) ?_
  ·rfl
  ·simp[e0,e1,e2,e6,e7,e8,e9]
  ·rw[hJ]
   exact⟨by simp,hs⟩
  clear e0 e1 e2 e6 e7 e8 e9 hs hk r2
  rintro k e K hk ⟨e0,e1,e2,e6,e7,e8,e9,-⟩ hh
  rw[hJ] at hh
  obtain⟨e10,hs⟩:=hh
  simp only[] at e0 e1 e2 e6 e7 e8 e9
  have wk:=wS (n:=k) (by omega)
  have hs0:=hs
  rw[hS] at hs0
  by_cases hltk:k<m
  ·have hkB:k<B.y.length:=by omega
   have hpm:i*m+k<a*m:=tW hlt hltk
   have d1:(i*m+k) / m=i:=by rw[Nat.mul_comm,Nat.mul_add_div hm0,Nat.div_eq_of_lt hltk,Nat.add_zero]
   have d2:(i*m+k) % m=k:=by rw[Nat.mul_comm,Nat.mul_add_mod,Nat.mod_eq_of_lt hltk]
   have hfp:ft (i*m+k)=opW way A.y[i] B.y[k]:=by rw[hft];simp only[d1,d2];simp[hiA,hkB]
   obtain⟨zM,hzM⟩:∃zM,zM=i*m:=⟨_,rfl⟩
   have hmz:IntKind.i64.wrap ((i:Int)*(m:Int))=(zM:Int):=by rw[←Int.natCast_mul,←hzM];exact wN (by omega)
   rw[←hzM] at hpm hfp hs0
   obtain⟨p,hp⟩:∃p,p=zM+k:=⟨_,rfl⟩
   rw[←hp] at hpm hfp hs0
   have hma:IntKind.i64.wrap ((zM:Int)+(k:Int))=(p:Int):=by rw[←Int.natCast_add,←hp];exact wN (by omega)
   have r2:=aJ hs0.keeps (aD hr (rt:=none) (j:=2) (c:=u) rfl rfl)
   have r2':=aJ hs0.keeps (aD hr' (rt:=none) (j:=2) (c:=u') rfl rfl)
   have ra1:=(hu.keeps hs0.keeps).at hiA (rt:=none) rfl
   have rb1:=(hu'.keeps hs0.keeps).at hkB (rt:=none) rfl
   have q0:=aD (hs0.at 1 (b:=n7) rfl) (rt:=none) (j:=2) (c:=y) rfl rfl
   obtain⟨av,hav⟩:∃av,av=A.y[i]:=⟨_,rfl⟩
   obtain⟨bv,hbv⟩:∃bv,bv=B.y[k]:=⟨_,rfl⟩
   rw[←hav] at ra1 hfp
   rw[←hbv] at rb1 hfp
   obtain⟨K5,g5,o5⟩:=hs0.wr 0 rfl (by simpa using hyl) (j:=p) (by simpa using hpm) (u:=aK (opW way av bv)) rfl (rt:=none) rfl
   have hend:S (i*m+(k+1)) K5:=by
    rw[hS,←Nat.add_assoc,←hzM,←hp]
    have:=o5
    rw[←hfp,←List.map_set,aT2 hpm] at this
    simpa using this
   have hys:=hyl.isSl
   have hysl:=hyl.len
   simp[e0,e1,e2,e7,e8,e9,e10,r2,r2',hu.isSl,hal,hu'.isSl,hul,hlt,hltk,ra1,rb1]
   by_cases hw1:way=1
   ·subst hw1
    simp only[opW,if_true] at g5
    simp[e2,e7,e8,e9,e10,q0,hmz,hma,hys,hysl,hpm,hpm]
    cases av<;>simp at g5 ⊢<;>simp[g5,e10,wk,hltk,hys,hysl,hpm]<;>(rw[hJ];exact⟨by simp,hend⟩)
   ·by_cases hw2:way=2
    ·subst hw2
     simp only[opW,if_true,show ¬(2:Nat)=1 by decide,if_false] at g5
     simp[e2,e7,e8,e9,e10,q0,hmz,hma,hys,hysl,hpm,hpm]
     cases av<;>simp at g5 ⊢<;>simp[g5,e10,wk,hltk,hys,hysl,hpm]<;>(rw[hJ];exact⟨by simp,hend⟩)
    ·have h1:((way:Int)==1)=false:=by simp;omega
     have h2:((way:Int)==2)=false:=by simp;omega
     simp only[opW,if_neg hw1,if_neg hw2] at g5
     simp[e2,h1,h2,e7,e8,e9,e10,q0,hmz,hma,hys,hysl,hpm,hpm]
     cases av<;>simp at g5 ⊢<;>simp[g5,e10,wk,hltk,hys,hysl,hpm]<;>(rw[hJ];exact⟨by simp,hend⟩)
  ·have hke:k=m:=by omega
   subst hke
   simp[e8,e10,e9,wi,hlt]
   rw[hI]
   refine⟨by simp,?_⟩
   rw[Nat.succ_mul]
   exact hs
 ·have hie:i=a:=by omega
  subst hie
  rw[hS] at hs
  have r9:=aI (hs.at 1 (b:=n7) rfl) (n:=4) (rt:=none) rfl rfl
  obtain⟨K9,g9,o9⟩:=hs.putAll 2 (b:=n6) (n:=4) (ds:=[aB t,aB 0,y,z]) rfl rfl rfl (by simp[hy.one,hz.one]) (rt:=none) rfl
  have r10:=aI (o9.at 2 (b:=n6) rfl) (n:=4) (rt:=none) rfl rfl
  simp[e0,e9,r2,hu.isSl,hal,e6,e7,r9,g9,r10]
  rw[hR]
  have hz1:((List.range (i*m)).map fun q=>if q<i*m then ft q else fd q)=(List.range (i*m)).map ft:=by
   apply List.map_congr_left
   intro q hq
   rw[if_pos (by simpa using hq)]
  rw[hz1] at o9
  exact⟨o9.keeps,y,z,bo,wo,vs,fr,rfl,o9.sub (.cons_cons _ (.cons _ (.cons _ (List.Sublist.refl _)))),by simpa using hyl,hz,hrows⟩
def iE(n:Nat)(ks:List Nat):List Bool:=(List.range n).map fun q=>decide (q∈ks)
theorem fX(n:Nat)(ks:List Nat):(iE n ks).length=n:=by simp[iE]
theorem nU{n q:Nat}{ks:List Nat}(h:q<n):(iE n ks)[q]'(by rw[fX];exact h)=decide (q∈ks):=by simp[iE]
theorem sD{n q:Nat}{ks:List Nat}(h:q<n):(iE n ks).set q true=iE n (ks++[q]):=by
 apply List.ext_getElem
 ·simp[iE]
 ·intro i h1 h2
  have hi:i<n:=by rw[fX] at h2;exact h2
  rw[List.getElem_set,nU hi]
  by_cases hiq:q=i
  ·subst hiq;rw[if_pos rfl,nU hi];simp
  ·rw[if_neg hiq,nU hi]
   have:i∈ks++[q]↔i∈ks:=by simp;intro e;exact absurd e.symm hiq
   rw[Bool.eq_iff_iff];simp only[decide_eq_true_eq];exact this.symm
def Fst(aA:Nat)(H:BH)(n n4:Nat)(ks:List Nat)(e:Env)(K:BH):Prop:=∃v5 v6 v7 lo fo yo,∃(fs:List Int) (bs:List Nat),e 5=v5∧e 6=v6∧e 7=v7 ∧
 Own aA H K [(lo,.arr 2 (ks.map aB)),(fo,.arr 3 (fs.map encI)),(yo,.arr 2 (bs.map aB)),(some n4,.arr 4 ((iE n ks).map aK))]∧Vec lo v5 ks.length∧Vec fo v6 fs.length∧Vec yo v7 bs.length ∧
 fs.length=ks.length∧bs.length=ks.length∧∀j,(h:j<fs.length)→fs[j]<(j:Int)
theorem s_first (t s rb:Nat) (ht:t≤3) (A:Aut) (H:BH) (hA:RdP H rb t s A) (hok:A.Ok (wd t)) (hs:s<A.y.length) (hn:A.y.length≤1000000000):FnDoes (gam aA) 135 [.ptr rb 0] H fun v _=>∃c f,v=.tup [c,.bool f]∧(f=true↔∃cs,In (wd t) cs∧A.lang s cs=true):=by
 refine FnDoes.hide fun R hR=>?_
 refine FnDoes.of (fn:=ir135) rfl ?_
 obtain⟨u,x,hr,hu,hx⟩:=hA
 have hcl:Closed (wd t) A.to s (List.range A.y.length):=⟨by simpa using hs,fun k hk c hc=>by simpa using hok.to (by simpa using hk) hc⟩
 have hdn:Done (wd t) A.to s A.y.length:=by simpa using hcl.done
 obtain⟨n,hnn⟩:∃n,n=A.y.length:=⟨_,rfl⟩
 have hul:u.slen=n:=by rw[hu.lenM,hnn]
 have hsm:=aB1 (a:=fun q=>A.y.getD q false) hdn
 rw[←hnn] at hsm hdn hn
 have hsn:s<n:=by omega
 have hlt:∀i,∀k∈aH (succs (wd t) A.to) s i,k<n:=fun i k hk=>by rw[hnn];simpa using hcl.met i k hk
 have hle:∀i,(aH (succs (wd t) A.to) s i).length≤n:=fun i=>by rw[hnn];simpa using hcl.len i
 have r1:=aD hr (rt:=none) (j:=1) (c:=aB s) rfl rfl
 have r2:=aD hr (rt:=none) (j:=2) (c:=u) rfl rfl
 have c1:(n:Int)≤140737488355328:=by omega
 have c8:8*(n:Int)≤140737488355328:=by omega
 have hw3:=eQ ht
 simp[ir135,r2,hu.isSl,hul,c1,c8]
 intro n4 b4 f4
 have o0:=Own.start (aA:=aA) (H:=H) |>.new f4 b4 (s:=.arr 4 (List.replicate n (.bool false)))
 have r1':=aJ o0.keeps r1
 simp[aC f4 b4,r1',hsn]
 obtain⟨K1,g1,o1⟩:=o0.put 0 (b:=n4) rfl (j:=s) (u:=aK true) (by simp[hsn]) rfl (rt:=none) rfl
 have g1':BH.wr aA (H.set n4 (.arr 4 (List.replicate n (.bool false)))) none 1 (.ptr n4 s) (.bool true)=some K1:=g1
 have r1'':=aJ o1.keeps r1
 simp[g1',r1'']
 intro n5 b5 f5
 have o2:=o1.new f5 b5 (s:=.arr 2 [aB s])
 simp[aC f5 b5]
 intro n6 b6 f6
 have o3:=o2.new f6 b6 (s:=.arr 3 [encI (-1)])
 simp[aC f6 b6]
 intro n7 b7 f7
 have o4:=o3.new f7 b7 (s:=.arr 2 [aB 0])
 simp[aC f7 b7]
 obtain⟨I,hI⟩:∃I:Nat→Env→BH→Prop,I=(fun i e K=>e 8=aB i∧i≤(aH (succs (wd t) A.to) s i).length∧(∀j q,j<i→(aH (succs (wd t) A.to) s i)[j]?=some q→A.y.getD q false=false)∧Fst aA H n n4 (aH (succs (wd t) A.to) s i) e K):=⟨_,rfl⟩
 refine aE n [(0,.ptr rb 0),(4,.sl n4 0 n)] I (i0:=0) ?_ ?_ ?_ (Nat.zero_le _) ?_
 ·rfl
 ·simp
 ·rw[hI]
  refine⟨by simp,Nat.zero_le _,fun j q h=>by omega,.sl n5 0 1,.sl n6 0 1,.sl n7 0 1,some n5,some n6,some n7,[-1],[0],by simp,by simp,by simp,?_,rfl,rfl,rfl,rfl,rfl,?_⟩
  ·have hz:(iE n (aH (succs (wd t) A.to) s 0)).map aK=(List.replicate n (BV.bool false)).set s (.bool true):=by
    have h0:iE n []=List.replicate n false:=by simp[iE,List.map_const']
    have:=sD (n:=n) (q:=s) (ks:=[]) hsn
    rw[List.nil_append] at this
    show (iE n [s]).map aK=_
    rw[←this,h0,List.map_set,List.map_replicate]
   rw[hz]
   refine o4.perm ?_
   simp only[List.set_cons_zero]
   exact(List.Perm.swap _ _ _).trans ((List.Perm.cons _ (List.Perm.swap _ _ _)).trans (List.Perm.swap _ _ _)) |>.trans (by
    simp[aH])
  ·intro j h
   simp at h
   subst h
   simp
 clear o0 o1 o2 o3 o4 g1 g1' r1' r1'' 
 rintro i e K hi ⟨e0,e4,-⟩ hh
 rw[hI] at hh
 obtain⟨e8,hil,hno,hst⟩:=hh
 have hst0:=hst
 obtain⟨v5,v6,v7,lo,fo,yo,fs,bs,e5,e6,e7,o,hv5,hv6,hv7,hfl,hbl,hfs⟩:=hst
 simp only[] at e0 e4
 have wi:=wS (n:=i) (by omega)
 obtain⟨ks,hks⟩:∃ks,ks=aH (succs (wd t) A.to) s i:=⟨_,rfl⟩
 rw[←hks] at hil hno hst0 o hv5 hfl hbl
 have hkl:=hle i
 have hkn:=hlt i
 rw[←hks] at hkl hkn
 have h5s:=hv5.isSl
 have h5l:=hv5.len
 by_cases hltk:i<ks.length
 ·have hin:i<n:=by omega
  obtain⟨q,hq⟩:∃q,q=ks[i]:=⟨_,rfl⟩
  have hqn:q<n:=hkn q (by rw[hq];exact List.getElem_mem hltk)
  have hqA:q<A.y.length:=by omega
  have hrq:=(o.rd 0 rfl (by simpa using hv5)).at hltk (rt:=none) rfl
  rw[←hq] at hrq
  have r2':=aJ o.keeps r2
  have ra:=(hu.keeps o.keeps).at hqA (rt:=none) rfl
  simp[e8,e5,h5s,h5l,hltk,e0,r2',hrq,hu.isSl,hul,hqn,ra]
  obtain⟨av,hav⟩:∃av,av=A.y[q]:=⟨_,rfl⟩
  rw[←hav]
  cases av
  ·simp
   have hnext:aH (succs (wd t) A.to) s (i+1)=lsU ks A.to q (wd t):=by
    rw[aH,←hks,List.getElem?_eq_getElem hltk,←hq]
    rfl
   obtain⟨J,hJ⟩:∃J:Nat→Env→BH→Prop,J=(fun c e K=>e 13=aB c∧Fst aA H n n4 (lsU ks A.to q c) e K):=⟨_,rfl⟩
   refine aE (wd t) [(0,.ptr rb 0),(4,.sl n4 0 n),(8,aB i)] J (i0:=0) ?_ ?_ ?_ (Nat.zero_le _) ?_
   ·rfl
   ·simp[e0,e4,e8]
   ·rw[hJ]
    refine⟨by simp,?_⟩
    rw[mM]
    exact⟨v5,v6,v7,lo,fo,yo,fs,bs,by simp[e5],by simp[e6],by simp[e7],o,hv5,hv6,hv7,hfl,hbl,hfs⟩
   clear hst0 o hv5 hv6 hv7 hfl hbl hfs e0 e4 e5 e6 e7 e8 h5s h5l hrq ra r2'
   clear v5 v6 v7 lo fo yo fs bs
   rintro c e M hc ⟨e0,e4,e8,-⟩ hh
   rw[hJ] at hh
   obtain⟨e13,hst⟩:=hh
   obtain⟨v5,v6,v7,lo,fo,yo,fs,bs,e5,e6,e7,o,hv5,hv6,hv7,hfl,hbl,hfs⟩:=hst
   simp only[] at e0 e4 e8
   have wc:=wS (n:=c) (by omega)
   obtain⟨ls,hls⟩:∃ls,ls=lsU ks A.to q c:=⟨_,rfl⟩
   have hsu:=fH (ks:=ks) (nx:=A.to) (k:=q) c
   rw[←hls] at o hv5 hfl hbl hsu
   have hpre:ks <+: ls:=by rw[hls];exact gZ (Nat.zero_le c)
   have hpl:=hpre.length_le
   have hpn:ls <+: aH (succs (wd t) A.to) s (i+1):=by rw[hnext,hls];exact gZ hc
   have hll:ls.length≤n:=Nat.le_trans hpn.length_le (hle _)
   have hlsi:i<ls.length:=by omega
   have hlq:ls[i]=q:=by
    obtain⟨r,hr⟩:=hpre
    subst hr
    rw[hq,List.getElem_append_left hltk]
   have hrq:=(o.rd 0 rfl (by simpa using hv5)).at hlsi (rt:=none) rfl
   rw[hlq] at hrq
   have h5s:=hv5.isSl
   have h5l:=hv5.len
   have r3:=aJ o.keeps (aD hr (rt:=none) (j:=3) (c:=x) rfl rfl)
   have hxl:x.slen=n:=by rw[hx.len,hok.len,hnn]
   obtain⟨ri,ri1,ri2,ri3,ri4⟩:=RdP.row0 hx hok o.keeps hqA
   have ri3:=ri3 none rfl
   simp[e0,e13,r3,e5,e8,h5s,h5l,hlsi,hrq,hx.isSl,hxl,hqn,ri3,ri1,ri2]
   by_cases hcw:c<wd t
   ·have ri4:=ri4 c hcw
    obtain⟨to,hto⟩:∃to,to=A.to q c:=⟨_,rfl⟩
    rw[←hto] at ri4 hsu
    have htn:to<n:=by rw[hto,hnn];exact hok.to hqA hcw
    have hsg:=(o.rd 3 rfl (v:=.sl n4 0 n) (by rw[List.length_map,fX];exact rfl)).at (i:=to) (by rw[fX];exact htn) (rt:=none) rfl
    rw[nU htn] at hsg
    simp at hsg
    simp[hcw,e0,e13,r3,e5,e8,h5s,h5l,hlsi,hrq,hx.isSl,hxl,hqn,ri3,ri1,ri2,ri4,e4,htn,hsg]
    by_cases hm:to∈ls
    ·have hadd:bF ls to=ls:=by unfold bF;rw[if_pos hm]
     rw[hadd] at hsu
     simp[hm,e13,wc,hcw]
     rw[hJ]
     refine⟨by simp,?_⟩
     rw[hsu]
     exact⟨v5,v6,v7,lo,fo,yo,fs,bs,by simp[e5],by simp[e6],by simp[e7],o,hv5,hv6,hv7,hfl,hbl,hfs⟩
    ·have hadd:bF ls to=ls++[to]:=by unfold bF;rw[if_neg hm]
     rw[hadd] at hsu
     obtain⟨K5,g5,o5⟩:=o.put 3 (b:=n4) rfl (j:=to) (u:=aK true) (by simp[fX,htn]) rfl (rt:=none) rfl
     have g5':M.wr aA none 1 (.ptr n4 to) (.bool true)=some K5:=g5
     simp[hm,e4,htn,g5',e5]
     intro n1 b1 f1
     simp[aC f1 b1]
     intro n2 b2 f2
     obtain⟨v5',K6,lo',q1,q2,q3⟩:=o5.push 0 rfl (v:=v5) (by simpa using hv5) (x:=aB to) (bytes:=8) rfl (by simp;omega) (by simp;omega) f1 b1 f2 b2
     simp[q1,e6,e8]
     intro n1' b1' f1'
     simp[aC f1' b1']
     intro n2' b2' f2'
     obtain⟨v6',K7,fo',p1,p2,p3⟩:=q2.push 1 rfl (v:=v6) (by simpa using hv6) (x:=aB i) (bytes:=8) rfl (by simp;omega) (by simp;omega) f1' b1' f2' b2'
     simp[p1,e7,e13]
     intro n1'' b1'' f1''
     simp[aC f1'' b1'']
     intro n2'' b2'' f2''
     obtain⟨v7',K8,yo',s1,s2,s3⟩:=p2.push 2 rfl (v:=v7) (by simpa using hv7) (x:=aB c) (bytes:=8) rfl (by simp;omega) (by simp;omega) f1'' b1'' f2'' b2''
     simp[s1,e13,wc,hcw]
     rw[hJ]
     refine⟨by simp,?_⟩
     rw[hsu]
     refine⟨v5',v6',v7',some lo',some fo',some yo',fs++[(i:Int)],bs++[c],by simp,by simp,by simp,?_,by simpa using q3,by simpa using p3,by simpa using s3,by simp[hfl],by simp[hbl],?_⟩
     ·rw[←sD htn]
      simpa[List.map_set] using s2
     ·intro j hj
      by_cases hjl:j<fs.length
      ·rw[List.getElem_append_left hjl];exact hfs j hjl
      ·have hje:j=fs.length:=by simp at hj;omega
       subst hje
       simp
       omega
   ·have hce:c=wd t:=by omega
    subst hce
    simp[e8,wi,hin]
    rw[hI]
    rw[←hnext] at hls
    refine⟨by simp,by rw[←hls];omega,fun j q' hj hg=>?_,?_⟩
    ·rw[←hls] at hg
     by_cases hji:j=i
     ·subst hji
      rw[List.getElem?_eq_getElem hlsi,hlq] at hg
      have hqq:q=q':=by simpa using hg
      subst hqq
      simp[hqA,←hav]
     ·refine hno j q' (by omega) ?_
      obtain⟨r,hr⟩:=hpre
      rw[←hr,List.getElem?_append_left (by omega)] at hg
      exact hg
    ·rw[←hls]
     exact⟨v5,v6,v7,lo,fo,yo,fs,bs,by simp[e5],by simp[e6],by simp[e7],o,hv5,hv6,hv7,hfl,hbl,hfs⟩
  ·simp
   intro n9 b9 f9
   have o9:=o.new f9 b9 (s:=.arr 2 [])
   simp[aC f9 b9]
   have hfi:i<fs.length:=by omega
   -- back along the ways
   obtain⟨J,hJ⟩:∃J:Nat→Env→BH→Prop,J=(fun r e K=>∃j v9 wo,∃ws:List Nat,e 10=aB j∧j+r≤i∧e 9=v9∧ws.length=r∧Own aA H K [(wo,.arr 2 (ws.map aB)),(lo,.arr 2 (ks.map aB)),(fo,.arr 3 (fs.map encI)),(yo,.arr 2 (bs.map aB)),(some n4,.arr 4 ((iE n ks).map aK))]∧Vec wo v9 ws.length):=⟨_,rfl⟩
   refine aE i [(6,v6),(7,v7)] J (i0:=0) ?_ ?_ ?_ (Nat.zero_le _) ?_
   ·rfl
   ·simp[e6,e7]
   ·rw[hJ]
    exact⟨i,.sl n9 0 0,some n9,[],by simp[e8],by omega,by simp,rfl,by simpa using o9,rfl⟩
   clear o9 hst0 e0 e4 e5 e6 e7 e8 ra r2' hrq
   rintro r e M hr' ⟨e6,e7,-⟩ hh
   rw[hJ] at hh
   obtain⟨j,v9,wo,ws,e10,hjr,e9,hwl,o9,hv9⟩:=hh
   simp only[] at e6 e7
   have hjf:j<fs.length:=by omega
   have hjb:j<bs.length:=by omega
   have rf:=(o9.rd 2 rfl (by simpa using hv6)).at hjf (rt:=none) rfl
   have h6s:=hv6.isSl
   have h6l:=hv6.len
   have h7s:=hv7.isSl
   have h7l:=hv7.len
   have hfj:=hfs j hjf
   obtain⟨fj,hfje⟩:∃fj,fj=fs[j]:=⟨_,rfl⟩
   rw[←hfje] at rf hfj
   simp[e6,e10,h6s,h6l,hjf,rf]
   by_cases hneg:0≤fj
   ·obtain⟨j',hj'⟩:∃j':Nat,fj=(j':Int):=⟨fj.toNat,by omega⟩
    subst hj'
    have rb:=(o9.rd 3 rfl (by simpa using hv7)).at hjb (rt:=none) rfl
    simp[hneg,e9,e7,e10,h7s,h7l,hjb,rb]
    intro n1 b1 f1
    simp[aC f1 b1]
    intro n2 b2 f2
    obtain⟨v9',K6,wo',q1,q2,q3⟩:=o9.push 0 rfl (v:=v9) (by simpa using hv9) (x:=aB bs[j]) (bytes:=8) rfl (by simp;omega) (by simp;omega) f1 b1 f2 b2
    have rf':=(q2.rd 2 rfl (by simpa using hv6)).at hjf (rt:=none) rfl
    rw[←hfje] at rf'
    simp[q1,e6,e10,h6s,h6l,hjf,rf']
    refine⟨by omega,?_⟩
    rw[hJ]
    exact⟨j',v9',some wo',ws++[bs[j]],by simp,by omega,by simp,by simp[hwl],by simpa using q2,by simpa using q3⟩
   ·simp[hneg]
    intro n1 b1 f1
    have o10:=o9.new f1 b1 (s:=.arr 2 [])
    have h9s:=hv9.isSl
    have h9l:=hv9.len
    simp[aC f1 b1,e9,h9s,h9l]
    obtain⟨L,hL⟩:∃L:Nat→Env→BH→Prop,L=(fun(d:Nat) (e:Env) (K:BH)=>e 12=encI ((ws.length:Int)-1-(d:Int))∧d≤ws.length∧∃v11 to,∃zs:List BV,e 11=v11∧zs.length=d∧Own aA H K [(to,.arr 2 zs),(wo,.arr 2 (ws.map aB))]∧Vec to v11 zs.length):=⟨_,rfl⟩
    refine aE ws.length [(9,v9)] L (i0:=0) ?_ ?_ ?_ (Nat.zero_le _) ?_
    ·rfl
    ·simp[e9]
    ·rw[hL]
     refine⟨?_,Nat.zero_le _,.sl n1 0 0,some n1,[],by simp,rfl,o10.sub (.cons_cons _ (.cons_cons _ (List.nil_sublist _))),rfl⟩
     simp
     rw[w64 (by omega) (by omega)]
    clear o10 e6 e7 e9 e10
    rintro d e M2 hd ⟨e9,-⟩ hh
    rw[hL] at hh
    obtain⟨e12,hdl,v11,to,zs,e11,hzl,o11,hv11⟩:=hh
    simp only[] at e9
    by_cases hdw:d<ws.length
    ·obtain⟨k,hk⟩:∃k:Nat,k+d+1=ws.length:=⟨ws.length-1-d,by omega⟩
     have hki:(ws.length:Int)-1-d=(k:Int):=by omega
     rw[hki] at e12
     have hkw:k<ws.length:=by omega
     have rw':=(o11.rd 1 rfl (by simpa using hv9)).at hkw (rt:=none) rfl
     simp[e12,e11,e9,h9s,h9l,hkw,rw']
     intro n1 b1 f1
     simp[aC f1 b1]
     intro n2 b2 f2
     obtain⟨v11',K6,to',q1,q2,q3⟩:=o11.push 0 rfl (v:=v11) hv11 (x:=aB ws[k]) (bytes:=8) rfl (by omega) (by omega) f1 b1 f2 b2
     have wk:IntKind.i64.wrap ((k:Int)-1)=(ws.length:Int)-1-((d+1:Nat):Int):=by rw[w64 (by omega) (by omega)];omega
     simp[q1,e12,hdw]
     rw[hL]
     refine⟨?_,by omega,v11',some to',zs++[aB ws[k]],by simp,by simp[hzl],by simpa using q2,by simpa using q3⟩
     simp[wk]
    ·have hde:d=ws.length:=by omega
     have hki:(ws.length:Int)-1-d = -1:=by omega
     rw[hki] at e12
     simp[e12,e11]
     rw[hR]
     refine⟨o11.keeps,_,_,rfl,?_⟩
     simp only[true_iff]
     have hkm:q∈aH (succs (wd t) A.to) s i:=by rw[←hks,hq];exact List.getElem_mem hltk
     obtain⟨cs,h1,h2⟩:=iP i q hkm
     refine⟨cs,h1,?_⟩
     show A.y.getD (cs.foldl A.to s) false=true
     rw[h2]
     simp[hqA,←hav]
 ·have hie:i=ks.length:=by omega
  simp[e8,e5,h5s,h5l,hltk]
  intro n2 b2 f2
  simp[aC f2 b2]
  rw[hR]
  refine⟨(o.new f2 b2 (s:=.arr 2 [])).keeps,_,_,rfl,?_⟩
  have hd:DoneL (succs (wd t) A.to) s i:=by unfold DoneL;rw[←hks];omega
  have he:=hd.same hdn
  rw[←hks] at he
  constructor
  ·intro h;simp at h
  ·rintro⟨cs,h1,h2⟩
   obtain⟨k,hk,hka⟩:=hsm.2 ⟨cs,h1,h2⟩
   rw[←he] at hk
   obtain⟨j,hj⟩:=List.getElem?_of_mem hk
   have hjl:j<ks.length:=(List.getElem?_eq_some_iff.1 hj).1
   have:=hno j k (by omega) hj
   rw[this] at hka
   simp at hka
def aS5(v1 v2:Bool)(T1 T2:Int):Nat:=if v1=true∧v2=true then(if T1=T2 then 0 else 2) else 1
theorem s_two(r1 r2:Nat)(T1 S1 T2 S2:Int)(acc1 acc2:List Bool)(rows1 rows2:List (List Int))(H:BH)(h1:RdRawP H r1 T1 S1 acc1 rows1)(h2:RdRawP H r2 T2 S2 acc2 rows2)(hn1:acc1.length≤4611686018427387904)(hn2:acc2.length≤4611686018427387904):Runs (gam aA) 156 [.ptr r1 0,.ptr r2 0] H (aB (aS5 (dU T1 S1 acc1 rows1) (dU T2 S2 acc2 rows2) T1 T2)) H:=by
 refine aV (fn:=ir156) rfl ?_
 have c1:=s_ok (aA:=aA) r1 T1 S1 acc1 rows1 H h1 hn1
 have c2:=s_ok (aA:=aA) r2 T2 S2 acc2 rows2 H h2 hn2
 obtain⟨u,x,hr,hu,hx⟩:=h1
 obtain⟨u',x',hr',hu',hx'⟩:=h2
 have q1:=aD hr (rt:=none) (j:=0) (c:=encI T1) rfl rfl
 have q2:=aD hr' (rt:=none) (j:=0) (c:=encI T2) rfl rfl
 generalize dU T1 S1 acc1 rows1=b1 at *
 generalize dU T2 S2 acc2 rows2=b2 at *
 simp[ir156]
 refine aN c1 ?_
 cases b1
 ·simp[aS5]
 simp
 refine aN c2 ?_
 cases b2
 ·simp[aS5]
 by_cases hT:T1=T2
 ·subst hT;simp[q1,q2,aS5]
 ·have hb:(T1 != T2)=true:=by simpa using hT
  simp[q1,q2,aS5,hT,hb]
theorem i_two(T1 S1 T2 S2:Int)(acc1 acc2:List Bool)(rows1 rows2:List (List Int))(m1 m2:BV)(H:BH)(h1:RdRaw H T1 S1 acc1 rows1 m1)(h2:RdRaw H T2 S2 acc2 rows2 m2)(hn1:acc1.length≤4611686018427387904)(hn2:acc2.length≤4611686018427387904):FnDoes (gam aA) 218 [m1,m2] H fun v _=>v=aB (aS5 (dU T1 S1 acc1 rows1) (dU T2 S2 acc2 rows2) T1 T2):=by
 refine FnDoes.of (fn:=ir218) rfl ?_
 have g1:=h1
 have g2:=h2
 obtain⟨u,x,rfl,hu,hx⟩:=h1
 obtain⟨u',x',rfl,hu',hx'⟩:=h2
 have u1:=hu.one
 have x1:=aF hx.isSl
 have u1':=hu'.one
 have x1':=aF hx'.isSl
 simp[ir218,u1,x1,u1',x1']
 intro n2 b2 f2
 simp[aC f2 b2,u1',x1']
 intro n3 b3 f3
 have o1:=Own.start (aA:=aA) (H:=H) |>.new f2 b2 (s:=.arr 25 [.int .i64 T1,.int .i64 S1,u,x]) |>.new f3 b3 (s:=.arr 25 [.int .i64 T2,.int .i64 S2,u',x'])
 have r0:=aI (o1.at 1 (b:=n2) rfl) (n:=4) (rt:=none) rfl rfl
 simp[aC f3 b3,r0]
 refine(lQ (aA:=aA) T1 S1 acc1 rows1 _ _ (g1.keeps o1.keeps) hn1).step fun v K1 k1 hv=>?_
 subst hv
 have o2:=o1.call k1
 have r1:=aI (o2.at 0 (b:=n3) rfl) (n:=4) (rt:=none) rfl rfl
 have q1:=aD (o2.at 1 (b:=n2) rfl) (rt:=none) (j:=0) (c:=encI T1) rfl rfl
 generalize dU T1 S1 acc1 rows1=b1 at *
 cases b1
 ·simp[aS5]
  exact o2.keeps
 simp[r1]
 refine(lQ (aA:=aA) T2 S2 acc2 rows2 _ _ (g2.keeps o2.keeps) hn2).step fun v K2 k2 hv=>?_
 subst hv
 have o3:=o2.call k2
 have q1:=aD (o3.at 1 (b:=n2) rfl) (rt:=none) (j:=0) (c:=encI T1) rfl rfl
 have q2:=aD (o3.at 0 (b:=n3) rfl) (rt:=none) (j:=0) (c:=encI T2) rfl rfl
 generalize dU T2 S2 acc2 rows2=b2 at *
 cases b2
 ·simp[aS5]
  exact o3.keeps
 by_cases hT:T1=T2
 ·subst hT
  simp[q1,q2,aS5]
  exact o3.keeps
 ·have hb:(T1 != T2)=true:=by simpa using hT
  simp[q1,q2,aS5,hT,hb]
  exact o3.keeps
theorem aJ9(H:BH):Op2 aA H 220 [] (fun a b=>a&&!b):=by
 intro K hK a b
 refine FnDoes.of (fn:=ir220) rfl ?_
 cases a<;>simp[ir220]<;>exact BH.Keeps.refl K
theorem aJ4{t:Nat}{A B:Aut}{s1 s2:Nat}(hA:IsTidy (wd t) (TA t (A.lang s1)) (rl t (A.lang s1)))(hB:IsTidy (wd t) (TA t (B.lang s2)) (rl t (B.lang s2))){f:Bool}{X:Aut}(hX:∀cs,In (wd t) cs→X.lang 0 cs=((TA t (A.lang s1)).lang 0 cs&&!(TA t (B.lang s2)).lang 0 cs))(hf:f=true↔∃cs,In (wd t) cs∧X.lang 0 cs=true):(!f)=yE (wd t) (rl t (A.lang s1)) (rl t (B.lang s2)):=by
 refine(inclB_of (b:=f) (hf.trans ⟨?_,?_⟩)).symm
 ·rintro⟨cs,h1,h2⟩
  refine⟨cs,h1,?_⟩
  rw[hX cs h1,hA.lang h1,hB.lang h1] at h2
  exact h2
 ·rintro⟨cs,h1,h2⟩
  refine⟨cs,h1,?_⟩
  rw[hX cs h1,hA.lang h1,hB.lang h1]
  exact h2
theorem bA3{w:Nat}{A B:Aut}{op:Bool→Bool→Bool}(hA:A.Ok w)(hB:B.Ok w):(yC w A B op).y.contains true=true↔∃cs,In w cs∧(yC w A B op).lang 0 cs=true:=by
 obtain⟨h1,h2,h3⟩:=cN (a:=pAcc A B op) (sQ hA hB)
 have hs:=aB1 (a:=pAcc A B op) (sQ hA hB).done
 constructor
 ·intro h
  obtain⟨cs,c1,c2⟩:=hs.1 (by simpa[yC,aQ] using h)
  exact⟨cs,c1,(h3 cs c1).trans c2⟩
 ·rintro⟨cs,c1,c2⟩
  have:=hs.2 ⟨cs,c1,(h3 cs c1).symm.trans c2⟩
  simpa[yC,aQ] using this
theorem aP5(t s1 s2:Nat)(ht1:1≤t)(ht:t≤3)(A B:Aut)(m1 m2:BV)(H:BH)(hA:RdRel H t s1 A m1)(hB:RdRel H t s2 B m2)(hokA:A.Ok (wd t))(hokB:B.Ok (wd t))(hs1:s1<A.y.length)(hs2:s2<B.y.length)(hna:A.y.length≤150)(hnb:B.y.length≤150):FnDoes (gam aA) 182 [m1,m2] H fun v _=>v=.tup [.bool (yE (wd t) (rl t (A.lang s1)) (rl t (B.lang s2))),aB 0]:=by
 refine FnDoes.of (fn:=ir182) rfl ?_
 have g1:=hA
 have g2:=hB
 obtain⟨u,x,rfl,hu,hx⟩:=hA
 obtain⟨u',x',rfl,hu',hx'⟩:=hB
 have u1:=hu.one
 have x1:=aF hx.isSl
 have u1':=hu'.one
 have x1':=aF hx'.isSl
 obtain⟨hT1,hl1⟩:=aY ht hokA hs1
 obtain⟨hT2,hl2⟩:=aY ht hokB hs2
 simp[ir182,u1,x1,u1',x1']
 intro n2 b2 f2
 simp[aC f2 b2,u1',x1']
 intro n3 b3 f3
 have o1:=Own.start (aA:=aA) (H:=H) |>.new f2 b2 (s:=.arr 25 [aB t,aB s1,u,x]) |>.new f3 b3 (s:=.arr 25 [aB t,aB s2,u',x'])
 have r0:=aI (o1.at 1 (b:=n2) rfl) (n:=4) (rt:=none) rfl rfl
 have r1:=aI (o1.at 0 (b:=n3) rfl) (n:=4) (rt:=none) rfl rfl
 simp[aC f3 b3,r0,r1]
 refine(i_two (aA:=aA) t s1 t s2 _ _ _ _ _ _ _ (g1.keeps o1.keeps).raw (g2.keeps o1.keeps).raw (by omega) (by omega)).step fun v K1 k1 hv=>?_
 rw[bP ht1 ht hokA hs1 hna,bP ht1 ht hokB hs2 hnb] at hv
 simp[aS5] at hv
 subst hv
 have o2:=o1.call k1
 have r0:=aI (o2.at 1 (b:=n2) rfl) (n:=4) (rt:=none) rfl rfl
 have r1:=aI (o2.at 0 (b:=n3) rfl) (n:=4) (rt:=some 25) rfl rfl
 simp[r0,r1]
 refine(mO (aA:=aA) t s1 ht A _ _ (g1.keeps o2.keeps) hokA hs1 (by omega)).step fun v K2 k2 hv=>?_
 simp
 refine(mO (aA:=aA) t s2 ht B _ _ ((g2.keeps o2.keeps).keeps k2) hokB hs2 (by omega)).step fun v' K3 k3 hv'=>?_
 simp
 obtain⟨e1,e2,e3⟩:=aC5 (op:=fun a b=>a&&!b) hT1.ok hT2.ok
 have hn:(TA t (A.lang s1)).y.length*(TA t (B.lang s2)).y.length≤1000000000:=by
  have:=Nat.mul_le_mul (Nat.le_trans hl1 (show _≤10000 by omega)) (Nat.le_trans hl2 (show _≤10000 by omega))
  omega
 refine(i_pairs (aA:=aA) t ht _ _ v v' 220 [] (fun a b=>a&&!b) K3 (hv.rd.keeps k3) hv'.rd hT1.ok hT2.ok hn (aJ9 K3)).step fun v2 K4 k4 hv2=>?_
 simp
 refine(aJ7 (aA:=aA) t 0 _ v2 K4 hv2.rd (by omega)).step fun v3 K5 k5 hv3=>?_
 subst hv3
 simp
 refine⟨o2.keeps.trans (k2.trans (k3.trans (k4.trans k5))),?_⟩
 have key:=aJ4 hT1 hT2 (f:=(yC (wd t) (TA t (A.lang s1)) (TA t (B.lang s2)) fun a b=>a&&!b).y.contains true) e3 (bA3 hT1.ok hT2.ok)
 rw[←key]
 simp
theorem RdP.raw{H:BH}{rb t s:Nat}{A:Aut}(h:RdP H rb t s A):RdRawP H rb t s A.y (A.nxt.map (·.map fun(q:Nat)=>(q:Int))):=by
 obtain⟨u,x,h1,h2,h3⟩:=h
 obtain⟨u',x',e1,e2,e3⟩:=RdRel.raw (H:=H) (t:=t) (s:=s) (A:=A) (m:=.agg [aB t,aB s,u,x]) ⟨u,x,rfl,h2,h3⟩
 simp only[BV.agg.injEq,List.cons.injEq,and_true,true_and] at e1
 obtain⟨eu,ex⟩:=e1
 rw[←eu] at e2
 rw[←ex] at e3
 exact⟨u,x,h1,e2,e3⟩
theorem RdRel.at{H K:BH}{t s:Nat}{A:Aut}{u x:BV}{n:Nat}(h:RdRel H t s A (.agg [aB t,aB s,u,x]))(k:H.Keeps K)(hr:K.row n=.arr 25 [aB t,aB s,u,x]):RdP K n t s A:=by
 obtain⟨u',x',e1,e2,e3⟩:=h
 simp only[BV.agg.injEq,List.cons.injEq,and_true,true_and] at e1
 obtain⟨eu,ex⟩:=e1
 rw[←eu] at e2
 rw[←ex] at e3
 exact⟨u,x,hr,e2.keeps k,e3.keeps k⟩
theorem RdRel.one{H:BH}{t s:Nat}{A:Aut}{u x:BV}(h:RdRel H t s A (.agg [aB t,aB s,u,x])):u.one=true∧x.one=true:=by
 obtain⟨u',x',e1,e2,e3⟩:=h
 simp only[BV.agg.injEq,List.cons.injEq,and_true,true_and] at e1
 obtain⟨eu,ex⟩:=e1
 subst eu
 subst ex
 exact⟨e2.one,aF e3.isSl⟩
theorem aN5(t s1 s2:Nat)(ht1:1≤t)(ht:t≤3)(A B:Aut)(m1 m2:BV)(H:BH)(hA:RdRel H t s1 A m1)(hB:RdRel H t s2 B m2)(hokA:A.Ok (wd t))(hokB:B.Ok (wd t))(hs1:s1<A.y.length)(hs2:s2<B.y.length)(hna:A.y.length≤150)(hnb:B.y.length≤150):FnDoes (gam aA) 177 [m1,m2] H fun v _=>v=.tup [.bool (yE (wd t) (rl t (A.lang s1)) (rl t (B.lang s2))),aB 0]:=by
 refine FnDoes.of (fn:=ir177) rfl ?_
 have g1:=hA
 have g2:=hB
 obtain⟨u,x,rfl,hu,hx⟩:=hA
 obtain⟨u',x',rfl,hu',hx'⟩:=hB
 have u1:=hu.one
 have x1:=aF hx.isSl
 have u1':=hu'.one
 have x1':=aF hx'.isSl
 obtain⟨hT1,hl1⟩:=aY ht hokA hs1
 obtain⟨hT2,hl2⟩:=aY ht hokB hs2
 simp[ir177,u1,x1,u1',x1']
 intro n2 b2 f2
 simp[aC f2 b2,u1',x1']
 intro n3 b3 f3
 have o1:=Own.start (aA:=aA) (H:=H) |>.new f2 b2 (s:=.arr 25 [aB t,aB s1,u,x]) |>.new f3 b3 (s:=.arr 25 [aB t,aB s2,u',x'])
 have p1:RdP _ n2 t s1 A:=g1.at o1.keeps (o1.at 1 (b:=n2) rfl)
 have p2:RdP _ n3 t s2 B:=g2.at o1.keeps (o1.at 0 (b:=n3) rfl)
 simp[aC f3 b3]
 have c1:=s_two (aA:=aA) n2 n3 t s1 t s2 _ _ _ _ _ p1.raw p2.raw (by omega) (by omega)
 rw[bP ht1 ht hokA hs1 hna,bP ht1 ht hokB hs2 hnb] at c1
 simp[aS5] at c1
 refine aN c1 ?_
 simp
 refine(dD (aA:=aA) t s1 n2 ht A _ p1 hokA hs1 (by omega)).step fun v K2 k2 hv=>?_
 have hv:=hv.rd
 obtain⟨w1,y1,rfl,-⟩:=id hv
 simp[hv.one]
 intro n7 b7 f7
 obtain⟨K3,g3,o3⟩:=(Own.start (aA:=aA) (H:=K2) |>.new f7 b7 (s:=.arr 25 [.int .i64 0,.int .i64 0,.nils,.nils])).putAll 0 (b:=n7) (n:=4) (ds:=[aB t,aB 0,w1,y1]) rfl rfl rfl (by simp[hv.one]) (rt:=none) rfl
 have q1:=hv.at o3.keeps (o3.at 0 (b:=n7) rfl)
 simp[aC f7 b7,g3]
 refine(dD (aA:=aA) t s2 n3 ht B _ ((p2.keeps k2).keeps o3.keeps) hokB hs2 (by omega)).step fun v K4 k4 hv'=>?_
 have hv':=hv'.rd
 obtain⟨w2,y2,rfl,-⟩:=id hv'
 simp[hv'.one]
 intro n8 b8 f8
 obtain⟨K5,g5,o5⟩:=(Own.start (aA:=aA) (H:=K4) |>.new f8 b8 (s:=.arr 25 [.int .i64 0,.int .i64 0,.nils,.nils])).putAll 0 (b:=n8) (n:=4) (ds:=[aB t,aB 0,w2,y2]) rfl rfl rfl (by simp[hv'.one]) (rt:=none) rfl
 have q2:=hv'.at o5.keeps (o5.at 0 (b:=n8) rfl)
 simp[aC f8 b8,g5]
 have hn:(TA t (A.lang s1)).y.length*(TA t (B.lang s2)).y.length≤1000000000:=by
  have:=Nat.mul_le_mul (Nat.le_trans hl1 (show _≤10000 by omega)) (Nat.le_trans hl2 (show _≤10000 by omega))
  omega
 refine(s_pairs (aA:=aA) t n7 n8 3 ht _ _ K5 (q1.keeps (k4.trans o5.keeps)) q2 hT1.ok hT2.ok hn (by omega) (by omega)).step fun v K6 k6 hv2=>?_
 have hv3:=hv2.rd
 obtain⟨w3,y3,rfl,-⟩:=id hv3
 simp[hv3.one]
 intro n9 b9 f9
 obtain⟨K7,g7,o7⟩:=(Own.start (aA:=aA) (H:=K6) |>.new f9 b9 (s:=.arr 25 [.int .i64 0,.int .i64 0,.nils,.nils])).putAll 0 (b:=n9) (n:=4) (ds:=[aB t,aB 0,w3,y3]) rfl rfl rfl (by simp[hv3.one]) (rt:=none) rfl
 have q3:=hv3.at o7.keeps (o7.at 0 (b:=n9) rfl)
 simp[aC f9 b9,g7]
 have hok:=aC2 (op:=opW 3) hT1.ok hT2.ok
 refine(s_first (aA:=aA) t 0 n9 ht _ K7 q3 hok hok.pos (by rw[sO];exact hn)).step fun v K8 k8 hv4=>?_
 obtain⟨c,f,rfl,hf⟩:=hv4
 simp
 refine⟨o1.keeps.trans (k2.trans (o3.keeps.trans (k4.trans (o5.keeps.trans (k6.trans (o7.keeps.trans k8)))))),?_⟩
 have hX:∀cs,In (wd t) cs→(iN (wd t) (TA t (A.lang s1)) (TA t (B.lang s2)) (opW 3)).lang 0 cs=((TA t (A.lang s1)).lang 0 cs&&!(TA t (B.lang s2)).lang 0 cs):=fun cs hc=>by
  have:=qG (op:=opW 3) hT1.ok hT2.ok cs 0 0 hT1.ok.pos hT2.ok.pos hc
  simpa[opW] using this
 have key:=aJ4 hT1 hT2 hX hf
 rw[←key]
 simp
def aQ3(cs:List Nat):Bool:=decide (cs.foldl (fun _ c=>c) 1=1)
theorem wd_one:wd 1=2:=rfl
theorem encN_eq:∀k l:Nat,bK 0 (aB k) (aB l)=some (decide (k=l)):=fun k l=>by
 have h:bK 0 (aB k) (aB l)=some ((k:Int)==(l:Int)):=rfl
 rw[h]
 by_cases e:k=l
 ·subst e;simp
 ·simp[e];omega
theorem zS:Closed (wd 1) (fun _ c=>c) 1 [1,0]:=⟨by simp,fun k _ c hc=>by rw[wd_one] at hc;simp;omega⟩
theorem i_dom1(k:Nat)(H:BH):FnDoes (gam aA) 67 [aB k] H fun v _=>v=.bool (decide (k=1)):=by
 refine FnDoes.of (fn:=ir67) rfl ?_
 simp[ir67]
 refine⟨BH.Keeps.refl H,?_⟩
 by_cases h:k=1
 ·subst h;rfl
 ·simp[h];omega
theorem i_dom2(k c:Nat)(H:BH):FnDoes (gam aA) 68 [aB k,aB c] H fun v _=>v=aB c:=by
 refine FnDoes.of (fn:=ir68) rfl ?_
 simp[ir68]
 exact BH.Keeps.refl H
def domX:Aut:=aQ (wd 1) (fun _ c=>c) (fun k=>decide (k=1)) (aH (succs (wd 1) (fun _ c=>c)) 1 2)
theorem domX_ok:domX.Ok (wd 1)∧domX.y.length≤2∧∀cs,In (wd 1) cs→domX.lang 0 cs=aQ3 cs:=by
 obtain⟨h1,h2,h3⟩:=cN (a:=fun k=>decide (k=1)) zS
 exact⟨h1,h2,h3⟩
theorem dom_TA:TA 1 (domX.lang 0)=TA 1 aQ3:=cP fun cs hc _=>domX_ok.2.2 cs hc
theorem dom_spec:IsTidy (wd 1) (TA 1 aQ3) (rl 1 aQ3)∧(TA 1 aQ3).y.length≤17:=by
 obtain⟨h1,h2,h3⟩:=domX_ok
 obtain⟨g1,g2⟩:=aY (t:=1) (by omega) h1 h1.pos
 rw[dom_TA] at g1 g2
 refine⟨?_,by omega⟩
 obtain⟨κ,i1,nx,a,s',n,hd,hA,hdist,hl⟩:=g1
 refine⟨κ,i1,nx,a,s',n,hd,hA,hdist,fun cs hc=>?_⟩
 rw[hl cs hc]
 unfold rl
 rw[h3 cs hc]
theorem aV6(H:BH):FnDoes (gam aA) 25 [] H fun v K=>OwnRel aA H K 1 0 (TA 1 aQ3) v:=by
 refine FnDoes.of (fn:=ir25) rfl ?_
 obtain⟨h1,h2,h3⟩:=domX_ok
 simp[ir25]
 intro n0 b0 f0
 have o0:=Own.start (aA:=aA) (H:=H) |>.new f0 b0 (s:=.arr 25 [.int .i64 0,.int .i64 0,.nils,.nils])
 simp[aC f0 b0]
 have grow:=uC (aA:=aA) (κ:=Nat) aB (fun _=>rfl) encN_eq (fun _=>rfl) 1 (by omega) 1 0 67 68 [] [] (fun _ c=>c) (fun k=>decide (k=1)) [1,0] zS (by simp) (H.set n0 (.arr 25 [.int .i64 0,.int .i64 0,.nils,.nils]))
  (fun L kL k hk=>i_dom1 k L) (fun L kL k hk c hc=>i_dom2 k c L)
 refine grow.step fun v K1 k1 hv=>?_
 unfold dA at hv
 rw[if_neg (by omega)] at hv
 obtain⟨mm,rfl,hmm⟩:=hv
 have hmm:OwnM aA _ K1 1 0 domX mm:=hmm
 have hrd:=hmm.rd
 obtain⟨uu,ww,rfl,hu,hw⟩:=id hrd
 have u1:=hu.one
 have w1:=aF hw.isSl
 simp[u1,w1]
 intro n1 b1 f1
 obtain⟨K2,g2,o2⟩:=((o0.call k1).new f1 b1 (s:=.arr 77 [.int .i64 0,.int .i64 0,.nils,.nils])).putAll 0 (b:=n1) (n:=4) (ds:=[aB 1,aB 0,uu,ww]) rfl rfl rfl (by simp[u1,w1]) (rt:=none) rfl
 have k2:K1.Keeps K2:=by
  obtain⟨K2',g2',o2'⟩:=(Own.start (aA:=aA) (H:=K1) |>.new f1 b1 (s:=.arr 77 [.int .i64 0,.int .i64 0,.nils,.nils])).putAll 0 (b:=n1) (n:=4) (ds:=[aB 1,aB 0,uu,ww]) rfl rfl rfl (by simp[u1,w1]) (rt:=none) rfl
  rw[g2] at g2'
  cases g2'
  exact o2'.keeps
 have r0:=aI (o2.at 0 (b:=n1) rfl) (n:=4) (rt:=none) rfl rfl
 simp[aC f1 b1,g2,r0]
 refine(qQ (aA:=aA) 1 0 (by omega) domX _ K2 (hrd.keeps k2) h1 h1.pos (by omega)).step fun v K3 k3 hv=>?_
 rw[dom_TA] at hv
 unfold RelR told at hv
 rw[if_neg (by have:=dom_spec.2;omega)] at hv
 obtain⟨m,rfl,hm⟩:=hv
 obtain⟨u',w',bo,wo,vs,fr,rfl,om,hm1,hm2,hm3⟩:=hm
 have oj:=Own.join (o2.sub (M:=[(some n0,.arr 25 [.int .i64 0,.int .i64 0,.nils,.nils])]) (.cons _ (.cons_cons _ .slnil))) k3 om
 simp[hm1.one,hm2.one]
 intro n3 b3 f3
 obtain⟨K4,g4,o4⟩:=(oj.new f3 b3 (s:=.arr 25 [.int .i64 0,.int .i64 0,.nils,.nils])).putAll 0 (b:=n3) (n:=4) (ds:=[aB 1,aB 0,u',w']) rfl rfl rfl (by simp[hm1.one,hm2.one]) (rt:=none) rfl
 have r1:=aI (o4.at 0 (b:=n3) rfl) (n:=4) (rt:=none) rfl rfl
 obtain⟨K5,g5,o5⟩:=o4.putAll 1 (b:=n0) (n:=4) (ds:=[aB 1,aB 0,u',w']) rfl rfl rfl (by simp[hm1.one,hm2.one]) (rt:=none) rfl
 have r2:=aI (o5.at 1 (b:=n0) rfl) (n:=4) (rt:=none) rfl rfl
 simp[aC f3 b3,g4,r1,g5,r2]
 exact⟨o5.keeps,u',w',bo,wo,vs,fr,rfl,o5.drop 2,hm1,hm2,hm3⟩
def domY:Aut:=⟨[true,false],[[1,0],[1,0]]⟩
theorem domY_ok:domY.Ok (wd 1):=⟨rfl,by decide,fun r hr=>by
 simp[domY] at hr
 subst hr
 refine⟨rfl,fun q hq=>?_⟩
 simp[domY] at hq ⊢
 omega⟩
theorem aL1:∀(cs:List Nat) (q k:Nat),(q=0∧k=1∨q=1∧k=0)→In (wd 1) cs→domY.lang q cs=decide (cs.foldl (fun _ c=>c) k=1)
 | [],q,k,h,_=>by
  rcases h with⟨rfl,rfl⟩|⟨rfl,rfl⟩<;>rfl
 | c::cs,q,k,h,hin=>by
  have hc:=hin.head
  rw[wd_one] at hc
  have h1:domY.lang q (c::cs)=domY.lang (domY.to q c) cs:=rfl
  rw[h1]
  refine aL1 cs _ c ?_ hin.tail
  have hq:q=0∨q=1:=by rcases h with h|h<;>omega
  have hcc:c=0∨c=1:=by omega
  rcases hq with rfl|rfl<;>rcases hcc with rfl|rfl<;>simp[domY,Aut.to]
theorem domY_TA:TA 1 (domY.lang 0)=TA 1 aQ3:=cP fun cs hc _=>aL1 cs 0 1 (.inl ⟨rfl,rfl⟩) hc
theorem aB5(H:BH):FnDoes (gam aA) 51 [] H fun v K=>OwnRel aA H K 1 0 (TA 1 aQ3) v:=by
 refine FnDoes.of (fn:=ir51) rfl ?_
 simp[ir51]
 intro n0 b0 f0
 have o0:=Own.start (aA:=aA) (H:=H) |>.new f0 b0 (s:=.arr 25 [.int .i64 0,.int .i64 0,.nils,.nils])
 simp[aC f0 b0]
 intro n1 b1 f1
 have o1:=o0.new f1 b1 (s:=.arr 4 [.bool true,.bool false])
 simp[aC f1 b1]
 intro n2 b2 f2
 have o2:=o1.new f2 b2 (s:=.arr 2 [.int .i64 1,.int .i64 0])
 simp[aC f2 b2]
 intro n3 b3 f3
 have o3:=o2.new f3 b3 (s:=.arr 2 [.int .i64 1,.int .i64 0])
 simp[aC f3 b3]
 intro n4 b4 f4
 have o4:=o3.new f4 b4 (s:=.arr 36 [.sl n2 0 2,.sl n3 0 2])
 simp[aC f4 b4]
 intro n6 b6 f6
 have o6:=o4.new f6 b6 (s:=.arr 25 [aB 1,aB 0,.sl n1 0 2,.sl n4 0 2])
 simp[aC f6 b6]
 obtain⟨K,hK⟩:∃K,K=((((((H.set n0 (.arr 25 [.int .i64 0,.int .i64 0,.nils,.nils])).set n1 (.arr 4 [.bool true,.bool false])).set n2 (.arr 2 [.int .i64 1,.int .i64 0])).set n3 (.arr 2 [.int .i64 1,.int .i64 0])).set n4 (.arr 36 [.sl n2 0 2,.sl n3 0 2])).set n6 (.arr 25 [aB 1,aB 0,.sl n1 0 2,.sl n4 0 2])):=⟨_,rfl⟩
 rw[←hK] at o6
 have hrel:RdP K n6 1 0 domY:=by
  refine⟨.sl n1 0 2,.sl n4 0 2,o6.at 0 rfl,o6.rd 4 (bo:=some n1) (ty:=4) rfl rfl,?_⟩
  have op:=o6.perm (M:=[(some n6,.arr 25 [aB 1,aB 0,.sl n1 0 2,.sl n4 0 2]),(some n4,.arr 36 [.sl n2 0 2,.sl n3 0 2])]++[(some n3,.arr 2 [.int .i64 1,.int .i64 0]),(some n2,.arr 2 [.int .i64 1,.int .i64 0]),(some n1,.arr 4 [.bool true,.bool false]),(some n0,.arr 25 [.int .i64 0,.int .i64 0,.nils,.nils])]) (List.Perm.refl _)
  refine⟨[.sl n2 0 2,.sl n3 0 2],op.rd 1 (bo:=some n4) rfl rfl,rfl,fun i u xs hu hx=>?_⟩
  match i,hu,hx with
  | 0,hu,hx=>simp[domY] at hu hx;subst hu;subst hx;exact o6.rd 3 (bo:=some n2) rfl rfl
  | 1,hu,hx=>simp[domY] at hu hx;subst hu;subst hx;exact o6.rd 2 (bo:=some n3) rfl rfl
  | i+2,hu,hx=>simp[domY] at hx
 have hK':K=((((((H.set n0 (.arr 25 [.int .i64 0,.int .i64 0,.nils,.nils])).set n1 (.arr 4 [.bool true,.bool false])).set n2 (.arr 2 [.int .i64 1,.int .i64 0])).set n3 (.arr 2 [.int .i64 1,.int .i64 0])).set n4 (.arr 36 [.sl n2 0 2,.sl n3 0 2])).set n6 (.arr 25 [.int .i64 1,.int .i64 0,.sl n1 0 2,.sl n4 0 2])):=hK
 rw[←hK']
 refine(dD (aA:=aA) 1 0 n6 (by omega) domY K hrel domY_ok domY_ok.pos (by decide)).step fun v K1 k1 hv=>?_
 rw[domY_TA] at hv
 obtain⟨u',w',bo,wo,vs,fr,rfl,om,hm1,hm2,hm3⟩:=hv
 have oj:=Own.join (o6.sub (M:=[(some n0,.arr 25 [.int .i64 0,.int .i64 0,.nils,.nils])]) (.cons _ (.cons _ (.cons _ (.cons _ (.cons _ (.cons_cons _ .slnil))))))) k1 om
 obtain⟨K5,g5,o5⟩:=oj.putAll 0 (b:=n0) (n:=4) (ds:=[aB 1,aB 0,u',w']) rfl rfl rfl (by simp[hm1.one,hm2.one]) (rt:=none) rfl
 have r2:=aI (o5.at 0 (b:=n0) rfl) (n:=4) (rt:=none) rfl rfl
 simp[hm1.one,hm2.one,g5,r2]
 exact⟨o5.keeps,u',w',bo,wo,vs,fr,rfl,o5.drop 1,hm1,hm2,hm3⟩
noncomputable def nsB(L:List Nat→Bool):Bool:=yE (wd 1) (rl 1 L) (rl 1 aQ3)
theorem ns_TA(L:List Nat→Bool):yE (wd 1) (rl 1 L) (rl 1 ((TA 1 aQ3).lang 0))=nsB L:=aP1 (fun _ _=>rfl) fun cs hc=>by
 have h:=dom_spec.1.lang hc
 unfold rl at h ⊢
 rw[h]
 cases cB 1 0 cs<;>rfl
theorem OwnRel.at{H K:BH}{t s:Nat}{A:Aut}{u x:BV}(h:OwnRel aA H K t s A (.agg [aB t,aB s,u,x])):u.one=true∧x.one=true:=h.rd.one
theorem i_isNS(t s:Nat)(ht1:1≤t)(ht:t≤3)(A:Aut)(m:BV)(H:BH)(hA:RdRel H t s A m)(hok:A.Ok (wd t))(hs:s<A.y.length)(hn:A.y.length≤150):FnDoes (gam aA) 123 [m] H fun v _=>v=.bool (decide (t=1)&&nsB (A.lang s)):=by
 refine FnDoes.of (fn:=ir123) rfl ?_
 have g1:=hA
 obtain⟨u,x,rfl,hu,hx⟩:=hA
 have u1:=hu.one
 have x1:=aF hx.isSl
 simp[ir123,u1,x1]
 intro n1 b1 f1
 have o1:=Own.start (aA:=aA) (H:=H) |>.new f1 b1 (s:=.arr 25 [aB t,aB s,u,x])
 have r0:=aD (o1.at 0 (b:=n1) rfl) (rt:=none) (j:=0) (c:=aB t) rfl rfl
 have r1:=aI (o1.at 0 (b:=n1) rfl) (n:=4) (rt:=some 25) rfl rfl
 by_cases h1:t=1
 ·subst h1
  simp[aC f1 b1,r0,r1]
  refine(aV6 (aA:=aA) _).step fun v K1 k1 hv=>?_
  simp
  have hd:=dom_spec
  refine(aP5 (aA:=aA) 1 s 0 (by omega) (by omega) A (TA 1 aQ3) _ v K1 (g1.keeps (o1.keeps.trans k1)) hv.rd hok hd.1.ok hs hd.1.ok.pos hn (by omega)).step fun v2 K2 k2 hv2=>?_
  subst hv2
  simp
  refine⟨o1.keeps.trans (k1.trans k2),?_⟩
  rw[ns_TA]
 ·have hb:((t:Int) != 1)=true:=by simp;omega
  simp[aC f1 b1,r0,hb,h1]
  exact o1.keeps
theorem s_isNS(t s rb:Nat)(ht1:1≤t)(ht:t≤3)(A:Aut)(H:BH)(hA:RdP H rb t s A)(hok:A.Ok (wd t))(hs:s<A.y.length)(hn:A.y.length≤150):FnDoes (gam aA) 117 [.ptr rb 0] H fun v _=>v=.bool (decide (t=1)&&nsB (A.lang s)):=by
 refine FnDoes.of (fn:=ir117) rfl ?_
 obtain⟨u,x,hr,hu,hx⟩:=hA
 have r0:=aD hr (rt:=none) (j:=0) (c:=aB t) rfl rfl
 have r1:=aI hr (n:=4) (rt:=some 25) rfl rfl
 have g1:RdRel H t s A (.agg [aB t,aB s,u,x]):=⟨u,x,rfl,hu,hx⟩
 by_cases h1:t=1
 ·subst h1
  simp[ir117,r0,r1]
  refine(aB5 (aA:=aA) _).step fun v K1 k1 hv=>?_
  simp
  have hd:=dom_spec
  refine(aN5 (aA:=aA) 1 s 0 (by omega) (by omega) A (TA 1 aQ3) _ v K1 (g1.keeps k1) hv.rd hok hd.1.ok hs hd.1.ok.pos hn (by omega)).step fun v2 K2 k2 hv2=>?_
  subst hv2
  simp
  rw[ns_TA]
  cases nsB (A.lang s)
  ·simp
   exact k1.trans k2
  ·simp
   exact k1.trans k2
 ·have hb:((t:Int) != 1)=true:=by simp;omega
  simp[ir117,r0,hb,h1]
  exact BH.Keeps.refl H
theorem aF0(A:Aut):(⟨A.y,(A.nxt.map (·.map fun(q:Nat)=>(q:Int))).map (·.map Int.toNat)⟩:Aut)=A:=by
 have h:(A.nxt.map (·.map fun(q:Nat)=>(q:Int))).map (·.map Int.toNat)=A.nxt:=by
  rw[List.map_map]
  conv=>rhs;rw[←List.map_id A.nxt]
  refine List.map_congr_left fun r _=>?_
  show (r.map fun(q:Nat)=>(q:Int)).map Int.toNat=r
  rw[List.map_map]
  conv=>rhs;rw[←List.map_id r]
  exact List.map_congr_left fun _ _=>rfl
 rw[h]
theorem z_bools{ty:Nat}(cs:List BV)(left:Int)(v:BV)(H:BH)(h:Rd H ty v cs)(h0:0≤left)(h1:left≤1048576)(hn:cs.length≤9223372036854775807):
  ∃z:Int,Runs (gam aA) 71 [v,encI left] H (encI z) H∧z≤left∧-1≤z∧(0≤z→(cs.length:Int)≤left):=by
 have hw:IntKind.i64.wrap (left-(cs.length:Int))=left-(cs.length:Int):=w64 (by omega) (by omega)
 by_cases hz:left-(cs.length:Int)<0
 ·refine⟨-1,?_,by omega,by omega,by omega⟩
  refine aV (fn:=ir71) rfl ?_
  simp[ir71,h.isSl,h.len,hw,hz]
 ·refine⟨left-(cs.length:Int),?_,by omega,by omega,by omega⟩
  refine aV (fn:=ir71) rfl ?_
  simp[ir71,h.isSl,h.len,hw,hz]

theorem z_longs{ty:Nat}(cs:List BV)(left:Int)(v:BV)(H:BH)(h:Rd H ty v cs)(h0:0≤left)(h1:left≤1048576)(hn:cs.length≤9223372036854775807):
  ∃z:Int,Runs (gam aA) 115 [v,encI left] H (encI z) H∧z≤left∧-1≤z∧(0≤z→(cs.length:Int)≤left):=by
 have hw:IntKind.i64.wrap (left-(cs.length:Int))=left-(cs.length:Int):=w64 (by omega) (by omega)
 by_cases hz:left-(cs.length:Int)<0
 ·refine⟨-1,?_,by omega,by omega,by omega⟩
  refine aV (fn:=ir115) rfl ?_
  simp[ir115,h.isSl,h.len,hw,hz]
 ·refine⟨left-(cs.length:Int),?_,by omega,by omega,by omega⟩
  refine aV (fn:=ir115) rfl ?_
  simp[ir115,h.isSl,h.len,hw,hz]

def RdQ{α:Type}(H:BH)(ty:Nat)(v:BV)(f:α→BV)(xss:List (List α)):Prop:=∃vs:List BV,Rd H ty v vs∧vs.length=xss.length∧∀(i:Nat) (u:BV) (xs:List α),vs[i]?=some u→xss[i]?=some xs→∃ty2,Rd H ty2 u (xs.map f)
section
variable {α:Type} {H K:BH} {ty:Nat} {v:BV} {f:α→BV} {xss:List (List α)}
theorem RdQ.keeps(h:RdQ H ty v f xss)(k:H.Keeps K):RdQ K ty v f xss:=by
 obtain⟨vs,h1,h2,h3⟩:=h
 exact⟨vs,h1.keeps k,h2,fun i u xs hu hx=>(h3 i u xs hu hx).imp fun _ g=>g.keeps k⟩
theorem RdQ.isSl(h:RdQ H ty v f xss):v.isSl=true:=by
 obtain⟨vs,h1,h2,h3⟩:=h
 exact h1.isSl
theorem RdQ.len(h:RdQ H ty v f xss):v.slen=xss.length:=by
 obtain⟨vs,h1,h2,h3⟩:=h
 rw[Rd.len h1,h2]
theorem RdQ.at(h:RdQ H ty v f xss){i:Nat}(hi:i<xss.length):∃u,(∃ty2,Rd H ty2 u (xss[i].map f))∧∀(rt:Option Nat),dF rt ty=true→H.rd rt none (v.sat i 1)=some u:=by
 obtain⟨vs,h1,h2,h3⟩:=h
 have hi':i<vs.length:=by omega
 refine⟨vs[i],h3 i _ _ (List.getElem?_eq_getElem hi') (List.getElem?_eq_getElem hi),fun rt hrt=>?_⟩
 refine Sls.rd1 h1 (i:=i) (c:=vs[i]) ?_ hrt
 simp[hi']
theorem RdQ.cells(h:RdQ H ty v f xss):RdQ H ty v (fun c=>c) (xss.map (·.map f)):=by
 obtain⟨vs,h1,h2,h3⟩:=h
 refine⟨vs,h1,by simpa using h2,fun i u xs hu hx=>?_⟩
 rw[List.getElem?_map,Option.map_eq_some_iff] at hx
 obtain⟨ys,hys,rfl⟩:=hx
 rw[List.map_id']
 exact h3 i u ys hu hys
end
theorem z_rows(xss:List (List BV))(left:Int)(v:BV)(H:BH){ty:Nat}(h:RdQ H ty v (fun c=>c) xss)(h0:0≤left)(h1:left≤1048576)(hn:xss.length≤9223372036854775807)(hr:∀xs∈xss,xs.length≤9223372036854775807):
  ∃z:Int,Runs (gam aA) 72 [v,encI left] H (encI z) H∧z≤left∧(0≤z→(xss.length:Int)≤left∧∀xs∈xss,(xs.length:Int)≤left):=by
 obtain⟨R,hR⟩:∃R:Int→Prop,R=fun z=>z≤left∧(0≤z→(xss.length:Int)≤left∧∀xs∈xss,(xs.length:Int)≤left):=⟨_,rfl⟩
 suffices hh:FnDoes (gam aA) 72 [v,encI left] H fun u K=>K=H∧∃z,u=encI z∧R z by
  obtain⟨u,K,r1,r2,rfl,z,rfl,r3⟩:=hh
  rw[hR] at r3
  exact⟨z,r1,r3⟩
 refine FnDoes.of (fn:=ir72) rfl ?_
 have hw:IntKind.i64.wrap (left-(xss.length:Int))=left-(xss.length:Int):=w64 (by omega) (by omega)
 have hl:=h.len
 by_cases hz:left-(xss.length:Int)<0
 ·simp[ir72,h.isSl,hl,hw,hz]
  rw[hR]
  exact⟨BH.Keeps.refl _,by omega,fun h=>by omega⟩
 ·simp[ir72,h.isSl,hl,hw,hz]
  obtain⟨I,hI⟩:∃I:Nat→Env→BH→Prop,I=(fun i e K=>e 5=aB i∧K=H∧∃l:Int,e 1=encI l∧0≤l∧l≤left∧∀j xs,j<i→xss[j]?=some xs→(xs.length:Int)≤left):=⟨_,rfl⟩
  refine aE xss.length [(0,v)] I (i0:=0) ?_ ?_ ?_ (Nat.zero_le _) ?_
  ·rfl
  ·simp
  ·rw[hI]
   exact⟨by simp,rfl,left-(xss.length:Int),by simp,by omega,by omega,fun j xs hj=>by omega⟩
  rintro i e K hi ⟨e0,-⟩ hh
  rw[hI] at hh
  obtain⟨e5,rfl,l,e1,hl0,hl1,hrs⟩:=hh
  simp only[] at e0
  have wi:=wS (n:=i) (by omega)
  by_cases hlt:i<xss.length
  ·obtain⟨ri,⟨tq,hri⟩,hrr⟩:=h.at hlt
   have hrr:=hrr none rfl
   rw[List.map_id'] at hri
   obtain⟨z,c1,c2,c3,c4⟩:=z_longs (aA:=aA) xss[i] l ri K hri hl0 (by omega) (hr _ (List.getElem_mem hlt))
   simp[e0,e5,h.isSl,hl,hlt,hrr,e1]
   refine aN c1 ?_
   by_cases hz2:z<0
   ·simp[hz2]
    rw[hR]
    exact⟨BH.Keeps.refl _,by omega,fun h=>by omega⟩
   ·simp[hz2,e5,wi,hlt]
    rw[hI]
    refine⟨by simp,rfl,z,by simp,by omega,by omega,fun j xs hj hg=>?_⟩
    by_cases hji:j=i
    ·subst hji
     rw[List.getElem?_eq_getElem hlt] at hg
     simp at hg
     subst hg
     have:=c4 (by omega)
     omega
    ·exact hrs j xs (by omega) hg
  ·have hie:i=xss.length:=by omega
   simp[e0,e5,h.isSl,hl,hlt,e1]
   rw[hR]
   refine⟨BH.Keeps.refl _,hl1,fun _=>⟨by omega,fun xs hxs=>?_⟩⟩
   obtain⟨j,hj⟩:=List.getElem?_of_mem hxs
   exact hrs j xs (by have:=(List.getElem?_eq_some_iff.1 hj).1;omega) hj
def RdL(H:BH)(T S:Int)(acc:List Bool)(rows:List (List Int))(m:BV):Prop:=∃u w tb tw,m=.agg [.int .i64 T,.int .i64 S,u,w]∧Rd H tb u (acc.map aK)∧RdQ H tw w encI rows
theorem RdL.keeps{H K:BH}{T S:Int}{acc:List Bool}{rows:List (List Int)}{m:BV}(h:RdL H T S acc rows m)(k:H.Keeps K):RdL K T S acc rows m:=by
 obtain⟨u,w,tb,tw,h1,h2,h3⟩:=h
 exact⟨u,w,tb,tw,h1,h2.keeps k,h3.keeps k⟩
theorem z_rel(T S:Int)(acc:List Bool)(rows:List (List Int))(m:BV)(H:BH)(h:RdL H T S acc rows m)(hn1:acc.length≤9223372036854775807)(hn:rows.length≤9223372036854775807)(hr:∀xs∈rows,xs.length≤9223372036854775807):FnDoes (gam aA) 27 [m,encI 1048576] H fun v _=>∃z:Int,v=encI z∧(0≤z→acc.length≤1048576∧rows.length≤1048576∧∀xs∈rows,xs.length≤1048576):=by
 refine FnDoes.of (fn:=ir27) rfl ?_
 obtain⟨u,x,tb,tw,rfl,hu,hx⟩:=h
 have u1:=hu.one
 have x1:=aF hx.isSl
 simp[ir27,u1,x1]
 intro n1 b1 f1
 have o1:=Own.start (aA:=aA) (H:=H) |>.new f1 b1 (s:=.arr 49 [.int .i64 T,.int .i64 S,u,x])
 have r2:=aD (o1.at 0 (b:=n1) rfl) (rt:=none) (j:=2) (c:=u) rfl rfl
 have r3:=aD (o1.at 0 (b:=n1) rfl) (rt:=none) (j:=3) (c:=x) rfl rfl
 obtain⟨z,c1,c2,c3,c4⟩:=z_bools (aA:=aA) (acc.map aK) 1048576 u _ (hu.keeps o1.keeps) (by omega) (by omega) (by simpa using hn1)
 simp[aC f1 b1,r2]
 refine aN c1 ?_
 by_cases hz:z<0
 ·simp[hz]
  exact o1.keeps
 ·obtain⟨z2,d1,d2,d3⟩:=z_rows (aA:=aA) (rows.map (·.map encI)) z x _ (RdQ.cells (hx.keeps o1.keeps)) (by omega) (by omega) (by simpa using hn) (fun xs hxs=>by
   obtain⟨r,hr',rfl⟩:=List.mem_map.1 hxs
   rw[List.length_map]
   exact hr r hr')
  simp[hz,r3]
  refine aN d1 ?_
  by_cases hz2:z2<0
  ·simp[hz2]
   exact o1.keeps
  ·simp[hz2]
   refine⟨o1.keeps,fun h0=>?_⟩
   obtain⟨k1,k2⟩:=d3 h0
   have k3:=c4 (by omega)
   rw[List.length_map] at k1 k3
   refine⟨by omega,by omega,fun xs hxs=>?_⟩
   have:=k2 (xs.map encI) (List.mem_map.2 ⟨xs,hxs,rfl⟩)
   rw[List.length_map] at this
   omega
def fillB(cs:List BV)(z:BV)(i:Nat):List BV:=cs.take i++List.replicate (cs.length-i) z
theorem aK4{cs:List BV}{z:BV}{i:Nat}(h:i≤cs.length):(fillB cs z i).length=cs.length:=by simp[fillB];omega
theorem zQ(cs:List BV)(z:BV):fillB cs z 0=List.replicate cs.length z:=by simp[fillB]
theorem aK5(cs:List BV)(z:BV):fillB cs z cs.length=cs:=by simp[fillB]
theorem aK3{cs:List BV}{z:BV}{i:Nat}(h:i<cs.length):(fillB cs z i).set i cs[i]=fillB cs z (i+1):=by
 unfold fillB
 rw[List.set_append_right _ _ (by simp;omega),show cs.length-i=(cs.length-(i+1))+1 by omega,List.replicate_succ]
 have:i-(cs.take i).length=0:=by simp;omega
 have e:cs.take (i+1)=cs.take i++[cs[i]]:=by rw[List.take_add_one,List.getElem?_eq_getElem h];rfl
 rw[this,e,List.append_assoc]
 rfl
theorem t_bools{ty:Nat}(cs:List BV)(v:BV)(H:BH)(h:Rd H ty v cs)(hone:∀c∈cs,c.one=true)(hn:cs.length≤1048576):FnDoes (gam aA) 75 [v] H fun v' K=>∃b,v'=.sl b 0 cs.length∧Own aA H K [(some b,.arr 4 cs)]:=by
 refine FnDoes.hide fun R hR=>?_
 refine FnDoes.of (fn:=ir75) rfl ?_
 obtain⟨n,hnn⟩:∃n,n=cs.length:=⟨_,rfl⟩
 have hl:=h.len
 rw[←hnn] at hl
 have c1:(n:Int)≤140737488355328:=by omega
 have c8:8*(n:Int)≤140737488355328:=by omega
 simp[ir75,h.isSl,hl,c1,c8]
 intro n3 b3 f3
 have o0:=Own.start (aA:=aA) (H:=H) |>.new f3 b3 (s:=.arr 4 (List.replicate n (BV.bool false)))
 simp[aC f3 b3]
 obtain⟨I,hI⟩:∃I:Nat→Env→BH→Prop,I=(fun i e K=>e 4=aB i∧Own aA H K [(some n3,.arr 4 (fillB cs (BV.bool false) i))]):=⟨_,rfl⟩
 refine aE n [(0,v),(3,.sl n3 0 n)] I (i0:=0) ?_ ?_ ?_ (Nat.zero_le _) ?_
 ·rfl
 ·simp
 ·rw[hI]
  refine⟨by simp,?_⟩
  rw[zQ,←hnn]
  exact o0
 clear o0
 rintro i e K hi ⟨e0,e3,-⟩ hh
 rw[hI] at hh
 obtain⟨e4,o⟩:=hh
 simp only[] at e0 e3
 have wi:=wS (n:=i) (by omega)
 by_cases hlt:i<n
 ·have hic:i<cs.length:=by omega
  have hg:=(h.keeps o.keeps).get hic (rt:=none) rfl
  obtain⟨K5,g5,o5⟩:=o.put 0 (b:=n3) rfl (j:=i) (u:=cs[i]) (by rw[aK4 (by omega)];exact hic) (hone _ (List.getElem_mem hic)) (rt:=none) rfl
  simp[e0,e3,e4,h.isSl,hl,hlt,hg,g5,wi]
  rw[hI]
  refine⟨by simp,?_⟩
  rw[←aK3 hic]
  exact o5
 ·have hie:i=n:=by omega
  simp[e0,e3,e4,h.isSl,hl,hlt]
  rw[hR]
  rw[hie,hnn,aK5] at o
  exact⟨o.keeps,n3,by rw[hnn],o⟩

theorem t_longs{ty:Nat}(cs:List BV)(v:BV)(H:BH)(h:Rd H ty v cs)(hone:∀c∈cs,c.one=true)(hn:cs.length≤1048576):FnDoes (gam aA) 122 [v] H fun v' K=>∃b,v'=.sl b 0 cs.length∧Own aA H K [(some b,.arr 2 cs)]:=by
 refine FnDoes.hide fun R hR=>?_
 refine FnDoes.of (fn:=ir122) rfl ?_
 obtain⟨n,hnn⟩:∃n,n=cs.length:=⟨_,rfl⟩
 have hl:=h.len
 rw[←hnn] at hl
 have c1:(n:Int)≤140737488355328:=by omega
 have c8:8*(n:Int)≤140737488355328:=by omega
 simp[ir122,h.isSl,hl,c1,c8]
 intro n3 b3 f3
 have o0:=Own.start (aA:=aA) (H:=H) |>.new f3 b3 (s:=.arr 2 (List.replicate n (BV.int .i64 0)))
 simp[aC f3 b3]
 obtain⟨I,hI⟩:∃I:Nat→Env→BH→Prop,I=(fun i e K=>e 4=aB i∧Own aA H K [(some n3,.arr 2 (fillB cs (BV.int .i64 0) i))]):=⟨_,rfl⟩
 refine aE n [(0,v),(3,.sl n3 0 n)] I (i0:=0) ?_ ?_ ?_ (Nat.zero_le _) ?_
 ·rfl
 ·simp
 ·rw[hI]
  refine⟨by simp,?_⟩
  rw[zQ,←hnn]
  exact o0
 clear o0
 rintro i e K hi ⟨e0,e3,-⟩ hh
 rw[hI] at hh
 obtain⟨e4,o⟩:=hh
 simp only[] at e0 e3
 have wi:=wS (n:=i) (by omega)
 by_cases hlt:i<n
 ·have hic:i<cs.length:=by omega
  have hg:=(h.keeps o.keeps).get hic (rt:=none) rfl
  obtain⟨K5,g5,o5⟩:=o.put 0 (b:=n3) rfl (j:=i) (u:=cs[i]) (by rw[aK4 (by omega)];exact hic) (hone _ (List.getElem_mem hic)) (rt:=none) rfl
  simp[e0,e3,e4,h.isSl,hl,hlt,hg,g5,wi]
  rw[hI]
  refine⟨by simp,?_⟩
  rw[←aK3 hic]
  exact o5
 ·have hie:i=n:=by omega
  simp[e0,e3,e4,h.isSl,hl,hlt]
  rw[hR]
  rw[hie,hnn,aK5] at o
  exact⟨o.keeps,n3,by rw[hnn],o⟩

def aK2(vs:List BV)(n:Nat):List BV:=vs++List.replicate (n-vs.length) .nils
theorem fillV_set{vs:List BV}{n:Nat}{v:BV}(h:vs.length<n):(aK2 vs n).set vs.length v=aK2 (vs++[v]) n:=by
 unfold aK2
 rw[List.set_append_right _ _ (by omega),Nat.sub_self,show n-vs.length=(n-(vs.length+1))+1 by omega,List.replicate_succ]
 simp
theorem t_rows{ty:Nat}(xss:List (List BV))(v:BV)(H:BH)(h:RdQ H ty v (fun c=>c) xss)(hone:∀xs∈xss,∀c∈xs,c.one=true)(hn:xss.length≤1048576)(hr:∀xs∈xss,xs.length≤1048576):FnDoes (gam aA) 76 [v] H fun v' K=>∃b vs fr,v'=.sl b 0 vs.length∧Own aA H K ((some b,.arr 36 vs)::fr)∧RowsOf 2 vs fr xss:=by
 refine FnDoes.hide fun R hR=>?_
 refine FnDoes.of (fn:=ir76) rfl ?_
 obtain⟨n,hnn⟩:∃n,n=xss.length:=⟨_,rfl⟩
 have hl:=h.len
 rw[←hnn] at hl
 have c1:(n:Int)≤140737488355328:=by omega
 have c8:24*(n:Int)≤140737488355328:=by omega
 simp[ir76,h.isSl,hl,c1,c8]
 intro n3 b3 f3
 have o0:=Own.start (aA:=aA) (H:=H) |>.new f3 b3 (s:=.arr 36 (List.replicate n .nils))
 simp[aC f3 b3]
 obtain⟨I,hI⟩:∃I:Nat→Env→BH→Prop,I=(fun i e K=>e 4=aB i∧∃vs fr,vs.length=i∧Own aA H K ([(some n3,.arr 36 (aK2 vs n))]++fr)∧RowsOf 2 vs fr (xss.take i)):=⟨_,rfl⟩
 refine aE n [(0,v),(3,.sl n3 0 n)] I (i0:=0) ?_ ?_ ?_ (Nat.zero_le _) ?_
 ·rfl
 ·simp
 ·rw[hI]
  refine⟨by simp,[],[],rfl,?_,by simp[RowsOf]⟩
  simpa[aK2] using o0
 clear o0
 rintro i e K hi ⟨e0,e3,-⟩ hh
 rw[hI] at hh
 obtain⟨e4,vs,fr,hvs,o,hrows⟩:=hh
 simp only[] at e0 e3
 have wi:=wS (n:=i) (by omega)
 by_cases hlt:i<n
 ·have hic:i<xss.length:=by omega
  obtain⟨ri,⟨tq,hri⟩,hrr⟩:=(h.keeps o.keeps).at hic
  have hrr:=hrr none rfl
  rw[List.map_id'] at hri
  simp[e0,e4,h.isSl,hl,hlt,hrr]
  refine(t_longs (aA:=aA) xss[i] ri K hri (hone _ (List.getElem_mem hic)) (hr _ (List.getElem_mem hic))).step fun v' K1 k1 hv=>?_
  obtain⟨b,rfl,o2⟩:=hv
  have oj:=Own.join o k1 o2
  obtain⟨K5,g5,o5⟩:=oj.put 0 (b:=n3) rfl (j:=i) (u:=.sl b 0 xss[i].length) (by unfold aK2;simp;omega) rfl (rt:=none) rfl
  simp[e3,hlt,g5,e4,wi]
  rw[hI]
  refine⟨by simp,vs++[.sl b 0 xss[i].length],fr++[(some b,.arr 2 xss[i])],by simp[hvs],?_,?_⟩
  ·rw[←fillV_set (by omega),hvs]
   simpa using o5
  ·rw[List.take_add_one,List.getElem?_eq_getElem hic]
   exact hrows.snoc (bo:=some b) (v:=.sl b 0 xss[i].length) (xs:=xss[i]) rfl
 ·have hie:i=n:=by omega
  simp[e0,e3,e4,h.isSl,hl,hlt]
  rw[hR]
  refine⟨o.keeps,n3,vs,fr,by rw[hvs,hie],?_,?_⟩
  ·have:aK2 vs n=vs:=by unfold aK2;simp;omega
   rw[this] at o
   exact o
  ·rw[hie,hnn,List.take_length] at hrows
   exact hrows
def OwnQ(aA:Nat)(H K:BH)(T S:Int)(acc:List Bool)(rows:List (List Int))(m:BV)(Z:List Sl):Prop:=∃u x bo wo vs fr,m=.agg [.int .i64 T,.int .i64 S,u,x]∧Own aA H K ((bo,.arr 4 (acc.map aK))::(wo,.arr 36 vs)::(fr++Z))∧Vec bo u acc.length∧Vec wo x vs.length∧RowsOf 2 vs fr (rows.map (·.map encI))
theorem OwnQ.rd{H K:BH}{T S:Int}{acc:List Bool}{rows:List (List Int)}{m:BV}{Z:List Sl}(h:OwnQ aA H K T S acc rows m Z):RdRaw K T S acc rows m:=by
 obtain⟨u,x,bo,wo,vs,fr,rfl,o,hu,hx,hr⟩:=h
 have o':Own aA H K ((bo,.arr 4 (acc.map aK))::(wo,.arr 36 vs)::fr):=o.sub (.cons_cons _ (.cons_cons _ (List.sublist_append_left _ _)))
 refine⟨u,x,rfl,o'.rd 0 rfl (by simpa using hu),?_⟩
 exact RowsOf.rdR (bo:=wo) (F:=[(bo,.arr 4 (acc.map aK)),(wo,.arr 36 vs)]) o' hr (o'.rd 1 rfl hx)
theorem t_relO(T S:Int)(acc:List Bool)(rows:List (List Int))(m:BV)(H:BH)(h:RdL H T S acc rows m)(hn1:acc.length≤1048576)(hn:rows.length≤1048576)(hr:∀xs∈rows,xs.length≤1048576):FnDoes (gam aA) 29 [m] H fun v K=>OwnQ aA H K T S acc rows v []:=by
 refine FnDoes.of (fn:=ir29) rfl ?_
 obtain⟨u,x,tb,tw,rfl,hu,hx⟩:=h
 have u1:=hu.one
 have x1:=aF hx.isSl
 simp[ir29,u1,x1]
 intro n1 b1 f1
 simp[aC f1 b1]
 intro n2 b2 f2
 simp[aC f2 b2]
 intro n3 b3 f3
 have o1:=Own.start (aA:=aA) (H:=H) |>.new f1 b1 (s:=.arr 49 [.int .i64 T,.int .i64 S,u,x]) |>.new f2 b2 (s:=.arr 25 [.int .i64 0,.int .i64 0,.nils,.nils]) |>.new f3 b3 (s:=.arr 25 [.int .i64 0,.int .i64 0,.nils,.nils])
 have r0:=aD (o1.at 2 (b:=n1) rfl) (rt:=none) (j:=0) (c:=encI T) rfl rfl
 obtain⟨K1,g1,o2⟩:=o1.put 0 (b:=n3) rfl (j:=0) (u:=encI T) (by simp) rfl (rt:=none) rfl
 have r1:=aD (o2.at 2 (b:=n1) rfl) (rt:=none) (j:=1) (c:=encI S) rfl rfl
 obtain⟨K2,g2,o3⟩:=o2.put 0 (b:=n3) rfl (j:=1) (u:=encI S) (by simp) rfl (rt:=none) rfl
 have r2:=aD (o3.at 2 (b:=n1) rfl) (rt:=none) (j:=2) (c:=u) rfl rfl
 simp[aC f3 b3,r0,g1,r1,g2,r2]
 refine(t_bools (aA:=aA) (acc.map aK) u _ (hu.keeps o3.keeps) (fun c hc=>by
   obtain⟨q,_,rfl⟩:=List.mem_map.1 hc
   rfl) (by simpa using hn1)).step fun v K3 k3 hv=>?_
 obtain⟨b,rfl,o4⟩:=hv
 have oj:=Own.join o3 k3 o4
 obtain⟨K4,g4,o5⟩:=oj.put 0 (b:=n3) rfl (j:=2) (u:=.sl b 0 (acc.map aK).length) (by simp) rfl (rt:=none) rfl
 have r3:=aD (o5.at 2 (b:=n1) rfl) (rt:=none) (j:=3) (c:=x) rfl rfl
 simp only[List.length_map] at g4
 simp[g4,r3]
 refine(t_rows (aA:=aA) (rows.map (·.map encI)) x _ (RdQ.cells (hx.keeps o5.keeps)) (fun xs hxs c hc=>by
   obtain⟨r,_,rfl⟩:=List.mem_map.1 hxs
   obtain⟨q,_,rfl⟩:=List.mem_map.1 hc
   rfl) (by simpa using hn) (fun xs hxs=>by
   obtain⟨r,hr',rfl⟩:=List.mem_map.1 hxs
   rw[List.length_map]
   exact hr r hr')).step fun v K5 k5 hv=>?_
 obtain⟨c,vs,fr,rfl,o6,hrows⟩:=hv
 have oj2:=Own.join o5 k5 o6
 obtain⟨K6,g6,o7⟩:=oj2.put 0 (b:=n3) rfl (j:=3) (u:=.sl c 0 vs.length) (by simp) rfl (rt:=none) rfl
 have r9:=aI (o7.at 0 (b:=n3) rfl) (n:=4) (rt:=none) rfl rfl
 obtain⟨K7,g7,o8⟩:=o7.putAll 1 (b:=n2) (n:=4) (ds:=[encI T,encI S,.sl b 0 acc.length,.sl c 0 vs.length]) rfl rfl rfl rfl (rt:=none) rfl
 have r10:=aI (o8.at 1 (b:=n2) rfl) (n:=4) (rt:=none) rfl rfl
 simp[g6,r9,g7,r10]
 refine⟨o8.keeps,_,_,some b,some c,vs,fr,rfl,?_,rfl,rfl,hrows⟩
 rw[List.append_nil]
 simpa using o8.drop 3
theorem t_rel(T S:Int)(acc:List Bool)(rows:List (List Int))(m:BV)(H:BH)(h:RdL H T S acc rows m)(hn1:acc.length≤1048576)(hn:rows.length≤1048576)(hr:∀xs∈rows,xs.length≤1048576):FnDoes (gam aA) 29 [m] H fun v K=>RdRaw K T S acc rows v:=(t_relO T S acc rows m H h hn1 hn hr).mono fun _ _ _ h=>h.rd
theorem q_bools(bs:List Bool)(v w:BV)(H:BH){ty ty2:Nat}(h:Rd H ty v (bs.map aK))(k:Rd H ty2 w (bs.map aK))(hn:bs.length≤4611686018427387904):Runs (gam aA) 79 [v,w] H (.bool true) H:=by
 refine aV (fn:=ir79) rfl ?_
 simp[ir79,h.isSl,h.lenM,k.isSl,k.lenM]
 refine aE bs.length [(0,v),(1,w)] (fun i e K=>e 5=aB i∧K=H) (i0:=0) ?_ ?_ ?_ (Nat.zero_le _) ?_
 ·rfl
 ·simp
 ·exact⟨by simp,rfl⟩
 rintro i e K hi ⟨e0,e1,-⟩ ⟨e5,rfl⟩
 simp only[] at e0 e1
 have wi:=wS (n:=i) (by omega)
 by_cases hlt:i<bs.length
 ·have g1:=h.at hlt (rt:=none) rfl
  have g2:=k.at hlt (rt:=none) rfl
  simp[e0,e1,e5,h.isSl,h.lenM,k.isSl,k.lenM,hlt,g1,g2,wi]
 ·simp[e0,e1,e5,h.isSl,h.lenM,k.isSl,k.lenM,hlt]
theorem q_longs(bs:List Int)(v w:BV)(H:BH){ty ty2:Nat}(h:Rd H ty v (bs.map encI))(k:Rd H ty2 w (bs.map encI))(hn:bs.length≤4611686018427387904):Runs (gam aA) 130 [v,w] H (.bool true) H:=by
 refine aV (fn:=ir130) rfl ?_
 simp[ir130,h.isSl,h.lenM,k.isSl,k.lenM]
 refine aE bs.length [(0,v),(1,w)] (fun i e K=>e 5=aB i∧K=H) (i0:=0) ?_ ?_ ?_ (Nat.zero_le _) ?_
 ·rfl
 ·simp
 ·exact⟨by simp,rfl⟩
 rintro i e K hi ⟨e0,e1,-⟩ ⟨e5,rfl⟩
 simp only[] at e0 e1
 have wi:=wS (n:=i) (by omega)
 by_cases hlt:i<bs.length
 ·have g1:=h.at hlt (rt:=none) rfl
  have g2:=k.at hlt (rt:=none) rfl
  simp[e0,e1,e5,h.isSl,h.lenM,k.isSl,k.lenM,hlt,g1,g2,wi]
 ·simp[e0,e1,e5,h.isSl,h.lenM,k.isSl,k.lenM,hlt]
theorem q_rows(rows:List (List Int))(v w:BV)(H:BH){ty ty2 tz tz2:Nat}(h:RdR H ty ty2 v encI rows)(k:RdR H tz tz2 w encI rows)(hn:rows.length≤4611686018427387904)(hr:∀r∈rows,r.length≤4611686018427387904):Runs (gam aA) 80 [v,w] H (.bool true) H:=by
 refine aV (fn:=ir80) rfl ?_
 simp[ir80,h.isSl,h.len,k.isSl,k.len]
 refine aE rows.length [(0,v),(1,w)] (fun i e K=>e 5=aB i∧K=H) (i0:=0) ?_ ?_ ?_ (Nat.zero_le _) ?_
 ·rfl
 ·simp
 ·exact⟨by simp,rfl⟩
 rintro i e K hi ⟨e0,e1,-⟩ ⟨e5,rfl⟩
 simp only[] at e0 e1
 have wi:=wS (n:=i) (by omega)
 by_cases hlt:i<rows.length
 ·obtain⟨ri,hri,hrr⟩:=h.at hlt
  obtain⟨rj,hrj,hrk⟩:=k.at hlt
  have hrr:=hrr none rfl
  have hrk:=hrk none rfl
  simp[e0,e1,e5,h.isSl,h.len,k.isSl,k.len,hlt,hrr,hrk]
  refine aN (q_longs (aA:=aA) rows[i] ri rj K hri hrj (hr _ (List.getElem_mem hlt))) ?_
  simp[e5,wi,hlt]
 ·simp[e0,e1,e5,h.isSl,h.len,k.isSl,k.len,hlt]
theorem q_rel(T S:Int)(acc:List Bool)(rows:List (List Int))(m m2:BV)(H:BH)(h:RdRaw H T S acc rows m)(k:RdRaw H T S acc rows m2)(hn1:acc.length≤4611686018427387904)(hn:rows.length≤4611686018427387904)(hr:∀r∈rows,r.length≤4611686018427387904):FnDoes (gam aA) 31 [m,m2] H fun v _=>v=.bool true:=by
 refine FnDoes.of (fn:=ir31) rfl ?_
 obtain⟨u,x,rfl,hu,hx⟩:=h
 obtain⟨u',x',rfl,hu',hx'⟩:=k
 have u1:=hu.one
 have x1:=aF hx.isSl
 have u1':=hu'.one
 have x1':=aF hx'.isSl
 simp[ir31,u1,x1,u1',x1']
 intro n2 b2 f2
 simp[aC f2 b2,u1',x1']
 intro n3 b3 f3
 have o1:=Own.start (aA:=aA) (H:=H) |>.new f2 b2 (s:=.arr 25 [.int .i64 T,.int .i64 S,u,x]) |>.new f3 b3 (s:=.arr 25 [.int .i64 T,.int .i64 S,u',x'])
 have p0:=aD (o1.at 1 (b:=n2) rfl) (rt:=none) (j:=0) (c:=encI T) rfl rfl
 have p1:=aD (o1.at 1 (b:=n2) rfl) (rt:=none) (j:=1) (c:=encI S) rfl rfl
 have p2:=aD (o1.at 1 (b:=n2) rfl) (rt:=none) (j:=2) (c:=u) rfl rfl
 have p3:=aD (o1.at 1 (b:=n2) rfl) (rt:=none) (j:=3) (c:=x) rfl rfl
 have q0:=aD (o1.at 0 (b:=n3) rfl) (rt:=none) (j:=0) (c:=encI T) rfl rfl
 have q1:=aD (o1.at 0 (b:=n3) rfl) (rt:=none) (j:=1) (c:=encI S) rfl rfl
 have q2:=aD (o1.at 0 (b:=n3) rfl) (rt:=none) (j:=2) (c:=u') rfl rfl
 have q3:=aD (o1.at 0 (b:=n3) rfl) (rt:=none) (j:=3) (c:=x') rfl rfl
 simp[aC f3 b3,p0,p1,p2,q0,q1,q2]
 refine aN (q_bools (aA:=aA) acc u u' _ (hu.keeps o1.keeps) (hu'.keeps o1.keeps) hn1) ?_
 simp[p3,q3]
 refine aN (q_rows (aA:=aA) rows x x' _ (hx.keeps o1.keeps) (hx'.keeps o1.keeps) hn hr) ?_
 simp
 exact o1.keeps
abbrev aA5:=Int×Int×List Bool×List (List Int)
def valR(r:aA5):Bool:=dU r.1 r.2.1 r.2.2.1 r.2.2.2
noncomputable def nsR(r:aA5):Bool:=decide (r.1=1)&&nsB ((⟨r.2.2.1,r.2.2.2.map (·.map Int.toNat)⟩:Aut).lang r.2.1.toNat)
noncomputable def nT(l:List aA5):Nat:=if l.all valR=true then(if l.all nsR=true then 0 else 4) else 1
def RdRs(H:BH)(v:BV)(l:List aA5):Prop:=∃cs:List (List BV),Sls H 25 4 v cs∧cs.length=l.length∧∀(i:Nat) (c:List BV) (r:aA5),cs[i]?=some c→l[i]?=some r→RdRaw H r.1 r.2.1 r.2.2.1 r.2.2.2 (.agg c)
theorem i_isNSr(r:aA5)(m:BV)(H:BH)(hv:valR r=true)(h:RdRaw H r.1 r.2.1 r.2.2.1 r.2.2.2 m):FnDoes (gam aA) 123 [m] H fun v _=>v=.bool (nsR r):=by
 obtain⟨T,S,acc,rows⟩:=r
 obtain⟨t,s,A,hT,hS,ht1,ht,ha,hr,hok,hs,hlen⟩:=tO hv
 simp only at ha hr h
 subst hT hS ha hr
 refine(i_isNS (aA:=aA) t s ht1 ht A m H h.rel hok hs hlen).mono fun v K _ hv=>?_
 rw[hv]
 unfold nsR
 have e1:=aF0 A
 simp only[e1,Int.toNat_natCast]
 congr 2
 rw[Bool.eq_iff_iff]
 simp
 omega
theorem s_isNSr(r:aA5)(rb:Nat)(H:BH)(hv:valR r=true)(h:RdRawP H rb r.1 r.2.1 r.2.2.1 r.2.2.2):FnDoes (gam aA) 117 [.ptr rb 0] H fun v _=>v=.bool (nsR r):=by
 obtain⟨T,S,acc,rows⟩:=r
 obtain⟨t,s,A,hT,hS,ht1,ht,ha,hr,hok,hs,hlen⟩:=tO hv
 simp only at ha hr h
 subst hT hS ha hr
 refine(s_isNS (aA:=aA) t s rb ht1 ht A H h.rel hok hs hlen).mono fun v K _ hv=>?_
 rw[hv]
 unfold nsR
 have e1:=aF0 A
 simp only[e1,Int.toNat_natCast]
 congr 2
 rw[Bool.eq_iff_iff]
 simp
 omega
theorem s_set(r:aA5)(rb:Nat)(H:BH)(h:RdRawP H rb r.1 r.2.1 r.2.2.1 r.2.2.2)(hn:r.2.2.1.length≤4611686018427387904):FnDoes (gam aA) 73 [.ptr rb 0] H fun v _=>v=aB (nT [r]):=by
 refine FnDoes.of (fn:=ir73) rfl ?_
 simp[ir73]
 have c1:=s_ok (aA:=aA) rb r.1 r.2.1 r.2.2.1 r.2.2.2 H h hn
 refine aN c1 ?_
 have hvr:valR r=dU r.1 r.2.1 r.2.2.1 r.2.2.2:=rfl
 rw[←hvr]
 cases hv:valR r
 ·simp[nT,hv]
  exact BH.Keeps.refl H
 simp
 refine(s_isNSr (aA:=aA) r rb H hv h).step fun v K k1 hv2=>?_
 subst hv2
 cases hs:nsR r
 ·simp[nT,hv,hs]
  exact k1
 ·simp[nT,hv,hs]
  exact k1
theorem RdRs.keeps{H K:BH}{v:BV}{l:List aA5}(h:RdRs H v l)(k:H.Keeps K):RdRs K v l:=by
 obtain⟨cs,h1,h2,h3⟩:=h
 exact⟨cs,h1.keeps k,h2,fun i c r hc hr=>(h3 i c r hc hr).keeps k⟩
theorem RdRs.get{H:BH}{v:BV}{l:List aA5}(h:RdRs H v l){i:Nat}(hi:i<l.length):∃u w,H.rd none (some 4) (v.sat i 4)=some (.agg [.int .i64 l[i].1,.int .i64 l[i].2.1,u,w])∧RdRaw H l[i].1 l[i].2.1 l[i].2.2.1 l[i].2.2.2 (.agg [.int .i64 l[i].1,.int .i64 l[i].2.1,u,w]):=by
 obtain⟨cs,h1,h2,h3⟩:=h
 have hc:cs[i]?=some cs[i]:=List.getElem?_eq_getElem (by omega)
 have hr:=h3 i _ _ hc (List.getElem?_eq_getElem hi)
 obtain⟨u,w,e,-⟩:=id hr
 rw[e] at hr
 refine⟨u,w,?_,hr⟩
 rw[←e]
 exact h1.rd hc rfl
theorem aP7(l:List aA5)(v:BV)(H:BH)(h:RdRs H v l)(hl:l.length≤1000000)(hn:∀r∈l,r.2.2.1.length≤4611686018427387904):FnDoes (gam aA) 77 [v] H fun u _=>u=aB (nT l):=by
 refine FnDoes.hide fun R hR=>?_
 refine FnDoes.of (fn:=ir77) rfl ?_
 have hsl:v.isSl=true:=by obtain⟨cs,h1,_⟩:=h;exact h1.isSl
 have hsn:v.slen=l.length:=by obtain⟨cs,h1,h2,_⟩:=h;rw[h1.len,h2]
 simp[ir77,hsl,hsn]
 obtain⟨I,hI⟩:∃I:Nat→Env→BH→Prop,I=(fun i e K=>e 9=aB i∧H.Keeps K∧∀r∈l.take i,valR r=true):=⟨_,rfl⟩
 refine aE l.length [(0,v),(7,v),(8,aB l.length)] I (i0:=0) ?_ ?_ ?_ (Nat.zero_le _) ?_
 ·rfl
 ·simp
 ·rw[hI]
  exact⟨by simp,BH.Keeps.refl H,by simp⟩
 rintro i e K hi ⟨e0,e7,e8,-⟩ hh
 rw[hI] at hh
 obtain⟨e9,hk,hall⟩:=hh
 simp only[] at e0 e7 e8
 have wi:=wS (n:=i) (by omega)
 by_cases hlt:i<l.length
 ·obtain⟨u,w,hrd,hrw⟩:=(h.keeps hk).get hlt
  obtain⟨u',w',e1,hu,hw⟩:=id hrw
  simp only[BV.agg.injEq,List.cons.injEq,and_true,true_and] at e1
  obtain⟨eu,ew⟩:=e1
  rw[←eu] at hu
  rw[←ew] at hw
  have u1:=hu.one
  have w1:=aF hw.isSl
  simp[e7,e8,e9,hlt,hsl,hsn,hrd,u1,w1]
  intro n4 b4 f4
  obtain⟨K4,g4,o4⟩:=(Own.start (aA:=aA) (H:=K) |>.new f4 b4 (s:=.arr 25 [.int .i64 0,.int .i64 0,.nils,.nils])).putAll 0 (b:=n4) (n:=4) (ds:=[.int .i64 l[i].1,.int .i64 l[i].2.1,u,w]) rfl rfl rfl (by simp[u1,w1]) (rt:=none) rfl
  have r4:=aI (o4.at 0 (b:=n4) rfl) (n:=4) (rt:=none) rfl rfl
  simp[aC f4 b4,g4,r4]
  refine(lQ (aA:=aA) _ _ _ _ _ K4 (hrw.keeps o4.keeps) (hn _ (List.getElem_mem hlt))).step fun v' K5 k5 hv=>?_
  subst hv
  have hvr:valR l[i]=dU l[i].1 l[i].2.1 l[i].2.2.1 l[i].2.2.2:=rfl
  rw[←hvr]
  cases hv:valR l[i]
  ·simp
   rw[hR]
   refine⟨hk.trans (o4.keeps.trans k5),?_⟩
   have:l.all valR≠true:=by
    intro ha
    rw[List.all_eq_true.1 ha _ (List.getElem_mem hlt)] at hv
    cases hv
   simp[nT,if_neg this]
  ·simp[e9,wi,hlt]
   rw[hI]
   refine⟨by simp,hk.trans (o4.keeps.trans k5),fun r hr=>?_⟩
   rw[List.take_add_one,List.getElem?_eq_getElem hlt] at hr
   rcases List.mem_append.1 hr with hr|hr
   ·exact hall r hr
   ·simp at hr
    subst hr
    exact hv
 ·have hie:i=l.length:=by omega
  subst hie
  rw[List.take_length] at hall
  have hva:l.all valR=true:=List.all_eq_true.2 hall
  simp[e7,e8,e9,e0,hsl,hsn]
  obtain⟨J,hJ⟩:∃J:Nat→Env→BH→Prop,J=(fun i e K=>e 19=aB i∧H.Keeps K∧∀r∈l.take i,nsR r=true):=⟨_,rfl⟩
  refine aE l.length [(17,v),(18,aB l.length)] J (i0:=0) ?_ ?_ ?_ (Nat.zero_le _) ?_
  ·rfl
  ·simp
  ·rw[hJ]
   exact⟨by simp,hk,by simp⟩
  clear e0 e7 e8 e9 wi hk
  rintro i e K hi ⟨e17,e18,-⟩ hh
  rw[hJ] at hh
  obtain⟨e19,hk,halln⟩:=hh
  simp only[] at e17 e18
  have wi:=wS (n:=i) (by omega)
  by_cases hlt:i<l.length
  ·obtain⟨u,w,hrd,hrw⟩:=(h.keeps hk).get hlt
   obtain⟨u',w',e1,hu,hw⟩:=id hrw
   simp only[BV.agg.injEq,List.cons.injEq,and_true,true_and] at e1
   obtain⟨eu,ew⟩:=e1
   rw[←eu] at hu
   rw[←ew] at hw
   have u1:=hu.one
   have w1:=aF hw.isSl
   simp[e17,e18,e19,hlt,hsl,hsn,hrd,u1,w1]
   intro n4 b4 f4
   obtain⟨K4,g4,o4⟩:=(Own.start (aA:=aA) (H:=K) |>.new f4 b4 (s:=.arr 25 [.int .i64 0,.int .i64 0,.nils,.nils])).putAll 0 (b:=n4) (n:=4) (ds:=[.int .i64 l[i].1,.int .i64 l[i].2.1,u,w]) rfl rfl rfl (by simp[u1,w1]) (rt:=none) rfl
   have r4:=aI (o4.at 0 (b:=n4) rfl) (n:=4) (rt:=none) rfl rfl
   simp[aC f4 b4,g4,r4]
   refine(i_isNSr (aA:=aA) l[i] _ K4 (hall _ (List.getElem_mem hlt)) (hrw.keeps o4.keeps)).step fun v' K5 k5 hv=>?_
   subst hv
   cases hv:nsR l[i]
   ·simp
    rw[hR]
    refine⟨hk.trans (o4.keeps.trans k5),?_⟩
    have:l.all nsR≠true:=by
     intro ha
     rw[List.all_eq_true.1 ha _ (List.getElem_mem hlt)] at hv
     cases hv
    simp only[nT]
    rw[if_pos hva,if_neg this]
    rfl
   ·simp[e19,wi,hlt]
    rw[hJ]
    refine⟨by simp,hk.trans (o4.keeps.trans k5),fun r hr=>?_⟩
    rw[List.take_add_one,List.getElem?_eq_getElem hlt] at hr
    rcases List.mem_append.1 hr with hr|hr
    ·exact halln r hr
    ·simp at hr
     subst hr
     exact hv
  ·have hie:i=l.length:=by omega
   subst hie
   rw[List.take_length] at halln
   simp[e17,e18,e19]
   rw[hR]
   refine⟨hk,?_⟩
   simp only[nT]
   rw[if_pos hva,if_pos (List.all_eq_true.2 halln)]
   rfl
theorem aX5:∀xs:List Nat,qC (xs.map fun(b:Nat)=>BV.int .u8 (b:Int))=some (xs.map fun(b:Nat)=>(b:Int))
 | []=>rfl
 | x::xs=>by
  show (qC (xs.map fun(b:Nat)=>BV.int .u8 (b:Int))).map ((x:Int)::·)=_
  rw[aX5 xs]
  rfl
theorem u8str{H K:BH}{wo:Option Nat}{xs:List Nat}{v:BV}{aA nb:Nat}{σ:Opd→BV}{x:Opd}{L:List Sl}(o:Own aA H K ((wo,.arr 5 (xs.map fun(b:Nat)=>BV.int .u8 (b:Int)))::L))(hv:Vec wo v xs.length)(hx:σ x=v):
  op1 aA nb σ K (.b2s 5 x)=some (.str ⟨(xs.map UInt8.ofNat).toArray⟩,K):=by
 rw[iO,hx]
 cases wo with
 | none =>
  obtain⟨rfl,hl⟩:=hv
  have:xs=[]:=List.eq_nil_of_length_eq_zero hl
  subst this
  rfl
 | some b =>
  have hv:v=.sl b 0 xs.length:=hv
  subst hv
  have hr:=o.at 0 (b:=b) rfl
  simp only[hr]
  rw[if_pos ⟨trivial,by simp⟩,List.drop_zero,List.take_of_length_le (by simp),aX5]
  simp only[Option.map_some,strB,List.map_map]
  rfl
def fW(xs:List Nat):ByteArray:=⟨(xs.map UInt8.ofNat).toArray⟩
theorem dL(xs:List Nat):(fW xs).size=xs.length:=by simp[fW,ByteArray.size]
theorem ab_letter(d:Nat)(h:d<2):(⟨#[97,98]⟩:ByteArray).extract d (d+1)=fW [97+d]:=by
 have:d=0∨d=1:=by omega
 rcases this with rfl|rfl<;>decide
def cL(ds:List Nat):Nat:=ds.foldr (fun d a=>3*a+d) 0
def Dig3(ds:List Nat):Prop:=∀d∈ds,d<3
theorem rY:∀{ds:List Nat},Dig3 ds→cL ds<p3 ds.length
 | [],_=>by simp[cL,p3]
 | d::ds,h=>by
  have h1:=rY (ds:=ds) fun x hx=>h x (List.mem_cons_of_mem _ hx)
  have h2:=h d List.mem_cons_self
  simp only[List.length_cons,lP]
  show 3*cL ds+d<_
  omega
theorem colD_wd:∀{ds:List Nat},Dig3 ds→(∃d∈ds,d<2)→cL ds<wd ds.length
 | [],_,h=>by obtain⟨d,hd,_⟩:=h;cases hd
 | d::ds,h,hs=>by
  have hd:Dig3 ds:=fun x hx=>h x (List.mem_cons_of_mem _ hx)
  have h1:=rY hd
  have h2:=h d List.mem_cons_self
  have h3:=p3_pos ds.length
  unfold wd
  simp only[List.length_cons,lP]
  show 3*cL ds+d<_
  obtain⟨x,hx,hx2⟩:=hs
  rcases List.mem_cons.1 hx with rfl|hx
  ·omega
  ·have h4:=colD_wd hd ⟨x,hx,hx2⟩
   unfold wd at h4
   omega
theorem tD(ds:List Nat)(d:Nat):cL (ds++[d])=cL ds+d*p3 ds.length:=by
 induction ds with
 | nil=>simp[cL,p3]
 | cons x ds ih =>
  show 3*cL (ds++[d])+x=3*cL ds+x+d*p3 (ds.length+1)
  rw[ih,lP,Nat.mul_add,←Nat.mul_assoc d,Nat.mul_comm (d*p3 ds.length)]
  omega
theorem colD_drop{ds:List Nat}{i:Nat}(h:i<ds.length):cL (ds.drop i)=3*cL (ds.drop (i+1))+ds[i]:=by
 rw[List.drop_eq_getElem_cons h]
 rfl
def IsW(w:List Nat):Prop:=∀b∈w,b=97∨b=98
theorem IsW.get{w:List Nat}(h:IsW w){i:Nat}(hi:i<w.length):w[i]=97∨w[i]=98:=h _ (List.getElem_mem hi)
theorem let_sub{b:Nat}(h:b=97∨b=98):IntKind.i64.wrap (IntKind.u8.wrap ((b:Int)-97))=((b-97:Nat):Int):=by rcases h with rfl|rfl<;>rfl
theorem zJ(ds:List Nat)(v:BV)(H:BH)(h:Rd H 3 v (ds.map aB))(h3:Dig3 ds)(hl:ds.length≤30):FnDoes (gam aA) 107 [v] H fun u K=>u=aB (cL ds):=by
 refine FnDoes.of (fn:=ir107) rfl ?_
 have w0:=xZ (n:=ds.length) (by omega)
 simp[ir107,h.isSl,h.lenM,w0]
 refine aE ds.length [(0,v)] (fun i e K=>e 3=aB (cL (ds.drop (ds.length-i)))∧e 4=.int .i64 ((ds.length:Int)-1-i)∧K=H) (i0:=0) rfl ?_ ?_ (Nat.zero_le _) ?_
 ·simp
 ·simp[cL]
 rintro i e K hi ⟨e0,-⟩ ⟨e3,e4,rfl⟩
 simp only[] at e0
 by_cases hlt:i<ds.length
 ·have hj:ds.length-i=ds.length-(i+1)+1:=by omega
  obtain⟨j,hjj⟩:∃j,j=ds.length-(i+1):=⟨_,rfl⟩
  have e4':((ds.length:Int)-1-i)=(j:Int):=by omega
  have hjl:j<ds.length:=by omega
  have c1:=colD_drop hjl
  have c2:=rY (ds:=ds.drop (j+1)) fun x hx=>h3 x (List.mem_of_mem_drop hx)
  have c3:=p3_le (show (ds.drop (j+1)).length≤30 by simp;omega)
  rw[p3_30] at c3
  have hd:=h3 _ (List.getElem_mem hjl)
  have g1:=h.at (i:=j) hjl (rt:=none) rfl
  rw[hj,←hjj] at e3
  rw[e4'] at e4
  have m1:=pb_mul (a:=3) (b:=cL (ds.drop (j+1))) (by omega)
  have w1:IntKind.i64.wrap (3*((cL (ds.drop (j+1)):Nat):Int))=((3*cL (ds.drop (j+1)):Nat):Int):=by rw[w64 (by omega) (by omega)];simp
  have w2:IntKind.i64.wrap (((3*cL (ds.drop (j+1)):Nat):Int)+(ds[j]:Nat))=((cL (ds.drop j):Nat):Int):=by rw[w64 (by omega) (by omega),c1];simp
  have w4:=xZ (n:=j) (by omega)
  simp[e0,e3,e4,hjl,h.isSl,h.lenM,g1,w1,w4,hlt]
  refine⟨?_,by omega⟩
  have:IntKind.i64.wrap (3*((cL (ds.drop (j+1)):Nat):Int)+((ds[j]:Nat):Int))=((cL (ds.drop j):Nat):Int):=by rw[w64 (by omega) (by omega),c1];simp
  subst hjj
  exact this
 ·have hie:i=ds.length:=by omega
  subst hie
  rw[show ((ds.length:Int)-1-(ds.length:Nat)) = -1 by omega] at e4
  simp[e3,e4]
  exact BH.Keeps.refl K
abbrev eZ(w:List Nat):BV:=.str (fW w)
theorem aB0(w:List Nat)(i:Nat)(hi:i<(fW w).size):(fW w)[i]=UInt8.ofNat (w[i]'(by rwa [dL] at hi)):=by simp[fW,ByteArray.getElem_eq_getElem_data]
theorem let_mod{b:Nat}(h:b=97∨b=98):b % 256=b:=by omega
theorem aE9{H:BH}{ty ty2:Nat}{x:BV}{A:Aut}{w:Nat}(hx:RdR H ty ty2 x aB A.nxt)(hok:A.Ok w){q c:Nat}(hq:q<A.y.length)(hc:c<w):
  ∃r,(∀rt,dF rt ty=true→H.rd rt none (x.sat q 1)=some r)∧r.isSl=true∧r.slen=w∧(∀rt,dF rt ty2=true→H.rd rt none (r.sat c 1)=some (aB (A.to q c))):=by
 have hq':q<A.nxt.length:=by rw[hok.len];exact hq
 obtain⟨r,h1,h2⟩:=hx.at hq'
 have hl:=(hok.row _ (List.getElem_mem hq')).1
 have hc':c<A.nxt[q].length:=by omega
 have e:A.to q c=A.nxt[q][c]:=by simp[Aut.to,hq',hc']
 exact⟨r,h2,h1.isSl,by rw[h1.lenM,hl],fun rt hrt=>by rw[h1.at hc' hrt,e]⟩
theorem _root_.Go.Au.In.take{w:Nat}{cs:List Nat}(h:In w cs)(i:Nat):In w (cs.take i):=fun c hc=>h c (List.mem_of_mem_take hc)
def autR(r:aA5):Aut:=⟨r.2.2.1,r.2.2.2.map (·.map Int.toNat)⟩
theorem sets_one{r:aA5}(h:nT [r]=0):valR r=true∧nsR r=true:=by
 unfold nT at h
 simp at h
 split at h
 ·rename_i h1
  split at h
  ·rename_i h2;exact⟨h1,h2⟩
  ·cases h
 ·cases h
theorem ns_elim{r:aA5}(h:nT [r]=0):∃(s:Nat) (A:Aut),r.1=(1:Nat)∧r.2.1=s∧r.2.2.1=A.y∧r.2.2.2=A.nxt.map (·.map fun(q:Nat)=>(q:Int))∧A.Ok (wd 1)∧s<A.y.length∧A.y.length≤150∧autR r=A∧nsB (A.lang s)=true:=by
 obtain⟨hv,hns⟩:=sets_one h
 obtain⟨T,S,acc,rows⟩:=r
 obtain⟨t,s,A,hT,hS,ht1,ht,ha,hr,hok,hs,hlen⟩:=tO hv
 simp only at ha hr
 subst hT hS ha hr
 unfold nsR at hns
 simp only[Bool.and_eq_true,decide_eq_true_eq] at hns
 have ht':t=1:=by omega
 subst ht'
 have e:=aF0 A
 rw[e] at hns
 exact⟨s,A,rfl,rfl,rfl,rfl,hok,hs,hlen,e,hns.2⟩
theorem sets_ne{n:Nat}(h:n≠0):(((n:Nat):Int) != 0)=true:=by simpa using h
theorem mK(A:Aut)(s:Nat)(cs:List Nat)(c:Nat):A.run s (cs++[c])=A.to (A.run s cs) c:=by simp only[Aut.run,List.foldl_append,List.foldl_cons,List.foldl_nil]
def rQ(A:Aut)(S:List Bool)(i:Nat):List Bool:=(List.range A.y.length).map fun p=>(List.range i).any fun q=>S.getD q false&&(decide (A.to q 0=p)||decide (A.to q 1=p))
def aR(A:Aut)(s:Nat):Nat→List Bool
 | 0=>(List.range A.y.length).map fun p=>decide (s=p)
 | k+1=>rQ A (aR A s k) A.y.length
theorem pR(A:Aut)(S:List Bool)(i:Nat):(rQ A S i).length=A.y.length:=by simp[rQ]
theorem aS(A:Aut)(s:Nat):∀k,(aR A s k).length=A.y.length
 | 0=>by simp[aR]
 | k+1=>pR _ _ _
theorem setB{n:Nat}{f:Nat→Bool}{q:Nat}(hq:q<n):((List.range n).map f).set q true=(List.range n).map fun p=>f p||decide (q=p):=by
 apply List.ext_getElem
 ·simp
 ·intro i h1 h2
  rw[List.getElem_set]
  by_cases h:q=i
  ·simp[h]
  ·simp[h]
theorem yY(A:Aut)(S:List Bool):rQ A S 0=List.replicate A.y.length false:=by
 apply List.ext_getElem
 ·simp[rQ]
 ·intro i h1 h2
  simp[rQ]
theorem wM(A:Aut){s:Nat}(hs:s<A.y.length):(List.replicate A.y.length false).set s true=aR A s 0:=by
 have h:List.replicate A.y.length false=(List.range A.y.length).map fun _=>false:=by
  apply List.ext_getElem
  ·simp
  ·intro i h1 h2;simp
 rw[h,setB hs]
 simp[aR]
theorem zC(A:Aut){S:List Bool}{i:Nat}(h:S.getD i false=false):rQ A S (i+1)=rQ A S i:=by
 unfold rQ
 refine List.map_congr_left fun p _=>?_
 rw[List.range_succ,List.any_append]
 simp only[List.any_cons,List.any_nil,Bool.or_false,h,Bool.false_and]
theorem yZ(A:Aut){w:Nat}(hok:A.Ok w)(hw:2≤w){S:List Bool}{i:Nat}(hi:i<A.y.length)(h:S.getD i false=true):((rQ A S i).set (A.to i 0) true).set (A.to i 1) true=rQ A S (i+1):=by
 unfold rQ
 rw[setB (hok.to hi (by omega)),setB (hok.to hi (by omega))]
 refine List.map_congr_left fun p _=>?_
 rw[List.range_succ,List.any_append]
 simp only[List.any_cons,List.any_nil,Bool.or_false,h,Bool.true_and,Bool.or_assoc]
theorem gB(A:Aut){w:Nat}(hok:A.Ok w)(hw:2≤w){s:Nat}(hs:s<A.y.length):∀(k p:Nat),p<A.y.length→((aR A s k).getD p false=true↔∃cs,In 2 cs∧cs.length=k∧A.run s cs=p)
 | 0,p,hp=>by
  unfold aR
  rw[getD_map (by simpa using hp)]
  simp only[List.getElem_range,decide_eq_true_eq]
  constructor
  ·rintro rfl
   exact⟨[],In.nil 2,rfl,rfl⟩
  ·rintro⟨cs,_,h2,h3⟩
   rw[List.length_eq_zero_iff] at h2
   subst h2
   exact h3
 | k+1,p,hp=>by
  unfold aR rQ
  rw[getD_map (by simpa using hp)]
  simp only[List.getElem_range,List.any_eq_true,List.mem_range,Bool.and_eq_true,Bool.or_eq_true,decide_eq_true_eq]
  constructor
  ·rintro⟨q,hq,h1,h2⟩
   obtain⟨cs,g1,g2,g3⟩:=(gB A hok hw hs k q hq).1 h1
   rcases h2 with h2|h2
   ·refine⟨cs++[0],g1.append (fun c hc=>by simp at hc;omega),by simp[g2],?_⟩
    rw[mK,g3]
    exact h2
   ·refine⟨cs++[1],g1.append (fun c hc=>by simp at hc;omega),by simp[g2],?_⟩
    rw[mK,g3]
    exact h2
  ·rintro⟨cs,g1,g2,g3⟩
   have hne:cs≠[]:=by rintro rfl;simp at g2
   have e:=List.dropLast_concat_getLast hne
   have hin:In 2 cs.dropLast:=fun c hc=>g1 c (List.dropLast_subset _ hc)
   have hq:A.run s cs.dropLast<A.y.length:=hok.run hs fun c hc=>by have:=hin c hc;omega
   refine⟨A.run s cs.dropLast,hq,(gB A hok hw hs k _ hq).2 ⟨_,hin,by simp[g2],rfl⟩,?_⟩
   have hl:cs.getLast hne<2:=g1 _ (List.getLast_mem hne)
   rw[←e,Aut.run,List.foldl_append] at g3
   have g3':A.to (A.run s cs.dropLast) (cs.getLast hne)=p:=g3
   have:cs.getLast hne=0∨cs.getLast hne=1:=by omega
   rcases this with h|h<;>rw[h] at g3'
   ·exact .inl g3'
   ·exact .inr g3'
def countB(A:Aut)(s k:Nat):Bool:=(List.range A.y.length).any fun p=>A.y.getD p false&&(aR A s k).getD p false
theorem zW(A:Aut){w:Nat}(hok:A.Ok w)(hw:2≤w){s:Nat}(hs:s<A.y.length)(k:Nat):countB A s k=true↔∃cs,In 2 cs∧cs.length=k∧A.lang s cs=true:=by
 unfold countB
 simp only[List.any_eq_true,List.mem_range,Bool.and_eq_true]
 constructor
 ·rintro⟨p,hp,h1,h2⟩
  obtain⟨cs,g1,g2,g3⟩:=(gB A hok hw hs k p hp).1 h2
  exact⟨cs,g1,g2,by unfold Aut.lang;rw[g3,h1]⟩
 ·rintro⟨cs,g1,g2,g3⟩
  have hp:A.run s cs<A.y.length:=hok.run hs fun c hc=>by have:=g1 c hc;omega
  exact⟨_,hp,g3,(gB A hok hw hs k _ hp).2 ⟨cs,g1,g2,rfl⟩⟩
def dJ(A:Aut)(F T:List Bool)(l:Nat):List Bool:=(List.range A.y.length).map fun q=>F.getD q false&&T.getD (A.to q l) false
theorem iH(A:Aut)(F T:List Bool)(l:Nat):(dJ A F T l).length=A.y.length:=by simp[dJ]
def aR5(L:List Bool):Bool:=L.contains true
theorem anyB_iff{L:List Bool}:aR5 L=true↔∃q,q<L.length∧L.getD q false=true:=by
 unfold aR5
 rw[List.contains_iff_mem]
 constructor
 ·intro h
  obtain⟨i,hi,e⟩:=List.getElem_of_mem h
  exact⟨i,hi,by simp[hi,e]⟩
 ·rintro⟨q,hq,e⟩
  have:L[q]=true:=by simpa[hq] using e
  exact this ▸ List.getElem_mem hq
def eP(A:Aut)(s len l0:Nat):Nat→List Bool
 | 0=>(List.range A.y.length).map fun p=>A.y.getD p false&&(aR A s len).getD p false
 | d+1=>if aR5 (dJ A (aR A s (len-1-d)) (eP A s len l0 d) l0)=true then dJ A (aR A s (len-1-d)) (eP A s len l0 d) l0 else dJ A (aR A s (len-1-d)) (eP A s len l0 d) (1-l0)
def letB(A:Aut)(s len l0 d:Nat):Nat:=if aR5 (dJ A (aR A s (len-1-d)) (eP A s len l0 d) l0)=true then l0 else 1-l0
theorem tC(A:Aut)(s len l0:Nat):∀d,(eP A s len l0 d).length=A.y.length
 | 0=>by simp[eP]
 | d+1=>by
  unfold eP
  split<;>exact iH _ _ _ _
theorem letB_lt{A:Aut}{s len l0 d:Nat}(h:l0<2):letB A s len l0 d<2:=by
 unfold letB
 split<;>omega
def iC(A:Aut)(s len l0:Nat):List Nat:=(List.range len).map fun i=>97+letB A s len l0 (len-1-i)
theorem qT(A:Aut)(s len l0:Nat):(iC A s len l0).length=len:=by simp[iC]
theorem extW_w{A:Aut}{s len l0:Nat}(h:l0<2):IsW (iC A s len l0):=fun b hb=>by
 obtain⟨i,_,rfl⟩:=List.mem_map.1 hb
 have:=letB_lt (A:=A) (s:=s) (len:=len) (d:=len-1-i) h
 omega
theorem endB_sub(A:Aut){s len l0:Nat}:∀{d q:Nat},d≤len→(eP A s len l0 d).getD q false=true→(aR A s (len-d)).getD q false=true
 | 0,q,_,h=>by
  unfold eP at h
  by_cases hq:q<A.y.length
  ·rw[getD_map (by simpa using hq)] at h
   simp only[List.getElem_range,Bool.and_eq_true] at h
   exact h.2
  ·simp[hq] at h
 | d+1,q,hd,h=>by
  have key:∀l,(dJ A (aR A s (len-1-d)) (eP A s len l0 d) l).getD q false=true→(aR A s (len-(d+1))).getD q false=true:=by
   intro l h
   unfold dJ at h
   by_cases hq:q<A.y.length
   ·rw[getD_map (by simpa using hq)] at h
    simp only[List.getElem_range,Bool.and_eq_true] at h
    rw[show len-(d+1)=len-1-d by omega]
    exact h.1
   ·simp[hq] at h
  unfold eP at h
  split at h
  ·exact key _ h
  ·exact key _ h
theorem aW4(A:Aut){w:Nat}(hok:A.Ok w)(hw:2≤w){s len l0:Nat}(hs:s<A.y.length)(hl:l0<2)(hc:countB A s len=true):∀{d:Nat},d≤len→aR5 (eP A s len l0 d)=true
 | 0,_=>by
  unfold countB at hc
  simp only[List.any_eq_true,List.mem_range,Bool.and_eq_true] at hc
  obtain⟨p,hp,h1,h2⟩:=hc
  refine anyB_iff.2 ⟨p,by rw[tC];exact hp,?_⟩
  unfold eP
  rw[getD_map (by simpa using hp)]
  simp only[List.getElem_range,h1,h2,Bool.and_self]
 | d+1,hd=>by
  have ih:=aW4 A hok hw hs hl hc (d:=d) (by omega)
  unfold eP
  split
  ·assumption
  ·rename_i hno
   obtain⟨p,hp,h1⟩:=anyB_iff.1 ih
   rw[tC] at hp
   have h2:=endB_sub A (by omega) h1
   obtain⟨cs,g1,g2,g3⟩:=(gB A hok hw hs (len-d) p hp).1 h2
   have hne:cs≠[]:=by rintro rfl;simp at g2;omega
   have e:=List.dropLast_concat_getLast hne
   have hin:In 2 cs.dropLast:=fun c hc=>g1 c (List.dropLast_subset _ hc)
   have hq:A.run s cs.dropLast<A.y.length:=hok.run hs fun c hc=>by have:=hin c hc;omega
   have hr:(aR A s (len-1-d)).getD (A.run s cs.dropLast) false=true:=(gB A hok hw hs _ _ hq).2 ⟨_,hin,by simp[g2];omega,rfl⟩
   have hll:cs.getLast hne<2:=g1 _ (List.getLast_mem hne)
   rw[←e,Aut.run,List.foldl_append] at g3
   have g3':A.to (A.run s cs.dropLast) (cs.getLast hne)=p:=g3
   have some:∀l,l=cs.getLast hne→aR5 (dJ A (aR A s (len-1-d)) (eP A s len l0 d) l)=true:=by
    rintro l rfl
    refine anyB_iff.2 ⟨A.run s cs.dropLast,by rw[iH];exact hq,?_⟩
    unfold dJ
    rw[getD_map (by simpa using hq)]
    simp only[List.getElem_range,hr,g3',h1,Bool.and_self]
   refine some _ ?_
   have:cs.getLast hne≠l0:=fun e2=>hno (some l0 e2.symm)
   omega
theorem bef_acc(A:Aut){w:Nat}(hok:A.Ok w)(hw:2≤w){s len l0 l:Nat}(hs:s<A.y.length)(hl:l<2)(hlen:0<len):dJ A (aR A s (len-1)) A.y l=dJ A (aR A s (len-1)) (eP A s len l0 0) l:=by
 unfold dJ
 refine List.map_congr_left fun q hq=>?_
 rw[List.mem_range] at hq
 cases h:(aR A s (len-1)).getD q false
 ·rfl
 ·have ht:=hok.to hq (c:=l) (by omega)
  obtain⟨cs,g1,g2,g3⟩:=(gB A hok hw hs _ q hq).1 h
  have hr:(aR A s len).getD (A.to q l) false=true:=(gB A hok hw hs _ _ ht).2 ⟨cs++[l],g1.append (fun c hc=>by simp at hc;omega),by simp[g2];omega,by rw[mK,g3]⟩
  unfold eP
  rw[getD_map (by simpa using ht)]
  simp only[List.getElem_range,hr,Bool.and_true]
/-! ### least lengths -/
def bX (A:Aut) (w:Nat):Nat→Nat→Int
  | 0,q=>if A.y.getD q false=true then 0 else -1
  | k+1,q=>if 0≤bX A w k q then bX A w k q else if (List.range w).any (fun c=>bX A w k (A.to q c)==(k:Int))=true then((k+1:Nat):Int) else -1
def TkL(A:Aut)(w q d:Nat):Prop:=∃cs,In w cs∧cs.length=d∧A.lang q cs=true
theorem TkL_zero{A:Aut}{w q:Nat}:TkL A w q 0↔A.y.getD q false=true:=by
 constructor
 ·rintro⟨cs,_,h2,h3⟩
  rw[List.length_eq_zero_iff] at h2
  subst h2
  exact h3
 ·intro h;exact⟨[],In.nil w,rfl,h⟩
theorem TkL_succ{A:Aut}{w q d:Nat}:TkL A w q (d+1)↔∃c,c<w∧TkL A w (A.to q c) d:=by
 constructor
 ·rintro⟨cs,h1,h2,h3⟩
  cases cs with
  | nil=>simp at h2
  | cons c cs=>exact⟨c,h1.head,cs,h1.tail,by simpa using h2,h3⟩
 ·rintro⟨c,hc,cs,h1,h2,h3⟩
  exact⟨c::cs,h1.cons hc,by simp[h2],h3⟩
theorem mD (A:Aut) (w:Nat):∀(k q:Nat),(∀d:Nat,bX A w k q=(d:Int)↔d≤k∧TkL A w q d∧∀e,e<d→¬TkL A w q e)∧(bX A w k q = -1↔∀e,e≤k→¬TkL A w q e)
 | 0,q=>by
  by_cases h:A.y.getD q false=true
  ·have h0:TkL A w q 0:=TkL_zero.2 h
   have e:bX A w 0 q=0:=by simp only[bX,if_pos h]
   rw[e]
   refine⟨fun d=>⟨fun hd=>?_,fun⟨h1,_,_⟩=>by omega⟩,⟨fun hh=>by omega,fun hh=>absurd h0 (hh 0 (Nat.le_refl _))⟩⟩
   have:d=0:=by omega
   subst this
   exact⟨Nat.le_refl _,h0,fun e he=>by omega⟩
  ·have h0:¬TkL A w q 0:=fun hh=>h (TkL_zero.1 hh)
   have e:bX A w 0 q = -1:=by simp only[bX,if_neg h]
   rw[e]
   refine⟨fun d=>⟨fun hd=>by omega,fun⟨h1,h2,_⟩=>?_⟩,⟨fun _ e he=>?_,fun _=>rfl⟩⟩
   ·have:d=0:=by omega
    subst this
    exact absurd h2 h0
   ·have:e=0:=by omega
    subst this
    exact h0
 | k+1,q=>by
  obtain⟨i1,i2⟩:=mD A w k q
  by_cases h:0≤bX A w k q
  ·have e:bX A w (k+1) q=bX A w k q:=by rw[bX,if_pos h]
   rw[e]
   obtain⟨d0,hd0⟩:∃d0:Nat,bX A w k q=(d0:Int):=⟨(bX A w k q).toNat,by omega⟩
   obtain⟨g1,g2,g3⟩:=(i1 d0).1 hd0
   refine⟨fun d=>⟨fun hd=>?_,fun⟨h1,h2,h3⟩=>?_⟩,⟨fun hh=>by omega,fun hh=>absurd g2 (hh d0 (by omega))⟩⟩
   ·obtain⟨a1,a2,a3⟩:=(i1 d).1 hd
    exact⟨by omega,a2,a3⟩
   ·have:d=d0:=by
     rcases Nat.lt_trichotomy d d0 with hh|hh|hh
     ·exact absurd h2 (g3 d hh)
     ·exact hh
     ·exact absurd g2 (h3 d0 hh)
    rw[this,hd0]
  ·have hm:bX A w k q = -1:=by
    -- it is never less
    have key:∀k q,-1≤bX A w k q:=by
     intro k
     induction k with
     | zero=>intro q;simp only[bX];split<;>omega
     | succ k ih=>intro q;rw[bX];split;exact ih q;split<;>omega
    have:=key k q
    omega
   have hno:=i2.1 hm
   by_cases hc:(List.range w).any (fun c=>bX A w k (A.to q c)==(k:Int))=true
   ·have e:bX A w (k+1) q=((k+1:Nat):Int):=by rw[bX,if_neg h,if_pos hc]
    rw[e]
    simp only[List.any_eq_true,List.mem_range,beq_iff_eq] at hc
    obtain⟨c,hcw,hce⟩:=hc
    obtain⟨_,b2,_⟩:=((mD A w k (A.to q c)).1 k).1 hce
    have hk1:TkL A w q (k+1):=TkL_succ.2 ⟨c,hcw,b2⟩
    refine⟨fun d=>⟨fun hd=>?_,fun⟨h1,h2,h3⟩=>?_⟩,⟨fun hh=>by omega,fun hh=>absurd hk1 (hh _ (Nat.le_refl _))⟩⟩
    ·have:d=k+1:=by omega
     subst this
     exact⟨Nat.le_refl _,hk1,fun e he=>hno e (by omega)⟩
    ·have:d=k+1:=by
      rcases Nat.lt_or_ge d (k+1) with hh|hh
      ·exact absurd h2 (hno d (by omega))
      ·omega
     rw[this]
   ·have e:bX A w (k+1) q = -1:=by rw[bX,if_neg h,if_neg hc]
    rw[e]
    have hk1:¬TkL A w q (k+1):=fun hh=>by
     obtain⟨c,hcw,b⟩:=TkL_succ.1 hh
     refine hc ?_
     simp only[List.any_eq_true,List.mem_range,beq_iff_eq]
     refine⟨c,hcw,((mD A w k (A.to q c)).1 k).2 ⟨Nat.le_refl _,b,fun e he hb=>hno (e+1) (by omega) (TkL_succ.2 ⟨c,hcw,hb⟩)⟩⟩
    refine⟨fun d=>⟨fun hd=>by omega,fun⟨h1,h2,_⟩=>?_⟩,⟨fun _ e he=>?_,fun _=>rfl⟩⟩
    ·rcases Nat.lt_or_ge d (k+1) with hh|hh
     ·exact absurd h2 (hno d (by omega))
     ·have:d=k+1:=by omega
      subst this
      exact absurd h2 hk1
    ·rcases Nat.lt_or_ge e (k+1) with hh|hh
     ·exact hno e (by omega)
     ·have:e=k+1:=by omega
      subst this
      exact hk1
theorem aD2 {A:Aut} {w:Nat} (hok:A.Ok w) {q d:Nat} (hq:q<A.y.length) (h1:TkL A w q d) (h2:∀e,e<d→¬TkL A w q e):d<A.y.length:=by
 obtain⟨cs,g1,g2,g3⟩:=h1
 -- the states on the way are all different
 have suf:∀i,i≤d→TkL A w (A.run q (cs.take i)) (d-i):=fun i hi=>⟨cs.drop i,fun c hc=>g1 c (List.mem_of_mem_drop hc),by simp[g2],by
  unfold Aut.lang at g3 ⊢
  rw[Aut.run,Aut.run,←List.foldl_append,List.take_append_drop]
  exact g3⟩
 have pre:∀i e,i≤d→TkL A w (A.run q (cs.take i)) e→TkL A w q (i+e):=fun i e hi ⟨ds,k1,k2,k3⟩=>⟨cs.take i++ds,(fun c hc=>by
  rcases List.mem_append.1 hc with hc|hc
  ·exact g1 c (List.mem_of_mem_take hc)
  ·exact k1 c hc),by simp[g2,k2];omega,by
   unfold Aut.lang at k3 ⊢
   rw[Aut.run,List.foldl_append]
   exact k3⟩
 have hn:((List.range (d+1)).map fun i=>A.run q (cs.take i)).Nodup:=by
  refine List.pairwise_map.2 ((List.pairwise_lt_range).imp_of_mem fun {i j} hi hj hij he=>?_)
  rw[List.mem_range] at hi hj
  have:=suf j (by omega)
  rw[←he] at this
  exact h2 _ (by omega) (pre i _ (by omega) this)
 have:=nodup_le hn (ys:=List.range A.y.length) fun x hx=>by
  obtain⟨i,_,rfl⟩:=List.mem_map.1 hx
  exact List.mem_range.2 (hok.run hq fun c hc=>g1 c (List.mem_of_mem_take hc))
 simp at this
 omega
def eY(A:Aut)(w q:Nat):Int:=bX A w A.y.length q
theorem tA {A:Aut} {w:Nat} (hok:A.Ok w) {q:Nat} (hq:q<A.y.length):eY A w q = -1↔∀d,¬TkL A w q d:=by
 constructor
 ·intro h d hd
  have h1:=(mD A w A.y.length q).2.1 h
  -- take the least one
  have key:∀n,(∃d,d≤n∧TkL A w q d)→∃d,TkL A w q d∧∀e,e<d→¬TkL A w q e:=by
   intro n
   induction n with
   | zero=>rintro⟨d,hd,ht⟩;exact⟨d,ht,fun e he=>by omega⟩
   | succ n ih =>
    rintro⟨d,hd,ht⟩
    by_cases hh:∃d,d≤n∧TkL A w q d
    ·exact ih hh
    ·exact⟨d,ht,fun e he hte=>hh ⟨e,by omega,hte⟩⟩
  obtain⟨d',k1,k2⟩:=key d ⟨d,Nat.le_refl _,hd⟩
  exact h1 d' (by have:=aD2 hok hq k1 k2;omega) k1
 ·intro h
  exact(mD A w A.y.length q).2.2 fun e _=>h e
theorem farZ_some{A:Aut}{w:Nat}(hok:A.Ok w){q:Nat}(hq:q<A.y.length)(d:Nat):eY A w q=(d:Int)↔TkL A w q d∧∀e,e<d→¬TkL A w q e:=by
 unfold eY
 rw[(mD A w A.y.length q).1 d]
 constructor
 ·exact fun h=>h.2
 ·exact fun h=>⟨by have:=aD2 hok hq h.1 h.2;omega,h⟩
theorem xM(A:Aut)(w:Nat):∀k q,-1≤bX A w k q
 | 0,q=>by simp only[bX];split<;>omega
 | k+1,q=>by
  rw[bX]
  split
  ·exact xM A w k q
  ·split<;>omega
theorem zO{n i:Nat}(f:Nat→Int)(h:i<n)(h0:f i=0):cQ n f (i+1)=cQ n f i:=by
 unfold cQ
 rw[List.range_succ,List.map_append,List.append_assoc,show n-i=(n-(i+1))+1 by omega,List.replicate_succ]
 simp[h0]
def aK7(A:Aut)(w k i:Nat):List Int:=(List.range A.y.length).map fun q=>if q<i then bX A w (k+1) q else bX A w k q
theorem qS(A:Aut)(w k i:Nat):(aK7 A w k i).length=A.y.length:=by simp[aK7]
theorem aW0{A:Aut}{w k i q:Nat}(h:q<A.y.length):(aK7 A w k i)[q]'(by rw[qS];exact h)=if q<i then bX A w (k+1) q else bX A w k q:=by simp[aK7]
theorem farM_zero(A:Aut)(w k:Nat):aK7 A w k 0=(List.range A.y.length).map (bX A w k):=by simp[aK7]
theorem farM_all(A:Aut)(w k:Nat):aK7 A w k A.y.length=(List.range A.y.length).map (bX A w (k+1)):=by
 unfold aK7
 refine List.map_congr_left fun q hq=>?_
 rw[if_pos (List.mem_range.1 hq)]
theorem aK6{A:Aut}{w k i:Nat}(h:bX A w (k+1) i=bX A w k i):aK7 A w k (i+1)=aK7 A w k i:=by
 unfold aK7
 refine List.map_congr_left fun q hq=>?_
 by_cases h1:q<i
 ·rw[if_pos h1,if_pos (by omega)]
 ·by_cases h2:q=i
  ·subst h2
   rw[if_pos (by omega),if_neg (by omega),h]
  ·rw[if_neg h1,if_neg (by omega)]
theorem farM_set{A:Aut}{w k i:Nat}(h:i<A.y.length):(aK7 A w k i).set i (bX A w (k+1) i)=aK7 A w k (i+1):=aT2 (f:=bX A w (k+1)) (g:=bX A w k) h
theorem farM_eq{A:Aut}{w k i q:Nat}(h:q<A.y.length):((aK7 A w k i)[q]'(by rw[qS];exact h)=(k:Int))↔bX A w k q=(k:Int):=by
 rw[aW0 h]
 split
 ·rw[bX]
  split
  ·rfl
  ·rename_i hk
   split
   ·constructor
    ·intro hh;omega
    ·intro hh;omega
   ·constructor
    ·intro hh;omega
    ·intro hh;omega
 ·rfl
theorem i_farX (E:bR) (t s w:Nat) (A:Aut) (m:BV) (H:BH) (h:RdM H t s A m) (hok:A.Ok w) (hn:A.y.length≤1000000) (hw:w≤1000000):FnDoes ⟨aA,fnOf,E⟩ 198 [m] H fun v K=>∃bo,OwnV aA K 3 v (((List.range A.y.length).map (eY A w)).map encI) bo∧Fr H bo:=by
 refine FnDoes.hide fun R hR=>?_
 refine FnDoes.of (fn:=ir198) rfl ?_
 obtain⟨u,x,rfl,hu,hx⟩:=h
 have u1:=hu.one
 have x1:=aF hx.isSl
 simp[ir198,u1,x1]
 intro n1 b1 f1
 have o1:=Own.start (aA:=aA) (H:=H) |>.new f1 b1 (s:=.arr 77 [aB t,aB s,u,x])
 have r2:=aD (o1.at 0 (b:=n1) rfl) (rt:=none) (j:=2) (c:=u) rfl rfl
 have c1:(A.y.length:Int)≤140737488355328:=by omega
 have c8:8*(A.y.length:Int)≤140737488355328:=by omega
 simp[aC f1 b1,r2,hu.isSl,hu.lenM,c1,c8]
 intro n3 b3 f3
 have o2:=o1.new f3 b3 (s:=.arr 3 (List.replicate A.y.length (.int .i64 0)))
 have r2:=aD (o2.at 1 (b:=n1) rfl) (rt:=none) (j:=2) (c:=u) rfl rfl
 simp[aC f3 b3,r2,hu.isSl,hu.lenM]
 -- the length nought
 obtain⟨I,hI⟩:∃I:Nat→Env→BH→Prop,I=(fun i e K=>e 18=aB i∧Own aA H K [(some n3,.arr 3 ((cQ A.y.length (bX A w 0) i).map encI)),(some n1,.arr 77 [aB t,aB s,u,x])]):=⟨_,rfl⟩
 refine aE A.y.length [(1,.ptr n1 0),(3,.sl n3 0 A.y.length),(16,u),(17,aB A.y.length)] I (i0:=0) rfl ?_ ?_ (Nat.zero_le _) ?_
 ·simp
 ·rw[hI]
  refine⟨by simp,?_⟩
  rw[iJ,yP]
  exact o2
 clear o2 o1
 rintro i e K hi ⟨e1,e3,e16,e17,-⟩ hh
 rw[hI] at hh
 obtain⟨e18,o⟩:=hh
 simp only[] at e1 e3 e16 e17
 have wi:=wS (n:=i) (by omega)
 by_cases hlt:i<A.y.length
 ·have hr:=(hu.keeps o.keeps).at hlt (rt:=none) rfl
  have hga:A.y.getD i false=A.y[i]:=by simp[hlt]
  cases hb:A.y[i] with
  | true =>
   rw[hb] at hr
   simp[e1,e3,e16,e17,e18,hlt,hu.isSl,hu.lenM,hr,wi]
   rw[hI]
   refine⟨by simp,?_⟩
   rw[zO _ hlt (by simp only[bX];rw[hga,hb];rfl)]
   exact o
  | false =>
   rw[hb] at hr
   obtain⟨K5,g5,o5⟩:=o.put 0 (b:=n3) rfl (j:=i) (u:=encI (-1)) (by simp[eW _ hi,hlt]) rfl (rt:=none) rfl
   have g5':K.wr aA none 1 (.ptr n3 i) (.int .i64 (-1))=some K5:=g5
   simp[e1,e3,e16,e17,e18,hlt,hu.isSl,hu.lenM,hr,g5',wi]
   rw[hI]
   refine⟨by simp,?_⟩
   rw[←iT _ hlt]
   have e0:bX A w 0 i = -1:=by simp only[bX];rw[hga,hb];rfl
   rw[e0]
   simpa using o5
 have hie:i=A.y.length:=by omega
 subst hie
 rw[lZ] at o
 simp[e17,e18]
 obtain⟨J,hJ⟩:∃J:Nat→Env→BH→Prop,J=(fun k e K=>e 6=aB (k+1)∧Own aA H K [(some n3,.arr 3 (((List.range A.y.length).map (bX A w k)).map encI)),(some n1,.arr 77 [aB t,aB s,u,x])]):=⟨_,rfl⟩
 refine aE A.y.length [(1,.ptr n1 0),(3,.sl n3 0 A.y.length)] J (i0:=0) rfl ?_ ?_ (Nat.zero_le _) ?_
 ·simp[e1,e3]
 ·rw[hJ]
  exact⟨by simp,o⟩
 clear o e1 e3 e16 e17 e18 wi hlt hi
 rintro k e K hk ⟨e1,e3,-⟩ hh
 rw[hJ] at hh
 obtain⟨e6,o⟩:=hh
 simp only[] at e1 e3
 have wk:=wS (n:=k+1) (by omega)
 have wk':IntKind.i64.wrap ((k:Int)+1+1)=((k+1+1:Nat):Int):=by rw[←wk];simp
 by_cases hkl:k<A.y.length
 ·have r3:=aD (o.at 1 (b:=n1) rfl) (rt:=none) (j:=3) (c:=x) rfl rfl
  have hkl':(k:Int)+1≤(A.y.length:Int):=by omega
  have hx':=hx.keeps o.keeps
  have hkl2:k+1≤A.y.length:=hkl
  simp[e1,e3,e6,hkl',hkl2,r3,hx'.isSl,hx'.len,hok.len]
  obtain⟨G,hG⟩:∃G:Nat→Env→BH→Prop,G=(fun i e K=>e 38=aB i∧Own aA H K [(some n3,.arr 3 ((aK7 A w k i).map encI)),(some n1,.arr 77 [aB t,aB s,u,x])]):=⟨_,rfl⟩
  refine aE A.y.length [(1,.ptr n1 0),(3,.sl n3 0 A.y.length),(6,aB (k+1)),(36,x),(37,aB A.y.length)] G (i0:=0) rfl ?_ ?_ (Nat.zero_le _) ?_
  ·simp[e1,e3,e6]
  ·rw[hG]
   refine⟨by simp,?_⟩
   rw[farM_zero]
   exact o
  clear o e1 e3 e6 r3 hx'
  rintro i e K hi ⟨e1,e3,e6,e36,e37,-⟩ hh
  rw[hG] at hh
  obtain⟨e38,o⟩:=hh
  simp only[] at e1 e3 e6 e36 e37
  have wi:=wS (n:=i) (by omega)
  by_cases hlt:i<A.y.length
  ·have hx':=hx.keeps o.keeps
   have hlt':i<A.nxt.length:=by rw[hok.len];exact hlt
   obtain⟨row,q1,q2⟩:=hx'.at hlt'
   have q2:=q2 none rfl
   have hrl:=(hok.row _ (List.getElem_mem hlt')).1
   have hv:∀q (hq:q<A.y.length),K.rd none none (.ptr n3 q)=some (encI ((aK7 A w k i)[q]'(by rw[qS];exact hq))):=fun q hq=>aD (o.at 0 (b:=n3) rfl) (rt:=none) rfl (by simp[qS,hq])
   have hvi:=hv i hlt
   rw[aW0 hlt,if_neg (by omega)] at hvi
   by_cases hpos:0≤bX A w k i
   ·simp[e1,e3,e6,e36,e37,e38,hlt,hx'.isSl,hx'.len,hok.len,q2,hvi,hpos,wi]
    rw[hG]
    refine⟨by simp,?_⟩
    rw[aK6 (by rw[bX,if_pos hpos])]
    exact o
   ·simp[e1,e3,e6,e36,e37,e38,hlt,hx'.isSl,hx'.len,hok.len,q2,hvi,hpos,q1.isSl,q1.lenM,hrl]
    obtain⟨F,hF⟩:∃F:Nat→Env→BH→Prop,F=(fun c e K'=>e 50=aB c∧(∀d,d<c→bX A w k (A.to i d)≠(k:Int))∧K'=K):=⟨_,rfl⟩
    refine aE w [(1,.ptr n1 0),(3,.sl n3 0 A.y.length),(6,aB (k+1)),(7,aB i),(36,x),(37,aB A.y.length),(38,aB i),(48,row),(49,aB w)] F (i0:=0) rfl ?_ ?_ (Nat.zero_le _) ?_
    ·simp[e1,e3,e6,e36,e37,e38]
    ·rw[hF]
     exact⟨by simp,fun d hd=>by omega,rfl⟩
    clear e1 e3 e6 e36 e37 e38
    rintro c e K' hc ⟨e1,e3,e6,e7,e36,e37,e38,e48,e49,-⟩ hh
    rw[hF] at hh
    obtain⟨e50,hno,rfl⟩:=hh
    simp only[] at e1 e3 e6 e7 e36 e37 e38 e48 e49
    by_cases hcl:c<w
    ·have hcl':c<A.nxt[i].length:=by omega
     have g1:=q1.at hcl' (rt:=none) rfl
     have hto:A.nxt[i][c]=A.to i c:=by simp[Aut.to,hlt',hcl']
     rw[hto] at g1
     have htl:=hok.to hlt hcl
     have g2:=hv _ htl
     have wc:=wS (n:=c) (by omega)
     have w1:=wN (n:=k) (by omega)
     have hkk:=farM_eq (A:=A) (w:=w) (k:=k) (i:=i) htl
     have hd:((aK7 A w k i)[A.to i c]'(by rw[qS];exact htl)==(k:Int))=decide (bX A w k (A.to i c)=(k:Int)):=by
      rw[Bool.eq_iff_iff,beq_iff_eq,decide_eq_true_iff]
      exact hkk
     by_cases hfnd:bX A w k (A.to i c)=(k:Int)
     ·rw[decide_eq_true hfnd] at hd
      have hstep:bX A w (k+1) i=((k+1:Nat):Int):=by
       rw[bX,if_neg hpos,if_pos]
       simp only[List.any_eq_true,List.mem_range,beq_iff_eq]
       exact⟨c,hcl,hfnd⟩
      obtain⟨K5,g5,o5⟩:=o.put 0 (b:=n3) rfl (j:=i) (u:=aB (k+1)) (by simp[qS,hlt]) rfl (rt:=none) rfl
      simp[e1,e3,e6,e7,e36,e37,e38,e48,e49,e50,hcl,q1.isSl,q1.lenM,hrl,g1,htl,g2,w1,hd,hlt,g5,wi]
      rw[hG]
      refine⟨by simp,?_⟩
      rw[←farM_set hlt,hstep,List.map_set]
      exact o5
     ·rw[decide_eq_false hfnd] at hd
      simp[e1,e3,e6,e7,e36,e37,e38,e48,e49,e50,hcl,q1.isSl,q1.lenM,hrl,g1,htl,g2,w1,hd,wc]
      rw[hF]
      refine⟨by simp,fun d hd'=>?_,rfl⟩
      by_cases hdc:d=c
      ·subst hdc;exact hfnd
      ·exact hno d (by omega)
    ·have hce:c=w:=by omega
     subst hce
     simp[e38,e49,e50,wi,hlt]
     rw[hG]
     refine⟨by simp,?_⟩
     rw[aK6]
     ·exact o
     ·have hm:bX A c k i = -1:=by have:=xM A c k i;omega
      rw[bX,if_neg hpos,if_neg,hm]
      simp only[List.any_eq_true,List.mem_range,beq_iff_eq,not_exists,not_and]
      exact fun d hd=>hno d hd
  ·have hie:i=A.y.length:=by omega
   subst hie
   rw[farM_all] at o
   simp[e6,e37,e38,wk',hkl]
   rw[hJ]
   exact⟨by simp,o⟩
 ·have hke:k=A.y.length:=by omega
  subst hke
  have hno:¬(A.y.length:Int)+1≤(A.y.length:Int):=by omega
  simp[e3,e6,hno]
  rw[hR]
  exact⟨o.keeps,some n3,o.vec 0 rfl (by simp[Vec]),fun b hb=>by cases hb;exact o.fr 0 rfl⟩
def rchs(A:Aut)(s k:Nat):List (List BV):=(List.range k).map fun i=>(aR A s i).map aK
theorem aH5(A:Aut)(s k:Nat):rchs A s (k+1)=rchs A s k++[(aR A s k).map aK]:=by simp[rchs,List.range_succ]
theorem aC0(A:Aut)(s k:Nat):(rchs A s k).length=k:=by simp[rchs]
theorem aC1{A:Aut}{s k i:Nat}(h:i<k):(rchs A s k)[i]?=some ((aR A s i).map aK):=by simp[rchs,h]
theorem replB(n:Nat):List.replicate n (BV.bool false)=(List.replicate n false).map aK:=by simp
def Ex1(aA:Nat)(H:BH)(t s len:Nat)(g:Bool)(A:Aut)(u x:BV)(e:Env)(K:BH):Prop:=∃n1 v8 wo vs fr,Has e [(1,aB len),(2,.bool g),(3,.ptr n1 0),(8,v8)] ∧
 Own aA H K ([(wo,.arr 22 vs),(some n1,.arr 77 [aB t,aB s,u,x])]++fr)∧Vec wo v8 vs.length∧RowsOf 4 vs fr (rchs A s (len+1))
theorem ext_p1(t s w len:Nat)(g:Bool)(A:Aut)(u x:BV)(H:BH)(hu:Rd H 4 u (A.y.map aK))(hx:RdR H 80 3 x aB A.nxt)(hok:A.Ok w)(hw:2≤w)(hs:s<A.y.length)(hn:A.y.length≤1000000)(hlen:len≤1000000)(Q:Post):
  wpC aA (Runs (gam aA)) (ir147.body.hd 5) (Post.then (Ex1 aA H t s len g A u x) Q) (eX [.agg [aB t,aB s,u,x],aB len,.bool g]) H:=by
 obtain⟨Z,hZ⟩:∃Z:Env→BH→Prop,Z=Ex1 aA H t s len g A u x:=⟨_,rfl⟩
 rw[←hZ]
 have u1:=hu.one
 have x1:=aF hx.isSl
 simp[ir147,BCode.hd,u1,x1]
 intro n1 b1 f1
 have o1:=Own.start (aA:=aA) (H:=H) |>.new f1 b1 (s:=.arr 77 [aB t,aB s,u,x])
 have r2:=aD (o1.at 0 (b:=n1) rfl) (rt:=none) (j:=2) (c:=u) rfl rfl
 have c1:(A.y.length:Int)≤140737488355328:=by omega
 simp[aC f1 b1,r2,hu.isSl,hu.lenM,c1]
 intro n7 b7 f7
 have o2:=o1.new f7 b7 (s:=.arr 4 (List.replicate A.y.length (.bool false)))
 have r1:=aD (o2.at 1 (b:=n1) rfl) (rt:=none) (j:=1) (c:=aB s) rfl rfl
 obtain⟨K3,g3,o3⟩:=o2.put 0 (b:=n7) rfl (j:=s) (u:=.bool true) (by simpa using hs) rfl (rt:=none) rfl
 simp[aC f7 b7,r1,hs,g3]
 intro n8 b8 f8
 simp[aC f8 b8]
 have o4:=o3.new f8 b8 (s:=.arr 22 [.sl n7 0 A.y.length])
 have hz:(List.replicate A.y.length (BV.bool false)).set s (.bool true)=(aR A s 0).map aK:=by
  rw[replB,←wM A hs,List.map_set]
 have o5:Own aA H (K3.set n8 (.arr 22 [.sl n7 0 A.y.length])) ([(some n8,.arr 22 [.sl n7 0 A.y.length]),(some n1,.arr 77 [aB t,aB s,u,x])]++[(some n7,.arr 4 ((aR A s 0).map aK))]):=by
  rw[←hz]
  exact o4.perm (by
   refine List.Perm.cons _ ?_
   exact List.Perm.swap _ _ _)
 have hr0:RowsOf 4 [.sl n7 0 A.y.length] [(some n7,.arr 4 ((aR A s 0).map aK))] (rchs A s 1):=⟨rfl,by simp[Vec,aS],trivial⟩
 obtain⟨I,hI⟩:∃I:Nat→Env→BH→Prop,I=(fun i e K=>e 9=aB i∧∃v8 wo vs fr,e 8=v8∧Own aA H K ([(wo,.arr 22 vs),(some n1,.arr 77 [aB t,aB s,u,x])]++fr)∧Vec wo v8 vs.length∧RowsOf 4 vs fr (rchs A s (i+1))∧∃b7 o7,e 7=.sl b7 o7 A.y.length):=⟨_,rfl⟩
 refine aE len [(1,aB len),(2,.bool g),(3,.ptr n1 0)] I (i0:=0) rfl ?_ ?_ (Nat.zero_le _) ?_
 ·simp
 ·rw[hI]
  exact⟨by simp,_,_,_,_,by simp,o5,rfl,hr0,n7,0,by simp⟩
 clear o1 o2 o3 o4 o5 hr0 hz r1 r2 g3
 rintro i e K hi ⟨e1,e2,e3,-⟩ hh
 rw[hI] at hh
 obtain⟨e9,v8,wo,vs,fr,e8,o,hv8,hrows,c7,d7,e7⟩:=hh
 simp only[] at e1 e2 e3
 have wi:=wS (n:=i) (by omega)
 have hvl:=hrows.len
 rw[aC0] at hvl
 by_cases hlt:i<len
 ·have hvi:i<vs.length:=by omega
  obtain⟨uo,hfr,huv⟩:=hrows.get (i:=i) (u:=vs[i]) (by simp[hvi]) (aC1 (by omega))
  have huv':Vec uo vs[i] A.y.length:=by simpa[aS] using huv
  simp[e1,e7,e9,hlt,c1]
  intro n10 b10 f10
  simp[aC f10 b10]
  have o6:=o.new f10 b10 (s:=.arr 4 (List.replicate A.y.length (.bool false)))
  have r8:=(o6.rd 1 rfl hv8).get (i:=i) hvi (rt:=none) rfl
  have s8:=(o6.rd 1 rfl hv8).isSl
  have l8:=(o6.rd 1 rfl hv8).len
  simp[e8,e9,s8,l8,hvi,r8,huv'.isSl,huv'.len]
  obtain⟨J,hJ⟩:∃J:Nat→Env→BH→Prop,J=(fun q e K=>e 46=aB q∧Own aA H K ((some n10,.arr 4 ((rQ A (aR A s i) q).map aK))::([(wo,.arr 22 vs),(some n1,.arr 77 [aB t,aB s,u,x])]++fr))):=⟨_,rfl⟩
  refine aE A.y.length [(1,aB len),(2,.bool g),(3,.ptr n1 0),(7,.sl c7 d7 A.y.length),(8,v8),(9,aB i),(10,.sl n10 0 A.y.length),(44,vs[i]),(45,aB A.y.length)] J (i0:=0) rfl ?_ ?_ (Nat.zero_le _) ?_
  ·simp[e1,e2,e3,e7,e8,e9]
  ·rw[hJ]
   refine⟨by simp,?_⟩
   rw[yY,←replB]
   exact o6
  clear o6 r8 s8 l8 e1 e2 e3 e7 e8 e9
  rintro q e K hq ⟨e1,e2,e3,e7,e8,e9,e10,e44,e45,-⟩ hh
  rw[hJ] at hh
  obtain⟨e46,o⟩:=hh
  simp only[] at e1 e2 e3 e7 e8 e9 e10 e44 e45
  have wq:=wS (n:=q) (by omega)
  by_cases hql:q<A.y.length
  ·have hui:=o.rd (3+i) (by rw[show 3+i=i+1+1+1 by omega];simpa using hfr) (by simpa[aS] using huv')
   have g1:=hui.at (i:=q) (by rw[aS];exact hql) (rt:=none) rfl
   have hgd:(aR A s i).getD q false=(aR A s i)[q]'(by rw[aS];exact hql):=by
    rw[List.getD_eq_getElem?_getD,List.getElem?_eq_getElem (by rw[aS];exact hql)]
    rfl
   cases hb:(aR A s i)[q]'(by rw[aS];exact hql) with
   | false =>
    rw[hb] at g1 hgd
    simp[e44,e45,e46,hql,huv'.isSl,huv'.len,g1,wq]
    rw[hJ]
    refine⟨by simp,?_⟩
    rw[zC A hgd]
    exact o
   | true =>
    rw[hb] at g1 hgd
    have hx':=hx.keeps o.keeps
    have r3:=aD (o.at 2 (b:=n1) rfl) (rt:=none) (j:=3) (c:=x) rfl rfl
    obtain⟨row,q1,q2,q3,q4⟩:=aE9 hx' hok hql (show 0<w by omega)
    obtain⟨row',q1',q2',q3',q4'⟩:=aE9 hx' hok hql (show 1<w by omega)
    have q1:=q1 none rfl
    have q1':=q1' none rfl
    rw[q1] at q1'
    cases q1'
    have q4:=q4 none rfl
    have q4':=q4' none rfl
    have ht0:=hok.to hql (show 0<w by omega)
    have ht1:=hok.to hql (show 1<w by omega)
    obtain⟨K5,g5,o5⟩:=o.put 0 (b:=n10) rfl (j:=A.to q 0) (u:=.bool true) (by simp[pR,ht0]) rfl (rt:=none) rfl
    obtain⟨K6,g6,o6⟩:=o5.put 0 (b:=n10) rfl (j:=A.to q 1) (u:=.bool true) (by simp[pR,ht1]) rfl (rt:=none) rfl
    have hw0:0<w:=by omega
    have hw1:1<w:=by omega
    have hw1':(1:Int)<(w:Int):=by omega
    simp[e3,e10,e44,e45,e46,hql,huv'.isSl,huv'.len,g1,wq,r3,hx'.isSl,hx'.len,hok.len,q1,q2,q3,q4,q4',hw0,hw1,hw1',ht0,ht1,g5,g6]
    rw[hJ]
    refine⟨by simp,?_⟩
    rw[←yZ A hok hw hql hgd,List.map_set,List.map_set]
    simpa using o6
  ·have hqe:q=A.y.length:=by omega
   subst hqe
   simp[e8,e10,e45,e46]
   intro n2 b2 f2
   simp[aC f2 b2]
   intro n3 b3 f3
   obtain⟨v',K',b',p1,p2,p3⟩:=o.push 1 rfl hv8 (x:=.sl n10 0 A.y.length) (bytes:=24) rfl (by omega) (by omega) f2 b2 f3 b3
   simp[p1,e9,wi,hlt]
   rw[hI]
   refine⟨by simp,v',some b',vs++[.sl n10 0 A.y.length],fr++[(some n10,.arr 4 ((aR A s (i+1)).map aK))],by simp,?_,by simpa using p3,?_,c7,d7,by simp[e7]⟩
   ·have p2':Own aA H K' ((some n10,.arr 4 ((aR A s (i+1)).map aK))::([(some b',.arr 22 (vs++[.sl n10 0 A.y.length])),(some n1,.arr 77 [aB t,aB s,u,x])]++fr)):=p2
    exact p2'.last
   ·rw[aH5 A s (i+1)]
    exact RowsOf.snoc (by simp[Vec,aS]) hrows
 ·have hie:i=len:=by omega
  subst hie
  simp[e1,e9]
  rw[hZ]
  exact⟨n1,v8,wo,vs,fr,by simp[e1,e2,e3,e8],o,hv8,hrows⟩
def bC5(A:Aut)(s len l0 d:Nat):List Nat:=(List.range d).map fun i=>97+letB A s len l0 (d-1-i)
theorem aK8(A:Aut)(s len l0 d:Nat):bC5 A s len l0 (d+1)=(97+letB A s len l0 d)::bC5 A s len l0 d:=by
 unfold bC5
 rw[List.range_succ_eq_map,List.map_cons,List.map_map]
 congr 1
 refine List.map_congr_left fun i hi=>?_
 simp only[Function.comp,Nat.succ_eq_add_one]
 rw[show d+1-1-(i+1)=d-1-i by omega]
theorem strL_cons(b:Nat)(xs:List Nat):fW [b]++fW xs=fW (b::xs):=by
 apply ByteArray.ext
 rw[ByteArray.data_append]
 simp[fW]
theorem aW1(A:Aut)(s len l0 d:Nat):(bC5 A s len l0 d).length=d:=by simp[bC5]
theorem aW2(A:Aut)(s len l0:Nat):bC5 A s len l0 len=iC A s len l0:=rfl
def endI(A:Aut)(s len l0 d:Nat):List Bool:=if d=0 then A.y else eP A s len l0 d
theorem endI_len(A:Aut)(s len l0 d:Nat):(endI A s len l0 d).length=A.y.length:=by
 unfold endI
 split
 ·rfl
 ·exact tC _ _ _ _ _
theorem bef_endI{A:Aut}{w:Nat}(hok:A.Ok w)(hw:2≤w){s len l0 l d:Nat}(hs:s<A.y.length)(hl:l<2)(hd:d<len):dJ A (aR A s (len-1-d)) (endI A s len l0 d) l=dJ A (aR A s (len-1-d)) (eP A s len l0 d) l:=by
 unfold endI
 split
 ·rename_i h
  subst h
  exact bef_acc A hok hw hs hl hd
 ·rfl
def aX8(A:Aut)(F T:List Bool)(l i:Nat):List Bool:=(List.range A.y.length).map fun q=>decide (q<i)&&(F.getD q false&&T.getD (A.to q l) false)
def aN2(A:Aut)(F T:List Bool)(l i:Nat):Bool:=(List.range i).any fun q=>F.getD q false&&T.getD (A.to q l) false
theorem befP_len(A:Aut)(F T:List Bool)(l i:Nat):(aX8 A F T l i).length=A.y.length:=by simp[aX8]
theorem befP_zero(A:Aut)(F T:List Bool)(l:Nat):aX8 A F T l 0=List.replicate A.y.length false:=by
 apply List.ext_getElem
 ·simp[aX8]
 ·intro i h1 h2
  simp[aX8]
theorem befP_all(A:Aut)(F T:List Bool)(l:Nat):aX8 A F T l A.y.length=dJ A F T l:=by
 unfold aX8 dJ
 refine List.map_congr_left fun q hq=>?_
 rw[decide_eq_true (List.mem_range.1 hq),Bool.true_and]
theorem befP_set{A:Aut}{F T:List Bool}{l i:Nat}(hi:i<A.y.length)(h:(F.getD i false&&T.getD (A.to i l) false)=true):(aX8 A F T l i).set i true=aX8 A F T l (i+1):=by
 unfold aX8
 rw[setB hi]
 refine List.map_congr_left fun q _=>?_
 by_cases h1:q<i
 ·simp[h1,show q<i+1 by omega,show ¬i=q by omega]
 ·by_cases h2:i=q
  ·subst h2
   simp only[Nat.lt_irrefl,decide_false,Bool.false_and,decide_true,Bool.false_or,Nat.lt_succ_self,Bool.true_and]
   exact h.symm
  ·simp[h1,h2,show ¬q<i+1 by omega]
theorem aM1{A:Aut}{F T:List Bool}{l i:Nat}(h:(F.getD i false&&T.getD (A.to i l) false)=false):aX8 A F T l (i+1)=aX8 A F T l i:=by
 unfold aX8
 refine List.map_congr_left fun q _=>?_
 by_cases h1:q<i
 ·simp[h1,show q<i+1 by omega]
 ·by_cases h2:i=q
  ·subst h2
   rw[h]
   simp
  ·simp[h1,show ¬q<i+1 by omega]
theorem aY5(A:Aut)(F T:List Bool)(l i:Nat):aN2 A F T l (i+1)=(aN2 A F T l i||(F.getD i false&&T.getD (A.to i l) false)):=by
 unfold aN2
 rw[List.range_succ,List.any_append]
 simp
theorem someP_all(A:Aut)(F T:List Bool)(l:Nat):aN2 A F T l A.y.length=aR5 (dJ A F T l):=by
 rw[Bool.eq_iff_iff,anyB_iff]
 unfold aN2
 simp only[List.any_eq_true,List.mem_range]
 constructor
 ·rintro⟨q,hq,h⟩
  refine⟨q,by rw[iH];exact hq,?_⟩
  unfold dJ
  rw[getD_map (by simpa using hq)]
  simpa using h
 ·rintro⟨q,hq,h⟩
  rw[iH] at hq
  refine⟨q,hq,?_⟩
  unfold dJ at h
  rw[getD_map (by simpa using hq)] at h
  simpa using h
def ltrs(l0:Nat):List Nat:=[l0,1-l0]
theorem getD_get{L:List Bool}{q n:Nat}(hl:L.length=n)(h:q<n):L.getD q false=L[q]'(by omega):=by simp[hl ▸ h]
theorem ext_p2 (t s w len:Nat) (g:Bool) (A:Aut) (u x:BV) (H:BH) (hu:Rd H 4 u (A.y.map aK)) (hx:RdR H 80 3 x aB A.nxt) (hok:A.Ok w) (hw:2≤w) (hs:s<A.y.length) (hn:A.y.length≤1000000) (hlen:len≤1000000)
  (hc:countB A s len=true) (l0:Nat) (hl0:l0=if g=true then 1 else 0) (e:Env) (K:BH) (hh:Ex1 aA H t s len g A u x e K):
  wpC aA (Runs (gam aA)) (ir147.body.tl 5) (fun x e' K=>(x=.normal∨x=.ret)∧∃v,cY ir147.results e' K=some v∧H.Keeps K∧v=eZ (iC A s len l0)) e K:=by
 obtain⟨R,hR⟩:∃R:BV→BH→Prop,R=fun v K=>H.Keeps K∧v=eZ (iC A s len l0):=⟨_,rfl⟩
 have hR':(fun(x:BExit) (e':Env) (K:BH)=>(x=.normal∨x=.ret)∧∃v,cY ir147.results e' K=some v∧H.Keeps K∧v=eZ (iC A s len l0))=fun x e' K=>(x=.normal∨x=.ret)∧∃v,cY ir147.results e' K=some v∧R v K:=by rw[hR]
 rw[hR']
 obtain⟨n1,v8,wo,vs,fr,⟨e1,e2,e3,e8,-⟩,o,hv8,hrows⟩:=hh
 simp only[] at e1 e2 e3 e8
 have hl02:l0<2:=by rw[hl0];split<;>omega
 have c1:(A.y.length:Int)≤140737488355328:=by omega
 have hvl:=hrows.len
 rw[aC0] at hvl
 have r2:=aD (o.at 1 (b:=n1) rfl) (rt:=none) (j:=2) (c:=u) rfl rfl
 obtain⟨Y,hY⟩:∃Y:Env→BH→Prop,Y=fun e K=>∃nl eo v13,Has e [(1,aB len),(2,.bool g),(3,.ptr n1 0),(8,v8),(13,v13),(14,.sl nl 0 2)]∧Vec eo v13 A.y.length ∧
   Own aA H K ([(eo,.arr 4 (A.y.map aK)),(wo,.arr 22 vs),(some n1,.arr 77 [aB t,aB s,u,x]),(some nl,.arr 3 ((ltrs l0).map aB))]++fr):=⟨_,rfl⟩
 refine dO 3 Y ?_ ?_
 ·simp[ir147,BCode.tl,BCode.hd,e3,r2]
  refine(sB (aA:=aA) A.y u K (hu.keeps o.keeps) hok.pos (by omega)).step fun v13 K2 k2 hv=>?_
  obtain⟨eo,hv13,hfr⟩:=hv
  have o2:=o.take k2 hv13 hfr
  have hv13':Vec eo v13 A.y.length:=by simpa using hv13.vec
  simp
  intro n14 b14 f14
  simp[aC f14 b14,e2]
  have o3:=o2.new f14 b14 (s:=.arr 3 [.int .i64 0,.int .i64 1])
  cases g with
  | false =>
   simp at hl0
   subst hl0
   simp
   rw[hY]
   refine⟨n14,eo,v13,by simp[e1,e2,e3,e8],hv13',o3.perm ?_⟩
   refine List.Perm.trans (List.perm_middle (l₁:=[(eo,BSt.arr 4 (A.y.map aK)),(wo,.arr 22 vs),(some n1,.arr 77 [aB t,aB s,u,x])]) (a:=(some n14,BSt.arr 3 ([0,1].map aB))) (l₂:=fr)) ?_
   exact List.Perm.refl _
  | true =>
   simp at hl0
   subst hl0
   simp
   intro n15 b15 f15
   simp[aC f15 b15]
   have o4:=o3.new f15 b15 (s:=.arr 3 [.int .i64 1,.int .i64 0])
   have o5:=o4.sub (M:=(some n15,.arr 3 [.int .i64 1,.int .i64 0])::(eo,.arr 4 (A.y.map aK))::([(wo,.arr 22 vs),(some n1,.arr 77 [aB t,aB s,u,x])]++fr)) (List.Sublist.cons_cons _ (List.sublist_cons_self _ _))
   rw[hY]
   refine⟨n15,eo,v13,by simp[e1,e2,e3,e8],hv13',o5.perm ?_⟩
   refine List.Perm.trans (List.perm_middle (l₁:=[(eo,BSt.arr 4 (A.y.map aK)),(wo,.arr 22 vs),(some n1,.arr 77 [aB t,aB s,u,x])]) (a:=(some n15,BSt.arr 3 ([1,0].map aB))) (l₂:=fr)) ?_
   exact List.Perm.refl _
 clear o e1 e2 e3 e8 r2
 intro e K hh
 rw[hY] at hh
 obtain⟨nl,eo,v13,⟨e1,e2,e3,e8,e13,e14,-⟩,hv13',o⟩:=hh
 simp only[] at e1 e2 e3 e8 e13 e14
 simp[ir147,BCode.tl,e1]
 obtain⟨J,hJ⟩:∃J:Nat→Env→BH→Prop,J=(fun d e K=>e 16=aB (len-d)∧e 15=.str (fW (bC5 A s len l0 d))∧∃v13 eo,e 13=v13∧Vec eo v13 A.y.length ∧
  Own aA H K ([(eo,.arr 4 ((endI A s len l0 d).map aK)),(wo,.arr 22 vs),(some n1,.arr 77 [aB t,aB s,u,x]),(some nl,.arr 3 ((ltrs l0).map aB))]++fr)):=⟨_,rfl⟩
 refine aE len [(1,aB len),(2,.bool g),(3,.ptr n1 0),(8,v8),(14,.sl nl 0 2)] J (i0:=0) rfl ?_ ?_ (Nat.zero_le _) ?_
 ·simp[e1,e2,e3,e8,e14]
 ·rw[hJ]
  exact⟨by simp,by simp[bC5,fW],v13,eo,by simp[e13],hv13',by simpa[endI] using o⟩
 clear o e1 e2 e3 e8 e13 e14 hv13' v13 eo
 rintro d e K hd ⟨e1,e2,e3,e8,e14,-⟩ hh
 rw[hJ] at hh
 obtain⟨e16,e15,v13,eo,e13,hv13,o⟩:=hh
 simp only[] at e1 e2 e3 e8 e14
 by_cases hlt:d<len
 ·have hpos:0<len-d:=by omega
  obtain⟨D,hD⟩:∃D,D=len-1-d:=⟨_,rfl⟩
  have hD':len-(d+1)=D:=by omega
  have wd1:IntKind.i64.wrap (((len-d:Nat):Int)-1)=((D:Nat):Int):=by rw[←hD'];exact wP (by omega) hlt
  obtain⟨F,hF⟩:∃F,F=aR A s D:=⟨_,rfl⟩
  obtain⟨T,hT⟩:∃T,T=endI A s len l0 d:=⟨_,rfl⟩
  have hFl:F.length=A.y.length:=by rw[hF];exact aS _ _ _
  have hTl:T.length=A.y.length:=by rw[hT];exact endI_len _ _ _ _ _
  have hbT:∀l,l<2→dJ A F T l=dJ A (aR A s (len-1-d)) (eP A s len l0 d) l:=fun l hl=>by rw[hF,hT,hD];exact bef_endI hok hw hs hl hlt
  rw[←hT] at o
  have hidx:D<vs.length:=by omega
  obtain⟨uo,hfr,huv⟩:=hrows.get (i:=D) (u:=vs[D]) (by simp[hidx]) (aC1 (by omega))
  rw[←hF] at hfr huv
  obtain⟨uF,huF⟩:∃uF,uF=vs[D]:=⟨_,rfl⟩
  have huv':Vec uo uF A.y.length:=by rw[huF];simpa[hFl] using huv
  simp[e14,e16,hpos]
  obtain⟨G,hG⟩:∃G:Nat→Env→BH→Prop,G=(fun j e K=>e 88=aB j∧(∀i,i<j→aR5 (dJ A F T ((ltrs l0).getD i 0))=false)∧e 15=.str (fW (bC5 A s len l0 d)) ∧
   Own aA H K ([(eo,.arr 4 (T.map aK)),(wo,.arr 22 vs),(some n1,.arr 77 [aB t,aB s,u,x]),(some nl,.arr 3 ((ltrs l0).map aB))]++fr)):=⟨_,rfl⟩
  refine aE 2 [(1,aB len),(2,.bool g),(3,.ptr n1 0),(8,v8),(14,.sl nl 0 2),(16,aB (len-d)),(86,.sl nl 0 2),(87,aB 2)] (fun j e K=>G j e K∧e 13=v13) (i0:=0) rfl ?_ ?_ (Nat.zero_le _) ?_
  ·simp[e1,e2,e3,e8,e14,e16]
  ·rw[hG]
   exact⟨⟨by simp,fun i hi=>by omega,by simp[e15],o⟩,by simp[e13]⟩
  clear o e1 e2 e3 e8 e13 e14 e15 e16
  rintro j e K hj ⟨e1,e2,e3,e8,e14,e16,e86,e87,-⟩ ⟨hh,e13⟩
  rw[hG] at hh
  obtain⟨e88,hno,e15,o⟩:=hh
  simp only[] at e1 e2 e3 e8 e14 e16 e86 e87
  by_cases hj2:j<2
  ·obtain⟨l,hl⟩:∃l,l=(ltrs l0).getD j 0:=⟨_,rfl⟩
   have hl2:l<2:=by
    have:j=0∨j=1:=by omega
    rcases this with rfl|rfl<;>simp[ltrs] at hl<;>omega
   have hjl:(ltrs l0)[j]'(by simpa[ltrs] using hj2)=l:=by
    rw[hl,List.getD_eq_getElem?_getD,List.getElem?_eq_getElem (by simpa[ltrs] using hj2)]
    rfl
   have wj:=wS (n:=j) (by omega)
   have hj2':(j:Int)<2:=by omega
   have rl1:=aD (o.at 3 (b:=nl) rfl) (rt:=none) (j:=j) (c:=aB l) rfl (by rw[List.getElem?_map,List.getElem?_eq_getElem (by simpa[ltrs] using hj2),hjl];rfl)
   have s13:=hv13.isSl
   have l13:=hv13.len
   simp[e86,e87,e88,hj2,hj2',rl1,e13,s13,l13,c1]
   intro n19 b19 f19
   simp[aC f19 b19]
   have o5:=o.new f19 b19 (s:=.arr 4 (List.replicate A.y.length (.bool false)))
   have r8:=(o5.rd 2 rfl hv8).get (i:=D) hidx (rt:=none) rfl
   have s8:=(o5.rd 2 rfl hv8).isSl
   have l8:=(o5.rd 2 rfl hv8).len
   rw[←huF] at r8
   have hidx':((D:Nat):Int)<(vs.length:Int):=by omega
   simp[e8,e16,wd1,s8,l8,hidx,hidx',r8,huv'.isSl,huv'.len]
   obtain⟨P,hP⟩:∃P:Nat→Env→BH→Prop,P=(fun q e K=>e 101=aB q∧e 20=.bool (aN2 A F T l q)∧Own aA H K ((some n19,.arr 4 ((aX8 A F T l q).map aK))::([(eo,.arr 4 (T.map aK)),(wo,.arr 22 vs),(some n1,.arr 77 [aB t,aB s,u,x]),(some nl,.arr 3 ((ltrs l0).map aB))]++fr))):=⟨_,rfl⟩
   refine aE A.y.length [(1,aB len),(2,.bool g),(3,.ptr n1 0),(8,v8),(13,v13),(14,.sl nl 0 2),(15,.str (fW (bC5 A s len l0 d))),(16,aB (len-d)),(18,aB l),(19,.sl n19 0 A.y.length),(86,.sl nl 0 2),(87,aB 2),(88,aB j),(99,uF),(100,aB A.y.length)] P (i0:=0) rfl ?_ ?_ (Nat.zero_le _) ?_
   ·simp[e1,e2,e3,e8,e13,e14,e15,e16,e86,e87,e88]
   ·rw[hP]
    refine⟨by simp,by simp[aN2],?_⟩
    rw[befP_zero,←replB]
    exact o5
   clear o5 o r8 s8 l8 e1 e2 e3 e8 e13 e14 e15 e16 e86 e87 e88 rl1
   rintro q e K hq ⟨e1,e2,e3,e8,e13,e14,e15,e16,e18,e19,e86,e87,e88,e99,e100,-⟩ hh
   rw[hP] at hh
   obtain⟨e101,e20,o⟩:=hh
   simp only[] at e1 e2 e3 e8 e13 e14 e15 e16 e18 e19 e86 e87 e88 e99 e100
   have wq:=wS (n:=q) (by omega)
   by_cases hql:q<A.y.length
   ·have hui:=o.rd (ty:=4) (5+D) (by rw[show 5+D=D+1+1+1+1+1 by omega];simpa using hfr) (by simpa[hFl] using huv')
    have g1:=hui.at (i:=q) (by rw[hFl];exact hql) (rt:=none) rfl
    have hgd:=getD_get hFl hql
    have hsu:=aY5 A F T l q
    cases hb:F[q]'(by rw[hFl];exact hql) with
    | false =>
     rw[hb] at g1 hgd
     have hz:(F.getD q false&&T.getD (A.to q l) false)=false:=by rw[hgd];rfl
     rw[hz,Bool.or_false] at hsu
     simp[e99,e100,e101,hql,huv'.isSl,huv'.len,g1,wq]
     rw[hP]
     exact⟨by simp,by simp[hsu,e20],by rw[aM1 hz];exact o⟩
    | true =>
     rw[hb] at g1 hgd
     have hx':=hx.keeps o.keeps
     have r3:=aD (o.at 3 (b:=n1) rfl) (rt:=none) (j:=3) (c:=x) rfl rfl
     have hlw:l<w:=by omega
     obtain⟨row,q1,q2,q3,q4⟩:=aE9 hx' hok hql hlw
     have q1:=q1 none rfl
     have q4:=q4 none rfl
     have ht0:=hok.to hql hlw
     have g2:=(o.rd 1 rfl (by simpa[hTl] using hv13)).at (i:=A.to q l) (by rw[hTl];exact ht0) (rt:=none) rfl
     have hgt:=getD_get hTl ht0
     have hlw':(l:Int)<(w:Int):=by omega
     have ht0':((A.to q l:Nat):Int)<(A.y.length:Int):=by omega
     cases hb2:T[A.to q l]'(by rw[hTl];exact ht0) with
     | false =>
      rw[hb2] at g2 hgt
      have hz:(F.getD q false&&T.getD (A.to q l) false)=false:=by rw[hgt,Bool.and_false]
      rw[hz,Bool.or_false] at hsu
      simp[e3,e13,e18,e99,e100,e101,hql,huv'.isSl,huv'.len,g1,r3,hx'.isSl,hx'.len,hok.len,q1,q2,q3,q4,hlw,hlw',ht0,ht0',hv13.isSl,hv13.len,g2,wq]
      rw[hP]
      exact⟨by simp,by simp[hsu,e20],by rw[aM1 hz];exact o⟩
     | true =>
      rw[hb2] at g2 hgt
      have hz:(F.getD q false&&T.getD (A.to q l) false)=true:=by rw[hgd,hgt];rfl
      rw[hz,Bool.or_true] at hsu
      obtain⟨K5,g5,o5⟩:=o.put 0 (b:=n19) rfl (j:=q) (u:=.bool true) (by simp[befP_len,hql]) rfl (rt:=none) rfl
      simp[e3,e13,e18,e19,e99,e100,e101,hql,huv'.isSl,huv'.len,g1,r3,hx'.isSl,hx'.len,hok.len,q1,q2,q3,q4,hlw,hlw',ht0,ht0',hv13.isSl,hv13.len,g2,g5,wq]
      rw[hP]
      refine⟨by simp,by simp[hsu],?_⟩
      rw[←befP_set hql hz,List.map_set]
      exact o5
   ·have hqe:q=A.y.length:=by omega
    subst hqe
    rw[someP_all] at e20
    rw[befP_all] at o
    have hbl:=hbT l hl2
    cases hb:aR5 (dJ A F T l) with
    | false =>
     rw[hb] at e20
     simp[e20,e88,e100,e101,wj]
     rw[hG]
     refine⟨⟨by simp,fun i hi=>?_,by simp[e15],o.tail⟩,by simp[e13]⟩
     by_cases hij:i=j
     ·rw[hij,←hl];exact hb
     ·exact hno i (by omega)
    | true =>
     rw[hb] at e20
     have w1:IntKind.i64.wrap ((l:Int)+1)=((l+1:Nat):Int):=wS (by omega)
     have hsz:(⟨#[97,98]⟩:ByteArray).size=2:=rfl
     have hext:=ab_letter l hl2
     have hno2:¬(9223372036854775807:Int)<((fW [97+l]).size:Int)+((fW (bC5 A s len l0 d)).size:Int):=by
      rw[dL,dL,aW1]
      simp
      omega
     simp[e18,e19,e20,e15,e16,e100,e101,w1,hsz,hext,wd1,hlt]
     rw[if_pos (show (0:Int)≤(l:Int)+1 by omega)]
     simp[show l+1≤2 by omega,hext,hno2,e15,e16,e19,wd1,hlt]
     -- the states and the letter
     have hend:eP A s len l0 (d+1)=dJ A F T l∧letB A s len l0 d=l:=by
      have:j=0∨j=1:=by omega
      rcases this with rfl|rfl
      ·have hll:l=l0:=by simpa[ltrs] using hl
       rw[hll] at hb hbl ⊢
       rw[hbl] at hb ⊢
       exact⟨by rw[eP,if_pos hb],by rw[letB,if_pos hb]⟩
      ·have hll:l=1-l0:=by simpa[ltrs] using hl
       have h0:=hno 0 (by omega)
       have e0:(ltrs l0).getD 0 0=l0:=rfl
       rw[e0,hbT l0 hl02] at h0
       rw[hll] at hb hbl ⊢
       rw[hbl] at hb ⊢
       exact⟨by rw[eP,if_neg (by rw[h0];simp)],by rw[letB,if_neg (by rw[h0];simp)]⟩
     rw[hJ]
     refine⟨by simp[hD'],?_,.sl n19 0 A.y.length,some n19,by simp,rfl,?_⟩
     ·simp[aK8,hend.2]
      exact strL_cons _ _
     ·have hei:endI A s len l0 (d+1)=dJ A F T l:=by unfold endI;rw[if_neg (by omega),hend.1]
      rw[hei]
      exact o.sub (List.Sublist.cons_cons _ (List.sublist_cons_self _ _))
  ·have hje:j=2:=by omega
   subst hje
   exfalso
   have h0:=hno 0 (by omega)
   have h1:=hno 1 (by omega)
   have e0:(ltrs l0).getD 0 0=l0:=rfl
   have e1':(ltrs l0).getD 1 0=1-l0:=rfl
   rw[e0,hbT l0 hl02] at h0
   rw[e1',hbT (1-l0) (by omega)] at h1
   have:=aW4 A hok hw hs hl02 hc (d:=d+1) (by omega)
   rw[eP,if_neg (by rw[h0];simp),h1] at this
   cases this
 ·have hde:d=len:=by omega
  subst hde
  simp[e15,e16]
  rw[hR]
  refine⟨o.keeps,?_⟩
  rw[aW2]
theorem i_extreme(t s w len:Nat)(g:Bool)(A:Aut)(m:BV)(H:BH)(h:RdM H t s A m)(hok:A.Ok w)(hw:2≤w)(hs:s<A.y.length)(hn:A.y.length≤1000000)(hlen:len≤1000000)(hc:countB A s len=true):FnDoes (gam aA) 147 [m,aB len,.bool g] H fun v _=>v=eZ (iC A s len (if g=true then 1 else 0)):=by
 refine FnDoes.of (fn:=ir147) rfl ?_
 obtain⟨u,x,rfl,hu,hx⟩:=h
 refine dO 5 (Ex1 aA H t s len g A u x) (ext_p1 t s w len g A u x H hu hx hok hw hs hn hlen _) fun e K hh=>?_
 exact ext_p2 t s w len g A u x H hu hx hok hw hs hn hlen hc _ rfl e K hh
def eV(w:List Nat):Nat:=w.foldr (fun b a=>2*a+(b-97)) 0
theorem aI0{w:List Nat}{i:Nat}(h:i<w.length):eV (w.drop i)=2*eV (w.drop (i+1))+(w[i]-97):=by
 rw[List.drop_eq_getElem_cons h]
 rfl
theorem aO3:∀{w:List Nat},IsW w→eV w<2^w.length
 | [],_=>by simp[eV]
 | b::w,h=>by
  have h1:=aO3 (w:=w) fun x hx=>h x (List.mem_cons_of_mem _ hx)
  have h2:=h b List.mem_cons_self
  simp only[List.length_cons,Nat.pow_succ]
  show 2*eV w+(b-97)<_
  omega
theorem uX(w:List Nat)(H:BH)(hw:IsW w)(hl:w.length≤60):Runs (gam aA) 65 [eZ w] H (aB (eV w)) H:=by
 refine aV (fn:=ir65) rfl ?_
 have w0:=xZ (n:=w.length) (by omega)
 simp[ir65,dL,w0]
 refine aE w.length [(0,eZ w)] (fun i e K=>e 3=aB (eV (w.drop (w.length-i)))∧e 4=.int .i64 ((w.length:Int)-1-i)∧K=H) (i0:=0) rfl ?_ ?_ (Nat.zero_le _) ?_
 ·simp
 ·simp[eV]
 rintro i e K hi ⟨e0,-⟩ ⟨e3,e4,rfl⟩
 simp only[] at e0
 by_cases hlt:i<w.length
 ·obtain⟨j,hjj⟩:∃j,j=w.length-(i+1):=⟨_,rfl⟩
  have hj:w.length-i=j+1:=by omega
  have hjl:j<w.length:=by omega
  have c1:=aI0 hjl
  have c2:=aO3 (w:=w.drop (j+1)) fun x hx=>hw x (List.mem_of_mem_drop hx)
  have c3:2^(w.drop (j+1)).length≤2^60:=Nat.pow_le_pow_right (by omega) (by simp;omega)
  have hd:=hw.get hjl
  rw[hj] at e3
  rw[show ((w.length:Int)-1-i)=(j:Int) by omega] at e4
  have g3:=let_mod hd
  have g4:=let_sub hd
  have w1:IntKind.i64.wrap (2*((eV (w.drop (j+1)):Nat):Int))=((2*eV (w.drop (j+1)):Nat):Int):=by rw[w64 (by omega) (by omega)];simp
  have w2:IntKind.i64.wrap (2*((eV (w.drop (j+1)):Nat):Int)+((w[j]-97:Nat):Int))=((eV (w.drop j):Nat):Int):=by rw[w64 (by omega) (by omega),c1];simp
  have w4:=xZ (n:=j) (by omega)
  simp[e0,e3,e4,hjl,dL,aB0,g3,g4,w1,w4,hlt]
  refine⟨?_,by omega⟩
  subst hjj
  exact w2
 ·have hie:i=w.length:=by omega
  subst hie
  rw[show ((w.length:Int)-1-(w.length:Nat)) = -1 by omega] at e4
  simp[e3,e4]

theorem s_number(w:List Nat)(H:BH)(hw:IsW w)(hl:w.length≤60):Runs (gam aA) 142 [eZ w] H (aB (eV w)) H:=by
 refine aV (fn:=ir142) rfl ?_
 have w0:=xZ (n:=w.length) (by omega)
 simp[ir142,dL,w0]
 refine aE w.length [(0,eZ w)] (fun i e K=>e 3=aB (eV (w.drop (w.length-i)))∧e 4=.int .i64 ((w.length:Int)-1-i)∧K=H) (i0:=0) rfl ?_ ?_ (Nat.zero_le _) ?_
 ·simp
 ·simp[eV]
 rintro i e K hi ⟨e0,-⟩ ⟨e3,e4,rfl⟩
 simp only[] at e0
 by_cases hlt:i<w.length
 ·obtain⟨j,hjj⟩:∃j,j=w.length-(i+1):=⟨_,rfl⟩
  have hj:w.length-i=j+1:=by omega
  have hjl:j<w.length:=by omega
  have c1:=aI0 hjl
  have c2:=aO3 (w:=w.drop (j+1)) fun x hx=>hw x (List.mem_of_mem_drop hx)
  have c3:2^(w.drop (j+1)).length≤2^60:=Nat.pow_le_pow_right (by omega) (by simp;omega)
  have hd:=hw.get hjl
  rw[hj] at e3
  rw[show ((w.length:Int)-1-i)=(j:Int) by omega] at e4
  have g3:=let_mod hd
  have g4:=let_sub hd
  have w1:IntKind.i64.wrap (2*((eV (w.drop (j+1)):Nat):Int))=((2*eV (w.drop (j+1)):Nat):Int):=by rw[w64 (by omega) (by omega)];simp
  have w2:IntKind.i64.wrap (2*((eV (w.drop (j+1)):Nat):Int)+((w[j]-97:Nat):Int))=((eV (w.drop j):Nat):Int):=by rw[w64 (by omega) (by omega),c1];simp
  have w4:=xZ (n:=j) (by omega)
  simp[e0,e3,e4,hjl,dL,aB0,g3,g4,w1,w4,hlt]
  refine⟨?_,by omega⟩
  subst hjj
  exact w2
 ·have hie:i=w.length:=by omega
  subst hie
  rw[show ((w.length:Int)-1-(w.length:Nat)) = -1 by omega] at e4
  simp[e3,e4]

def bA6(w:List Nat):Nat×Nat:=if 40<w.length then(0,3) else if eV w≤1000000000 then(eV w,0) else(0,2)
theorem bB5(n:Int)(H:BH):Runs (gam aA) 56 [.int .i64 n] H (.bool (inB n 0 1000000000)) H:=by
 refine aV (fn:=ir56) rfl ?_
 simp[ir56]
 refine aN (lG n 0 1000000000 H) ?_
 simp
theorem bB4(w:List Nat)(H:BH)(hw:IsW w)(hl:w.length≤1000000):Runs (gam aA) 146 [eZ w] H (.tup [aB (bA6 w).1,aB (bA6 w).2]) H:=by
 refine aV (fn:=ir146) rfl ?_
 by_cases h:40<w.length
 ·have h':(40:Int)<(w.length:Int):=by omega
  simp[ir146,dL,h,h',bA6]
 ·have h':¬(40:Int)<(w.length:Int):=by omega
  simp[ir146,dL,h,h']
  refine aN (uX w H hw (by omega)) ?_
  simp
  refine aN (bB5 _ H) ?_
  by_cases h2:eV w≤1000000000
  ·have:inB (eV w:Int) 0 1000000000=true:=by simp[inB];omega
   rw[this]
   simp
   refine aN (uX w H hw (by omega)) ?_
   simp[bA6,h,h2]
  ·have:inB (eV w:Int) 0 1000000000=false:=by simp[inB];omega
   rw[this]
   simp[bA6,h,h2]
theorem RdRs.one{K:BH}{r:aA5}{n:Nat}{u x:BV}(h:RdRaw K r.1 r.2.1 r.2.2.1 r.2.2.2 (.agg [.int .i64 r.1,.int .i64 r.2.1,u,x]))(hr:K.row n=.arr 25 [.int .i64 r.1,.int .i64 r.2.1,u,x]):RdRs K (.sl n 0 1) [r]:=by
 refine⟨[[.int .i64 r.1,.int .i64 r.2.1,u,x]],⟨rfl,rfl,fun i y hi=>?_⟩,rfl,fun i c q hi hq=>?_⟩
 ·have:i=0:=by have:=(List.getElem?_eq_some_iff.1 hi).1;simpa using this
  subst this
  simp at hi
  subst hi
  exact⟨n,0,_,rfl,hr,by simp,rfl⟩
 ·have:i=0:=by have:=(List.getElem?_eq_some_iff.1 hi).1;simpa using this
  subst this
  simp at hi hq
  subst hi hq
  exact h
theorem far_count{T:Aut}(hok:T.Ok 2){d:Nat}(h:eY T 2 0=(d:Int)):countB T 0 d=true∧d<T.y.length:=by
 have hp:=hok.pos
 obtain⟨h1,h2⟩:=(farZ_some hok hp d).1 h
 exact⟨(zW T hok (by omega) hp d).2 h1,aD2 hok hp h1 h2⟩
end Go.Proofs.YtbnmhbmhafbmiaaGreatDoor.W
end
