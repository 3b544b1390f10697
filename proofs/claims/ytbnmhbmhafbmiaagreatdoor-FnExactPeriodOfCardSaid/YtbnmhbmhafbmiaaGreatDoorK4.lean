/-
Texts of our own, put together: A1, A2, C0, C1, C2, C3, C4, C5, C6, A3, A4, C7, C8, C9, C10, S1, A5, S2, S3, S4, S5.
-/
import Derived.Test.YtbnmhbmhafbmiaaGreatDoorK3
section
namespace Go.Au
set_option linter.unusedVariables false
set_option linter.unusedSimpArgs false

/-! ### lists -/
inductive aF5 {α β:Type} (R:α→β→Prop):List α→List β→Prop where
  | nil:aF5 R [] []
  | cons {x:α} {y:β} {xs:List α} {ys:List β}:R x y→aF5 R xs ys→aF5 R (x::xs) (y::ys)
theorem nodup_le{α:Type}[DecidableEq α]:∀{xs ys:List α},xs.Nodup→(∀x∈xs,x∈ys)→xs.length≤ys.length
 | [],_,_,_=>Nat.zero_le _
 | x::xs,ys,hn,hs=>by
  have hx:=hs x List.mem_cons_self
  have h1:=nodup_le (xs:=xs) (ys:=ys.erase x) (List.nodup_cons.1 hn).2 fun y hy=>by
   have hne:y≠x:=by rintro rfl;exact(List.nodup_cons.1 hn).1 hy
   exact(List.mem_erase_of_ne hne).2 (hs y (List.mem_cons_of_mem _ hy))
  rw[List.length_erase_of_mem hx] at h1
  have h2:=List.length_pos_of_mem hx
  simp only[List.length_cons]
  omega

section
variable {κ:Type} [DecidableEq κ]
def pos(ks:List κ)(k:κ):Nat:=ks.idxOf k
def bF(ks:List κ)(k:κ):List κ:=if k∈ks then ks else ks++[k]
def eN(ks:List κ)(l:List κ):List κ:=l.foldl bF ks
def succs(w:Nat)(nx:κ→Nat→κ)(k:κ):List κ:=(List.range w).map (nx k)
def aH(sx:κ→List κ)(s:κ):Nat→List κ
 | 0=>[s]
 | i+1=>match (aH sx s i)[i]? with
  | some k=>eN (aH sx s i) (sx k)
  | none=>aH sx s i

theorem vV(ks:List κ)(k:κ):ks <+: bF ks k:=by
 unfold bF
 split
 ·exact List.prefix_refl _
 ·exact List.prefix_append _ _
theorem rC:∀(l:List κ) (ks:List κ),ks <+: eN ks l
 | [],ks=>List.prefix_refl _
 | k::l,ks=>(vV ks k).trans (rC l (bF ks k))
theorem bE1{ks:List κ}{k:κ}(h:ks.Nodup):(bF ks k).Nodup:=by
 unfold bF
 split
 ·exact h
 ·rename_i hk
  rw[List.nodup_append]
  refine⟨h,by simp,?_⟩
  intro a ha b hb
  simp at hb
  subst hb
  rintro rfl
  exact hk ha
theorem dH:∀{l:List κ} {ks:List κ},ks.Nodup→(eN ks l).Nodup
 | [],_,h=>h
 | _::l,_,h=>dH (l:=l) (bE1 h)
theorem mem_addK{ks:List κ}{k x:κ}:x∈bF ks k↔x∈ks∨x=k:=by
 unfold bF
 split
 ·rename_i h
  constructor
  ·exact .inl
  ·rintro(h1|rfl)
   ·exact h1
   ·exact h
 ·simp
theorem mem_addAll:∀{l:List κ} {ks:List κ} {x:κ},x∈eN ks l↔x∈ks∨x∈l
 | [],ks,x=>by simp[eN]
 | k::l,ks,x=>by
  show x∈eN (bF ks k) l↔_
  rw[mem_addAll (l:=l),mem_addK,List.mem_cons]
  constructor
  ·rintro((h|h)|h)
   ·exact .inl h
   ·exact .inr (.inl h)
   ·exact .inr (.inr h)
  ·rintro(h|h|h)
   ·exact .inl (.inl h)
   ·exact .inl (.inr h)
   ·exact .inr h
theorem mT(ks l m:List κ):eN ks (l++m)=eN (eN ks l) m:=by simp[eN,List.foldl_append]

section
variable {sx:κ→List κ} {s:κ}
theorem iF(i:Nat):aH sx s i <+: aH sx s (i+1):=by
 rw[aH]
 split
 ·exact rC _ _
 ·exact List.prefix_refl _
theorem fC{i j:Nat}(h:i≤j):aH sx s i <+: aH sx s j:=by
 induction h with
 | refl=>exact List.prefix_refl _
 | step _ ih=>exact ih.trans (iF _)
theorem pO:∀i,(aH sx s i).Nodup
 | 0=>by simp[aH]
 | i+1=>by
  rw[aH]
  split
  ·exact dH (pO i)
  ·exact pO i
theorem pN(i:Nat):∃r,aH sx s i=s::r:=by
 obtain⟨r,hr⟩:=fC (sx:=sx) (s:=s) (Nat.zero_le i)
 exact⟨r,by rw[←hr];rfl⟩
theorem bQ(i:Nat):s∈aH sx s i:=by
 obtain⟨r,hr⟩:=pN (sx:=sx) (s:=s) i
 rw[hr]
 exact List.mem_cons_self
def ClosedL(sx:κ→List κ)(s:κ)(U:List κ):Prop:=s∈U∧∀k∈U,∀l∈sx k,l∈U
theorem ClosedL.met{U:List κ}(h:ClosedL sx s U):∀i,∀k∈aH sx s i,k∈U
 | 0,k,hk=>by
  simp[aH] at hk
  subst hk
  exact h.1
 | i+1,k,hk=>by
  rw[aH] at hk
  split at hk
  ·rename_i k' hk'
   rcases mem_addAll.1 hk with h1|h1
   ·exact ClosedL.met h i k h1
   ·exact h.2 _ (ClosedL.met h i _ (List.mem_of_getElem? hk')) _ h1
  ·exact ClosedL.met h i k hk
theorem ClosedL.len{U:List κ}(h:ClosedL sx s U)(i:Nat):(aH sx s i).length≤U.length:=nodup_le (pO i) (ClosedL.met h i)
def DoneL(sx:κ→List κ)(s:κ)(n:Nat):Prop:=(aH sx s n).length≤n
theorem ClosedL.done{U:List κ}(h:ClosedL sx s U):DoneL sx s U.length:=h.len _
theorem DoneL.eq{n m:Nat}(h:DoneL sx s n)(hm:n≤m):aH sx s m=aH sx s n:=by
 induction hm with
 | refl=>rfl
 | step _ ih =>
  rename_i m _
  rw[aH,ih,List.getElem?_eq_none]
  rename_i hnm
  exact Nat.le_trans h hnm
theorem DoneL.same{n m:Nat}(h:DoneL sx s n)(k:DoneL sx s m):aH sx s n=aH sx s m:=by
 rcases Nat.le_total n m with hh|hh
 ·exact(h.eq hh).symm
 ·exact k.eq hh
theorem DoneL.len {n:Nat} (h:DoneL sx s n):DoneL sx s (aH sx s n).length:=by
 -- the rows below the length are the same
 have key:∀d i,i+d=n→(aH sx s n).length≤i→aH sx s i=aH sx s n:=by
  intro d
  induction d with
  | zero=>intro i hi _;rw[show i=n by omega]
  | succ d ih =>
   intro i hi hle
   have h1:=ih (i+1) (by omega) (by omega)
   rw[←h1,aH]
   have h2:(aH sx s i).length≤i:=Nat.le_trans (fC (sx:=sx) (s:=s) (show i≤n by omega)).length_le hle
   rw[List.getElem?_eq_none h2]
 have h1:=key (n-(aH sx s n).length) _ (by have:(aH sx s n).length≤n:=h;omega) (Nat.le_refl _)
 unfold DoneL
 rw[h1]
 exact Nat.le_refl _
theorem DoneL.mono{n m:Nat}(h:DoneL sx s n)(hm:n≤m):DoneL sx s m:=by
 unfold DoneL
 rw[h.eq hm]
 exact Nat.le_trans h hm
theorem met_row{n i:Nat}{k:κ}(hi:(aH sx s n)[i]?=some k):DoneL sx s n→(aH sx s i)[i]?=some k:=by
 intro h
 have hil:i<(aH sx s n).length:=(List.getElem?_eq_some_iff.1 hi).1
 have hin:i<n:=Nat.lt_of_lt_of_le hil h
 by_cases hi2:i<(aH sx s i).length
 ·obtain⟨r,hr⟩:=fC (sx:=sx) (s:=s) (Nat.le_of_lt hin)
  rw[←hr,List.getElem?_append_left hi2] at hi
  exact hi
 ·have hd:DoneL sx s i:=by unfold DoneL;omega
  have:=hd.eq (Nat.le_of_lt hin)
  rw[this] at hil
  omega
theorem DoneL.closed{n:Nat}(h:DoneL sx s n){k l:κ}(hk:k∈aH sx s n)(hl:l∈sx k):l∈aH sx s n:=by
 obtain⟨i,hi⟩:=List.getElem?_of_mem hk
 have e:=met_row hi h
 have hil:i<(aH sx s n).length:=(List.getElem?_eq_some_iff.1 hi).1
 have h1:l∈aH sx s (i+1):=by
  rw[aH,e]
  exact mem_addAll.2 (.inr hl)
 exact(fC (sx:=sx) (s:=s) (show i+1≤n by have:(aH sx s n).length≤n:=h;omega)).subset h1
end
variable {w:Nat} {nx:κ→Nat→κ} {s:κ}
def Closed(w:Nat)(nx:κ→Nat→κ)(s:κ)(U:List κ):Prop:=s∈U∧∀k∈U,∀c,c<w→nx k c∈U
theorem Closed.toL{κ:Type}{w:Nat}{nx:κ→Nat→κ}{s:κ}{U:List κ}(h:Closed w nx s U):ClosedL (succs w nx) s U:=⟨h.1,fun k hk l hl=>by
 simp only[succs,List.mem_map,List.mem_range] at hl
 obtain⟨c,hc,rfl⟩:=hl
 exact h.2 k hk c hc⟩
theorem Closed.met{U:List κ}(h:Closed w nx s U):∀i,∀k∈aH (succs w nx) s i,k∈U:=h.toL.met
theorem Closed.len{U:List κ}(h:Closed w nx s U)(i:Nat):(aH (succs w nx) s i).length≤U.length:=h.toL.len i
abbrev Done(w:Nat)(nx:κ→Nat→κ)(s:κ)(n:Nat):Prop:=DoneL (succs w nx) s n
theorem Closed.done{U:List κ}(h:Closed w nx s U):Done w nx s U.length:=h.len _
theorem mem_succs{κ:Type}{w:Nat}{nx:κ→Nat→κ}{k:κ}{c:Nat}(hc:c<w):nx k c∈succs w nx k:=List.mem_map.2 ⟨c,List.mem_range.2 hc,rfl⟩
theorem Done.closed{n:Nat}(h:Done w nx s n){k:κ}(hk:k∈aH (succs w nx) s n){c:Nat}(hc:c<w):nx k c∈aH (succs w nx) s n:=DoneL.closed h hk (mem_succs hc)

/-! ### automata -/
structure Aut where
  y:List Bool
  nxt:List (List Nat)
def aQ(w:Nat)(nx:κ→Nat→κ)(a:κ→Bool)(ks:List κ):Aut:=⟨ks.map a,ks.map fun k=>(List.range w).map fun c=>pos ks (nx k c)⟩
end

def Aut.to(A:Aut)(q c:Nat):Nat:=(A.nxt.getD q []).getD c 0
def Aut.run(A:Aut)(q:Nat)(cs:List Nat):Nat:=cs.foldl A.to q
def Aut.lang(A:Aut)(q:Nat)(cs:List Nat):Bool:=A.y.getD (A.run q cs) false
def In(w:Nat)(cs:List Nat):Prop:=∀c∈cs,c<w
theorem In.nil(w:Nat):In w []:=fun _ h=>by cases h
theorem In.cons{w c:Nat}{cs:List Nat}(h:c<w)(k:In w cs):In w (c::cs):=fun d hd=>by
 rcases List.mem_cons.1 hd with rfl|hd
 ·exact h
 ·exact k d hd
theorem In.head{w c:Nat}{cs:List Nat}(h:In w (c::cs)):c<w:=h c List.mem_cons_self
theorem In.tail{w c:Nat}{cs:List Nat}(h:In w (c::cs)):In w cs:=fun d hd=>h d (List.mem_cons_of_mem _ hd)
theorem In.append{w:Nat}{cs ds:List Nat}(h:In w cs)(k:In w ds):In w (cs++ds):=fun d hd=>by
 rcases List.mem_append.1 hd with hd|hd
 ·exact h d hd
 ·exact k d hd
def bM{κ:Type}(nx:κ→Nat→κ)(a:κ→Bool)(k:κ)(cs:List Nat):Bool:=a (cs.foldl nx k)

section
variable {κ:Type} [DecidableEq κ] {w:Nat} {nx:κ→Nat→κ} {s:κ} {a:κ→Bool}
theorem getD_map{α β:Type}{f:α→β}{l:List α}{i:Nat}(h:i<l.length){d:β}:(l.map f).getD i d=f l[i]:=by
 rw[List.getD_eq_getElem?_getD,List.getElem?_map,List.getElem?_eq_getElem h]
 rfl
theorem autOf_to{ks:List κ}{q:Nat}(hq:q<ks.length){c:Nat}(hc:c<w):(aQ w nx a ks).to q c=pos ks (nx ks[q] c):=by
 unfold Aut.to aQ
 rw[getD_map hq,getD_map (by simpa using hc)]
 simp
theorem rU{ks:List κ}{k:κ}(h:k∈ks):∃hlt:pos ks k<ks.length,ks[pos ks k]=k:=⟨List.idxOf_lt_length_iff.2 h,List.getElem_idxOf (List.idxOf_lt_length_iff.2 h)⟩
theorem qP{ks:List κ}(hn:ks.Nodup){q:Nat}(hq:q<ks.length):pos ks ks[q]=q:=List.Nodup.idxOf_getElem hn q hq
theorem aM2{ks:List κ}(hcl:∀k∈ks,∀c,c<w→nx k c∈ks):∀(cs:List Nat) (k:κ),k∈ks→In w cs→(aQ w nx a ks).run (pos ks k) cs=pos ks (cs.foldl nx k)∧cs.foldl nx k∈ks
 | [],k,hk,_=>⟨rfl,hk⟩
 | c::cs,k,hk,hin=>by
  obtain⟨hlt,he⟩:=rU hk
  have h1:(aQ w nx a ks).to (pos ks k) c=pos ks (nx k c):=by rw[autOf_to hlt hin.head,he]
  show (aQ w nx a ks).run ((aQ w nx a ks).to (pos ks k) c) cs=_∧_
  rw[h1]
  exact aM2 hcl cs (nx k c) (hcl k hk c hin.head) hin.tail
theorem rB{ks:List κ}(hcl:∀k∈ks,∀c,c<w→nx k c∈ks){k:κ}(hk:k∈ks){cs:List Nat}(hin:In w cs):(aQ w nx a ks).lang (pos ks k) cs=bM nx a k cs:=by
 obtain⟨h1,h2⟩:=aM2 (a:=a) hcl cs k hk hin
 obtain⟨hlt,he⟩:=rU h2
 unfold Aut.lang
 rw[h1]
 show (ks.map a).getD _ _=_
 rw[getD_map hlt,he]
 rfl
end

/-! ### one for a language -/
def IsTidy (w:Nat) (A:Aut) (L:List Nat→Bool):Prop:=∃(κ:Type) (_:DecidableEq κ) (nx:κ→Nat→κ) (a:κ→Bool) (s:κ) (n:Nat),Done w nx s n∧A=aQ w nx a (aH (succs w nx) s n) ∧
  (∀k∈aH (succs w nx) s n,∀l∈aH (succs w nx) s n,(∀cs,In w cs→bM nx a k cs=bM nx a l cs)→k=l)∧(∀cs,In w cs→bM nx a s cs=L cs)

section
variable {κ κ':Type} [DecidableEq κ] [DecidableEq κ'] {w:Nat} {nx:κ→Nat→κ} {s:κ} {a:κ→Bool} {nx':κ'→Nat→κ'} {s':κ'} {a':κ'→Bool} {R:κ→κ'→Prop}
theorem F2_mem{κ κ':Type}{R:κ→κ'→Prop}{ks:List κ}{ks':List κ'}(hb:∀k l k' l',R k k'→R l l'→(k=l↔k'=l'))(h:aF5 R ks ks'){k:κ}{k':κ'}(hk:R k k'):k∈ks↔k'∈ks':=by
 induction h with
 | nil=>simp
 | cons h1 _ ih=>rw[List.mem_cons,List.mem_cons,ih,hb _ _ _ _ hk h1]
theorem F2_append{α β:Type}{R:α→β→Prop}{xs:List α}{ys:List β}{x:α}{y:β}(h:aF5 R xs ys)(hx:R x y):aF5 R (xs++[x]) (ys++[y]):=by
 induction h with
 | nil=>exact .cons hx .nil
 | cons h1 _ ih=>exact .cons h1 ih
theorem F2_len{α β:Type}{R:α→β→Prop}{xs:List α}{ys:List β}(h:aF5 R xs ys):xs.length=ys.length:=by
 induction h with
 | nil=>rfl
 | cons _ _ ih=>simp[ih]
theorem F2_get{α β:Type}{R:α→β→Prop}{xs:List α}{ys:List β}(h:aF5 R xs ys){i:Nat}{x:α}{y:β}(hx:xs[i]?=some x)(hy:ys[i]?=some y):R x y:=by
 induction h generalizing i with
 | nil=>simp at hx
 | cons h1 _ ih =>
  cases i with
  | zero=>simp at hx hy;subst hx;subst hy;exact h1
  | succ i=>exact ih (i:=i) (by simpa using hx) (by simpa using hy)
theorem F2_addK(hb:∀k l k' l',R k k'→R l l'→(k=l↔k'=l')){ks:List κ}{ks':List κ'}(h:aF5 R ks ks'){k:κ}{k':κ'}(hk:R k k'):aF5 R (bF ks k) (bF ks' k'):=by
 unfold bF
 by_cases hm:k∈ks
 ·rw[if_pos hm,if_pos ((F2_mem hb h hk).1 hm)]
  exact h
 ·rw[if_neg hm,if_neg (fun hm'=>hm ((F2_mem hb h hk).2 hm'))]
  exact F2_append h hk
theorem F2_addAll(hb:∀k l k' l',R k k'→R l l'→(k=l↔k'=l')){l:List κ}{l':List κ'}(hl:aF5 R l l'):∀{ks:List κ} {ks':List κ'},aF5 R ks ks'→aF5 R (eN ks l) (eN ks' l'):=by
 induction hl with
 | nil=>intro ks ks' h;exact h
 | cons h1 _ ih=>intro ks ks' h;exact ih (F2_addK hb h h1)
theorem F2_map{α β γ:Type}{R:α→β→Prop}{f:γ→α}{g:γ→β}:∀{l:List γ},(∀c∈l,R (f c) (g c))→aF5 R (l.map f) (l.map g)
 | [],_=>.nil
 | c::l,h=>.cons (h c List.mem_cons_self) (F2_map fun d hd=>h d (List.mem_cons_of_mem _ hd))
theorem F2_idx(hb:∀k l k' l',R k k'→R l l'→(k=l↔k'=l')){ks:List κ}{ks':List κ'}(h:aF5 R ks ks'){k:κ}{k':κ'}(hk:R k k'):pos ks k=pos ks' k':=by
 induction h with
 | nil=>rfl
 | cons h1 _ ih =>
  rename_i x y xs ys _
  unfold pos at ih ⊢
  rw[List.idxOf_cons,List.idxOf_cons,ih]
  have h2:=hb _ _ _ _ h1 hk
  by_cases hx:x=k
  ·have hy:=h2.1 hx
   subst hx
   subst hy
   simp
  ·have hy:¬y=k':=fun e=>hx (h2.2 e)
   have e1:(x==k)=false:=by simpa using hx
   have e2:(y==k')=false:=by simpa using hy
   rw[e1,e2]
theorem F2_met(hb:∀k l k' l',R k k'→R l l'→(k=l↔k'=l'))(hs:R s s')(hnx:∀k k',R k k'→∀c,c<w→R (nx k c) (nx' k' c)):∀i,aF5 R (aH (succs w nx) s i) (aH (succs w nx') s' i)
 | 0=>.cons hs .nil
 | i+1=>by
  have ih:=F2_met hb hs hnx i
  have hl:=F2_len ih
  rw[aH,aH]
  by_cases hi:i<(aH (succs w nx) s i).length
  ·have hi':i<(aH (succs w nx') s' i).length:=by omega
   rw[List.getElem?_eq_getElem hi,List.getElem?_eq_getElem hi']
   have hr:=F2_get ih (List.getElem?_eq_getElem hi) (List.getElem?_eq_getElem hi')
   exact F2_addAll hb (F2_map fun c hc=>hnx _ _ hr c (List.mem_range.1 hc)) ih
  ·rw[List.getElem?_eq_none (by omega),List.getElem?_eq_none (by omega)]
   exact ih
theorem autOf_sim(hb:∀k l k' l',R k k'→R l l'→(k=l↔k'=l'))(hs:R s s')(hnx:∀k k',R k k'→∀c,c<w→R (nx k c) (nx' k' c))(ha:∀k k',R k k'→a k=a' k'){n n':Nat}(hd:Done w nx s n)(hd':Done w nx' s' n'):
  aQ w nx a (aH (succs w nx) s n)=aQ w nx' a' (aH (succs w nx') s' n'):=by
 have hd2:Done w nx s (max n n'):=hd.mono (Nat.le_max_left _ _)
 have hd2':Done w nx' s' (max n n'):=hd'.mono (Nat.le_max_right _ _)
 rw[DoneL.same hd hd2,DoneL.same hd' hd2']
 have h:=F2_met (w:=w) hb hs hnx (max n n')
 generalize hks:aH (succs w nx) s (max n n')=ks at h
 generalize hks':aH (succs w nx') s' (max n n')=ks' at h
 unfold aQ
 have e1:ks.map a=ks'.map a':=by
  have:∀{l:List κ} {l':List κ'},aF5 R l l'→l.map a=l'.map a':=by
   intro l l' hh
   induction hh with
   | nil=>rfl
   | cons h1 _ ih=>rw[List.map_cons,List.map_cons,ha _ _ h1,ih]
  exact this h
 have e2:(ks.map fun k=>(List.range w).map fun c=>pos ks (nx k c))=ks'.map fun k=>(List.range w).map fun c=>pos ks' (nx' k c):=by
  have:∀{l:List κ} {l':List κ'},aF5 R l l'→(l.map fun k=>(List.range w).map fun c=>pos ks (nx k c))=l'.map fun k=>(List.range w).map fun c=>pos ks' (nx' k c):=by
   intro l l' hh
   induction hh with
   | nil=>rfl
   | cons h1 _ ih =>
    rw[List.map_cons,List.map_cons,ih]
    congr 1
    refine List.map_congr_left fun c hc=>?_
    exact F2_idx hb h (hnx _ _ h1 c (List.mem_range.1 hc))
  exact this h
 rw[e1,e2]
end

theorem bW{κ:Type}{nx:κ→Nat→κ}{a:κ→Bool}{k:κ}{c:Nat}{cs:List Nat}:bM nx a k (c::cs)=bM nx a (nx k c) cs:=rfl

theorem IsTidy.unique{w:Nat}{A B:Aut}{L M:List Nat→Bool}(h:IsTidy w A L)(k:IsTidy w B M)(hLM:∀cs,In w cs→L cs=M cs):A=B:=by
 obtain⟨κ,i1,nx,a,s,n,hd,rfl,hdist,hl⟩:=h
 obtain⟨κ',i2,nx',a',s',n',hd',rfl,hdist',hl'⟩:=k
 refine autOf_sim (R:=fun k k'=>k∈aH (succs w nx) s n∧k'∈aH (succs w nx') s' n'∧∀cs,In w cs→bM nx a k cs=bM nx' a' k' cs) ?_ ?_ ?_ ?_ hd hd'
 ·rintro k l k' l' ⟨h1,h2,h3⟩ ⟨g1,g2,g3⟩
  constructor
  ·rintro rfl
   exact hdist' k' h2 l' g2 fun cs hc=>by rw[←h3 cs hc,g3 cs hc]
  ·rintro rfl
   exact hdist k h1 l g1 fun cs hc=>by rw[h3 cs hc,g3 cs hc]
 ·exact⟨bQ n,bQ n',fun cs hc=>by rw[hl cs hc,hl' cs hc,hLM cs hc]⟩
 ·rintro k k' ⟨h1,h2,h3⟩ c hc
  exact⟨Done.closed hd h1 hc,Done.closed hd' h2 hc,fun cs hcs=>h3 (c::cs) (hcs.cons hc)⟩
 ·rintro k k' ⟨h1,h2,h3⟩
  exact h3 [] (In.nil w)
structure Aut.Ok(w:Nat)(A:Aut):Prop where
 len:A.nxt.length=A.y.length
 pos:0<A.y.length
 row:∀r∈A.nxt,r.length=w∧∀q∈r,q<A.y.length
theorem IsTidy.ok{w:Nat}{A:Aut}{L:List Nat→Bool}(h:IsTidy w A L):A.Ok w:=by
 obtain⟨κ,i1,nx,a,s,n,hd,rfl,hdist,hl⟩:=h
 refine⟨by simp[aQ],?_,?_⟩
 ·simp only[aQ,List.length_map]
  exact List.length_pos_of_mem (bQ n)
 ·intro r hr
  simp only[aQ,List.mem_map] at hr
  obtain⟨k,hk,rfl⟩:=hr
  refine⟨by simp,fun q hq=>?_⟩
  simp only[List.mem_map,List.mem_range] at hq
  obtain⟨c,hc,rfl⟩:=hq
  simp only[aQ,List.length_map]
  exact List.idxOf_lt_length_iff.2 (Done.closed hd hk hc)
theorem IsTidy.lang{w:Nat}{A:Aut}{L:List Nat→Bool}(h:IsTidy w A L){cs:List Nat}(hc:In w cs):A.lang 0 cs=L cs:=by
 obtain⟨κ,i1,nx,a,s,n,hd,rfl,hdist,hl⟩:=h
 rw[←hl cs hc,←rB (a:=a) (fun k hk c hc=>Done.closed hd hk hc) (bQ n) hc]
 obtain⟨r,hr⟩:=pN (sx:=succs w nx) (s:=s) n
 congr 1
 rw[hr]
 simp[pos]
theorem Aut.Ok.to{w:Nat}{A:Aut}(h:A.Ok w){q c:Nat}(hq:q<A.y.length)(hc:c<w):A.to q c<A.y.length:=by
 unfold Aut.to
 have hq':q<A.nxt.length:=by rw[h.len];exact hq
 have h1:A.nxt.getD q []=A.nxt[q]:=by simp[hq']
 obtain⟨h2,h3⟩:=h.row A.nxt[q] (List.getElem_mem hq')
 rw[h1]
 have h4:A.nxt[q].getD c 0=A.nxt[q][c]'(by omega):=by simp[show c<A.nxt[q].length by omega]
 rw[h4]
 exact h3 _ (List.getElem_mem _)
theorem Aut.Ok.run{w:Nat}{A:Aut}(h:A.Ok w):∀{cs:List Nat} {q:Nat},q<A.y.length→In w cs→A.run q cs<A.y.length
 | [],q,hq,_=>hq
 | c::cs,q,hq,hin=>Aut.Ok.run h (cs:=cs) (q:=A.to q c) (h.to hq hin.head) hin.tail
noncomputable def aM9(w:Nat)(L:List Nat→Bool):Aut:=by
 classical
 exact if h:∃A,IsTidy w A L then h.choose else⟨[],[]⟩
theorem IsTidy.eq{w:Nat}{A:Aut}{L:List Nat→Bool}(h:IsTidy w A L):A=aM9 w L:=by
 classical
 have hh:∃A,IsTidy w A L:=⟨A,h⟩
 unfold aM9
 rw[dif_pos hh]
 exact h.unique hh.choose_spec fun _ _=>rfl
theorem IsTidy.self{w:Nat}{A:Aut}{L:List Nat→Bool}(h:IsTidy w A L):IsTidy w (aM9 w L) L:=by rw[←h.eq];exact h
theorem vZ{w:Nat}{L M:List Nat→Bool}(h:∀cs,In w cs→L cs=M cs):aM9 w L=aM9 w M:=by
 classical
 have key:∀{L M:List Nat→Bool},(∀cs,In w cs→L cs=M cs)→∀A,IsTidy w A L→IsTidy w A M:=by
  rintro L M h A ⟨κ,i1,nx,a,s,n,hd,rfl,hdist,hl⟩
  exact⟨κ,i1,nx,a,s,n,hd,rfl,hdist,fun cs hc=>by rw[hl cs hc,h cs hc]⟩
 by_cases hh:∃A,IsTidy w A L
 ·obtain⟨A,hA⟩:=hh
  rw[←hA.eq,←(key h A hA).eq]
 ·have hh':¬∃A,IsTidy w A M:=fun⟨A,hA⟩=>hh ⟨A,key (fun cs hc=>(h cs hc).symm) A hA⟩
  unfold aM9
  rw[dif_neg hh,dif_neg hh']
end Go.Au
end

section
namespace Go.Au
set_option linter.unusedVariables false
set_option linter.unusedSimpArgs false

theorem rI{α:Type}[DecidableEq α]:∀{l ys:List α},(∀x∈ys,x∈l)→ys.Nodup→l.length≤ys.length→l.Nodup
 | [],_,_,_,_=>List.nodup_nil
 | x::l,ys,hs,hn,hl=>by
  have hx:x∉l:=fun hxl=>by
   have:=nodup_le hn fun y hy=>by
    rcases List.mem_cons.1 (hs y hy) with rfl|h
    ·exact hxl
    ·exact h
   simp only[List.length_cons] at hl
   omega
  have hy:x∈ys:=by
   refine Classical.byContradiction fun hxy=>?_
   have:=nodup_le hn fun y hy=>by
    rcases List.mem_cons.1 (hs y hy) with rfl|h
    ·exact absurd hy hxy
    ·exact h
   simp only[List.length_cons] at hl
   omega
  refine List.nodup_cons.2 ⟨hx,rI (ys:=ys.erase x) (fun y hy'=>?_) (hn.erase x) ?_⟩
  ·have h1:y≠x:=by
    rintro rfl
    exact(List.Nodup.not_mem_erase hn) hy'
   rcases List.mem_cons.1 (hs y (List.mem_of_mem_erase hy')) with h|h
   ·exact absurd h h1
   ·exact h
  ·rw[List.length_erase_of_mem hy]
   simp only[List.length_cons] at hl
   omega
theorem cH{α:Type}[DecidableEq α]{ks ls:List α}(h:ks <+: ls){k:α}(hk:k∈ks):pos ls k=pos ks k:=by
 obtain⟨r,rfl⟩:=h
 unfold pos
 rw[List.idxOf_append,if_pos hk]
theorem dR{α:Type}[DecidableEq α]{ks:List α}{k:α}(hk:k∉ks):pos (bF ks k) k=ks.length:=by
 unfold bF
 unfold pos
 rw[if_neg hk,List.idxOf_append,if_neg hk]
 simp
theorem idx_inj{α:Type}[DecidableEq α]{ks:List α}{k l:α}(hk:k∈ks)(hl:l∈ks)(h:pos ks k=pos ks l):k=l:=by
 obtain⟨h1,e1⟩:=rU hk
 obtain⟨h2,e2⟩:=rU hl
 rw[←e1,←e2]
 simp only[h]
theorem addAll_all{α:Type}[DecidableEq α]{l:List α}{x:α}:x∈eN [] l↔x∈l:=by
 rw[mem_addAll]
 simp

/-! ### lR and lR classes -/
def bJ (X:Aut) (g:List Nat) (i:Nat):Nat×List Nat:=(g.getD i 0,(X.nxt.getD i []).map fun q=>g.getD q 0)
def keysA(X:Aut)(g:List Nat):List (Nat×List Nat):=(List.range X.y.length).map (bJ X g)
def cC(X:Aut)(g:List Nat):List (Nat×List Nat):=eN [] (keysA X g)
def lR(X:Aut)(g:List Nat):List Nat:=(List.range X.y.length).map fun i=>pos (cC X g) (bJ X g i)
def mX(X:Aut):List Nat:=X.y.map fun b=>if b=true then 1 else 0
def aP(X:Aut):Nat→List Nat
 | 0=>mX X
 | k+1=>lR X (aP X k)
def bB(X:Aut):Nat→Nat
 | 0=>0
 | k+1=>(cC X (aP X k)).length

section
variable {w:Nat} {X:Aut}
theorem pT{g:List Nat}{i:Nat}(h:i<X.y.length):bJ X g i∈cC X g:=addAll_all.2 (List.mem_map.2 ⟨i,List.mem_range.2 h,rfl⟩)
theorem aK1(g:List Nat):(lR X g).length=X.y.length:=by simp[lR]
theorem qZ:∀k,(aP X k).length=X.y.length
 | 0=>by simp[aP,mX]
 | k+1=>aK1 _
theorem sY{g:List Nat}{i:Nat}(h:i<X.y.length):(lR X g).getD i 0=pos (cC X g) (bJ X g i):=by
 unfold lR
 rw[getD_map (by simpa using h)]
 simp
theorem vP{g:List Nat}{i j:Nat}(hi:i<X.y.length)(hj:j<X.y.length):(lR X g).getD i 0=(lR X g).getD j 0↔bJ X g i=bJ X g j:=by
 rw[sY hi,sY hj]
 constructor
 ·exact idx_inj (pT hi) (pT hj)
 ·intro h;rw[h]
theorem vO{g:List Nat}{i:Nat}(h:i<X.y.length):(lR X g).getD i 0<(cC X g).length:=by
 rw[sY h]
 exact(rU (pT h)).1
theorem vN(g:List Nat):(cC X g).length≤X.y.length:=by
 have:=nodup_le (xs:=cC X g) (ys:=keysA X g) (dH List.nodup_nil) fun x hx=>addAll_all.1 hx
 simpa[keysA] using this
theorem zN{g:List Nat}{v:Nat}(h:v<(cC X g).length):∃i,i<X.y.length∧(lR X g).getD i 0=v:=by
 have h1:(cC X g)[v]∈keysA X g:=addAll_all.1 (List.getElem_mem h)
 obtain⟨i,hi,he⟩:=List.mem_map.1 h1
 rw[List.mem_range] at hi
 refine⟨i,hi,?_⟩
 rw[sY hi,he]
 exact qP (dH List.nodup_nil) h
theorem zY{k i j:Nat}(hi:i<X.y.length)(hj:j<X.y.length)(h:(aP X (k+1)).getD i 0=(aP X (k+1)).getD j 0):(aP X k).getD i 0=(aP X k).getD j 0:=by
 have:=(vP hi hj).1 h
 simpa[bJ] using congrArg Prod.fst this
theorem xT{i j:Nat}(hi:i<X.y.length)(hj:j<X.y.length):∀{k:Nat},(aP X k).getD i 0=(aP X k).getD j 0→(aP X 0).getD i 0=(aP X 0).getD j 0
 | 0,h=>h
 | k+1,h=>xT hi hj (zY hi hj h)
theorem aL7{i j:Nat}(hi:i<X.y.length)(hj:j<X.y.length):(aP X 0).getD i 0=(aP X 0).getD j 0↔X.y.getD i false=X.y.getD j false:=by
 simp only[aP,mX]
 rw[getD_map hi,getD_map hj]
 have e1:X.y.getD i false=X.y[i]:=by simp[hi]
 have e2:X.y.getD j false=X.y[j]:=by simp[hj]
 rw[e1,e2]
 cases X.y[i]<;>cases X.y[j]<;>simp
theorem iL(h:X.Ok w){i c:Nat}(hi:i<X.y.length)(hc:c<w):∃r,X.nxt.getD i []=r∧r.length=w∧r[c]?=some (X.to i c):=by
 have hi':i<X.nxt.length:=by rw[h.len];exact hi
 have h1:X.nxt.getD i []=X.nxt[i]:=by simp[hi']
 obtain⟨h2,h3⟩:=h.row X.nxt[i] (List.getElem_mem hi')
 refine⟨X.nxt[i],h1,h2,?_⟩
 unfold Aut.to
 rw[h1,List.getD_eq_getElem?_getD,List.getElem?_eq_getElem (by omega)]
 rfl
theorem key_to(h:X.Ok w){g:List Nat}{i j:Nat}(hi:i<X.y.length)(hj:j<X.y.length):
  bJ X g i=bJ X g j↔g.getD i 0=g.getD j 0∧∀c,c<w→g.getD (X.to i c) 0=g.getD (X.to j c) 0:=by
 unfold bJ
 rw[Prod.mk.injEq]
 refine and_congr Iff.rfl ⟨fun hr c hc=>?_,fun hr=>?_⟩
 ·obtain⟨r,e1,l1,g1⟩:=iL h hi hc
  obtain⟨r',e2,l2,g2⟩:=iL h hj hc
  rw[e1,e2] at hr
  have:=congrArg (·[c]?) hr
  simp only[List.getElem?_map,g1,g2,Option.map_some,Option.some.injEq] at this
  exact this
 ·apply List.ext_getElem?
  intro c
  have hi':i<X.nxt.length:=by rw[h.len];exact hi
  have hj':j<X.nxt.length:=by rw[h.len];exact hj
  by_cases hc:c<w
  ·obtain⟨r,e1,l1,g1⟩:=iL h hi hc
   obtain⟨r',e2,l2,g2⟩:=iL h hj hc
   rw[e1,e2,List.getElem?_map,List.getElem?_map,g1,g2,Option.map_some,Option.map_some,hr c hc]
  ·have e1:X.nxt.getD i []=X.nxt[i]:=by simp[hi']
   have e2:X.nxt.getD j []=X.nxt[j]:=by simp[hj']
   rw[e1,e2,List.getElem?_eq_none,List.getElem?_eq_none]
   ·have:=(h.row X.nxt[j] (List.getElem_mem hj')).1
    simp
    omega
   ·have:=(h.row X.nxt[i] (List.getElem_mem hi')).1
    simp
    omega
theorem lT(h:X.Ok w):∀{k i j:Nat},i<X.y.length→j<X.y.length→(∀cs,In w cs→X.lang i cs=X.lang j cs)→(aP X k).getD i 0=(aP X k).getD j 0
 | 0,i,j,hi,hj,hl=>(aL7 hi hj).2 (hl [] (In.nil w))
 | k+1,i,j,hi,hj,hl=>(vP hi hj).2 ((key_to h hi hj).2 ⟨lT h hi hj hl,fun c hc=>lT h (h.to hi hc) (h.to hj hc) fun cs hcs=>hl (c::cs) (hcs.cons hc)⟩)

theorem xP{k:Nat}:bB X k≤X.y.length:=by
 cases k with
 | zero=>exact Nat.zero_le _
 | succ k=>exact vN _
theorem rV (k:Nat) (hp:0<X.y.length):bB X k≤bB X (k+1)∧0<bB X (k+1):=by
 have hpos:0<bB X (k+1):=List.length_pos_of_mem (pT (g:=aP X k) hp)
 refine⟨?_,hpos⟩
 cases k with
 | zero=>exact Nat.zero_le _
 | succ k =>
  -- each class of the coarser ones is that of a key
  have:=nodup_le (xs:=List.range (bB X (k+1))) (ys:=(cC X (aP X (k+1))).map (·.1)) List.nodup_range fun v hv=>by
   rw[List.mem_range] at hv
   obtain⟨i,hi,he⟩:=zN hv
   exact List.mem_map.2 ⟨bJ X (aP X (k+1)) i,pT hi,he⟩
  simpa[bB] using this
theorem aR1(h:X.Ok w){k:Nat}(hc:bB X (k+1)=bB X k){i j:Nat}(hi:i<X.y.length)(hj:j<X.y.length):
  (aP X (k+1)).getD i 0=(aP X (k+1)).getD j 0↔(aP X k).getD i 0=(aP X k).getD j 0:=by
 refine⟨zY hi hj,fun he=>?_⟩
 cases k with
 | zero =>
  have:=(rV (X:=X) 0 h.pos).2
  rw[hc] at this
  simp[bB] at this
 | succ k =>
  have hn:((cC X (aP X (k+1))).map (·.1)).Nodup:=rI (ys:=List.range (bB X (k+1))) (fun v hv=>by
   rw[List.mem_range] at hv
   obtain⟨i,hi,he⟩:=zN hv
   exact List.mem_map.2 ⟨bJ X (aP X (k+1)) i,pT hi,he⟩) List.nodup_range (by simpa[bB] using Nat.le_of_eq hc)
  refine(vP hi hj).2 ?_
  have inj:∀{l:List (Nat×List Nat)},(l.map (·.1)).Nodup→∀{a b},a∈l→b∈l→a.1=b.1→a=b:=by
   intro l
   induction l with
   | nil=>intro _ a b ha;simp at ha
   | cons x l ih =>
    intro hn a b ha hb hab
    rw[List.map_cons,List.nodup_cons] at hn
    have hn1:∀z∈l,z.1≠x.1:=fun z hz e=>hn.1 (List.mem_map.2 ⟨z,hz,e⟩)
    rcases List.mem_cons.1 ha with ea|ha'
    ·rcases List.mem_cons.1 hb with eb|hb'
     ·rw[ea,eb]
     ·exact absurd (by rw[←hab,ea]) (hn1 b hb')
    ·rcases List.mem_cons.1 hb with eb|hb'
     ·exact absurd (by rw[hab,eb]) (hn1 a ha')
     ·exact ih hn.2 ha' hb' hab
  exact inj hn (pT hi) (pT hj) he

structure Merged(w:Nat)(X:Aut)(G:List Nat):Prop where
 len:G.length=X.y.length
 eqv:∀i j,i<X.y.length→j<X.y.length→(G.getD i 0=G.getD j 0↔∀cs,In w cs→X.lang i cs=X.lang j cs)
theorem pP(h:X.Ok w){k:Nat}(hc:bB X (k+1)=bB X k):Merged w X (aP X (k+1)):=by
 refine⟨qZ _,fun i j hi hj=>⟨fun he cs hcs=>?_,lT h hi hj⟩⟩
 have key:∀(cs:List Nat),In w cs→∀i j,i<X.y.length→j<X.y.length→(aP X (k+1)).getD i 0=(aP X (k+1)).getD j 0→X.lang i cs=X.lang j cs:=by
  intro cs
  induction cs with
  | nil=>intro _ i j hi hj he;exact(aL7 hi hj).1 (xT hi hj he)
  | cons c cs ih =>
   intro hcs i j hi hj he
   refine ih hcs.tail (X.to i c) (X.to j c) (h.to hi hcs.head) (h.to hj hcs.head) ?_
   exact(aR1 h hc (h.to hi hcs.head) (h.to hj hcs.head)).2 (((key_to h hi hj).1 ((vP hi hj).1 he)).2 c hcs.head)
 exact key cs hcs i j hi hj he
theorem mI(h:X.Ok w):∃k,k≤X.y.length∧bB X (k+1)=bB X k∧∀j,j<k→bB X (j+1)≠bB X j:=by
 have key:∀d k,X.y.length+1-bB X k≤d→(∀j,j<k→bB X (j+1)≠bB X j)→∃k,bB X (k+1)=bB X k∧∀j,j<k→bB X (j+1)≠bB X j:=by
  intro d
  induction d with
  | zero=>intro k hk _;have:=xP (X:=X) (k:=k);omega
  | succ d ih =>
   intro k hk hj
   by_cases he:bB X (k+1)=bB X k
   ·exact⟨k,he,hj⟩
   ·have:=(rV (X:=X) k h.pos).1
    refine ih (k+1) (by omega) fun j hjk=>?_
    by_cases hjk2:j=k
    ·subst hjk2;exact he
    ·exact hj j (by omega)
 obtain⟨k,h1,h2⟩:=key _ 0 (Nat.le_refl _) (fun j hj=>by omega)
 refine⟨k,?_,h1,h2⟩
 have grow:∀j,j≤k→j≤bB X j:=by
  intro j
  induction j with
  | zero=>intro _;exact Nat.zero_le _
  | succ j ih =>
   intro hj
   have e1:=ih (by omega)
   have e2:=h2 j (by omega)
   have e3:=(rV (X:=X) j h.pos).1
   omega
 exact Nat.le_trans (grow k (Nat.le_refl _)) xP

/-! ### one state for each class -/
def nxG (X:Aut) (G:List Nat) (g c:Nat):Nat:=G.getD (X.to (pos G g) c) 0
def aR8(X:Aut)(G:List Nat)(g:Nat):Bool:=X.y.getD (pos G g) false
variable {G:List Nat}
theorem bE2{g:Nat}(hg:g∈G):pos G g<G.length∧G.getD (pos G g) 0=g:=by
 obtain⟨h1,h2⟩:=rU hg
 exact⟨h1,by simp[h1,h2]⟩
theorem G_mem{i:Nat}(h:i<G.length):G.getD i 0∈G:=by
 have:G.getD i 0=G[i]:=by simp[h]
 rw[this]
 exact List.getElem_mem h
theorem Merged.to(m:Merged w X G)(h:X.Ok w){i c:Nat}(hi:i<X.y.length)(hc:c<w):nxG X G (G.getD i 0) c=G.getD (X.to i c) 0:=by
 obtain⟨h1,h2⟩:=bE2 (G_mem (G:=G) (i:=i) (by rw[m.len];exact hi))
 rw[m.len] at h1
 unfold nxG
 exact(m.eqv _ _ (h.to h1 hc) (h.to hi hc)).2 fun cs hcs=>(m.eqv _ _ h1 hi).1 h2 (c::cs) (hcs.cons hc)
theorem Merged.y(m:Merged w X G){i:Nat}(hi:i<X.y.length):aR8 X G (G.getD i 0)=X.y.getD i false:=by
 obtain⟨h1,h2⟩:=bE2 (G_mem (G:=G) (i:=i) (by rw[m.len];exact hi))
 rw[m.len] at h1
 exact(m.eqv _ _ h1 hi).1 h2 [] (In.nil w)
theorem Merged.lang(m:Merged w X G)(h:X.Ok w):∀(cs:List Nat) (i:Nat),i<X.y.length→In w cs→bM (nxG X G) (aR8 X G) (G.getD i 0) cs=X.lang i cs
 | [],i,hi,_=>m.y hi
 | c::cs,i,hi,hin=>by
  rw[bW,m.to h hi hin.head]
  exact Merged.lang m h cs (X.to i c) (h.to hi hin.head) hin.tail
theorem Merged.closed(m:Merged w X G)(h:X.Ok w){s:Nat}(hs:s<X.y.length):Closed w (nxG X G) (G.getD s 0) G:=by
 refine⟨G_mem (by rw[m.len];exact hs),fun k hk c hc=>?_⟩
 obtain⟨h1,h2⟩:=bE2 hk
 unfold nxG
 exact G_mem (by rw[m.len] at h1 ⊢;exact h.to h1 hc)
theorem Merged.tidy(m:Merged w X G)(h:X.Ok w){s:Nat}(hs:s<X.y.length){n:Nat}(hd:Done w (nxG X G) (G.getD s 0) n):IsTidy w (aQ w (nxG X G) (aR8 X G) (aH (succs w (nxG X G)) (G.getD s 0) n)) (X.lang s):=by
 refine⟨Nat,_,nxG X G,aR8 X G,G.getD s 0,n,hd,rfl,fun k hk l hl he=>?_,fun cs hcs=>m.lang h cs s hs hcs⟩
 have hk':=Closed.met (m.closed h hs) _ k hk
 have hl':=Closed.met (m.closed h hs) _ l hl
 obtain⟨h1,h2⟩:=bE2 hk'
 obtain⟨g1,g2⟩:=bE2 hl'
 rw[m.len] at h1 g1
 rw[←h2,←g2]
 refine(m.eqv _ _ h1 g1).2 fun cs hcs=>?_
 rw[←m.lang h cs _ h1 hcs,←m.lang h cs _ g1 hcs,h2,g2]
 exact he cs hcs
end
end Go.Au
end

section
namespace Go.Proofs.YtbnmhbmhafbmiaaGreatDoor.W
set_option linter.unusedVariables false
set_option linter.unusedSimpArgs false
open Go.B
variable {aA:Nat}
theorem lH:(gam aA).aA=aA:=rfl
theorem aN{C:bR}{g:Nat}{args:List BV}{k:List Nat}{d:Option Nat}{Kn:Env→BH→Prop}{e:Env}{H:BH}{v:BV}(h:C g args H v H)(hk:Kn (e.puto d v) H):CallS C g args k d Kn e H :=
 ⟨v,H,h,(BH.Keeps.refl H).tys k,hk⟩
def p3(t:Nat):Nat:=3^t
theorem lP(t:Nat):p3 (t+1)=p3 t*3:=Nat.pow_succ 3 t
theorem p3_zero:p3 0=1:=rfl
theorem p3_pos(t:Nat):0<p3 t:=Nat.pow_pos (by omega)
theorem p3_le{t u:Nat}(h:t≤u):p3 t≤p3 u:=Nat.pow_le_pow_right (by omega) h
theorem p3_30:p3 30=205891132094649:=by decide
theorem p3_3{t:Nat}(h:t≤3):p3 t≤27:=p3_le h
def wd(t:Nat):Nat:=p3 t-1
theorem aF8(t:Nat):wd t+1=p3 t:=by have:=p3_pos t;unfold wd;omega
theorem eQ{t:Nat}(h:t≤3):wd t≤26:=by have:=p3_3 h;unfold wd;omega
theorem wd_int(t:Nat):((wd t:Nat):Int)=(p3 t:Int)-1:=by have:=aF8 t;omega

def qt(c i:Nat):Nat:=c / p3 i
theorem qt_le(c i:Nat):qt c i≤c:=Nat.div_le_self _ _
theorem tV(c:Nat):qt c 0=c:=by simp[qt,p3_zero]
theorem qt_succ(c i:Nat):qt c (i+1)=qt c i / 3:=by unfold qt;rw[lP,Nat.div_div_eq_div_mul]
theorem tdivN(a b:Nat):(a:Int).tdiv (b:Int)=((a / b:Nat):Int):=(Int.ofNat_tdiv a b).symm
theorem tmodN(a b:Nat):(a:Int).tmod (b:Int)=((a % b:Nat):Int):=(Int.ofNat_tmod a b).symm
theorem wN{n:Nat}(h:n≤4611686018427387904):IntKind.i64.wrap (n:Int)=(n:Int):=w64 (by omega) (by omega)
theorem wS{n:Nat}(h:n≤4611686018427387904):IntKind.i64.wrap ((n:Int)+1)=((n+1:Nat):Int):=by rw[w64 (by omega) (by omega)];simp
theorem wP{t i:Nat}(ht:t≤4611686018427387904)(h:i<t):IntKind.i64.wrap (((t-i:Nat):Int)-1)=((t-(i+1):Nat):Int):=by rw[w64]<;>omega
def Rd(H:BH)(ty:Nat)(v:BV)(cs:List BV):Prop:=Sls H ty 1 v (cs.map one1)
def OwnV(aA:Nat)(K:BH)(ty:Nat)(v:BV)(cs:List BV)(bo:Option Nat):Prop:=OwnN aA K ty 1 v (cs.map one1) bo
abbrev encI(n:Int):BV:=.int .i64 n
abbrev aK(b:Bool):BV:=.bool b
section
variable {H K:BH} {ty:Nat} {v:BV} {cs:List BV} {α:Type} {f:α→BV} {xs:List α}
theorem Rd.isSl(h:Rd H ty v cs):v.isSl=true:=Sls.isSl h
theorem Rd.one(h:Rd H ty v cs):v.one=true:=aF h.isSl
theorem Rd.keeps(h:Rd H ty v cs)(k:H.Keeps K):Rd K ty v cs:=Sls.keeps h k
theorem OwnV.rd{bo:Option Nat}(h:OwnV aA K ty v cs bo):Rd K ty v cs:=OwnN.sls h
theorem OwnV.keeps{bo:Option Nat}(h:OwnV aA H ty v cs bo)(k:H.Keeps K):OwnV aA K ty v cs bo:=OwnN.keeps h k
theorem OwnV.vec{bo:Option Nat}(h:OwnV aA K ty v cs bo):Vec bo v cs.length:=OwnN.vec h
theorem _root_.Go.B.Own.vec{L:List (Option Nat×BSt)}{bo:Option Nat}(o:Own aA H K L)(i:Nat)(h:L[i]?=some (bo,.arr ty cs))(hv:Vec bo v cs.length):OwnV aA K ty v cs bo:=o.ownN i h hv
theorem _root_.Go.B.Own.rd{L:List (Option Nat×BSt)}{bo:Option Nat}(o:Own aA H K L)(i:Nat)(h:L[i]?=some (bo,.arr ty cs))(hv:Vec bo v cs.length):Rd K ty v cs:=(o.ownN i h hv).sls
theorem _root_.Go.B.Own.take{L:List (Option Nat×BSt)}{K':BH}{bo:Option Nat}(o:Own aA H K L)(k:K.Keeps K')(h:OwnV aA K' ty v cs bo)(fr:Fr K bo):Own aA H K' ((bo,.arr ty cs)::L) :=
 o.got k fun b hb=>by
  have h1:=OwnN.live h hb
  rw[flat1] at h1
  subst hb
  exact⟨h1,OwnS.own h,fr b rfl,by simp⟩
theorem Rd.len(h:Rd H ty v cs):v.slen=cs.length:=by have:=Sls.len h;rw[List.length_map] at this;exact this
theorem Rd.lenM(h:Rd H ty v (xs.map f)):v.slen=xs.length:=by have:=Rd.len h;rw[List.length_map] at this;exact this
theorem Rd.get(h:Rd H ty v cs){i:Nat}(hi:i<cs.length){rt:Option Nat}(hrt:dF rt ty=true):H.rd rt none (v.sat i 1)=some cs[i]:=Sls.rd1 h (i:=i) (c:=cs[i]) (by simp[hi]) hrt
theorem Rd.at(h:Rd H ty v (xs.map f)){i:Nat}(hi:i<xs.length){rt:Option Nat}(hrt:dF rt ty=true):H.rd rt none (v.sat i 1)=some (f xs[i]):=by
 refine Sls.rd1 h (i:=i) (c:=f xs[i]) ?_ hrt
 rw[List.map_map,List.getElem?_map,List.getElem?_eq_getElem hi]
 rfl
theorem Rd.cells(h:Rd H ty v cs)(hne:0<cs.length):H.cells 1 v=some cs:=by
 have hl:=Rd.len h
 have h1:=Sls.isSl h
 cases v<;>simp[BV.isSl] at h1
 case nils=>simp[BV.slen] at hl;omega
 case sle=>simp[BV.slen] at hl;omega
 case sl b o n =>
  have hn:n=cs.length:=hl
  subst hn
  obtain⟨b',o',ds,e1,e2,e3,e4⟩:=Sls.get h 0 (one1 cs[0]) (by simp[hne])
  simp only[iK,Nat.zero_mul,Nat.add_zero,BV.ptr.injEq] at e1
  obtain⟨rfl,rfl⟩:=e1
  have key:∀i (hi:i<cs.length),ds[o+i]?=some cs[i]:=fun i hi=>by
   obtain⟨b2,o2,ds2,f1,f2,f3,f4⟩:=Sls.get h i (one1 cs[i]) (by simp[hi])
   simp only[iK,Nat.mul_one,BV.ptr.injEq] at f1
   obtain⟨rfl,rfl⟩:=f1
   rw[e2] at f2
   cases f2
   have:=congrArg List.head? f4
   simpa[List.head?_take,List.head?_drop] using this
  have hlast:=key (cs.length-1) (by omega)
  have hlt:=(List.getElem?_eq_some_iff.1 hlast).1
  simp only[BH.cells,e2,Nat.mul_one]
  rw[if_pos (by omega)]
  congr 1
  apply List.ext_getElem?
  intro i
  by_cases hi:i<cs.length
  ·rw[List.getElem?_take_of_lt hi,List.getElem?_drop,key i hi,List.getElem?_eq_getElem hi]
  ·rw[List.getElem?_eq_none (by simp;omega),List.getElem?_eq_none (by omega)]
abbrev aB(n:Nat):BV:=.int .i64 (n:Int)
def RdR(H:BH)(ty ty2:Nat)(v:BV)(f:α→BV)(xss:List (List α)):Prop:=∃vs:List BV,Rd H ty v vs∧vs.length=xss.length∧∀(i:Nat) (u:BV) (xs:List α),vs[i]?=some u→xss[i]?=some xs→Rd H ty2 u (xs.map f)
theorem RdR.keeps{ty2:Nat}{xss:List (List α)}(h:RdR H ty ty2 v f xss)(k:H.Keeps K):RdR K ty ty2 v f xss:=by
 obtain⟨vs,h1,h2,h3⟩:=h
 exact⟨vs,Sls.keeps h1 k,h2,fun i u xs hu hx=>Sls.keeps (h3 i u xs hu hx) k⟩
theorem RdR.isSl{ty2:Nat}{xss:List (List α)}(h:RdR H ty ty2 v f xss):v.isSl=true:=by
 obtain⟨vs,h1,h2,h3⟩:=h
 exact Sls.isSl h1
theorem RdR.len{ty2:Nat}{xss:List (List α)}(h:RdR H ty ty2 v f xss):v.slen=xss.length:=by
 obtain⟨vs,h1,h2,h3⟩:=h
 rw[Rd.len h1,h2]
theorem RdR.at{ty2:Nat}{xss:List (List α)}(h:RdR H ty ty2 v f xss){i:Nat}(hi:i<xss.length):∃u,Rd H ty2 u (xss[i].map f)∧∀(rt:Option Nat),dF rt ty=true→H.rd rt none (v.sat i 1)=some u:=by
 obtain⟨vs,h1,h2,h3⟩:=h
 have hi':i<vs.length:=by omega
 refine⟨vs[i],h3 i _ _ (List.getElem?_eq_getElem hi') (List.getElem?_eq_getElem hi),fun rt hrt=>?_⟩
 refine Sls.rd1 h1 (i:=i) (c:=vs[i]) ?_ hrt
 simp[hi']
end
end Go.Proofs.YtbnmhbmhafbmiaaGreatDoor.W
end

section
namespace Go.Proofs.YtbnmhbmhafbmiaaGreatDoor.W
set_option linter.unusedVariables false
set_option linter.unusedSimpArgs false
open Go.B
variable {aA:Nat}
attribute [local simp] wpC_skip wpC_region wpC_seq kD fU wpC_block wpC_exit wpC_ret nO nP uI uL uJ uK aF6 nC iY fR jR fM fO cR nL fQ nJ mZ nB kB nE nH nF jV fN dS jH iZ jO nI nD nA nK uG fP jG nN uH kC eM nZ nX nY pin BExit.outOf gC gG put_eq sN Opd.ev eX oU kG oO pG kO gI mL pH oK oQ kX oV pD kR kQ oW pE gP uP oJ kJ pF bC iR cY cX nQ kF oneOf pM gY lD eJ pJ gV kZ eE pL gX kY eD uQ lJ pK gW lA eF uR lK lC eI uS lL lB eH cM pW nR iK aC asm dF nM iO jU kU jS kT nG oZ gK Option.map_some lH pI kV kA kW dX eL eK uU gJ kH kN kP kK Go.B.fillB Has
def inB(n lo hi:Int):Bool:=decide (lo≤n)&&decide (n≤hi)
theorem lG(n lo hi:Int)(H:BH):Runs (gam aA) 45 [.int .i64 n,.int .i64 lo,.int .i64 hi] H (.bool (inB n lo hi)) H:=by
 refine aV (fn:=ir45) rfl ?_
 by_cases h1:lo≤n<;>simp[ir45,inB,h1]
theorem s_in(n lo hi:Int)(H:BH):Runs (gam aA) 48 [.int .i64 n,.int .i64 lo,.int .i64 hi] H (.bool (inB n lo hi)) H:=by
 refine aV (fn:=ir48) rfl ?_
 by_cases h1:lo≤n<;>simp[ir48,inB,h1]
theorem bB8(n:Int)(H:BH):Runs (gam aA) 46 [.int .i64 n] H (.bool (inB n 1 3)) H:=by
 refine aV (fn:=ir46) rfl ?_
 simp[ir46]
 refine aN (lG n 1 3 H) ?_
 simp
theorem w3{i:Nat}(h:i<30):IntKind.i64.wrap ((p3 i:Int)*3)=(p3 (i+1):Int):=by
 have h1:=p3_le (show i+1≤30 by omega)
 rw[p3_30] at h1
 rw[w64 (by omega) (by rw[lP] at h1;omega),lP]
 simp
theorem w3'{i:Nat}(h:i<30):IntKind.i64.wrap (3*(p3 i:Int))=(p3 (i+1):Int):=by rw[Int.mul_comm,w3 h]
theorem i_powerOf(t:Nat)(H:BH)(ht:t≤30):Runs (gam aA) 148 [.int .i64 t] H (.int .i64 (p3 t)) H:=by
 refine aV (fn:=ir148) rfl ?_
 simp[ir148]
 refine aE t [] (fun i e K=>e 0=.int .i64 ((t-i:Nat):Int)∧e 3=.int .i64 (p3 i)∧K=H) (i0:=0) rfl trivial ⟨rfl,rfl,rfl⟩ (Nat.zero_le _) ?_
 rintro i e K hi - ⟨e0,e3,rfl⟩
 by_cases h:i<t
 ·have a1:0<t-i:=by omega
  have a2:IntKind.i64.wrap (((t-i:Nat):Int)-1)=((t-(i+1):Nat):Int):=by rw[w64]<;>omega
  simp[e0,e3,a1,a2,w3 (show i<30 by omega),h]
 ·have:i=t:=by omega
  subst this
  simp[e0,e3]
theorem wI(t:Nat)(H:BH)(ht:t≤30):Runs (gam aA) 150 [.int .i64 t] H (.int .i64 (p3 t)) H:=by
 refine aV (fn:=ir150) rfl ?_
 simp[ir150]
 refine aE t [] (fun i e K=>e 0=.int .i64 ((t-i:Nat):Int)∧e 3=.int .i64 (p3 i)∧K=H) (i0:=0) rfl trivial ⟨rfl,rfl,rfl⟩ (Nat.zero_le _) ?_
 rintro i e K hi - ⟨e0,e3,rfl⟩
 by_cases h:i<t
 ·have a1:0<t-i:=by omega
  have a2:IntKind.i64.wrap (((t-i:Nat):Int)-1)=((t-(i+1):Nat):Int):=by rw[w64]<;>omega
  simp[e0,e3,a1,a2,w3' (show i<30 by omega),h]
 ·have:i=t:=by omega
  subst this
  simp[e0,e3]
theorem wdw{t:Nat}(ht:t≤30):IntKind.i64.wrap ((p3 t:Int)-1)=(wd t:Int):=by
 have h1:=p3_le ht
 rw[p3_30] at h1
 rw[w64 (by omega) (by omega),wd_int]
theorem dM(t:Nat)(H:BH)(ht:t≤30):Runs (gam aA) 94 [.int .i64 t] H (.int .i64 (wd t)) H:=by
 refine aV (fn:=ir94) rfl ?_
 simp[ir94]
 refine aN (i_powerOf t H ht) ?_
 simp[wdw ht]
theorem sF(t:Nat)(H:BH)(ht:t≤30):Runs (gam aA) 100 [.int .i64 t] H (.int .i64 (wd t)) H:=by
 refine aV (fn:=ir100) rfl ?_
 simp[ir100]
 refine aN (wI t H ht) ?_
 simp[wdw ht]
def dg(c t:Nat):Nat:=qt c t % 3
theorem vF(c t:Nat):dg c t<3:=Nat.mod_lt _ (by omega)
theorem dg_int(c t:Nat):(qt c t:Int).tmod 3=(dg c t:Int):=tmodN (qt c t) 3
theorem qt_int(c t:Nat):(qt c t:Int) / 3=(qt c (t+1):Int):=by rw[qt_succ];simp
theorem tR(c t:Nat)(H:BH)(ht:t≤30)(hc:c<1000000):Runs (gam aA) 151 [.int .i64 c,.int .i64 t] H (.int .i64 (dg c t)) H:=by
 refine aV (fn:=ir151) rfl ?_
 simp[ir151]
 refine aN (wI t H ht) ?_
 have hp:=p3_pos t
 have h1:p3 t≠0:=by omega
 have h2:(c:Int).tdiv (p3 t:Int)=(qt c t:Int):=tdivN c (p3 t)
 have h3:=qt_le c t
 have h4:=wN (n:=qt c t) (by omega)
 simp[h1,h2,h4,dg_int]
def digs(t c:Nat):List Nat:=(List.range t).map (dg c)
theorem aO(t c:Nat):(digs t c).length=t:=by simp[digs]
theorem qA(t c:Nat):digs (t+1) c=digs t c++[dg c t]:=by simp[digs,List.range_succ]
theorem lY(t c:Nat)(H:BH)(ht:t≤30)(hc:c<1000000):FnDoes (gam aA) 95 [.int .i64 t,.int .i64 c] H fun v K=>∃bo,OwnV aA K 3 v ((digs t c).map aB) bo∧Fr H bo:=by
 refine FnDoes.of (fn:=ir95) rfl ?_
 simp[ir95]
 refine aE t [] (fun i e K=>e 0=.int .i64 ((t-i:Nat):Int)∧e 1=.int .i64 (qt c i)∧∃v bo,e 5=v∧Own aA H K [(bo,.arr 3 ((digs i c).map aB))]∧Vec bo v i) (i0:=0) rfl trivial ?_ (Nat.zero_le _) ?_
 ·exact⟨rfl,by rw[tV];rfl,.nils,none,rfl,Own.start.nil _,Vec.none⟩
 rintro i e K hi - ⟨e0,e1,v,bo,e5,o,hv⟩
 by_cases h:i<t
 ·have a1:0<t-i:=by omega
  have a2:=wP (by omega) h
  have a5:=wN (n:=qt c (i+1)) (by have:=qt_le c (i+1);omega)
  simp[e0,e1,e5,a1,dg_int]
  intro n1 b1 f1
  simp[aC f1 b1]
  intro n2 b2 f2
  obtain⟨v',K',b',g1,g2,g3⟩:=o.push 0 rfl (by simpa[aO] using hv) (x:=aB (dg c i)) (bytes:=8) rfl (by simp[aO];omega) (by simp[aO];omega) f1 b1 f2 b2
  simp[g1,e0,e1,a2,a5,qt_int,h]
  exact⟨some b',by simpa[qA] using g2,by simpa[aO] using g3⟩
 ·have:i=t:=by omega
  subst this
  simp[e0,e5]
  exact⟨o.keeps,bo,o.vec 0 rfl (by simpa[aO] using hv),fun b hb=>by subst hb;exact o.fr 0 rfl⟩
end Go.Proofs.YtbnmhbmhafbmiaaGreatDoor.W
end

section
namespace Go.Proofs.YtbnmhbmhafbmiaaGreatDoor.W
set_option linter.unusedVariables false
set_option linter.unusedSimpArgs false
open Go.B
open Go.Au
variable {aA:Nat}
attribute [local simp] wpC_skip wpC_region wpC_seq kD fU wpC_block wpC_exit wpC_ret nO nP uI uL uJ uK aF6 nC iY fR jR fM fO cR nL fQ nJ mZ nB kB nE nH nF jV fN dS jH iZ jO nI nD nA nK uG fP jG nN uH kC eM nZ nX nY pin BExit.outOf gC gG put_eq sN Opd.ev eX oU kG oO pG kO gI mL pH oK oQ kX oV pD kR kQ oW pE gP uP oJ kJ pF bC iR cY cX nQ kF oneOf pM gY lD eJ pJ gV kZ eE pL gX kY eD uQ lJ pK gW lA eF uR lK lC eI uS lL lB eH cM pW nR iK aC asm dF nM iO jU kU jS kT nG oZ gK Option.map_some lH pI kV kA kW dX eL eK uU gJ kH kN kP kK Go.B.fillB Has
abbrev Sl:=Option Nat×BSt
def RowsOf(ty:Nat):List BV→List Sl→List (List BV)→Prop
 | [],[],[]=>True
 | v::vs,p::fr,xs::xss=>p.2=.arr ty xs∧Vec p.1 v xs.length∧RowsOf ty vs fr xss
 | _,_,_=>False
theorem RowsOf.snoc{ty:Nat}{v:BV}{bo:Option Nat}{xs:List BV}(h1:Vec bo v xs.length):∀{vs:List BV} {fr:List Sl} {xss:List (List BV)},RowsOf ty vs fr xss→RowsOf ty (vs++[v]) (fr++[(bo,.arr ty xs)]) (xss++[xs])
 | [],[],[],_=>⟨rfl,h1,trivial⟩
 | u::vs,p::fr,ys::xss,h=>⟨h.1,h.2.1,RowsOf.snoc h1 h.2.2⟩
theorem RowsOf.len{ty:Nat}:∀{vs:List BV} {fr:List Sl} {xss:List (List BV)},RowsOf ty vs fr xss→vs.length=xss.length∧fr.length=xss.length
 | [],[],[],_=>⟨rfl,rfl⟩
 | u::vs,p::fr,ys::xss,h=>by
  obtain⟨h1,h2⟩:=RowsOf.len h.2.2
  simp[h1,h2]
theorem RowsOf.get{ty:Nat}:∀{vs:List BV} {fr:List Sl} {xss:List (List BV)},RowsOf ty vs fr xss→∀{i:Nat} {u:BV} {xs:List BV},vs[i]?=some u→xss[i]?=some xs→∃bo,fr[i]?=some (bo,.arr ty xs)∧Vec bo u xs.length
 | [],[],[],_,i,u,xs,hu,_=>by simp at hu
 | v::vs,p::fr,ys::xss,h,0,u,xs,hu,hx=>by
  simp at hu hx
  subst hu
  subst hx
  exact⟨p.1,by rw[←h.1];rfl,h.2.1⟩
 | v::vs,p::fr,ys::xss,h,i+1,u,xs,hu,hx=>by
  simp at hu hx
  obtain⟨bo,h1,h2⟩:=RowsOf.get h.2.2 hu hx
  exact⟨bo,by simpa using h1,h2⟩
theorem _root_.Go.B.Own.last{H K:BH}{p:Sl}{F fr:List Sl}(o:Own aA H K (p::(F++fr))):Own aA H K (F++(fr++[p])):=o.perm (by
 rw[←List.append_assoc]
 exact List.perm_append_singleton p (F++fr))
theorem RowsOf.rdR{α:Type}{f:α→BV}{H K:BH}{F fr:List Sl}{ty ty2:Nat}{v:BV}{bo:Option Nat}{vs:List BV}{xss:List (List α)}(o:Own aA H K (F++fr))(h:RowsOf ty2 vs fr (xss.map (·.map f)))(hv:Rd K ty v vs):RdR K ty ty2 v f xss:=by
 refine⟨vs,hv,by simpa using h.len.1,fun i u xs hu hx=>?_⟩
 obtain⟨bo,h1,h2⟩:=h.get hu (xs:=xs.map f) (by simp[hx])
 exact o.rd (F.length+i) (by rw[List.getElem?_append_right (by omega),Nat.add_sub_cancel_left];exact h1) h2

def RdM(H:BH)(t s:Nat)(A:Aut)(m:BV):Prop:=∃u w,m=.agg [aB t,aB s,u,w]∧Rd H 4 u (A.y.map aK)∧RdR H 80 3 w aB A.nxt
def OwnM(aA:Nat)(H K:BH)(t s:Nat)(A:Aut)(m:BV):Prop:=∃u w bo wo vs fr,m=.agg [aB t,aB s,u,w]∧Own aA H K ((bo,.arr 4 (A.y.map aK))::(wo,.arr 80 vs)::fr)∧Vec bo u A.y.length∧Vec wo w vs.length ∧
 RowsOf 3 vs fr (A.nxt.map (·.map aB))
theorem OwnM.rd{H K:BH}{t s:Nat}{A:Aut}{m:BV}(h:OwnM aA H K t s A m):RdM K t s A m:=by
 obtain⟨u,w,bo,wo,vs,fr,h1,h2,h3,h4,h5⟩:=h
 exact⟨u,w,h1,h2.rd 0 rfl (by simpa using h3),RowsOf.rdR (bo:=wo) (F:=[(bo,.arr 4 (A.y.map aK)),(wo,.arr 80 vs)]) h2 h5 (h2.rd 1 rfl h4)⟩
theorem RdM.keeps{H K:BH}{t s:Nat}{A:Aut}{m:BV}(h:RdM H t s A m)(k:H.Keeps K):RdM K t s A m:=by
 obtain⟨u,w,h1,h2,h3⟩:=h
 exact⟨u,w,h1,h2.keeps k,h3.keeps k⟩
def dA(aA:Nat)(H:BH)(t lim:Nat)(A:Aut)(v:BV)(K:BH):Prop :=
 if 0<lim∧lim<A.y.length then v=.tup [.agg [aB 0,aB 0,.nils,.nils],.bool false] else ∃m,v=.tup [m,.bool true]∧OwnM aA H K t 0 A m
def lsU{κ:Type}[DecidableEq κ](ks:List κ)(nx:κ→Nat→κ)(k:κ)(c:Nat):List κ:=eN ks ((List.range c).map (nx k))
section
variable {κ:Type} [DecidableEq κ] {ks:List κ} {nx:κ→Nat→κ} {k:κ}
theorem mM:lsU ks nx k 0=ks:=rfl
theorem fH(c:Nat):lsU ks nx k (c+1)=bF (lsU ks nx k c) (nx k c):=by
 unfold lsU
 rw[List.range_succ,List.map_append,mT]
 rfl
theorem gZ{c d:Nat}(h:c≤d):lsU ks nx k c <+: lsU ks nx k d:=by
 induction h with
 | refl=>exact List.prefix_refl _
 | step _ ih=>exact ih.trans (by rw[fH];exact vV _ _)
def bE(KS:List κ)(nx:κ→Nat→κ)(k:κ)(c:Nat):List Nat:=(List.range c).map fun d=>pos KS (nx k d)
theorem bA(KS:List κ)(c:Nat):bE KS nx k (c+1)=bE KS nx k c++[pos KS (nx k c)]:=by simp[bE,List.range_succ]
theorem aG(KS:List κ)(c:Nat):(bE KS nx k c).length=c:=by simp[bE]
end
theorem uC {κ:Type} [DecidableEq κ] (enc:κ→BV) (h1:∀k,(enc k).one=true) (he:∀k l,bK 0 (enc k) (enc l)=some (decide (k=l))) (hk:∀k,pV 0 (enc k)=true) (t:Nat) (ht:t≤3) (s:κ) (lim:Nat)
  (fa fn:Nat) (ca cn:List BV) (nx:κ→Nat→κ) (a:κ→Bool) (U:List κ) (hU:Closed (wd t) nx s U) (hUl:U.length≤1000000000) (H:BH)
  (ha:∀K,H.Keeps K→∀k∈U,FnDoes (gam aA) fa (enc k::ca) K fun v _=>v=.bool (a k)) (hn:∀K,H.Keeps K→∀k∈U,∀c,c<wd t→FnDoes (gam aA) fn (enc k::aB c::cn) K fun v _=>v=enc (nx k c)):FnDoes (gam aA) 66 [aB t,enc s,aB lim,.fn fa ca,.fn fn cn] H fun v K=>dA aA H t lim (aQ (wd t) nx a (aH (succs (wd t) nx) s U.length)) v K:=by
 refine FnDoes.of (fn:=ir66) rfl ?_
 obtain⟨KS,hKS⟩:∃KS,KS=aH (succs (wd t) nx) s U.length:=⟨_,rfl⟩
 have hdone:=hU.done
 have hKl:KS.length≤U.length:=by rw[hKS];exact hU.len _
 rw[←hKS]
 have hw:=eQ ht
 have h2:∀k,(enc k).cells=[enc k]:=fun k=>cells_one (h1 k)
 simp[ir66,h1]
 intro n10 b10 f10
 simp[aC f10 b10]
 intro n12 b12 f12
 have o1:=Own.start (aA:=aA) (H:=H) |>.new f10 b10 (s:=.arr 77 [.int .i64 0,.int .i64 0,.nils,.nils]) |>.new f12 b12 (s:=.arr 77 [.int .i64 0,.int .i64 0,.nils,.nils])
 obtain⟨K2,g2,o2⟩:=o1.putAll 0 (b:=n12) (n:=4) (ds:=[aB t,.int .i64 0,.nils,.nils]) rfl rfl rfl rfl (rt:=none) rfl
 simp[aC f12 b12,g2]
 intro n13 b13 f13
 have o3:=o2.new f13 b13 (s:=.mp (bI enc [] 0))
 obtain⟨K3,g3,o4⟩:=o3.mset 0 (ks:=[]) rfl he hk (k:=s) (by simp)
 have g3':(K2.set n13 (.mp [])).msetv aA 0 (.mp n13) (enc s) (.int .i64 0)=some K3:=g3
 simp[aC f13 b13,g3',h1,h2]
 intro n14 b14 f14
 have o5:=o4.new f14 b14 (s:=.arr 3 [enc s])
 simp[aC f14 b14,h1,h2]
 have mono:∀i,aH (succs (wd t) nx) s i <+: KS∨U.length≤i:=fun i=>by
  rcases Nat.le_total i U.length with h|h
  ·exact .inl (by rw[hKS];exact fC h)
  ·exact .inr h
 have pre:∀i,aH (succs (wd t) nx) s i <+: KS:=fun i=>by
  rcases mono i with h|h
  ·exact h
  ·rw[hdone.eq h,hKS];exact List.prefix_refl _
 obtain⟨I,hI⟩:∃I:Nat→Env→BH→Prop,I=(fun i e K=>e 15=aB i∧∃v3 u w b3 bo wo vs fr,e 14=v3∧i≤(aH (succs (wd t) nx) s i).length∧(lim=0∨(aH (succs (wd t) nx) s i).length≤lim) ∧
   Own aA H K ([(wo,.arr 80 vs),(bo,.arr 4 (((KS.take i).map a).map aK)),(b3,.arr 3 ((aH (succs (wd t) nx) s i).map enc)),(some n13,.mp (bI enc (aH (succs (wd t) nx) s i) 0)),
    (some n12,.arr 77 [aB t,.int .i64 0,u,w]),(some n10,.arr 77 [.int .i64 0,.int .i64 0,.nils,.nils])]++fr) ∧
   Vec b3 v3 (aH (succs (wd t) nx) s i).length∧Vec bo u i∧Vec wo w i∧vs.length=i∧RowsOf 3 vs fr (((KS.take i).map fun k=>bE KS nx k (wd t)).map (·.map aB))):=⟨_,rfl⟩
 refine aE U.length [(0,aB t),(2,aB lim),(3,.fn fa ca),(4,.fn fn cn),(10,.ptr n10 0),(12,.ptr n12 0),(13,.mp n13)] I (i0:=0) ?_ ?_ ?_ (Nat.zero_le _) ?_
 ·rfl
 ·simp
 ·rw[hI]
  refine⟨rfl,.sl n14 0 1,.nils,.nils,some n14,none,none,[],[],rfl,Nat.zero_le _,?_,(o5.nil (.arr 4 [])).nil (.arr 80 []),rfl,Vec.none,Vec.none,rfl,trivial⟩
  simp[aH];omega
 rintro i e K hi ⟨e0,e2,e3,e4,e10,e12,e13,-⟩ hh
 rw[hI] at hh
 obtain⟨e15,v3,u,w,b3,bo,wo,vs,fr,e14,hil,hlim,o,hv3,hu,hw',hvs,hrows⟩:=hh
 simp only[] at e0 e2 e3 e4 e10 e12 e13
 by_cases hlt:i<(aH (succs (wd t) nx) s i).length
 ·-- a further row
  have hiN:i<U.length:=Nat.lt_of_lt_of_le hlt (hU.len i)
  obtain⟨k,hkk⟩:∃k,(aH (succs (wd t) nx) s i)[i]?=some k:=⟨_,List.getElem?_eq_getElem hlt⟩
  have hkU:k∈U:=hU.met i k (List.mem_of_getElem? hkk)
  have hKSi:KS[i]?=some k:=by
   obtain⟨r,hr⟩:=pre i
   rw[←hr,List.getElem?_append_left hlt]
   exact hkk
  have hiKS:i<KS.length:=(List.getElem?_eq_some_iff.1 hKSi).1
  have hnext:aH (succs (wd t) nx) s (i+1)=lsU (aH (succs (wd t) nx) s i) nx k (wd t):=by rw[aH,hkk];rfl
  have hpre:∀c,c≤wd t→lsU (aH (succs (wd t) nx) s i) nx k c <+: KS:=fun c hc=>(gZ hc).trans (by rw[←hnext];exact pre (i+1))
  have hrd:=(o.rd 2 rfl (v:=v3) (by simpa using hv3)).at hlt (rt:=none) rfl
  have hk':(aH (succs (wd t) nx) s i)[i]=k:=by
   have:=List.getElem?_eq_getElem hlt
   rw[hkk] at this
   simpa using this.symm
  rw[hk'] at hrd
  have wi:=wS (n:=i) (by omega)
  simp[e0,e2,e3,e4,e10,e12,e13,e14,e15,hv3.isSl,hv3.len,hlt,hrd]
  obtain⟨J,hJ⟩:∃J:Nat→Env→BH→Prop,J=(fun c e K=>e 18=aB c∧∃v3 v17 b3 b17,e 14=v3∧e 17=v17∧(lim=0∨(lsU (aH (succs (wd t) nx) s i) nx k c).length≤lim) ∧
    Own aA H K ([(b17,.arr 3 ((bE KS nx k c).map aB)),(wo,.arr 80 vs),(bo,.arr 4 (((KS.take i).map a).map aK)),(b3,.arr 3 ((lsU (aH (succs (wd t) nx) s i) nx k c).map enc)),(some n13,.mp (bI enc (lsU (aH (succs (wd t) nx) s i) nx k c) 0)),
     (some n12,.arr 77 [aB t,.int .i64 0,u,w]),(some n10,.arr 77 [.int .i64 0,.int .i64 0,.nils,.nils])]++fr) ∧
    Vec b3 v3 (lsU (aH (succs (wd t) nx) s i) nx k c).length∧Vec b17 v17 c):=⟨_,rfl⟩
  refine aE (wd t) [(0,aB t),(2,aB lim),(3,.fn fa ca),(4,.fn fn cn),(10,.ptr n10 0),(12,.ptr n12 0),(13,.mp n13),(15,aB i),(16,enc k)] J (i0:=0) ?_ ?_ ?_ (Nat.zero_le _) ?_
  ·rfl
  ·simp[e0,e2,e3,e4,e10,e12,e13,e15]
  ·rw[hJ]
   exact⟨by simp,v3,.nils,b3,none,by simp[e14],by simp,hlim,o.nil _,hv3,Vec.none⟩
  clear e0 e2 e3 e4 e10 e12 e13 e14 e15 o hv3 hrd
  rintro c e K hc ⟨e0,e2,e3,e4,e10,e12,e13,e15,e16,-⟩ hh
  rw[hJ] at hh
  obtain⟨e18,v3,v17,b3,b17,e14,e17,hlim,o,hv3,hv17⟩:=hh
  simp only[] at e0 e2 e3 e4 e10 e12 e13 e15 e16
  simp[e0,e18]
  refine aN (dM t K (by omega)) ?_
  by_cases hcw:c<wd t
  ·simp[hcw,e4,e16,e18]
   refine(hn K o.keeps k hkU c hcw).step fun v K1 k1 hv=>?_
   subst hv
   have o1:=o.call k1
   obtain⟨ls,hls⟩:∃ls,ls=lsU (aH (succs (wd t) nx) s i) nx k c:=⟨_,rfl⟩
   have hlsp:=hpre c hc
   have hlsp1:=hpre (c+1) hcw
   have hsu:lsU (aH (succs (wd t) nx) s i) nx k (c+1)=bF ls (nx k c):=by rw[fH,←hls]
   rw[←hls] at o1 hv3 hlim hlsp
   rw[hsu] at hlsp1
   have hll:=hlsp.length_le
   have hlk:=o1.look 4 (ks:=ls) rfl he hk (nx k c)
   have hlk':K1.mlook 0 true (.int .i64 0) (.mp n13) (enc (nx k c))=some (.tup [if nx k c∈ls then aB (pos ls (nx k c)) else .int .i64 0,.bool (decide (nx k c∈ls))]):=hlk
   simp[e13,hlk']
   have wc:=wS (n:=c) (by omega)
   by_cases hm:nx k c∈ls
   ·have hpos:pos ls (nx k c)=pos KS (nx k c):=(cH hlsp hm).symm
    have hadd:bF ls (nx k c)=ls:=by unfold bF;rw[if_pos hm]
    simp[hm,hpos,e17]
    intro n1 b1 f1
    simp[aC f1 b1]
    intro n2 b2 f2
    obtain⟨v',K',b',q1,q2,q3⟩:=o1.push 0 rfl (by simpa[aG] using hv17) (x:=aB (pos KS (nx k c))) (bytes:=8) rfl (by simp[aG];omega) (by simp[aG];omega) f1 b1 f2 b2
    simp[q1,e18,wc,hcw]
    rw[hJ]
    simp only[hsu,hadd]
    exact⟨by simp,v3,v',b3,some b',by simp[e14],by simp,hlim,by simpa[bA] using q2,hv3,by simpa[aG] using q3⟩
   ·have hpos:ls.length=pos KS (nx k c):=by rw[←dR hm];exact(cH hlsp1 (mem_addK.2 (.inr rfl))).symm
    have hadd:bF ls (nx k c)=ls++[nx k c]:=by unfold bF;rw[if_neg hm]
    rw[hadd] at hlsp1
    have hl1:=hlsp1.length_le
    simp at hl1
    simp[hm,e14,hv3.isSl,hv3.len,e13]
    obtain⟨K2,q1,o2⟩:=o1.mset 4 (ks:=ls) rfl he hk hm
    have q1':K1.msetv aA 0 (.mp n13) (enc (nx k c)) (.int .i64 (ls.length:Nat))=some K2:=q1
    simp[q1',h1,h2]
    intro n1 b1 f1
    simp[aC f1 b1]
    intro n2 b2 f2
    obtain⟨v',K',b',q1,o3,q3⟩:=o2.push 3 rfl (by simpa using hv3) (x:=enc (nx k c)) (bytes:=8) (h1 _) (by simp;omega) (by simp;omega) f1 b1 f2 b2
    have hv':v'=.sl b' 0 (ls.length+1):=by simpa[Vec] using q3
    subst hv'
    simp[q1,e2,e14]
    have o3':Own aA H K' ([(b17,.arr 3 ((bE KS nx k c).map aB)),(wo,.arr 80 vs),(bo,.arr 4 (((KS.take i).map a).map aK)),(some b',.arr 3 ((ls++[nx k c]).map enc)),(some n13,.mp (bI enc (ls++[nx k c]) 0)),
      (some n12,.arr 77 [aB t,.int .i64 0,u,w]),(some n10,.arr 77 [.int .i64 0,.int .i64 0,.nils,.nils])]++fr):=by simpa using o3
    by_cases hl0:0<lim
    ·by_cases hov:lim<ls.length+1
     ·-- too many
      obtain⟨K9,q9,o9⟩:=o3'.putAll 6 (b:=n10) (n:=4) (ds:=[.int .i64 0,.int .i64 0,.nils,.nils]) rfl rfl rfl rfl (rt:=none) rfl
      have hov':(lim:Int)<(ls.length:Int)+1:=by omega
      have r9:=aI (o9.at 6 rfl) (n:=4) (rt:=none) rfl rfl
      simp[hl0,hov',e2,e10,q9,r9]
      refine⟨o9.keeps,?_⟩
      unfold dA
      rw[if_pos ⟨hl0,by simp[aQ];omega⟩]
      rfl
     ·have hov':¬(lim:Int)<(ls.length:Int)+1:=by omega
      simp[hl0,hov',e2,e17]
      intro n3 b3' f3
      simp[aC f3 b3']
      intro n4 b4 f4
      obtain⟨v'',K'',b'',p1,p2,p3⟩:=o3'.push 0 rfl (by simpa[aG] using hv17) (x:=aB ls.length) (bytes:=8) rfl (by simp[aG];omega) (by simp[aG];omega) f3 b3' f4 b4
      simp[p1,e18,wc,hcw]
      rw[hJ]
      simp only[hsu,hadd]
      exact⟨by simp,.sl b' 0 (ls.length+1),v'',some b',some b'',by simp,by simp,.inr (by simp;omega),by rw[bA,←hpos];simpa using p2,by simpa using q3,by simpa[aG] using p3⟩
    ·have hl0':lim=0:=by omega
     subst hl0'
     simp[e17]
     intro n3 b3' f3
     simp[aC f3 b3']
     intro n4 b4 f4
     obtain⟨v'',K'',b'',p1,p2,p3⟩:=o3'.push 0 rfl (by simpa[aG] using hv17) (x:=aB ls.length) (bytes:=8) rfl (by simp[aG];omega) (by simp[aG];omega) f3 b3' f4 b4
     simp[p1,e18,wc,hcw]
     rw[hJ]
     simp only[hsu,hadd]
     exact⟨by simp,.sl b' 0 (ls.length+1),v'',some b',some b'',by simp,by simp,.inl (by trivial),by rw[bA,←hpos];simpa using p2,by simpa using q3,by simpa[aG] using p3⟩
  ·have:c=wd t:=by omega
   subst this
   rw[←hnext] at o hv3 hlim
   have u1:=aD (o.at 5 rfl) (rt:=some 77) (j:=2) (c:=u) rfl rfl
   simp[e12,e3,e16,u1]
   refine(ha K o.keeps k hkU).step fun v K1 k1 hv=>?_
   subst hv
   have o1:=o.call k1
   simp
   intro n1 b1 f1
   simp[aC f1 b1]
   intro n2 b2 f2
   have hti:(KS.take i).length=i:=by simp;omega
   obtain⟨v',K2,b',q1,o2,q3⟩:=o1.push 2 rfl (v:=u) (by simp only[List.length_map,hti];exact hu) (x:=aK (a k)) (bytes:=1) rfl (by simp;omega) (by simp;omega) f1 b1 f2 b2
   obtain⟨K3,q2,o3⟩:=o2.put 5 rfl (j:=2) (u:=v') (by simp) q3.one (rt:=none) rfl
   simp[q1,q2,e12]
   have u2:=aD (o3.at 5 rfl) (rt:=none) (j:=3) (c:=w) rfl rfl
   simp[u2,e17]
   have h17:=hv17.one
   simp[h17,cells_one h17]
   intro n3 b3' f3
   simp[aC f3 b3']
   intro n4 b4 f4
   obtain⟨w',K4,c',p1,o4,p3⟩:=o3.push 1 rfl (v:=w) (by rw[hvs];exact hw') (x:=v17) (bytes:=24) h17 (by omega) (by omega) f3 b3' f4 b4
   obtain⟨K5,p2,o5⟩:=o4.put 5 rfl (j:=3) (u:=w') (by simp) p3.one (rt:=none) rfl
   simp[p1,p2,e12,e15,wi,hiN]
   rw[hI]
   have hta:(KS.take (i+1)).map a=(KS.take i).map a++[a k]:=by rw[List.take_add_one,hKSi];simp
   have htr:((KS.take (i+1)).map fun k=>bE KS nx k (wd t)).map (·.map aB)=((KS.take i).map fun k=>bE KS nx k (wd t)).map (·.map aB)++[(bE KS nx k (wd t)).map aB]:=by rw[List.take_add_one,hKSi];simp
   have hin:i+1≤(aH (succs (wd t) nx) s (i+1)).length:=by
    have:=(iF (sx:=succs (wd t) nx) (s:=s) i).length_le
    omega
   refine⟨by simp,v3,v',w',b3,some b',some c',vs++[v17],fr++[(b17,.arr 3 ((bE KS nx k (wd t)).map aB))],by simp[e14],hin,hlim,?_,hv3,?_,?_,by simp[hvs],?_⟩
   ·refine Own.last (F:=[(some c',.arr 80 (vs++[v17])),(some b',.arr 4 (((KS.take (i+1)).map a).map aK)),(b3,.arr 3 ((aH (succs (wd t) nx) s (i+1)).map enc)),(some n13,.mp (bI enc (aH (succs (wd t) nx) s (i+1)) 0)),
     (some n12,.arr 77 [aB t,.int .i64 0,v',w']),(some n10,.arr 77 [.int .i64 0,.int .i64 0,.nils,.nils])]) ?_
    rw[hta]
    simpa using o5
   ·simp only[List.length_map,hti] at q3
    exact q3
   ·simpa[hvs] using p3
   ·rw[htr]
    exact hrows.snoc (by simpa[aG] using hv17)
 ·-- all rows are made
  have hie:i=(aH (succs (wd t) nx) s i).length:=by omega
  have hdi:Done (wd t) nx s i:=by unfold Done DoneL;omega
  have hKi:aH (succs (wd t) nx) s i=KS:=by
   rw[hKS]
   exact DoneL.same hdi hdone
  rw[hKi] at hie hlim o
  have htk:KS.take i=KS:=by rw[hie,List.take_length]
  rw[htk] at o hrows
  have r1:=aI (o.at 4 rfl) (n:=4) (rt:=none) rfl rfl
  obtain⟨K9,q9,o9⟩:=o.putAll 5 (b:=n10) (n:=4) (ds:=[aB t,.int .i64 0,u,w]) rfl rfl rfl (by simp[hu.one,hw'.one]) (rt:=none) rfl
  have r9:=aI (o9.at 5 rfl) (n:=4) (rt:=none) rfl rfl
  have hlt':¬i<(aH (succs (wd t) nx) s i).length:=hlt
  simp[e0,e2,e3,e4,e10,e12,e13,e14,e15,hv3.isSl,hv3.len,hlt',r1,q9,r9]
  refine⟨o9.keeps,?_⟩
  unfold dA
  rw[if_neg (by simp[aQ];omega)]
  refine⟨_,rfl,u,w,bo,wo,vs,fr,rfl,?_,by simpa[aQ,←hie] using hu,by rw[hvs];exact hw',by simpa[aQ,bE] using hrows⟩
  have o10:Own aA H K9 ((wo,.arr 80 vs)::(bo,.arr 4 ((KS.map a).map aK))::fr):=o9.sub (.cons_cons _ (.cons_cons _ (.cons _ (.cons _ (.cons _ (.cons _ (List.Sublist.refl _)))))))
  exact o10.perm (List.Perm.swap _ _ _)
theorem aJ8 {κ:Type} [DecidableEq κ] (enc:κ→List BV) (h1:∀k,(enc k).length=2∧∀c∈enc k,c.one=true) (he:∀k l,bK 5 (.agg (enc k)) (.agg (enc l))=some (decide (k=l))) (t:Nat) (ht:t≤3) (s:κ) (lim:Nat)
  (fa fn:Nat) (ca cn:List BV) (nx:κ→Nat→κ) (a:κ→Bool) (U:List κ) (hU:Closed (wd t) nx s U) (hUl:U.length≤1000000000) (H:BH)
  (ha:∀K,H.Keeps K→∀k∈U,FnDoes (gam aA) fa (.agg (enc k)::ca) K fun v _=>v=.bool (a k)) (hn:∀K,H.Keeps K→∀k∈U,∀c,c<wd t→FnDoes (gam aA) fn (.agg (enc k)::aB c::cn) K fun v _=>v=.agg (enc (nx k c))):FnDoes (gam aA) 164 [aB t,.agg (enc s),aB lim,.fn fa ca,.fn fn cn] H fun v K=>dA aA H t lim (aQ (wd t) nx a (aH (succs (wd t) nx) s U.length)) v K:=by
 refine FnDoes.of (fn:=ir164) rfl ?_
 obtain⟨KS,hKS⟩:∃KS,KS=aH (succs (wd t) nx) s U.length:=⟨_,rfl⟩
 have hdone:=hU.done
 have hKl:KS.length≤U.length:=by rw[hKS];exact hU.len _
 rw[←hKS]
 have hw:=eQ ht
 have h2:∀k,(enc k).length=2:=fun k=>(h1 k).1
 have h3:∀k,∀c∈enc k,c.one=true:=fun k=>(h1 k).2
 have h4:∀k,(enc k).all BV.one=true:=fun k=>List.all_eq_true.2 (h3 k)
 have hk:∀k,pV 5 (.agg (enc k))=true:=fun k=>by simp[pV,h2]
 have h5:∀ks:List κ,∀x∈ks.map enc,x.length=2:=fun ks x hx=>by
  obtain⟨k,_,rfl⟩:=List.mem_map.1 hx
  exact h2 k
 simp[ir164,h4,-List.all_eq_true]
 intro n6 b6 f6
 simp[aC f6 b6,h4,-List.all_eq_true]
 intro n10 b10 f10
 simp[aC f10 b10]
 intro n12 b12 f12
 have o1:=Own.start (aA:=aA) (H:=H) |>.new f6 b6 (s:=.arr 150 (enc s)) |>.new f10 b10 (s:=.arr 77 [.int .i64 0,.int .i64 0,.nils,.nils]) |>.new f12 b12 (s:=.arr 77 [.int .i64 0,.int .i64 0,.nils,.nils])
 obtain⟨K2,g2,o2⟩:=o1.putAll 0 (b:=n12) (n:=4) (ds:=[aB t,.int .i64 0,.nils,.nils]) rfl rfl rfl rfl (rt:=none) rfl
 simp[aC f12 b12,g2]
 intro n13 b13 f13
 have o3:=o2.new f13 b13 (s:=.mp (bI (fun k=>BV.agg (enc k)) [] 0))
 have r6:=aI (o3.at 3 (b:=n6) rfl) (n:=2) (rt:=none) (h2 s) rfl
 obtain⟨K3,g3,o4⟩:=o3.mset 0 (ks:=[]) rfl he hk (k:=s) (by simp)
 have g3':(K2.set n13 (.mp [])).msetv aA 5 (.mp n13) (.agg (enc s)) (.int .i64 0)=some K3:=g3
 have r6':(K2.set n13 (.mp [])).rd none (some 2) (.ptr n6 0)=some (.agg (enc s)):=r6
 have r7:=aI (o4.at 3 (b:=n6) rfl) (n:=2) (rt:=none) (h2 s) rfl
 simp[aC f13 b13,r6',g3',r7,h2,h4,-List.all_eq_true]
 intro n14 b14 f14
 have o5:=o4.new f14 b14 (s:=.arr 150 (enc s)) |>.sub (M:=[(some n14,.arr 150 (enc s)),(some n13,.mp (bI (fun k=>BV.agg (enc k)) [s] 0)),(some n12,.arr 77 [aB t,.int .i64 0,.nils,.nils]),(some n10,.arr 77 [.int .i64 0,.int .i64 0,.nils,.nils])])
  (.cons_cons _ (.cons_cons _ (.cons_cons _ (.cons_cons _ (.cons _ .slnil)))))
 simp[aC f14 b14,List.drop_eq_nil_of_le,h2]
 have mono:∀i,aH (succs (wd t) nx) s i <+: KS∨U.length≤i:=fun i=>by
  rcases Nat.le_total i U.length with h|h
  ·exact .inl (by rw[hKS];exact fC h)
  ·exact .inr h
 have pre:∀i,aH (succs (wd t) nx) s i <+: KS:=fun i=>by
  rcases mono i with h|h
  ·exact h
  ·rw[hdone.eq h,hKS];exact List.prefix_refl _
 obtain⟨I,hI⟩:∃I:Nat→Env→BH→Prop,I=(fun i e K=>e 15=aB i∧∃v3 u w b3 bo wo vs fr,e 14=v3∧i≤(aH (succs (wd t) nx) s i).length∧(lim=0∨(aH (succs (wd t) nx) s i).length≤lim) ∧
   Own aA H K ([(wo,.arr 80 vs),(bo,.arr 4 (((KS.take i).map a).map aK)),(b3,.arr 150 ((aH (succs (wd t) nx) s i).map enc).flatten),(some n13,.mp (bI (fun k=>BV.agg (enc k)) (aH (succs (wd t) nx) s i) 0)),
    (some n12,.arr 77 [aB t,.int .i64 0,u,w]),(some n10,.arr 77 [.int .i64 0,.int .i64 0,.nils,.nils])]++fr) ∧
   Vec b3 v3 (aH (succs (wd t) nx) s i).length∧Vec bo u i∧Vec wo w i∧vs.length=i∧RowsOf 3 vs fr (((KS.take i).map fun k=>bE KS nx k (wd t)).map (·.map aB))):=⟨_,rfl⟩
 refine aE U.length [(0,aB t),(2,aB lim),(3,.fn fa ca),(4,.fn fn cn),(10,.ptr n10 0),(12,.ptr n12 0),(13,.mp n13)] I (i0:=0) ?_ ?_ ?_ (Nat.zero_le _) ?_
 ·rfl
 ·simp
 ·rw[hI]
  refine⟨rfl,.sl n14 0 1,.nils,.nils,some n14,none,none,[],[],rfl,Nat.zero_le _,?_,by simpa[aH] using (o5.nil (.arr 4 [])).nil (.arr 80 []),rfl,Vec.none,Vec.none,rfl,trivial⟩
  simp[aH];omega
 rintro i e K hi ⟨e0,e2,e3,e4,e10,e12,e13,-⟩ hh
 rw[hI] at hh
 obtain⟨e15,v3,u,w,b3,bo,wo,vs,fr,e14,hil,hlim,o,hv3,hu,hw',hvs,hrows⟩:=hh
 simp only[] at e0 e2 e3 e4 e10 e12 e13
 by_cases hlt:i<(aH (succs (wd t) nx) s i).length
 ·-- a further row
  have hiN:i<U.length:=Nat.lt_of_lt_of_le hlt (hU.len i)
  obtain⟨k,hkk⟩:∃k,(aH (succs (wd t) nx) s i)[i]?=some k:=⟨_,List.getElem?_eq_getElem hlt⟩
  have hkU:k∈U:=hU.met i k (List.mem_of_getElem? hkk)
  have hKSi:KS[i]?=some k:=by
   obtain⟨r,hr⟩:=pre i
   rw[←hr,List.getElem?_append_left hlt]
   exact hkk
  have hiKS:i<KS.length:=(List.getElem?_eq_some_iff.1 hKSi).1
  have hnext:aH (succs (wd t) nx) s (i+1)=lsU (aH (succs (wd t) nx) s i) nx k (wd t):=by rw[aH,hkk];rfl
  have hpre:∀c,c≤wd t→lsU (aH (succs (wd t) nx) s i) nx k c <+: KS:=fun c hc=>(gZ hc).trans (by rw[←hnext];exact pre (i+1))
  have hrd:=(o.ownZ 2 rfl (v:=v3) (by simpa using hv3) (h5 _)).sls.rd (i:=i) (x:=enc k) (by rw[List.getElem?_map,hkk];rfl) (rt:=none) rfl
  have wi:=wS (n:=i) (by omega)
  simp[e0,e2,e3,e4,e10,e12,e13,e14,e15,hv3.isSl,hv3.len,hlt,hrd]
  intro n16 b16 f16
  obtain⟨K6,p6,o6⟩:=(o.new f16 b16 (s:=.arr 150 [.int .i64 0,.int .i64 0])).putAll 0 (b:=n16) (n:=2) (ds:=enc k) rfl (h2 k) rfl (h4 k) (rt:=none) rfl
  simp[aC f16 b16,p6]
  obtain⟨J,hJ⟩:∃J:Nat→Env→BH→Prop,J=(fun c e K=>e 18=aB c∧∃v3 v17 b3 b17,e 14=v3∧e 17=v17∧(lim=0∨(lsU (aH (succs (wd t) nx) s i) nx k c).length≤lim) ∧
    Own aA H K ([(b17,.arr 3 ((bE KS nx k c).map aB)),(some n16,.arr 150 (enc k)),(wo,.arr 80 vs),(bo,.arr 4 (((KS.take i).map a).map aK)),(b3,.arr 150 ((lsU (aH (succs (wd t) nx) s i) nx k c).map enc).flatten),(some n13,.mp (bI (fun k=>BV.agg (enc k)) (lsU (aH (succs (wd t) nx) s i) nx k c) 0)),
     (some n12,.arr 77 [aB t,.int .i64 0,u,w]),(some n10,.arr 77 [.int .i64 0,.int .i64 0,.nils,.nils])]++fr) ∧
    Vec b3 v3 (lsU (aH (succs (wd t) nx) s i) nx k c).length∧Vec b17 v17 c):=⟨_,rfl⟩
  refine aE (wd t) [(0,aB t),(2,aB lim),(3,.fn fa ca),(4,.fn fn cn),(10,.ptr n10 0),(12,.ptr n12 0),(13,.mp n13),(15,aB i),(16,.ptr n16 0)] J (i0:=0) ?_ ?_ ?_ (Nat.zero_le _) ?_
  ·rfl
  ·simp[e0,e2,e3,e4,e10,e12,e13,e15]
  ·rw[hJ]
   exact⟨by simp,v3,.nils,b3,none,by simp[e14],by simp,hlim,o6.nil _,hv3,Vec.none⟩
  clear e0 e2 e3 e4 e10 e12 e13 e14 e15 o hv3 hrd o6 p6
  rintro c e K hc ⟨e0,e2,e3,e4,e10,e12,e13,e15,e16,-⟩ hh
  rw[hJ] at hh
  obtain⟨e18,v3,v17,b3,b17,e14,e17,hlim,o,hv3,hv17⟩:=hh
  simp only[] at e0 e2 e3 e4 e10 e12 e13 e15 e16
  simp[e0,e18]
  refine aN (dM t K (by omega)) ?_
  by_cases hcw:c<wd t
  ·have r16:=aI (o.at 1 (b:=n16) rfl) (n:=2) (rt:=none) (h2 k) rfl
   simp[hcw,e4,e16,e18,r16]
   refine(hn K o.keeps k hkU c hcw).step fun v K1 k1 hv=>?_
   subst hv
   have o1:=o.call k1
   obtain⟨ls,hls⟩:∃ls,ls=lsU (aH (succs (wd t) nx) s i) nx k c:=⟨_,rfl⟩
   have hlsp:=hpre c hc
   have hlsp1:=hpre (c+1) hcw
   have hsu:lsU (aH (succs (wd t) nx) s i) nx k (c+1)=bF ls (nx k c):=by rw[fH,←hls]
   rw[←hls] at o1 hv3 hlim hlsp
   rw[hsu] at hlsp1
   have hll:=hlsp.length_le
   simp
   intro n19 b19 f19
   obtain⟨K7,p7,o7⟩:=(o1.new f19 b19 (s:=.arr 150 [.int .i64 0,.int .i64 0])).putAll 0 (b:=n19) (n:=2) (ds:=enc (nx k c)) rfl (h2 _) rfl (h4 _) (rt:=none) rfl
   have r19:=aI (o7.at 0 (b:=n19) rfl) (n:=2) (rt:=none) (h2 (nx k c)) rfl
   simp[aC f19 b19,p7,r19]
   clear o1
   have o1:=o7.tail
   have hlk:=o1.look 5 (ks:=ls) rfl he hk (nx k c)
   have hlk':K7.mlook 5 true (.int .i64 0) (.mp n13) (.agg (enc (nx k c)))=some (.tup [if nx k c∈ls then aB (pos ls (nx k c)) else .int .i64 0,.bool (decide (nx k c∈ls))]):=hlk
   simp[e13,hlk']
   have wc:=wS (n:=c) (by omega)
   by_cases hm:nx k c∈ls
   ·have hpos:pos ls (nx k c)=pos KS (nx k c):=(cH hlsp hm).symm
    have hadd:bF ls (nx k c)=ls:=by unfold bF;rw[if_pos hm]
    simp[hm,hpos,e17]
    intro n1 b1 f1
    simp[aC f1 b1]
    intro n2 b2 f2
    obtain⟨v',K',b',q1,q2,q3⟩:=o1.push 0 rfl (by simpa[aG] using hv17) (x:=aB (pos KS (nx k c))) (bytes:=8) rfl (by simp[aG];omega) (by simp[aG];omega) f1 b1 f2 b2
    simp[q1,e18,wc,hcw]
    rw[hJ]
    simp only[hsu,hadd]
    exact⟨by simp,v3,v',b3,some b',by simp[e14],by simp,hlim,by simpa[bA] using q2,hv3,by simpa[aG] using q3⟩
   ·have hpos:ls.length=pos KS (nx k c):=by rw[←dR hm];exact(cH hlsp1 (mem_addK.2 (.inr rfl))).symm
    have hadd:bF ls (nx k c)=ls++[nx k c]:=by unfold bF;rw[if_neg hm]
    rw[hadd] at hlsp1
    have hl1:=hlsp1.length_le
    simp at hl1
    simp[hm,e14,hv3.isSl,hv3.len,e13,r19]
    obtain⟨K2,q1,o2'⟩:=o7.mset 6 (ks:=ls) rfl he hk hm
    have q1':K7.msetv aA 5 (.mp n13) (.agg (enc (nx k c))) (.int .i64 (ls.length:Nat))=some K2:=q1
    have r20:=aI (o2'.at 0 (b:=n19) rfl) (n:=2) (rt:=none) (h2 (nx k c)) rfl
    have o2:=o2'.tail
    simp[q1',r20,h2,h4,-List.all_eq_true]
    intro n1 b1 f1
    simp[aC f1 b1,List.drop_eq_nil_of_le,h2]
    intro n2 b2 f2
    obtain⟨v',K',b',q1,o3,q3⟩:=o2.pushZ 4 (xs:=ls.map enc) rfl (v:=v3) (by simpa using hv3) (h5 _) (x:=enc (nx k c)) (bytes:=16) (h2 _) (h3 _) (by omega) (by simp;omega) (by simp;omega) f1 b1 f2 b2
    have hv':v'=.sl b' 0 (ls.length+1):=by simpa[Vec] using q3
    subst hv'
    simp[q1,e2,e14]
    have o3':Own aA H K' ([(b17,.arr 3 ((bE KS nx k c).map aB)),(some n16,.arr 150 (enc k)),(wo,.arr 80 vs),(bo,.arr 4 (((KS.take i).map a).map aK)),(some b',.arr 150 ((ls++[nx k c]).map enc).flatten),(some n13,.mp (bI (fun k=>BV.agg (enc k)) (ls++[nx k c]) 0)),
      (some n12,.arr 77 [aB t,.int .i64 0,u,w]),(some n10,.arr 77 [.int .i64 0,.int .i64 0,.nils,.nils])]++fr):=by simpa using o3
    by_cases hl0:0<lim
    ·by_cases hov:lim<ls.length+1
     ·-- too many
      obtain⟨K9,q9,o9⟩:=o3'.putAll 7 (b:=n10) (n:=4) (ds:=[.int .i64 0,.int .i64 0,.nils,.nils]) rfl rfl rfl rfl (rt:=none) rfl
      have hov':(lim:Int)<(ls.length:Int)+1:=by omega
      have r9:=aI (o9.at 7 rfl) (n:=4) (rt:=none) rfl rfl
      simp[hl0,hov',e2,e10,q9,r9]
      refine⟨o9.keeps,?_⟩
      unfold dA
      rw[if_pos ⟨hl0,by simp[aQ];omega⟩]
      rfl
     ·have hov':¬(lim:Int)<(ls.length:Int)+1:=by omega
      simp[hl0,hov',e2,e17]
      intro n3 b3' f3
      simp[aC f3 b3']
      intro n4 b4 f4
      obtain⟨v'',K'',b'',p1,p2,p3⟩:=o3'.push 0 rfl (by simpa[aG] using hv17) (x:=aB ls.length) (bytes:=8) rfl (by simp[aG];omega) (by simp[aG];omega) f3 b3' f4 b4
      simp[p1,e18,wc,hcw]
      rw[hJ]
      simp only[hsu,hadd]
      exact⟨by simp,.sl b' 0 (ls.length+1),v'',some b',some b'',by simp,by simp,.inr (by simp;omega),by rw[bA,←hpos];simpa using p2,by simpa using q3,by simpa[aG] using p3⟩
    ·have hl0':lim=0:=by omega
     subst hl0'
     simp[e17]
     intro n3 b3' f3
     simp[aC f3 b3']
     intro n4 b4 f4
     obtain⟨v'',K'',b'',p1,p2,p3⟩:=o3'.push 0 rfl (by simpa[aG] using hv17) (x:=aB ls.length) (bytes:=8) rfl (by simp[aG];omega) (by simp[aG];omega) f3 b3' f4 b4
     simp[p1,e18,wc,hcw]
     rw[hJ]
     simp only[hsu,hadd]
     exact⟨by simp,.sl b' 0 (ls.length+1),v'',some b',some b'',by simp,by simp,.inl (by trivial),by rw[bA,←hpos];simpa using p2,by simpa using q3,by simpa[aG] using p3⟩
  ·have:c=wd t:=by omega
   subst this
   rw[←hnext] at o hv3 hlim
   have r16:=aI (o.at 1 (b:=n16) rfl) (n:=2) (rt:=none) (h2 k) rfl
   have u1:=aD (o.at 6 rfl) (rt:=some 77) (j:=2) (c:=u) rfl rfl
   simp[e12,e3,e16,u1,r16]
   refine(ha K o.keeps k hkU).step fun v K1 k1 hv=>?_
   subst hv
   have o1:=o.call k1
   simp
   intro n1 b1 f1
   simp[aC f1 b1]
   intro n2 b2 f2
   have hti:(KS.take i).length=i:=by simp;omega
   obtain⟨v',K2,b',q1,o2,q3⟩:=o1.push 3 rfl (v:=u) (by simp only[List.length_map,hti];exact hu) (x:=aK (a k)) (bytes:=1) rfl (by simp;omega) (by simp;omega) f1 b1 f2 b2
   obtain⟨K3,q2,o3⟩:=o2.put 6 rfl (j:=2) (u:=v') (by simp) q3.one (rt:=none) rfl
   simp[q1,q2,e12]
   have u2:=aD (o3.at 6 rfl) (rt:=none) (j:=3) (c:=w) rfl rfl
   simp[u2,e17]
   have h17:=hv17.one
   simp[h17,cells_one h17]
   intro n3 b3' f3
   simp[aC f3 b3']
   intro n4 b4 f4
   obtain⟨w',K4,c',p1,o4,p3⟩:=o3.push 2 rfl (v:=w) (by rw[hvs];exact hw') (x:=v17) (bytes:=24) h17 (by omega) (by omega) f3 b3' f4 b4
   obtain⟨K5,p2,o5⟩:=o4.put 6 rfl (j:=3) (u:=w') (by simp) p3.one (rt:=none) rfl
   simp[p1,p2,e12,e15,wi,hiN]
   rw[hI]
   have hta:(KS.take (i+1)).map a=(KS.take i).map a++[a k]:=by rw[List.take_add_one,hKSi];simp
   have htr:((KS.take (i+1)).map fun k=>bE KS nx k (wd t)).map (·.map aB)=((KS.take i).map fun k=>bE KS nx k (wd t)).map (·.map aB)++[(bE KS nx k (wd t)).map aB]:=by rw[List.take_add_one,hKSi];simp
   have hin:i+1≤(aH (succs (wd t) nx) s (i+1)).length:=by
    have:=(iF (sx:=succs (wd t) nx) (s:=s) i).length_le
    omega
   refine⟨by simp,v3,v',w',b3,some b',some c',vs++[v17],fr++[(b17,.arr 3 ((bE KS nx k (wd t)).map aB))],by simp[e14],hin,hlim,?_,hv3,?_,?_,by simp[hvs],?_⟩
   ·refine Own.last (F:=[(some c',.arr 80 (vs++[v17])),(some b',.arr 4 (((KS.take (i+1)).map a).map aK)),(b3,.arr 150 ((aH (succs (wd t) nx) s (i+1)).map enc).flatten),(some n13,.mp (bI (fun k=>BV.agg (enc k)) (aH (succs (wd t) nx) s (i+1)) 0)),
     (some n12,.arr 77 [aB t,.int .i64 0,v',w']),(some n10,.arr 77 [.int .i64 0,.int .i64 0,.nils,.nils])]) ?_
    rw[hta]
    have o6:=o5.sub (.cons_cons _ (.cons _ (List.Sublist.refl _)))
    simpa using o6
   ·simp only[List.length_map,hti] at q3
    exact q3
   ·simpa[hvs] using p3
   ·rw[htr]
    exact hrows.snoc (by simpa[aG] using hv17)
 ·-- all rows are made
  have hie:i=(aH (succs (wd t) nx) s i).length:=by omega
  have hdi:Done (wd t) nx s i:=by unfold Done DoneL;omega
  have hKi:aH (succs (wd t) nx) s i=KS:=by
   rw[hKS]
   exact DoneL.same hdi hdone
  rw[hKi] at hie hlim o
  have htk:KS.take i=KS:=by rw[hie,List.take_length]
  rw[htk] at o hrows
  have r1:=aI (o.at 4 rfl) (n:=4) (rt:=none) rfl rfl
  obtain⟨K9,q9,o9⟩:=o.putAll 5 (b:=n10) (n:=4) (ds:=[aB t,.int .i64 0,u,w]) rfl rfl rfl (by simp[hu.one,hw'.one]) (rt:=none) rfl
  have r9:=aI (o9.at 5 rfl) (n:=4) (rt:=none) rfl rfl
  have hlt':¬i<(aH (succs (wd t) nx) s i).length:=hlt
  simp[e0,e2,e3,e4,e10,e12,e13,e14,e15,hv3.isSl,hv3.len,hlt',r1,q9,r9]
  refine⟨o9.keeps,?_⟩
  unfold dA
  rw[if_neg (by simp[aQ];omega)]
  refine⟨_,rfl,u,w,bo,wo,vs,fr,rfl,?_,by simpa[aQ,←hie] using hu,by rw[hvs];exact hw',by simpa[aQ,bE] using hrows⟩
  have o10:Own aA H K9 ((wo,.arr 80 vs)::(bo,.arr 4 ((KS.map a).map aK))::fr):=o9.sub (.cons_cons _ (.cons_cons _ (.cons _ (.cons _ (.cons _ (.cons _ (List.Sublist.refl _)))))))
  exact o10.perm (List.Perm.swap _ _ _)

theorem aP3 {κ:Type} [DecidableEq κ] (enc:κ→List BV) (h1:∀k,(enc k).length=2∧∀c∈enc k,c.one=true) (he:∀k l,bK 5 (.agg (enc k)) (.agg (enc l))=some (decide (k=l))) (t:Nat) (ht:t≤3) (s:κ) (lim:Nat)
  (fa fn:Nat) (ca cn:List BV) (nx:κ→Nat→κ) (a:κ→Bool) (U:List κ) (hU:Closed (wd t) nx s U) (hUl:U.length≤1000000000) (H:BH)
  (ha:∀K,H.Keeps K→∀k∈U,FnDoes (gam aA) fa (.agg (enc k)::ca) K fun v _=>v=.bool (a k)) (hn:∀K,H.Keeps K→∀k∈U,∀c,c<wd t→FnDoes (gam aA) fn (.agg (enc k)::aB c::cn) K fun v _=>v=.agg (enc (nx k c))):FnDoes (gam aA) 243 [aB t,.agg (enc s),aB lim,.fn fa ca,.fn fn cn] H fun v K=>dA aA H t lim (aQ (wd t) nx a (aH (succs (wd t) nx) s U.length)) v K:=by
 refine FnDoes.of (fn:=ir243) rfl ?_
 obtain⟨KS,hKS⟩:∃KS,KS=aH (succs (wd t) nx) s U.length:=⟨_,rfl⟩
 have hdone:=hU.done
 have hKl:KS.length≤U.length:=by rw[hKS];exact hU.len _
 rw[←hKS]
 have hw:=eQ ht
 have h2:∀k,(enc k).length=2:=fun k=>(h1 k).1
 have h3:∀k,∀c∈enc k,c.one=true:=fun k=>(h1 k).2
 have h4:∀k,(enc k).all BV.one=true:=fun k=>List.all_eq_true.2 (h3 k)
 have hk:∀k,pV 5 (.agg (enc k))=true:=fun k=>by simp[pV,h2]
 have h5:∀ks:List κ,∀x∈ks.map enc,x.length=2:=fun ks x hx=>by
  obtain⟨k,_,rfl⟩:=List.mem_map.1 hx
  exact h2 k
 simp[ir243,h4,-List.all_eq_true]
 intro n6 b6 f6
 simp[aC f6 b6,h4,-List.all_eq_true]
 intro n10 b10 f10
 simp[aC f10 b10]
 intro n12 b12 f12
 have o1:=Own.start (aA:=aA) (H:=H) |>.new f6 b6 (s:=.arr 212 (enc s)) |>.new f10 b10 (s:=.arr 77 [.int .i64 0,.int .i64 0,.nils,.nils]) |>.new f12 b12 (s:=.arr 77 [.int .i64 0,.int .i64 0,.nils,.nils])
 obtain⟨K2,g2,o2⟩:=o1.putAll 0 (b:=n12) (n:=4) (ds:=[aB t,.int .i64 0,.nils,.nils]) rfl rfl rfl rfl (rt:=none) rfl
 simp[aC f12 b12,g2]
 intro n13 b13 f13
 have o3:=o2.new f13 b13 (s:=.mp (bI (fun k=>BV.agg (enc k)) [] 0))
 have r6:=aI (o3.at 3 (b:=n6) rfl) (n:=2) (rt:=none) (h2 s) rfl
 obtain⟨K3,g3,o4⟩:=o3.mset 0 (ks:=[]) rfl he hk (k:=s) (by simp)
 have g3':(K2.set n13 (.mp [])).msetv aA 5 (.mp n13) (.agg (enc s)) (.int .i64 0)=some K3:=g3
 have r6':(K2.set n13 (.mp [])).rd none (some 2) (.ptr n6 0)=some (.agg (enc s)):=r6
 have r7:=aI (o4.at 3 (b:=n6) rfl) (n:=2) (rt:=none) (h2 s) rfl
 simp[aC f13 b13,r6',g3',r7,h2,h4,-List.all_eq_true]
 intro n14 b14 f14
 have o5:=o4.new f14 b14 (s:=.arr 212 (enc s)) |>.sub (M:=[(some n14,.arr 212 (enc s)),(some n13,.mp (bI (fun k=>BV.agg (enc k)) [s] 0)),(some n12,.arr 77 [aB t,.int .i64 0,.nils,.nils]),(some n10,.arr 77 [.int .i64 0,.int .i64 0,.nils,.nils])])
  (.cons_cons _ (.cons_cons _ (.cons_cons _ (.cons_cons _ (.cons _ .slnil)))))
 simp[aC f14 b14,List.drop_eq_nil_of_le,h2]
 have mono:∀i,aH (succs (wd t) nx) s i <+: KS∨U.length≤i:=fun i=>by
  rcases Nat.le_total i U.length with h|h
  ·exact .inl (by rw[hKS];exact fC h)
  ·exact .inr h
 have pre:∀i,aH (succs (wd t) nx) s i <+: KS:=fun i=>by
  rcases mono i with h|h
  ·exact h
  ·rw[hdone.eq h,hKS];exact List.prefix_refl _
 obtain⟨I,hI⟩:∃I:Nat→Env→BH→Prop,I=(fun i e K=>e 15=aB i∧∃v3 u w b3 bo wo vs fr,e 14=v3∧i≤(aH (succs (wd t) nx) s i).length∧(lim=0∨(aH (succs (wd t) nx) s i).length≤lim) ∧
   Own aA H K ([(wo,.arr 80 vs),(bo,.arr 4 (((KS.take i).map a).map aK)),(b3,.arr 212 ((aH (succs (wd t) nx) s i).map enc).flatten),(some n13,.mp (bI (fun k=>BV.agg (enc k)) (aH (succs (wd t) nx) s i) 0)),
    (some n12,.arr 77 [aB t,.int .i64 0,u,w]),(some n10,.arr 77 [.int .i64 0,.int .i64 0,.nils,.nils])]++fr) ∧
   Vec b3 v3 (aH (succs (wd t) nx) s i).length∧Vec bo u i∧Vec wo w i∧vs.length=i∧RowsOf 3 vs fr (((KS.take i).map fun k=>bE KS nx k (wd t)).map (·.map aB))):=⟨_,rfl⟩
 refine aE U.length [(0,aB t),(2,aB lim),(3,.fn fa ca),(4,.fn fn cn),(10,.ptr n10 0),(12,.ptr n12 0),(13,.mp n13)] I (i0:=0) ?_ ?_ ?_ (Nat.zero_le _) ?_
 ·rfl
 ·simp
 ·rw[hI]
  refine⟨rfl,.sl n14 0 1,.nils,.nils,some n14,none,none,[],[],rfl,Nat.zero_le _,?_,by simpa[aH] using (o5.nil (.arr 4 [])).nil (.arr 80 []),rfl,Vec.none,Vec.none,rfl,trivial⟩
  simp[aH];omega
 rintro i e K hi ⟨e0,e2,e3,e4,e10,e12,e13,-⟩ hh
 rw[hI] at hh
 obtain⟨e15,v3,u,w,b3,bo,wo,vs,fr,e14,hil,hlim,o,hv3,hu,hw',hvs,hrows⟩:=hh
 simp only[] at e0 e2 e3 e4 e10 e12 e13
 by_cases hlt:i<(aH (succs (wd t) nx) s i).length
 ·-- a further row
  have hiN:i<U.length:=Nat.lt_of_lt_of_le hlt (hU.len i)
  obtain⟨k,hkk⟩:∃k,(aH (succs (wd t) nx) s i)[i]?=some k:=⟨_,List.getElem?_eq_getElem hlt⟩
  have hkU:k∈U:=hU.met i k (List.mem_of_getElem? hkk)
  have hKSi:KS[i]?=some k:=by
   obtain⟨r,hr⟩:=pre i
   rw[←hr,List.getElem?_append_left hlt]
   exact hkk
  have hiKS:i<KS.length:=(List.getElem?_eq_some_iff.1 hKSi).1
  have hnext:aH (succs (wd t) nx) s (i+1)=lsU (aH (succs (wd t) nx) s i) nx k (wd t):=by rw[aH,hkk];rfl
  have hpre:∀c,c≤wd t→lsU (aH (succs (wd t) nx) s i) nx k c <+: KS:=fun c hc=>(gZ hc).trans (by rw[←hnext];exact pre (i+1))
  have hrd:=(o.ownZ 2 rfl (v:=v3) (by simpa using hv3) (h5 _)).sls.rd (i:=i) (x:=enc k) (by rw[List.getElem?_map,hkk];rfl) (rt:=none) rfl
  have wi:=wS (n:=i) (by omega)
  simp[e0,e2,e3,e4,e10,e12,e13,e14,e15,hv3.isSl,hv3.len,hlt,hrd]
  intro n16 b16 f16
  obtain⟨K6,p6,o6⟩:=(o.new f16 b16 (s:=.arr 212 [.int .i64 0,.int .i64 0])).putAll 0 (b:=n16) (n:=2) (ds:=enc k) rfl (h2 k) rfl (h4 k) (rt:=none) rfl
  simp[aC f16 b16,p6]
  obtain⟨J,hJ⟩:∃J:Nat→Env→BH→Prop,J=(fun c e K=>e 18=aB c∧∃v3 v17 b3 b17,e 14=v3∧e 17=v17∧(lim=0∨(lsU (aH (succs (wd t) nx) s i) nx k c).length≤lim) ∧
    Own aA H K ([(b17,.arr 3 ((bE KS nx k c).map aB)),(some n16,.arr 212 (enc k)),(wo,.arr 80 vs),(bo,.arr 4 (((KS.take i).map a).map aK)),(b3,.arr 212 ((lsU (aH (succs (wd t) nx) s i) nx k c).map enc).flatten),(some n13,.mp (bI (fun k=>BV.agg (enc k)) (lsU (aH (succs (wd t) nx) s i) nx k c) 0)),
     (some n12,.arr 77 [aB t,.int .i64 0,u,w]),(some n10,.arr 77 [.int .i64 0,.int .i64 0,.nils,.nils])]++fr) ∧
    Vec b3 v3 (lsU (aH (succs (wd t) nx) s i) nx k c).length∧Vec b17 v17 c):=⟨_,rfl⟩
  refine aE (wd t) [(0,aB t),(2,aB lim),(3,.fn fa ca),(4,.fn fn cn),(10,.ptr n10 0),(12,.ptr n12 0),(13,.mp n13),(15,aB i),(16,.ptr n16 0)] J (i0:=0) ?_ ?_ ?_ (Nat.zero_le _) ?_
  ·rfl
  ·simp[e0,e2,e3,e4,e10,e12,e13,e15]
  ·rw[hJ]
   exact⟨by simp,v3,.nils,b3,none,by simp[e14],by simp,hlim,o6.nil _,hv3,Vec.none⟩
  clear e0 e2 e3 e4 e10 e12 e13 e14 e15 o hv3 hrd o6 p6
  rintro c e K hc ⟨e0,e2,e3,e4,e10,e12,e13,e15,e16,-⟩ hh
  rw[hJ] at hh
  obtain⟨e18,v3,v17,b3,b17,e14,e17,hlim,o,hv3,hv17⟩:=hh
  simp only[] at e0 e2 e3 e4 e10 e12 e13 e15 e16
  simp[e0,e18]
  refine aN (dM t K (by omega)) ?_
  by_cases hcw:c<wd t
  ·have r16:=aI (o.at 1 (b:=n16) rfl) (n:=2) (rt:=none) (h2 k) rfl
   simp[hcw,e4,e16,e18,r16]
   refine(hn K o.keeps k hkU c hcw).step fun v K1 k1 hv=>?_
   subst hv
   have o1:=o.call k1
   obtain⟨ls,hls⟩:∃ls,ls=lsU (aH (succs (wd t) nx) s i) nx k c:=⟨_,rfl⟩
   have hlsp:=hpre c hc
   have hlsp1:=hpre (c+1) hcw
   have hsu:lsU (aH (succs (wd t) nx) s i) nx k (c+1)=bF ls (nx k c):=by rw[fH,←hls]
   rw[←hls] at o1 hv3 hlim hlsp
   rw[hsu] at hlsp1
   have hll:=hlsp.length_le
   simp
   intro n19 b19 f19
   obtain⟨K7,p7,o7⟩:=(o1.new f19 b19 (s:=.arr 212 [.int .i64 0,.int .i64 0])).putAll 0 (b:=n19) (n:=2) (ds:=enc (nx k c)) rfl (h2 _) rfl (h4 _) (rt:=none) rfl
   have r19:=aI (o7.at 0 (b:=n19) rfl) (n:=2) (rt:=none) (h2 (nx k c)) rfl
   simp[aC f19 b19,p7,r19]
   clear o1
   have o1:=o7.tail
   have hlk:=o1.look 5 (ks:=ls) rfl he hk (nx k c)
   have hlk':K7.mlook 5 true (.int .i64 0) (.mp n13) (.agg (enc (nx k c)))=some (.tup [if nx k c∈ls then aB (pos ls (nx k c)) else .int .i64 0,.bool (decide (nx k c∈ls))]):=hlk
   simp[e13,hlk']
   have wc:=wS (n:=c) (by omega)
   by_cases hm:nx k c∈ls
   ·have hpos:pos ls (nx k c)=pos KS (nx k c):=(cH hlsp hm).symm
    have hadd:bF ls (nx k c)=ls:=by unfold bF;rw[if_pos hm]
    simp[hm,hpos,e17]
    intro n1 b1 f1
    simp[aC f1 b1]
    intro n2 b2 f2
    obtain⟨v',K',b',q1,q2,q3⟩:=o1.push 0 rfl (by simpa[aG] using hv17) (x:=aB (pos KS (nx k c))) (bytes:=8) rfl (by simp[aG];omega) (by simp[aG];omega) f1 b1 f2 b2
    simp[q1,e18,wc,hcw]
    rw[hJ]
    simp only[hsu,hadd]
    exact⟨by simp,v3,v',b3,some b',by simp[e14],by simp,hlim,by simpa[bA] using q2,hv3,by simpa[aG] using q3⟩
   ·have hpos:ls.length=pos KS (nx k c):=by rw[←dR hm];exact(cH hlsp1 (mem_addK.2 (.inr rfl))).symm
    have hadd:bF ls (nx k c)=ls++[nx k c]:=by unfold bF;rw[if_neg hm]
    rw[hadd] at hlsp1
    have hl1:=hlsp1.length_le
    simp at hl1
    simp[hm,e14,hv3.isSl,hv3.len,e13,r19]
    obtain⟨K2,q1,o2'⟩:=o7.mset 6 (ks:=ls) rfl he hk hm
    have q1':K7.msetv aA 5 (.mp n13) (.agg (enc (nx k c))) (.int .i64 (ls.length:Nat))=some K2:=q1
    have r20:=aI (o2'.at 0 (b:=n19) rfl) (n:=2) (rt:=none) (h2 (nx k c)) rfl
    have o2:=o2'.tail
    simp[q1',r20,h2,h4,-List.all_eq_true]
    intro n1 b1 f1
    simp[aC f1 b1,List.drop_eq_nil_of_le,h2]
    intro n2 b2 f2
    obtain⟨v',K',b',q1,o3,q3⟩:=o2.pushZ 4 (xs:=ls.map enc) rfl (v:=v3) (by simpa using hv3) (h5 _) (x:=enc (nx k c)) (bytes:=16) (h2 _) (h3 _) (by omega) (by simp;omega) (by simp;omega) f1 b1 f2 b2
    have hv':v'=.sl b' 0 (ls.length+1):=by simpa[Vec] using q3
    subst hv'
    simp[q1,e2,e14]
    have o3':Own aA H K' ([(b17,.arr 3 ((bE KS nx k c).map aB)),(some n16,.arr 212 (enc k)),(wo,.arr 80 vs),(bo,.arr 4 (((KS.take i).map a).map aK)),(some b',.arr 212 ((ls++[nx k c]).map enc).flatten),(some n13,.mp (bI (fun k=>BV.agg (enc k)) (ls++[nx k c]) 0)),
      (some n12,.arr 77 [aB t,.int .i64 0,u,w]),(some n10,.arr 77 [.int .i64 0,.int .i64 0,.nils,.nils])]++fr):=by simpa using o3
    by_cases hl0:0<lim
    ·by_cases hov:lim<ls.length+1
     ·-- too many
      obtain⟨K9,q9,o9⟩:=o3'.putAll 7 (b:=n10) (n:=4) (ds:=[.int .i64 0,.int .i64 0,.nils,.nils]) rfl rfl rfl rfl (rt:=none) rfl
      have hov':(lim:Int)<(ls.length:Int)+1:=by omega
      have r9:=aI (o9.at 7 rfl) (n:=4) (rt:=none) rfl rfl
      simp[hl0,hov',e2,e10,q9,r9]
      refine⟨o9.keeps,?_⟩
      unfold dA
      rw[if_pos ⟨hl0,by simp[aQ];omega⟩]
      rfl
     ·have hov':¬(lim:Int)<(ls.length:Int)+1:=by omega
      simp[hl0,hov',e2,e17]
      intro n3 b3' f3
      simp[aC f3 b3']
      intro n4 b4 f4
      obtain⟨v'',K'',b'',p1,p2,p3⟩:=o3'.push 0 rfl (by simpa[aG] using hv17) (x:=aB ls.length) (bytes:=8) rfl (by simp[aG];omega) (by simp[aG];omega) f3 b3' f4 b4
      simp[p1,e18,wc,hcw]
      rw[hJ]
      simp only[hsu,hadd]
      exact⟨by simp,.sl b' 0 (ls.length+1),v'',some b',some b'',by simp,by simp,.inr (by simp;omega),by rw[bA,←hpos];simpa using p2,by simpa using q3,by simpa[aG] using p3⟩
    ·have hl0':lim=0:=by omega
     subst hl0'
     simp[e17]
     intro n3 b3' f3
     simp[aC f3 b3']
     intro n4 b4 f4
     obtain⟨v'',K'',b'',p1,p2,p3⟩:=o3'.push 0 rfl (by simpa[aG] using hv17) (x:=aB ls.length) (bytes:=8) rfl (by simp[aG];omega) (by simp[aG];omega) f3 b3' f4 b4
     simp[p1,e18,wc,hcw]
     rw[hJ]
     simp only[hsu,hadd]
     exact⟨by simp,.sl b' 0 (ls.length+1),v'',some b',some b'',by simp,by simp,.inl (by trivial),by rw[bA,←hpos];simpa using p2,by simpa using q3,by simpa[aG] using p3⟩
  ·have:c=wd t:=by omega
   subst this
   rw[←hnext] at o hv3 hlim
   have r16:=aI (o.at 1 (b:=n16) rfl) (n:=2) (rt:=none) (h2 k) rfl
   have u1:=aD (o.at 6 rfl) (rt:=some 77) (j:=2) (c:=u) rfl rfl
   simp[e12,e3,e16,u1,r16]
   refine(ha K o.keeps k hkU).step fun v K1 k1 hv=>?_
   subst hv
   have o1:=o.call k1
   simp
   intro n1 b1 f1
   simp[aC f1 b1]
   intro n2 b2 f2
   have hti:(KS.take i).length=i:=by simp;omega
   obtain⟨v',K2,b',q1,o2,q3⟩:=o1.push 3 rfl (v:=u) (by simp only[List.length_map,hti];exact hu) (x:=aK (a k)) (bytes:=1) rfl (by simp;omega) (by simp;omega) f1 b1 f2 b2
   obtain⟨K3,q2,o3⟩:=o2.put 6 rfl (j:=2) (u:=v') (by simp) q3.one (rt:=none) rfl
   simp[q1,q2,e12]
   have u2:=aD (o3.at 6 rfl) (rt:=none) (j:=3) (c:=w) rfl rfl
   simp[u2,e17]
   have h17:=hv17.one
   simp[h17,cells_one h17]
   intro n3 b3' f3
   simp[aC f3 b3']
   intro n4 b4 f4
   obtain⟨w',K4,c',p1,o4,p3⟩:=o3.push 2 rfl (v:=w) (by rw[hvs];exact hw') (x:=v17) (bytes:=24) h17 (by omega) (by omega) f3 b3' f4 b4
   obtain⟨K5,p2,o5⟩:=o4.put 6 rfl (j:=3) (u:=w') (by simp) p3.one (rt:=none) rfl
   simp[p1,p2,e12,e15,wi,hiN]
   rw[hI]
   have hta:(KS.take (i+1)).map a=(KS.take i).map a++[a k]:=by rw[List.take_add_one,hKSi];simp
   have htr:((KS.take (i+1)).map fun k=>bE KS nx k (wd t)).map (·.map aB)=((KS.take i).map fun k=>bE KS nx k (wd t)).map (·.map aB)++[(bE KS nx k (wd t)).map aB]:=by rw[List.take_add_one,hKSi];simp
   have hin:i+1≤(aH (succs (wd t) nx) s (i+1)).length:=by
    have:=(iF (sx:=succs (wd t) nx) (s:=s) i).length_le
    omega
   refine⟨by simp,v3,v',w',b3,some b',some c',vs++[v17],fr++[(b17,.arr 3 ((bE KS nx k (wd t)).map aB))],by simp[e14],hin,hlim,?_,hv3,?_,?_,by simp[hvs],?_⟩
   ·refine Own.last (F:=[(some c',.arr 80 (vs++[v17])),(some b',.arr 4 (((KS.take (i+1)).map a).map aK)),(b3,.arr 212 ((aH (succs (wd t) nx) s (i+1)).map enc).flatten),(some n13,.mp (bI (fun k=>BV.agg (enc k)) (aH (succs (wd t) nx) s (i+1)) 0)),
     (some n12,.arr 77 [aB t,.int .i64 0,v',w']),(some n10,.arr 77 [.int .i64 0,.int .i64 0,.nils,.nils])]) ?_
    rw[hta]
    have o6:=o5.sub (.cons_cons _ (.cons _ (List.Sublist.refl _)))
    simpa using o6
   ·simp only[List.length_map,hti] at q3
    exact q3
   ·simpa[hvs] using p3
   ·rw[htr]
    exact hrows.snoc (by simpa[aG] using hv17)
 ·-- all rows are made
  have hie:i=(aH (succs (wd t) nx) s i).length:=by omega
  have hdi:Done (wd t) nx s i:=by unfold Done DoneL;omega
  have hKi:aH (succs (wd t) nx) s i=KS:=by
   rw[hKS]
   exact DoneL.same hdi hdone
  rw[hKi] at hie hlim o
  have htk:KS.take i=KS:=by rw[hie,List.take_length]
  rw[htk] at o hrows
  have r1:=aI (o.at 4 rfl) (n:=4) (rt:=none) rfl rfl
  obtain⟨K9,q9,o9⟩:=o.putAll 5 (b:=n10) (n:=4) (ds:=[aB t,.int .i64 0,u,w]) rfl rfl rfl (by simp[hu.one,hw'.one]) (rt:=none) rfl
  have r9:=aI (o9.at 5 rfl) (n:=4) (rt:=none) rfl rfl
  have hlt':¬i<(aH (succs (wd t) nx) s i).length:=hlt
  simp[e0,e2,e3,e4,e10,e12,e13,e14,e15,hv3.isSl,hv3.len,hlt',r1,q9,r9]
  refine⟨o9.keeps,?_⟩
  unfold dA
  rw[if_neg (by simp[aQ];omega)]
  refine⟨_,rfl,u,w,bo,wo,vs,fr,rfl,?_,by simpa[aQ,←hie] using hu,by rw[hvs];exact hw',by simpa[aQ,bE] using hrows⟩
  have o10:Own aA H K9 ((wo,.arr 80 vs)::(bo,.arr 4 ((KS.map a).map aK))::fr):=o9.sub (.cons_cons _ (.cons_cons _ (.cons _ (.cons _ (.cons _ (.cons _ (List.Sublist.refl _)))))))
  exact o10.perm (List.Perm.swap _ _ _)
theorem i_itoa(n:Nat)(hn:n≤4611686018427387904)(H:BH):Runs (gam aA) 210 [aB n] H (.str ⟨(Lib.decDigits n).toArray⟩) H:=by first|exact⟨1,.inr ⟨rfl,n,hn,rfl,rfl,rfl⟩⟩|exact⟨1,.inr (.inl ⟨rfl,n,hn,rfl,rfl,rfl⟩)⟩|exact⟨1,.inr (.inl (.inl ⟨rfl,n,hn,rfl,rfl,rfl⟩))⟩
theorem Rd.slice{H:BH}{ty:Nat}{v:BV}{cs:List BV}(h:Rd H ty v cs)(hp:0<cs.length):∃b o,v=.sl b o cs.length:=by
 have h1:=h.isSl
 have h2:=h.len
 cases v<;>simp[BV.isSl,BV.slen] at h1 h2
 ·omega
 ·rename_i b o n;exact⟨b,o,by rw[h2]⟩
 ·omega
theorem sB(bs:List Bool)(u:BV)(H:BH)(h:Rd H 4 u (bs.map aK))(hp:0<bs.length)(hn:bs.length≤1000000000):FnDoes (gam aA) 106 [u] H fun v K=>∃bo,OwnV aA K 4 v (bs.map aK) bo∧Fr H bo:=by
 refine FnDoes.of (fn:=ir106) rfl ?_
 obtain⟨b,o,rfl⟩:=h.slice (by simpa using hp)
 simp[ir106]
 intro n1 b1 f1
 simp[aC f1 b1]
 intro n2 b2 f2
 have o1:=Own.start (aA:=aA) (H:=H) |>.new f1 b1 (s:=.arr 4 [])
 obtain⟨v',K',bo,g1,g2,g3⟩:=o1.app 0 rfl (bo:=some n1) (cs:=[]) (v:=.sl n1 0 0) rfl (vy:=.sl b o (bs.map aK).length) (new:=bs.map aK) (bytes:=1) (Rd.cells (h.keeps o1.keeps) (by simpa using hp)) (fun c hc=>by obtain⟨b,_,rfl⟩:=List.mem_map.1 hc;rfl) (by simp;omega) (by simp;omega) f2 b2
 simp only[List.length_map] at g1
 simp[g1]
 exact⟨g2.keeps,bo,by simpa using g2.vec 0 rfl g3,fun b hb=>by subst hb;exact g2.fr 0 rfl⟩
def RdRel(H:BH)(t s:Nat)(A:Aut)(m:BV):Prop:=∃u w,m=.agg [aB t,aB s,u,w]∧Rd H 4 u (A.y.map aK)∧RdR H 36 2 w aB A.nxt
theorem RdRel.keeps{H K:BH}{t s:Nat}{A:Aut}{m:BV}(h:RdRel H t s A m)(k:H.Keeps K):RdRel K t s A m:=by
 obtain⟨u,w,h1,h2,h3⟩:=h
 exact⟨u,w,h1,h2.keeps k,h3.keeps k⟩
theorem xI(t s w:Nat)(A:Aut)(m:BV)(H:BH)(h:RdRel H t s A m)(hw:w≤1000000)(hok:A.Ok w)(hn:A.y.length≤1000000):FnDoes (gam aA) 60 [m] H fun v K=>OwnM aA H K t s A v:=by
 refine FnDoes.of (fn:=ir60) rfl ?_
 obtain⟨u,x,rfl,hu,hx⟩:=h
 have u1:=hu.one
 have x1:=aF hx.isSl
 simp[ir60,u1,x1]
 intro n1 b1 f1
 simp[aC f1 b1]
 intro n2 b2 f2
 simp[aC f2 b2]
 have o1:=Own.start (aA:=aA) (H:=H) |>.new f1 b1 (s:=.arr 25 [aB t,aB s,u,x]) |>.new f2 b2 (s:=.arr 77 [.int .i64 0,.int .i64 0,.nils,.nils])
 have r0:=fun rt h=>aD (o1.at 1 (b:=n1) rfl) (rt:=rt) (j:=0) (c:=aB t) h rfl
 have r1:=fun rt h=>aD (o1.at 1 (b:=n1) rfl) (rt:=rt) (j:=1) (c:=aB s) h rfl
 have r2:=fun rt h=>aD (o1.at 1 (b:=n1) rfl) (rt:=rt) (j:=2) (c:=u) h rfl
 have r0:=r0 (some 25) rfl
 have r1:=r1 (some 25) rfl
 have r2:=r2 none rfl
 simp[r0,r1,r2]
 refine(sB (aA:=aA) A.y u _ (hu.keeps o1.keeps) hok.pos (by omega)).step fun v K1 k1 hv=>?_
 obtain⟨bo,hv,hfr⟩:=hv
 have o2:=o1.take k1 hv hfr
 have v1:=hv.rd.one
 simp[v1,cells_one v1]
 intro n3 b3 f3
 obtain⟨K2,g2,o3⟩:=(o2.new f3 b3 (s:=.arr 77 [.int .i64 0,.int .i64 0,.nils,.nils])).putAll 0 (b:=n3) (n:=4) (ds:=[aB t,aB s,v,.nils]) rfl rfl rfl (by simp[v1]) (rt:=none) rfl
 have r3:=aD (o3.at 3 (b:=n1) rfl) (rt:=none) (j:=3) (c:=x) rfl rfl
 simp[aC f3 b3,g2,r3,hx.isSl,hx.len]
 obtain⟨I,hI⟩:∃I:Nat→Env→BH→Prop,I=(fun i e K=>e 20=aB i∧∃z wo vs fr,Own aA H K ([(wo,.arr 80 vs),(some n3,.arr 77 [aB t,aB s,v,z]),(bo,.arr 4 (A.y.map aK)),(some n2,.arr 77 [.int .i64 0,.int .i64 0,.nils,.nils])]++fr) ∧
  Vec wo z i∧vs.length=i∧RowsOf 3 vs fr ((A.nxt.take i).map (·.map aB))):=⟨_,rfl⟩
 refine aE A.nxt.length [(2,.ptr n2 0),(3,.ptr n3 0),(18,x),(19,aB A.nxt.length)] I (i0:=0) ?_ ?_ ?_ (Nat.zero_le _) ?_
 ·rfl
 ·simp
 ·rw[hI]
  refine⟨rfl,.nils,none,[],[],?_,Vec.none,rfl,trivial⟩
  have o4:=o3.sub (M:=[(some n3,.arr 77 [aB t,aB s,v,.nils]),(bo,.arr 4 (A.y.map aK)),(some n2,.arr 77 [.int .i64 0,.int .i64 0,.nils,.nils])]) (.cons_cons _ (.cons_cons _ (.cons_cons _ (.cons _ .slnil))))
  simpa using o4.nil (.arr 80 [])
 rintro i e K hi ⟨e2,e3,e18,e19,-⟩ hh
 rw[hI] at hh
 obtain⟨e20,z,wo,vs,fr,o,hz,hvs,hrows⟩:=hh
 simp only[] at e2 e3 e18 e19
 have wi:=wS (n:=i) (by have:=hok.len;omega)
 by_cases hlt:i<A.nxt.length
 ·obtain⟨ri,hri,hrr⟩:=hx.at hlt
  have hrr:=aJ o.keeps (hrr none rfl)
  have hrw:=(hok.row _ (List.getElem_mem hlt)).1
  simp[e18,e19,e20,hlt,hx.isSl,hx.len,hrr,hri.isSl,hri.lenM]
  obtain⟨J,hJ⟩:∃J:Nat→Env→BH→Prop,J=(fun j e K=>e 26=aB j∧∃y yo,e 6=y∧Own aA H K ([(yo,.arr 3 ((A.nxt[i].take j).map aB)),(wo,.arr 80 vs),(some n3,.arr 77 [aB t,aB s,v,z]),(bo,.arr 4 (A.y.map aK)),(some n2,.arr 77 [.int .i64 0,.int .i64 0,.nils,.nils])]++fr)∧Vec yo y j):=⟨_,rfl⟩
  refine aE A.nxt[i].length [(2,.ptr n2 0),(3,.ptr n3 0),(18,x),(19,aB A.nxt.length),(20,aB i),(24,ri),(25,aB A.nxt[i].length)] J (i0:=0) ?_ ?_ ?_ (Nat.zero_le _) ?_
  ·rfl
  ·simp[e2,e3,e18,e19,e20]
  ·rw[hJ]
   exact⟨by simp,.nils,none,by simp,o.nil _,Vec.none⟩
  clear e2 e3 e18 e19 e20
  rintro j e M hj ⟨e2,e3,e18,e19,e20,e24,e25,-⟩ hh
  rw[hJ] at hh
  obtain⟨e26,y,yo,e6,oM,hy⟩:=hh
  simp only[] at e2 e3 e18 e19 e20 e24 e25
  have wj:=wS (n:=j) (by omega)
  by_cases hlj:j<A.nxt[i].length
  ·have hrj:=(hri.keeps oM.keeps).at hlj (rt:=none) rfl
   simp[e24,e25,e26,hlj,hri.isSl,hri.lenM,hrj,e6]
   intro n6 b6 f6
   simp[aC f6 b6]
   intro n7 b7 f7
   have htl:(A.nxt[i].take j).length=j:=by simp;omega
   obtain⟨y',M',yo',q1,q2,q3⟩:=oM.push 0 rfl (v:=y) (by simp only[List.length_map,htl];exact hy) (x:=aB A.nxt[i][j]) (bytes:=8) rfl (by simp;omega) (by simp;omega) f6 b6 f7 b7
   simp[q1,e26,wj,hlj]
   rw[hJ]
   refine⟨by simp,y',some yo',by simp,?_,by simp only[List.length_map,htl] at q3;exact q3⟩
   rw[List.take_add_one,List.getElem?_eq_getElem hlj,List.map_append]
   exact q2
  ·have:j=A.nxt[i].length:=by omega
   subst this
   rw[List.take_length] at oM
   have u1:=aD (oM.at 2 (b:=n3) rfl) (rt:=none) (j:=3) (c:=z) rfl rfl
   have hy1:=hy.one
   simp[e24,e25,e26,e3,u1,e6,hy1,cells_one hy1]
   intro n8 b8 f8
   simp[aC f8 b8]
   intro n9 b9 f9
   obtain⟨z',M',wo',q1,o5,q3⟩:=oM.push 1 rfl (v:=z) (by rw[hvs];exact hz) (x:=y) (bytes:=24) hy1 (by have:=hok.len;omega) (by have:=hok.len;omega) f8 b8 f9 b9
   obtain⟨M2,p2,o6⟩:=o5.put 2 (b:=n3) rfl (j:=3) (u:=z') (by simp) q3.one (rt:=none) rfl
   simp[q1,e3,p2,e20,wi,hlt]
   rw[hI]
   refine⟨by simp,z',some wo',vs++[y],fr++[(yo,.arr 3 (A.nxt[i].map aB))],?_,by rw[hvs] at q3;exact q3,by simp[hvs],?_⟩
   ·exact Own.last (F:=[(some wo',.arr 80 (vs++[y])),(some n3,.arr 77 [aB t,aB s,v,z']),(bo,.arr 4 (A.y.map aK)),(some n2,.arr 77 [.int .i64 0,.int .i64 0,.nils,.nils])]) (by simpa using o6)
   ·rw[List.take_add_one,List.getElem?_eq_getElem hlt,List.map_append]
    exact hrows.snoc (by simpa using hy)
 ·have hie:i=A.nxt.length:=by omega
  subst hie
  rw[List.take_length] at hrows
  have r1:=aI (o.at 1 (b:=n3) rfl) (n:=4) (rt:=none) rfl rfl
  obtain⟨K9,q9,o9⟩:=o.putAll 3 (b:=n2) (n:=4) (ds:=[aB t,aB s,v,z]) rfl rfl rfl (by simp[v1,hz.one]) (rt:=none) rfl
  have r9:=aI (o9.at 3 (b:=n2) rfl) (n:=4) (rt:=none) rfl rfl
  simp[e2,e3,e18,e19,e20,r1,q9,r9]
  refine⟨o9.keeps,v,z,bo,wo,vs,fr,rfl,?_,by simpa using hv.vec,by rw[hvs];exact hz,hrows⟩
  have o10:Own aA H K9 ((wo,.arr 80 vs)::(bo,.arr 4 (A.y.map aK))::fr):=o9.sub (.cons_cons _ (.cons _ (.cons_cons _ (.cons _ (List.Sublist.refl _)))))
  exact o10.perm (List.Perm.swap _ _ _)
theorem i_asLongs(xs:List Nat)(u:BV)(H:BH)(h:Rd H 3 u (xs.map aB))(hn:xs.length≤1000000000):FnDoes (gam aA) 168 [u] H fun v K=>∃bo,OwnV aA K 2 v (xs.map aB) bo∧Fr H bo:=by
 refine FnDoes.of (fn:=ir168) rfl ?_
 simp[ir168,h.isSl,h.lenM]
 obtain⟨I,hI⟩:∃I:Nat→Env→BH→Prop,I=(fun i e K=>e 8=aB i∧∃z zo,e 3=z∧Own aA H K [(zo,.arr 2 ((xs.take i).map aB))]∧Vec zo z i):=⟨_,rfl⟩
 refine aE xs.length [(6,u),(7,aB xs.length)] I (i0:=0) ?_ ?_ ?_ (Nat.zero_le _) ?_
 ·rfl
 ·simp
 ·rw[hI]
  exact⟨rfl,.nils,none,rfl,Own.start.nil _,Vec.none⟩
 rintro i e K hi ⟨e6,e7,-⟩ hh
 rw[hI] at hh
 obtain⟨e8,z,zo,e3,o,hz⟩:=hh
 simp only[] at e6 e7
 have wi:=wS (n:=i) (by omega)
 have htl:(xs.take i).length=i:=by simp;omega
 by_cases hlt:i<xs.length
 ·have hr:=(h.keeps o.keeps).at hlt (rt:=none) rfl
  simp[e6,e7,e8,e3,hlt,h.isSl,h.lenM,hr]
  intro n6 b6 f6
  simp[aC f6 b6]
  intro n7 b7 f7
  obtain⟨y',M',yo',q1,q2,q3⟩:=o.push 0 rfl (v:=z) (by simp only[List.length_map,htl];exact hz) (x:=aB xs[i]) (bytes:=8) rfl (by simp;omega) (by simp;omega) f6 b6 f7 b7
  simp[q1,e8,wi,hlt]
  rw[hI]
  refine⟨by simp,y',some yo',by simp,?_,by simp only[List.length_map,htl] at q3;exact q3⟩
  rw[List.take_add_one,List.getElem?_eq_getElem hlt,List.map_append]
  exact q2
 ·have:i=xs.length:=by omega
  subst this
  rw[List.take_length] at o
  simp[e6,e7,e8,e3]
  exact⟨o.keeps,zo,o.vec 0 rfl (by simpa using hz),fun b hb=>by subst hb;exact o.fr 0 rfl⟩
def OwnRel(aA:Nat)(H K:BH)(t s:Nat)(A:Aut)(m:BV):Prop:=∃u w bo wo vs fr,m=.agg [aB t,aB s,u,w]∧Own aA H K ((bo,.arr 4 (A.y.map aK))::(wo,.arr 36 vs)::fr)∧Vec bo u A.y.length∧Vec wo w vs.length ∧
 RowsOf 2 vs fr (A.nxt.map (·.map aB))
theorem OwnRel.rd{H K:BH}{t s:Nat}{A:Aut}{m:BV}(h:OwnRel aA H K t s A m):RdRel K t s A m:=by
 obtain⟨u,w,bo,wo,vs,fr,h1,h2,h3,h4,h5⟩:=h
 exact⟨u,w,h1,h2.rd 0 rfl (by simpa using h3),RowsOf.rdR (bo:=wo) (F:=[(bo,.arr 4 (A.y.map aK)),(wo,.arr 36 vs)]) h2 h5 (h2.rd 1 rfl h4)⟩
theorem OwnRel.keeps{H K L:BH}{t s:Nat}{A:Aut}{m:BV}(h:OwnRel aA H K t s A m)(k:K.Keeps L):OwnRel aA H L t s A m:=by
 obtain⟨u,w,bo,wo,vs,fr,h1,h2,h3⟩:=h
 exact⟨u,w,bo,wo,vs,fr,h1,h2.call k,h3⟩
theorem OwnM.keeps{H K L:BH}{t s:Nat}{A:Aut}{m:BV}(h:OwnM aA H K t s A m)(k:K.Keeps L):OwnM aA H L t s A m:=by
 obtain⟨u,w,bo,wo,vs,fr,h1,h2,h3⟩:=h
 exact⟨u,w,bo,wo,vs,fr,h1,h2.call k,h3⟩
def RelR(aA:Nat)(H:BH)(t:Nat)(r:Option Aut×Nat)(v:BV)(K:BH):Prop:=match r with
 | (some A,c)=>∃m,v=.tup [m,aB c]∧OwnRel aA H K t 0 A m
 | (none,c)=>v=.tup [.agg [aB 0,aB 0,.nils,.nils],aB c]
def told(A:Aut):Option Aut×Nat:=if 150<A.y.length then(none,3) else(some A,0)
theorem aJ6(t w:Nat)(A:Aut)(m:BV)(H:BH)(h:RdM H t 0 A m)(hw:w≤1000000)(hok:A.Ok w):FnDoes (gam aA) 111 [m] H fun v K=>RelR aA H t (told A) v K:=by
 refine FnDoes.of (fn:=ir111) rfl ?_
 obtain⟨u,x,rfl,hu,hx⟩:=h
 have u1:=hu.one
 have x1:=aF hx.isSl
 simp[ir111,u1,x1]
 intro n1 b1 f1
 simp[aC f1 b1]
 intro n2 b2 f2
 have o1:=Own.start (aA:=aA) (H:=H) |>.new f1 b1 (s:=.arr 77 [aB t,aB 0,u,x]) |>.new f2 b2 (s:=.arr 25 [.int .i64 0,.int .i64 0,.nils,.nils])
 have r2:=aD (o1.at 1 (b:=n1) rfl) (rt:=none) (j:=2) (c:=u) rfl rfl
 simp[aC f2 b2,r2,hu.isSl,hu.lenM]
 by_cases hbig:150<A.y.length
 ·have hbig':(150:Int)<A.y.length:=by omega
  obtain⟨K9,q9,o9⟩:=o1.putAll 0 (b:=n2) (n:=4) (ds:=[.int .i64 0,.int .i64 0,.nils,.nils]) rfl rfl rfl rfl (rt:=none) rfl
  have r9:=aI (o9.at 0 (b:=n2) rfl) (n:=4) (rt:=none) rfl rfl
  simp[hbig',q9,r9]
  refine⟨o9.keeps,?_⟩
  unfold told
  rw[if_pos hbig]
  rfl
 have hbig':¬(150:Int)<A.y.length:=by omega
 have hal:A.y.length≤150:=by omega
 have r0:=aD (o1.at 1 (b:=n1) rfl) (rt:=some 77) (j:=0) (c:=aB t) rfl rfl
 have r1:=aD (o1.at 1 (b:=n1) rfl) (rt:=some 77) (j:=1) (c:=aB 0) rfl rfl
 simp[hbig',r0,r1,r2]
 refine(sB (aA:=aA) A.y u _ (hu.keeps o1.keeps) hok.pos (by omega)).step fun v K1 k1 hv=>?_
 obtain⟨bo,hv,hfr⟩:=hv
 have o2:=o1.take k1 hv hfr
 have v1:=hv.rd.one
 simp[v1,cells_one v1]
 intro n3 b3 f3
 obtain⟨K2,g2,o3⟩:=(o2.new f3 b3 (s:=.arr 25 [.int .i64 0,.int .i64 0,.nils,.nils])).putAll 0 (b:=n3) (n:=4) (ds:=[aB t,.int .i64 0,v,.nils]) rfl rfl rfl (by simp[v1]) (rt:=none) rfl
 have r3:=aD (o3.at 3 (b:=n1) rfl) (rt:=none) (j:=3) (c:=x) rfl rfl
 simp[aC f3 b3,g2,r3,hx.isSl,hx.len]
 obtain⟨I,hI⟩:∃I:Nat→Env→BH→Prop,I=(fun i e K=>e 23=aB i∧∃z wo vs fr,Own aA H K ([(wo,.arr 36 vs),(some n3,.arr 25 [aB t,.int .i64 0,v,z]),(bo,.arr 4 (A.y.map aK)),(some n2,.arr 25 [.int .i64 0,.int .i64 0,.nils,.nils])]++fr) ∧
  Vec wo z i∧vs.length=i∧RowsOf 2 vs fr ((A.nxt.take i).map (·.map aB))):=⟨_,rfl⟩
 refine aE A.nxt.length [(2,.ptr n2 0),(4,.ptr n3 0),(21,x),(22,aB A.nxt.length)] I (i0:=0) ?_ ?_ ?_ (Nat.zero_le _) ?_
 ·rfl
 ·simp
 ·rw[hI]
  refine⟨rfl,.nils,none,[],[],?_,Vec.none,rfl,trivial⟩
  have o4:=o3.sub (M:=[(some n3,.arr 25 [aB t,.int .i64 0,v,.nils]),(bo,.arr 4 (A.y.map aK)),(some n2,.arr 25 [.int .i64 0,.int .i64 0,.nils,.nils])]) (.cons_cons _ (.cons_cons _ (.cons_cons _ (.cons _ .slnil))))
  simpa using o4.nil (.arr 36 [])
 rintro i e K hi ⟨e2,e4,e21,e22,-⟩ hh
 rw[hI] at hh
 obtain⟨e23,z,wo,vs,fr,o,hz,hvs,hrows⟩:=hh
 simp only[] at e2 e4 e21 e22
 have hnl:=hok.len
 have wi:=wS (n:=i) (by omega)
 by_cases hlt:i<A.nxt.length
 ·obtain⟨ri,hri,hrr⟩:=hx.at hlt
  have hrr:=aJ o.keeps (hrr none rfl)
  have hrw:=(hok.row _ (List.getElem_mem hlt)).1
  have u1:=aD (o.at 1 (b:=n3) rfl) (rt:=some 25) (j:=3) (c:=z) rfl rfl
  simp[e4,e21,e22,e23,hlt,hx.isSl,hx.len,hrr,u1]
  refine(i_asLongs (aA:=aA) A.nxt[i] ri K (hri.keeps o.keeps) (by omega)).step fun y K3 k3 hy=>?_
  obtain⟨yo,hy,hyf⟩:=hy
  have o4:=o.take k3 hy hyf
  have hy1:=hy.rd.one
  simp[hy1,cells_one hy1]
  intro n8 b8 f8
  simp[aC f8 b8]
  intro n9 b9 f9
  obtain⟨z',M',wo',q1,o5,q3⟩:=o4.push 1 rfl (v:=z) (by rw[hvs];exact hz) (x:=y) (bytes:=24) hy1 (by omega) (by omega) f8 b8 f9 b9
  obtain⟨M2,p2,o6⟩:=o5.put 2 (b:=n3) rfl (j:=3) (u:=z') (by simp) q3.one (rt:=none) rfl
  simp[q1,e4,p2,e23,wi,hlt]
  rw[hI]
  refine⟨by simp,z',some wo',vs++[y],fr++[(yo,.arr 2 (A.nxt[i].map aB))],?_,by rw[hvs] at q3;exact q3,by simp[hvs],?_⟩
  ·exact Own.last (F:=[(some wo',.arr 36 (vs++[y])),(some n3,.arr 25 [aB t,.int .i64 0,v,z']),(bo,.arr 4 (A.y.map aK)),(some n2,.arr 25 [.int .i64 0,.int .i64 0,.nils,.nils])]) (by simpa using o6)
  ·rw[List.take_add_one,List.getElem?_eq_getElem hlt,List.map_append]
   exact hrows.snoc (by simpa using hy.vec)
 ·have hie:i=A.nxt.length:=by omega
  subst hie
  rw[List.take_length] at hrows
  have r1:=aI (o.at 1 (b:=n3) rfl) (n:=4) (rt:=none) rfl rfl
  obtain⟨K9,q9,o9⟩:=o.putAll 3 (b:=n2) (n:=4) (ds:=[aB t,.int .i64 0,v,z]) rfl rfl rfl (by simp[v1,hz.one]) (rt:=none) rfl
  have r9:=aI (o9.at 3 (b:=n2) rfl) (n:=4) (rt:=none) rfl rfl
  simp[e2,e4,e21,e22,e23,r1,q9,r9]
  refine⟨o9.keeps,?_⟩
  unfold told
  rw[if_neg hbig]
  refine⟨_,rfl,v,z,bo,wo,vs,fr,rfl,?_,by simpa using hv.vec,by rw[hvs];exact hz,hrows⟩
  have o10:Own aA H K9 ((wo,.arr 36 vs)::(bo,.arr 4 (A.y.map aK))::fr):=o9.sub (.cons_cons _ (.cons _ (.cons_cons _ (.cons _ (List.Sublist.refl _)))))
  exact o10.perm (List.Perm.swap _ _ _)
def aU:Nat→Nat→Nat
 | 0,_=>0
 | t+1,c=>aU t c ||| (if dg c t=2 then 2^t else 0)
theorem qH:∀(t c:Nat),aU t c<2^t
 | 0,c=>by simp[aU]
 | t+1,c=>by
  unfold aU
  refine Nat.or_lt_two_pow (Nat.lt_trans (qH t c) (Nat.pow_lt_pow_right (by omega) (by omega))) ?_
  split
  ·exact Nat.pow_lt_pow_right (by omega) (by omega)
  ·exact Nat.two_pow_pos _
theorem wO{t:Nat}(ht:t≤3)(c:Nat):aU t c<8:=Nat.lt_of_lt_of_le (qH t c) (Nat.pow_le_pow_right (n:=2) (by omega) ht)
def cB(t:Nat):Nat→List Nat→Bool
 | _,[]=>true
 | m,c::cs=>decide (m &&& aU t c=m)&&cB t (aU t c) cs
def rl(t:Nat)(L:List Nat→Bool)(cs:List Nat):Bool:=cB t 0 cs&&L cs
noncomputable def TA(t:Nat)(L:List Nat→Bool):Aut:=aM9 (wd t) (rl t L)
theorem cP{t:Nat}{L M:List Nat→Bool}(h:∀cs,In (wd t) cs→cB t 0 cs=true→L cs=M cs):TA t L=TA t M:=vZ fun cs hc=>by
 unfold rl
 cases hr:cB t 0 cs with
 | false=>rfl
 | true=>rw[h cs hc hr]
abbrev Pl:=Option (Nat×Nat)
def aT7(t:Nat)(X:Aut):Pl→Nat→Pl
 | none,_=>none
 | some (q,m),c=>if m &&& aU t c=m then some (X.to q c,aU t c) else none
theorem oC(t:Nat)(X:Aut)(q m c:Nat):aT7 t X (some (q,m)) c=if m &&& aU t c=m then some (X.to q c,aU t c) else none:=rfl
def vC(X:Aut):Pl→Bool
 | none=>false
 | some (q,_)=>X.y.getD q false
theorem pl_none(t:Nat)(X:Aut):∀cs,bM (aT7 t X) (vC X) none cs=false
 | []=>rfl
 | c::cs=>pl_none t X cs
theorem aC3(t:Nat)(X:Aut):∀(cs:List Nat) (q m:Nat),bM (aT7 t X) (vC X) (some (q,m)) cs=(cB t m cs&&X.lang q cs)
 | [],q,m=>by simp[bM,vC,cB,Aut.lang,Aut.run]
 | c::cs,q,m=>by
  rw[bW,oC]
  unfold cB
  by_cases h:m &&& aU t c=m
  ·rw[if_pos h,aC3 t X cs,decide_eq_true h]
   rfl
  ·rw[if_neg h,pl_none t X cs,decide_eq_false h]
   rfl
def plU(n:Nat):List Pl:=none::((List.range n).flatMap fun q=>(List.range 8).map fun m=>some (q,m))
theorem aO1(n:Nat):(plU n).length=8*n+1:=by
 have:∀n,((List.range n).flatMap fun q=>(List.range 8).map fun m=>(some (q,m):Pl)).length=8*n:=by
  intro n
  induction n with
  | zero=>rfl
  | succ n ih=>rw[List.range_succ (n:=n),List.flatMap_append,List.length_append,ih];simp;omega
 simp only[plU,List.length_cons,this]
theorem mem_plU{n q m:Nat}:some (q,m)∈plU n↔q<n∧m<8:=by
 simp[plU]
theorem yU{t:Nat}(ht:t≤3){X:Aut}(h:X.Ok (wd t)){s:Nat}(hs:s<X.y.length):Closed (wd t) (aT7 t X) (some (s,0)) (plU X.y.length):=by
 refine⟨mem_plU.2 ⟨hs,by omega⟩,fun k hk c hc=>?_⟩
 cases k with
 | none=>exact List.mem_cons_self
 | some p =>
  obtain⟨q,m⟩:=p
  obtain⟨h1,h2⟩:=mem_plU.1 hk
  rw[oC]
  split
  ·exact mem_plU.2 ⟨h.to h1 hc,wO ht c⟩
  ·exact List.mem_cons_self
section
variable {κ:Type} [DecidableEq κ] {w:Nat} {nx:κ→Nat→κ} {s:κ} {a:κ→Bool}
theorem aF1{ks:List κ}(hp:0<ks.length)(hcl:∀k∈ks,∀c,c<w→nx k c∈ks):(aQ w nx a ks).Ok w:=by
 refine⟨by simp[aQ],by simpa[aQ] using hp,fun r hr=>?_⟩
 simp only[aQ,List.mem_map] at hr
 obtain⟨k,hk,rfl⟩:=hr
 refine⟨by simp,fun q hq=>?_⟩
 simp only[List.mem_map,List.mem_range] at hq
 obtain⟨c,hc,rfl⟩:=hq
 simp only[aQ,List.length_map]
 exact List.idxOf_lt_length_iff.2 (hcl k hk c hc)
theorem mS{ks:List κ}:(aQ w nx a ks).y.length=ks.length:=by simp[aQ]
theorem cN{U:List κ}(hU:Closed w nx s U):(aQ w nx a (aH (succs w nx) s U.length)).Ok w∧(aQ w nx a (aH (succs w nx) s U.length)).y.length≤U.length ∧
  ∀cs,In w cs→(aQ w nx a (aH (succs w nx) s U.length)).lang 0 cs=bM nx a s cs:=by
 have hd:=hU.done
 refine⟨aF1 (List.length_pos_of_mem (bQ _)) fun k hk c hc=>Done.closed hd hk hc,by rw[mS];exact hU.len _,fun cs hcs=>?_⟩
 rw[←rB (a:=a) (fun k hk c hc=>Done.closed hd hk hc) (bQ (sx:=succs w nx) (s:=s) U.length) hcs]
 obtain⟨r,hr⟩:=pN (sx:=succs w nx) (s:=s) U.length
 congr 1
 rw[hr]
 simp[pos]
end
def wL(t:Nat)(X:Aut)(s:Nat):Aut:=aQ (wd t) (aT7 t X) (vC X) (aH (succs (wd t) (aT7 t X)) (some (s,0)) (plU X.y.length).length)
theorem aH3{t:Nat}(ht:t≤3){X:Aut}(h:X.Ok (wd t)){s:Nat}(hs:s<X.y.length):(wL t X s).Ok (wd t)∧(wL t X s).y.length≤8*X.y.length+1∧∀cs,In (wd t) cs→(wL t X s).lang 0 cs=rl t (X.lang s) cs:=by
 obtain⟨h1,h2,h3⟩:=cN (a:=vC X) (yU ht h hs)
 rw[aO1] at h2
 refine⟨h1,?_,fun cs hcs=>(h3 cs hcs).trans (aC3 t X cs s 0)⟩
 unfold wL
 rw[aO1]
 exact h2
def fD(w:Nat)(X:Aut)(G:List Nat)(s:Nat):Aut:=aQ w (nxG X G) (aR8 X G) (aH (succs w (nxG X G)) (G.getD s 0) G.length)
theorem pQ{w:Nat}{X:Aut}{G:List Nat}(m:Merged w X G)(h:X.Ok w){s:Nat}(hs:s<X.y.length):IsTidy w (fD w X G s) (X.lang s):=m.tidy h hs (m.closed h hs).done
theorem wX{w:Nat}{X:Aut}{G:List Nat}(m:Merged w X G)(h:X.Ok w){s:Nat}(hs:s<X.y.length):(fD w X G s).y.length≤X.y.length:=by
 unfold fD
 rw[mS,←m.len]
 exact(m.closed h hs).len _
theorem lM{t:Nat}{X:Aut}{G:List Nat}(m:Merged (wd t) X G)(h:X.Ok (wd t)){s:Nat}(hs:s<X.y.length){L:List Nat→Bool}(hL:∀cs,In (wd t) cs→X.lang s cs=rl t L cs):fD (wd t) X G s=TA t L:=by
 have h1:=pQ m h hs
 rw[h1.eq]
 exact vZ hL
theorem aY{t:Nat}(ht:t≤3){X:Aut}(h:X.Ok (wd t)){s:Nat}(hs:s<X.y.length):IsTidy (wd t) (TA t (X.lang s)) (rl t (X.lang s))∧(TA t (X.lang s)).y.length≤8*X.y.length+1:=by
 obtain⟨h1,h2,h3⟩:=aH3 ht h hs
 obtain⟨k,_,hk,_⟩:=mI h1
 have m:=pP h1 hk
 have e:=lM (L:=X.lang s) m h1 h1.pos h3
 have hT:=pQ m h1 h1.pos
 refine⟨?_,?_⟩
 ·have:=hT.self
  rw[←hT.eq,e] at this
  obtain⟨κ,i1,nx,a,s',n,hd,hA,hdist,hl⟩:=this
  exact⟨κ,i1,nx,a,s',n,hd,hA,hdist,fun cs hc=>by rw[hl cs hc,h3 cs hc]⟩
 ·rw[←e]
  exact Nat.le_trans (wX m h1 h1.pos) h2
open Go.Lib (decDigits)
theorem u8_dig{u:Nat}(h:u<10):(UInt8.ofNat (48+u)).toNat=48+u:=by
 rw[UInt8.toNat_ofNat']
 omega
theorem aX4:∀(n:Nat),∀b∈decDigits n,b≠44:=by
 intro n
 induction n using Nat.strongRecOn with
 | _ n ih =>
  intro b hb
  have key:∀u,u<10→UInt8.ofNat (48+u)≠44:=fun u hu e=>by
   have:=congrArg UInt8.toNat e
   rw[u8_dig hu] at this
   have h44:(44:UInt8).toNat=44:=rfl
   omega
  rw[decDigits] at hb
  split at hb
  ·rename_i h
   rw[List.mem_singleton] at hb
   subst hb
   exact key n h
  ·rcases List.mem_append.1 hb with hb|hb
   ·exact ih (n / 10) (by omega) b hb
   ·rw[List.mem_singleton] at hb
    subst hb
    exact key (n % 10) (by omega)
theorem dd_len:∀(k n:Nat),n<10^(k+1)→(decDigits n).length≤k+1
 | 0,n,h=>by rw[decDigits,dif_pos (by simpa using h)];simp
 | k+1,n,h=>by
  rw[decDigits]
  split
  ·simp
  ·rw[List.length_append]
   have:=dd_len k (n / 10) (by rw[Nat.pow_succ] at h;omega)
   simp
   omega
def bD2(l:List UInt8):Nat:=l.foldl (fun a b=>a*10+(b.toNat-48)) 0
theorem vR:∀n,bD2 (decDigits n)=n:=by
 intro n
 induction n using Nat.strongRecOn with
 | _ n ih =>
  rw[decDigits]
  split
  ·rename_i h
   simp only[bD2,List.foldl_cons,List.foldl_nil,u8_dig h]
   omega
  ·unfold bD2
   rw[List.foldl_append]
   have:=ih (n / 10) (by omega)
   unfold bD2 at this
   rw[this]
   simp only[List.foldl_cons,List.foldl_nil,u8_dig (show n % 10<10 by omega)]
   omega
def mY(r:List Nat):List UInt8:=r.flatMap fun v=>44::decDigits v
def kS(k:Nat×List Nat):List UInt8:=decDigits k.1++mY k.2
theorem iI(v:Nat)(r:List Nat):mY (v::r)=44::(decDigits v++mY r):=by simp[mY]
theorem aY3(v:Nat)(r:List Nat):mY (r++[v])=mY r++(44::decDigits v):=by simp[mY]
theorem cut44:∀{xs ys r s:List UInt8},(∀b∈xs,b≠44)→(∀b∈ys,b≠44)→(r=[]∨r.head?=some 44)→(s=[]∨s.head?=some 44)→xs++r=ys++s→xs=ys∧r=s
 | [],[],r,s,_,_,_,_,h=>⟨rfl,h⟩
 | [],y::ys,r,s,_,hy,hr,_,h=>by
  rw[List.nil_append] at h
  subst h
  rcases hr with hr|hr
  ·cases hr
  ·simp at hr
   exact absurd hr (hy y List.mem_cons_self)
 | x::xs,[],r,s,hx,_,_,hs,h=>by
  rw[List.nil_append] at h
  subst h
  rcases hs with hs|hs
  ·cases hs
  ·simp at hs
   exact absurd hs (hx x List.mem_cons_self)
 | x::xs,y::ys,r,s,hx,hy,hr,hs,h=>by
  rw[List.cons_append,List.cons_append,List.cons.injEq] at h
  obtain⟨h1,h2⟩:=cut44 (fun b hb=>hx b (List.mem_cons_of_mem _ hb)) (fun b hb=>hy b (List.mem_cons_of_mem _ hb)) hr hs h.2
  exact⟨by rw[h.1,h1],h2⟩
theorem qE(r:List Nat):mY r=[]∨(mY r).head?=some 44:=by
 cases r with
 | nil=>exact .inl rfl
 | cons v r=>rw[iI];exact .inr rfl
theorem aG2:∀{r s:List Nat},mY r=mY s→r=s
 | [],[],_=>rfl
 | [],v::s,h=>by rw[iI] at h;cases h
 | v::r,[],h=>by rw[iI] at h;cases h
 | v::r,u::s,h=>by
  rw[iI,iI,List.cons.injEq] at h
  obtain⟨h1,h2⟩:=cut44 (aX4 v) (aX4 u) (qE r) (qE s) h.2
  have:=congrArg bD2 h1
  rw[vR,vR] at this
  rw[this,aG2 h2]
theorem kS_inj{k l:Nat×List Nat}(h:kS k=kS l):k=l:=by
 obtain⟨h1,h2⟩:=cut44 (aX4 k.1) (aX4 l.1) (qE k.2) (qE l.2) h
 have:=congrArg bD2 h1
 rw[vR,vR] at this
 exact Prod.ext this (aG2 h2)
def encK(k:Nat×List Nat):BV:=.str ⟨(kS k).toArray⟩
theorem encK_eq(k l:Nat×List Nat):bK 1 (encK k) (encK l)=some (decide (k=l)):=by
 have h1:bK 1 (encK k) (encK l)=some ((⟨(kS k).toArray⟩:ByteArray)==⟨(kS l).toArray⟩):=rfl
 rw[h1]
 have h2:((⟨(kS k).toArray⟩:ByteArray)==⟨(kS l).toArray⟩)=((kS k).toArray==(kS l).toArray):=rfl
 rw[h2]
 congr 1
 by_cases h:k=l
 ·subst h;simp
 ·rw[decide_eq_false h,beq_eq_false_iff_ne]
  intro e
  exact h (kS_inj (by simpa using e))
theorem encK_ok(k:Nat×List Nat):pV 1 (encK k)=true:=rfl
theorem aL9(a b:List UInt8):(⟨a.toArray⟩:ByteArray)++⟨b.toArray⟩=⟨(a++b).toArray⟩:=by
 apply ByteArray.ext
 rw[ByteArray.data_append]
 simp
theorem bD5(a:List UInt8):(⟨a.toArray⟩:ByteArray).size=a.length:=by simp[ByteArray.size]
theorem _root_.Go.B.Own.join{H K K':BH}{L M:List Sl}(o:Own aA H K L)(k:K.Keeps K')(o2:Own aA K K' M):Own aA H K' (L++M):=by
 have o1:=o.call k
 refine⟨o1.keeps,fun p hp b hb=>?_,?_⟩
 ·rcases List.mem_append.1 hp with hp|hp
  ·exact o1.row p hp b hb
  ·obtain⟨h1,h2,h3,h4⟩:=o2.row p hp b hb
   exact⟨h1,h2,o.keeps.fresh h3,h4⟩
 ·rw[List.filterMap_append,List.nodup_append]
  refine⟨o1.nodup,o2.nodup,?_⟩
  rintro a ha b hb rfl
  obtain⟨s,hs⟩:=Own.mem_of ha
  obtain⟨s',hs'⟩:=Own.mem_of hb
  obtain⟨h1,_,_,h4⟩:=o.row _ hs a rfl
  rw[(o2.row _ hs' a rfl).2.2.1] at h1
  exact h4 h1.symm
def iG(n:Nat)(f:Nat→Nat)(i:Nat):List Nat:=(List.range i).map f++List.replicate (n-i) 0
theorem mC{n i:Nat}(f:Nat→Nat)(h:i≤n):(iG n f i).length=n:=by simp[iG];omega
theorem mA{n i:Nat}(f:Nat→Nat)(h:i<n):(iG n f i).set i (f i)=iG n f (i+1):=by
 unfold iG
 rw[List.set_append_right _ _ (by simp),show n-i=(n-(i+1))+1 by omega,List.replicate_succ]
 simp[List.range_succ]
theorem qR(n:Nat)(f:Nat→Nat):iG n f 0=List.replicate n 0:=by simp[iG]
theorem sZ(n:Nat)(f:Nat→Nat):iG n f n=(List.range n).map f:=by simp[iG]
def bN(X:Aut)(g:List Nat)(i:Nat):List (Nat×List Nat):=eN [] ((List.range i).map (bJ X g))
theorem rT(X:Aut)(g:List Nat)(i:Nat):bN X g (i+1)=bF (bN X g i) (bJ X g i):=by
 unfold bN
 rw[List.range_succ,List.map_append,mT]
 rfl
theorem qM(X:Aut)(g:List Nat){i:Nat}(h:i≤X.y.length):bN X g i <+: cC X g:=by
 have:∀d i,i+d=X.y.length→bN X g i <+: cC X g:=by
  intro d
  induction d with
  | zero=>intro i hi;rw[show i=X.y.length by omega];exact List.prefix_refl _
  | succ d ih=>intro i hi;exact(vV _ _).trans (by rw[←rT];exact ih (i+1) (by omega))
 exact this _ i (Nat.add_sub_cancel' h)
theorem dd20{n:Nat}(h:n≤1000000000):(Lib.decDigits n).length≤10:=dd_len 9 n (by omega)
theorem i_merged1(t s:Nat)(A:Aut)(m1 one:Nat)(u x ov:BV)(O:List Nat)(H:BH)(hA:Rd H 4 u (A.y.map aK))(rm:H.row m1=.arr 77 [aB t,aB s,u,x])(ro:H.row one=.arr 80 [ov])(hO:Rd H 3 ov (O.map aB))(g:Nat)(hg:g<O.length)(hg2:O.getD g 0<A.y.length):Runs (gam aA) 211 [aB g,.ptr m1 0,.ptr one 0] H (.bool (A.y.getD (O.getD g 0) false)) H:=by
 refine aV (fn:=ir211) rfl ?_
 have e1:O.getD g 0=O[g]:=by simp[hg]
 rw[e1] at hg2 ⊢
 have e2:A.y.getD O[g] false=A.y[O[g]]:=by simp[hg2]
 rw[e2]
 have r1:=aD rm (rt:=none) (j:=2) (c:=u) rfl rfl
 have r2:=aD ro (rt:=none) (j:=0) (c:=ov) rfl rfl
 have r3:=hO.at hg (rt:=none) rfl
 have r4:=hA.at hg2 (rt:=none) rfl
 simp[ir211,r1,r2,r3,r4,hO.isSl,hO.lenM,hg,hA.isSl,hA.lenM,hg2]
theorem i_merged2(t s w:Nat)(A:Aut)(m1 one gr:Nat)(u x ov gv:BV)(O G:List Nat)(H:BH)(hw:A.Ok w)(hx:RdR H 80 3 x aB A.nxt)(rm:H.row m1=.arr 77 [aB t,aB s,u,x])(ro:H.row one=.arr 80 [ov])(hO:Rd H 3 ov (O.map aB))(rg:H.row gr=.arr 80 [gv])(hG:Rd H 3 gv (G.map aB))(hGl:G.length=A.y.length)(g c:Nat)(hg:g<O.length)(hg2:O.getD g 0<A.y.length)(hc:c<w):Runs (gam aA) 212 [aB g,aB c,.ptr gr 0,.ptr m1 0,.ptr one 0] H (aB (G.getD (A.to (O.getD g 0) c) 0)) H:=by
 refine aV (fn:=ir212) rfl ?_
 have ht:=hw.to hg2 hc
 obtain⟨row,er,hrl,hrc⟩:=iL hw hg2 hc
 have e1:O.getD g 0=O[g]:=by simp[hg]
 rw[e1] at hg2 ht er hrc ⊢
 have hg3:O[g]<A.nxt.length:=by rw[hw.len];exact hg2
 have er2:A.nxt[O[g]]=row:=by rw[←er];simp[hg3]
 have hcl:c<row.length:=by omega
 have e3:row[c]=A.to O[g] c:=by
  rw[List.getElem?_eq_getElem hcl] at hrc
  simpa using hrc
 have ht':A.to O[g] c<G.length:=by omega
 have e2:G.getD (A.to O[g] c) 0=G[A.to O[g] c]:=by simp[ht']
 rw[e2]
 have r1:=aD rm (rt:=none) (j:=3) (c:=x) rfl rfl
 have r2:=aD ro (rt:=none) (j:=0) (c:=ov) rfl rfl
 have r3:=hO.at hg (rt:=none) rfl
 obtain⟨ri,hri,hrr⟩:=hx.at hg3
 rw[er2] at hri
 have r4:=hrr none rfl
 have r5:=hri.at hcl (rt:=none) rfl
 rw[e3] at r5
 have r6:=aD rg (rt:=none) (j:=0) (c:=gv) rfl rfl
 have r7:=hG.at ht' (rt:=none) rfl
 simp[ir212,r1,r2,r3,r4,r5,r6,r7,hO.isSl,hO.lenM,hg,hx.isSl,hx.len,hg3,hri.isSl,hri.lenM,hcl,hG.isSl,hG.lenM,ht']
theorem zP{n i:Nat}(f:Nat→Nat)(h:i<n)(h0:f i=0):iG n f (i+1)=iG n f i:=by
 rw[←mA f h,h0]
 unfold iG
 rw[List.set_append_right _ _ (by simp),show n-i=(n-(i+1))+1 by omega,List.replicate_succ]
 simp
theorem aR3(a:List UInt8):(⟨#[44]⟩:ByteArray)++⟨a.toArray⟩=⟨(44::a).toArray⟩:=aL9 [44] a
theorem repl0(n:Nat):(List.replicate n 0).map aB=List.replicate n (BV.int .i64 0):=by simp[List.map_replicate]
theorem xU(A:Aut):(List.range A.y.length).map (fun j=>if A.y.getD j false=true then 1 else 0)=mX A:=by
 apply List.ext_getElem
 ·simp[mX]
 ·intro i h1 h2
  have hi:i<A.y.length:=by simpa using h1
  simp[mX,hi]
theorem i_merged (t s:Nat) (ht:t≤3) (A:Aut) (m:BV) (H:BH) (h:RdM H t s A m) (hok:A.Ok (wd t)) (hs:s<A.y.length) (hn:A.y.length≤1000000):
  ∃G,Merged (wd t) A G∧FnDoes (gam aA) 167 [m] H fun v K=>OwnM aA H K t 0 (fD (wd t) A G s) v:=by
 obtain⟨N,hN,hstop,hgo⟩:=mI hok
 refine⟨aP A (N+1),pP hok hstop,?_⟩
 have hM:=pP hok hstop
 refine FnDoes.of (fn:=ir167) rfl ?_
 obtain⟨u,x,rfl,hu,hx⟩:=h
 have u1:=hu.one
 have x1:=aF hx.isSl
 have hw:=eQ ht
 have hnl:=hok.len
 simp[ir167,u1,x1]
 intro n1 b1 f1
 simp[aC f1 b1]
 intro n2 b2 f2
 have o1:=Own.start (aA:=aA) (H:=H) |>.new f1 b1 (s:=.arr 77 [aB t,aB s,u,x]) |>.new f2 b2 (s:=.arr 77 [.int .i64 0,.int .i64 0,.nils,.nils])
 have r2:=aD (o1.at 1 (b:=n1) rfl) (rt:=none) (j:=2) (c:=u) rfl rfl
 have c1:(A.y.length:Int)≤140737488355328:=by omega
 have c8:8*(A.y.length:Int)≤140737488355328:=by omega
 simp[aC f2 b2,r2,hu.isSl,hu.lenM,c1,c8]
 intro n4 b4 f4
 simp[aC f4 b4]
 intro n3 b3 f3
 simp[aC f3 b3]
 have o2:=o1.new f4 b4 (s:=.arr 3 (List.replicate A.y.length (.int .i64 0))) |>.new f3 b3 (s:=.arr 80 [.nils])
 obtain⟨K3,g3,o3⟩:=o2.put 0 (b:=n3) rfl (j:=0) (u:=.sl n4 0 A.y.length) (by simp) rfl (rt:=none) rfl
 have r3:=aD (o3.at 3 (b:=n1) rfl) (rt:=none) (j:=2) (c:=u) rfl rfl
 simp[g3,r3,hu.isSl,hu.lenM]
 -- the first classes
 obtain⟨f0,hf0⟩:∃f0:Nat→Nat,f0=fun j=>if A.y.getD j false=true then 1 else 0:=⟨_,rfl⟩
 obtain⟨I,hI⟩:∃I:Nat→Env→BH→Prop,I=(fun i e K=>e 28=aB i∧Own aA H K [(some n3,.arr 80 [.sl n4 0 A.y.length]),(some n4,.arr 3 ((iG A.y.length f0 i).map aB)),(some n2,.arr 77 [.int .i64 0,.int .i64 0,.nils,.nils]),(some n1,.arr 77 [aB t,aB s,u,x])]):=⟨_,rfl⟩
 refine aE A.y.length [(1,.ptr n1 0),(2,.ptr n2 0),(3,.ptr n3 0),(26,u),(27,aB A.y.length)] I (i0:=0) ?_ ?_ ?_ (Nat.zero_le _) ?_
 ·rfl
 ·simp
 ·rw[hI]
  refine⟨rfl,?_⟩
  rw[qR,repl0]
  exact o3
 rintro i e K hi ⟨e1,e2,e3,e26,e27,-⟩ hh
 rw[hI] at hh
 obtain⟨e28,o⟩:=hh
 simp only[] at e1 e2 e3 e26 e27
 have wi:=wS (n:=i) (by omega)
 by_cases hlt:i<A.y.length
 ·have hr:=(hu.keeps o.keeps).at hlt (rt:=none) rfl
  have hga:A.y.getD i false=A.y[i]:=by simp[hlt]
  simp[e1,e2,e3,e26,e27,e28,hlt,hu.isSl,hu.lenM,hr]
  cases hb:A.y[i] with
  | false =>
   simp[e28,wi,hlt]
   rw[hI]
   refine⟨by simp,?_⟩
   rw[zP f0 hlt (by rw[hf0];show (if A.y.getD i false=true then 1 else 0)=0;rw[hga,hb];rfl)]
   exact o
  | true =>
   have r4:=aD (o.at 0 (b:=n3) rfl) (rt:=none) (j:=0) (c:=.sl n4 0 A.y.length) rfl rfl
   obtain⟨K5,g5,o5⟩:=o.put 1 (b:=n4) rfl (j:=i) (u:=aB 1) (by simp[mC f0 hi,hlt]) rfl (rt:=none) rfl
   have g5':K.wr aA none 1 (.ptr n4 i) (.int .i64 1)=some K5:=g5
   simp[e3,r4,hlt,g5',e28,wi]
   rw[hI]
   refine⟨by simp,?_⟩
   rw[←mA f0 hlt,show f0 i=1 by rw[hf0];show (if A.y.getD i false=true then 1 else 0)=1;rw[hga,hb];rfl]
   simpa[List.map_set] using o5
 have hie:i=A.y.length:=by omega
 subst hie
 have hc0:iG A.y.length f0 A.y.length=aP A 0:=by rw[sZ,hf0];exact xU A
 rw[hc0] at o
 simp[e1,e2,e3,e26,e27,e28]
 clear hI I o1 o2 o3 r2 r3 g3
 -- lR and lR
 obtain⟨I,hI⟩:∃I:Nat→Env→BH→Prop,I=(fun k e K=>e 6=aB (bB A k)∧∃gv go,Own aA H K [(some n3,.arr 80 [gv]),(go,.arr 3 ((aP A k).map aB)),(some n2,.arr 77 [.int .i64 0,.int .i64 0,.nils,.nils]),(some n1,.arr 77 [aB t,aB s,u,x])]∧Vec go gv A.y.length):=⟨_,rfl⟩
 refine aE N [(1,.ptr n1 0),(2,.ptr n2 0),(3,.ptr n3 0)] I (i0:=0) ?_ ?_ ?_ (Nat.zero_le _) ?_
 ·rfl
 ·simp[e1,e2,e3]
 ·rw[hI]
  exact⟨rfl,_,_,o,rfl⟩
 clear e1 e2 e3 e26 e27 e28 o wi
 rintro k e K hk ⟨e1,e2,e3,-⟩ hh
 rw[hI] at hh
 obtain⟨e6,gv,go,o,hgv⟩:=hh
 simp only[] at e1 e2 e3
 obtain⟨g,hg⟩:∃g,g=aP A k:=⟨_,rfl⟩
 have hgl:g.length=A.y.length:=by rw[hg];exact qZ k
 rw[←hg] at o
 have r4:=aD (o.at 0 (b:=n3) rfl) (rt:=none) (j:=0) (c:=gv) rfl rfl
 simp
 intro n7 b7 f7
 have o1:=o.new f7 b7 (s:=.mp (bI encK [] 0))
 have r5:=aD (o1.at 1 (b:=n3) rfl) (rt:=none) (j:=0) (c:=gv) rfl rfl
 simp[aC f7 b7,e3]
 have r5':(K.set n7 (.mp [])).rd none none (.ptr n3 0)=some gv:=r5
 simp[r5',hgv.isSl,hgv.len,c1,c8]
 intro n8 b8 f8
 have o2:=o1.new f8 b8 (s:=.arr 3 (List.replicate A.y.length (.int .i64 0)))
 have r6:=aD (o2.at 5 (b:=n1) rfl) (rt:=none) (j:=3) (c:=x) rfl rfl
 have r6':((K.set n7 (.mp [])).set n8 (.arr 3 (List.replicate A.y.length (.int .i64 0)))).rd none none (.ptr n1 3)=some x:=r6
 simp[aC f8 b8,e1,r6',hx.isSl,hx.len,hnl]
 -- the keys of all states
 obtain⟨F,hF⟩:∃F:Nat→Nat,F=fun j=>pos (cC A g) (bJ A g j):=⟨_,rfl⟩
 obtain⟨J,hJ⟩:∃J:Nat→Env→BH→Prop,J=(fun i e K=>e 45=aB i∧Own aA H K [(some n8,.arr 3 ((iG A.y.length F i).map aB)),(some n7,.mp (bI encK (bN A g i) 0)),(some n3,.arr 80 [gv]),(go,.arr 3 (g.map aB)),
  (some n2,.arr 77 [.int .i64 0,.int .i64 0,.nils,.nils]),(some n1,.arr 77 [aB t,aB s,u,x])]):=⟨_,rfl⟩
 refine aE A.y.length [(1,.ptr n1 0),(2,.ptr n2 0),(3,.ptr n3 0),(6,aB (bB A k)),(7,.mp n7),(8,.sl n8 0 A.y.length),(43,x),(44,aB A.y.length)] J (i0:=0) ?_ ?_ ?_ (Nat.zero_le _) ?_
 ·rfl
 ·simp[e1,e2,e3,e6]
 ·rw[hJ]
  refine⟨by simp,?_⟩
  rw[qR,repl0]
  exact o2
 clear e1 e2 e3 e6 o o1 o2 r4 r5 r6 r5' r6'
 rintro i e K hi ⟨e1,e2,e3,e6,e7,e8,e43,e44,-⟩ hh
 rw[hJ] at hh
 obtain⟨e45,o⟩:=hh
 simp only[] at e1 e2 e3 e6 e7 e8 e43 e44
 have wi:=wS (n:=i) (by omega)
 have r4:=aD (o.at 2 (b:=n3) rfl) (rt:=none) (j:=0) (c:=gv) rfl rfl
 by_cases hlt:i<A.y.length
 ·have hlt':i<A.nxt.length:=by omega
  have hltg:i<g.length:=by omega
  obtain⟨ri,hri,hrr⟩:=hx.at hlt'
  have hrr:=aJ o.keeps (hrr none rfl)
  have hri:=hri.keeps o.keeps
  have hrow:=hok.row _ (List.getElem_mem hlt')
  have hgr:=o.rd 3 rfl (v:=gv) (by rw[List.length_map,hgl];exact hgv)
  have hgi:=hgr.at hltg (rt:=none) rfl
  have hgb:g[i]≤1000000:=by
   have:g[i]=(aP A k).getD i 0:=by rw[←hg];simp[hltg]
   rw[this]
   cases k with
   | zero =>
    have:(aP A 0).getD i 0=if A.y[i]=true then 1 else 0:=by show (mX A).getD i 0=_;unfold mX;exact getD_map hlt
    rw[this]
    split<;>omega
   | succ k =>
    have h1:=vO (X:=A) (g:=aP A k) hlt
    have h2:=vN (X:=A) (aP A k)
    show (lR A (aP A k)).getD i 0≤_
    omega
  have hgb2:∀q,(hq:q<g.length)→g[q]≤1000000:=fun q hq=>by
   have:g[q]=(aP A k).getD q 0:=by rw[←hg];simp[hq]
   rw[this]
   have hqn:q<A.y.length:=by omega
   cases k with
   | zero =>
    have:(aP A 0).getD q 0=if A.y[q]=true then 1 else 0:=by show (mX A).getD q 0=_;unfold mX;exact getD_map hqn
    rw[this]
    split<;>omega
   | succ k =>
    have h1:=vO (X:=A) (g:=aP A k) hqn
    have h2:=vN (X:=A) (aP A k)
    show (lR A (aP A k)).getD q 0≤_
    omega
  simp[e43,e44,e45,hlt,hx.isSl,hx.len,hlt',hrr,e3,r4,hgv.isSl,hgv.len,hgi]
  refine aN (i_itoa g[i] (by omega) K) ?_
  simp[hri.isSl,hri.lenM]
  obtain⟨L2,hL2⟩:∃L2:Nat→Env→BH→Prop,L2=(fun j e M=>e 57=aB j∧e 11=.str ⟨(kS (g[i],(A.nxt[i].take j).map fun q=>g.getD q 0)).toArray⟩∧M=K):=⟨_,rfl⟩
  refine aE (wd t) [(1,.ptr n1 0),(2,.ptr n2 0),(3,.ptr n3 0),(6,aB (bB A k)),(7,.mp n7),(8,.sl n8 0 A.y.length),(43,x),(44,aB A.y.length),(45,aB i),(9,aB i),(55,ri),(56,aB (wd t))] L2 (i0:=0) ?_ ?_ ?_ (Nat.zero_le _) ?_
  ·rfl
  ·simp[e1,e2,e3,e6,e7,e8,e43,e44,e45,hrow.1]
  ·rw[hL2]
   refine⟨by simp,?_,rfl⟩
   simp[kS,mY]
  clear e1 e2 e3 e6 e7 e8 e43 e44 e45
  rintro j e M hj ⟨e1,e2,e3,e6,e7,e8,e43,e44,e45,e9,e55,e56,-⟩ hh
  rw[hL2] at hh
  obtain⟨e57,e11,hMK⟩:=hh
  subst hMK
  simp only[] at e1 e2 e3 e6 e7 e8 e43 e44 e45 e9 e55 e56
  have wj:=wS (n:=j) (by omega)
  by_cases hlj:j<wd t
  ·have hlj':j<A.nxt[i].length:=by rw[hrow.1];exact hlj
   have hrj:=hri.at hlj' (rt:=none) rfl
   have hq:A.nxt[i][j]<A.y.length:=hrow.2 _ (List.getElem_mem hlj')
   have hqg:A.nxt[i][j]<g.length:=by omega
   have hgq:=hgr.at hqg (rt:=none) rfl
   simp[e55,e56,e57,hlj,hri.isSl,hri.lenM,hlj',hrj,e3,r4,hgv.isSl,hgv.len,hq,hgq]
   refine aN (i_itoa g[A.nxt[i][j]] (by have:=hgb2 _ hqg;omega) M) ?_
   have hd:(Lib.decDigits g[A.nxt[i][j]]).length≤10:=dd20 (by have:=hgb2 _ hqg;omega)
   have hkl:(kS (g[i],(A.nxt[i].take j).map fun q=>g.getD q 0)).length≤10+j*11:=by
    have ht:∀(l:List Nat),(∀v∈l,v≤1000000)→(mY l).length≤l.length*11:=by
     intro l
     induction l with
     | nil=>intro _;simp[mY]
     | cons v l ih =>
      intro h
      have h1:=ih fun z hz=>h z (List.mem_cons_of_mem _ hz)
      have h2:=dd20 (n:=v) (by have:=h v List.mem_cons_self;omega)
      rw[iI]
      simp
      omega
    have h1:=ht ((A.nxt[i].take j).map fun q=>g.getD q 0) fun v hv=>by
     obtain⟨q,hq2,rfl⟩:=List.mem_map.1 hv
     have hq3:q<g.length:=by rw[hgl];exact hrow.2 _ (List.mem_of_mem_take hq2)
     have:g.getD q 0=g[q]:=by simp[hq3]
     rw[this]
     exact hgb2 q hq3
    have h2:=dd20 (n:=g[i]) (by omega)
    have h3:((A.nxt[i].take j).map fun q=>g.getD q 0).length≤j:=by simp;omega
    show (Lib.decDigits g[i]++mY ((A.nxt[i].take j).map fun q=>g.getD q 0)).length≤_
    rw[List.length_append]
    omega
   obtain⟨D,hD⟩:∃D,D=Lib.decDigits g[A.nxt[i][j]]:=⟨_,rfl⟩
   obtain⟨S,hS⟩:∃S,S=kS (g[i],(A.nxt[i].take j).map fun q=>g.getD q 0):=⟨_,rfl⟩
   have hkn:kS (g[i],(A.nxt[i].take (j+1)).map fun q=>g.getD q 0)=S++(44::D):=by
    rw[hS,hD]
    show Lib.decDigits g[i]++mY _=(Lib.decDigits g[i]++mY _)++_
    rw[List.take_add_one,List.getElem?_eq_getElem hlj',List.map_append]
    have:g.getD A.nxt[i][j] 0=g[A.nxt[i][j]]:=by simp[hqg]
    show Lib.decDigits g[i]++mY (_++[g.getD A.nxt[i][j] 0])=_
    rw[aY3,this,List.append_assoc]
   rw[←hD] at hd ⊢
   rw[←hS] at hkl e11
   have hs1:¬(9223372036854775807:Int)<1+(D.length:Int):=by omega
   have hs2:¬(9223372036854775807:Int)<(S.length:Int)+((D.length:Int)+1):=by omega
   have hz1:(⟨#[44]⟩:ByteArray).size=1:=rfl
   simp[e11,bD5,hz1,hs1,aR3,hs2,aL9,e57,wj,hlj]
   rw[hL2]
   exact⟨by simp,by simp only[hkn];simp,rfl⟩
  ·-- the key is whole
   have hje:j=wd t:=by omega
   subst hje
   have htk:A.nxt[i].take (wd t)=A.nxt[i]:=by rw[←hrow.1,List.take_length]
   have hkey:(g[i],(A.nxt[i].take (wd t)).map fun q=>g.getD q 0)=bJ A g i:=by
    rw[htk]
    unfold bJ
    have h1:g.getD i 0=g[i]:=by simp[hltg]
    have h2:A.nxt.getD i []=A.nxt[i]:=by simp[hlt']
    rw[h1,h2]
   rw[hkey] at e11
   have hlk:=o.look 1 (ks:=bN A g i) rfl encK_eq encK_ok (bJ A g i)
   have hpre:=qM A g hi
   have hpre1:=qM A g (show i+1≤A.y.length from hlt)
   have hsu:=rT A g i
   by_cases hm:bJ A g i∈bN A g i
   ·have hp:pos (bN A g i) (bJ A g i)=F i:=by rw[hF];exact(cH hpre hm).symm
    have hlk':M.mlook 1 true (.int .i64 0) (.mp n7) (.str ⟨(kS (bJ A g i)).toArray⟩)=some (.tup [aB (F i),.bool true]):=by
     rw[←hp,show BV.str ⟨(kS (bJ A g i)).toArray⟩=encK (bJ A g i) from rfl,hlk,if_pos hm]
     simp[hm,pos]
    have hadd:bN A g (i+1)=bN A g i:=by rw[hsu];unfold bF;rw[if_pos hm]
    obtain⟨K5,g5,o5⟩:=o.put 0 (b:=n8) rfl (j:=i) (u:=aB (F i)) (by simp[mC F hi,hlt]) rfl (rt:=none) rfl
    simp[e56,e57,e7,e11,hlk',e8,e9,hlt,g5,e45,wi]
    rw[hJ]
    refine⟨by simp,?_⟩
    rw[hadd,←mA F hlt]
    simpa[List.map_set] using o5
   ·have hp:(bN A g i).length=F i:=by rw[hF,←dR hm,←hsu];exact(cH hpre1 (by rw[hsu];exact mem_addK.2 (.inr rfl))).symm
    have hlk':M.mlook 1 true (.int .i64 0) (.mp n7) (.str ⟨(kS (bJ A g i)).toArray⟩)=some (.tup [.int .i64 0,.bool false]):=by
     rw[show BV.str ⟨(kS (bJ A g i)).toArray⟩=encK (bJ A g i) from rfl,hlk,if_neg hm]
     simp[hm]
    have hadd:bN A g (i+1)=bN A g i++[bJ A g i]:=by rw[hsu];unfold bF;rw[if_neg hm]
    have hml:=o.mlen 1 (ks:=bN A g i) rfl
    obtain⟨K4,g4,o4⟩:=o.mset 1 (ks:=bN A g i) rfl encK_eq encK_ok hm
    have g4':M.msetv aA 1 (.mp n7) (.str ⟨(kS (bJ A g i)).toArray⟩) (.int .i64 ((bN A g i).length:Nat))=some K4:=g4
    rw[hp] at hml g4'
    obtain⟨K5,g5,o5⟩:=o4.put 0 (b:=n8) rfl (j:=i) (u:=aB (F i)) (by simp[mC F hi,hlt]) rfl (rt:=none) rfl
    simp[e56,e57,e7,e11,hlk',hml,g4',e8,e9,hlt,g5,e45,wi]
    rw[hJ]
    refine⟨by simp,?_⟩
    rw[hadd,←mA F hlt]
    simpa[List.map_set] using o5
 ·-- all states have their class
  have hie:i=A.y.length:=by omega
  subst hie
  have hall:iG A.y.length F A.y.length=aP A (k+1):=by rw[sZ,hF,hg];rfl
  rw[hall] at o
  have hkk:bN A g A.y.length=cC A g:=rfl
  rw[hkk] at o
  obtain⟨K5,g5,o5⟩:=o.put 2 (b:=n3) rfl (j:=0) (u:=.sl n8 0 A.y.length) (by simp) rfl (rt:=none) rfl
  have hml:=o5.mlen 1 (ks:=cC A g) rfl
  have hcn:(cC A g).length=bB A (k+1):=by rw[hg];rfl
  rw[hcn] at hml
  have o6:Own aA H K5 [(some n3,.arr 80 [.sl n8 0 A.y.length]),(some n8,.arr 3 ((aP A (k+1)).map aB)),(some n2,.arr 77 [.int .i64 0,.int .i64 0,.nils,.nils]),(some n1,.arr 77 [aB t,aB s,u,x])] :=
   (o5.sub (M:=[(some n8,.arr 3 ((aP A (k+1)).map aB)),(some n3,.arr 80 [.sl n8 0 A.y.length]),(some n2,.arr 77 [.int .i64 0,.int .i64 0,.nils,.nils]),(some n1,.arr 77 [aB t,aB s,u,x])])
    (.cons_cons _ (.cons _ (.cons_cons _ (.cons _ (.cons_cons _ (.cons_cons _ .slnil))))))).perm (List.Perm.swap _ _ _)
  by_cases hkN:k<N
  ·have hne:=hgo k hkN
   have hne':((bB A (k+1):Int)==(bB A k:Int))=false:=by simp;omega
   simp[e44,e45,e8,e3,g5,e7,hml,e6,hne',hkN]
   rw[hI]
   exact⟨by simp,_,_,o6,rfl⟩
  ·have hkE:k=N:=by omega
   subst hkE
   simp[e44,e45,e8,e3,g5,e7,hml,e6,hstop]
   -- a state for each class
   obtain⟨G,hG⟩:∃G,G=aP A (k+1):=⟨_,rfl⟩
   rw[←hG] at o6 hM ⊢
   have hGl:G.length=A.y.length:=hM.len
   have hGlt:∀q,q<A.y.length→G.getD q 0<A.y.length:=fun q hq=>by
    have h1:=vO (X:=A) (g:=aP A k) hq
    have h2:=vN (X:=A) (aP A k)
    rw[hG]
    show (lR A (aP A k)).getD q 0<_
    omega
   have q4:=aD (o6.at 0 (b:=n3) rfl) (rt:=none) (j:=0) (c:=.sl n8 0 A.y.length) rfl rfl
   simp[e3,q4,c1,c8]
   intro n9 b9 f9
   simp[aC f9 b9]
   intro n16 b16 f16
   have o7:=o6.new f9 b9 (s:=.arr 3 (List.replicate A.y.length (.int .i64 0))) |>.new f16 b16 (s:=.arr 80 [.nils])
   obtain⟨K8,g8,o8⟩:=o7.put 0 (b:=n16) rfl (j:=0) (u:=.sl n9 0 A.y.length) (by simp) rfl (rt:=none) rfl
   have q5:=aD (o8.at 2 (b:=n3) rfl) (rt:=none) (j:=0) (c:=.sl n8 0 A.y.length) rfl rfl
   simp[aC f16 b16,g8,q5,e3]
   obtain⟨P,hP⟩:∃P:Nat→Env→BH→Prop,P=(fun i e K=>e 100=aB i∧∃O:List Nat,Own aA H K [(some n16,.arr 80 [.sl n9 0 A.y.length]),(some n9,.arr 3 (O.map aB)),(some n3,.arr 80 [.sl n8 0 A.y.length]),(some n8,.arr 3 (G.map aB)),
    (some n2,.arr 77 [.int .i64 0,.int .i64 0,.nils,.nils]),(some n1,.arr 77 [aB t,aB s,u,x])]∧O.length=A.y.length∧∀j,j<i→O.getD (G.getD j 0) 0<A.y.length∧G.getD (O.getD (G.getD j 0) 0) 0=G.getD j 0):=⟨_,rfl⟩
   refine aE A.y.length [(1,.ptr n1 0),(2,.ptr n2 0),(3,.ptr n3 0),(16,.ptr n16 0),(98,.sl n8 0 A.y.length),(99,aB A.y.length)] P (i0:=0) ?_ ?_ ?_ (Nat.zero_le _) ?_
   ·rfl
   ·simp[e1,e2,e3]
   ·rw[hP]
    refine⟨by simp,List.replicate A.y.length 0,?_,by simp,fun j hj=>by omega⟩
    rw[repl0]
    exact o8
   clear e1 e2 e3 e6 e7 e8 e43 e44 e45 o o5 o6 o7 o8 r4 q4 q5
   rintro i e K hi ⟨e1,e2,e3,e16,e98,e99,-⟩ hh
   rw[hP] at hh
   obtain⟨e100,O,o,hOl,hO⟩:=hh
   simp only[] at e1 e2 e3 e16 e98 e99
   have wi:=wS (n:=i) (by omega)
   have q4:=aD (o.at 0 (b:=n16) rfl) (rt:=none) (j:=0) (c:=.sl n9 0 A.y.length) rfl rfl
   by_cases hlt:i<A.y.length
   ·have hltG:i<G.length:=by omega
    have hGr:=o.rd 3 rfl (v:=.sl n8 0 A.y.length) (by rw[List.length_map,hGl];rfl)
    have hGi:=hGr.at hltG (rt:=none) rfl
    simp only[iK,Nat.zero_add,Nat.mul_one] at hGi
    have hgi:G.getD i 0=G[i]:=by simp[hltG]
    have hgi2:G[i]<A.y.length:=by rw[←hgi];exact hGlt i hlt
    obtain⟨K9,g9,o9⟩:=o.put 1 (b:=n9) rfl (j:=G[i]) (u:=aB i) (by simp[hOl,hgi2]) rfl (rt:=none) rfl
    simp[e98,e99,e100,hlt,hGi,e16,q4,hgi2,g9,wi]
    rw[hP]
    refine⟨by simp,O.set G[i] i,by simpa[List.map_set] using o9,by simp[hOl],fun j hj=>?_⟩
    by_cases hjg:G.getD j 0=G[i]
    ·have:(O.set G[i] i).getD G[i] 0=i:=by
      rw[List.getD_eq_getElem?_getD,List.getElem?_set]
      simp[hOl,hgi2]
     rw[hjg,this]
     exact⟨hlt,hgi⟩
    ·have:(O.set G[i] i).getD (G.getD j 0) 0=O.getD (G.getD j 0) 0:=by
      rw[List.getD_eq_getElem?_getD,List.getElem?_set_ne (Ne.symm hjg),←List.getD_eq_getElem?_getD]
     rw[this]
     refine hO j ?_
     have:j≠i:=by rintro rfl;exact hjg hgi
     omega
   ·have hie:i=A.y.length:=by omega
    subst hie
    have q5:=aD (o.at 5 (b:=n1) rfl) (rt:=none) (j:=0) (c:=aB t) rfl rfl
    have q6:=aD (o.at 5 (b:=n1) rfl) (rt:=none) (j:=1) (c:=aB s) rfl rfl
    have q7:=aD (o.at 2 (b:=n3) rfl) (rt:=none) (j:=0) (c:=.sl n8 0 A.y.length) rfl rfl
    have hGr:=o.rd 3 rfl (v:=.sl n8 0 A.y.length) (by rw[List.length_map,hGl];rfl)
    have hOr:=o.rd 1 rfl (v:=.sl n9 0 A.y.length) (by rw[List.length_map,hOl];rfl)
    have hsG:s<G.length:=by omega
    have hGs:=hGr.at hsG (rt:=none) rfl
    simp only[iK,Nat.zero_add,Nat.mul_one] at hGs
    have hgs:G.getD s 0=G[s]:=by simp[hsG]
    simp[e98,e99,e100,e1,e3,e16,q5,q6,q7,hs,hGs]
    have hcl:=hM.closed hok hs
    rw[hgs] at hcl
    have hmem:∀g∈G,∃i,i<A.y.length∧G.getD i 0=g:=fun g hg=>by
     obtain⟨h1,h2⟩:=bE2 hg
     exact⟨_,by omega,h2⟩
    have grow:=uC (aA:=aA) (κ:=Nat) aB (fun _=>rfl) (fun k l=>by
      show some ((k:Int)==(l:Int))=_
      by_cases h:k=l
      ·subst h;simp
      ·rw[decide_eq_false h];simp;omega) (fun _=>rfl) t ht G[s] 0 211 212 [.ptr n1 0,.ptr n16 0] [.ptr n3 0,.ptr n1 0,.ptr n16 0] (nxG A G) (aR8 A G) G hcl (by omega) K
     (fun L kL g hg=>by
      obtain⟨i,hi,rfl⟩:=hmem g hg
      obtain⟨h1,h2⟩:=hO i hi
      have o':=o.call kL
      refine⟨_,L,i_merged1 t s A n1 n16 u x (.sl n9 0 A.y.length) O L (hu.keeps o'.keeps) (o'.at 5 rfl) (o'.at 0 rfl) (hOr.keeps kL) (G.getD i 0) (by rw[hOl];exact hGlt i hi) h1,BH.Keeps.refl L,?_⟩
      rw[←hM.y h1,h2])
     (fun L kL g hg c hc=>by
      obtain⟨i,hi,rfl⟩:=hmem g hg
      obtain⟨h1,h2⟩:=hO i hi
      have o':=o.call kL
      refine⟨_,L,i_merged2 t s (wd t) A n1 n16 n3 u x (.sl n9 0 A.y.length) (.sl n8 0 A.y.length) O G L hok (hx.keeps o'.keeps) (o'.at 5 rfl) (o'.at 0 rfl) (hOr.keeps kL) (o'.at 2 rfl) (hGr.keeps kL) hGl (G.getD i 0) c (by rw[hOl];exact hGlt i hi) h1 hc,BH.Keeps.refl L,?_⟩
      rw[←hM.to hok h1 hc,h2])
    refine grow.step fun v K1 k1 hv=>?_
    unfold dA at hv
    rw[if_neg (by omega)] at hv
    obtain⟨mm,rfl,hmm⟩:=hv
    obtain⟨uu,ww,bo,wo,vs,fr,rfl,om,hm1,hm2,hm3⟩:=hmm
    have oj:=Own.join (o.sub (M:=[(some n2,.arr 77 [.int .i64 0,.int .i64 0,.nils,.nils])]) (.cons _ (.cons _ (.cons _ (.cons _ (.cons_cons _ (.cons _ .slnil))))))) k1 om
    simp[hm1.one,hm2.one]
    intro n19 b19 f19
    obtain⟨K11,g11,o11⟩:=(oj.new f19 b19 (s:=.arr 77 [.int .i64 0,.int .i64 0,.nils,.nils])).putAll 0 (b:=n19) (n:=4) (ds:=[aB t,aB 0,uu,ww]) rfl rfl rfl (by simp[hm1.one,hm2.one]) (rt:=none) rfl
    have q8:=aI (o11.at 0 (b:=n19) rfl) (n:=4) (rt:=none) rfl rfl
    obtain⟨K12,g12,o12⟩:=o11.putAll 1 (b:=n2) (n:=4) (ds:=[aB t,aB 0,uu,ww]) rfl rfl rfl (by simp[hm1.one,hm2.one]) (rt:=none) rfl
    have q9:=aI (o12.at 1 (b:=n2) rfl) (n:=4) (rt:=none) rfl rfl
    simp[aC f19 b19,g11,q8,e2,g12,q9]
    have hme:fD (wd t) A G s=aQ (wd t) (nxG A G) (aR8 A G) (aH (succs (wd t) (nxG A G)) G[s] G.length):=by unfold fD;rw[hgs]
    rw[hme]
    exact⟨o12.keeps,uu,ww,bo,wo,vs,fr,rfl,o12.drop 2,hm1,hm2,hm3⟩
theorem an64:∀a,a<8→∀b,b<8→(IntKind.i64.wrap ((a % 2^IntKind.i64.bits &&& 2^IntKind.i64.bits-1-b % 2^IntKind.i64.bits:Nat):Int) != 0)=!decide (a &&& b=a):=by decide +kernel
theorem or64b:∀a,a<8→∀b,b<8→IntKind.i64.wrap ((BitVec.ofInt IntKind.i64.bits (a:Nat) ||| BitVec.ofInt IntKind.i64.bits (b:Nat)).toNat:Int)=((a ||| b:Nat):Int):=by decide +kernel
theorem pb_or{a b:Nat}(ha:a<8)(hb:b<8):bC .or (aB a) (aB b)=some (aB (a ||| b)):=by
 have h:bC .or (aB a) (aB b)=some (.int .i64 (IntKind.i64.wrap ((BitVec.ofInt IntKind.i64.bits (a:Nat) ||| BitVec.ofInt IntKind.i64.bits (b:Nat)).toNat:Int))):=rfl
 rw[h,or64b a ha b hb]
theorem shl64b:∀j,j<3→IntKind.i64.wrap ((1:Int)*2^min ((j:Nat):Int).toNat IntKind.i64.bits)=((2^j:Nat):Int):=by decide +kernel
theorem pb_shl{j:Nat}(hj:j<3):bC .shl (.int .i64 1) (aB j)=some (aB (2^j)):=by
 have h:bC .shl (.int .i64 1) (aB j)=if (j:Int)<0 then none else some (.int .i64 (IntKind.i64.wrap ((1:Int)*2^min ((j:Nat):Int).toNat IntKind.i64.bits))):=rfl
 rw[h,if_neg (by omega),shl64b j hj]
theorem dN{C:bR}{d:Option Nat}{op:BinOp}{x y:Opd}{g:Option (Nat×Bool)}{kp:List Nat}{Kn:Env→BH→Prop}{e:Env}{H:BH}(a b v:BV)(h:bC op a b=some v)(hx:x.ev e=a)(hy:y.ev e=b)(k:Kn (e.puto d v) H):aX aA C ⟨d,.bin op x y,g,kp⟩ Kn e H:=by
 rw[cR,mL,hx,hy,h]
 exact k
def fE:Pl→List BV
 | none=>[.int .i64 0,.int .i64 (-1)]
 | some (q,m)=>[aB q,aB m]
theorem aE0(k:Pl):(fE k).length=2∧∀c∈fE k,c.one=true:=by
 cases k with
 | none=>exact⟨rfl,by simp[fE]⟩
 | some p=>exact⟨rfl,by simp[fE]⟩
theorem encP_eq(k l:Pl):bK 5 (.agg (fE k)) (.agg (fE l))=some (decide (k=l)):=by
 have h:bK 5 (.agg (fE k)) (.agg (fE l))=bO (fE k) (fE l):=by
  show (if (fE k).length+3=5∧(fE l).length+3=5 then _ else _)=_
  rw[if_pos ⟨by rw[(aE0 k).1],by rw[(aE0 l).1]⟩]
 rw[h]
 cases k with
 | none =>
  cases l with
  | none=>rfl
  | some p =>
   obtain⟨q,m⟩:=p
   have:¬((-1:Int)=(m:Int)):=by omega
   by_cases h0:(0:Int)=(q:Int)<;>simp[fE,bO,h0,this]
 | some p =>
  obtain⟨q,m⟩:=p
  cases l with
  | none =>
   have:¬((m:Int)=(-1:Int)):=by omega
   by_cases h0:(q:Int)=(0:Int)<;>simp[fE,bO,h0,this]
  | some p' =>
   obtain⟨q',m'⟩:=p'
   by_cases h0:q=q'
   ·subst h0
    by_cases h1:m=m'
    ·subst h1;simp[fE,bO]
    ·have h1':¬((m:Int)=(m':Int)):=by omega
     simp[fE,bO,h1,h1']
   ·have h0':¬((q:Int)=(q':Int)):=by omega
    simp[fE,bO,h0,h0']
theorem plNx_none(t:Nat)(X:Aut)(c:Nat):aT7 t X none c=none:=rfl
theorem i_tidy1(t s:Nat)(A:Aut)(m1:Nat)(u x:BV)(H:BH)(hA:Rd H 4 u (A.y.map aK))(rm:H.row m1=.arr 77 [aB t,aB s,u,x])(k:Pl)(hk:k∈plU A.y.length):FnDoes (gam aA) 165 [.agg (fE k),.ptr m1 0] H fun v _=>v=.bool (vC A k):=by
 refine FnDoes.of (fn:=ir165) rfl ?_
 cases k with
 | none =>
  simp[ir165,fE]
  intro n2 b2 f2
  have o1:=Own.start (aA:=aA) (H:=H) |>.new f2 b2 (s:=.arr 150 [.int .i64 0,.int .i64 (-1)])
  have r1:=aD (o1.at 0 (b:=n2) rfl) (rt:=none) (j:=1) (c:=.int .i64 (-1)) rfl rfl
  simp[aC f2 b2,r1]
  exact⟨o1.keeps,rfl⟩
 | some p =>
  obtain⟨q,m⟩:=p
  obtain⟨hq,hm⟩:=mem_plU.1 hk
  simp[ir165,fE]
  intro n2 b2 f2
  have o1:=Own.start (aA:=aA) (H:=H) |>.new f2 b2 (s:=.arr 150 [aB q,aB m])
  have r0:=aD (o1.at 0 (b:=n2) rfl) (rt:=none) (j:=0) (c:=aB q) rfl rfl
  have r1:=aD (o1.at 0 (b:=n2) rfl) (rt:=none) (j:=1) (c:=aB m) rfl rfl
  have r2:=aJ o1.keeps (aD rm (rt:=none) (j:=2) (c:=u) rfl rfl)
  have r3:=(hA.keeps o1.keeps).at hq (rt:=none) rfl
  have e:vC A (some (q,m))=A.y[q]:=by simp[vC,hq]
  simp[aC f2 b2,r0,r1,r2,r3,hA.isSl,hA.lenM,hq]
  exact⟨o1.keeps,e.symm⟩
theorem i_tidy2(t s:Nat)(A:Aut)(m1 pb:Nat)(u x pv:BV)(H:BH)(hok:A.Ok (wd t))(hx:RdR H 80 3 x aB A.nxt)(rm:H.row m1=.arr 77 [aB t,aB s,u,x])(rp:H.row pb=.arr 80 [pv])(hp:Rd H 3 pv (((List.range (wd t)).map (aU t)).map aB))(ht:t≤3)(k:Pl)(hk:k∈plU A.y.length)(c:Nat)(hc:c<wd t):FnDoes (gam aA) 166 [.agg (fE k),aB c,.ptr pb 0,.ptr m1 0] H fun v _=>v=.agg (fE (aT7 t A k c)):=by
 refine FnDoes.of (fn:=ir166) rfl ?_
 have hcl:c<((List.range (wd t)).map (aU t)).length:=by simpa using hc
 have hcp:((List.range (wd t)).map (aU t))[c]=aU t c:=by simp
 cases k with
 | none =>
  rw[plNx_none]
  simp[ir166,fE]
  intro n4 b4 f4
  simp[aC f4 b4]
  intro n6 b6 f6
  have o1:=Own.start (aA:=aA) (H:=H) |>.new f4 b4 (s:=.arr 150 [.int .i64 0,.int .i64 (-1)]) |>.new f6 b6 (s:=.arr 150 [.int .i64 0,.int .i64 0])
  have r1:=aD (o1.at 1 (b:=n4) rfl) (rt:=none) (j:=1) (c:=.int .i64 (-1)) rfl rfl
  obtain⟨K2,g2,o2⟩:=o1.putAll 0 (b:=n6) (n:=2) (ds:=[.int .i64 0,.int .i64 (-1)]) rfl rfl rfl rfl (rt:=none) rfl
  have r2:=aI (o2.at 0 (b:=n6) rfl) (n:=2) (rt:=none) rfl rfl
  simp[aC f6 b6,r1,g2,r2]
  exact o2.keeps
 | some p =>
  obtain⟨q,m⟩:=p
  obtain⟨hq,hm⟩:=mem_plU.1 hk
  have hq':q<A.nxt.length:=by rw[hok.len];exact hq
  simp[ir166,fE]
  intro n4 b4 f4
  simp[aC f4 b4]
  intro n6 b6 f6
  have o1:=Own.start (aA:=aA) (H:=H) |>.new f4 b4 (s:=.arr 150 [aB q,aB m]) |>.new f6 b6 (s:=.arr 150 [.int .i64 0,.int .i64 0])
  have r0:=aD (o1.at 1 (b:=n4) rfl) (rt:=none) (j:=0) (c:=aB q) rfl rfl
  have r1:=aD (o1.at 1 (b:=n4) rfl) (rt:=none) (j:=1) (c:=aB m) rfl rfl
  have r2:=aJ o1.keeps (aD rp (rt:=none) (j:=0) (c:=pv) rfl rfl)
  have r3:=(hp.keeps o1.keeps).at hcl (rt:=none) rfl
  rw[hcp] at r3
  have hpl:=hp.lenM
  simp at hpl
  rw[oC]
  by_cases h:m &&& aU t c=m
  ·obtain⟨ri,hri,hrr⟩:=hx.at hq'
   obtain⟨row,er,hrl,hrc⟩:=iL hok hq hc
   have er2:A.nxt[q]=row:=by rw[←er];simp[hq']
   have hcl2:c<A.nxt[q].length:=by rw[er2,hrl];exact hc
   have e3:A.nxt[q][c]=A.to q c:=by
    subst er2
    rw[List.getElem?_eq_getElem hcl2] at hrc
    simpa using hrc
   have r4:=aJ o1.keeps (aD rm (rt:=none) (j:=3) (c:=x) rfl rfl)
   have r5:=aJ o1.keeps (hrr none rfl)
   have r6:=(hri.keeps o1.keeps).at hcl2 (rt:=none) rfl
   rw[e3] at r6
   obtain⟨K2,g2,o2⟩:=o1.putAll 0 (b:=n6) (n:=2) (ds:=[aB (A.to q c),aB (aU t c)]) rfl rfl rfl rfl (rt:=none) rfl
   have r7:=aI (o2.at 0 (b:=n6) rfl) (n:=2) (rt:=none) rfl rfl
   rw[if_pos h]
   have hm9:=an64 m hm (aU t c) (wO ht c)
   rw[decide_eq_true h] at hm9
   have hmn:¬((m:Int)<0):=by omega
   simp[aC f6 b6,r0,r1,r2,r3,hp.isSl,hpl,hc,hm9,hmn,r4,hx.isSl,hx.len,hq',r5,hri.isSl,hri.lenM,hcl2,r6,g2,r7,fE]
   exact o2.keeps
  ·rw[if_neg h]
   have hm9:=an64 m hm (aU t c) (wO ht c)
   rw[decide_eq_false h] at hm9
   have hmn:¬((m:Int)<0):=by omega
   obtain⟨K2,g2,o2⟩:=o1.putAll 0 (b:=n6) (n:=2) (ds:=[.int .i64 0,.int .i64 (-1)]) rfl rfl rfl rfl (rt:=none) rfl
   have r7:=aI (o2.at 0 (b:=n6) rfl) (n:=2) (rt:=none) rfl rfl
   simp[aC f6 b6,r0,r1,r2,r3,hp.isSl,hpl,hc,hm9,hmn,g2,r7,fE]
   exact o2.keeps
theorem digs_get{t c j:Nat}(h:j<t):(digs t c)[j]'(by rw[aO];exact h)=dg c j:=by simp[digs]
theorem tidy_reg(C:bR)(Kn:Env→BH→Prop)(e:Env)(t i j n3 n4 P T:Nat)(M K5:BH)(hlt:i<wd t)(e3:e 3=.ptr n3 0)(e4:e 4=aB i)(e5:e 5=aB j)(r5:M.rd none none (.ptr n3 0)=some (.sl n4 0 (wd t)))(r6:M.rd none none (.ptr n4 i)=some (aB P))(hsh':bC .shl (.int .i64 1) (.int .i64 (j:Int))=some (aB T))(hor':bC .or (.int .i64 (P:Int)) (.int .i64 (T:Int))=some (aB (P ||| T)))(g5:M.wr aA none 1 (.ptr n4 i) (aB (P ||| T))=some K5)(hK:∀e':Env,(∀t,t<30→e' t=e t)→Kn e' K5):
  wpO aA C [⟨some 30,.load none none (.t 3),none,[]⟩,⟨some 31,.mov (.t 4),none,[]⟩,⟨some 32,.idx 1 (.t 30) (.t 31),none,[]⟩,⟨some 33,.load none none (.t 32),none,[]⟩,⟨some 34,.mov (.t 5),none,[]⟩,⟨some 35,.bin .shl (.c (.int .i64 1)) (.t 34),none,[]⟩,
  ⟨some 36,.bin .or (.t 33) (.t 35),none,[]⟩,⟨some 37,.idx 1 (.t 30) (.t 31),none,[]⟩,⟨none,.store none 1 (.t 37) (.t 36),none,[]⟩] Kn e M:=by
 simp[-cR,e3,e4,e5,r5,hlt,r6]
 refine dN _ _ (aB T) hsh' (by simp) (by simp) ?_
 simp[-cR]
 refine dN _ _ (aB (P ||| T)) hor' (by simp) (by simp) ?_
 simp[g5,hlt]
 refine hK _ fun t ht=>?_
 simp[Env.put,show t≠30 by omega,show t≠31 by omega,show t≠32 by omega,show t≠33 by omega,show t≠34 by omega,show t≠35 by omega,show t≠36 by omega,show t≠37 by omega]
theorem i_tidy(t s:Nat)(ht:t≤3)(A:Aut)(m:BV)(H:BH)(h:RdM H t s A m)(hok:A.Ok (wd t))(hs:s<A.y.length)(hn:A.y.length≤120000):FnDoes (gam aA) 110 [m] H fun v K=>OwnM aA H K t 0 (TA t (A.lang s)) v:=by
 refine FnDoes.of (fn:=ir110) rfl ?_
 obtain⟨u,x,rfl,hu,hx⟩:=h
 have u1:=hu.one
 have x1:=aF hx.isSl
 have hw:=eQ ht
 simp[ir110,u1,x1]
 intro n1 b1 f1
 simp[aC f1 b1]
 intro n2 b2 f2
 have o1:=Own.start (aA:=aA) (H:=H) |>.new f1 b1 (s:=.arr 77 [aB t,aB s,u,x]) |>.new f2 b2 (s:=.arr 77 [.int .i64 0,.int .i64 0,.nils,.nils])
 have r0:=aD (o1.at 1 (b:=n1) rfl) (rt:=none) (j:=0) (c:=aB t) rfl rfl
 simp[aC f2 b2,r0]
 refine aN (dM t _ (by omega)) ?_
 have c1:(wd t:Int)≤140737488355328:=by omega
 have c8:8*(wd t:Int)≤140737488355328:=by omega
 simp[c1,c8]
 intro n4 b4 f4
 simp[aC f4 b4]
 intro n3 b3 f3
 have o2:=o1.new f4 b4 (s:=.arr 3 (List.replicate (wd t) (.int .i64 0))) |>.new f3 b3 (s:=.arr 80 [.nils])
 obtain⟨K3,g3,o3⟩:=o2.put 0 (b:=n3) rfl (j:=0) (u:=.sl n4 0 (wd t)) (by simp) rfl (rt:=none) rfl
 have r3:=aD (o3.at 0 (b:=n3) rfl) (rt:=none) (j:=0) (c:=.sl n4 0 (wd t)) rfl rfl
 simp[aC f3 b3,g3,r3]
 obtain⟨I,hI⟩:∃I:Nat→Env→BH→Prop,I=(fun i e K=>e 15=aB i∧Own aA H K [(some n3,.arr 80 [.sl n4 0 (wd t)]),(some n4,.arr 3 ((iG (wd t) (aU t) i).map aB)),(some n2,.arr 77 [.int .i64 0,.int .i64 0,.nils,.nils]),(some n1,.arr 77 [aB t,aB s,u,x])]):=⟨_,rfl⟩
 refine aE (wd t) [(1,.ptr n1 0),(2,.ptr n2 0),(3,.ptr n3 0),(14,aB (wd t))] I (i0:=0) ?_ ?_ ?_ (Nat.zero_le _) ?_
 ·rfl
 ·simp
 ·rw[hI]
  refine⟨rfl,?_⟩
  rw[qR,repl0]
  exact o3
 clear o1 o2 o3 r0 r3 g3
 rintro i e K hi ⟨e1,e2,e3,e14,-⟩ hh
 rw[hI] at hh
 obtain⟨e15,o⟩:=hh
 simp only[] at e1 e2 e3 e14
 have wi:=wS (n:=i) (by omega)
 by_cases hlt:i<wd t
 ·have r1:=aD (o.at 3 (b:=n1) rfl) (rt:=none) (j:=0) (c:=aB t) rfl rfl
  simp[e1,e14,e15,hlt,r1]
  refine(lY (aA:=aA) t i K (by omega) (by omega)).step fun dv K1 k1 hdv=>?_
  obtain⟨dbo,hdv,hdf⟩:=hdv
  have o1:=o.take k1 hdv hdf
  have hdl:dv.slen=t:=by rw[hdv.rd.lenM,aO]
  simp[hdv.rd.isSl,hdl]
  obtain⟨J,hJ⟩:∃J:Nat→Env→BH→Prop,J=(fun j e K=>e 23=aB j∧Own aA H K [(dbo,.arr 3 ((digs t i).map aB)),(some n3,.arr 80 [.sl n4 0 (wd t)]),(some n4,.arr 3 (((iG (wd t) (aU t) i).set i (aU j i)).map aB)),(some n2,.arr 77 [.int .i64 0,.int .i64 0,.nils,.nils]),(some n1,.arr 77 [aB t,aB s,u,x])]):=⟨_,rfl⟩
  refine aE t [(1,.ptr n1 0),(2,.ptr n2 0),(3,.ptr n3 0),(14,aB (wd t)),(15,aB i),(4,aB i),(21,dv),(22,aB t)] J (i0:=0) ?_ ?_ ?_ (Nat.zero_le _) ?_
  ·rfl
  ·simp[e1,e2,e3,e14,e15]
  ·rw[hJ]
   refine⟨by simp,?_⟩
   have:(iG (wd t) (aU t) i).set i (aU 0 i)=iG (wd t) (aU t) i:=by
    unfold iG
    rw[List.set_append_right _ _ (by simp),show wd t-i=(wd t-(i+1))+1 by omega,List.replicate_succ]
    simp[aU]
   rw[this]
   exact o1
  clear e1 e2 e3 e14 e15 o o1 r1
  rintro j e M hj ⟨e1,e2,e3,e14,e15,e4,e21,e22,-⟩ hh
  rw[hJ] at hh
  obtain⟨e23,o⟩:=hh
  simp only[] at e1 e2 e3 e14 e15 e4 e21 e22
  have wj:=wS (n:=j) (by omega)
  by_cases hlj:j<t
  ·have hdr:=o.rd 0 rfl (v:=dv) hdv.vec
   have hrj:=hdr.at (i:=j) (by rw[aO];exact hlj) (rt:=none) rfl
   rw[digs_get hlj] at hrj
   have hd3:=vF i j
   simp[e21,e22,e23,hlj,hdr.isSl,hdl,hrj]
   have hps:aU (j+1) i=aU j i ||| (if dg i j=2 then 2^j else 0):=rfl
   by_cases h2:dg i j=2
   ·rw[if_pos h2] at hps
    have h2':(dg i j:Int)=2:=by omega
    have r5:=aD (o.at 1 (b:=n3) rfl) (rt:=none) (j:=0) (c:=.sl n4 0 (wd t)) rfl rfl
    have r6:=aD (o.at 2 (b:=n4) rfl) (rt:=none) (j:=i) (c:=aB (aU j i)) rfl (by simp[mC _ hi,hlt])
    obtain⟨T,hT⟩:∃T,T=2^j:=⟨_,rfl⟩
    have hT8:T<8:=by rw[hT];exact Nat.pow_lt_pow_right (n:=3) (by omega) (by omega)
    have hsh:=pb_shl (j:=j) (by omega)
    rw[←hT] at hsh hps
    have hor:=pb_or (wO (t:=j) (by omega) i) hT8
    obtain⟨K5,g5,o5⟩:=o.put 2 (b:=n4) rfl (j:=i) (u:=aB (aU j i ||| T)) (by simp[mC _ hi,hlt]) rfl (rt:=none) rfl
    have hor':bC .or (.int .i64 (aU j i:Int)) (.int .i64 (T:Int))=some (aB (aU j i ||| T)):=hor
    have hsh':bC .shl (.int .i64 1) (.int .i64 (j:Int))=some (aB T):=hsh
    simp[h2',-nP]
    refine tidy_reg _ _ _ t i j n3 n4 (aU j i) T M K5 hlt (by simp[e3]) (by simp[e4]) (by simp) r5 r6 hsh' hor' g5 fun e' he'=>?_
    have f23:e' 23=aB j:=by rw[he' 23 (by omega)];simp[e23]
    simp[f23,wj,hlj]
    rw[hJ]
    refine⟨by simp,?_⟩
    rw[hps]
    simpa[List.map_set] using o5
   ·rw[if_neg h2,Nat.or_zero] at hps
    have h2':¬(dg i j:Int)=2:=by omega
    simp[h2',e23,wj,hlj]
    rw[hJ]
    refine⟨by simp,?_⟩
    rw[hps]
    exact o
  ·have hje:j=t:=by omega
   subst hje
   simp[e21,e22,e23,e15,wi,hlt]
   rw[hI]
   refine⟨by simp,?_⟩
   rw[←mA _ hlt]
   exact o.tail
 ·have hie:i=wd t:=by omega
  subst hie
  have hpl:iG (wd t) (aU t) (wd t)=(List.range (wd t)).map (aU t):=sZ _ _
  rw[hpl] at o
  have q0:=aD (o.at 3 (b:=n1) rfl) (rt:=none) (j:=0) (c:=aB t) rfl rfl
  have q1:=aD (o.at 3 (b:=n1) rfl) (rt:=none) (j:=1) (c:=aB s) rfl rfl
  have hpr:=o.rd 1 rfl (v:=.sl n4 0 (wd t)) (by rw[List.length_map,List.length_map,List.length_range];rfl)
  obtain⟨hR,hRl,hRL⟩:=aH3 ht hok hs
  have grow:=aJ8 (aA:=aA) (κ:=Pl) fE aE0 encP_eq t ht (some (s,0)) 0 165 166 [.ptr n1 0] [.ptr n3 0,.ptr n1 0] (aT7 t A) (vC A) (plU A.y.length) (yU ht hok hs) (by rw[aO1];omega) K
   (fun L kL k hk=>i_tidy1 t s A n1 u x L (hu.keeps (o.keeps.trans kL)) ((o.call kL).at 3 rfl) k hk)
   (fun L kL k hk c hc=>i_tidy2 t s A n1 n3 u x (.sl n4 0 (wd t)) L hok (hx.keeps (o.keeps.trans kL)) ((o.call kL).at 3 rfl) ((o.call kL).at 0 rfl) (hpr.keeps kL) ht k hk c hc)
  simp[e1,e3,e14,e15,q0,q1]
  refine grow.step fun v K1 k1 hv=>?_
  unfold dA at hv
  rw[if_neg (by omega)] at hv
  obtain⟨mm,rfl,hmm⟩:=hv
  have hmm:OwnM aA K K1 t 0 (wL t A s) mm:=hmm
  obtain⟨uu,ww,hag,_⟩:=hmm.rd
  have hum:uu.one=true∧ww.one=true:=by
   obtain⟨u',w',bo,wo,vs,fr,h1,h2,h3,h4,h5⟩:=hmm
   rw[hag] at h1
   simp only[BV.agg.injEq,List.cons.injEq,and_true] at h1
   obtain⟨_,_,rfl,rfl⟩:=h1
   exact⟨h3.one,h4.one⟩
  simp[hag,hum.1,hum.2]
  intro n7 b7 f7
  obtain⟨K5,g5,o5⟩:=((Own.start (aA:=aA) (H:=K1)).new f7 b7 (s:=.arr 77 [.int .i64 0,.int .i64 0,.nils,.nils])).putAll 0 (b:=n7) (n:=4) (ds:=[aB t,aB 0,uu,ww]) rfl rfl rfl (by simp[hum.1,hum.2]) (rt:=none) rfl
  have q2:=aI (o5.at 0 (b:=n7) rfl) (n:=4) (rt:=none) rfl rfl
  have k5:=o5.keeps
  simp[aC f7 b7,g5,q2]
  obtain⟨G,hG,hmg⟩:=i_merged (aA:=aA) t 0 ht (wL t A s) mm K5 (hmm.rd.keeps k5) hR hR.pos (by omega)
  rw[hag] at hmg
  refine hmg.step fun v K6 k6 hv=>?_
  have hTA:fD (wd t) (wL t A s) G 0=TA t (A.lang s):=lM hG hR hR.pos hRL
  rw[hTA] at hv
  obtain⟨u',w',bo,wo,vs,fr,rfl,om,hm1,hm2,hm3⟩:=hv
  have oj:=Own.join ((o.call (k1.trans k5)).sub (M:=[(some n2,.arr 77 [.int .i64 0,.int .i64 0,.nils,.nils])]) (.cons _ (.cons _ (.cons_cons _ (.cons _ .slnil))))) k6 om
  obtain⟨K12,g12,o12⟩:=oj.putAll 0 (b:=n2) (n:=4) (ds:=[aB t,aB 0,u',w']) rfl rfl rfl (by simp[hm1.one,hm2.one]) (rt:=none) rfl
  have q9:=aI (o12.at 0 (b:=n2) rfl) (n:=4) (rt:=none) rfl rfl
  simp[e2,g12,q9]
  exact⟨o12.keeps,u',w',bo,wo,vs,fr,rfl,o12.drop 1,hm1,hm2,hm3⟩
theorem mO(t s:Nat)(ht:t≤3)(A:Aut)(m:BV)(H:BH)(h:RdRel H t s A m)(hok:A.Ok (wd t))(hs:s<A.y.length)(hn:A.y.length≤100000):FnDoes (gam aA) 113 [m] H fun v K=>OwnM aA H K t 0 (TA t (A.lang s)) v:=by
 refine FnDoes.of (fn:=ir113) rfl ?_
 have hR:=h
 obtain⟨u,x,rfl,hu,hx⟩:=h
 have u1:=hu.one
 have x1:=aF hx.isSl
 simp[ir113,u1,x1]
 intro n1 b1 f1
 simp[aC f1 b1]
 intro n2 b2 f2
 have o1:=Own.start (aA:=aA) (H:=H) |>.new f1 b1 (s:=.arr 25 [aB t,aB s,u,x]) |>.new f2 b2 (s:=.arr 77 [.int .i64 0,.int .i64 0,.nils,.nils])
 have r0:=aI (o1.at 1 (b:=n1) rfl) (n:=4) (rt:=none) rfl rfl
 simp[aC f2 b2,r0]
 refine(xI (aA:=aA) t s (wd t) A _ _ (hR.keeps o1.keeps) (by have:=eQ ht;omega) hok (by omega)).step fun v K1 k1 hv=>?_
 simp
 refine(i_tidy (aA:=aA) t s ht A v K1 hv.rd hok hs (by omega)).step fun v2 K2 k2 hv2=>?_
 obtain⟨u',w',bo,wo,vs,fr,rfl,om,hm1,hm2,hm3⟩:=hv2
 have oj:=Own.join ((o1.call k1).sub (M:=[(some n2,.arr 77 [.int .i64 0,.int .i64 0,.nils,.nils])]) (.cons_cons _ (.cons _ .slnil))) k2 om
 obtain⟨K12,g12,o12⟩:=oj.putAll 0 (b:=n2) (n:=4) (ds:=[aB t,aB 0,u',w']) rfl rfl rfl (by simp[hm1.one,hm2.one]) (rt:=none) rfl
 have q9:=aI (o12.at 0 (b:=n2) rfl) (n:=4) (rt:=none) rfl rfl
 simp[g12,q9]
 exact⟨o12.keeps,u',w',bo,wo,vs,fr,rfl,o12.drop 1,hm1,hm2,hm3⟩
theorem qQ(t s:Nat)(ht:t≤3)(A:Aut)(m:BV)(H:BH)(h:RdM H t s A m)(hok:A.Ok (wd t))(hs:s<A.y.length)(hn:A.y.length≤100000):FnDoes (gam aA) 69 [m] H fun v K=>RelR aA H t (told (TA t (A.lang s))) v K:=by
 refine FnDoes.of (fn:=ir69) rfl ?_
 have hR:=h
 obtain⟨u,x,rfl,hu,hx⟩:=h
 have u1:=hu.one
 have x1:=aF hx.isSl
 simp[ir69,u1,x1]
 intro n1 b1 f1
 simp[aC f1 b1]
 intro n2 b2 f2
 have o1:=Own.start (aA:=aA) (H:=H) |>.new f1 b1 (s:=.arr 77 [aB t,aB s,u,x]) |>.new f2 b2 (s:=.arr 25 [.int .i64 0,.int .i64 0,.nils,.nils])
 have r0:=aI (o1.at 1 (b:=n1) rfl) (n:=4) (rt:=none) rfl rfl
 simp[aC f2 b2,r0]
 refine(i_tidy (aA:=aA) t s ht A _ _ (hR.keeps o1.keeps) hok hs (by omega)).step fun v2 K2 k2 hv2=>?_
 have hT:=aY ht hok hs
 simp
 refine(aJ6 (aA:=aA) t (wd t) _ v2 K2 hv2.rd (by have:=eQ ht;omega) hT.1.ok).step fun v3 K3 k3 hv3=>?_
 have o2:=(o1.call k2).call k3
 unfold RelR at hv3
 unfold told at hv3
 by_cases hbig:150<(TA t (A.lang s)).y.length
 ·rw[if_pos hbig] at hv3
  simp only at hv3
  subst hv3
  obtain⟨K12,g12,o12⟩:=o2.putAll 0 (b:=n2) (n:=4) (ds:=[aB 0,aB 0,.nils,.nils]) rfl rfl rfl rfl (rt:=none) rfl
  have q9:=aI (o12.at 0 (b:=n2) rfl) (n:=4) (rt:=none) rfl rfl
  simp[g12,q9]
  refine⟨o12.keeps,?_⟩
  unfold told
  rw[if_pos hbig]
  rfl
 ·rw[if_neg hbig] at hv3
  simp only at hv3
  obtain⟨mm,rfl,u',w',bo,wo,vs,fr,rfl,om,hm1,hm2,hm3⟩:=hv3
  have oj:=Own.join ((o1.call k2).sub (M:=[(some n2,.arr 25 [.int .i64 0,.int .i64 0,.nils,.nils])]) (.cons_cons _ (.cons _ .slnil))) k3 om
  obtain⟨K12,g12,o12⟩:=oj.putAll 0 (b:=n2) (n:=4) (ds:=[aB t,aB 0,u',w']) rfl rfl rfl (by simp[hm1.one,hm2.one]) (rt:=none) rfl
  have q9:=aI (o12.at 0 (b:=n2) rfl) (n:=4) (rt:=none) rfl rfl
  simp[g12,q9]
  refine⟨o12.keeps,?_⟩
  unfold told
  rw[if_neg hbig]
  exact⟨_,rfl,u',w',bo,wo,vs,fr,rfl,o12.drop 1,hm1,hm2,hm3⟩
theorem and64b:∀a,a<8→∀b,b<2→IntKind.i64.wrap ((BitVec.ofInt IntKind.i64.bits (a:Nat) &&& BitVec.ofInt IntKind.i64.bits (b:Nat)).toNat:Int)=((a &&& b:Nat):Int):=by decide +kernel
theorem pb_and1{a:Nat}(ha:a<8):bC .and (aB a) (.int .i64 1)=some (aB (a % 2)):=by
 have h:bC .and (aB a) (.int .i64 1)=some (.int .i64 (IntKind.i64.wrap ((BitVec.ofInt IntKind.i64.bits (a:Nat) &&& BitVec.ofInt IntKind.i64.bits (1:Nat)).toNat:Int))):=rfl
 rw[h,and64b a ha 1 (by omega),Nat.and_one_is_mod]
theorem shr64b:∀a,a<8→∀j,j<3→((a:Nat):Int).fdiv (2^min ((j:Nat):Int).toNat IntKind.i64.bits)=((a / 2^j:Nat):Int):=by decide +kernel
theorem pb_shr{a j:Nat}(ha:a<8)(hj:j<3):bC .shr (aB a) (.int .u64 (j:Int))=some (aB (a / 2^j)):=by
 have h:bC .shr (aB a) (.int .u64 (j:Int))=if (j:Int)<0 then none else some (.int .i64 (((a:Nat):Int).fdiv (2^min ((j:Nat):Int).toNat IntKind.i64.bits))):=rfl
 rw[h,if_neg (by omega),shr64b a ha j hj]
theorem pb_shlu{j:Nat}(hj:j<4):bC .shl (.int .i64 1) (.int .u64 (j:Int))=some (aB (2^j)):=by
 have h:bC .shl (.int .i64 1) (.int .u64 (j:Int))=if (j:Int)<0 then none else some (.int .i64 (IntKind.i64.wrap ((1:Int)*2^min ((j:Nat):Int).toNat IntKind.i64.bits))):=rfl
 have hd:∀j,j<4→IntKind.i64.wrap ((1:Int)*2^min ((j:Nat):Int).toNat IntKind.i64.bits)=((2^j:Nat):Int):=by decide +kernel
 rw[h,if_neg (by omega),hd j hj]
theorem wrapU{j:Nat}(hj:j<1000):IntKind.u64.wrap (j:Int)=(j:Int):=by
 have:∀j,j<1000→IntKind.u64.wrap ((j:Nat):Int)=((j:Nat):Int):=by decide +kernel
 exact this j hj
theorem ended1b:∀t,t<4→∀m,m<8→∀c,c<26→∀j,j<t→(!(dg c j != 2&&((m ||| aU j c) / 2^j % 2==1)&&(m &&& aU t c==m)))=true:=by decide +kernel
theorem ended1(t:Nat)(ht:t<4)(m:Nat)(hm:m<8)(c:Nat)(hc:c<26)(j:Nat)(hj:j<t)(h2:dg c j≠2)(h1:(m ||| aU j c) / 2^j % 2=1):m &&& aU t c≠m:=by
 intro h
 have:=ended1b t ht m hm c hc j hj
 simp[h2,h1,h] at this
theorem ended2b:∀t,t<4→∀m,m<2^t→∀c,c<26→(!((List.range t).all (fun j=>dg c j==2||(m ||| aU j c) / 2^j % 2==0))||((m &&& aU t c==m)&&(m ||| aU t c==aU t c)))=true:=by decide +kernel
theorem ended2(t:Nat)(ht:t<4)(m:Nat)(hm:m<2^t)(c:Nat)(hc:c<26)(h:∀j,j<t→dg c j=2∨(m ||| aU j c) / 2^j % 2=0):m &&& aU t c=m∧m ||| aU t c=aU t c:=by
 have h1:=ended2b t ht m hm c hc
 have h2:(List.range t).all (fun j=>dg c j==2||(m ||| aU j c) / 2^j % 2==0)=true:=by
  rw[List.all_eq_true]
  intro j hj
  rw[List.mem_range] at hj
  rcases h j hj with h|h<;>simp[h]
 rw[h2] at h1
 simpa using h1
theorem ended3:∀t,t<4→∀m,m<2^t→∀c,c<26→∀j,j<t+1→m ||| aU j c<8:=by decide +kernel
theorem beqN1(a:Nat):((a:Int) % 2==1)=decide (a % 2=1):=by
 by_cases h:a % 2=1
 ·rw[decide_eq_true h];simp;omega
 ·rw[decide_eq_false h];simp;omega
theorem beqN2(a:Nat):((a:Int)==2)=decide (a=2):=by
 by_cases h:a=2
 ·subst h;rfl
 ·rw[decide_eq_false h];simp;omega
theorem ended_r1(C:bR)(Kn:Env→BH→Prop)(e:Env)(M:BH)(j E:Nat)(b:Bool)(e1:e 1=aB E)(e7:e 7=aB j)(e8:e 8=.bool b)(hE:E<8)(hj:j<3)(hK:∀e':Env,(∀t,t<18→e' t=e t)→e' 27=.bool (!b&&decide (E / 2^j % 2=1))→Kn e' M):
  wpO aA C [⟨some 18,.mov (.t 8),none,[]⟩,⟨some 19,.not (.t 18),none,[]⟩,⟨some 20,.mov (.t 19),none,[]⟩,⟨some 21,.mov (.t 1),some (20,true),[]⟩,⟨some 22,.mov (.t 7),some (20,true),[]⟩,⟨some 23,.conv .u64 (.t 22),some (20,true),[]⟩,
   ⟨some 24,.bin .shr (.t 21) (.t 23),some (20,true),[]⟩,⟨some 25,.bin .and (.t 24) (.c (.int .i64 1)),some (20,true),[]⟩,⟨some 26,.bin .eql (.t 25) (.c (.int .i64 1)),some (20,true),[]⟩,⟨some 27,.pick (.t 20) (.t 26) (.c (.bool false)),none,[]⟩] Kn e M:=by
 have fr:∀(e':Env),(∃v1 v2 v3 v4 v5 v6 v7 v8 v9 v10,e'=((((((((((e.put 18 v1).put 19 v2).put 20 v3).put 21 v4).put 22 v5).put 23 v6).put 24 v7).put 25 v8).put 26 v9).put 27 v10))→∀t,t<18→e' t=e t:=by
  rintro e' ⟨v1,v2,v3,v4,v5,v6,v7,v8,v9,v10,rfl⟩ t ht
  simp[Env.put,show t≠18 by omega,show t≠19 by omega,show t≠20 by omega,show t≠21 by omega,show t≠22 by omega,show t≠23 by omega,show t≠24 by omega,show t≠25 by omega,show t≠26 by omega,show t≠27 by omega]
 cases b with
 | true =>
  simp[e8]
  exact hK _ (fr _ ⟨_,_,_,_,_,_,_,_,_,_,rfl⟩) (by simp)
 | false =>
  have hsr:=pb_shr hE hj
  have hlt8:E / 2^j<8:=Nat.lt_of_le_of_lt (Nat.div_le_self _ _) hE
  have han:=pb_and1 hlt8
  obtain⟨V,hV⟩:∃V,V=E / 2^j:=⟨_,rfl⟩
  rw[←hV] at hsr han hK
  simp[-cR,e8,e1,e7,wrapU (j:=j) (by omega)]
  refine dN _ _ (aB V) hsr (by simp) (by simp) ?_
  simp[-cR]
  refine dN _ _ (aB (V % 2)) han (by simp) (by simp) ?_
  simp
  refine hK _ (fr _ ⟨_,_,_,_,_,_,_,_,_,_,rfl⟩) ?_
  simp[beqN1]
theorem ended_r2(C:bR)(Kn:Env→BH→Prop)(r:List BOper)(e:Env)(M:BH)(j E T:Nat)(e1:e 1=aB E)(e7:e 7=aB j)(hj:j<3)(hsh:bC .shl (.int .i64 1) (.int .u64 (j:Int))=some (aB T))(hor:bC .or (aB E) (aB T)=some (aB (E ||| T)))(hK:∀e':Env,(∀t,t<29→e' t=e t)→e' 33=aB (E ||| T)→wpO aA C r Kn e' M):
  wpO aA C (⟨some 29,.mov (.t 1),none,[]⟩::⟨some 30,.mov (.t 7),none,[]⟩::⟨some 31,.conv .u64 (.t 30),none,[]⟩::⟨some 32,.bin .shl (.c (.int .i64 1)) (.t 31),none,[]⟩::⟨some 33,.bin .or (.t 29) (.t 32),none,[]⟩::r) Kn e M:=by
 simp[-cR,e1,e7,wrapU (j:=j) (by omega)]
 refine dN _ _ (aB T) hsh (by simp) (by simp) ?_
 simp[-cR]
 refine dN _ _ (aB (E ||| T)) hor (by simp) (by simp) ?_
 simp
 refine hK _ (fun t ht=>?_) (by simp)
 simp[Env.put,show t≠29 by omega,show t≠30 by omega,show t≠31 by omega,show t≠32 by omega,show t≠33 by omega]
theorem s_ended(t m c:Nat)(ht:t≤3)(hm:m<2^t)(hc:c<26)(H:BH):Runs (gam aA) 202 [aB t,aB m,aB c] H (if m &&& aU t c=m then aB (aU t c) else .int .i64 (-1)) H:=by
 refine aV (fn:=ir202) rfl ?_
 have hm8:m<8:=Nat.lt_of_lt_of_le hm (Nat.pow_le_pow_right (n:=2) (by omega) ht)
 simp[ir202]
 refine aE t [(0,aB t),(2,aB c)] (fun j e K=>e 7=aB j∧e 1=aB (m ||| aU j c)∧(∀i,i<j→dg c i=2∨(m ||| aU i c) / 2^i % 2=0)∧K=H) (i0:=0) ?_ ?_ ?_ (Nat.zero_le _) ?_
 ·rfl
 ·simp
 ·exact⟨rfl,by simp[aU],fun i hi=>by omega,rfl⟩
 rintro j e K hj ⟨e0,e2,-⟩ ⟨e7,e1,hok,rfl⟩
 simp only[] at e0 e2
 have wj:=wS (n:=j) (by omega)
 by_cases hlt:j<t
 ·simp[e0,e2,e7,hlt]
  refine aN (tR c j K (by omega) (by omega)) ?_
  have hp8:=ended3 t (by omega) m hm c hc j (by omega)
  have hps:aU (j+1) c=aU j c ||| (if dg c j=2 then 2^j else 0):=rfl
  simp[-nP]
  rw[nP]
  refine dN (aB (dg c j)) (.int .i64 2) (.bool (decide (dg c j=2))) (by rw[←beqN2];rfl) (by simp) (by simp) ?_
  simp[-nP]
  rw[nP]
  simp[-nP]
  refine ended_r1 _ _ _ _ j (m ||| aU j c) (decide (dg c j=2)) (by simp[e1]) (by simp[e7]) (by simp) hp8 (by omega) fun e' he' h27=>?_
  have f1:e' 1=aB (m ||| aU j c):=by rw[he' 1 (by omega)];simp[e1]
  have f7:e' 7=aB j:=by rw[he' 7 (by omega)];simp[e7]
  have f8:e' 8=.bool (decide (dg c j=2)):=by rw[he' 8 (by omega)];simp
  have f0:e' 0=aB t:=by rw[he' 0 (by omega)];simp[e0]
  have f2:e' 2=aB c:=by rw[he' 2 (by omega)];simp[e2]
  by_cases h2:dg c j=2
  ·rw[if_pos h2] at hps
   simp[h2] at h27 f8
   have hsh:=pb_shlu (j:=j) (by omega)
   have hor:=pb_or hp8 (show 2^j<8 from Nat.pow_lt_pow_right (n:=3) (by omega) (by omega))
   obtain⟨T,hT⟩:∃T,T=2^j:=⟨_,rfl⟩
   rw[←hT] at hsh hps hor
   simp[-nP,h27]
   rw[nP]
   simp[-nP,f8]
   refine ended_r2 _ _ _ _ _ j (m ||| aU j c) T (by simp[f1]) (by simp[f7]) (by omega) hsh hor fun e2' hf2 h1'=>?_
   have g7:e2' 7=aB j:=by rw[hf2 7 (by omega)];simp[f7]
   simp[g7,h1',wj,hlt]
   refine⟨by rw[hps,Nat.or_assoc],fun i hi=>?_⟩
   by_cases hij:i=j
   ·subst hij;exact .inl h2
   ·exact hok i (by omega)
  ·rw[if_neg h2,Nat.or_zero] at hps
   simp[h2] at h27 f8
   by_cases h1:(m ||| aU j c) / 2^j % 2=1
   ·have hne:=ended1 t (by omega) m hm8 c hc j hlt h2 h1
    rw[if_neg hne]
    simp[h1] at h27
    simp[h27]
   ·simp[h1] at h27
    simp[h27,f8,f7,wj,hlt]
    refine⟨by rw[f1,hps],fun i hi=>?_⟩
    by_cases hij:i=j
    ·subst hij;exact .inr (by omega)
    ·exact hok i (by omega)
 ·have hje:j=t:=by omega
  subst hje
  obtain⟨h1,h2⟩:=ended2 j (by omega) m hm c hc hok
  rw[if_pos h1]
  simp[e0,e7,e1,h2]
theorem yV(t:Nat)(X:Aut)(c:Nat):aT7 t X none c=none:=rfl
def stepS(t:Nat)(X:Aut)(kk c:Nat):Option Nat:=if (kk % 2^t) &&& aU t c=kk % 2^t then some (X.to (kk / 2^t) c*2^t+aU t c) else none
def sxS(t:Nat)(X:Aut)(kk:Nat):List Nat:=(List.range (wd t)).filterMap (stepS t X kk)
def bG(t:Nat)(X:Aut)(s:Nat):List Nat:=aH (sxS t X) (s*2^t) (X.y.length*2^t)
def aX3(t kk:Nat):Pl:=some (kk / 2^t,kk % 2^t)
theorem aX2{t a b:Nat}(h:aX3 t a=aX3 t b):a=b:=by
 simp only[aX3,Option.some.injEq,Prod.mk.injEq] at h
 rw[←Nat.div_add_mod a (2^t),←Nat.div_add_mod b (2^t),h.1,h.2]
theorem aG3(t:Nat)(X:Aut)(kk c:Nat):aT7 t X (aX3 t kk) c=match stepS t X kk c with|none=>none|some to=>aX3 t to:=by
 unfold aX3 stepS
 rw[oC]
 by_cases h:kk % 2^t &&& aU t c=kk % 2^t
 ·rw[if_pos h,if_pos h]
  have hp:=qH t c
  have h2:0<2^t:=Nat.two_pow_pos t
  simp only[Option.some.injEq,Prod.mk.injEq]
  refine⟨?_,?_⟩
  ·rw[Nat.mul_comm,Nat.mul_add_div h2,Nat.div_eq_of_lt hp,Nat.add_zero]
  ·rw[Nat.mul_comm,Nat.mul_add_mod,Nat.mod_eq_of_lt hp]
 ·rw[if_neg h,if_neg h]
theorem aS9{t:Nat}{X:Aut}(h:X.Ok (wd t)){kk c to:Nat}(hk:kk<X.y.length*2^t)(hc:c<wd t)(hs:stepS t X kk c=some to):to<X.y.length*2^t:=by
 unfold stepS at hs
 split at hs
 ·cases hs
  have h1:=h.to (Nat.div_lt_of_lt_mul (by rw[Nat.mul_comm];exact hk)) hc
  have hp:=qH t c
  have:X.to (kk / 2^t) c*2^t+2^t≤X.y.length*2^t:=by rw[←Nat.succ_mul];exact Nat.mul_le_mul_right _ h1
  omega
 ·cases hs
theorem gQ{t:Nat}{X:Aut}(h:X.Ok (wd t)){s:Nat}(hs:s<X.y.length):ClosedL (sxS t X) (s*2^t) (List.range (X.y.length*2^t)):=by
 refine⟨List.mem_range.2 ((Nat.mul_lt_mul_right (Nat.two_pow_pos t)).2 hs),fun k hk l hl=>?_⟩
 simp only[sxS,List.mem_filterMap,List.mem_range] at hl
 obtain⟨c,hc,he⟩:=hl
 exact List.mem_range.2 (aS9 h (List.mem_range.1 hk) hc he)
theorem uB{t:Nat}{X:Aut}(h:X.Ok (wd t)){s:Nat}(hs:s<X.y.length):DoneL (sxS t X) (s*2^t) (X.y.length*2^t):=by
 have:=(gQ h hs).done
 rwa [List.length_range] at this
theorem aO0{α β:Type}[DecidableEq α][DecidableEq β]{f:α→β}(hf:∀a b,f a=f b→a=b){z:β}:∀{l:List α} {k:α},k∈l→pos (l.map f++[z]) (f k)=pos l k
 | [],k,h=>by simp at h
 | x::l,k,h=>by
  unfold pos
  rw[List.map_cons,List.cons_append,List.idxOf_cons,List.idxOf_cons]
  by_cases hx:x=k
  ·subst hx;simp
  ·have h1:(f x==f k)=false:=by simpa using fun e=>hx (hf _ _ e)
   have h2:(x==k)=false:=by simpa using hx
   rw[h1,h2]
   have hk:k∈l:=by
    rcases List.mem_cons.1 h with rfl|h
    ·exact absurd rfl hx
    ·exact h
   have:=aO0 hf (z:=z) hk
   unfold pos at this
   simp only[cond_false]
   rw[this]
theorem aT6{α:Type}[DecidableEq α]{f:α→Pl}(hf:∀a,f a≠none)(l:List α):pos (l.map f++[none]) none=l.length:=by
 have:(none:Pl)∉l.map f:=fun h=>by
  obtain⟨a,_,ha⟩:=List.mem_map.1 h
  exact hf a ha
 have gen:∀{β:Type} [DecidableEq β] {l:List β} {z:β},z∉l→pos (l++[z]) z=l.length:=fun hz=>by
  unfold pos
  rw[List.idxOf_append,if_neg hz]
  simp
 rw[gen this,List.length_map]
def bH(t:Nat)(X:Aut)(s:Nat):Aut:=aQ (wd t) (aT7 t X) (vC X) ((bG t X s).map (aX3 t)++[none])
def numS(KS:List Nat):Option Nat→Nat
 | none=>KS.length
 | some to=>pos KS to
theorem aZ7{t:Nat}{X:Aut}(h:X.Ok (wd t)){s:Nat}(hs:s<X.y.length):
  (bH t X s).nxt=(bG t X s).map (fun kk=>(List.range (wd t)).map fun c=>numS (bG t X s) (stepS t X kk c))++[List.replicate (wd t) (bG t X s).length]:=by
 have hd:=uB h hs
 have hnn:∀a,aX3 t a≠none:=fun a e=>by cases e
 simp only[bH,aQ,List.map_append,List.map_map,List.map_cons,List.map_nil]
 congr 1
 ·refine List.map_congr_left fun kk hkk=>?_
  refine List.map_congr_left fun c hc=>?_
  rw[aG3]
  cases hst:stepS t X kk c with
  | none=>exact aT6 hnn _
  | some to =>
   refine aO0 (fun a b=>aX2) ?_
   exact DoneL.closed hd hkk (List.mem_filterMap.2 ⟨c,hc,hst⟩)
 ·congr 1
  apply List.ext_getElem
  ·simp
  ·intro i h1 h2
   simp only[List.getElem_map,List.getElem_replicate,yV,List.getElem_range]
   exact aT6 hnn _
theorem aZ8{t:Nat}{X:Aut}{s:Nat}:(bH t X s).y=(bG t X s).map (fun kk=>X.y.getD (kk / 2^t) false)++[false]:=by
 simp only[bH,aQ,List.map_append,List.map_map,List.map_cons,List.map_nil]
 rfl
theorem sK{t:Nat}{X:Aut}(h:X.Ok (wd t)){s:Nat}(hs:s<X.y.length):(bH t X s).Ok (wd t)∧(bH t X s).y.length≤X.y.length*2^t+1∧∀cs,In (wd t) cs→(bH t X s).lang 0 cs=rl t (X.lang s) cs:=by
 have hd:=uB h hs
 have hcl:∀k∈(bG t X s).map (aX3 t)++[none],∀c,c<wd t→aT7 t X k c∈(bG t X s).map (aX3 t)++[none]:=by
  intro k hk c hc
  rcases List.mem_append.1 hk with hk|hk
  ·obtain⟨kk,hkk,rfl⟩:=List.mem_map.1 hk
   rw[aG3]
   cases hst:stepS t X kk c with
   | none=>simp
   | some to=>exact List.mem_append_left _ (List.mem_map.2 ⟨to,DoneL.closed hd hkk (List.mem_filterMap.2 ⟨c,List.mem_range.2 hc,hst⟩),rfl⟩)
  ·rw[List.mem_singleton] at hk
   subst hk
   simp[yV]
 have hstart:aX3 t (s*2^t)=some (s,0):=by
  have h2:0<2^t:=Nat.two_pow_pos t
  simp[aX3,Nat.mul_div_cancel _ h2]
 have hmem:some (s,0)∈(bG t X s).map (aX3 t)++[none]:=List.mem_append_left _ (List.mem_map.2 ⟨s*2^t,bQ _,hstart⟩)
 refine⟨aF1 (by simp) hcl,?_,fun cs hcs=>?_⟩
 ·unfold bH
  rw[mS]
  have:=(gQ h hs).len (X.y.length*2^t)
  rw[List.length_range] at this
  simpa[bG] using this
 ·have h1:=rB (a:=vC X) hcl hmem hcs
  have h2:pos ((bG t X s).map (aX3 t)++[none]) (some (s,0))=0:=by
   have hm:s*2^t∈bG t X s:=bQ _
   rw[←hstart,aO0 (fun a b=>aX2) hm]
   obtain⟨r,hr⟩:=pN (sx:=sxS t X) (s:=s*2^t) (X.y.length*2^t)
   unfold bG
   rw[hr]
   simp[pos]
  rw[h2] at h1
  exact h1.trans (aC3 t X cs s 0)
def RdP(H:BH)(rb t s:Nat)(A:Aut):Prop:=∃u x,H.row rb=.arr 25 [aB t,aB s,u,x]∧Rd H 4 u (A.y.map aK)∧RdR H 36 2 x aB A.nxt
theorem RdP.keeps{H K:BH}{rb t s:Nat}{A:Aut}(h:RdP H rb t s A)(k:H.Keeps K):RdP K rb t s A:=by
 obtain⟨u,x,h1,h2,h3⟩:=h
 exact⟨u,x,by rw[k rb (by rw[h1];simp),h1],h2.keeps k,h3.keeps k⟩
theorem pb_mul{a b:Nat}(h:a*b≤4611686018427387904):bC .mul (aB a) (aB b)=some (aB (a*b)):=by
 have h0:bC .mul (aB a) (aB b)=some (.int .i64 (IntKind.i64.wrap ((a:Int)*(b:Int)))):=rfl
 rw[h0,←Int.natCast_mul,wN h]
theorem pb_quo{a b:Nat}(h:a≤4611686018427387904)(hb:0<b):bC .quo (aB a) (aB b)=some (aB (a / b)):=by
 have h0:bC .quo (aB a) (aB b)=if (b:Int)=0 then none else some (.int .i64 (IntKind.i64.wrap ((a:Int).tdiv (b:Int)))):=rfl
 rw[h0,if_neg (by omega),tdivN,wN (Nat.le_trans (Nat.div_le_self _ _) h)]
theorem pb_rem{a b:Nat}(hb:0<b):bC .rem (aB a) (aB b)=some (aB (a % b)):=by
 have h0:bC .rem (aB a) (aB b)=if (b:Int)=0 then none else some (.int .i64 ((a:Int).tmod (b:Int))):=rfl
 rw[h0,if_neg (by omega),tmodN]
def cQ(n:Nat)(f:Nat→Int)(i:Nat):List Int:=(List.range i).map f++List.replicate (n-i) 0
theorem eW{n i:Nat}(f:Nat→Int)(h:i≤n):(cQ n f i).length=n:=by simp[cQ];omega
theorem iT{n i:Nat}(f:Nat→Int)(h:i<n):(cQ n f i).set i (f i)=cQ n f (i+1):=by
 unfold cQ
 rw[List.set_append_right _ _ (by simp),show n-i=(n-(i+1))+1 by omega,List.replicate_succ]
 simp[List.range_succ]
theorem iJ(n:Nat)(f:Nat→Int):cQ n f 0=List.replicate n 0:=by simp[cQ]
theorem lZ(n:Nat)(f:Nat→Int):cQ n f n=(List.range n).map f:=by simp[cQ]
theorem yP(n:Nat):(List.replicate n 0).map encI=List.replicate n (BV.int .i64 0):=by simp[List.map_replicate]
def aI1(N:Nat)(ks:List Nat):List Int:=(List.range N).map fun k=>if k∈ks then((pos ks k:Nat):Int) else -1
theorem fG(N:Nat)(ks:List Nat):(aI1 N ks).length=N:=by simp[aI1]
theorem sT{N:Nat}{ks:List Nat}{k:Nat}(h:k<N):(aI1 N ks)[k]'(by rw[fG];exact h)=if k∈ks then((pos ks k:Nat):Int) else -1:=by simp[aI1]
theorem aU3(N:Nat):aI1 N []=(List.range N).map fun _=>-1:=by simp[aI1]
theorem vI{N:Nat}{ks:List Nat}{k:Nat}(h:k<N)(hk:k∉ks):(aI1 N ks).set k (ks.length:Int)=aI1 N (ks++[k]):=by
 apply List.ext_getElem
 ·simp[aI1]
 ·intro i h1 h2
  have hi:i<N:=by rw[fG] at h2;exact h2
  rw[List.getElem_set,sT hi]
  by_cases hik:k=i
  ·subst hik
   have hp:pos (ks++[k]) k=ks.length:=by have:=dR hk;unfold bF at this;rwa [if_neg hk] at this
   rw[sT hi,if_pos (by simp),hp]
   simp
  ·rw[if_neg hik,sT hi]
   by_cases hm:i∈ks
   ·rw[if_pos hm,if_pos (List.mem_append_left _ hm),cH (List.prefix_append ks [k]) hm]
   ·rw[if_neg hm,if_neg (by simp[hm];exact fun e=>hik e.symm)]
def Rs1(aA:Nat)(H:BH)(rb t s:Nat)(A:Aut)(e:Env)(K:BH):Prop:=∃n2 n5 n7 n8,Has e [(0,.ptr rb 0),(2,.ptr n2 0),(3,aB A.y.length),(4,aB (2^t)),(5,.sl n5 0 (A.y.length*2^t)),(7,.sl n7 0 1),(8,.ptr n8 0)] ∧
 Own aA H K [(some n8,.arr 25 [aB t,.int .i64 0,.nils,.nils]),(some n7,.arr 2 [aB (s*2^t)]),(some n5,.arr 2 ((aI1 (A.y.length*2^t) [s*2^t]).map encI)),(some n2,.arr 25 [.int .i64 0,.int .i64 0,.nils,.nils])]
theorem right_p1(t s rb:Nat)(ht:t≤3)(A:Aut)(H:BH)(h:RdP H rb t s A)(hs:s<A.y.length)(hn:A.y.length≤100000)(Q:Post):
  wpC aA (Runs (gam aA)) (ir152.body.hd 8) (Post.then (Rs1 aA H rb t s A) Q) (eX [.ptr rb 0]) H:=by
 obtain⟨u,x,hr,hu,hx⟩:=h
 have hpt:=pb_shlu (j:=t) (by omega)
 have hT8:2^t≤8:=Nat.pow_le_pow_right (n:=2) (by omega) ht
 have hT0:0<2^t:=Nat.two_pow_pos t
 obtain⟨R,hR⟩:∃R,R=Rs1 aA H rb t s A:=⟨_,rfl⟩
 rw[←hR]
 unfold Rs1 at hR
 obtain⟨T,hT⟩:∃T,T=2^t:=⟨_,rfl⟩
 rw[←hT] at hpt hT8 hT0 hR
 have hNT:A.y.length*T≤800000:=by have:=Nat.mul_le_mul hn hT8;omega
 have hsT:s*T<A.y.length*T:=(Nat.mul_lt_mul_right hT0).2 hs
 obtain⟨N,hN⟩:∃N,N=A.y.length*T:=⟨_,rfl⟩
 simp[ir152,BCode.hd]
 intro n2 b2 f2
 have o1:=Own.start (aA:=aA) (H:=H) |>.new f2 b2 (s:=.arr 25 [.int .i64 0,.int .i64 0,.nils,.nils])
 have r0:=aJ o1.keeps (aD hr (rt:=none) (j:=0) (c:=aB t) rfl rfl)
 have r1:=aJ o1.keeps (aD hr (rt:=none) (j:=1) (c:=aB s) rfl rfl)
 have r2:=aJ o1.keeps (aD hr (rt:=none) (j:=2) (c:=u) rfl rfl)
 simp[-cR,aC f2 b2,r0,r2,hu.isSl,hu.lenM,wrapU (j:=t) (by omega)]
 refine dN _ _ (aB T) hpt (by simp) (by simp) ?_
 have hmN:IntKind.i64.wrap ((A.y.length:Int)*(T:Int))=(N:Int):=by rw[hN,←Int.natCast_mul];exact wN (by omega)
 obtain⟨P,hP⟩:∃P,P=s*T:=⟨_,rfl⟩
 have hmP:IntKind.i64.wrap ((s:Int)*(T:Int))=(P:Int):=by rw[hP,←Int.natCast_mul];exact wN (by omega)
 have c1:(N:Int)≤140737488355328:=by omega
 have c8:8*(N:Int)≤140737488355328:=by omega
 simp[hmN,c1,c8]
 intro n5 b5 f5
 have o2:=o1.new f5 b5 (s:=.arr 2 (List.replicate N (.int .i64 0)))
 simp[aC f5 b5]
 obtain⟨I,hI⟩:∃I:Nat→Env→BH→Prop,I=(fun i e K=>e 6=aB i∧Own aA H K [(some n5,.arr 2 ((cQ N (fun _=>-1) i).map encI)),(some n2,.arr 25 [.int .i64 0,.int .i64 0,.nils,.nils])]):=⟨_,rfl⟩
 refine aE N [(0,.ptr rb 0),(2,.ptr n2 0),(3,aB A.y.length),(4,aB T),(5,.sl n5 0 N)] I (i0:=0) ?_ ?_ ?_ (Nat.zero_le _) ?_
 ·rfl
 ·simp
 ·rw[hI]
  refine⟨rfl,?_⟩
  rw[iJ,yP]
  exact o2
 clear o1 o2 r0 r1 r2
 rintro i e K hi ⟨e0,e2,e3,e4,e5,-⟩ hh
 rw[hI] at hh
 obtain⟨e6,o⟩:=hh
 simp only[] at e0 e2 e3 e4 e5
 have wi:=wS (n:=i) (by omega)
 by_cases hlt:i<N
 ·obtain⟨K5,g5,o5⟩:=o.put 0 (b:=n5) rfl (j:=i) (u:=.int .i64 (-1)) (by simp[eW _ hi,hlt]) rfl (rt:=none) rfl
  simp[e5,e6,hlt,g5,wi]
  rw[hI]
  refine⟨by simp,?_⟩
  rw[←iT _ hlt]
  simpa[List.map_set] using o5
 ·have hie:i=N:=by omega
  subst hie
  rw[lZ,←aU3] at o
  have r0:=aJ o.keeps (aD hr (rt:=none) (j:=0) (c:=aB t) rfl rfl)
  have r1:=aJ o.keeps (aD hr (rt:=none) (j:=1) (c:=aB s) rfl rfl)
  simp[e5,e6,e0,r1,e4,hmP]
  intro n7 b7 f7
  have o3:=o.new f7 b7 (s:=.arr 2 [aB P])
  have r0':=aJ o3.keeps (aD hr (rt:=none) (j:=0) (c:=aB t) rfl rfl)
  have r1':=aJ o3.keeps (aD hr (rt:=none) (j:=1) (c:=aB s) rfl rfl)
  have hPi:P<i:=by omega
  obtain⟨K4,g4,o4⟩:=o3.put 1 (b:=n5) rfl (j:=P) (u:=encI 0) (by simp[fG,hPi]) rfl (rt:=none) rfl
  have g4':(K.set n7 (.arr 2 [aB P])).wr aA none 1 (.ptr n5 P) (.int .i64 0)=some K4:=g4
  have r0'':=aJ o4.keeps (aD hr (rt:=none) (j:=0) (c:=aB t) rfl rfl)
  simp[aC f7 b7,e0,e4,e5,r1',hmP,hPi,g4',r0'']
  intro n8 b8 f8
  obtain⟨K6,g6,o6⟩:=(o4.new f8 b8 (s:=.arr 25 [.int .i64 0,.int .i64 0,.nils,.nils])).putAll 0 (b:=n8) (n:=4) (ds:=[aB t,.int .i64 0,.nils,.nils]) rfl rfl rfl rfl (rt:=none) rfl
  simp[aC f8 b8,g6]
  rw[hR,←hN,←hP]
  refine⟨n2,n5,n7,n8,by simp[e0,e2,e3,e4,e5],?_⟩
  have hset:=vI (N:=i) (ks:=[]) hPi (by simp)
  rw[List.nil_append] at hset
  rw[←hset]
  simpa[List.map_set] using o6
def aB8(t:Nat)(A:Aut)(KS:List Nat)(kk c:Nat):List Int:=(List.range c).map fun d=>match stepS t A kk d with|none=>-1|some to=>((pos KS to:Nat):Int)
theorem dE(t:Nat)(A:Aut)(KS:List Nat)(kk c:Nat):(aB8 t A KS kk c).length=c:=by simp[aB8]
theorem wK(t:Nat)(A:Aut)(KS:List Nat)(kk c:Nat):aB8 t A KS kk (c+1)=aB8 t A KS kk c++[match stepS t A kk c with|none=>-1|some to=>((pos KS to:Nat):Int)]:=by simp[aB8,List.range_succ]
def lsS(t:Nat)(A:Aut)(ks:List Nat)(kk c:Nat):List Nat:=eN ks ((List.range c).filterMap (stepS t A kk))
theorem aV0(t:Nat)(A:Aut)(ks:List Nat)(kk c:Nat):lsS t A ks kk (c+1)=match stepS t A kk c with|none=>lsS t A ks kk c|some to=>bF (lsS t A ks kk c) to:=by
 unfold lsS
 rw[List.range_succ,List.filterMap_append,mT]
 cases h:stepS t A kk c<;>simp[h,eN]
theorem lsS_pre{t:Nat}{A:Aut}{ks:List Nat}{kk c d:Nat}(h:c≤d):lsS t A ks kk c <+: lsS t A ks kk d:=by
 induction h with
 | refl=>exact List.prefix_refl _
 | step _ ih =>
  refine ih.trans ?_
  rw[aV0]
  split
  ·exact List.prefix_refl _
  ·exact vV _ _
def Rs2(aA:Nat)(H:BH)(rb t s:Nat)(A:Aut)(e:Env)(K:BH):Prop:=∃n2 n8 v7 lo u w bo wo vs fr,Has e [(0,.ptr rb 0),(2,.ptr n2 0),(7,v7),(8,.ptr n8 0)]∧v7.isSl=true∧v7.slen=(bG t A s).length ∧
 Own aA H K ([(wo,.arr 36 vs),(bo,.arr 4 (((bG t A s).map fun kk=>A.y.getD (kk / 2^t) false).map aK)),(some n8,.arr 25 [aB t,.int .i64 0,u,w]),(lo,.arr 2 ((bG t A s).map aB)),(some n2,.arr 25 [.int .i64 0,.int .i64 0,.nils,.nils])]++fr) ∧
 Vec bo u (bG t A s).length∧Vec wo w (bG t A s).length∧vs.length=(bG t A s).length∧RowsOf 2 vs fr (((bG t A s).map fun kk=>aB8 t A (bG t A s) kk (wd t)).map (·.map encI))
theorem right_p2(t s rb:Nat)(ht:t≤3)(A:Aut)(H:BH)(h:RdP H rb t s A)(hok:A.Ok (wd t))(hs:s<A.y.length)(hn:A.y.length≤100000)(Q:Post)(e:Env)(K:BH)(hh:Rs1 aA H rb t s A e K):
  wpC aA (Runs (gam aA)) ((ir152.body.tl 8).hd 1) (Post.then (Rs2 aA H rb t s A) Q) e K:=by
 obtain⟨u0,x,hr,hu0,hx⟩:=h
 obtain⟨R,hR⟩:∃R,R=Rs2 aA H rb t s A:=⟨_,rfl⟩
 rw[←hR]
 unfold Rs2 at hR
 obtain⟨n2,n5,n7,n8,⟨e0,e2,e3,e4,e5,e7,e8,-⟩,o⟩:=hh
 simp only[] at e0 e2 e3 e4 e5 e7 e8
 have hT8:2^t≤8:=Nat.pow_le_pow_right (n:=2) (by omega) ht
 have hT0:0<2^t:=Nat.two_pow_pos t
 have hNT:A.y.length*2^t≤800000:=by have:=Nat.mul_le_mul hn hT8;omega
 have hcl:=gQ hok hs
 have hdone:=uB hok hs
 have hw:=eQ ht
 obtain⟨KS,hKS⟩:∃KS,KS=bG t A s:=⟨_,rfl⟩
 have hKl:KS.length≤A.y.length*2^t:=by
  rw[hKS]
  have:=hcl.len (A.y.length*2^t)
  rwa [List.length_range] at this
 rw[←hKS] at hR
 obtain⟨N,hN⟩:∃N,N=A.y.length*2^t:=⟨_,rfl⟩
 rw[←hN] at o hNT hKl hdone e5
 have hKSm:aH (sxS t A) (s*2^t) N=KS:=by rw[hKS,hN];rfl
 have pre:∀i,aH (sxS t A) (s*2^t) i <+: KS:=fun i=>by
  rcases Nat.le_total i N with h|h
  ·rw[←hKSm];exact fC h
  ·rw[hdone.eq h,hKSm];exact List.prefix_refl _
 have hlen:∀i,(aH (sxS t A) (s*2^t) i).length≤N:=fun i=>Nat.le_trans (pre i).length_le hKl
 have hmemN:∀k∈KS,k<N:=fun k hk=>by
  rw[hKS] at hk
  have:=hcl.met _ k hk
  rw[hN]
  exact List.mem_range.1 this
 simp[ir152,BCode.hd,BCode.tl]
 obtain⟨I,hI⟩:∃I:Nat→Env→BH→Prop,I=(fun i e K=>e 9=aB i∧∃v7 lo u w bo wo vs fr,e 7=v7∧i≤(aH (sxS t A) (s*2^t) i).length ∧
   Own aA H K ([(wo,.arr 36 vs),(bo,.arr 4 (((KS.take i).map fun kk=>A.y.getD (kk / 2^t) false).map aK)),(some n8,.arr 25 [aB t,.int .i64 0,u,w]),(lo,.arr 2 ((aH (sxS t A) (s*2^t) i).map aB)),(some n5,.arr 2 ((aI1 N (aH (sxS t A) (s*2^t) i)).map encI)),
    (some n2,.arr 25 [.int .i64 0,.int .i64 0,.nils,.nils])]++fr)∧Vec lo v7 (aH (sxS t A) (s*2^t) i).length∧Vec bo u i∧Vec wo w i∧vs.length=i∧RowsOf 2 vs fr (((KS.take i).map fun kk=>aB8 t A KS kk (wd t)).map (·.map encI))):=⟨_,rfl⟩
 refine aE N [(0,.ptr rb 0),(2,.ptr n2 0),(4,aB (2^t)),(5,.sl n5 0 N),(8,.ptr n8 0)] I (i0:=0) ?_ ?_ ?_ (Nat.zero_le _) ?_
 ·rfl
 ·simp[e0,e2,e4,e5,e8]
 ·rw[hI]
  refine⟨by simp,.sl n7 0 1,some n7,.nils,.nils,none,none,[],[],by simp[e7],Nat.zero_le _,?_,rfl,Vec.none,Vec.none,rfl,trivial⟩
  exact(o.nil (.arr 4 [])).nil (.arr 36 [])
 clear e0 e2 e3 e4 e5 e7 e8 o
 rintro i e K hi ⟨e0,e2,e4,e5,e8,-⟩ hh
 rw[hI] at hh
 obtain⟨e9,v7,lo,u,w,bo,wo,vs,fr,e7,hil,o,hv7,hu,hw',hvs,hrows⟩:=hh
 simp only[] at e0 e2 e4 e5 e8
 by_cases hlt:i<(aH (sxS t A) (s*2^t) i).length
 ·have hiN:i<N:=Nat.lt_of_lt_of_le hlt (hlen i)
  obtain⟨kk,hkk⟩:∃kk,(aH (sxS t A) (s*2^t) i)[i]?=some kk:=⟨_,List.getElem?_eq_getElem hlt⟩
  have hKSi:KS[i]?=some kk:=by
   obtain⟨r,hr⟩:=pre i
   rw[←hr,List.getElem?_append_left hlt]
   exact hkk
  have hiKS:i<KS.length:=(List.getElem?_eq_some_iff.1 hKSi).1
  have hkN:kk<N:=hmemN kk (List.mem_of_getElem? hKSi)
  have hq:kk / 2^t<A.y.length:=Nat.div_lt_of_lt_mul (by rw[Nat.mul_comm,←hN];exact hkN)
  have hq':kk / 2^t<A.nxt.length:=by rw[hok.len];exact hq
  have hnext:aH (sxS t A) (s*2^t) (i+1)=lsS t A (aH (sxS t A) (s*2^t) i) kk (wd t):=by rw[aH,hkk];rfl
  have hpre:∀c,c≤wd t→lsS t A (aH (sxS t A) (s*2^t) i) kk c <+: KS:=fun c hc=>(lsS_pre hc).trans (by rw[←hnext];exact pre (i+1))
  have hkg:(aH (sxS t A) (s*2^t) i)[i]=kk:=by
   have:=List.getElem?_eq_getElem hlt
   rw[hkk] at this
   simpa using this.symm
  have hrd:=(o.rd 3 rfl (v:=v7) (by simpa using hv7)).at hlt (rt:=none) rfl
  rw[hkg] at hrd
  have wi:=wS (n:=i) (by omega)
  obtain⟨q,hqd⟩:∃q,q=kk / 2^t:=⟨_,rfl⟩
  have hquo:=pb_quo (a:=kk) (b:=2^t) (by omega) hT0
  rw[←hqd] at hquo hq hq'
  simp[-cR,e7,e9,hv7.isSl,hv7.len,hlt,hrd,e4]
  refine dN (aB i) (aB (aH (sxS t A) (s*2^t) i).length) (.bool true) (by show some (BV.bool (decide ((i:Int)<_)))=_;simp[hlt]) (by simp) (by simp) ?_
  simp[-cR,e7,e9,hv7.isSl,hv7.len,hlt,hrd,e4]
  refine dN _ _ (aB q) hquo (by simp) (by simp) ?_
  simp
  intro n11 b11 f11
  simp[aC f11 b11]
  have o1:=o.new f11 b11 (s:=.arr 2 [])
  obtain⟨m,hmd⟩:∃m,m=kk % 2^t:=⟨_,rfl⟩
  have hmT:m<2^t:=by rw[hmd];exact Nat.mod_lt _ hT0
  have hrem:=pb_rem (a:=kk) (b:=2^t) hT0
  rw[←hmd] at hrem
  obtain⟨ri,hri,hrr⟩:=hx.at hq'
  obtain⟨row,er,hrl,hrc⟩:∃r,A.nxt.getD q []=r∧r.length=wd t∧∀c,c<wd t→r[c]?=some (A.to q c):=by
   have h1:A.nxt.getD q []=A.nxt[q]:=by simp[hq']
   refine⟨A.nxt[q],h1,(hok.row _ (List.getElem_mem hq')).1,fun c hc=>?_⟩
   obtain⟨r,g1,g2,g3⟩:=iL hok hq hc
   rw[h1] at g1
   rw[g1]
   exact g3
  have er2:A.nxt[q]=row:=by rw[←er];simp[hq']
  rw[er2] at hri
  obtain⟨J,hJ⟩:∃J:Nat→Env→BH→Prop,J=(fun c e K=>e 12=aB c∧∃v7 v11 lo ro,e 7=v7∧e 11=v11 ∧
   Own aA H K ([(ro,.arr 2 ((aB8 t A KS kk c).map encI)),(wo,.arr 36 vs),(bo,.arr 4 (((KS.take i).map fun kk=>A.y.getD (kk / 2^t) false).map aK)),(some n8,.arr 25 [aB t,.int .i64 0,u,w]),(lo,.arr 2 ((lsS t A (aH (sxS t A) (s*2^t) i) kk c).map aB)),
    (some n5,.arr 2 ((aI1 N (lsS t A (aH (sxS t A) (s*2^t) i) kk c)).map encI)),(some n2,.arr 25 [.int .i64 0,.int .i64 0,.nils,.nils])]++fr)∧Vec lo v7 (lsS t A (aH (sxS t A) (s*2^t) i) kk c).length∧Vec ro v11 c):=⟨_,rfl⟩
  refine aE (wd t) [(0,.ptr rb 0),(2,.ptr n2 0),(4,aB (2^t)),(5,.sl n5 0 N),(8,.ptr n8 0),(9,aB i),(10,aB q)] J (i0:=0) ?_ ?_ ?_ (Nat.zero_le _) ?_
  ·rfl
  ·simp[e0,e2,e4,e5,e8,e9]
  ·rw[hJ]
   exact⟨by simp,v7,.sl n11 0 0,lo,some n11,by simp[e7],by simp,o1,hv7,rfl⟩
  clear e0 e2 e4 e5 e7 e8 e9 o o1 hrd
  rintro c e M hc ⟨e0,e2,e4,e5,e8,e9,e10,-⟩ hh
  rw[hJ] at hh
  obtain⟨e12,v7,v11,lo,ro,e7,e11,o,hv7,hv11⟩:=hh
  simp only[] at e0 e2 e4 e5 e8 e9 e10
  have wc:=wS (n:=c) (by omega)
  have r0:=aJ o.keeps (aD hr (rt:=none) (j:=0) (c:=aB t) rfl rfl)
  have r3:=aJ o.keeps (aD hr (rt:=none) (j:=3) (c:=x) rfl rfl)
  simp[e0,e12,r0]
  refine aN (sF t M (by omega)) ?_
  by_cases hcw:c<wd t
  ·obtain⟨ls,hls⟩:∃ls,ls=lsS t A (aH (sxS t A) (s*2^t) i) kk c:=⟨_,rfl⟩
   have hlsp:=hpre c hc
   have hlsp1:=hpre (c+1) hcw
   rw[←hls] at o hv7 hlsp
   have hll:=hlsp.length_le
   have hsu:=aV0 t A (aH (sxS t A) (s*2^t) i) kk c
   rw[←hls] at hsu
   have hle:i<ls.length:=Nat.lt_of_lt_of_le hlt (by rw[hls];exact(rC _ _).length_le)
   have hlk:ls[i]=kk:=by
    have h1:(aH (sxS t A) (s*2^t) i) <+: ls:=by rw[hls];exact rC _ _
    obtain⟨r,hr⟩:=h1
    simp only[←hr]
    rw[List.getElem_append_left hlt]
    exact hkg
   have hrk:=(o.rd 4 rfl (v:=v7) (by simpa using hv7)).at hle (rt:=none) rfl
   rw[hlk] at hrk
   simp[-cR,hcw]
   refine dN (aB c) (aB (wd t)) (.bool true) (by show some (BV.bool (decide ((c:Int)<_)))=_;simp[hcw]) (by simp[e12]) (by simp) ?_
   simp[-cR,e0,r0,e7,hv7.isSl,hv7.len,hle,e9,hrk,e4]
   refine dN _ _ (aB m) hrem (by simp) (by simp) ?_
   simp[e12]
   refine aN (s_ended t m c ht hmT (by omega) M) ?_
   have hst:stepS t A kk c=if m &&& aU t c=m then some (A.to q c*2^t+aU t c) else none:=by unfold stepS;rw[←hmd,←hqd]
   by_cases hp:m &&& aU t c=m
   ·rw[if_pos hp] at hst ⊢
    obtain⟨z,hz⟩:∃z,z=A.to q c:=⟨_,rfl⟩
    obtain⟨p,hpd⟩:∃p,p=aU t c:=⟨_,rfl⟩
    have hz1:z<A.y.length:=by rw[hz];exact hok.to hq hcw
    have hp8:p<8:=by rw[hpd];exact wO ht c
    obtain⟨zT,hzT⟩:∃zT,zT=z*2^t:=⟨_,rfl⟩
    have hzb:zT≤800000:=by rw[hzT];have:=Nat.mul_le_mul (Nat.le_of_lt hz1) hT8;omega
    have hmz:IntKind.i64.wrap ((z:Int)*((2^t:Nat):Int))=(zT:Int):=by rw[←Int.natCast_mul,←hzT];exact wN (by omega)
    have hmz':IntKind.i64.wrap ((z:Int)*(2:Int)^t)=(zT:Int):=by rw[show (2:Int)^t=((2^t:Nat):Int) by simp];exact hmz
    obtain⟨to,hto⟩:∃to,to=zT+p:=⟨_,rfl⟩
    have hma:IntKind.i64.wrap ((zT:Int)+(p:Int))=(to:Int):=by rw[←Int.natCast_add,←hto];exact wN (by omega)
    have hst':stepS t A kk c=some to:=by rw[hst,hto,hzT,hz,hpd]
    have htoN:to<N:=by rw[hN];exact aS9 hok (by rw[←hN];exact hkN) hcw hst'
    rw[hst'] at hsu
    simp only at hsu
    have hrr':=aJ o.keeps (hrr none rfl)
    have hrc':=(hri.keeps o.keeps).at (i:=c) (by rw[hrl];exact hcw) (rt:=none) rfl
    have hrg:row[c]'(by rw[hrl];exact hcw)=z:=by
     have:=hrc c hcw
     rw[List.getElem?_eq_getElem (by rw[hrl];exact hcw)] at this
     rw[hz]
     simpa using this
    rw[hrg] at hrc'
    have hrn:=aD (o.at 5 (b:=n5) rfl) (rt:=none) (j:=to) (c:=encI (if to∈ls then((pos ls to:Nat):Int) else -1)) rfl (by
     rw[List.getElem?_map,List.getElem?_eq_getElem (by rw[fG];exact htoN),sT htoN]
     rfl)
    have hpn:¬((p:Int)<0):=by omega
    have hrowz:(match stepS t A kk c with|none=>(-1:Int)|some to=>((pos KS to:Nat):Int))=((pos KS to:Nat):Int):=by rw[hst']
    rw[←hpd]
    simp[hpn,e0,r3,e10,hx.isSl,hx.len,hq',hrr',e12,hri.isSl,hri.lenM,hrl,hcw,hrc',e4,hmz',hma,e5,htoN,hrn]
    by_cases hm:to∈ls
    ·have hadd:bF ls to=ls:=by unfold bF;rw[if_pos hm]
     rw[hadd] at hsu
     have hpos:pos ls to=pos KS to:=(cH hlsp hm).symm
     have hnn:¬((pos KS to:Int)<0):=by omega
     simp[hm,hpos] at hrn
     simp[hm,hpos,hnn,e11,e5,htoN,hrn]
     intro n1 b1 f1
     simp[aC f1 b1]
     intro n4 b4 f4
     obtain⟨v',K',b',q1,q2,q3⟩:=o.push 0 rfl (v:=v11) (by simpa[dE] using hv11) (x:=aB (pos KS to)) (bytes:=8) rfl (by simp[dE];omega) (by simp[dE];omega) f1 b1 f4 b4
     simp[q1,e12,wc,hcw]
     rw[hJ]
     refine⟨by simp,v7,v',lo,some b',by simp[e7],by simp,?_,by rw[hsu];exact hv7,by simpa[dE] using q3⟩
     rw[hsu,wK,hrowz]
     simpa using q2
    ·have hadd:bF ls to=ls++[to]:=by unfold bF;rw[if_neg hm]
     rw[hadd] at hsu
     rw[hsu] at hlsp1
     have hl1:=hlsp1.length_le
     simp at hl1
     have hpos:ls.length=pos KS to:=by rw[←dR hm,hadd];exact(cH hlsp1 (by simp)).symm
     simp[hm] at hrn
     obtain⟨K5,g5,o5⟩:=o.put 5 (b:=n5) rfl (j:=to) (u:=encI (ls.length:Nat)) (by simp[fG,htoN]) rfl (rt:=none) rfl
     have g5':M.wr aA none 1 (.ptr n5 to) (.int .i64 (ls.length:Nat))=some K5:=g5
     have hset:=vI htoN hm
     simp[hm,e5,htoN,hrn,e7,hv7.isSl,hv7.len,g5']
     intro n1 b1 f1
     simp[aC f1 b1]
     intro n4 b4 f4
     obtain⟨v',K',b',q1,q2,q3⟩:=o5.push 4 rfl (v:=v7) (by simpa using hv7) (x:=aB to) (bytes:=8) rfl (by simp;omega) (by simp;omega) f1 b1 f4 b4
     have hrn2:=aD (q2.at 5 (b:=n5) rfl) (rt:=none) (j:=to) (c:=aB (pos KS to)) rfl (by
      rw[hpos]
      simp[fG,htoN])
     simp[q1,e11,e5,htoN,hrn2]
     intro n5' b5' f5'
     simp[aC f5' b5']
     intro n6 b6 f6
     obtain⟨v'',K'',b'',p1,p2,p3⟩:=q2.push 0 rfl (v:=v11) (by simpa[dE] using hv11) (x:=aB (pos KS to)) (bytes:=8) rfl (by simp[dE];omega) (by simp[dE];omega) f5' b5' f6 b6
     simp[p1,e12,wc,hcw]
     rw[hJ]
     refine⟨by simp,v',v'',some b',some b'',by simp,by simp,?_,by rw[hsu];simpa using q3,by simpa[dE] using p3⟩
     rw[hsu,wK,hrowz,←hset]
     simpa[List.map_set] using p2
   ·rw[if_neg hp] at hst ⊢
    rw[hst] at hsu
    simp only at hsu
    simp[e11]
    intro n1 b1 f1
    simp[aC f1 b1]
    intro n4 b4 f4
    obtain⟨v',K',b',q1,q2,q3⟩:=o.push 0 rfl (v:=v11) (by simpa[dE] using hv11) (x:=encI (-1)) (bytes:=8) rfl (by simp[dE];omega) (by simp[dE];omega) f1 b1 f4 b4
    simp[q1,e12,wc,hcw]
    rw[hJ]
    refine⟨by simp,v7,v',lo,some b',by simp[e7],by simp,?_,by rw[hsu];exact hv7,by simpa[dE] using q3⟩
    rw[hsu,wK,hst]
    simpa using q2
  ·have hce:c=wd t:=by omega
   subst hce
   rw[←hnext] at o hv7
   have u1:=aD (o.at 3 (b:=n8) rfl) (rt:=none) (j:=2) (c:=u) rfl rfl
   have ra:=aJ o.keeps (aD hr (rt:=none) (j:=2) (c:=u0) rfl rfl)
   have rq:=(hu0.keeps o.keeps).at hq (rt:=none) rfl
   have hga:A.y.getD q false=A.y[q]:=by simp[hq]
   simp[e12,e8,u1,e0,ra,e10,hu0.isSl,hu0.lenM,hq,rq]
   intro n1 b1 f1
   simp[aC f1 b1]
   intro n4 b4 f4
   have hti:(KS.take i).length=i:=by simp;omega
   obtain⟨v',K2,b',q1,o2,q3⟩:=o.push 2 rfl (v:=u) (by simp only[List.length_map,hti];exact hu) (x:=aK A.y[q]) (bytes:=1) rfl (by simp;omega) (by simp;omega) f1 b1 f4 b4
   obtain⟨K3,q2,o3⟩:=o2.put 3 (b:=n8) rfl (j:=2) (u:=v') (by simp) q3.one (rt:=none) rfl
   have u2:=aD (o3.at 3 (b:=n8) rfl) (rt:=none) (j:=3) (c:=w) rfl rfl
   have h11:=hv11.one
   simp[q1,q2,e8,u2,e11,h11,cells_one h11]
   intro n5' b5' f5'
   simp[aC f5' b5']
   intro n6 b6 f6
   obtain⟨w',K4,c',p1,o4,p3⟩:=o3.push 1 rfl (v:=w) (by rw[hvs];exact hw') (x:=v11) (bytes:=24) h11 (by omega) (by omega) f5' b5' f6 b6
   obtain⟨K5,p2,o5⟩:=o4.put 3 (b:=n8) rfl (j:=3) (u:=w') (by simp) p3.one (rt:=none) rfl
   simp[p1,p2,e8,e9,wi,hiN]
   rw[hI]
   have hta:(KS.take (i+1)).map (fun kk=>A.y.getD (kk / 2^t) false)=(KS.take i).map (fun kk=>A.y.getD (kk / 2^t) false)++[A.y[q]]:=by
    rw[List.take_add_one,hKSi,List.map_append]
    show _++[A.y.getD (kk / 2^t) false]=_
    rw[←hqd,hga]
   have htr:((KS.take (i+1)).map fun kk=>aB8 t A KS kk (wd t)).map (·.map encI)=((KS.take i).map fun kk=>aB8 t A KS kk (wd t)).map (·.map encI)++[(aB8 t A KS kk (wd t)).map encI]:=by rw[List.take_add_one,hKSi];simp
   have hin:i+1≤(aH (sxS t A) (s*2^t) (i+1)).length:=by
    have:=(iF (sx:=sxS t A) (s:=s*2^t) i).length_le
    omega
   refine⟨by simp,v7,lo,v',w',some b',some c',vs++[v11],fr++[(ro,.arr 2 ((aB8 t A KS kk (wd t)).map encI))],by simp[e7],hin,?_,hv7,?_,?_,by simp[hvs],?_⟩
   ·refine Own.last (F:=[(some c',.arr 36 (vs++[v11])),(some b',.arr 4 (((KS.take (i+1)).map fun kk=>A.y.getD (kk / 2^t) false).map aK)),(some n8,.arr 25 [aB t,.int .i64 0,v',w']),(lo,.arr 2 ((aH (sxS t A) (s*2^t) (i+1)).map aB)),(some n5,.arr 2 ((aI1 N (aH (sxS t A) (s*2^t) (i+1))).map encI)),
     (some n2,.arr 25 [.int .i64 0,.int .i64 0,.nils,.nils])]) ?_
    rw[hta]
    simpa using o5
   ·simp only[List.length_map,hti] at q3
    exact q3
   ·rw[hvs] at p3
    exact p3
   ·rw[htr]
    exact hrows.snoc (by simpa[dE] using hv11)
 ·have hie:i=(aH (sxS t A) (s*2^t) i).length:=by omega
  have hdi:DoneL (sxS t A) (s*2^t) i:=by unfold DoneL;omega
  have hKi:aH (sxS t A) (s*2^t) i=KS:=by
   rw[←hKSm]
   exact DoneL.same hdi hdone
  have hlt':¬i<(aH (sxS t A) (s*2^t) i).length:=hlt
  rw[hKi] at hie o hv7 hlt'
  have htk:KS.take i=KS:=by rw[hie,List.take_length]
  rw[htk] at o hrows
  simp[e7,e9,hv7.isSl,hv7.len,hlt']
  rw[hR]
  rw[←hie]
  exact⟨n2,n8,v7,lo,u,w,bo,wo,vs,fr,by simp[e0,e2,e7,e8],hv7.isSl,by rw[hv7.len,hie],o.sub (.cons_cons _ (.cons_cons _ (.cons_cons _ (.cons_cons _ (.cons _ (List.Sublist.refl _)))))),hu,hw',hvs,hrows⟩
def ded(D:Nat)(v:Int):Int:=if v<0 then(D:Int) else v
def dedj(D j:Nat)(r:List Int):List Int:=(r.take j).map (ded D)++r.drop j
theorem aE3(D j:Nat)(r:List Int):(dedj D j r).length=r.length:=by simp[dedj];omega
theorem dedj_zero(D:Nat)(r:List Int):dedj D 0 r=r:=by simp[dedj]
theorem dedj_all(D:Nat)(r:List Int):dedj D r.length r=r.map (ded D):=by simp[dedj]
theorem aX1{D j:Nat}{r:List Int}(h:j<r.length):(dedj D j r)[j]'(by rw[aE3];exact h)=r[j]:=by
 have hm:min j r.length=j:=by omega
 simp[dedj,hm]
theorem aX0{D j:Nat}{r:List Int}(h:j<r.length):(dedj D j r).set j (ded D r[j])=dedj D (j+1) r:=by
 unfold dedj
 rw[List.set_append_right _ _ (by simp;omega),List.take_add_one,List.getElem?_eq_getElem h,List.map_append]
 simp[show j-min j r.length=0 by omega]
 rw[List.drop_eq_getElem_cons h]
 rfl
theorem dedj_skip{D j:Nat}{r:List Int}(h:j<r.length)(h0:¬r[j]<0):dedj D (j+1) r=dedj D j r:=by
 rw[←aX0 h]
 have:ded D r[j]=r[j]:=by unfold ded;rw[if_neg h0]
 rw[this]
 have h2:=aX1 (D:=D) h
 apply List.ext_getElem
 ·simp
 ·intro i h3 h4
  rw[List.getElem_set]
  split
  ·rename_i e;subst e;exact h2.symm
  ·rfl
def stR(D:Nat)(rows:List (List Int))(i:Nat)(r:List Int):List (List Int):=(rows.take i).map (·.map (ded D))++r::rows.drop (i+1)
def oR(D:Nat)(rows:List (List Int))(i:Nat):List (List Int):=(rows.take i).map (·.map (ded D))++rows.drop i
theorem stR_set{D i:Nat}{rows:List (List Int)}(h:i<rows.length)(a b:List Int):(stR D rows i a).set i b=stR D rows i b:=by
 unfold stR
 rw[List.set_append_right _ _ (by simp;omega)]
 simp[show i-min i rows.length=0 by omega]
theorem stR_get{D i:Nat}{rows:List (List Int)}(h:i<rows.length)(a:List Int):(stR D rows i a)[i]?=some a:=by
 unfold stR
 rw[List.getElem?_append_right (by simp;omega)]
 simp[show i-min i rows.length=0 by omega]
theorem stR_first{D i:Nat}{rows:List (List Int)}(h:i<rows.length):stR D rows i rows[i]=oR D rows i:=by
 unfold stR oR
 rw[←List.drop_eq_getElem_cons h]
theorem stR_last{D i:Nat}{rows:List (List Int)}(h:i<rows.length):stR D rows i (rows[i].map (ded D))=oR D rows (i+1):=by
 unfold stR oR
 rw[List.take_add_one,List.getElem?_eq_getElem h,List.map_append,List.append_assoc]
 rfl
theorem RowsOf.upd{ty:Nat}{bo:Option Nat}{xs ys:List BV}(hl:ys.length=xs.length):∀{vs:List BV} {fr:List Sl} {xss:List (List BV)},RowsOf ty vs fr xss→∀{i:Nat},fr[i]?=some (bo,.arr ty xs)→RowsOf ty vs (fr.set i (bo,.arr ty ys)) (xss.set i ys)
 | [],[],[],_,i,hf=>by simp at hf
 | v::vs,p::fr,zs::xss,h,0,hf=>by
  simp at hf
  subst hf
  have h1:=h.1
  simp only[BSt.arr.injEq,true_and] at h1
  exact⟨rfl,by rw[hl,h1];exact h.2.1,h.2.2⟩
 | v::vs,p::fr,zs::xss,h,i+1,hf=>⟨h.1,h.2.1,RowsOf.upd hl h.2.2 (by simpa using hf)⟩
def Rs3(aA:Nat)(H:BH)(rb t s:Nat)(A:Aut)(e:Env)(K:BH):Prop:=∃n2 n8 u w bo wo vs fr,Has e [(0,.ptr rb 0),(2,.ptr n2 0),(8,.ptr n8 0),(15,aB (bG t A s).length)] ∧
 Own aA H K ([(wo,.arr 36 vs),(bo,.arr 4 (((bG t A s).map fun kk=>A.y.getD (kk / 2^t) false).map aK)),(some n8,.arr 25 [aB t,.int .i64 0,u,w]),(some n2,.arr 25 [.int .i64 0,.int .i64 0,.nils,.nils])]++fr) ∧
 Vec bo u (bG t A s).length∧Vec wo w (bG t A s).length∧vs.length=(bG t A s).length∧RowsOf 2 vs fr (((bG t A s).map fun kk=>(aB8 t A (bG t A s) kk (wd t)).map (ded (bG t A s).length)).map (·.map encI))
theorem right_p3(t s rb:Nat)(ht:t≤3)(A:Aut)(H:BH)(hok:A.Ok (wd t))(hs:s<A.y.length)(hn:A.y.length≤100000)(Q:Post)(e:Env)(K:BH)(hh:Rs2 aA H rb t s A e K):
  wpC aA (Runs (gam aA)) (((ir152.body.tl 8).tl 1).hd 2) (Post.then (Rs3 aA H rb t s A) Q) e K:=by
 obtain⟨R,hR⟩:∃R,R=Rs3 aA H rb t s A:=⟨_,rfl⟩
 rw[←hR]
 unfold Rs3 at hR
 obtain⟨n2,n8,v7,lo,u,w,bo,wo,vs,fr,⟨e0,e2,e7,e8,-⟩,h7,hl7,o,hu,hw',hvs,hrows⟩:=hh
 simp only[] at e0 e2 e7 e8
 have hT8:2^t≤8:=Nat.pow_le_pow_right (n:=2) (by omega) ht
 have hNT:A.y.length*2^t≤800000:=by have:=Nat.mul_le_mul hn hT8;omega
 have hKl:(bG t A s).length≤800000:=by
  have:=(gQ hok hs).len (A.y.length*2^t)
  rw[List.length_range] at this
  unfold bG
  omega
 have hw:=eQ ht
 obtain⟨KS,hKS⟩:∃KS,KS=bG t A s:=⟨_,rfl⟩
 rw[←hKS] at hl7 o hu hw' hvs hrows hKl hR
 obtain⟨rows,hrw⟩:∃rows,rows=KS.map fun kk=>aB8 t A KS kk (wd t):=⟨_,rfl⟩
 rw[←hrw] at hrows
 have hrl:rows.length=KS.length:=by rw[hrw];simp
 have hrwl:∀r∈rows,r.length=wd t:=fun r hr=>by
  rw[hrw] at hr
  obtain⟨kk,_,rfl⟩:=List.mem_map.1 hr
  exact dE t A KS kk (wd t)
 simp[ir152,BCode.hd,BCode.tl,e7,h7,hl7]
 obtain⟨I,hI⟩:∃I:Nat→Env→BH→Prop,I=(fun i e K=>e 16=aB i∧∃fr,Own aA H K ([(wo,.arr 36 vs),(bo,.arr 4 ((KS.map fun kk=>A.y.getD (kk / 2^t) false).map aK)),(some n8,.arr 25 [aB t,.int .i64 0,u,w]),(some n2,.arr 25 [.int .i64 0,.int .i64 0,.nils,.nils])]++fr) ∧
  RowsOf 2 vs fr ((oR KS.length rows i).map (·.map encI))):=⟨_,rfl⟩
 refine aE KS.length [(0,.ptr rb 0),(2,.ptr n2 0),(8,.ptr n8 0),(15,aB KS.length)] I (i0:=0) ?_ ?_ ?_ (Nat.zero_le _) ?_
 ·rfl
 ·simp[e0,e2,e8]
 ·rw[hI]
  refine⟨by simp,fr,o.sub (.cons_cons _ (.cons_cons _ (.cons_cons _ (.cons _ (.cons_cons _ (List.Sublist.refl _)))))),?_⟩
  simpa[oR] using hrows
 clear e0 e2 e7 e8 o hrows
 rintro i e K hi ⟨e0,e2,e8,e15,-⟩ hh
 rw[hI] at hh
 obtain⟨e16,fr,o,hrows⟩:=hh
 simp only[] at e0 e2 e8 e15
 have wi:=wS (n:=i) (by omega)
 have u3:=aD (o.at 2 (b:=n8) rfl) (rt:=none) (j:=3) (c:=w) rfl rfl
 by_cases hlt:i<KS.length
 ·have hir:i<rows.length:=by omega
  simp[e16,e8,u3,hw'.isSl,hw'.len,hlt]
  obtain⟨J,hJ⟩:∃J:Nat→Env→BH→Prop,J=(fun j e K=>e 17=aB j∧∃fr,Own aA H K ([(wo,.arr 36 vs),(bo,.arr 4 ((KS.map fun kk=>A.y.getD (kk / 2^t) false).map aK)),(some n8,.arr 25 [aB t,.int .i64 0,u,w]),(some n2,.arr 25 [.int .i64 0,.int .i64 0,.nils,.nils])]++fr) ∧
   RowsOf 2 vs fr ((stR KS.length rows i (dedj KS.length j rows[i])).map (·.map encI))):=⟨_,rfl⟩
  refine aE (wd t) [(0,.ptr rb 0),(2,.ptr n2 0),(8,.ptr n8 0),(15,aB KS.length),(16,aB i)] J (i0:=0) ?_ ?_ ?_ (Nat.zero_le _) ?_
  ·rfl
  ·simp[e0,e2,e8,e15,e16]
  ·rw[hJ]
   exact⟨by simp,fr,o,by rw[dedj_zero,stR_first hir];exact hrows⟩
  clear e0 e2 e8 e15 e16 o hrows u3
  rintro j e M hj ⟨e0,e2,e8,e15,e16,-⟩ hh
  rw[hJ] at hh
  obtain⟨e17,fr,o,hrows⟩:=hh
  simp only[] at e0 e2 e8 e15 e16
  have wj:=wS (n:=j) (by omega)
  have hrwi:rows[i].length=wd t:=hrwl _ (List.getElem_mem hir)
  have u3:=aD (o.at 2 (b:=n8) rfl) (rt:=none) (j:=3) (c:=w) rfl rfl
  have hiv:i<vs.length:=by omega
  have hvi:=(o.rd 0 rfl (v:=w) (by rw[hvs];exact hw')).get hiv (rt:=none) rfl
  obtain⟨ro,hro,hrv⟩:=hrows.get (i:=i) (u:=vs[i]) (xs:=(dedj KS.length j rows[i]).map encI) (by simp[hiv]) (by rw[List.getElem?_map,stR_get hir];rfl)
  have hdl:(dedj KS.length j rows[i]).length=wd t:=by rw[aE3,hrwi]
  have hat:([(wo,BSt.arr 36 vs),(bo,.arr 4 ((KS.map fun kk=>A.y.getD (kk / 2^t) false).map aK)),(some n8,.arr 25 [aB t,.int .i64 0,u,w]),(some n2,.arr 25 [.int .i64 0,.int .i64 0,.nils,.nils])]++fr)[4+i]?=some (ro,.arr 2 ((dedj KS.length j rows[i]).map encI)):=by
   rw[List.getElem?_append_right (by simp),←hro]
   simp
  have hvl:vs[i].slen=wd t:=by rw[hrv.len];simp[hdl]
  by_cases hlj:j<wd t
  ·have hrd:=(o.rd (4+i) hat hrv).at (i:=j) (by rw[hdl];exact hlj) (rt:=none) rfl
   rw[aX1 (by rw[hrwi];exact hlj)] at hrd
   simp[e8,u3,e16,e17,hw'.isSl,hw'.len,hlt,hvi,hrv.isSl,hvl,hlj,hrd]
   by_cases hneg:rows[i][j]'(by rw[hrwi];exact hlj)<0
   ·obtain⟨K5,g5,o5⟩:=o.wr (4+i) hat hrv (j:=j) (by simp[hdl,hlj]) (u:=encI (KS.length:Nat)) rfl (rt:=none) rfl
    have g5':M.wr aA none 1 (vs[i].sat j 1) (aB KS.length)=some K5:=g5
    simp[hneg,e8,u3,e16,e17,hw'.isSl,hw'.len,hlt,hvi,hrv.isSl,hvl,hlj,e15,g5',wj]
    rw[hJ]
    refine⟨by simp,fr.set i (ro,.arr 2 ((dedj KS.length (j+1) rows[i]).map encI)),?_,?_⟩
    ·rw[List.set_append_right _ _ (by simp)] at o5
     have hde:((dedj KS.length j rows[i]).map encI).set j (encI (KS.length:Nat))=(dedj KS.length (j+1) rows[i]).map encI:=by
      rw[←aX0 (D:=KS.length) (by rw[hrwi];exact hlj),List.map_set]
      unfold ded
      rw[if_pos hneg]
     rw[hde] at o5
     simpa using o5
    ·have:=RowsOf.upd (ys:=(dedj KS.length (j+1) rows[i]).map encI) (by simp[aE3]) hrows hro
     rw[←stR_set hir (dedj KS.length j rows[i]) (dedj KS.length (j+1) rows[i]),List.map_set]
     exact this
   ·simp[hneg,e17,wj,hlj]
    rw[hJ]
    refine⟨by simp,fr,o,?_⟩
    rw[dedj_skip (by rw[hrwi];exact hlj) hneg]
    exact hrows
  ·have hje:j=wd t:=by omega
   subst hje
   have hda:dedj KS.length (wd t) rows[i]=rows[i].map (ded KS.length):=by rw[←hrwi,dedj_all]
   rw[hda,stR_last hir] at hrows
   simp[e8,u3,e16,e17,hw'.isSl,hw'.len,hlt,hvi,hrv.isSl,hvl,wi]
   rw[hI]
   exact⟨by simp,fr,o,hrows⟩
 ·have hie:i=KS.length:=by omega
  subst hie
  have hall:oR KS.length rows KS.length=KS.map fun kk=>(aB8 t A KS kk (wd t)).map (ded KS.length):=by
   unfold oR
   rw[←hrl,List.take_length,List.drop_length,hrl,hrw]
   simp
  rw[hall] at hrows
  simp[e16,e8,u3,hw'.isSl,hw'.len]
  rw[hR]
  exact⟨n2,n8,u,w,bo,wo,vs,fr,by simp[e0,e2,e8,e15],o,hu,hw',hvs,hrows⟩

theorem right_row(t:Nat)(A:Aut)(s:Nat)(kk:Nat)(c:Nat):(aB8 t A (bG t A s) kk c).map (ded (bG t A s).length)=((List.range c).map fun c=>numS (bG t A s) (stepS t A kk c)).map fun(n:Nat)=>(n:Int):=by
 unfold aB8
 rw[List.map_map,List.map_map]
 refine List.map_congr_left fun c _=>?_
 show ded _ (match stepS t A kk c with|none=>(-1:Int)|some to=>((pos (bG t A s) to:Nat):Int))=((numS (bG t A s) (stepS t A kk c):Nat):Int)
 cases stepS t A kk c with
 | none=>rfl
 | some to =>
  show ded _ ((pos (bG t A s) to:Nat):Int)=((pos (bG t A s) to:Nat):Int)
  unfold ded
  rw[if_neg (by omega)]
theorem RdRel.of{H K:BH}{t s:Nat}{A:Aut}{u w:BV}{bo wo:Option Nat}{vs:List BV}{fr:List Sl}(o:Own aA H K ([(wo,.arr 36 vs),(bo,.arr 4 (A.y.map aK))]++fr))(hu:Vec bo u A.y.length)(hw:Vec wo w vs.length)(hr:RowsOf 2 vs fr (A.nxt.map (·.map aB))):RdRel K t s A (.agg [aB t,aB s,u,w]):=⟨u,w,rfl,o.rd 1 rfl (by simpa using hu),RowsOf.rdR (bo:=wo) (F:=[(wo,.arr 36 vs),(bo,.arr 4 (A.y.map aK))]) o hr (o.rd 0 rfl hw)⟩
theorem right_p4(t s rb:Nat)(ht:t≤3)(A:Aut)(H:BH)(h:RdP H rb t s A)(hok:A.Ok (wd t))(hs:s<A.y.length)(hn:A.y.length≤100000)(e:Env)(K:BH)(hh:Rs3 aA H rb t s A e K):
  wpC aA (Runs (gam aA)) (((ir152.body.tl 8).tl 1).tl 2) (fun x e' K=>(x=.normal∨x=.ret)∧∃v,cY ir152.results e' K=some v∧H.Keeps K∧RdRel K t 0 (bH t A s) v) e K:=by
 obtain⟨u0,x,hr,hu0,hx⟩:=h
 obtain⟨R,hR⟩:∃R:BV→BH→Prop,R=fun v K=>H.Keeps K∧RdRel K t 0 (bH t A s) v:=⟨_,rfl⟩
 have hR':(fun(x:BExit) (e':Env) (K:BH)=>(x=.normal∨x=.ret)∧∃v,cY ir152.results e' K=some v∧H.Keeps K∧RdRel K t 0 (bH t A s) v)=fun x e' K=>(x=.normal∨x=.ret)∧∃v,cY ir152.results e' K=some v∧R v K:=by rw[hR]
 rw[hR']
 obtain⟨n2,n8,u,w,bo,wo,vs,fr,⟨e0,e2,e8,e15,-⟩,o,hu,hw',hvs,hrows⟩:=hh
 simp only[] at e0 e2 e8 e15
 have hT8:2^t≤8:=Nat.pow_le_pow_right (n:=2) (by omega) ht
 have hNT:A.y.length*2^t≤800000:=by have:=Nat.mul_le_mul hn hT8;omega
 have hKl:(bG t A s).length≤800000:=by
  have:=(gQ hok hs).len (A.y.length*2^t)
  rw[List.length_range] at this
  unfold bG
  omega
 have hw:=eQ ht
 have hacc:=aZ8 (t:=t) (X:=A) (s:=s)
 have hnxt:=aZ7 hok hs
 have hro:((bG t A s).map fun kk=>(aB8 t A (bG t A s) kk (wd t)).map (ded (bG t A s).length)).map (·.map encI)=((bG t A s).map fun kk=>(List.range (wd t)).map fun c=>numS (bG t A s) (stepS t A kk c)).map (·.map aB):=by
  rw[List.map_map,List.map_map]
  refine List.map_congr_left fun kk _=>?_
  show ((aB8 t A (bG t A s) kk (wd t)).map (ded (bG t A s).length)).map encI=_
  rw[right_row,List.map_map]
  rfl
 rw[hro] at hrows
 obtain⟨D,hD⟩:∃D,D=(bG t A s).length:=⟨_,rfl⟩
 rw[←hD] at e15 hu hw' hvs hnxt hKl
 obtain⟨ac,hac⟩:∃ac,ac=(bG t A s).map fun kk=>A.y.getD (kk / 2^t) false:=⟨_,rfl⟩
 rw[←hac] at o hacc
 have hacl:ac.length=D:=by rw[hac,hD];simp
 simp[ir152,BCode.tl,BCode.hd]
 intro n18 b18 f18
 have o1:=o.new f18 b18 (s:=.arr 2 [])
 simp[aC f18 b18]
 obtain⟨I,hI⟩:∃I:Nat→Env→BH→Prop,I=(fun i e K=>e 19=aB i∧∃v18 ro,e 18=v18∧Own aA H K ([(ro,.arr 2 ((List.replicate i D).map aB)),(wo,.arr 36 vs),(bo,.arr 4 (ac.map aK)),(some n8,.arr 25 [aB t,.int .i64 0,u,w]),(some n2,.arr 25 [.int .i64 0,.int .i64 0,.nils,.nils])]++fr)∧Vec ro v18 i):=⟨_,rfl⟩
 refine aE (wd t) [(0,.ptr rb 0),(2,.ptr n2 0),(8,.ptr n8 0),(15,aB D)] I (i0:=0) ?_ ?_ ?_ (Nat.zero_le _) ?_
 ·rfl
 ·simp[e0,e2,e8,e15]
 ·rw[hI]
  exact⟨by simp,.sl n18 0 0,some n18,by simp,o1,rfl⟩
 clear e0 e2 e8 e15 o o1
 rintro i e K hi ⟨e0,e2,e8,e15,-⟩ hh
 rw[hI] at hh
 obtain⟨e19,v18,ro,e18,o,hv18⟩:=hh
 simp only[] at e0 e2 e8 e15
 have wi:=wS (n:=i) (by omega)
 have r0:=aJ o.keeps (aD hr (rt:=none) (j:=0) (c:=aB t) rfl rfl)
 simp[e0,e19,r0]
 refine aN (sF t K (by omega)) ?_
 by_cases hlt:i<wd t
 ·simp[hlt,e18,e15]
  intro n1 b1 f1
  simp[aC f1 b1]
  intro n4 b4 f4
  obtain⟨v',K',b',q1,q2,q3⟩:=o.push 0 rfl (v:=v18) (by simpa using hv18) (x:=aB D) (bytes:=8) rfl (by simp;omega) (by simp;omega) f1 b1 f4 b4
  simp[q1,e19,wi,hlt]
  rw[hI]
  refine⟨by simp,v',some b',by simp,?_,by simpa using q3⟩
  rw[List.replicate_succ',List.map_append]
  exact q2
 ·have hie:i=wd t:=by omega
  subst hie
  have u1:=aD (o.at 3 (b:=n8) rfl) (rt:=none) (j:=2) (c:=u) rfl rfl
  simp[e8,u1]
  intro n1 b1 f1
  simp[aC f1 b1]
  intro n4 b4 f4
  obtain⟨v',K2,b',q1,o2,q3⟩:=o.push 2 rfl (v:=u) (by rw[List.length_map,hacl];exact hu) (x:=aK false) (bytes:=1) rfl (by simp;omega) (by simp;omega) f1 b1 f4 b4
  obtain⟨K3,q2,o3⟩:=o2.put 3 (b:=n8) rfl (j:=2) (u:=v') (by simp) q3.one (rt:=none) rfl
  have u2:=aD (o3.at 3 (b:=n8) rfl) (rt:=none) (j:=3) (c:=w) rfl rfl
  have h18:=hv18.one
  simp[q1,q2,e8,u2,e18,h18,cells_one h18]
  intro n5' b5' f5'
  simp[aC f5' b5']
  intro n6 b6 f6
  obtain⟨w',K4,c',p1,o4,p3⟩:=o3.push 1 rfl (v:=w) (by rw[hvs];exact hw') (x:=v18) (bytes:=24) h18 (by omega) (by omega) f5' b5' f6 b6
  obtain⟨K5,p2,o5⟩:=o4.put 3 (b:=n8) rfl (j:=3) (u:=w') (by simp) p3.one (rt:=none) rfl
  have r9:=aI (o5.at 3 (b:=n8) rfl) (n:=4) (rt:=none) rfl rfl
  obtain⟨K6,p4,o6⟩:=o5.putAll 4 (b:=n2) (n:=4) (ds:=[aB t,.int .i64 0,v',w']) rfl rfl rfl (by simp[q3.one,p3.one]) (rt:=none) rfl
  have r10:=aI (o6.at 4 (b:=n2) rfl) (n:=4) (rt:=none) rfl rfl
  have r9':K5.rd none (some 4) (.ptr n8 0)=some (.agg [aB t,.int .i64 0,v',w']):=r9
  simp[p1,p2,e8,e2,r9',p4,r10]
  rw[hR]
  refine⟨o6.keeps,?_⟩
  have o7:=Own.last (p:=(ro,.arr 2 ((List.replicate (wd t) D).map aB))) (F:=[(some c',.arr 36 (vs++[v18])),(some b',.arr 4 (ac.map aK++[aK false])),(some n8,.arr 25 [aB t,.int .i64 0,v',w']),(some n2,.arr 25 [aB t,.int .i64 0,v',w'])]) (by simpa using o6)
  have o8:Own aA H K6 ([(some c',.arr 36 (vs++[v18])),(some b',.arr 4 ((bH t A s).y.map aK))]++(fr++[(ro,.arr 2 ((List.replicate (wd t) D).map aB))])):=by
   rw[hacc,List.map_append]
   exact o7.sub (.cons_cons _ (.cons_cons _ (.cons _ (.cons _ (List.Sublist.refl _)))))
  refine RdRel.of (t:=t) (s:=0) o8 ?_ ?_ ?_
  ·rw[hacc]
   simpa[hacl] using q3
  ·simpa using p3
  ·rw[hnxt,List.map_append]
   exact hrows.snoc (by simpa using hv18)
theorem s_right(t s rb:Nat)(ht:t≤3)(A:Aut)(H:BH)(h:RdP H rb t s A)(hok:A.Ok (wd t))(hs:s<A.y.length)(hn:A.y.length≤100000):FnDoes (gam aA) 152 [.ptr rb 0] H fun v K=>RdRel K t 0 (bH t A s) v:=by
 refine FnDoes.of (fn:=ir152) rfl ?_
 refine dO 8 (Rs1 aA H rb t s A) (right_p1 t s rb ht A H h hs hn _) fun e K h1=>?_
 refine dO 1 (Rs2 aA H rb t s A) (right_p2 t s rb ht A H h hok hs hn _ e K h1) fun e K h2=>?_
 refine dO 2 (Rs3 aA H rb t s A) (right_p3 t s rb ht A H hok hs hn _ e K h2) fun e K h3=>?_
 exact right_p4 t s rb ht A H h hok hs hn e K h3
theorem s_alike(t s rb w:Nat)(A:Aut)(g:List Nat)(cv:BV)(H:BH)(h:RdP H rb t s A)(hok:A.Ok w)(hw:w≤1000)(hg:Rd H 2 cv (g.map aB))(hgl:g.length=A.y.length)(a b:Nat)(ha:a<A.y.length)(hb:b<A.y.length):Runs (gam aA) 203 [.ptr rb 0,cv,aB a,aB b] H (.bool (decide ((bJ A g a).2=(bJ A g b).2))) H:=by
 refine aV (fn:=ir203) rfl ?_
 obtain⟨u,x,hr,hu,hx⟩:=h
 have r3:=aD hr (rt:=none) (j:=3) (c:=x) rfl rfl
 have ha':a<A.nxt.length:=by rw[hok.len];exact ha
 have hb':b<A.nxt.length:=by rw[hok.len];exact hb
 obtain⟨ra,hra,hra2⟩:=hx.at ha'
 obtain⟨rb',hrb,hrb2⟩:=hx.at hb'
 have hra2:=hra2 none rfl
 have hrb2:=hrb2 none rfl
 have hla:=hok.row _ (List.getElem_mem ha')
 have hlb:=hok.row _ (List.getElem_mem hb')
 have hka:(bJ A g a).2=A.nxt[a].map fun q=>g.getD q 0:=by unfold bJ;simp[ha']
 have hkb:(bJ A g b).2=A.nxt[b].map fun q=>g.getD q 0:=by unfold bJ;simp[hb']
 simp[ir203]
 refine aE w [(0,.ptr rb 0),(1,cv),(2,aB a),(3,aB b)] (fun c e K=>e 9=aB c∧(∀d,d<c→(bJ A g a).2[d]?=(bJ A g b).2[d]?)∧K=H) (i0:=0) ?_ ?_ ?_ (Nat.zero_le _) ?_
 ·rfl
 ·simp
 ·exact⟨rfl,fun d hd=>by omega,rfl⟩
 rintro c e K hc ⟨e0,e1,e2,e3,-⟩ ⟨e9,hsame,rfl⟩
 simp only[] at e0 e1 e2 e3
 have wc:=wS (n:=c) (by omega)
 by_cases hlt:c<w
 ·have ca:c<A.nxt[a].length:=by omega
  have cb:c<A.nxt[b].length:=by omega
  have h1:=hra.at ca (rt:=none) rfl
  have h2:=hrb.at cb (rt:=none) rfl
  have q1:=hla.2 _ (List.getElem_mem ca)
  have q2:=hlb.2 _ (List.getElem_mem cb)
  have q1':A.nxt[a][c]<g.length:=by omega
  have q2':A.nxt[b][c]<g.length:=by omega
  have h3:=hg.at q1' (rt:=none) rfl
  have h4:=hg.at q2' (rt:=none) rfl
  have k1:(bJ A g a).2[c]?=some g[A.nxt[a][c]]:=by rw[hka,List.getElem?_map,List.getElem?_eq_getElem ca];simp[q1']
  have k2:(bJ A g b).2[c]?=some g[A.nxt[b][c]]:=by rw[hkb,List.getElem?_map,List.getElem?_eq_getElem cb];simp[q2']
  simp[e0,e1,e2,e3,e9,r3,hx.isSl,hx.len,ha',hb',hra2,hrb2,hra.isSl,hra.lenM,hrb.isSl,hrb.lenM,ca,cb,hla.1,hlb.1,hlt,h1,h2,hg.isSl,hg.lenM,q1',q2',h3,h4]
  by_cases he:g[A.nxt[a][c]]=g[A.nxt[b][c]]
  ·have he':((g[A.nxt[a][c]]:Nat):Int)=((g[A.nxt[b][c]]:Nat):Int):=by omega
   simp[he,e9,wc,hlt]
   intro d hd
   by_cases hdc:d=c
   ·subst hdc;rw[k1,k2,he]
   ·exact hsame d (by omega)
  ·have hne:((g[A.nxt[a][c]]:Nat):Int)≠((g[A.nxt[b][c]]:Nat):Int):=by omega
   have hbn:(((g[A.nxt[a][c]]:Nat):Int) != ((g[A.nxt[b][c]]:Nat):Int))=true:=by simpa using hne
   simp[hbn]
   intro e5
   rw[e5,k2] at k1
   simp at k1
   exact he k1.symm
 ·have hce:c=w:=by omega
  subst hce
  simp[e0,e2,e9,r3,hx.isSl,hx.len,ha',hra2,hra.isSl,hra.lenM,hla.1]
  apply List.ext_getElem?
  intro d
  by_cases hd:d<c
  ·exact hsame d hd
  ·rw[List.getElem?_eq_none,List.getElem?_eq_none]
   ·rw[hkb,List.length_map];omega
   ·rw[hka,List.length_map];omega
theorem aH6{α:Type}[DecidableEq α]:∀{ks:List α} {k:α} {n:Nat} (h:n<ks.length),ks[n]=k→(∀j,(hj:j<n)→ks[j]≠k)→pos ks k=n
 | [],k,n,h,_,_=>by simp at h
 | x::ks,k,0,h,h1,_=>by
  simp at h1
  subst h1
  simp[pos]
 | x::ks,k,n+1,h,h1,h2=>by
  have hx:x≠k:=h2 0 (by omega)
  have h3:=aH6 (ks:=ks) (k:=k) (n:=n) (by simpa using h) (by simpa using h1) fun j hj=>by
   have:=h2 (j+1) (by omega)
   simpa using this
  unfold pos at h3 ⊢
  rw[List.idxOf_cons]
  have:(x==k)=false:=by simpa using hx
  rw[this,cond_false,h3]
theorem s_finer (t s rb w:Nat) (A:Aut) (g:List Nat) (cv:BV) (H:BH) (h:RdP H rb t s A) (hok:A.Ok w) (hw:w≤1000) (hg:Rd H 2 cv (g.map aB)) (hgl:g.length=A.y.length) (hn:A.y.length≤1000000):FnDoes (gam aA) 153 [.ptr rb 0,cv] H fun v K=>∃y bo,v=.tup [y,aB (cC A g).length]∧OwnV aA K 2 y ((lR A g).map aB) bo∧Fr H bo:=by
 refine FnDoes.of (fn:=ir153) rfl ?_
 obtain⟨n,hnn⟩:∃n,n=A.y.length:=⟨_,rfl⟩
 have hcl:cv.slen=n:=by rw[hg.lenM,hgl,hnn]
 have c1:(n:Int)≤140737488355328:=by omega
 have c8:8*(n:Int)≤140737488355328:=by omega
 simp[ir153,hg.isSl,hcl,c1,c8]
 intro n7 b7 f7
 simp[aC f7 b7]
 intro n8 b8 f8
 have o1:=Own.start (aA:=aA) (H:=H) |>.new f7 b7 (s:=.arr 2 (List.replicate n (.int .i64 0))) |>.new f8 b8 (s:=.arr 2 [])
 simp[aC f8 b8]
 obtain⟨F,hF⟩:∃F:Nat→Int,F=fun j=>((pos (cC A g) (bJ A g j):Nat):Int):=⟨_,rfl⟩
 obtain⟨I,hI⟩:∃I:Nat→Env→BH→Prop,I=(fun i e K=>e 9=aB i∧∃v8 lo,∃fs:List Nat,e 8=v8∧fs.map (bJ A g)=bN A g i∧(∀f∈fs,f<n)∧Own aA H K [(lo,.arr 2 (fs.map aB)),(some n7,.arr 2 ((cQ n F i).map encI))]∧Vec lo v8 fs.length):=⟨_,rfl⟩
 refine aE n [(0,.ptr rb 0),(1,cv),(6,aB n),(7,.sl n7 0 n)] I (i0:=0) ?_ ?_ ?_ (Nat.zero_le _) ?_
 ·rfl
 ·simp
 ·rw[hI]
  refine⟨rfl,.sl n8 0 0,some n8,[],rfl,rfl,fun f hf=>by simp at hf,?_,rfl⟩
  rw[iJ,yP]
  exact o1
 clear o1
 rintro i e K hi ⟨e0,e1,e6,e7,-⟩ hh
 rw[hI] at hh
 obtain⟨e9,v8,lo,fs,e8,hfs,hfn,o,hv8⟩:=hh
 simp only[] at e0 e1 e6 e7
 have wi:=wS (n:=i) (by omega)
 by_cases hlt:i<n
 ·have hltA:i<A.y.length:=by omega
  have hltg:i<g.length:=by omega
  obtain⟨K2,g2,o2⟩:=o.put 1 (b:=n7) rfl (j:=i) (u:=encI (-1)) (by simp[eW F hi,hlt]) rfl (rt:=none) rfl
  have hfsl:fs.length≤i:=by
   have h1:=congrArg List.length hfs
   rw[List.length_map] at h1
   have h2:=nodup_le (xs:=bN A g i) (ys:=(List.range i).map (bJ A g)) (dH List.nodup_nil) fun x hx=>addAll_all.1 hx
   simp at h2
   omega
  have hkl:fs.length=(bN A g i).length:=by rw[←hfs,List.length_map]
  have hkg:∀k,(hk:k<fs.length)→(bN A g i)[k]'(by omega)=bJ A g fs[k]:=fun k hk=>by simp[←hfs]
  simp[e6,e7,e9,hlt,g2]
  obtain⟨J,hJ⟩:∃J:Nat→Env→BH→Prop,J=(fun k e K=>e 10=aB k∧∃v:Int,Own aA H K [(lo,.arr 2 (fs.map aB)),(some n7,.arr 2 (((cQ n F i).set i v).map encI))] ∧
   ((v = -1∧∀j,(hj:j<k)→(hj2:j<fs.length)→bJ A g fs[j]≠bJ A g i)∨(∃k',k=k'+1∧v=(k':Nat)∧∃hk:k'<fs.length,bJ A g fs[k']=bJ A g i∧∀j,(hj:j<k')→bJ A g fs[j]≠bJ A g i))):=⟨_,rfl⟩
  refine aE fs.length [(0,.ptr rb 0),(1,cv),(6,aB n),(7,.sl n7 0 n),(8,v8),(9,aB i)] J (i0:=0) ?_ ?_ ?_ (Nat.zero_le _) ?_
  ·rfl
  ·simp[e0,e1,e6,e7,e8,e9]
  ·rw[hJ]
   refine⟨by simp,-1,?_,.inl ⟨rfl,fun j hj=>by omega⟩⟩
   simpa[List.map_set] using o2
  clear e0 e1 e6 e7 e8 e9 o o2 g2
  rintro k e M hk ⟨e0,e1,e6,e7,e8,e9,-⟩ hh
  rw[hJ] at hh
  obtain⟨e10,v,o,hv⟩:=hh
  simp only[] at e0 e1 e6 e7 e8 e9
  have wk:=wS (n:=k) (by omega)
  have hrd:=aD (o.at 1 (b:=n7) rfl) (rt:=none) (j:=i) (c:=encI v) rfl (by simp[eW F hi,hlt])
  have hpre:=qM A g (show i≤A.y.length by omega)
  have hpre1:=qM A g (show i+1≤A.y.length from hltA)
  have hsu:=rT A g i
  have found:∀k',v=(k':Nat)→(∃hk:k'<fs.length,bJ A g fs[k']=bJ A g i∧∀j,(hj:j<k')→bJ A g fs[j]≠bJ A g i)→v=F i∧bN A g (i+1)=bN A g i:=by
   rintro k' hv' ⟨hk1,hk2,hk3⟩
   have hp:pos (bN A g i) (bJ A g i)=k':=aH6 (by omega) (by rw[hkg k' hk1,hk2]) fun j hj=>by rw[hkg j (by omega)];exact hk3 j hj
   have hm:bJ A g i∈bN A g i:=by
    have:=List.getElem_mem (l:=bN A g i) (n:=k') (by omega)
    rw[hkg k' hk1,hk2] at this
    exact this
   refine⟨?_,by rw[hsu];unfold bF;rw[if_pos hm]⟩
   rw[hv',hF]
   show ((k':Nat):Int)=((pos (cC A g) (bJ A g i):Nat):Int)
   rw[cH hpre hm,hp]
  rcases hv with⟨rfl,hno⟩|⟨k',rfl,hv',hk'⟩
  ·by_cases hlk:k<fs.length
   ·have hrf:=(o.rd 0 rfl (v:=v8) (by simpa using hv8)).at hlk (rt:=none) rfl
    have hfk:=hfn _ (List.getElem_mem hlk)
    have hfkg:fs[k]<g.length:=by omega
    have hgk:=(hg.keeps o.keeps).at hfkg (rt:=none) rfl
    have hgi:=(hg.keeps o.keeps).at hltg (rt:=none) rfl
    have hg1:(bJ A g fs[k]).1=g[fs[k]]:=by unfold bJ;simp[hfkg]
    have hg2:(bJ A g i).1=g[i]:=by unfold bJ;simp[hltg]
    simp[e7,e8,e9,e10,hv8.isSl,hv8.len,hlk,hlt,hrd,e1,hrf,hg.isSl,hcl,hfk,hgk,hgi]
    by_cases hge:g[fs[k]]=g[i]
    ·have hal:=s_alike (aA:=aA) t s rb w A g cv M (h.keeps o.keeps) hok hw (hg.keeps o.keeps) hgl fs[k] i (by omega) hltA
     simp[hge,e0,e1,e8,e9,e10,hv8.isSl,hv8.len,hlk,hrf]
     refine aN hal ?_
     by_cases hk2:(bJ A g fs[k]).2=(bJ A g i).2
     ·have hkey:bJ A g fs[k]=bJ A g i:=Prod.ext (by rw[hg1,hg2,hge]) hk2
      obtain⟨K3,g3,o3⟩:=o.put 1 (b:=n7) rfl (j:=i) (u:=encI (k:Nat)) (by simp[eW F hi,hlt]) rfl (rt:=none) rfl
      have g3':M.wr aA none 1 (.ptr n7 i) (aB k)=some K3:=g3
      simp[hk2,e7,e9,e10,hlt,g3',wk,hlk]
      rw[hJ]
      refine⟨by simp,(k:Nat),?_,.inr ⟨k,rfl,rfl,hlk,hkey,fun j hj=>hno j hj (by omega)⟩⟩
      simpa[List.map_set] using o3
     ·simp[hk2,e10,wk,hlk]
      rw[hJ]
      refine⟨by simp,-1,o,.inl ⟨rfl,fun j hj hj2=>?_⟩⟩
      by_cases hjk:j=k
      ·subst hjk
       intro e
       exact hk2 (by rw[e])
      ·exact hno j (by omega) hj2
    ·have hgi':¬((g[fs[k]]:Nat):Int)=((g[i]:Nat):Int):=by omega
     have hgb:(((g[fs[k]]:Nat):Int)==((g[i]:Nat):Int))=false:=by simpa using hgi'
     simp[hgb,e10,wk,hlk]
     rw[hJ]
     refine⟨by simp,-1,o,.inl ⟨rfl,fun j hj hj2=>?_⟩⟩
     by_cases hjk:j=k
     ·subst hjk
      intro e
      exact hge (by rw[←hg1,←hg2,e])
     ·exact hno j (by omega) hj2
   ·-- a new class
    have hke:k=fs.length:=by omega
    have hm:bJ A g i∉bN A g i:=fun hm=>by
     obtain⟨j,hj⟩:=List.getElem_of_mem hm
     obtain⟨hjl,hje⟩:=hj
     rw[hkg j (by omega)] at hje
     exact hno j (by omega) (by omega) hje
    have hadd:bN A g (i+1)=bN A g i++[bJ A g i]:=by rw[hsu];unfold bF;rw[if_neg hm]
    have hFi:F i=(fs.length:Nat):=by
     rw[hF,hkl,←dR hm,←hsu]
     show ((pos (cC A g) (bJ A g i):Nat):Int)=_
     rw[cH hpre1 (by rw[hsu];exact mem_addK.2 (.inr rfl))]
    obtain⟨K3,g3,o3⟩:=o.put 1 (b:=n7) rfl (j:=i) (u:=encI (fs.length:Nat)) (by simp[eW F hi,hlt]) rfl (rt:=none) rfl
    have g3':M.wr aA none 1 (.ptr n7 i) (.int .i64 (fs.length:Nat))=some K3:=g3
    simp[e7,e8,e9,e10,hv8.isSl,hv8.len,hlk,hlt,hrd,g3']
    intro n1 b1 f1
    simp[aC f1 b1]
    intro n4 b4 f4
    obtain⟨v',K',b',q1,q2,q3⟩:=o3.push 0 rfl (v:=v8) (by simpa using hv8) (x:=aB i) (bytes:=8) rfl (by simp;omega) (by simp;omega) f1 b1 f4 b4
    simp[q1,e9,wi,hlt]
    rw[hI]
    refine⟨by simp,v',some b',fs++[i],by simp,by rw[List.map_append,hfs,hadd];rfl,fun f hf=>?_,?_,by simpa using q3⟩
    ·rcases List.mem_append.1 hf with hf|hf
     ·exact hfn f hf
     ·rw[List.mem_singleton] at hf;omega
    ·rw[←iT F hlt,hFi]
     simpa[List.map_set] using q2
  ·obtain⟨hvF,hks⟩:=found k' hv' hk'
   have hnn:¬v<0:=by omega
   have fin:∀e:Env,e 9=aB (i+1)→e 8=v8→I (i+1) e M:=fun e h9 h8=>by
    rw[hI]
    refine⟨h9,v8,lo,fs,h8,by rw[hks];exact hfs,hfn,?_,hv8⟩
    rw[←iT F hlt,←hvF]
    exact o
   by_cases hlk:k'+1<fs.length
   ·have hlk1:(k':Int)+1<(fs.length:Int):=by omega
    simp[e7,e8,e9,e10,hv8.isSl,hv8.len,hlk1,hlt,hrd,hnn,wi]
    refine fin _ ?_ ?_<;>simp[e8]
   ·have hlk':¬((k':Int)+1<(fs.length:Int)):=by omega
    simp[e7,e8,e9,e10,hv8.isSl,hv8.len,hlk,hlk',hlt,hrd,hnn,wi]
    refine fin _ ?_ ?_<;>simp[e8]
 ·have hie:i=n:=by omega
  subst hie
  have hall:cQ i F i=(lR A g).map fun(q:Nat)=>(q:Int):=by
   rw[lZ,hF]
   unfold lR
   rw[List.map_map,hnn]
   rfl
  rw[hall] at o
  have hkk:bN A g i=cC A g:=by rw[hnn];rfl
  have hfl:fs.length=(cC A g).length:=by rw[←hkk,←hfs,List.length_map]
  simp[e6,e7,e8,e9,hv8.isSl,hv8.len,hfl]
  have o':Own aA H K [(lo,.arr 2 (fs.map aB)),(some n7,.arr 2 ((lR A g).map aB))]:=by
   rw[List.map_map] at o
   exact o
  exact⟨o.keeps,some n7,o'.vec 1 rfl (by rw[List.length_map,aK1,←hnn];rfl),Fr.some (o'.fr 1 rfl)⟩
end Go.Proofs.YtbnmhbmhafbmiaaGreatDoor.W
end
