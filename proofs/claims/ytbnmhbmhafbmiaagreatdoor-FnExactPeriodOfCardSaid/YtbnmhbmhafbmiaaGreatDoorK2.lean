/-
Texts of our own, put together: B19, B20, B21, B22, B25, B26, B27, B28, B29, B30, B31.
-/
import Derived.Test.YtbnmhbmhafbmiaaGreatDoorK1
import Derived.Sort.Grow
import Derived.Deep.Draws
import Derived.Lib.AppendIntMem
import Derived.Lib.ItoaNum
import Derived.Sort.Row
import Derived.Shelf.Spec.SlicesInsertGrow
import Derived.Lib.RowBridge
section
namespace Go.B
set_option linter.unusedVariables false
set_option linter.unusedSimpArgs false

/-! ### slices, read -/
def BV.isSl:BV→Bool
  | .nils | .sle | .sl _ _ _=>true
  | _=>false
def BV.slen:BV→Nat
 | .sl _ _ n=>n
 | _=>0
def BV.sat(v:BV)(i sz:Nat):BV:=match v with
 | .sl b o _=>.ptr b (o+i*sz)
 | _=>.any
def BH.rd(H:BH)(rt:Option Nat)(n:Option Nat)(p:BV):Option BV:=match p with
 | .ptr b o=>match H.row b with
  | .arr ty cs=>if dF rt ty=true∧o+n.getD 1≤cs.length then asm n ((cs.drop o).take (n.getD 1)) else none
  | _=>none
 | _=>none

section
variable {aA nb:Nat} {σ:Opd→BV} {H:BH}
theorem oU{x:Opd}:op1 aA nb σ H (.mov x)=some (σ x,H):=rfl
theorem kG{c a b:Opd}:op1 aA nb σ H (.pick c a b)=match σ c with | .bool true=>some (σ a,H) | .bool false=>some (σ b,H)|_=>none:=rfl
theorem oO{ty:Nat}{z:List BV}:op1 aA nb σ H (.new ty z)=(H.make aA nb (.arr ty z)).map fun K=>(.ptr nb 0,K):=rfl
theorem pG{ty:Nat}{x:Opd}:op1 aA nb σ H (.box ty x)=if (σ x).cells.all BV.one=true then(H.make aA nb (.arr ty (σ x).cells)).map fun K=>(.ptr nb 0,K) else none:=rfl
theorem kO{rt n:Option Nat}{a:Opd}:op1 aA nb σ H (.load rt n a)=(H.rd rt n (σ a)).map (·,H):=by
 cases ha:σ a<;>simp only[op1,BH.rd,ha]<;>try rfl
 rename_i b o
 cases hb:H.row b<;>simp only[]<;>try rfl
 split<;>rfl
theorem gI{x:Opd}:op1 aA nb σ H (.nilck x)=match σ x with | .ptr b o=>some (.ptr b o,H) | .fn f cs=>some (.fn f cs,H)|_=>none:=rfl
theorem mL{op:BinOp}{x y:Opd}:op1 aA nb σ H (.bin op x y)=(bC op (σ x) (σ y)).map (·,H):=rfl
theorem pH{neg:Bool}{x y:Opd}:op1 aA nb σ H (.beq neg x y)=match σ x,σ y with | .bool a,.bool b=>some (.bool (if neg then !(a==b) else a==b),H)|_,_=>none:=rfl
theorem oK{x:Opd}:op1 aA nb σ H (.not x)=match σ x with | .bool b=>some (.bool (!b),H)|_=>none:=rfl
theorem oQ{x:Opd}:op1 aA nb σ H (.neg x)=match σ x with | .int k n=>some (.int k (k.wrap (0-n)),H)|_=>none:=rfl
theorem kX{k:IntKind}{x:Opd}:op1 aA nb σ H (.conv k x)=match σ x with | .int _ n=>some (.int k (k.wrap n),H)|_=>none:=rfl
theorem oV{off:Nat}{x:Opd}:op1 aA nb σ H (.lea off x)=match σ x with | .ptr b o=>some (.ptr b (o+off),H)|_=>none:=rfl
theorem pD{off:Nat}{n:Option Nat}{x:Opd}:op1 aA nb σ H (.fld off n x)=match σ x with | .agg cs=>if off+n.getD 1≤cs.length then(asm n ((cs.drop off).take (n.getD 1))).map (·,H) else none|_=>none:=rfl
theorem kR{x:Opd}:op1 aA nb σ H (.len 0 x)=match σ x with | .str s=>some (.int .i64 s.size,H)|_=>none:=by
 cases h:σ x<;>simp only[op1,h]
theorem kQ{x:Opd}:op1 aA nb σ H (.len 1 x)=if (σ x).isSl=true then some (.int .i64 (σ x).slen,H) else none:=by
 cases h:σ x<;>simp[op1,h,BV.isSl,BV.slen]
theorem oW{sz:Nat}{x i:Opd}:op1 aA nb σ H (.idx sz x i)=match σ i with
  | .int _ j=>if (σ x).isSl=true∧0≤j∧j<(σ x).slen then some ((σ x).sat j.toNat sz,H) else none
  | _=>none:=by
 cases h:σ x<;>cases h2:σ i<;>simp[op1,h,h2,BV.isSl,BV.slen,BV.sat]
 all_goals (intro h3 h4;omega)
theorem kV{x i:Opd}:op1 aA nb σ H (.idxs x i)=match σ x,σ i with | .str s,.int _ j=>if 0≤j then(s[j.toNat]?).map fun b=>(.int .u8 b.toNat,H) else none|_,_=>none:=rfl
theorem pE{i:Nat}{x:Opd}:op1 aA nb σ H (.ext i x)=match σ x with | .tup vs=>vs[i]?.map (·,H)|_=>none:=rfl
theorem gP{z:List BV}{ps:List (Nat×Nat×Opd)}:op1 aA nb σ H (.build z ps)=match fillB z (ps.map fun(o,n,x)=>(o,n,σ x)) with|some cs=>some (.agg cs,H)|none=>none:=rfl
theorem uP{ty n:Nat}{z:List BV}{ps:List (Nat×Nat×Opd)}:op1 aA nb σ H (.mk ty n z ps)=match fillB z (ps.map fun(o,n,x)=>(o,n,σ x)) with
  | some cs=>(H.make aA nb (.arr ty cs)).map fun K=>(.sl nb 0 n,K)|none=>none:=rfl
theorem kJ{ty bytes:Nat}{zero:List BV}{len cap:Opd}:op1 aA nb σ H (.mksl ty bytes zero len cap)=match σ len,σ cap with
  | .int _ n,.int _ c=>if 0≤n∧n≤c∧(bytes:Int)*c≤140737488355328∧c≤140737488355328 then
    (H.make aA nb (.arr ty (List.flatten (List.replicate n.toNat zero)))).map fun K=>(.sl nb 0 n.toNat,K) else none
  | _,_=>none:=rfl
theorem gK{neg:Bool}{x:Opd}:op1 aA nb σ H (.isnil neg x)=match σ x with | .nils=>some (.bool (!neg),H) | .sl _ _ _=>some (.bool neg,H)|_=>none:=rfl
theorem pF{neg:Bool}{fs:List (Nat×Nat)}{x y:Opd}:op1 aA nb σ H (.eqs neg fs x y)=match σ x,σ y with
  | .agg xs,.agg ys=>(iV xs ys fs).map fun b=>(.bool (if neg then !b else b),H)|_,_=>none:=rfl
end

section
variable {aA:Nat} {C:bR} {Q:Post} {e:Env} {H:BH}
theorem wpC_skip:wpC aA C .skip Q e H=Q .normal e H:=rfl
theorem wpC_region{ops:List BOper}:wpC aA C (.region ops) Q e H=wpO aA C ops (Q .normal) e H:=rfl
theorem wpC_seq{a b:BCode}:wpC aA C (.seq a b) Q e H=wpC aA C a (Post.then (wpC aA C b Q) Q) e H:=rfl
theorem wpC_block{id:Nat}{b:BCode}:wpC aA C (.block id b) Q e H=wpC aA C b (Post.inBlock id Q) e H:=rfl
theorem wpC_exit{id:Nat}:wpC aA C (.exit id) Q e H=Q (.exit id) e H:=rfl
theorem wpC_ret:wpC aA C .ret Q e H=Q .ret e H:=rfl
end

/-! ### step by step: nothing is opened before it is known -/
abbrev CallS (C:bR) (g:Nat) (args:List BV) (k:List Nat) (d:Option Nat) (K:Env→BH→Prop) (e:Env) (H:BH):Prop :=
  ∃v H1,C g args H v H1∧H.KeepsTys k H1∧K (e.puto d v) H1
section
variable {aA:Nat} {C:bR} {e:Env} {H:BH} {K:Env→BH→Prop} {Q:Env→BH→Prop} {d:Option Nat} {g:Option (Nat×Bool)} {kp:List Nat}
theorem eM{v:BV}{H1:BH}:after (some (v,H1)) d K e=K (e.puto d v) H1:=Eq.trans rfl rfl
theorem nC{x:Opd}:aX aA C ⟨d,.mov x,g,kp⟩ K e H=after (op1 aA 0 (·.ev e) H (.mov x)) d K e:=rfl
theorem iY{c a b:Opd}:aX aA C ⟨d,.pick c a b,g,kp⟩ K e H=after (op1 aA 0 (·.ev e) H (.pick c a b)) d K e:=rfl
theorem fR{z:List BV}{ps:List (Nat×Nat×Opd)}:aX aA C ⟨d,.build z ps,g,kp⟩ K e H=after (op1 aA 0 (·.ev e) H (.build z ps)) d K e:=rfl
theorem jR{rt n:Option Nat}{a:Opd}:aX aA C ⟨d,.load rt n a,g,kp⟩ K e H=after (op1 aA 0 (·.ev e) H (.load rt n a)) d K e:=rfl
theorem fM{rt:Option Nat}{n:Nat}{a v:Opd}:aX aA C ⟨d,.store rt n a v,g,kp⟩ K e H=after (op1 aA 0 (·.ev e) H (.store rt n a v)) d K e:=rfl
theorem fO{x:Opd}:aX aA C ⟨d,.nilck x,g,kp⟩ K e H=after (op1 aA 0 (·.ev e) H (.nilck x)) d K e:=rfl
theorem cR{op:BinOp}{x y:Opd}:aX aA C ⟨d,.bin op x y,g,kp⟩ K e H=after (op1 aA 0 (·.ev e) H (.bin op x y)) d K e:=rfl
theorem nL{neg:Bool}{x y:Opd}:aX aA C ⟨d,.beq neg x y,g,kp⟩ K e H=after (op1 aA 0 (·.ev e) H (.beq neg x y)) d K e:=rfl
theorem fQ{neg:Bool}{x:Opd}:aX aA C ⟨d,.isnil neg x,g,kp⟩ K e H=after (op1 aA 0 (·.ev e) H (.isnil neg x)) d K e:=rfl
theorem nJ{neg:Bool}{fs:List (Nat×Nat)}{x y:Opd}:aX aA C ⟨d,.eqs neg fs x y,g,kp⟩ K e H=after (op1 aA 0 (·.ev e) H (.eqs neg fs x y)) d K e:=rfl
theorem mZ{x:Opd}:aX aA C ⟨d,.not x,g,kp⟩ K e H=after (op1 aA 0 (·.ev e) H (.not x)) d K e:=rfl
theorem nB{x:Opd}:aX aA C ⟨d,.neg x,g,kp⟩ K e H=after (op1 aA 0 (·.ev e) H (.neg x)) d K e:=rfl
theorem kB{k:IntKind}{x:Opd}:aX aA C ⟨d,.conv k x,g,kp⟩ K e H=after (op1 aA 0 (·.ev e) H (.conv k x)) d K e:=rfl
theorem nE{o:Nat}{x:Opd}:aX aA C ⟨d,.lea o x,g,kp⟩ K e H=after (op1 aA 0 (·.ev e) H (.lea o x)) d K e:=rfl
theorem nH{o:Nat}{n:Option Nat}{x:Opd}:aX aA C ⟨d,.fld o n x,g,kp⟩ K e H=after (op1 aA 0 (·.ev e) H (.fld o n x)) d K e:=rfl
theorem nF{sz:Nat}{x i:Opd}:aX aA C ⟨d,.idx sz x i,g,kp⟩ K e H=after (op1 aA 0 (·.ev e) H (.idx sz x i)) d K e:=rfl
theorem jV{x i:Opd}:aX aA C ⟨d,.idxs x i,g,kp⟩ K e H=after (op1 aA 0 (·.ev e) H (.idxs x i)) d K e:=rfl
theorem fN{sz:Nat}{x:Opd}{lo hi:Option Opd}:aX aA C ⟨d,.slice sz x lo hi,g,kp⟩ K e H=after (op1 aA 0 (·.ev e) H (.slice sz x lo hi)) d K e:=rfl
theorem dS{x:Opd}{lo hi:Option Opd}:aX aA C ⟨d,.sslice x lo hi,g,kp⟩ K e H=after (op1 aA 0 (·.ev e) H (.sslice x lo hi)) d K e:=rfl
theorem jH{f:Nat}{cs:List Opd}:aX aA C ⟨d,.mkfn f cs,g,kp⟩ K e H=after (op1 aA 0 (·.ev e) H (.mkfn f cs)) d K e:=rfl
theorem iZ{kd:Nat}{m k v:Opd}:aX aA C ⟨d,.mset kd m k v,g,kp⟩ K e H=after (op1 aA 0 (·.ev e) H (.mset kd m k v)) d K e:=rfl
theorem jO{kd:Nat}{ok:Bool}{z:BV}{m k:Opd}:aX aA C ⟨d,.look kd ok z m k,g,kp⟩ K e H=after (op1 aA 0 (·.ev e) H (.look kd ok z m k)) d K e:=rfl
theorem nI{i:Nat}{x:Opd}:aX aA C ⟨d,.ext i x,g,kp⟩ K e H=after (op1 aA 0 (·.ev e) H (.ext i x)) d K e:=rfl
theorem nD{kd:Nat}{x:Opd}:aX aA C ⟨d,.len kd x,g,kp⟩ K e H=after (op1 aA 0 (·.ev e) H (.len kd x)) d K e:=rfl
theorem nA{ty:Nat}{z:List BV}:aX aA C ⟨d,.new ty z,g,kp⟩ K e H=∀nb,aA≤nb→H.row nb=.fresh→after (op1 aA nb (·.ev e) H (.new ty z)) d K e:=rfl
theorem nK{ty:Nat}{x:Opd}:aX aA C ⟨d,.box ty x,g,kp⟩ K e H=∀nb,aA≤nb→H.row nb=.fresh→after (op1 aA nb (·.ev e) H (.box ty x)) d K e:=rfl
theorem uG{ty n:Nat}{z:List BV}{ps:List (Nat×Nat×Opd)}:aX aA C ⟨d,.mk ty n z ps,g,kp⟩ K e H=∀nb,aA≤nb→H.row nb=.fresh→after (op1 aA nb (·.ev e) H (.mk ty n z ps)) d K e:=rfl
theorem fP :aX aA C ⟨d,.mkmap,g,kp⟩ K e H=∀nb,aA≤nb→H.row nb=.fresh→after (op1 aA nb (·.ev e) H (.mkmap)) d K e:=rfl
theorem jG{ty bytes:Nat}{zero:List BV}{len cap:Opd}:aX aA C ⟨d,.mksl ty bytes zero len cap,g,kp⟩ K e H=∀nb,aA≤nb→H.row nb=.fresh→after (op1 aA nb (·.ev e) H (.mksl ty bytes zero len cap)) d K e:=rfl
theorem nN{ty sz bytes:Nat}{x y:Opd}:aX aA C ⟨d,.app ty sz bytes x y,g,kp⟩ K e H=∀nb,aA≤nb→H.row nb=.fresh→after (op1 aA nb (·.ev e) H (.app ty sz bytes x y)) d K e:=rfl
theorem uH{n:Nat}{caps:List BV}{xs:List Opd}:aX aA C ⟨d,.call (.c (.fn n caps)) xs,g,kp⟩ K e H=CallS C n (xs.map (·.ev e)++caps) kp d K e H:=rfl
theorem kC{f:Opd}{xs:List Opd}{n:Nat}{caps:List BV}(h:f.ev e=.fn n caps):aX aA C ⟨d,.call f xs,g,kp⟩ K e H=CallS C n (xs.map (·.ev e)++caps) kp d K e H:=by
 unfold aX
 simp only[h]
theorem nO:wpO aA C [] Q e H=Q e H:=rfl
variable {op:BOp} {r:List BOper} {t:Nat}
theorem nP:wpO aA C (⟨d,op,none,kp⟩::r) Q e H=aX aA C ⟨d,op,none,kp⟩ (wpO aA C r Q) e H:=by
 have h:wpO aA C (⟨d,op,none,kp⟩::r) Q e H=aX aA C ⟨d,op,none,kp⟩ (wpO aA C r Q) e H:=rfl
 exact h.trans (Eq.symm (Eq.symm rfl))
theorem uI(h:e t=.bool true):wpO aA C (⟨d,op,some (t,true),kp⟩::r) Q e H=aX aA C ⟨d,op,some (t,true),kp⟩ (wpO aA C r Q) e H:=by
 simp[wpO,lN,h]
theorem uL(h:e t=.bool false):wpO aA C (⟨d,op,some (t,false),kp⟩::r) Q e H=aX aA C ⟨d,op,some (t,false),kp⟩ (wpO aA C r Q) e H:=by
 simp[wpO,lN,h]
theorem uJ(h:e t=.bool false):wpO aA C (⟨d,op,some (t,true),kp⟩::r) Q e H=wpO aA C r Q (e.puto d (.tup [])) H:=by
 simp[wpO,lN,h]
theorem uK(h:e t=.bool true):wpO aA C (⟨d,op,some (t,false),kp⟩::r) Q e H=wpO aA C r Q (e.puto d (.tup [])) H:=by
 simp[wpO,lN,h]
theorem aF6{b:Bool}(h:e t=.tup []):wpO aA C (⟨d,op,some (t,b),kp⟩::r) Q e H=wpO aA C r Q (e.puto d (.tup [])) H:=by
 simp[wpO,lN,h]
theorem kD{c:Opd}{a b:BCode}{Q:Post}(h:c.ev e=.bool true):wpC aA C (.cond c a b) Q e H=wpC aA C a Q e H:=by
 rw[wpC,h]
theorem fU{c:Opd}{a b:BCode}{Q:Post}(h:c.ev e=.bool false):wpC aA C (.cond c a b) Q e H=wpC aA C b Q e H:=by
 rw[wpC,h]
end

theorem put_eq{e:Env}{t:Nat}{v:BV}:(e.put t v) t=v:=by simp[Env.put]
theorem sN{e:Env}{s t:Nat}{v:BV}(h:s≠t):(e.put t v) s=e s:=by simp[Env.put,h]
theorem gC{e:Env}{t:Nat}{v:BV}:e.puto (some t) v=e.put t v:=by unfold Env.puto;rfl
theorem gG{e:Env}{v:BV}:e.puto none v=e:=by unfold Env.puto;rfl

theorem aV{Γ:Ctx}{f:Nat}{fn:aM}{args:List BV}{H:BH}{v:BV}{H':BH}(hf:Γ.fn f=some fn)(h:wpC Γ.aA (Runs Γ) fn.body (fun x e' K=>(x=.normal∨x=.ret)∧cY fn.results e' K=some v∧K=H') (eX args) H):Runs Γ f args H v H':=by
 obtain⟨u,K,h1,rfl,rfl⟩:=uE (R:=fun u K=>u=v∧K=H') hf (wpC_mono (fun x e K ⟨a,b,c⟩=>⟨a,_,b,rfl,c⟩) h)
 exact h1

theorem pM{k:IntKind}{n:Int}:BV.one (.int k n)=true:=rfl
theorem gY{k:IntKind}{n:Int}:BV.cells (.int k n)=[(.int k n)]:=rfl
theorem lD{b:Bool}:BV.one (.bool b)=true:=rfl
theorem eJ{b:Bool}:BV.cells (.bool b)=[(.bool b)]:=rfl
theorem pJ{s:ByteArray}:BV.one (.str s)=true:=rfl
theorem gV{s:ByteArray}:BV.cells (.str s)=[(.str s)]:=rfl
theorem kZ :BV.one .nilp=true:=rfl
theorem eE :BV.cells .nilp=[.nilp]:=rfl
theorem pL{b o:Nat}:BV.one (.ptr b o)=true:=rfl
theorem gX{b o:Nat}:BV.cells (.ptr b o)=[(.ptr b o)]:=rfl
theorem kY :BV.one .nils=true:=rfl
theorem eD :BV.cells .nils=[.nils]:=rfl
theorem uQ{b o n:Nat}:BV.one (.sl b o n)=true:=rfl
theorem lJ{b o n:Nat}:BV.cells (.sl b o n)=[(.sl b o n)]:=rfl
theorem pK :BV.one .sle=true:=rfl
theorem gW :BV.cells .sle=[.sle]:=rfl
theorem lA :BV.one .nilm=true:=rfl
theorem eF :BV.cells .nilm=[.nilm]:=rfl
theorem uR{b:Nat}:BV.one (.mp b)=true:=rfl
theorem lK{b:Nat}:BV.cells (.mp b)=[(.mp b)]:=rfl
theorem lC :BV.one .nilf=true:=rfl
theorem eI :BV.cells .nilf=[.nilf]:=rfl
theorem uS{f:Nat}{cs:List BV}:BV.one (.fn f cs)=true:=rfl
theorem lL{f:Nat}{cs:List BV}:BV.cells (.fn f cs)=[(.fn f cs)]:=rfl
theorem lB :BV.one .nili=true:=rfl
theorem eH :BV.cells .nili=[.nili]:=rfl
theorem cM{cs:List BV}:BV.cells (.agg cs)=cs:=rfl
theorem cells_one{v:BV}(h:v.one=true):v.cells=[v]:=by
 cases v<;>first|rfl|(cases h)
theorem aF{v:BV}(h:v.isSl=true):v.one=true:=by
 cases v<;>first|rfl|(cases h)

theorem pW{b o n:Nat}:BV.isSl (.sl b o n)=true:=rfl
theorem nR{b o n:Nat}:BV.slen (.sl b o n)=n:=rfl
theorem iK{b o n i sz:Nat}:BV.sat (.sl b o n) i sz=.ptr b (o+i*sz):=rfl

theorem w64{n:Int}(h1:-9223372036854775808≤n)(h2:n≤9223372036854775807):IntKind.i64.wrap n=n:=by
 rw[IntKind.wrap_i64]
 omega

/-! ### slices, as lists of elements -/
structure Sls (H:BH) (ty sz:Nat) (v:BV) (xs:List (List BV)):Prop where
  isSl:v.isSl=true
  len:v.slen=xs.length
  get:∀(i:Nat) (x:List BV),xs[i]?=some x→∃b o cs,v.sat i sz=.ptr b o∧H.row b=.arr ty cs∧o+sz≤cs.length∧(cs.drop o).take sz=x

theorem Sls.rd{H:BH}{ty sz:Nat}{v:BV}{xs:List (List BV)}(h:Sls H ty sz v xs){i:Nat}{x:List BV}(hi:xs[i]?=some x){rt:Option Nat}(hrt:dF rt ty=true):H.rd rt (some sz) (v.sat i sz)=some (.agg x):=by
 obtain⟨b,o,cs,h1,h2,h3,h4⟩:=h.get i x hi
 simp[BH.rd,h1,h2,hrt,h3,asm,h4]
theorem Sls.rd1{H:BH}{ty:Nat}{v:BV}{xs:List (List BV)}(h:Sls H ty 1 v xs){i:Nat}{c:BV}(hi:xs[i]?=some [c]){rt:Option Nat}(hrt:dF rt ty=true):H.rd rt none (v.sat i 1)=some c:=by
 obtain⟨b,o,cs,h1,h2,h3,h4⟩:=h.get i _ hi
 simp[BH.rd,h1,h2,hrt,h3,asm,h4]
def BV.row?:BV→Option Nat
 | .sl b _ _=>some b
 | .ptr b _=>some b
 | _=>none
theorem Sls.stay{H K:BH}{ty sz:Nat}{v:BV}{xs:List (List BV)}(h:Sls H ty sz v xs)(hk:∀b,v.row?=some b→K.row b=H.row b):Sls K ty sz v xs:=by
 refine⟨h.isSl,h.len,fun i x hi=>?_⟩
 obtain⟨b,o,cs,h1,h2,h3,h4⟩:=h.get i x hi
 refine⟨b,o,cs,h1,?_,h3,h4⟩
 rw[hk b ?_]
 ·exact h2
 ·unfold BV.sat at h1
  split at h1
  ·cases h1;rfl
  ·cases h1

theorem Sls.keeps{H K:BH}{ty sz:Nat}{v:BV}{xs:List (List BV)}(h:Sls H ty sz v xs)(hk:H.Keeps K):Sls K ty sz v xs:=by
 refine⟨h.isSl,h.len,fun i x hi=>?_⟩
 obtain⟨b,o,cs,h1,h2,h3,h4⟩:=h.get i x hi
 exact⟨b,o,cs,h1,by rw[hk b (by rw[h2];simp)];exact h2,h3,h4⟩
theorem Sls.fld{H:BH}{ty sz:Nat}{v:BV}{xs:List (List BV)}(h:Sls H ty sz v xs){i:Nat}{x:List BV}(hi:xs[i]?=some x):
  ∃b o,v.sat i sz=.ptr b o∧∀(k:Nat) (c:BV),x[k]?=some c→H.rd none none (.ptr b (o+k))=some c:=by
 obtain⟨b,o,cs,h1,h2,h3,h4⟩:=h.get i x hi
 refine⟨b,o,h1,fun k c hk=>?_⟩
 have hlt:k<x.length:=(List.getElem?_eq_some_iff.1 hk).1
 have hx:x.length≤sz:=by rw[←h4];simp;omega
 rw[←h4,List.getElem?_take_of_lt (by omega),List.getElem?_drop] at hk
 have hlt2:o+k<cs.length:=by omega
 have:(cs.drop (o+k)).head?=some c:=by rw[List.head?_drop];exact hk
 simp[BH.rd,h2,dF,show o+k+1≤cs.length by omega,asm,List.head?_take,this]

theorem aJ{H K:BH}(hk:H.Keeps K){rt n:Option Nat}{p v:BV}(h:H.rd rt n p=some v):K.rd rt n p=some v:=by
 unfold BH.rd at h ⊢
 split at h
 ·rename_i b o
  split at h
  ·rename_i ty cs hb
   rw[hk b (by rw[hb];simp),hb]
   exact h
  ·cases h
 ·cases h
theorem BH.Keeps.set{H K:BH}(hk:H.Keeps K){nb:Nat}(hf:H.row nb=.fresh)(s:BSt):H.Keeps (K.set nb s):=fun b hb=>by
 rw[BH.row_set_ne _ _ (by rintro rfl;exact hb hf)]
 exact hk b hb
theorem BH.Keeps.fresh{H K:BH}(hk:H.Keeps K){b:Nat}(h:K.row b=.fresh):H.row b=.fresh:=by
 cases hb:H.row b with
 | fresh=>rfl
 | _=>have:=hk b (by rw[hb];simp);rw[h,hb] at this;cases this

theorem iS{sz:Nat}:∀{xs:List (List BV)},(∀x∈xs,x.length=sz)→xs.flatten.length=xs.length*sz
 | [],_=>by simp
 | x::xs,h=>by
  rw[List.flatten_cons,List.length_append,h x List.mem_cons_self,iS fun y hy=>h y (List.mem_cons_of_mem _ hy),List.length_cons,Nat.succ_mul,Nat.add_comm]
theorem sX{sz:Nat}:∀{xs:List (List BV)},(∀x∈xs,x.length=sz)→∀{i:Nat} {x:List BV},xs[i]?=some x→(xs.flatten.drop (i*sz)).take sz=x∧i*sz+sz≤xs.flatten.length
 | [],_,i,x,h=>by simp at h
 | y::xs,hl,0,x,h=>by
  simp at h
  subst h
  have:=hl y List.mem_cons_self
  subst this
  simp
 | y::xs,hl,i+1,x,h=>by
  have hy:=hl y List.mem_cons_self
  obtain⟨h1,h2⟩:=sX (fun z hz=>hl z (List.mem_cons_of_mem _ hz)) (i:=i) (x:=x) (by simpa using h)
  have e:(i+1)*sz=y.length+i*sz:=by rw[Nat.succ_mul,hy,Nat.add_comm]
  refine⟨?_,?_⟩
  ·rw[List.flatten_cons,e,List.drop_append]
   simp
   rw[List.drop_eq_nil_of_le (by omega)]
   simpa using h1
  ·rw[List.flatten_cons,List.length_append,e]
   omega
structure OwnS(aA:Nat)(H:BH)(ty sz:Nat)(v:BV)(xs:List (List BV))(b:Nat):Prop where
 val:v=.sl b 0 xs.length
 row:H.row b=.arr ty xs.flatten
 own:aA≤b
 all:∀x∈xs,x.length=sz
theorem OwnS.sls{aA:Nat}{H:BH}{ty sz:Nat}{v:BV}{xs:List (List BV)}{b:Nat}(h:OwnS aA H ty sz v xs b):Sls H ty sz v xs:=by
 obtain⟨rfl,h2,h3,h4⟩:=h
 refine⟨rfl,rfl,fun i x hi=>?_⟩
 obtain⟨c1,c2⟩:=sX h4 hi
 exact⟨b,0+i*sz,_,rfl,h2,by omega,by rw[Nat.zero_add];exact c1⟩
theorem OwnS.isSl{aA:Nat}{H:BH}{ty sz:Nat}{v:BV}{xs:List (List BV)}{b:Nat}(h:OwnS aA H ty sz v xs b):v.isSl=true:=by rw[h.val];rfl
theorem OwnS.stay{aA:Nat}{H K:BH}{ty sz:Nat}{v:BV}{xs:List (List BV)}{b:Nat}(h:OwnS aA H ty sz v xs b)(hk:K.row b=H.row b):OwnS aA K ty sz v xs b :=
 ⟨h.val,by rw[hk];exact h.row,h.own,h.all⟩
theorem OwnS.keeps{aA:Nat}{H K:BH}{ty sz:Nat}{v:BV}{xs:List (List BV)}{b:Nat}(h:OwnS aA H ty sz v xs b)(hk:H.Keeps K):OwnS aA K ty sz v xs b :=
 h.stay (hk b (by rw[h.row];simp))

def Gives(Γ:Ctx)(f:Nat)(args:List BV)(H:BH)(v:BV):Prop:=∃H',Runs Γ f args H v H'∧H.Keeps H'
theorem Runs.gives{Γ:Ctx}{f:Nat}{args:List BV}{H:BH}{v:BV}(h:Runs Γ f args H v H):Gives Γ f args H v:=⟨H,h,BH.Keeps.refl H⟩

end Go.B
end

section
namespace Go.B
set_option linter.unusedVariables false
set_option linter.unusedSimpArgs false

def cellsB(w:World)(b:Nat):Bool:=match w.heap[b]? with
 | some (.cells _ _ _)=>true
 | _=>false
def yG(w:World):Value→BV
 | .slice none n c=>if n=0∧c=0 then .nils else .any
 | .slice (some a) n c=>if n=0 then .sle else if a.spot=none∧n≤c∧cellsB w a.block=true then .sl a.block a.off n else .any
 | .pointer (some a)=>if a.spot=none∧cellsB w a.block=true then .ptr a.block a.off else .any
 | v=>aG1 v
def tie0(P:Program)(w:World):Tie:=fun b=>match w.heap[b]? with
 | some (.cells c e _)=>some ⟨b,P.cellsOf e,c.size⟩
 | _=>none
def vD(w:World):BH where
 row:=fun b=>match w.heap[b]? with
  | some (.cells c e _)=>.arr e (c.toList.map (yG w))
  | _=>.fresh
 fin:=⟨w.heap.size,fun b hb=>by rw[Array.getElem?_eq_none hb]⟩

theorem sA{w:World}{b:Nat}(h:cellsB w b=true):∃c e f,w.heap[b]?=some (.cells c e f)∧b<w.heap.size:=by
 unfold cellsB at h
 split at h
 ·rename_i c e f hh
  exact⟨c,e,f,hh,(Array.getElem?_eq_some_iff.1 hh).1⟩
 ·cases h

theorem aR9(P:Program)(w:World)(v:Value):VR w.heap.size (tie0 P w) (yG w v) v:=by
 unfold yG
 split
 ·split
  ·rename_i h
   rw[h.1,h.2]
   rfl
  ·exact trivial
 ·rename_i a n c
  split
  ·rename_i h
   subst h
   exact⟨some a,c,rfl,by simp⟩
  ·split
   ·rename_i h
    obtain⟨cc,e,f,hh,hlt⟩:=sA h.2.2
    refine⟨⟨a.block,P.cellsOf e,cc.size⟩,c,by simp[tie0,hh],?_,h.2.1,fun hb=>by omega⟩
    obtain⟨b,o,s⟩:=a
    have hs:s=none:=h.1
    subst hs
    rfl
   ·exact trivial
 ·rename_i a
  split
  ·rename_i h
   obtain⟨cc,e,f,hh,hlt⟩:=sA h.2
   refine⟨⟨a.block,P.cellsOf e,cc.size⟩,by simp[tie0,hh],?_⟩
   obtain⟨b,o,s⟩:=a
   have hs:s=none:=h.1
   subst hs
   rfl
  ·exact trivial
 ·exact xY v

theorem HR.start(P:Program)(w:World):HR P w.heap.size w (tie0 P w) (vD w) w where
 row:=fun b=>by
  simp only[vD]
  cases hh:w.heap[b]? with
  | none=>simp[RR,tie0,hh]
  | some o =>
   cases o with
   | cells c e f =>
    have hlt:=(Array.getElem?_eq_some_iff.1 hh).1
    refine⟨⟨b,P.cellsOf e,c.size⟩,c,f,by simp[tie0,hh],hh,rfl,rfl,fun i d hd=>?_,fun hb=>by omega⟩
    rw[List.getElem?_map] at hd
    simp only[Option.map_eq_some_iff,Array.getElem?_toList] at hd
    obtain⟨v,hv,rfl⟩:=hd
    exact⟨v,hv,aR9 P w v⟩
   | _=>simp[RR,tie0,hh]
 inj:=fun b c r s hb hc hr hs hrs=>by
  have:∀{b r},tie0 P w b=some r→r.blk=b:=by
   intro b r h
   unfold tie0 at h
   split at h
   ·cases h;rfl
   ·cases h
  rw[←this hr,←this hs,hrs]
 ext:=World.Extends.refl w

theorem Sls.start{w:World}{a:Addr}{n c sz:Nat}{xs:List (List Value)}(hlen:xs.length=n)(hc:n≤c)(hsz:0<sz)(hall:∀x∈xs,x.length=sz)(hcell:∀(i:Nat) (x:List Value),xs[i]?=some x→∀(j:Nat) (v:Value),x[j]?=some v→w.cell? (a.add (i*sz+j))=some v):
  ∃ty,Sls (vD w) ty sz (yG w (.slice (some a) n c)) (xs.map (·.map (yG w))):=by
 cases n with
 | zero =>
  have:xs=[]:=List.eq_nil_of_length_eq_zero hlen
  subst this
  exact⟨0,rfl,rfl,fun i x hi=>by simp at hi⟩
 | succ n =>
  obtain⟨x0,xr,rfl⟩:∃x0 xr,xs=x0::xr:=by
   cases xs with
   | nil=>simp at hlen
   | cons x xr=>exact⟨x,xr,rfl⟩
  have hx0:0<x0.length:=by rw[hall x0 List.mem_cons_self];exact hsz
  have h0:=hcell 0 x0 rfl 0 _ (List.getElem?_eq_getElem hx0)
  have hadd0:a.add (0*sz+0)=a:=by simp[Addr.add]
  rw[hadd0] at h0
  have hspot:a.spot=none:=by
   unfold World.cell? at h0
   split at h0
   ·split at h0
    ·cases h0
    ·rename_i h;simpa using h
   ·cases h0
  obtain⟨b,o,sp⟩:=a
  have hsp:sp=none:=hspot
  subst hsp
  have hblk:cellsB w b=true:=by
   unfold World.cell? at h0
   unfold cellsB
   split at h0
   ·rename_i hh;simp only at hh;rw[hh]
   ·cases h0
  obtain⟨cc,e,f,hh,hlt⟩:=sA hblk
  have hval:yG w (.slice (some ⟨b,o,none⟩) (n+1) c)=.sl b o (n+1):=by simp[yG,hc,hblk]
  rw[hval]
  have hrow:(vD w).row b=.arr e (cc.toList.map (yG w)):=by simp[vD,hh]
  refine⟨e,rfl,by simp[BV.slen,←hlen],fun i x hi=>?_⟩
  rw[List.getElem?_map] at hi
  simp only[Option.map_eq_some_iff] at hi
  obtain⟨y,hy,rfl⟩:=hi
  have hyl:=hall y (List.mem_of_getElem? hy)
  have hat:∀j v,y[j]?=some v→cc[o+(i*sz+j)]?=some v:=by
   intro j v hv
   have:=hcell i y hy j v hv
   have hadd:(⟨b,o,none⟩:Addr).add (i*sz+j)=⟨b,o+(i*sz+j),none⟩:=by unfold Addr.add;split<;>simp_all
   rw[hadd] at this
   simpa[World.cell?,hh] using this
  have hlast:o+(i*sz+(sz-1))<cc.size:=by
   have:=hat (sz-1) _ (List.getElem?_eq_getElem (by omega))
   exact(Array.getElem?_eq_some_iff.1 this).1
  refine⟨b,o+i*sz,_,rfl,hrow,by simp;omega,?_⟩
  apply List.ext_getElem?
  intro j
  by_cases hj:j<sz
  ·rw[List.getElem?_take_of_lt hj,List.getElem?_drop,List.getElem?_map,List.getElem?_map]
   have h1:=hat j _ (List.getElem?_eq_getElem (by omega))
   rw[Array.getElem?_toList,show o+i*sz+j=o+(i*sz+j) by omega,h1,List.getElem?_eq_getElem (by omega)]
  ·rw[List.getElem?_eq_none (by simp;omega),List.getElem?_eq_none (by simp;omega)]

end Go.B
end

section
namespace Go.B
set_option linter.unusedVariables false
set_option linter.unusedSimpArgs false

def OwnN(aA:Nat)(H:BH)(ty sz:Nat)(v:BV)(xs:List (List BV)):Option Nat→Prop
 | none=>v=.nils∧xs=[]
 | some b=>OwnS aA H ty sz v xs b
def Fr(H:BH)(bo:Option Nat):Prop:=∀b,bo=some b→H.row b=.fresh

section
variable {aA:Nat} {H K:BH} {ty sz:Nat} {v:BV} {xs:List (List BV)} {bo:Option Nat}
theorem Fr.none:Fr H none:=fun _ h=>by cases h
theorem Fr.some{b:Nat}(h:H.row b=.fresh):Fr H (some b):=fun c e=>by cases e;exact h
theorem OwnN.sls(h:OwnN aA H ty sz v xs bo):Sls H ty sz v xs:=by
 cases bo with
 | none=>obtain⟨rfl,rfl⟩:=h;exact⟨rfl,rfl,fun i x hi=>by simp at hi⟩
 | some b=>exact OwnS.sls h
theorem OwnN.stay(h:OwnN aA H ty sz v xs bo)(hk:∀b,bo=some b→K.row b=H.row b):OwnN aA K ty sz v xs bo:=by
 cases bo with
 | none=>exact h
 | some b=>exact OwnS.stay h (hk b rfl)
theorem OwnN.keeps(h:OwnN aA H ty sz v xs bo)(hk:H.Keeps K):OwnN aA K ty sz v xs bo:=by
 cases bo with
 | none=>exact h
 | some b=>exact OwnS.keeps h hk
theorem OwnN.isSl(h:OwnN aA H ty sz v xs bo):v.isSl=true:=h.sls.isSl
theorem OwnN.one(h:OwnN aA H ty sz v xs bo):v.one=true:=aF h.isSl
theorem OwnN.len(h:OwnN aA H ty sz v xs bo):v.slen=xs.length:=h.sls.len
theorem OwnN.live(h:OwnN aA H ty sz v xs bo){b:Nat}(hb:bo=some b):H.row b=.arr ty xs.flatten:=by
 subst hb
 exact OwnS.row h
theorem OwnN.cells(h:OwnN aA H ty sz v xs bo):H.cells sz v=some xs.flatten:=by
 cases bo with
 | none=>obtain⟨rfl,rfl⟩:=h;rfl
 | some b =>
  obtain⟨rfl,h2,h3,h4⟩:=h
  have:=iS h4
  simp only[BH.cells,h2,Nat.zero_add,←this,Nat.le_refl,if_true,List.drop_zero,List.take_length]

theorem app_own{K:BH}{nb bytes:Nat}{σ:Opd→BV}{x y:Opd}{new:List (List BV)}(hk:H.Keeps K)(hb:Fr H bo)(own:OwnN aA K ty sz (σ x) xs bo)(hc:K.cells sz (σ y)=some new.flatten)(hl:∀z∈new,z.length=sz)(h1:∀z∈new,∀c∈z,c.one=true)(hsz:0<sz)(hsm:(xs.length+new.length)*sz≤35184372088832)(hsm2:(xs.length+new.length)*bytes≤35184372088832)(hn:K.row nb=.fresh)(hnb:aA≤nb):
  ∃v' K' bo',op1 aA nb σ K (.app ty sz bytes x y)=some (v',K')∧OwnN aA K' ty sz v' (xs++new) bo'∧H.Keeps K'∧Fr H bo'∧(∀c,bo≠some c→K.row c≠.fresh→K'.row c=K.row c)∧(∀c,bo'=some c→K.row c=.fresh):=by
 have hnl:new.flatten.length=new.length*sz:=iS hl
 have hall:new.flatten.all BV.one=true:=by
  rw[List.all_eq_true]
  intro c hcc
  obtain⟨z,hz,hcz⟩:=List.mem_flatten.1 hcc
  exact h1 z hz c hcz
 have hmul:(xs.length+new.length)*sz=xs.length*sz+new.length*sz:=Nat.add_mul _ _ _
 have hby:(xs.length*sz+new.length*sz)*bytes≤35184372088832*sz:=by
  rw[←hmul,Nat.mul_assoc,Nat.mul_comm sz bytes,←Nat.mul_assoc]
  exact Nat.mul_le_mul_right _ hsm2
 cases bo with
 | none =>
  obtain⟨e1,rfl⟩:=own
  cases new with
  | nil =>
   refine⟨.nils,K,none,?_,⟨rfl,rfl⟩,hk,Fr.none,fun _ _ _=>rfl,fun _ h=>by cases h⟩
   simp only[op1,e1,hc]
   simp[hsz]
  | cons z zs =>
   have hne:∃c cs,(z::zs).flatten=c::cs:=by
    cases h:(z::zs).flatten with
    | nil =>
     have hp:0<(z::zs).length*sz:=Nat.mul_pos (by simp) hsz
     rw[h] at hnl
     simp only[List.length_nil] at hnl
     omega
    | cons c cs=>exact⟨c,cs,rfl⟩
   obtain⟨c,cs,hcs⟩:=hne
   refine⟨.sl nb 0 (z::zs).length,K.set nb (.arr ty (z::zs).flatten),some nb,?_,⟨by simp,by simp[BH.row_set_eq],hnb,by simpa using hl⟩,hk.set (hk.fresh hn) _,Fr.some (hk.fresh hn),fun c' _ hc'=>?_,fun c' e=>by cases e;exact hn⟩
   ·simp only[op1,e1,hc]
    rw[hcs]
    rw[hcs] at hnl hall
    have hdiv:(c::cs).length / sz=(z::zs).length:=by rw[hnl];exact Nat.mul_div_cancel _ hsz
    simp only[List.length_nil,Nat.zero_mul,Nat.zero_add] at hby hsm hsm2
    simp only[hall,hsz,hnl,hby,hsm,and_self,if_true,aC hn hnb]
    rw[←hnl,hdiv]
    rfl
   ·exact BH.row_set_ne _ _ (by rintro rfl;exact hc' hn)
 | some b =>
  obtain⟨e1,hrow,hbb,hxl⟩:=own
  have hfl:=iS hxl
  have hbn:b≠nb:=by
   rintro rfl
   rw[hrow] at hn
   cases hn
  have hbf:H.row b=.fresh:=hb b rfl
  refine⟨.sl nb 0 (xs++new).length,(K.set nb (.arr ty (xs++new).flatten)).set b .dead,some nb,?_,⟨rfl,?_,hnb,?_⟩,(hk.set (hk.fresh hn) _).set hbf _,Fr.some (hk.fresh hn),fun c' h1 hc'=>?_,fun c' e=>by cases e;exact hn⟩
  ·simp only[op1,e1,hc]
   have hdiv:new.flatten.length / sz=new.length:=by rw[hnl];exact Nat.mul_div_cancel _ hsz
   have hmk:K.make aA nb (.arr ty (xs.flatten++new.flatten))=some (K.set nb (.arr ty (xs.flatten++new.flatten))):=aC hn hnb
   cases hnf:new.flatten with
   | nil =>
    simp only[hrow]
    rw[←hnf,if_pos ⟨hbb,hbn,trivial,trivial,hfl.symm,hall,hsz,by rw[hnl];exact hby,by rw[hnl];omega⟩,hmk,hdiv]
    simp
   | cons c cs =>
    simp only[hrow]
    rw[←hnf,if_pos ⟨hbb,hbn,trivial,trivial,hfl.symm,hall,hsz,by rw[hnl];exact hby,by rw[hnl];omega⟩,hmk,hdiv]
    simp
  ·rw[BH.row_set_ne _ _ (Ne.symm hbn),BH.row_set_eq]
  ·intro z hz
   rcases List.mem_append.1 hz with h|h
   ·exact hxl z h
   ·exact hl z h
  ·rw[BH.row_set_ne _ _ (by rintro rfl;exact h1 rfl),BH.row_set_ne _ _ (by rintro rfl;exact hc' hn)]

theorem take_set{cs:List BV}{o:Nat}{u:BV}(h:o<cs.length):cs.take o++u::cs.drop (o+1)=cs.set o u:=by
 rw[List.set_eq_take_append_cons_drop,if_pos h]
theorem uY{sz:Nat}{u:BV}:∀{xs:List (List BV)},(∀x∈xs,x.length=sz)→∀{i j:Nat} (h:i<xs.length),j<sz→xs.flatten.set (i*sz+j) u=(xs.set i (xs[i].set j u)).flatten
 | [],_,i,j,h,_=>by simp at h
 | x::xs,hl,0,j,h,hj=>by
  have:=hl x List.mem_cons_self
  simp only[Nat.zero_mul,Nat.zero_add,List.flatten_cons,List.set_cons_zero,List.getElem_cons_zero]
  rw[List.set_append_left _ _ (by omega)]
 | x::xs,hl,i+1,j,h,hj=>by
  have hx:=hl x List.mem_cons_self
  have ih:=uY (u:=u) (fun z hz=>hl z (List.mem_cons_of_mem _ hz)) (i:=i) (by simpa using h) hj
  have e:(i+1)*sz+j=x.length+(i*sz+j):=by rw[Nat.succ_mul,hx];omega
  rw[List.set_cons_succ,List.flatten_cons,List.flatten_cons,e,List.getElem_cons_succ,←ih,List.set_append_right _ _ (by omega)]
  simp
end

/-! ### writing -/
def BH.wr (aA:Nat) (H:BH) (rt:Option Nat) (n:Nat) (p v:BV):Option BH:=match p with
  | .ptr b o=>match H.row b with
    | .arr ty cs=>if dF rt ty=true∧aA≤b∧v.cells.length=n∧o+n≤cs.length∧v.cells.all BV.one=true then some (H.set b (.arr ty (cs.take o++v.cells++cs.drop (o+n)))) else none
    | _=>none
  | _=>none
section
variable {aA nb:Nat} {σ:Opd→BV} {H K:BH} {C:bR} {e:Env} {Kn:Env→BH→Prop} {d:Option Nat} {g:Option (Nat×Bool)} {kp:List Nat}
theorem oJ{rt:Option Nat}{n:Nat}{a v:Opd}:op1 aA nb σ H (.store rt n a v)=(H.wr aA rt n (σ a) (σ v)).map fun K=>(.tup [],K):=by
 cases ha:σ a<;>simp only[op1,BH.wr,ha]<;>try rfl
 rename_i b o
 cases hb:H.row b<;>simp only[]<;>try rfl
 split<;>rfl
theorem iO{ty:Nat}{x:Opd}:op1 aA nb σ H (.b2s ty x)=match σ x with
  | .nils=>some (.str ByteArray.empty,H)
  | .sl b o n=>match H.row b with
   | .arr t cs=>if t=ty∧o+n≤cs.length then(qC ((cs.drop o).take n)).map fun xs=>(.str (strB xs),H) else none
   | _=>none
  | _=>none:=rfl
theorem nM{ty:Nat}{x:Opd}:aX aA C ⟨d,.b2s ty x,g,kp⟩ Kn e H=after (op1 aA 0 (·.ev e) H (.b2s ty x)) d Kn e:=rfl
theorem kU{x y:Opd}:op1 aA nb σ H (.imax x y)=match σ x,σ y with
  | .int k a,.int k' b=>if k=k' then some (.int k (if b > a then b else a),H) else none
  | _,_=>none:=rfl
theorem jU{x y:Opd}:aX aA C ⟨d,.imax x y,g,kp⟩ Kn e H=after (op1 aA 0 (·.ev e) H (.imax x y)) d Kn e:=rfl
theorem kT{x y:Opd}:op1 aA nb σ H (.imin x y)=match σ x,σ y with
  | .int k a,.int k' b=>if k=k' then some (.int k (if b<a then b else a),H) else none
  | _,_=>none:=rfl
theorem jS{x y:Opd}:aX aA C ⟨d,.imin x y,g,kp⟩ Kn e H=after (op1 aA 0 (·.ev e) H (.imin x y)) d Kn e:=rfl
theorem oZ{x:Opd}:op1 aA nb σ H (.i2s x)=match σ x with
  | .int _ n=>some (.str (Utf8.encode n),H)
  | _=>none:=rfl
theorem nG{x:Opd}:aX aA C ⟨d,.i2s x,g,kp⟩ Kn e H=after (op1 aA 0 (·.ev e) H (.i2s x)) d Kn e:=rfl
theorem kW{n sz:Nat}{x i:Opd}:op1 aA nb σ H (.idxa n sz x i)=match σ x,σ i with
  | .ptr b o,.int _ j=>if 0≤j∧j<n then some (.ptr b (o+j.toNat*sz),H) else none
  | _,_=>none:=rfl
theorem kA{n sz:Nat}{x i:Opd}:aX aA C ⟨d,.idxa n sz x i,g,kp⟩ Kn e H=after (op1 aA 0 (·.ev e) H (.idxa n sz x i)) d Kn e:=rfl
theorem dX{x:Opd}{lo hi:Option Opd}:op1 aA nb σ H (.sslice x lo hi)=match σ x with
  | .str s=>match bY σ 0 lo,bY σ s.size hi with
   | some l,some h=>if l≤h∧h≤s.size then some (.str (s.extract l h),H) else none
   | _,_=>none
  | _=>none:=rfl
theorem eL{n:Nat}:bY σ n none=some n:=rfl
theorem eK{n:Nat}{x:Opd}:bY σ n (some x)=natOf (σ x):=rfl
theorem uU{k:IntKind}{n:Int}:natOf (.int k n)=if 0≤n then some n.toNat else none:=rfl
theorem aS0{ty b o n:Nat}{cs:List BV}{v:BV}{rt:Option Nat}(hr:H.row b=.arr ty cs)(h0:dF rt ty=true)(h1:aA≤b)(h2:v.cells.length=n)(h3:o+n≤cs.length)(h4:v.cells.all BV.one=true):H.wr aA rt n (.ptr b o) v=some (H.set b (.arr ty (cs.take o++v.cells++cs.drop (o+n)))):=by
 simp only[BH.wr,hr]
 rw[if_pos ⟨h0,h1,h2,h3,h4⟩]
theorem OwnN.wr{ty sz i j:Nat}{v u:BV}{xs:List (List BV)}{bo:Option Nat}(own:OwnN aA K ty sz v xs bo)(hi:i<xs.length)(hj:j<sz)(hu:u.one=true){rt:Option Nat}(hrt:dF rt ty=true):
  ∃b K',bo=some b∧v.sat i sz=.ptr b (i*sz)∧K.wr aA rt 1 (.ptr b (i*sz+j)) u=some K'∧OwnN aA K' ty sz v (xs.set i (xs[i].set j u)) bo∧(∀c,bo≠some c→K'.row c=K.row c):=by
 cases bo with
 | none =>
  obtain⟨_,rfl⟩:=own
  simp at hi
 | some b =>
  obtain⟨rfl,hrow,hb,hl⟩:=own
  have hfl:=iS hl
  have hlt:i*sz+sz≤xs.length*sz:=by rw[←Nat.succ_mul];exact Nat.mul_le_mul_right _ hi
  have hw:=aS0 (aA:=aA) (o:=i*sz+j) (v:=u) (n:=1) (rt:=rt) hrow hrt hb (by rw[cells_one hu];rfl) (by omega) (by rw[cells_one hu];simp[hu])
  rw[cells_one hu,List.append_assoc,List.singleton_append,take_set (by omega),uY hl hi hj] at hw
  refine⟨b,_,rfl,by rw[iK,Nat.zero_add],hw,⟨by simp,BH.row_set_eq _ _ _,hb,?_⟩,fun c hc=>BH.row_set_ne _ _ (by rintro rfl;exact hc rfl)⟩
  intro x hx
  rcases List.mem_or_eq_of_mem_set hx with h|h
  ·exact hl x h
  ·rw[h,List.length_set]
   exact hl _ (List.getElem_mem hi)
end

section
variable {f:Nat→List BV} {xs:List (List BV)} {i:Nat}
end
theorem nQ{e:Env}{H:BH}{t:Nat}:BRes.val e H (.tmp t)=some (e t):=rfl
theorem kF{e:Env}{H:BH}{t:Nat}{n:Option Nat}:BRes.val e H (.cell t n)=H.rd none n (e t):=by
 cases h:e t<;>simp only[BRes.val,BH.rd,h]
 rename_i b o
 cases hb:H.row b<;>simp[dF]
end Go.B
end

section
namespace Go.B
set_option linter.unusedVariables false
section
variable {aA:Nat}
def BH.appd(aA nb:Nat)(H:BH)(ty sz bytes:Nat)(vx vy:BV):Option (BV×BH):=op1 aA nb (fun o=>match o with | .t 0=>vx|_=>vy) H (.app ty sz bytes (.t 0) (.t 1))
theorem pI{nb:Nat}{σ:Opd→BV}{H:BH}{ty sz bytes:Nat}{x y:Opd}:op1 aA nb σ H (.app ty sz bytes x y)=H.appd aA nb ty sz bytes (σ x) (σ y):=rfl
theorem aX9{H K:BH}{ty sz bytes nb:Nat}{vx vy:BV}{xs new:List (List BV)}{bo:Option Nat}(hk:H.Keeps K)(hb:Fr H bo)(own:OwnN aA K ty sz vx xs bo)(hc:K.cells sz vy=some new.flatten)(hl:∀z∈new,z.length=sz)(h1:∀z∈new,∀c∈z,c.one=true)(hsz:0<sz)(hsm:(xs.length+new.length)*sz≤35184372088832)(hsm2:(xs.length+new.length)*bytes≤35184372088832)(hn:K.row nb=.fresh)(hnb:aA≤nb):
  ∃v' K' bo',K.appd aA nb ty sz bytes vx vy=some (v',K')∧OwnN aA K' ty sz v' (xs++new) bo'∧H.Keeps K'∧Fr H bo'∧(∀c,bo≠some c→K.row c≠.fresh→K'.row c=K.row c)∧(∀c,bo'=some c→K.row c=.fresh) :=
 app_own (σ:=fun o=>match o with | .t 0=>vx|_=>vy) (x:=.t 0) (y:=.t 1) hk hb own hc hl h1 hsz hsm hsm2 hn hnb
theorem aC8{K:BH}{n1 ty sz n:Nat}{cs:List BV}(h:cs.length=n*sz):(K.set n1 (.arr ty cs)).cells sz (.sl n1 0 n)=some cs:=by
 simp only[BH.cells,BH.row_set_eq,Nat.zero_add,←h,Nat.le_refl,if_true,List.drop_zero,List.take_length]
end
end Go.B
end

section
namespace Go.B
set_option linter.unusedVariables false
set_option linter.unusedSimpArgs false

/-! ### what code writes -/
def BCode.writes:BCode→List Nat
  | .region ops=>ops.filterMap (·.dst)
  | .seq a b=>a.writes++b.writes
  | .cond _ a b=>a.writes++b.writes
  | .block _ b=>b.writes
  | .loop b=>b.writes
  | _=>[]
theorem aN9{e:Env}{d:Option Nat}{v:BV}{t:Nat}(h:d≠some t):(e.puto d v) t=e t:=by
 cases d with
 | none=>rfl
 | some d=>exact sN (fun hh=>h (by rw[hh]))
theorem qV{o:BOper}{r:List BOper}{t:Nat}(h:t∉(o::r).filterMap (·.dst)):o.dst≠some t∧t∉r.filterMap (·.dst):=by
 refine⟨fun e=>h ?_,fun e=>h ?_⟩
 ·simp[List.filterMap_cons,e]
 ·rw[List.filterMap_cons]
  cases ho:o.dst with
  | none=>exact e
  | some d=>exact List.mem_cons_of_mem _ e
theorem ExO.leaves{aA:Nat}{C:bR}{l:List BOper}{e e':Env}{H H':BH}(x:ExO aA C l e H e' H'){t:Nat}(ht:t∉l.filterMap (·.dst)):e' t=e t:=by
 induction x with
 | nil=>rfl
 | skip hw _ ih=>rw[ih (qV ht).2,aN9 (qV ht).1]
 | op hw ho _ ih=>rw[ih (qV ht).2,aN9 (qV ht).1]
 | call hw ho hf hc hk _ ih=>rw[ih (qV ht).2,aN9 (qV ht).1]
theorem ExC.leaves{aA:Nat}{C:bR}{c:BCode}{e e':Env}{H H':BH}{x:BExit}(k:ExC aA C c e H x e' H'){t:Nat}(ht:t∉c.writes):e' t=e t:=by
 induction k with
 | skip=>rfl
 | region hr=>exact hr.leaves ht
 | seq _ _ ih1 ih2 =>
  simp only[BCode.writes,List.mem_append,not_or] at ht
  rw[ih2 ht.2,ih1 ht.1]
 | seqx _ hx ih =>
  simp only[BCode.writes,List.mem_append,not_or] at ht
  exact ih ht.1
 | thn hc _ ih =>
  simp only[BCode.writes,List.mem_append,not_or] at ht
  exact ih ht.1
 | els hc _ ih =>
  simp only[BCode.writes,List.mem_append,not_or] at ht
  exact ih ht.2
 | block _ ih=>exact ih ht
 | loopn _ _ ih1 ih2=>rw[ih2 ht,ih1 ht]
 | loopx _ hx ih=>exact ih ht
 | exit=>rfl
 | ret=>rfl

def Has(e:Env):List (Nat×BV)→Prop
 | []=>True
 | p::r=>e p.1=p.2∧Has e r
theorem Has.frame{e e':Env}{W:List Nat}(h:∀t,t∉W→e' t=e t):∀{kp:List (Nat×BV)},kp.all (fun p=>!(W.contains p.1))=true→Has e kp→Has e' kp
 | [],_,_=>trivial
 | p::r,hW,hk=>by
  simp only[List.all_cons,Bool.and_eq_true,Bool.not_eq_true'] at hW
  refine⟨?_,Has.frame h hW.2 hk.2⟩
  rw[h p.1 (by intro hm;simp at hW;exact hW.1 hm)]
  exact hk.1
theorem aE{aA:Nat}{C:bR}{b:BCode}{Q:Post}(n:Nat)(kp:List (Nat×BV))(I:Nat→Env→BH→Prop){i0:Nat}{e:Env}{H:BH}(hW:kp.all (fun p=>!(b.writes.contains p.1))=true)(hk:Has e kp)(h0:I i0 e H)(hi:i0≤n)(round:∀i e H,i≤n→Has e kp→I i e H→wpC aA C b (Post.then (fun e' H'=>i<n∧I (i+1) e' H') Q) e H):wpC aA C (.loop b) Q e H:=by
 show ∃x e' H',ExC aA C (.loop b) e H x e' H'∧Q x e' H'
 have key:∀k i e H,n-i=k→i≤n→Has e kp→I i e H→∃x e' H',ExC aA C (.loop b) e H x e' H'∧Q x e' H':=by
  intro k
  induction k with
  | zero =>
   intro i e H hk hle hh hI
   obtain⟨x,e1,H1,hx,hQ⟩:=fF (round i e H hle hh hI)
   cases x with
   | normal=>have:=hQ.1;omega
   | exit j=>exact⟨_,e1,H1,.loopx hx (by simp),hQ⟩
   | ret=>exact⟨_,e1,H1,.loopx hx (by simp),hQ⟩
  | succ k ih =>
   intro i e H hk hle hh hI
   obtain⟨x,e1,H1,hx,hQ⟩:=fF (round i e H hle hh hI)
   cases x with
   | normal =>
    obtain⟨hlt,hI1⟩:=hQ
    obtain⟨x,e2,H2,hy,hQ⟩:=ih (i+1) e1 H1 (by omega) (by omega) (Has.frame (fun t ht=>hx.leaves ht) hW hh) hI1
    exact⟨x,e2,H2,.loopn hx hy,hQ⟩
   | exit j=>exact⟨_,e1,H1,.loopx hx (by simp),hQ⟩
   | ret=>exact⟨_,e1,H1,.loopx hx (by simp),hQ⟩
 exact key _ i0 e H rfl hi hk h0
/-! ### rows of one's own -/
structure Own (aA:Nat) (H K:BH) (L:List (Option Nat×BSt)):Prop where
  keeps:H.Keeps K
  row:∀p∈L,∀b,p.1=some b→K.row b=p.2∧aA≤b∧H.row b=.fresh∧p.2≠.fresh
  nodup:(L.filterMap (·.1)).Nodup
section
variable {aA:Nat} {H K K':BH} {L:List (Option Nat×BSt)}
theorem Own.start:Own aA H H []:=⟨BH.Keeps.refl H,fun _ h=>by simp at h,by simp⟩
theorem Own.of(k:H.Keeps K):Own aA H K []:=⟨k,fun _ h=>by simp at h,by simp⟩
theorem Own.mem_of{b:Nat}(h:b∈L.filterMap (·.1)):∃s,(some b,s)∈L:=by
 obtain⟨⟨p1,p2⟩,hp,h1⟩:=List.mem_filterMap.1 h
 simp only at h1
 subst h1
 exact⟨_,hp⟩
theorem Own.new(o:Own aA H K L){n:Nat}(f:K.row n=.fresh)(hb:aA≤n){s:BSt}(hs:s≠.fresh:=by simp):Own aA H (K.set n s) ((some n,s)::L):=by
 have hne:n∉L.filterMap (·.1):=fun h=>by
  obtain⟨t,ht⟩:=Own.mem_of h
  obtain⟨h1,_,_,h4⟩:=o.row _ ht n rfl
  rw[f] at h1
  exact h4 h1.symm
 refine⟨o.keeps.set (o.keeps.fresh f) s,fun p hp b hpb=>?_,?_⟩
 ·rcases List.mem_cons.1 hp with rfl|hp'
  ·cases hpb
   exact⟨BH.row_set_eq _ _ _,hb,o.keeps.fresh f,hs⟩
  ·obtain⟨h1,h2,h3,h4⟩:=o.row p hp' b hpb
   refine⟨?_,h2,h3,h4⟩
   rw[BH.row_set_ne _ _ ?_]
   ·exact h1
   ·intro hbn
    exact hne (hbn ▸ List.mem_filterMap.2 ⟨p,hp',hpb⟩)
 ·simpa using ⟨by simpa using hne,o.nodup⟩
theorem Own.nil(o:Own aA H K L)(s:BSt):Own aA H K ((none,s)::L):=⟨o.keeps,fun p hp b hpb=>by
  rcases List.mem_cons.1 hp with rfl|hp
  ·cases hpb
  ·exact o.row p hp b hpb,by simpa using o.nodup⟩
theorem Own.call(o:Own aA H K L)(k:K.Keeps K'):Own aA H K' L:=⟨o.keeps.trans k,fun p hp b hpb=>by
  obtain⟨h1,h2,h3,h4⟩:=o.row p hp b hpb
  exact⟨by rw[k b (by rw[h1];exact h4),h1],h2,h3,h4⟩,o.nodup⟩
theorem Own.got(o:Own aA H K L)(k:K.Keeps K'){bo:Option Nat}{s:BSt}(h:∀b,bo=some b→K'.row b=s∧aA≤b∧K.row b=.fresh∧s≠.fresh):Own aA H K' ((bo,s)::L):=by
 have o':=o.call k
 refine⟨o'.keeps,fun p hp b hpb=>?_,?_⟩
 ·rcases List.mem_cons.1 hp with rfl|hp
  ·obtain⟨h1,h2,h3,h4⟩:=h b hpb
   exact⟨h1,h2,o.keeps.fresh h3,h4⟩
  ·exact o'.row p hp b hpb
 ·cases bo with
  | none=>simpa using o.nodup
  | some b =>
   have hne:b∉L.filterMap (·.1):=fun hm=>by
    obtain⟨t,ht⟩:=Own.mem_of hm
    obtain⟨h1,_,_,h4⟩:=o.row _ ht b rfl
    rw[(h b rfl).2.2.1] at h1
    exact h4 h1.symm
   simpa using ⟨by simpa using hne,o.nodup⟩
theorem Own.sub(o:Own aA H K L){M:List (Option Nat×BSt)}(h:M.Sublist L):Own aA H K M :=
 ⟨o.keeps,fun p hp=>o.row p (h.subset hp),o.nodup.sublist (h.filterMap _)⟩
theorem Own.tail(o:Own aA H K L):Own aA H K L.tail:=o.sub (List.tail_sublist L)
theorem Own.drop(o:Own aA H K L)(n:Nat):Own aA H K (L.drop n):=o.sub (List.drop_sublist n L)
theorem Own.perm(o:Own aA H K L){M:List (Option Nat×BSt)}(h:M.Perm L):Own aA H K M :=
 ⟨o.keeps,fun p hp=>o.row p (h.subset hp),(h.filterMap _).nodup_iff.2 o.nodup⟩
theorem Own.at(o:Own aA H K L)(i:Nat){b:Nat}{s:BSt}(h:L[i]?=some (some b,s)):K.row b=s:=(o.row _ (List.mem_of_getElem? h) b rfl).1
theorem Own.ge(o:Own aA H K L)(i:Nat){b:Nat}{s:BSt}(h:L[i]?=some (some b,s)):aA≤b:=(o.row _ (List.mem_of_getElem? h) b rfl).2.1
theorem Own.fr(o:Own aA H K L)(i:Nat){b:Nat}{s:BSt}(h:L[i]?=some (some b,s)):H.row b=.fresh:=(o.row _ (List.mem_of_getElem? h) b rfl).2.2.1
theorem aC7{α β:Type}(f:α→Option β):∀{L:List α},(L.filterMap f).Nodup→∀{i j:Nat} {x y:α},L[i]?=some x→L[j]?=some y→i≠j→∀{b:β},f x=some b→f y≠some b
 | [],_,i,j,x,y,hi,_,_,b,_=>by simp at hi
 | z::L,h,0,0,x,y,hi,hj,hij,b,hx=>absurd rfl hij
 | z::L,h,0,j+1,x,y,hi,hj,hij,b,hx=>by
  simp only[List.getElem?_cons_zero,Option.some.injEq] at hi
  subst hi
  simp only[List.getElem?_cons_succ] at hj
  intro hy
  rw[List.filterMap_cons,hx] at h
  simp only[List.nodup_cons] at h
  exact h.1 (List.mem_filterMap.2 ⟨y,List.mem_of_getElem? hj,hy⟩)
 | z::L,h,i+1,0,x,y,hi,hj,hij,b,hx=>by
  simp only[List.getElem?_cons_zero,Option.some.injEq] at hj
  subst hj
  simp only[List.getElem?_cons_succ] at hi
  intro hy
  rw[List.filterMap_cons,hy] at h
  simp only[List.nodup_cons] at h
  exact h.1 (List.mem_filterMap.2 ⟨x,List.mem_of_getElem? hi,hx⟩)
 | z::L,h,i+1,j+1,x,y,hi,hj,hij,b,hx=>by
  simp only[List.getElem?_cons_succ] at hi hj
  refine aC7 f (L:=L) ?_ hi hj (by omega) hx
  rw[List.filterMap_cons] at h
  split at h
  ·exact h
  ·exact(List.nodup_cons.1 h).2
theorem Own.ne(o:Own aA H K L){i j b c:Nat}{s t:BSt}(hi:L[i]?=some (some b,s))(hj:L[j]?=some (some c,t))(hij:i≠j:=by decide):b≠c:=by
 rintro rfl
 exact aC7 (·.1) o.nodup hi hj hij rfl rfl
theorem Own.move (o:Own aA H K L) {i:Nat} {bo bo':Option Nat} {s s':BSt} (h:L[i]?=some (bo,s)) (hk:H.Keeps K') (hst:∀c,bo≠some c→K.row c≠.fresh→K'.row c=K.row c)
  (hn:∀b,bo'=some b→K'.row b=s'∧aA≤b∧H.row b=.fresh∧s'≠.fresh∧(bo=some b∨K.row b=.fresh)):Own aA H K' (L.set i (bo',s')):=by
 have hil:i<L.length:=(List.getElem?_eq_some_iff.1 h).1
 have get:∀j p,(L.set i (bo',s'))[j]?=some p→(j=i∧p=(bo',s'))∨(j≠i∧L[j]?=some p):=by
  intro j p hp
  rw[List.getElem?_set] at hp
  split at hp
  ·rename_i hij
   first
    | (rw[if_pos hil] at hp;exact .inl ⟨hij.symm,by cases hp;rfl⟩)
    | exact .inl ⟨hij.symm,by cases hp;rfl⟩
  ·rename_i hij
   exact .inr ⟨fun e=>hij e.symm,hp⟩
 have other:∀j p b,j≠i→L[j]?=some p→p.1=some b→bo≠some b:=by
  intro j p b hji hj hp hb
  exact aC7 (·.1) o.nodup hj h hji hp hb
 refine⟨hk,fun p hp b hpb=>?_,?_⟩
 ·obtain⟨j,hj⟩:=List.getElem?_of_mem hp
  rcases get j p hj with⟨rfl,rfl⟩|⟨hji,hj'⟩
  ·obtain⟨h1,h2,h3,h4,_⟩:=hn b hpb
   exact⟨h1,h2,h3,h4⟩
  ·obtain⟨h1,h2,h3,h4⟩:=o.row p (List.mem_of_getElem? hj') b hpb
   exact⟨by rw[hst b (other j p b hji hj' hpb) (by rw[h1];exact h4),h1],h2,h3,h4⟩
 ·-- the numbers stay apart
  have hnd:=o.nodup
  cases hb':bo' with
  | none =>
   have:(L.set i (none,s')).filterMap (·.1)=(L.eraseIdx i).filterMap (·.1):=by
    rw[List.set_eq_take_append_cons_drop,if_pos hil,List.eraseIdx_eq_take_drop_succ]
    simp[List.filterMap_append]
   rw[this]
   exact hnd.sublist ((List.eraseIdx_sublist _ _).filterMap _)
  | some b =>
   obtain⟨_,_,_,_,h5⟩:=hn b hb'
   have e1:(L.set i (some b,s')).filterMap (·.1)=(L.take i).filterMap (·.1)++b::(L.drop (i+1)).filterMap (·.1):=by
    rw[List.set_eq_take_append_cons_drop,if_pos hil]
    simp[List.filterMap_append]
   have e2:((L.take i++L.drop (i+1)).filterMap (·.1)).Nodup:=by
    refine hnd.sublist (List.Sublist.filterMap _ ?_)
    rw[←List.eraseIdx_eq_take_drop_succ]
    exact List.eraseIdx_sublist _ _
   rw[List.filterMap_append] at e2
   rw[e1]
   have hmem:∀c,c∈(L.take i).filterMap (·.1)++(L.drop (i+1)).filterMap (·.1)→c≠b:=by
    intro c hc
    rintro rfl
    rw[←List.filterMap_append,←List.eraseIdx_eq_take_drop_succ] at hc
    obtain⟨⟨p1,p2⟩,hp,hp1⟩:=List.mem_filterMap.1 hc
    obtain⟨j,hj⟩:=List.getElem?_of_mem hp
    rw[List.getElem?_eraseIdx] at hj
    simp only at hp1
    subst hp1
    obtain⟨k,hki,hk⟩:∃k,k≠i∧L[k]?=some (some c,p2):=by
     split at hj
     ·exact⟨j,by omega,hj⟩
     ·exact⟨j+1,by omega,hj⟩
    rcases h5 with h5|h5
    ·exact other k _ c hki hk rfl h5
    ·obtain⟨h1,_,_,h4⟩:=o.row _ (List.mem_of_getElem? hk) c rfl
     rw[h5] at h1
     exact h4 h1.symm
   rw[List.nodup_append] at e2 ⊢
   refine⟨e2.1,?_,?_⟩
   ·rw[List.nodup_cons]
    exact⟨fun hc=>hmem b (List.mem_append_right _ hc) rfl,e2.2.1⟩
   ·intro c hc d hd
    rcases List.mem_cons.1 hd with rfl|hd
    ·exact hmem c (List.mem_append_left _ hc)
    ·exact e2.2.2 c hc d hd
theorem Own.upd(o:Own aA H K L)(i:Nat){b:Nat}{s s':BSt}(h:L[i]?=some (some b,s))(hs:s'≠.fresh:=by simp):Own aA H (K.set b s') (L.set i (some b,s')):=by
 obtain⟨h1,h2,h3,h4⟩:=o.row _ (List.mem_of_getElem? h) b rfl
 refine o.move h (o.keeps.set h3 _) (fun c hc hf=>BH.row_set_ne _ _ (by rintro rfl;exact hc rfl)) fun b' hb'=>?_
 cases hb'
 exact⟨BH.row_set_eq _ _ _,h2,h3,hs,.inl rfl⟩
end

/-! ### slices whose elements are single cells -/
abbrev one1 (c:BV):List BV:=[c]
theorem flat1(cs:List BV):(cs.map one1).flatten=cs:=by
 induction cs with
 | nil=>rfl
 | cons c cs ih=>simp[one1] at ih ⊢;exact ih
def Vec(bo:Option Nat)(v:BV)(n:Nat):Prop:=match bo with
 | none=>v=.nils∧n=0
 | some b=>v=.sl b 0 n
theorem Vec.isSl{bo:Option Nat}{v:BV}{n:Nat}(h:Vec bo v n):v.isSl=true:=by
 cases bo with
 | none=>rw[h.1];rfl
 | some b=>rw[show v=.sl b 0 n from h];rfl
theorem Vec.len{bo:Option Nat}{v:BV}{n:Nat}(h:Vec bo v n):v.slen=n:=by
 cases bo with
 | none=>rw[h.1,h.2];rfl
 | some b=>rw[show v=.sl b 0 n from h];rfl
theorem Vec.one{bo:Option Nat}{v:BV}{n:Nat}(h:Vec bo v n):v.one=true:=aF h.isSl
theorem Vec.none:Vec .none .nils 0:=⟨rfl,rfl⟩
section
variable {aA:Nat} {H K:BH} {L:List (Option Nat×BSt)} {i ty:Nat} {bo:Option Nat} {v:BV} {cs:List BV}
theorem Own.ownN(o:Own aA H K L)(i:Nat)(h:L[i]?=some (bo,.arr ty cs))(hv:Vec bo v cs.length):OwnN aA K ty 1 v (cs.map one1) bo:=by
 cases bo with
 | none=>exact⟨hv.1,by rw[List.eq_nil_of_length_eq_zero hv.2];rfl⟩
 | some b =>
  obtain⟨h1,h2,_,_⟩:=o.row _ (List.mem_of_getElem? h) b rfl
  have hv':v=.sl b 0 cs.length:=hv
  exact⟨by rw[List.length_map];exact hv',by rw[flat1];exact h1,h2,by intro x hx;obtain⟨c,_,rfl⟩:=List.mem_map.1 hx;rfl⟩
theorem Own.sls(o:Own aA H K L)(i:Nat)(h:L[i]?=some (bo,.arr ty cs))(hv:Vec bo v cs.length):Sls K ty 1 v (cs.map one1):=(o.ownN i h hv).sls
theorem OwnN.vec(h:OwnN aA K ty 1 v (cs.map one1) bo):Vec bo v cs.length:=by
 cases bo with
 | none=>exact⟨h.1,by simpa using h.2⟩
 | some b =>
  have:=OwnS.val h
  rw[List.length_map] at this
  exact this
theorem Own.app(o:Own aA H K L)(i:Nat)(h:L[i]?=some (bo,.arr ty cs))(hv:Vec bo v cs.length){vy:BV}{new:List BV}{bytes nb:Nat}(hc:K.cells 1 vy=some new)(h1:∀c∈new,c.one=true)(hsm:cs.length+new.length≤35184372088832)(hsm2:(cs.length+new.length)*bytes≤35184372088832)(hn:K.row nb=.fresh)(hnb:aA≤nb):
  ∃v' K' bo',K.appd aA nb ty 1 bytes v vy=some (v',K')∧Own aA H K' (L.set i (bo',.arr ty (cs++new)))∧Vec bo' v' (cs++new).length:=by
 have hfr:Fr H bo:=fun b hb=>(o.row _ (List.mem_of_getElem? h) b hb).2.2.1
 obtain⟨v',K',bo',a1,a2,a3,a4,a5,a6⟩:=aX9 (aA:=aA) (bytes:=bytes) (nb:=nb) o.keeps hfr (o.ownN i h hv) (new:=new.map one1) (by rw[flat1];exact hc)
  (by intro z hz;obtain⟨c,_,rfl⟩:=List.mem_map.1 hz;rfl) (by intro z hz c hcz;obtain⟨d,hd,rfl⟩:=List.mem_map.1 hz;simp[one1] at hcz;subst hcz;exact h1 _ hd) (by omega) (by simpa using hsm) (by simpa using hsm2) hn hnb
 rw[←List.map_append] at a2
 refine⟨v',K',bo',a1,o.move h a3 a5 fun b hb=>⟨?_,?_,a4 b hb,by simp,.inr (a6 b hb)⟩,a2.vec⟩
 ·have:=a2.live hb
  rw[flat1] at this
  exact this
 ·subst hb
  exact OwnS.own a2
theorem Own.push(o:Own aA H K L)(i:Nat)(h:L[i]?=some (bo,.arr ty cs))(hv:Vec bo v cs.length){x:BV}{bytes n1 nb:Nat}(hx:x.one=true)(hsm:cs.length+1≤35184372088832)(hsm2:(cs.length+1)*bytes≤35184372088832)(f1:K.row n1=.fresh)(b1:aA≤n1)(hn:(K.set n1 (.arr ty [x])).row nb=.fresh)(hnb:aA≤nb):
  ∃v' K' b',(K.set n1 (.arr ty [x])).appd aA nb ty 1 bytes v (.sl n1 0 1)=some (v',K')∧Own aA H K' (L.set i (some b',.arr ty (cs++[x])))∧Vec (some b') v' (cs.length+1):=by
 have o1:=o.new f1 b1 (s:=.arr ty [x])
 obtain⟨v',K',bo',a1,a2,a3⟩:=o1.app (i+1) (by simpa using h) hv (vy:=.sl n1 0 1) (new:=[x]) (bytes:=bytes) (nb:=nb) (aC8 (sz:=1) rfl) (by simp[hx]) (by simpa using hsm) (by simpa using hsm2) hn hnb
 cases bo' with
 | none=>have:=a3.2;simp at this
 | some b'=>exact⟨v',K',b',a1,by simpa using a2.tail,by simpa using a3⟩
theorem Own.wr(o:Own aA H K L)(i:Nat)(h:L[i]?=some (bo,.arr ty cs))(hv:Vec bo v cs.length){j:Nat}(hj:j<cs.length){u:BV}(hu:u.one=true){rt:Option Nat}(hrt:dF rt ty=true):
  ∃K',K.wr aA rt 1 (v.sat j 1) u=some K'∧Own aA H K' (L.set i (bo,.arr ty (cs.set j u))):=by
 cases bo with
 | none=>have:=hv.2;omega
 | some b =>
  obtain⟨h1,h2,h3,h4⟩:=o.row _ (List.mem_of_getElem? h) b rfl
  have hv':v=.sl b 0 cs.length:=hv
  subst hv'
  rw[iK,Nat.zero_add,Nat.mul_one,aS0 (v:=u) (n:=1) h1 hrt h2 (by rw[cells_one hu];rfl) (by omega) (by rw[cells_one hu];simp[hu]),cells_one hu,List.append_assoc,List.singleton_append,take_set hj]
  exact⟨_,rfl,o.upd i h⟩
theorem Own.put(o:Own aA H K L)(i:Nat){b:Nat}(h:L[i]?=some (some b,.arr ty cs)){j:Nat}(hj:j<cs.length){u:BV}(hu:u.one=true){rt:Option Nat}(hrt:dF rt ty=true):
  ∃K',K.wr aA rt 1 (.ptr b j) u=some K'∧Own aA H K' (L.set i (some b,.arr ty (cs.set j u))):=by
 obtain⟨K',h1,h2⟩:=o.wr i h (v:=.sl b 0 cs.length) rfl hj hu hrt
 rw[iK,Nat.zero_add,Nat.mul_one] at h1
 exact⟨K',h1,h2⟩
theorem Own.putAll(o:Own aA H K L)(i:Nat){b:Nat}(h:L[i]?=some (some b,.arr ty cs)){n:Nat}{ds:List BV}(hn:ds.length=n)(hl:cs.length=n)(hu:ds.all BV.one=true){rt:Option Nat}(hrt:dF rt ty=true):
  ∃K',K.wr aA rt n (.ptr b 0) (.agg ds)=some K'∧Own aA H K' (L.set i (some b,.arr ty ds)):=by
 obtain⟨h1,h2,h3,h4⟩:=o.row _ (List.mem_of_getElem? h) b rfl
 rw[aS0 (v:=.agg ds) (n:=n) h1 hrt h2 (by rw[cM];exact hn) (by omega) (by rw[cM];exact hu),cM]
 simp only[List.take_zero,List.nil_append,Nat.zero_add]
 rw[List.drop_eq_nil_of_le (by omega),List.append_nil]
 exact⟨_,rfl,o.upd i h⟩
theorem aD{b j:Nat}{c:BV}(h:K.row b=.arr ty cs){rt:Option Nat}(hrt:dF rt ty=true)(hj:cs[j]?=some c):K.rd rt none (.ptr b j)=some c:=by
 have hlt:j<cs.length:=(List.getElem?_eq_some_iff.1 hj).1
 have:(cs.drop j).head?=some c:=by rw[List.head?_drop];exact hj
 simp[BH.rd,h,hrt,show j+1≤cs.length by omega,asm,List.head?_take,this]
theorem aI{b n:Nat}(h:K.row b=.arr ty cs)(hl:cs.length=n){rt:Option Nat}(hrt:dF rt ty=true):K.rd rt (some n) (.ptr b 0)=some (.agg cs):=by
 simp[BH.rd,h,hrt,hl,asm]
 rw[←hl,List.take_length]
end

/-! ### calls as steps -/
def FnDoes (Γ:Ctx) (f:Nat) (args:List BV) (H:BH) (P:BV→BH→Prop):Prop:=∃v K,Runs Γ f args H v K∧H.Keeps K∧P v K
theorem FnDoes.of{Γ:Ctx}{f:Nat}{fn:aM}{args:List BV}{H:BH}{P:BV→BH→Prop}(hf:Γ.fn f=some fn)(h:wpC Γ.aA (Runs Γ) fn.body (fun x e' K=>(x=.normal∨x=.ret)∧∃v,cY fn.results e' K=some v∧H.Keeps K∧P v K) (eX args) H):FnDoes Γ f args H P :=
 uE (R:=fun v K=>H.Keeps K∧P v K) hf h
theorem FnDoes.step{Γ:Ctx}{f:Nat}{args:List BV}{H:BH}{P:BV→BH→Prop}(h:FnDoes Γ f args H P){d:Option Nat}{e:Env}{Kn:Env→BH→Prop}{k:List Nat}(hk:∀v K,H.Keeps K→P v K→Kn (e.puto d v) K):CallS (Runs Γ) f args k d Kn e H:=by
 obtain⟨v,K,h1,h2,h3⟩:=h
 exact⟨v,K,h1,h2.tys k,hk v K h2 h3⟩
theorem FnDoes.mono{Γ:Ctx}{f:Nat}{args:List BV}{H:BH}{P Q:BV→BH→Prop}(h:FnDoes Γ f args H P)(hq:∀v K,H.Keeps K→P v K→Q v K):FnDoes Γ f args H Q:=by
 obtain⟨v,K,h1,h2,h3⟩:=h
 exact⟨v,K,h1,h2,hq v K h2 h3⟩
theorem FnDoes.val{Γ:Ctx}{f:Nat}{args:List BV}{H:BH}{v:BV}(h:FnDoes Γ f args H fun u _=>u=v):Gives Γ f args H v:=by
 obtain⟨u,K,h1,h2,rfl⟩:=h
 exact⟨K,h1,h2⟩
end Go.B
end

section
namespace Go.B
set_option linter.unusedVariables false
set_option linter.unusedSimpArgs false

def BH.mlook(H:BH)(kd:Nat)(ok:Bool)(zero vm vk:BV):Option BV:=match vm with
 | .mp b=>match H.row b with
  | .mp es=>if pV kd vk=true then(iQ kd es vk).map fun r=>if ok then .tup [r.getD zero,.bool r.isSome] else r.getD zero else none
  | _=>none
 | _=>none
def BH.msetv(aA:Nat)(H:BH)(kd:Nat)(vm vk vv:BV):Option BH:=match vm with
 | .mp b=>match H.row b with
  | .mp es=>if aA≤b∧pV kd vk=true then(fA kd es vk vv).map fun es'=>H.set b (.mp es') else none
  | _=>none
 | _=>none
def BH.mlen(H:BH)(vm:BV):Option BV:=match vm with
 | .nilm=>some (.int .i64 0)
 | .mp b=>match H.row b with
  | .mp es=>some (.int .i64 es.length)
  | _=>none
 | _=>none
section
variable {aA nb:Nat} {σ:Opd→BV} {H:BH}
theorem kK{f:Nat}{caps:List Opd}:op1 aA nb σ H (.mkfn f caps)=some (.fn f (caps.map σ),H):=rfl
theorem gJ:op1 aA nb σ H .mkmap=(H.make aA nb (.mp [])).map fun K=>(.mp nb,K):=rfl
theorem kH{kd:Nat}{m k v:Opd}:op1 aA nb σ H (.mset kd m k v)=(H.msetv aA kd (σ m) (σ k) (σ v)).map fun K=>(.tup [],K):=by
 cases ha:σ m<;>simp only[op1,BH.msetv,ha]<;>try rfl
 rename_i b
 cases hb:H.row b<;>simp only[]<;>try rfl
 split
 ·rw[Option.map_map]
  rfl
 ·rfl
theorem kN{kd:Nat}{ok:Bool}{z:BV}{m k:Opd}:op1 aA nb σ H (.look kd ok z m k)=(H.mlook kd ok z (σ m) (σ k)).map (·,H):=by
 cases ha:σ m<;>simp only[op1,BH.mlook,ha]<;>try rfl
 rename_i b
 cases hb:H.row b<;>simp only[]<;>try rfl
 split
 ·rw[Option.map_map]
  rfl
 ·rfl
theorem kP{x:Opd}:op1 aA nb σ H (.len 2 x)=(H.mlen (σ x)).map (·,H):=by
 cases ha:σ x<;>simp only[op1,BH.mlen,ha]<;>try rfl
 rename_i b
 cases hb:H.row b<;>simp only[]<;>rfl
end

/-! ### keys that are numbered -/
def bI {α:Type} (enc:α→BV) (ks:List α) (n:Nat):List (BV×BV):=match ks with
  | []=>[]
  | k::r=>(enc k,.int .i64 (n:Int))::bI enc r (n+1)
theorem aI3{α:Type}{enc:α→BV}:∀(ks:List α) (n:Nat),(bI enc ks n).length=ks.length
 | [],_=>rfl
 | k::r,n=>by simp[bI,aI3 r]
theorem uT{α:Type}{enc:α→BV}:∀(ks:List α) (k:α) (n:Nat),bI enc (ks++[k]) n=bI enc ks n++[(enc k,.int .i64 ((n+ks.length:Nat):Int))]
 | [],k,n=>by simp[bI]
 | j::r,k,n=>by
  rw[List.cons_append,bI,uT r k (n+1),bI,List.cons_append,List.length_cons,show n+1+r.length=n+(r.length+1) by omega]
section
variable {α:Type} [DecidableEq α] {enc:α→BV} {kd:Nat}
theorem aI4(he:∀k l,bK kd (enc k) (enc l)=some (decide (k=l))):∀(ks:List α) (k:α) (n:Nat),iQ kd (bI enc ks n) (enc k)=some (if k∈ks then some (.int .i64 ((n+ks.idxOf k:Nat):Int)) else none)
 | [],k,n=>rfl
 | j::r,k,n=>by
  rw[bI,iQ,he k j]
  by_cases h:k=j
  ·subst h
   simp
  ·have h1:(j==k)=false:=by simpa using fun e=>h e.symm
   simp only[h,decide_false,List.mem_cons,false_or,List.idxOf_cons,h1]
   rw[aI4 he r k (n+1),show n+1+r.idxOf k=n+(r.idxOf k+1) by omega]
   rfl
theorem aI2(he:∀k l,bK kd (enc k) (enc l)=some (decide (k=l))):∀(ks:List α) (k:α) (n:Nat) (v:BV),k∉ks→fA kd (bI enc ks n) (enc k) v=some (bI enc ks n++[(enc k,v)])
 | [],k,n,v,_=>rfl
 | j::r,k,n,v,h=>by
  rw[List.mem_cons,not_or] at h
  rw[bI,fA,he k j]
  simp only[h.1,decide_false]
  rw[aI2 he r k (n+1) v h.2]
  rfl
end
theorem Own.mlen{aA:Nat}{H K:BH}{L:List (Option Nat×BSt)}{α:Type}{enc:α→BV}{ks:List α}{b:Nat}(o:Own aA H K L)(i:Nat)(h:L[i]?=some (some b,.mp (bI enc ks 0))):K.mlen (.mp b)=some (.int .i64 (ks.length:Nat)):=by
 have hr:=o.at i h
 simp only[BH.mlen,hr,aI3]
section
variable {aA:Nat} {H K:BH} {L:List (Option Nat×BSt)} {α:Type} [DecidableEq α] {enc:α→BV} {kd:Nat} {ks:List α} {b:Nat}
theorem Own.look(o:Own aA H K L)(i:Nat)(h:L[i]?=some (some b,.mp (bI enc ks 0)))(he:∀k l,bK kd (enc k) (enc l)=some (decide (k=l)))(hk:∀k,pV kd (enc k)=true)(k:α):K.mlook kd true (.int .i64 0) (.mp b) (enc k)=some (.tup [if k∈ks then .int .i64 (ks.idxOf k:Nat) else .int .i64 0,.bool (decide (k∈ks))]):=by
 have hr:=o.at i h
 simp only[BH.mlook,hr,hk,if_true,aI4 he]
 by_cases hm:k∈ks<;>simp[hm]
theorem Own.mset(o:Own aA H K L)(i:Nat)(h:L[i]?=some (some b,.mp (bI enc ks 0)))(he:∀k l,bK kd (enc k) (enc l)=some (decide (k=l)))(hk:∀k,pV kd (enc k)=true){k:α}(hn:k∉ks):
  ∃K',K.msetv aA kd (.mp b) (enc k) (.int .i64 (ks.length:Nat))=some K'∧Own aA H K' (L.set i (some b,.mp (bI enc (ks++[k]) 0))):=by
 obtain⟨h1,h2,h3,h4⟩:=o.row _ (List.mem_of_getElem? h) b rfl
 refine⟨_,?_,o.upd i h (s':=.mp (bI enc (ks++[k]) 0))⟩
 simp only[BH.msetv,h1,h2,hk,and_self,if_true,aI2 he ks k 0 _ hn,Option.map_some,uT,Nat.zero_add]
end
section
variable {K:Env→BH→Prop} {Q:Post} {e:Env} {H:BH} {i:Nat} {x:BExit}
theorem nZ:Post.then K Q .normal e H=K e H:=Eq.trans rfl rfl
theorem nX:Post.then K Q (.exit i) e H=Q (.exit i) e H:=Eq.trans rfl rfl
theorem nY:Post.then K Q .ret e H=Q .ret e H:=Eq.trans rfl rfl
theorem pin:Post.inBlock i Q x e H=Q (x.outOf i) e H:=Eq.trans rfl rfl
end
/-! ### code in parts -/
def BCode.hd:Nat→BCode→BCode
  | 0,_=>.skip
  | n+1,.seq a b=>.seq a (b.hd n)
  | _+1,c=>c
def BCode.tl:Nat→BCode→BCode
 | 0,c=>c
 | n+1,.seq _ b=>b.tl n
 | _+1,_=>.skip
theorem dO{aA:Nat}{C:bR}{Q:Post}(n:Nat)(I:Env→BH→Prop):∀{c:BCode} {e:Env} {H:BH},wpC aA C (c.hd n) (Post.then I Q) e H→(∀e' H',I e' H'→wpC aA C (c.tl n) Q e' H')→wpC aA C c Q e H:=by
 induction n with
 | zero=>intro c e H h k;exact k _ _ h
 | succ n ih =>
  intro c e H h k
  cases c with
  | seq a b =>
   refine wpC_mono (c:=a) (fun x e H hx=>?_) h
   cases x with
   | normal=>exact ih hx k
   | exit i=>exact hx
   | ret=>exact hx
  | _ =>
   refine wpC_mono (fun x e H hx=>?_) h
   cases x with
   | normal=>exact k _ _ hx
   | exit i=>exact hx
   | ret=>exact hx

/-! ### lists whose elements have several cells -/
section
variable {aA:Nat} {H K:BH} {L:List (Option Nat×BSt)} {ty sz:Nat} {bo:Option Nat} {v:BV} {xs:List (List BV)}
theorem Own.ownZ(o:Own aA H K L)(i:Nat)(h:L[i]?=some (bo,.arr ty xs.flatten))(hv:Vec bo v xs.length)(hl:∀x∈xs,x.length=sz):OwnN aA K ty sz v xs bo:=by
 cases bo with
 | none=>exact⟨hv.1,List.eq_nil_of_length_eq_zero hv.2⟩
 | some b =>
  obtain⟨h1,h2,_,_⟩:=o.row _ (List.mem_of_getElem? h) b rfl
  exact⟨hv,h1,h2,hl⟩
theorem OwnN.vecZ(h:OwnN aA K ty sz v xs bo):Vec bo v xs.length:=by
 cases bo with
 | none=>exact⟨h.1,by rw[h.2];rfl⟩
 | some b=>exact OwnS.val h
theorem Own.pushZ(o:Own aA H K L)(i:Nat)(h:L[i]?=some (bo,.arr ty xs.flatten))(hv:Vec bo v xs.length)(hl:∀x∈xs,x.length=sz){x:List BV}{bytes n1 nb:Nat}(hx:x.length=sz)(h1:∀c∈x,c.one=true)(hsz:0<sz)(hsm:(xs.length+1)*sz≤35184372088832)(hsm2:(xs.length+1)*bytes≤35184372088832)(f1:K.row n1=.fresh)(b1:aA≤n1)(hn:(K.set n1 (.arr ty x)).row nb=.fresh)(hnb:aA≤nb):
  ∃v' K' b',(K.set n1 (.arr ty x)).appd aA nb ty sz bytes v (.sl n1 0 1)=some (v',K')∧Own aA H K' (L.set i (some b',.arr ty (xs++[x]).flatten))∧Vec (some b') v' (xs.length+1):=by
 have o1:=o.new f1 b1 (s:=.arr ty x)
 have hfr:Fr H bo:=fun b hb=>(o.row _ (List.mem_of_getElem? h) b hb).2.2.1
 obtain⟨v',K',bo',a1,a2,a3,a4,a5,a6⟩:=aX9 (aA:=aA) (bytes:=bytes) (nb:=nb) o1.keeps hfr (o1.ownZ (i+1) (by simpa using h) hv hl) (vy:=.sl n1 0 1) (new:=[x]) (by simpa using aC8 (K:=K) (n1:=n1) (ty:=ty) (sz:=sz) (n:=1) (by simpa using hx))
  (by simpa using hx) (by simpa using h1) hsz (by simpa using hsm) (by simpa using hsm2) hn hnb
 cases bo' with
 | none=>have:=a2.2;simp at this
 | some b' =>
  have o2:=o1.move (i:=i+1) (by simpa using h) a3 a5 (bo':=some b') (s':=.arr ty (xs++[x]).flatten) fun b hb=>by
   cases hb
   exact⟨OwnS.row a2,OwnS.own a2,a4 b' rfl,by simp,.inr (a6 b' rfl)⟩
  exact⟨v',K',b',a1,by simpa using o2.tail,by simpa using a2.vecZ⟩
end
end Go.B
end

section
namespace Go.B
set_option linter.unusedVariables false
theorem zL{w:World}{k:Nat}{os:Array Obj}{i:Nat}{o:Obj}(h:w.heap[i]?=some o):(Sort.grow (w.drewN k) os).heap[i]?=some o:=by
 have hlt:i<w.heap.size:=(Array.getElem?_eq_some_iff.1 h).1
 show (w.heap++os)[i]?=some o
 rw[Array.getElem?_append_left hlt,h]
theorem grow_ext(w:World)(k:Nat)(os:Array Obj):w.Extends (Sort.grow (w.drewN k) os):=by
 have hb:∀i:Nat,i<w.heap.size→(Sort.grow (w.drewN k) os).heap[i]?=w.heap[i]?:=fun i hi=>by
  show (w.heap++os)[i]?=_
  rw[Array.getElem?_append_left hi]
 refine⟨rfl,rfl,rfl,?_,fun a ha=>?_,fun a ha=>?_,hb⟩
 ·show w.heap.size≤(w.heap++os).size
  simp
 ·unfold World.cell?
  rw[hb _ ha]
 ·unfold World.frozen?
  rw[hb _ ha]
theorem HR.grown{P:Program}{aA:Nat}{w0 w:World}{X:Tie}{H:BH}(h:HR P aA w0 X H w)(k:Nat)(os:Array Obj):HR P aA w0 X H (Sort.grow (w.drewN k) os) where
 row:=fun b=>by
  have hb:=h.row b
  cases hr:H.row b with
  | arr ty cs =>
   rw[hr] at hb
   obtain⟨r,cur,fz,h1,h2,h3⟩:=hb
   exact⟨r,cur,fz,h1,zL h2,h3⟩
  | mp es =>
   rw[hr] at hb
   obtain⟨r,es',clk,h1,h2,h3⟩:=hb
   exact⟨r,es',clk,h1,zL h2,h3⟩
  | dead=>rw[hr] at hb;exact hb
  | fresh=>rw[hr] at hb;exact hb
 inj:=h.inj
 ext:=h.ext.trans (grow_ext w k os)
def itoaB(f:Nat):bR:=fun g args H v H'=>g=f∧∃n:Nat,n≤4611686018427387904∧args=[.int .i64 (n:Int)]∧v=.str ⟨(Lib.decDigits n).toArray⟩∧H'=H
theorem aJ3(f:Nat):eO (itoaB f):=by
 rintro g args H v H1 nb ⟨rfl,n,hn,rfl,rfl,rfl⟩ hf
 exact⟨hf,fun s=>⟨rfl,n,hn,rfl,rfl,rfl⟩⟩
theorem aO8{P:Program}{aA f:Nat}{w0:World}{LO:Prop}(he:Enters P f)(htab:Lib.TabIs P w0 "internal/strconv.uint64pow10" .u64 Lib.pow10Tab)(hc:∀(n:Int),-9223372036854775808≤n→n≤9223372036854775807→∀w,Lib.TabIs P w "internal/strconv.uint64pow10" .u64 Lib.pow10Tab →
   Calls P f #[.int .i64 n] w fun e w'=>e=.returned (.string ⟨(Lib.itoa n).toArray⟩)∧∃k os,w'=Sort.grow (w.drewN k) os):mU P aA w0 LO (itoaB f):=by
 rintro g args H v H1 ⟨rfl,n,hn,rfl,rfl,rfl⟩
 refine⟨he,fun X w args' ha hr=>?_⟩
 have hbel:RowKit.Below w0.heap.size w0 w:=⟨hr.ext.os,hr.ext.tape,hr.ext.output,hr.ext.size,hr.ext.block⟩
 obtain⟨v1,r1,e1,hv1,hr1⟩:=ha
 have hr1:r1=[]:=hr1
 have hv1:v1=.int .i64 (n:Int):=hv1
 subst hr1
 subst hv1
 have ea:args'=#[.int .i64 (n:Int)]:=by
  apply Array.toList_inj.1
  exact e1
 subst ea
 refine Calls.mono (hc n (by omega) (by omega) w (Lib.tabBelow_of_tabIs htab w hbel)) ?_
 rintro e w' ⟨rfl,k,os,rfl⟩
 refine⟨X,Tie.le_refl X,?_,hr.grown k os⟩
 have hi:Lib.itoa (n:Int)=Lib.decDigits n:=by
  unfold Lib.itoa
  rw[if_neg (by omega)]
  simp
 rw[hi]
 rfl
end Go.B
end

section
namespace Go.B
set_option linter.unusedVariables false
def orC(A B:bR):bR:=fun g args H v H'=>A g args H v H'∨B g args H v H'
theorem lX{A B:bR}(ha:eO A)(hb:eO B):eO (orC A B):=by
 rintro g args H v H1 nb (h|h) hf
 ·obtain⟨h1,h2⟩:=ha g args H v H1 nb h hf
  exact⟨h1,fun s=>Or.inl (h2 s)⟩
 ·obtain⟨h1,h2⟩:=hb g args H v H1 nb h hf
  exact⟨h1,fun s=>Or.inr (h2 s)⟩
theorem oI{P:Program}{aA:Nat}{w0:World}{LO:Prop}{A B:bR}(ha:mU P aA w0 LO A)(hb:mU P aA w0 LO B):mU P aA w0 LO (orC A B):=by
 rintro g args H v H1 (h|h)
 ·exact ha g args H v H1 h
 ·exact hb g args H v H1 h
def delB(aA f ty:Nat):bR:=fun g args H v H'=>g=f∧∃(b i j:Nat) (zs:List Int),aA≤b∧i≤j∧j≤zs.length∧zs.length≤4611686018427387904∧H.row b=.arr ty (zs.map (BV.int .i64)) ∧
 args=[.sl b 0 zs.length,.int .i64 i,.int .i64 j]∧v=.sl b 0 (zs.length-(j-i))∧H'=H.set b (.arr ty ((zs.take i++zs.drop j++List.replicate (j-i) 0).map (BV.int .i64)))
theorem aQ5(aA f ty:Nat):eO (delB aA f ty):=by
 rintro g args H v H1 nb ⟨rfl,b,i,j,zs,hb,hij,hj,hn,hr,rfl,rfl,rfl⟩ hf
 have hne:nb≠b:=by
  rintro rfl
  rw[BH.row_set_eq] at hf
  cases hf
 rw[BH.row_set_ne _ _ hne] at hf
 refine⟨hf,fun s=>⟨rfl,b,i,j,zs,hb,hij,hj,hn,?_,rfl,rfl,?_⟩⟩
 ·rw[BH.row_set_ne _ _ (Ne.symm hne)]
  exact hr
 ·rw[BH.set_comm _ _ _ (Ne.symm hne)]
theorem nW{w:World}{q blk:Nat}{d:Array Int}{k:Nat}(h:k≠blk):(Sort.putRow (Value.int .i64) (Sort.ahead w q) blk 0 d).heap[k]?=w.heap[k]?:=by
 show (w.heap.modify blk _)[k]?=_
 rw[Array.getElem?_modify,if_neg (Ne.symm h)]
theorem yT{w0 w:World}{q blk:Nat}{d:Array Int}(h:w0.Extends w)(hlow:w0.heap.size≤blk):w0.Extends (Sort.putRow (Value.int .i64) (Sort.ahead w q) blk 0 d):=by
 have hb:∀i:Nat,i<w0.heap.size→(Sort.putRow (Value.int .i64) (Sort.ahead w q) blk 0 d).heap[i]?=w0.heap[i]?:=fun i hi=>by
  rw[nW (by omega),h.block i hi]
 refine⟨h.os,h.tape,h.output,?_,fun a ha=>?_,fun a ha=>?_,hb⟩
 ·show w0.heap.size≤(w.heap.modify blk _).size
  rw[Array.size_modify]
  exact h.size
 ·unfold World.cell?
  rw[hb _ ha]
 ·unfold World.frozen?
  rw[hb _ ha]
theorem bD1{P:Program}{aA f ty:Nat}{w0:World}{LO:Prop}(he:Enters P f)(hsz:P.cellsOf ty=1)(hc:∀(blk off cap i j:Nat) (zs:List Int) (w:World),Sort.Holds (Value.int .i64) w blk off zs.toArray→zs.length≤cap→cap≤9223372036854775807→i≤j→j≤zs.length →
   Calls P f #[.slice (some ⟨blk,off,none⟩) zs.length cap,.int .i64 i,.int .i64 j] w fun e w'=>e=.returned (.slice (some ⟨blk,off,none⟩) (zs.length-(j-i)) cap)∧∃q,w'=Sort.putRow (Value.int .i64) (Sort.ahead w q) blk off (zs.take i++zs.drop j++List.replicate (j-i) 0).toArray):mU P aA w0 LO (delB aA f ty):=by
 rintro g args H v H1 ⟨rfl,b,i,j,zs,hb,hij,hj,hn,hrow,rfl,rfl,rfl⟩
 refine⟨he,fun X w args' ha hr=>?_⟩
 obtain⟨v1,r1,e1,⟨r,cap,hx,rfl,hcap,hroom⟩,ha⟩:=ha
 obtain⟨v2,r2,rfl,rfl,ha⟩:=ha
 obtain⟨v3,r3,rfl,rfl,ha⟩:=ha
 have ha:r3=[]:=ha
 subst ha
 have ea:args'=#[.slice (some ⟨r.blk,0,none⟩) zs.length cap,.int .i64 i,.int .i64 j]:=by
  apply Array.toList_inj.1
  exact e1
 subst ea
 obtain⟨hroom,hmax⟩:=hroom hb rfl
 have hrw:=hr.row b
 rw[hrow] at hrw
 obtain⟨r',cur,fz,hx',hh,g1,g2,g3,g4⟩:=hrw
 rw[hx] at hx'
 cases hx'
 obtain⟨glow,rfl⟩:=g4 hb
 have hle:zs.length≤cur.size:=by
  rw[hsz] at g2
  rw[g1,←hroom,g2]
  omega
 have hH:Sort.Holds (Value.int .i64) w r.blk 0 zs.toArray:=fun k hk=>by
  have hk:k<zs.length:=by simpa using hk
  obtain⟨u,hu,ku⟩:=g3 k (.int .i64 zs[k]) (by rw[List.getElem?_map,List.getElem?_eq_getElem hk];rfl)
  have ku:u=.int .i64 zs[k]:=ku
  subst ku
  refine⟨?_,?_⟩
  ·simp[World.cell?,hh,hu,hk]
  ·simp[World.frozen?,hh]
 refine Calls.mono (hc r.blk 0 cap i j zs w hH hcap (by simpa[maxLen] using hmax) hij hj) ?_
 rintro e w' ⟨rfl,q,rfl⟩
 refine⟨X,Tie.le_refl X,⟨r,cap,hx,rfl,by omega,fun _ _=>⟨hroom,hmax⟩⟩,?_⟩
 refine hr.write (by rw[hrow];rfl) hx (yT hr.ext glow) (fun k _ hk=>nW hk) rfl ?_
 refine⟨r,Sort.putCells (Value.int .i64) 0 (zs.take i++zs.drop j++List.replicate (j-i) 0).toArray cur,(0,0),hx,?_,?_,g2,?_,fun _=>⟨glow,rfl⟩⟩
 ·show (w.heap.modify r.blk _)[r.blk]?=_
  rw[Array.getElem?_modify,if_pos rfl,hh]
  rfl
 ·simp[Sort.putCells,g1]
 ·intro k c hk
  obtain⟨hlt,hkv⟩:=List.getElem?_eq_some_iff.1 hk
  rw[List.length_map] at hlt
  rw[List.getElem_map] at hkv
  subst hkv
  have hl2:(zs.take i++zs.drop j++List.replicate (j-i) (0:Int)).length=zs.length:=by simp;omega
  obtain⟨L,hL⟩:∃L,L=zs.take i++zs.drop j++List.replicate (j-i) (0:Int):=⟨_,rfl⟩
  rw[←hL] at hl2
  simp only[←hL] at hlt ⊢
  refine⟨.int .i64 L[k],?_,rfl⟩
  have hkc:k<cur.size:=by omega
  simp[Sort.putCells,hkc,hlt]
end Go.B
end

section
namespace Go.B
set_option linter.unusedVariables false
def insB(aA f ty:Nat):bR:=fun g args H v H'=>g=f∧∃(b vb nb i:Nat) (zs:List Int) (x:Int),aA≤b∧aA≤vb∧aA≤nb∧H.row nb=.fresh∧b≠vb∧0<zs.length∧i≤zs.length∧zs.length≤1000000 ∧
 H.row b=.arr ty (zs.map (BV.int .i64))∧H.row vb=.arr ty [.int .i64 x] ∧
 args=[.sl b 0 zs.length,.int .i64 i,.sl vb 0 1]∧v=.sl nb 0 (zs.length+1)∧H'=(H.set nb (.arr ty ((zs.take i++x::zs.drop i).map (BV.int .i64)))).set b .dead
theorem aP0(aA f ty:Nat):eO (insB aA f ty):=by
 rintro g args H v H1 n ⟨rfl,b,vb,nb,i,zs,x,hb,hvb,hnb,hfr,hne,h0,hi,hn,hr,hrv,rfl,rfl,rfl⟩ hf
 have n1:n≠b:=by
  rintro rfl
  rw[BH.row_set_eq] at hf
  cases hf
 rw[BH.row_set_ne _ _ n1] at hf
 have n2:n≠nb:=by
  rintro rfl
  rw[BH.row_set_eq] at hf
  cases hf
 rw[BH.row_set_ne _ _ n2] at hf
 have n3:n≠vb:=by
  rintro rfl
  rw[hrv] at hf
  cases hf
 refine⟨hf,fun s=>⟨rfl,b,vb,nb,i,zs,x,hb,hvb,hnb,?_,hne,h0,hi,hn,?_,?_,rfl,rfl,?_⟩⟩
 ·rw[BH.row_set_ne _ _ (Ne.symm n2)]
  exact hfr
 ·rw[BH.row_set_ne _ _ (Ne.symm n1)]
  exact hr
 ·rw[BH.row_set_ne _ _ (Ne.symm n3)]
  exact hrv
 ·rw[BH.set_comm _ _ _ (Ne.symm n1),BH.set_comm _ _ _ (Ne.symm n2)]
def InsDoes(P:Program)(f ty:Nat):Prop:=∀(blk vblk cap vc i:Nat) (zs:List Int) (x:Int) (cur cv:Array Value) (w:World),w.heap[blk]?=some (.cells cur ty (0,0))→(∀(k:Nat) (hk:k<zs.length),cur[k]?=some (.int .i64 zs[k])) →
 cur.size=cap→zs.length≤cap→cap≤maxLen→w.heap[vblk]?=some (.cells cv ty (0,0))→cv[0]?=some (.int .i64 x)→blk≠vblk→0<zs.length→i≤zs.length→zs.length≤1000000 →
 Calls P f #[.slice (some ⟨blk,0,none⟩) zs.length cap,.int .i64 i,.slice (some ⟨vblk,0,none⟩) 1 vc] w fun e w'=>∃(nblk ncap:Nat) (ncur:Array Value),e=.returned (.slice (some ⟨nblk,0,none⟩) (zs.length+1) ncap)∧(nblk=blk∨w.heap.size≤nblk) ∧
  w'.heap[nblk]?=some (.cells ncur ty (0,0))∧ncur.size=ncap∧ncap≤maxLen∧zs.length+1≤ncap∧(∀(k:Nat) (c:Int),(zs.take i++x::zs.drop i)[k]?=some c→ncur[k]?=some (.int .i64 c)) ∧
  (∀k,k<w.heap.size→k≠blk→w'.heap[k]?=w.heap[k]?)∧w.heap.size≤w'.heap.size∧w'.os=w.os∧w'.tape=w.tape∧w'.output=w.output
theorem bB2{P:Program}{aA f ty:Nat}{w0:World}{LO:Prop}(he:Enters P f)(hsz:P.cellsOf ty=1)(hc:InsDoes P f ty):mU P aA w0 LO (insB aA f ty):=by
 rintro g args H v H1 ⟨rfl,b,vb,nb,i,zs,x,hb,hvb,hnb,hfr,hne,h0,hi,hn,hrow,hrv,rfl,rfl,rfl⟩
 refine⟨he,fun X w args' ha hr=>?_⟩
 obtain⟨v1,r1,e1,⟨r,cap,hx,rfl,hcap,hroom⟩,ha⟩:=ha
 obtain⟨v2,r2,rfl,rfl,ha⟩:=ha
 obtain⟨v3,r3,rfl,⟨q,vc,hxq,rfl,hvc,hvroom⟩,ha⟩:=ha
 have ha:r3=[]:=ha
 subst ha
 have ea:args'=#[.slice (some ⟨r.blk,0,none⟩) zs.length cap,.int .i64 i,.slice (some ⟨q.blk,0,none⟩) 1 vc]:=by
  apply Array.toList_inj.1
  exact e1
 subst ea
 obtain⟨hroom,hmax⟩:=hroom hb rfl
 have hrw:=hr.row b
 rw[hrow] at hrw
 obtain⟨r',cur,fz,hx',hh,g1,g2,g3,g4⟩:=hrw
 rw[hx] at hx'
 cases hx'
 obtain⟨glow,rfl⟩:=g4 hb
 have hrw2:=hr.row vb
 rw[hrv] at hrw2
 obtain⟨q',cv,fz',hx',hh',p1,p2,p3,p4⟩:=hrw2
 rw[hxq] at hx'
 cases hx'
 obtain⟨plow,rfl⟩:=p4 hvb
 rw[hsz] at g2 p2
 have hcs:cur.size=cap:=by
  rw[g1,←hroom,g2,Nat.mul_one]
 have hlive:(H.row b).live=true:=by rw[hrow];rfl
 have hlv:(H.row vb).live=true:=by rw[hrv];rfl
 have hbb:r.blk≠q.blk:=fun e=>hne (hr.inj b vb r q hlive hlv hx hxq e)
 have hcv:cv[0]?=some (.int .i64 x):=by
  obtain⟨u,hu,ku⟩:=p3 0 (.int .i64 x) rfl
  have ku:u=.int .i64 x:=ku
  subst ku
  exact hu
 refine Calls.mono (hc r.blk q.blk cap vc i zs x cur cv w hh (fun k hk=>?_) hcs hcap hmax hh' hcv hbb h0 hi hn) ?_
 ·obtain⟨u,hu,ku⟩:=g3 k (.int .i64 zs[k]) (by rw[List.getElem?_map,List.getElem?_eq_getElem hk];rfl)
  have ku:u=.int .i64 zs[k]:=ku
  subst ku
  exact hu
 rintro e w' ⟨nblk,ncap,ncur,rfl,hnb',hnh,hns,hnm,hnl,hnc,hold,hsize,hos,htp,hout⟩
 have hle:=Tie.le_put (X:=X) (b:=nb) ⟨nblk,1,ncap⟩ (hr.fresh_none hfr)
 have hnbb:nb≠b:=by
  rintro rfl
  rw[hrow] at hfr
  cases hfr
 have hlow:w0.heap.size≤nblk:=by
  rcases hnb' with rfl|h
  ·exact glow
  ·exact Nat.le_trans hr.ext.size h
 have hother:∀d,d≠b→∀p,(H.row d).live=true→X d=some p→w'.heap[p.blk]?=w.heap[p.blk]?∧p.blk≠nblk:=fun d hd p hl hp=>by
  obtain⟨p',hp',hlt⟩:=(hr.row d).lives hl
  rw[hp] at hp'
  cases hp'
  have hpb:p.blk≠r.blk:=fun e=>hd (hr.inj d b p r hl hlive hp hx e)
  refine⟨hold _ hlt hpb,?_⟩
  rcases hnb' with rfl|h
  ·exact hpb
  ·omega
 refine⟨X.put nb ⟨nblk,1,ncap⟩,hle,⟨_,ncap,Tie.put_self _ _ _,rfl,hnl,fun _ _=>⟨Nat.mul_one _,hnm⟩⟩,⟨fun d=>?_,fun d d' p p' hd hd' hp hp' hpq=>?_,?_⟩⟩
 ·rw[BH.row_set]
  split
  ·rename_i e;subst e
   exact⟨r,hle _ _ hx⟩
  ·rename_i e
   rw[BH.row_set]
   split
   ·rename_i e';subst e'
    refine⟨⟨nblk,1,ncap⟩,ncur,(0,0),Tie.put_self _ _ _,hnh,hns,hsz.symm,fun k c hk=>?_,fun _=>⟨hlow,rfl⟩⟩
    rw[List.getElem?_map] at hk
    cases hz:(zs.take i++x::zs.drop i)[k]? with
    | none=>rw[hz] at hk;cases hk
    | some z =>
     rw[hz] at hk
     simp only[Option.map_some,Option.some.injEq] at hk
     subst hk
     exact⟨_,hnc k z hz,rfl⟩
   ·rename_i e'
    exact(hr.row d).stay hle (fun e''=>by simp[Tie.put,e',hr.fresh_none e'']) fun hl p hp=>(hother d e p hl hp).1
 ·rw[BH.row_set] at hd hd'
  split at hd
  ·simp[BSt.live] at hd
  rename_i e
  split at hd'
  ·simp[BSt.live] at hd'
  rename_i e'
  rw[BH.row_set] at hd hd'
  by_cases f1:d=nb<;>by_cases f2:d'=nb
  ·rw[f1,f2]
  ·simp only[Tie.put,f1,f2,if_true,if_false] at hp hp' hd'
   cases hp
   exact absurd hpq.symm (hother d' e' p' hd' hp').2
  ·simp only[Tie.put,f1,f2,if_true,if_false] at hp hp' hd
   cases hp'
   exact absurd hpq (hother d e p hd hp).2
  ·simp only[Tie.put,f1,f2,if_false] at hp hp' hd hd'
   exact hr.inj d d' p p' hd hd' hp hp' hpq
 ·exact pZ hr.ext hos htp hout hsize fun k hk=>hold k (Nat.lt_of_lt_of_le hk hr.ext.size) (by omega)
end Go.B
end

section
namespace Go.B
set_option linter.unusedVariables false
theorem dI(b:Nat)(ty:TypeId)(fz:Nat×Nat):∀(vs:List Value) (o:Nat) (w:World) (cur:Array Value),w.heap[b]?=some (.cells cur ty fz) →
  ∃cur',(w.setCells b o vs).heap[b]?=some (.cells cur' ty fz)∧cur'.size=cur.size∧(∀k:Nat,k<o∨o+vs.length≤k→cur'[k]?=cur[k]?)∧(∀(j:Nat) (v:Value),vs[j]?=some v→o+j<cur.size→cur'[o+j]?=some v) ∧
   (∀k:Nat,k≠b→(w.setCells b o vs).heap[k]?=w.heap[k]?)∧(w.setCells b o vs).heap.size=w.heap.size∧(w.setCells b o vs).os=w.os∧(w.setCells b o vs).tape=w.tape∧(w.setCells b o vs).output=w.output
 | [],o,w,cur,h=>⟨cur,h,rfl,fun _ _=>rfl,fun j v hj=>by simp at hj,fun _ _=>rfl,rfl,rfl,rfl,rfl⟩
 | v::r,o,w,cur,h=>by
  have h1:(w.setCell ⟨b,o,none⟩ v).heap[b]?=some (.cells (cur.setIfInBounds o v) ty fz):=by
   simp[World.setCell,Array.getElem?_modify,h]
  obtain⟨cur',p1,p2,p3,p4,p5,p6,p7,p8,p9⟩:=dI b ty fz r (o+1) _ _ h1
  refine⟨cur',p1,by rw[p2];simp,fun k hk=>?_,fun j u hj hlt=>?_,fun k hk=>?_,?_,p7,p8,p9⟩
  ·rw[p3 k (by simp only[List.length_cons] at hk;omega)]
   rw[Array.getElem?_setIfInBounds_ne (by simp only[List.length_cons] at hk;omega)]
  ·cases j with
   | zero =>
    simp at hj
    subst hj
    rw[Nat.add_zero] at hlt ⊢
    rw[p3 o (by omega)]
    simp[hlt]
   | succ j =>
    have:=p4 j u (by simpa using hj) (by simp;omega)
    rw[show o+(j+1)=o+1+j by omega]
    exact this
  ·show ((w.setCell ⟨b,o,none⟩ v).setCells b (o+1) r).heap[k]?=_
   rw[p5 k hk]
   simp[World.setCell,Array.getElem?_modify,Ne.symm hk]
  ·show ((w.setCell ⟨b,o,none⟩ v).setCells b (o+1) r).heap.size=_
   rw[p6]
   simp[World.setCell]
theorem bB1 {P:Program} {ρ:Shelf.Ren} (L:Go.Proofs.Lays2.n21 P ρ):InsDoes P (ρ.f 21) (ρ.t 3):=by
 intro blk vblk cap vc i zs x cur cv w hh hz hcs hle hmax hv hcv hne h0 hi hn
 have hcell:∀k,w.cell? ⟨blk,k,none⟩=cur[k]?:=fun k=>by simp[World.cell?,hh]
 have hvcell:∀k,w.cell? ⟨vblk,k,none⟩=cv[k]?:=fun k=>by simp[World.cell?,hv]
 have hcsv:∀(j:Nat) (v:Value),(zs.map (Value.int .i64))[j]?=some v→w.cell? ⟨blk,0+j,none⟩=some v:=fun j v hj=>by
  rw[Nat.zero_add,hcell]
  rw[List.getElem?_map] at hj
  cases hjz:zs[j]? with
  | none=>rw[hjz] at hj;cases hj
  | some z =>
   rw[hjz] at hj
   obtain⟨hlt,he⟩:=List.getElem?_eq_some_iff.1 hjz
   rw[hz j hlt,he]
   exact hj
 have hvs:∀(j:Nat) (v:Value),[Value.int .i64 x][j]?=some v→w.cell? ⟨vblk,0+j,none⟩=some v:=fun j v hj=>by
  cases j with
  | zero=>rw[hvcell];simp at hj;subst hj;exact hcv
  | succ j=>simp at hj
 have h1c:∀v∈zs.map (Value.int .i64),v.oneCell'=true:=fun v hv=>by
  obtain⟨z,_,rfl⟩:=List.mem_map.1 hv
  rfl
 have h1v:∀v∈[Value.int .i64 x],v.oneCell'=true:=fun v hv=>by
  simp at hv
  subst hv
  rfl
 have hml:maxLen=9223372036854775807:=rfl
 have hlen:(zs.map (Value.int .i64)).length=zs.length:=List.length_map _
 -- what stands in the cells
 have hins:∀(ncur:Array Value),(∀k:Nat,k<i→ncur[k]?=(zs.map (Value.int .i64))[k]?)→ncur[i]?=some (.int .i64 x)→(∀j:Nat,∀v,((zs.map (Value.int .i64)).drop i)[j]?=some v→ncur[i+1+j]?=some v) →
   ∀(k:Nat) (c:Int),(zs.take i++x::zs.drop i)[k]?=some c→ncur[k]?=some (.int .i64 c):=fun ncur g1 g2 g3 k c hk=>by
  have htl:(zs.take i).length=i:=by rw[List.length_take];omega
  by_cases hki:k<i
  ·rw[List.getElem?_append_left (by omega),List.getElem?_take_of_lt hki] at hk
   rw[g1 k hki,List.getElem?_map,hk]
   rfl
  ·rw[List.getElem?_append_right (by omega),htl] at hk
   obtain⟨d,rfl⟩:∃d,k=i+d:=⟨k-i,by omega⟩
   rw[Nat.add_sub_cancel_left] at hk
   cases d with
   | zero =>
    simp at hk
    subst hk
    exact g2
   | succ d =>
    have:=g3 d (.int .i64 c) (by rw[←List.map_drop,List.getElem?_map];simp at hk;simp[hk])
    rw[show i+(d+1)=i+1+d by omega]
    exact this
 by_cases hroom:zs.length+1≤cap
 ·by_cases hin:i<zs.length
  ·have hsa:w.shape? vblk=some (ρ.t 3,cv.size):=by simp[World.shape?,hv]
   have hsb:w.shape? blk=some (ρ.t 3,cur.size):=by simp[World.shape?,hh]
   refine Calls.mono (Go.Proofs.Any2.slices_Insert_int_shift L blk 0 zs.length cap i vblk 0 1 vc (zs.map (Value.int .i64)) [.int .i64 x] w hin (by omega) hroom (by omega) (Ne.symm hne) hlen rfl hcsv
    (fun j hj=>by rw[Nat.zero_add,hcell];simp;omega) (fun j hj=>by simp[World.frozen?,hh]) hvs h1c h1v (ρ.t 3) (ρ.t 3) cv.size cur.size hsa hsb (by omega) (by simp[World.frozen?,hv]) (by simp[World.frozen?,hv])) ?_
   rintro e w' ⟨rfl,rfl⟩
   obtain⟨c1,p1,p2,p3,p4,p5,p6,p7,p8,p9⟩:=dI blk (ρ.t 3) (0,0) ((zs.map (Value.int .i64)).drop i) (0+(i+1)) w.drew cur hh
   obtain⟨c2,q1,q2,q3,q4,q5,q6,q7,q8,q9⟩:=dI blk (ρ.t 3) (0,0) [.int .i64 x] (0+i) _ c1 p1
   refine⟨blk,cap,c2,rfl,.inl rfl,q1,by omega,hmax,hroom,hins c2 (fun k hk=>?_) ?_ (fun j v hj=>?_),fun k hk hkb=>?_,?_,q7.trans p7,q8.trans p8,q9.trans p9⟩
   ·rw[q3 k (by omega),p3 k (by omega),←hcell,List.getElem?_eq_getElem (by omega)]
    have:=hcsv k _ (List.getElem?_eq_getElem (by omega))
    rw[Nat.zero_add] at this
    exact this
   ·have:=q4 0 _ rfl (by omega)
    simpa using this
   ·have hlt:j<((zs.map (Value.int .i64)).drop i).length:=(List.getElem?_eq_some_iff.1 hj).1
    rw[List.length_drop,hlen] at hlt
    have:=p4 j v hj (by omega)
    rw[q3 _ (by simp)]
    rw[show i+1+j=0+(i+1)+j by omega]
    exact this
   ·rw[q5 k hkb,p5 k hkb]
    rfl
   ·rw[q6,p6]
    exact Nat.le_refl _
  ·have hie:i=zs.length:=by omega
   subst hie
   refine Calls.mono (Go.Proofs.Any2.slices_Insert_int_end_room L blk 0 zs.length cap vblk 0 1 vc [.int .i64 x] w (by omega) hroom (by omega) rfl
    (fun j hj=>by rw[hcell];simp;omega) (fun j hj=>by simp[World.frozen?,hh]) hvs h1v) ?_
   rintro e w' ⟨rfl,rfl⟩
   obtain⟨c1,p1,p2,p3,p4,p5,p6,p7,p8,p9⟩:=dI blk (ρ.t 3) (0,0) [.int .i64 x] (0+zs.length) w cur hh
   refine⟨blk,cap,c1,rfl,.inl rfl,p1,by omega,hmax,hroom,hins c1 (fun k hk=>?_) ?_ (fun j v hj=>?_),fun k hk hkb=>p5 k hkb,by rw[p6];exact Nat.le_refl _,p7,p8,p9⟩
   ·rw[p3 k (by omega),←hcell,List.getElem?_eq_getElem (by omega)]
    have:=hcsv k _ (List.getElem?_eq_getElem (by omega))
    rw[Nat.zero_add] at this
    exact this
   ·have:=p4 0 _ rfl (by omega)
    simpa using this
   ·have hlt:j<((zs.map (Value.int .i64)).drop zs.length).length:=(List.getElem?_eq_some_iff.1 hj).1
    rw[List.length_drop,hlen] at hlt
    omega
 ·have hcap:cap=zs.length:=by omega
  have hGm:=grownCap_le_maxLen w (zs.length+1) cap (ρ.t 3) (by omega)
  have hGg:=grownCap_ge w (zs.length+1) cap (ρ.t 3)
  obtain⟨G,hG⟩:∃G,G=grownCap w (zs.length+1) cap (ρ.t 3):=⟨_,rfl⟩
  rw[←hG] at hGm hGg
  have hz1:(Value.int .i64 0).cells=#[.int .i64 0]:=rfl
  by_cases hin:i<zs.length
  ·refine Calls.mono (Go.Proofs.Any2.slices_Insert_int_grow L blk 0 zs.length cap i vblk 0 1 vc (zs.map (Value.int .i64)) [.int .i64 x] w hin (by omega) hle (by omega) (by omega) hlen rfl hcsv hvs h1c h1v) ?_
   rw[←hG]
   rintro e w' ⟨rfl,rfl⟩
   obtain⟨ROW,hROW⟩:∃ROW:Array Value,ROW=((zs.map (Value.int .i64)).take i).toArray++Builtin.zeroCells (Value.int .i64 0).cells (zs.length+1-i)++Builtin.zeroCells (Value.int .i64 0).cells (G-(zs.length+1)):=⟨_,rfl⟩
   rw[←hROW]
   have hRs:ROW.size=G:=by
    rw[hROW]
    simp[Builtin.zeroCells,Value.cells]
    omega
   have hRi:∀k:Nat,k<i→ROW[k]?=(zs.map (Value.int .i64))[k]?:=fun k hk=>by
    have htl:((zs.map (Value.int .i64)).take i).length=i:=by rw[List.length_take,hlen];omega
    rw[hROW,Array.getElem?_append_left (by simp;omega),Array.getElem?_append_left (by simp;omega)]
    rw[List.getElem?_toArray,List.getElem?_take_of_lt hk]
   have hW:(w.alloc (.cells ROW (ρ.t 3))).drew.heap[w.heap.size]?=some (.cells ROW (ρ.t 3) (0,0)):=by
    show (w.heap.push _)[w.heap.size]?=_
    simp
   obtain⟨c1,p1,p2,p3,p4,p5,p6,p7,p8,p9⟩:=dI w.heap.size (ρ.t 3) (0,0) [.int .i64 x] i (w.alloc (.cells ROW (ρ.t 3))).drew ROW hW
   obtain⟨c2,q1,q2,q3,q4,q5,q6,q7,q8,q9⟩:=dI w.heap.size (ρ.t 3) (0,0) ((zs.map (Value.int .i64)).drop i) (i+1) ((w.alloc (.cells ROW (ρ.t 3))).drew.setCells w.heap.size i [.int .i64 x]).drew c1 p1
   refine⟨w.heap.size,G,c2,rfl,.inr (Nat.le_refl _),q1,by omega,hGm,hGg,hins c2 (fun k hk=>?_) ?_ (fun j v hj=>?_),fun k hk hkb=>?_,?_,q7.trans p7,q8.trans p8,q9.trans p9⟩
   ·rw[q3 k (by omega),p3 k (by omega),hRi k hk]
   ·have:=p4 0 _ rfl (by omega)
    rw[q3 i (by omega)]
    simpa using this
   ·have hlt:j<((zs.map (Value.int .i64)).drop i).length:=(List.getElem?_eq_some_iff.1 hj).1
    rw[List.length_drop,hlen] at hlt
    exact q4 j v hj (by omega)
   ·rw[q5 k (by omega)]
    show ((w.alloc (.cells ROW (ρ.t 3))).drew.setCells w.heap.size i [.int .i64 x]).heap[k]?=_
    rw[p5 k (by omega)]
    exact heap_alloc_old w _ hk
   ·rw[q6]
    show w.heap.size≤((w.alloc (.cells ROW (ρ.t 3))).drew.setCells w.heap.size i [.int .i64 x]).heap.size
    rw[p6]
    show w.heap.size≤(w.heap.push _).size
    simp
  ·have hie:i=zs.length:=by omega
   subst hie
   refine Calls.mono (Go.Proofs.Any2.slices_Insert_int_end_grow L (some ⟨blk,0,none⟩) zs.length cap vblk 0 1 vc (zs.map (Value.int .i64)) [.int .i64 x] w (by omega) hle (by omega) (by omega) hlen rfl (fun e=>by cases e)
    (fun a ha j v hj=>by
     cases ha
     have:(⟨blk,0,none⟩:Addr).add j=⟨blk,0+j,none⟩:=by unfold Addr.add;split<;>simp_all
     rw[this]
     exact hcsv j v hj) hvs h1v) ?_
   rw[←hG]
   rintro e w' ⟨rfl,rfl⟩
   obtain⟨ROW,hROW⟩:∃ROW:Array Value,ROW=(zs.map (Value.int .i64)++[Value.int .i64 x]).toArray++Builtin.zeroCells (Value.int .i64 0).cells (G-(zs.length+1)):=⟨_,rfl⟩
   rw[←hROW]
   have hRs:ROW.size=G:=by
    rw[hROW]
    simp[Builtin.zeroCells,Value.cells]
    omega
   have hW:(w.drew.alloc (.cells ROW (ρ.t 3))).heap[w.heap.size]?=some (.cells ROW (ρ.t 3) (0,0)):=by
    show (w.heap.push _)[w.heap.size]?=_
    simp
   have hRk:∀k:Nat,k<zs.length+1→ROW[k]?=(zs.map (Value.int .i64)++[Value.int .i64 x])[k]?:=fun k hk=>by
    rw[hROW,Array.getElem?_append_left (by simp;omega),List.getElem?_toArray]
   refine⟨w.heap.size,G,ROW,rfl,.inr (Nat.le_refl _),hW,hRs,hGm,hGg,hins ROW (fun k hk=>?_) ?_ (fun j v hj=>?_),fun k hk hkb=>?_,?_,rfl,rfl,rfl⟩
   ·rw[hRk k (by omega),List.getElem?_append_left (by omega)]
   ·rw[hRk _ (by omega),List.getElem?_append_right (by omega),hlen,Nat.sub_self]
    rfl
   ·have hlt:j<((zs.map (Value.int .i64)).drop zs.length).length:=(List.getElem?_eq_some_iff.1 hj).1
    rw[List.length_drop,hlen] at hlt
    omega
   ·exact heap_alloc_old w.drew _ hk
   ·show w.heap.size≤(w.heap.push _).size
    simp
end Go.B
end

section
namespace Go.B
set_option linter.unusedVariables false
theorem FnDoes.hide{Γ:Ctx}{f:Nat}{args:List BV}{H:BH}{P:BV→BH→Prop}(h:∀R:BV→BH→Prop,R=P→FnDoes Γ f args H R):FnDoes Γ f args H P:=h P rfl
def inB(aA f ty:Nat)(g:List Int→List Int)(val:Nat→List Int→BV):bR:=fun c args H v H'=>c=f∧∃(b:Nat) (zs:List Int),aA≤b∧0<zs.length∧zs.length≤1000000∧H.row b=.arr ty (zs.map (BV.int .i64)) ∧
 args=[.sl b 0 zs.length]∧v=val b zs∧H'=H.set b (.arr ty ((g zs).map (BV.int .i64)))
theorem zI(aA f ty:Nat)(g:List Int→List Int)(val:Nat→List Int→BV):eO (inB aA f ty g val):=by
 rintro c args H v H1 nb ⟨rfl,b,zs,hb,h0,hn,hr,rfl,rfl,rfl⟩ hf
 have hne:nb≠b:=by
  rintro rfl
  rw[BH.row_set_eq] at hf
  cases hf
 rw[BH.row_set_ne _ _ hne] at hf
 refine⟨hf,fun s=>⟨rfl,b,zs,hb,h0,hn,?_,rfl,rfl,?_⟩⟩
 ·rw[BH.row_set_ne _ _ (Ne.symm hne)]
  exact hr
 ·rw[BH.set_comm _ _ _ (Ne.symm hne)]
theorem aJ5{P:Program}{aA f ty:Nat}{g:List Int→List Int}{val:Nat→List Int→BV}{w0:World}{LO:Prop}(he:Enters P f)(hsz:P.cellsOf ty=1)(hg:∀zs,(g zs).length=zs.length)(hc:∀(blk cap:Nat) (zs:List Int) (w:World),Sort.Holds (Value.int .i64) w blk 0 zs.toArray→blk<w.heap.size→zs.length≤cap→cap≤maxLen→0<zs.length→zs.length≤1000000 →
   Calls P f #[.slice (some ⟨blk,0,none⟩) zs.length cap] w fun e w'=>∃v',e=.returned v'∧(∀(X:Tie) (b:Nat) (r:Row),X b=some r→r.blk=blk→cap*r.sz=r.room→VR aA X (val b zs) v') ∧
    ∃q os,w'=Sort.grow (Sort.putRow (Value.int .i64) (Sort.ahead w q) blk 0 (g zs).toArray) os):mU P aA w0 LO (inB aA f ty g val):=by
 rintro c args H v H1 ⟨rfl,b,zs,hb,h0,hn,hrow,rfl,rfl,rfl⟩
 refine⟨he,fun X w args' ha hr=>?_⟩
 obtain⟨v1,r1,e1,⟨r,cap,hx,rfl,hcap,hroom⟩,ha⟩:=ha
 have ha:r1=[]:=ha
 subst ha
 have ea:args'=#[.slice (some ⟨r.blk,0,none⟩) zs.length cap]:=by
  apply Array.toList_inj.1
  exact e1
 subst ea
 obtain⟨hroom,hmax⟩:=hroom hb rfl
 have hrw:=hr.row b
 rw[hrow] at hrw
 obtain⟨r',cur,fz,hx',hh,g1,g2,g3,g4⟩:=hrw
 rw[hx] at hx'
 cases hx'
 obtain⟨glow,rfl⟩:=g4 hb
 have hle:zs.length≤cur.size:=by
  rw[hsz] at g2
  rw[g1,←hroom,g2]
  omega
 have hH:Sort.Holds (Value.int .i64) w r.blk 0 zs.toArray:=fun k hk=>by
  have hk:k<zs.length:=by simpa using hk
  obtain⟨u,hu,ku⟩:=g3 k (.int .i64 zs[k]) (by rw[List.getElem?_map,List.getElem?_eq_getElem hk];rfl)
  have ku:u=.int .i64 zs[k]:=ku
  subst ku
  refine⟨?_,?_⟩
  ·simp[World.cell?,hh,hu,hk]
  ·simp[World.frozen?,hh]
 refine Calls.mono (hc r.blk cap zs w hH (Array.getElem?_eq_some_iff.1 hh).1 hcap hmax h0 hn) ?_
 rintro e w' ⟨v',rfl,hv',q,os,rfl⟩
 have hr2:HR P aA w0 X (H.set b (.arr ty ((g zs).map (BV.int .i64)))) (Sort.putRow (Value.int .i64) (Sort.ahead w q) r.blk 0 (g zs).toArray):=by
  refine hr.write (by rw[hrow];rfl) hx (yT hr.ext glow) (fun k _ hk=>nW hk) rfl ?_
  refine⟨r,Sort.putCells (Value.int .i64) 0 (g zs).toArray cur,(0,0),hx,?_,?_,g2,?_,fun _=>⟨glow,rfl⟩⟩
  ·show (w.heap.modify r.blk _)[r.blk]?=_
   rw[Array.getElem?_modify,if_pos rfl,hh]
   rfl
  ·simp[Sort.putCells,g1]
  ·intro k c hk
   obtain⟨hlt,hkv⟩:=List.getElem?_eq_some_iff.1 hk
   rw[List.length_map] at hlt
   rw[List.getElem_map] at hkv
   subst hkv
   have hl2:=hg zs
   obtain⟨L,hL⟩:∃L,L=g zs:=⟨_,rfl⟩
   rw[←hL] at hl2
   simp only[←hL] at hlt ⊢
   refine⟨.int .i64 L[k],?_,rfl⟩
   have hkc:k<cur.size:=by omega
   simp[Sort.putCells,hkc,hlt]
 exact⟨X,Tie.le_refl X,hv' X b r hx rfl hroom,hr2.grown 0 os⟩

def cT(zs:List Int):List Int:=zs.mergeSort fun x y=>decide (x≤y)
def bD3(zs:List Int):List Int:=Lib.compact zs++List.replicate (zs.length-(Lib.compact zs).length) 0
def sortB(aA f ty:Nat):bR:=inB aA f ty cT fun _ _=>.tup []
def compB(aA f ty:Nat):bR:=inB aA f ty bD3 fun b zs=>.sl b 0 (Lib.compact zs).length
theorem aN1{P:Program}{aA f ty:Nat}{w0:World}{LO:Prop}(he:Enters P f)(hsz:P.cellsOf ty=1)(hc:∀(blk off cap:Nat) (zs:List Int) (w:World),Sort.Holds (Value.int .i64) w blk off zs.toArray→blk<w.heap.size→zs.length<4611686018427387904 →
   Calls P f #[.slice (some ⟨blk,off,none⟩) zs.length cap] w fun e w'=>e=.returned (.tuple #[])∧∃n os,w'=Sort.grow (Sort.putRow (Value.int .i64) (Sort.ahead w n) blk off (zs.mergeSort fun x y=>decide (x≤y)).toArray) os):mU P aA w0 LO (sortB aA f ty) :=
 aJ5 he hsz (fun zs=>List.length_mergeSort zs) fun blk cap zs w hH hblk _ _ _ hn=>(hc blk 0 cap zs w hH hblk (by omega)).mono fun e w' ⟨h1,q,os,h2⟩=>⟨_,h1,fun X b r _ _ _=>⟨_,rfl,rfl⟩,q,os,h2⟩
theorem aQ9{P:Program}{aA f ty:Nat}{w0:World}{LO:Prop}(he:Enters P f)(hsz:P.cellsOf ty=1)(hc:∀(blk off cap:Nat) (zs:List Int) (w:World),Sort.Holds (Value.int .i64) w blk off zs.toArray→zs.length≤9223372036854775807→zs.length≤cap →
   Calls P f #[.slice (some ⟨blk,off,none⟩) zs.length cap] w fun e w'=>e=.returned (.slice (some ⟨blk,off,none⟩) (Lib.compact zs).length cap)∧∃q,w'=Sort.putRow (Value.int .i64) (Sort.ahead w q) blk off (Lib.compact zs++List.replicate (zs.length-(Lib.compact zs).length) 0).toArray):mU P aA w0 LO (compB aA f ty) :=
 aJ5 he hsz (fun zs=>by have:=Lib.compact_length_le zs;simp[bD3];omega) fun blk cap zs w hH hblk hcap hmax _ hn=>(hc blk 0 cap zs w hH (by omega) hcap).mono fun e w' ⟨h1,q,h2⟩ =>
  ⟨_,h1,fun X b r hx hrb hroom=>⟨r,cap,hx,by rw[hrb],by have:=Lib.compact_length_le zs;omega,fun _ _=>⟨hroom,hmax⟩⟩,q,#[],by rw[Sort.grow_empty];exact h2⟩

/-! ### rows' numbers, begun anew -/
mutual
theorem VR.rebase{aA base':Nat}{X:Tie}(h:∀b r,X b=some r→b<base'):∀{c:BV} {v:Value},VR aA X c v→VR base' X c v
 | .any,_,_=>trivial
 | .int _ _,_,k=>k
 | .bool _,_,k=>k
 | .str _,_,k=>k
 | .nilp,_,k=>k
 | .ptr b o,_,k=>k
 | .nils,_,k=>k
 | .sl b o n,_,⟨r,cap,k,e1,e2,e3⟩=>⟨r,cap,k,e1,e2,fun hb=>absurd (h b r k) (by omega)⟩
 | .sle,_,k=>k
 | .nilm,_,k=>k
 | .mp b,_,k=>k
 | .nilf,_,k=>k
 | .fn f cs,_,⟨cs',e,k⟩=>⟨cs',e,VRL.rebase h k⟩
 | .nili,_,k=>k
 | .iface t u,_,⟨v',e,k⟩=>⟨v',e,VR.rebase h k⟩
 | .agg cs,_,⟨cs',e,k⟩=>⟨cs',e,VRL.rebase h k⟩
 | .tup cs,_,⟨cs',e,k⟩=>⟨cs',e,VRL.rebase h k⟩
theorem VRL.rebase{aA base':Nat}{X:Tie}(h:∀b r,X b=some r→b<base'):∀{cs:List BV} {vs:List Value},VRL aA X cs vs→VRL base' X cs vs
 | [],_,k=>k
 | c::cs,_,⟨v,r,e,k,l⟩=>⟨v,r,e,VR.rebase h k,VRL.rebase h l⟩
end
theorem ER.rebase{aA base':Nat}{X:Tie}(h:∀b r,X b=some r→b<base'):∀{ms:List (BV×BV)} {es:List MapEntry},ER aA X ms es→ER base' X ms es
 | [],_,k=>k
 | (_,_)::_,_,⟨e,es',he,k1,k2,l⟩=>⟨e,es',he,k1.rebase h,k2.rebase h,ER.rebase h l⟩
theorem HR.rebase{P:Program}{aA:Nat}{w0 w w':World}{X:Tie}{H:BH}(h:HR P aA w0 X H w)(hb:∀k,k<w.heap.size→w'.heap[k]?=w.heap[k]?):
  ∃base',(∀b r,X b=some r→b<base')∧HR P base' w' X H w':=by
 obtain⟨n,hn⟩:=H.fin
 have hlt:∀b r,X b=some r→b<n:=fun b r hx=>by
  rcases Nat.lt_or_ge b n with h1|h1
  ·exact h1
  ·rw[h.fresh_none (hn b h1)] at hx
   cases hx
 refine⟨n,hlt,fun b=>?_,h.inj,World.Extends.refl w'⟩
 have hr:=h.row b
 cases hs:H.row b with
 | arr ty cs =>
  rw[hs] at hr
  obtain⟨r,cur,fz,h1,h2,h3,h4,h5,h6⟩:=hr
  exact⟨r,cur,fz,h1,by rw[hb _ (Array.getElem?_eq_some_iff.1 h2).1];exact h2,h3,h4,fun i c hc=>by
   obtain⟨v,e1,e2⟩:=h5 i c hc
   exact⟨v,e1,e2.rebase hlt⟩,fun hb=>absurd (hlt b r h1) (by omega)⟩
 | mp es =>
  rw[hs] at hr
  obtain⟨r,es',clk,h1,h2,h3,h4⟩:=hr
  exact⟨r,es',clk,h1,by rw[hb _ (Array.getElem?_eq_some_iff.1 h2).1];exact h2,h3.rebase hlt,fun hb=>absurd (hlt b r h1) (by omega)⟩
 | dead=>rw[hs] at hr;exact hr
 | fresh=>rw[hs] at hr;exact hr

/-! ### a count of tuples: whether it is finite -/
def rJ (acc:List Bool) (nxt:List (List Nat)) (W s:Nat):Prop:=∀cs:List Nat,(∀c∈cs,c<W)→acc.length<cs.length→acc.getD (cs.foldl (fun q c=>(nxt.getD q []).getD c 0) s) false=false
def cntB(f tB tL tI:Nat):bR:=fun g args H v H'=>g=f∧H'=H∧∃(t s W:Nat) (acc:List Bool) (nxt:List (List Nat)) (u x:BV) (vs:List BV) (ok:Bool),
 args=[.agg [.int .i64 t,.int .i64 s,u,x]]∧Sls H tB 1 u (acc.map fun b=>[.bool b])∧Sls H tL 1 x (vs.map fun c=>[c])∧vs.length=nxt.length ∧
 (∀(i:Nat) (c:BV) (xs:List Nat),vs[i]?=some c→nxt[i]?=some xs→Sls H tI 1 c (xs.map fun(z:Nat)=>[BV.int .i64 (z:Int)])) ∧
 nxt.length=acc.length∧(∀r∈nxt,r.length=W∧∀z∈r,z<acc.length)∧s<acc.length∧acc.length≤100000∧0<W∧W≤100 ∧
 v=.tup [.any,.bool ok]∧(ok=true↔rJ acc nxt W s)
theorem aR0(f tB tL tI:Nat):eO (cntB f tB tL tI):=by
 rintro g args H v H1 nb ⟨rfl,rfl,t,s,W,acc,nxt,u,x,vs,ok,rfl,h1,h2,h3,h4,h5⟩ hf
 refine⟨hf,fun st=>?_⟩
 have k:=BH.keeps_set st hf
 exact⟨rfl,rfl,t,s,W,acc,nxt,u,x,vs,ok,rfl,Sls.keeps h1 k,Sls.keeps h2 k,h3,fun i c xs hc hx=>Sls.keeps (h4 i c xs hc hx) k,h5⟩
theorem Sls.cellsOf{P:Program}{aA:Nat}{w0 w:World}{X:Tie}{H:BH}(hr:HR P aA w0 X H w){ty:Nat}{u:BV}{xs:List BV}(h:Sls H ty 1 u (xs.map fun c=>[c]))(h0:0<xs.length){v:Value}(hv:VR aA X u v):
  ∃blk off cap,v=.slice (some ⟨blk,off,none⟩) xs.length cap∧∀(i:Nat) (c:BV),xs[i]?=some c→∃v',w.cell? ⟨blk,off+i,none⟩=some v'∧VR aA X c v':=by
 have hl:=h.len
 have hs:=h.isSl
 rw[List.length_map] at hl
 cases u<;>simp[BV.isSl] at hs
 case nils=>simp[BV.slen] at hl;omega
 case sle=>simp[BV.slen] at hl;omega
 case sl b o n =>
  have hn:n=xs.length:=hl
  subst hn
  obtain⟨r,cap,hx,rfl,hcap,-⟩:=hv
  refine⟨r.blk,o,cap,rfl,fun i c hc=>?_⟩
  obtain⟨b',o',cs,e1,e2,e3,e4⟩:=h.get i [c] (by rw[List.getElem?_map,hc];rfl)
  have e1:BV.ptr b (o+i*1)=.ptr b' o':=e1
  cases e1
  rw[Nat.mul_one] at e3 e4
  have hrw:=hr.row b
  rw[e2] at hrw
  obtain⟨r',cur,fz,hx',hh,g1,g2,g3,g4⟩:=hrw
  rw[hx] at hx'
  cases hx'
  have hci:cs[o+i]?=some c:=by
   have:((cs.drop (o+i)).take 1)[0]?=[c][0]?:=by rw[e4]
   rw[List.getElem?_take_of_lt (by omega),List.getElem?_drop] at this
   simpa using this
  obtain⟨v',hv',kv⟩:=g3 _ c hci
  exact⟨v',by simp[World.cell?,hh,hv'],kv⟩
end Go.B
end
