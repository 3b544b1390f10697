/-
Texts of our own, put together: B1, B2, B3, B4, B5, B6, B7, B8, B9, B10, B11, B12, B13, B14, B15, B16, B17, B18.
-/
import Derived.Calls
import Derived.RowKit
import Derived.Laws.AppendOwn
import Derived.Laws.StructEq
import Derived.Laws.MakeOwn
import Derived.Great.BuildSlice
import Derived.Laws.Cover3
import Derived.ArgAppend
import Derived.Laws.BytesArg
import Derived.ChangeKeysEq
import Derived.Orders
section
namespace Go.B
set_option linter.unusedVariables false
set_option linter.unusedSimpArgs false

inductive BV where
 | any
 | int (k:IntKind) (n:Int)
 | bool (b:Bool)
 | str (s:ByteArray)
 | nilp
 | ptr (b o:Nat)
 | nils
 | sl (b o n:Nat)
 | sle
 | nilm
 | mp (b:Nat)
 | nilf
 | fn (f:Nat) (caps:List BV)
 | nili
 | iface (t:Nat) (v:BV)
 | agg (cs:List BV)
 | tup (vs:List BV)
 deriving Inhabited

def BV.one:BV→Bool
 | .any | .agg _ | .tup _=>false
 | _=>true
def BV.cells:BV→List BV
 | .agg cs=>cs
 | v=>[v]

abbrev Env:=Nat→BV
def Env.put(e:Env)(t:Nat)(v:BV):Env:=fun s=>if s=t then v else e s
def Env.puto(e:Env)(t:Option Nat)(v:BV):Env:=match t with|some t=>e.put t v|none=>e

inductive BSt where
 | fresh
 | dead
 | arr (ty:Nat) (cs:List BV)
 | mp (es:List (BV×BV))
 deriving Inhabited

def mapTy:Nat:=1000000007
def BSt.ty:BSt→Option Nat
 | .arr t _=>some t
 | .mp _=>some mapTy
 | _=>none

structure BH where
 row:Nat→BSt
 fin:∃n,∀b,n≤b→row b=.fresh

def BH.set(H:BH)(b:Nat)(s:BSt):BH where
 row:=fun c=>if c=b then s else H.row c
 fin:=by
  obtain⟨n,hn⟩:=H.fin
  refine⟨max n (b+1),fun c hc=>?_⟩
  have h1:c≠b:=by omega
  simp only[h1,if_false]
  exact hn c (by omega)

theorem BH.ext{H K:BH}(h:∀b,H.row b=K.row b):H=K:=by
 cases H;cases K
 have:=funext h
 cases this
 rfl
theorem BH.row_set(H:BH)(b:Nat)(s:BSt)(c:Nat):(H.set b s).row c=if c=b then s else H.row c:=rfl
theorem BH.row_set_eq(H:BH)(b:Nat)(s:BSt):(H.set b s).row b=s:=by simp[BH.set]
theorem BH.row_set_ne(H:BH){b c:Nat}(s:BSt)(h:c≠b):(H.set b s).row c=H.row c:=by simp[BH.set,h]
theorem BH.set_comm(H:BH){b c:Nat}(s t:BSt)(h:b≠c):(H.set b s).set c t=(H.set c t).set b s:=by
 refine BH.ext fun d=>?_
 simp only[BH.row_set]
 split<;>split<;>simp_all
theorem BH.exists_fresh(H:BH)(aA:Nat):∃b,aA≤b∧H.row b=.fresh:=by
 obtain⟨n,hn⟩:=H.fin
 exact⟨max n aA,by omega,hn _ (by omega)⟩
def BH.Keeps(H K:BH):Prop:=∀b,(H.row b≠.fresh)→K.row b=H.row b
theorem BH.Keeps.refl(H:BH):H.Keeps H:=fun _ _=>rfl
theorem BH.Keeps.trans{H K L:BH}(h:H.Keeps K)(k:K.Keeps L):H.Keeps L:=fun b hb=>by
 have h1:=h b hb
 rw[k b (by rw[h1];exact hb),h1]
def BH.KeepsTys(H:BH)(tys:List Nat)(K:BH):Prop:=∀b t,(H.row b).ty=some t→t∈tys→K.row b=H.row b
theorem BH.KeepsTys.nil(H K:BH):H.KeepsTys [] K:=fun _ _ _ h=>by cases h
theorem BH.Keeps.tys{H K:BH}(h:H.Keeps K)(tys:List Nat):H.KeepsTys tys K:=fun b t hb _=>h b (by rintro e;rw[e] at hb;cases hb)
theorem BH.keeps_set{H:BH}{b:Nat}(s:BSt)(h:H.row b=.fresh):H.Keeps (H.set b s):=fun c hc=>by
 refine BH.row_set_ne _ _ ?_
 rintro rfl
 exact hc h

inductive Opd where
 | t (n:Nat)
 | c (v:BV)
 deriving Inhabited
def Opd.ev(e:Env):Opd→BV
 | .t n=>e n
 | .c v=>v

inductive BOp where
 | mov (x:Opd)
 | pick (c a b:Opd)
 | new (ty:Nat) (zero:List BV)
 | box (ty:Nat) (x:Opd)
 | build (zero:List BV) (parts:List (Nat×Nat×Opd))
 | mk (ty n:Nat) (zero:List BV) (parts:List (Nat×Nat×Opd))
 | load (rt:Option Nat) (n:Option Nat) (a:Opd)
 | store (rt:Option Nat) (n:Nat) (a v:Opd)
 | nilck (x:Opd)
 | bin (op:BinOp) (x y:Opd)
 | beq (neg:Bool) (x y:Opd)
 | isnil (neg:Bool) (x:Opd)
 | eqs (neg:Bool) (fs:List (Nat×Nat)) (x y:Opd)
 | not (x:Opd)
 | neg (x:Opd)
 | conv (k:IntKind) (x:Opd)
 | lea (off:Nat) (x:Opd)
 | fld (off:Nat) (n:Option Nat) (x:Opd)
 | idx (sz:Nat) (x i:Opd)
 | idxs (x i:Opd)
 | slice (sz:Nat) (x:Opd) (lo hi:Option Opd)
 | sslice (x:Opd) (lo hi:Option Opd)
 | mkfn (f:Nat) (caps:List Opd)
 | mkmap
 | mset (kd:Nat) (m k v:Opd)
 | look (kd:Nat) (ok:Bool) (zero:BV) (m k:Opd)
 | mksl (ty bytes:Nat) (zero:List BV) (len cap:Opd)
 | ext (i:Nat) (x:Opd)
 | len (kd:Nat) (x:Opd)
 | app (ty sz bytes:Nat) (x y:Opd)
 | b2s (ty:Nat) (x:Opd)
 | imax (x y:Opd)
 | imin (x y:Opd)
 | i2s (x:Opd)
 | idxa (n sz:Nat) (x i:Opd)
 | stuck
 | call (f:Opd) (args:List Opd)
 deriving Inhabited

structure BOper where
 dst:Option Nat
 op:BOp
 guard:Option (Nat×Bool)
 keep:List Nat
 deriving Inhabited

inductive BCode where
 | skip
 | region (ops:List BOper)
 | seq (a b:BCode)
 | cond (c:Opd) (thn els:BCode)
 | block (id:Nat) (body:BCode)
 | loop (body:BCode)
 | exit (id:Nat)
 | ret
 deriving Inhabited

inductive BRes where
 | tmp (t:Nat)
 | cell (t:Nat) (n:Option Nat)
 deriving Inhabited

structure aM where
 results:List BRes
 body:BCode
 deriving Inhabited

inductive BExit where
 | normal
 | exit (id:Nat)
 | ret

/-! ### what the operations do -/
def shiftB (op:BinOp) (k:IntKind) (a b:Int):Option BV:=if b<0 then none else match op with
  | .shl=>some (.int k (k.wrap (a*2^min b.toNat k.bits)))
  | .shr=>some (.int k (a.fdiv (2^min b.toNat k.bits)))
  | _=>none
def iR:BinOp→Bool
 | .shl | .shr=>true
 | _=>false
def bC(op:BinOp):BV→BV→Option BV
 | .int k a,.int k' b=>if iR op then shiftB op k a b else if k=k' then(match op with
  | .and=>some (.int k (k.wrap (BitVec.ofInt k.bits a &&& BitVec.ofInt k.bits b).toNat))
  | .or=>some (.int k (k.wrap (BitVec.ofInt k.bits a ||| BitVec.ofInt k.bits b).toNat))
  | .xor=>some (.int k (k.wrap (BitVec.ofInt k.bits a ^^^ BitVec.ofInt k.bits b).toNat))
  | .andNot=>some (.int k (k.wrap (BitVec.ofInt k.bits a &&& ~~~BitVec.ofInt k.bits b).toNat))
  | .add=>some (.int k (k.wrap (a+b)))
  | .sub=>some (.int k (k.wrap (a-b)))
  | .mul=>some (.int k (k.wrap (a*b)))
  | .quo=>if b=0 then none else some (.int k (k.wrap (a.tdiv b)))
  | .rem=>if b=0 then none else some (.int k (a.tmod b))
  | .eql=>some (.bool (a==b))
  | .neq=>some (.bool (a != b))
  | .lss=>some (.bool (decide (a<b)))
  | .leq=>some (.bool (decide (a≤b)))
  | .gtr=>some (.bool (decide (a > b)))
  | .geq=>some (.bool (decide (a ≥ b)))
  | _=>none) else none
 | .str a,.str b=>match op with
  | .add=>if ((a.size+b.size:Nat):Int) > 9223372036854775807 then none else some (.str (a++b))
  | .eql=>some (.bool (a.toList==b.toList))
  | .neq=>some (.bool (!(a.toList==b.toList)))
  | .lss=>some (.bool (Op.bytesLess a.toList b.toList))
  | .leq=>some (.bool (Op.bytesLess a.toList b.toList||a.toList==b.toList))
  | .gtr=>some (.bool (!(Op.bytesLess a.toList b.toList||a.toList==b.toList)))
  | .geq=>some (.bool (!Op.bytesLess a.toList b.toList))
  | _=>none
 | _,_=>none

def fillB:List BV→List (Nat×Nat×BV)→Option (List BV)
 | cs,[]=>some cs
 | cs,(off,n,v)::rest=>if v.cells.length=n∧off+n≤cs.length∧v.cells.all BV.one=true then fillB (cs.take off++v.cells++cs.drop (off+n)) rest else none

def asm(n:Option Nat)(cs:List BV):Option BV:=match n with
 | some _=>some (.agg cs)
 | none=>cs.head?

def natOf:BV→Option Nat
 | .int _ n=>if 0≤n then some n.toNat else none
 | _=>none

def bY(σ:Opd→BV)(d:Nat):Option Opd→Option Nat
 | none=>some d
 | some x=>natOf (σ x)

def BH.cells(H:BH)(sz:Nat):BV→Option (List BV)
 | .nils=>some []
 | .sle=>some []
 | .sl b o n=>match H.row b with
  | .arr _ cs=>if o+n*sz≤cs.length then some ((cs.drop o).take (n*sz)) else none
  | _=>none
 | _=>none

def aO6(kd:Nat):BV→BV→Option Bool
 | .int k a,.int k' b=>if kd=0∧k=k' then some (a==b) else none
 | .str a,.str b=>if kd=1 then some (a==b) else none
 | .bool a,.bool b=>if kd=2 then some (a==b) else none
 | _,_=>none
def bO:List BV→List BV→Option Bool
 | [],[]=>some true
 | .int k a::xs,.int k' b::ys=>if k=k' then(if a==b then bO xs ys else some false) else none
 | _,_=>none
def bK(kd:Nat):BV→BV→Option Bool
 | .agg xs,.agg ys=>if xs.length+3=kd∧ys.length+3=kd then bO xs ys else none
 | a,b=>aO6 kd a b
def pV(kd:Nat)(k:BV):Bool:=if kd<3 then true else match k with
 | .agg xs=>xs.length+3==kd
 | _=>false
def iQ(kd:Nat):List (BV×BV)→BV→Option (Option BV)
 | [],_=>some none
 | (k',v)::es,k=>match bK kd k k' with
  | some true=>some (some v)
  | some false=>iQ kd es k
  | none=>none
def fA(kd:Nat):List (BV×BV)→BV→BV→Option (List (BV×BV))
 | [],k,v=>some [(k,v)]
 | (k',v')::es,k,v=>match bK kd k k' with
  | some true=>some ((k,v)::es)
  | some false=>(fA kd es k v).map ((k',v')::·)
  | none=>none

def iV(xs ys:List BV):List (Nat×Nat)→Option Bool
 | []=>some true
 | (off,kd)::r=>match xs[off]?,ys[off]? with
  | some a,some b=>match aO6 kd a b with
   | some true=>iV xs ys r
   | some false=>some false
   | none=>none
  | _,_=>none

def qC:List BV→Option (List Int)
 | []=>some []
 | .int .u8 n::r=>(qC r).map (n::·)
 | _=>none
def strB(xs:List Int):ByteArray:=⟨(xs.map fun n=>UInt8.ofNat n.toNat).toArray⟩

def BH.make(aA nb:Nat)(H:BH)(s:BSt):Option BH:=match H.row nb with
 | .fresh=>if aA≤nb then some (H.set nb s) else none
 | _=>none

def dF:Option Nat→Nat→Bool
 | none,_=>true
 | some t,ty=>t==ty

def op1(aA nb:Nat)(ρ:Opd→BV)(H:BH):BOp→Option (BV×BH)
 | .mov x=>some (ρ x,H)
 | .pick c a b=>match ρ c with
  | .bool true=>some (ρ a,H)
  | .bool false=>some (ρ b,H)
  | _=>none
 | .new ty zero=>(H.make aA nb (.arr ty zero)).map fun K=>(.ptr nb 0,K)
 | .box ty x=>if (ρ x).cells.all BV.one=true then(H.make aA nb (.arr ty (ρ x).cells)).map fun K=>(.ptr nb 0,K) else none
 | .build zero parts=>match fillB zero (parts.map fun(o,n,x)=>(o,n,ρ x)) with
  | some cs=>some (.agg cs,H)
  | none=>none
 | .mk ty n zero parts=>match fillB zero (parts.map fun(o,n,x)=>(o,n,ρ x)) with
  | some cs=>(H.make aA nb (.arr ty cs)).map fun K=>(.sl nb 0 n,K)
  | none=>none
 | .load rt n a=>match ρ a with
  | .ptr b o=>match H.row b with
   | .arr ty cs=>if dF rt ty=true∧o+n.getD 1≤cs.length then(asm n ((cs.drop o).take (n.getD 1))).map (·,H) else none
   | _=>none
  | _=>none
 | .store rt n a v=>match ρ a with
  | .ptr b o=>match H.row b with
   | .arr ty cs=>if dF rt ty=true∧aA≤b∧(ρ v).cells.length=n∧o+n≤cs.length∧(ρ v).cells.all BV.one=true then
     some (.tup [],H.set b (.arr ty (cs.take o++(ρ v).cells++cs.drop (o+n)))) else none
   | _=>none
  | _=>none
 | .nilck x=>match ρ x with
  | .ptr b o=>some (.ptr b o,H)
  | .fn f cs=>some (.fn f cs,H)
  | _=>none
 | .bin op x y=>(bC op (ρ x) (ρ y)).map (·,H)
 | .beq neg x y=>match ρ x,ρ y with
  | .bool a,.bool b=>some (.bool (if neg then !(a==b) else a==b),H)
  | _,_=>none
 | .isnil neg x=>match ρ x with
  | .nils=>some (.bool (!neg),H)
  | .sl _ _ _=>some (.bool neg,H)
  | _=>none
 | .eqs neg fs x y=>match ρ x,ρ y with
  | .agg xs,.agg ys=>(iV xs ys fs).map fun b=>(.bool (if neg then !b else b),H)
  | _,_=>none
 | .not x=>match ρ x with
  | .bool b=>some (.bool (!b),H)
  | _=>none
 | .neg x=>match ρ x with
  | .int k n=>some (.int k (k.wrap (0-n)),H)
  | _=>none
 | .conv k x=>match ρ x with
  | .int _ n=>some (.int k (k.wrap n),H)
  | _=>none
 | .lea off x=>match ρ x with
  | .ptr b o=>some (.ptr b (o+off),H)
  | _=>none
 | .fld off n x=>match ρ x with
  | .agg cs=>if off+n.getD 1≤cs.length then(asm n ((cs.drop off).take (n.getD 1))).map (·,H) else none
  | _=>none
 | .idx sz x i=>match ρ x,ρ i with
  | .sl b o n,.int _ j=>if 0≤j∧j<n then some (.ptr b (o+j.toNat*sz),H) else none
  | _,_=>none
 | .idxs x i=>match ρ x,ρ i with
  | .str s,.int _ j=>if 0≤j then(s[j.toNat]?).map fun b=>(.int .u8 b.toNat,H) else none
  | _,_=>none
 | .slice sz x lo hi=>match ρ x with
  | .sl b o n=>match bY ρ 0 lo,bY ρ n hi with
   | some l,some h=>if sz≠0∧l≤h∧h≤n then(if l<n then some (.sl b (o+l*sz) (h-l),H) else some (.sle,H)) else none
   | _,_=>none
  | .nils=>match bY ρ 0 lo,bY ρ 0 hi with
   | some 0,some 0=>some (.nils,H)
   | _,_=>none
  | .sle=>match bY ρ 0 lo,bY ρ 0 hi with
   | some 0,some 0=>some (.sle,H)
   | _,_=>none
  | _=>none
 | .sslice x lo hi=>match ρ x with
  | .str s=>match bY ρ 0 lo,bY ρ s.size hi with
   | some l,some h=>if l≤h∧h≤s.size then some (.str (s.extract l h),H) else none
   | _,_=>none
  | _=>none
 | .mkfn f caps=>some (.fn f (caps.map ρ),H)
 | .mkmap=>(H.make aA nb (.mp [])).map fun K=>(.mp nb,K)
 | .mset kd m k v=>match ρ m with
  | .mp b=>match H.row b with
   | .mp es=>if aA≤b∧pV kd (ρ k)=true then(fA kd es (ρ k) (ρ v)).map fun es'=>(.tup [],H.set b (.mp es')) else none
   | _=>none
  | _=>none
 | .look kd ok zero m k=>match ρ m with
  | .mp b=>match H.row b with
   | .mp es=>if pV kd (ρ k)=true then(iQ kd es (ρ k)).map fun r=>(if ok then .tup [r.getD zero,.bool r.isSome] else r.getD zero,H) else none
   | _=>none
  | _=>none
 | .mksl ty bytes zero len cap=>match ρ len,ρ cap with
  | .int _ n,.int _ c=>if 0≤n∧n≤c∧(bytes:Int)*c≤140737488355328∧c≤140737488355328 then
    (H.make aA nb (.arr ty (List.flatten (List.replicate n.toNat zero)))).map fun K=>(.sl nb 0 n.toNat,K) else none
  | _,_=>none
 | .ext i x=>match ρ x with
  | .tup vs=>vs[i]?.map (·,H)
  | _=>none
 | .len kd x=>match kd,ρ x with
  | 0,.str s=>some (.int .i64 s.size,H)
  | 1,.nils=>some (.int .i64 0,H)
  | 1,.sle=>some (.int .i64 0,H)
  | 1,.sl _ _ n=>some (.int .i64 n,H)
  | 2,.nilm=>some (.int .i64 0,H)
  | 2,.mp b=>match H.row b with
   | .mp es=>some (.int .i64 es.length,H)
   | _=>none
  | _,_=>none
 | .app ty sz bytes x y=>match ρ x,H.cells sz (ρ y) with
  | .nils,some []=>if 0<sz then some (.nils,H) else none
  | .nils,some new=>if new.all BV.one=true∧0<sz∧new.length*bytes≤35184372088832*sz∧new.length≤35184372088832 then(H.make aA nb (.arr ty new)).map fun K=>(.sl nb 0 (new.length / sz),K) else none
  | .sl b o n,some new=>match H.row b with
   | .arr ty' cs=>if aA≤b∧b≠nb∧ty'=ty∧o=0∧n*sz=cs.length∧new.all BV.one=true∧0<sz∧(n*sz+new.length)*bytes≤35184372088832*sz∧n*sz+new.length≤35184372088832 then
     (H.make aA nb (.arr ty (cs++new))).map fun K=>(.sl nb 0 (n+new.length / sz),K.set b .dead) else none
   | _=>none
  | _,_=>none
 | .b2s ty x=>match ρ x with
  | .nils=>some (.str ByteArray.empty,H)
  | .sl b o n=>match H.row b with
   | .arr t cs=>if t=ty∧o+n≤cs.length then(qC ((cs.drop o).take n)).map fun xs=>(.str (strB xs),H) else none
   | _=>none
  | _=>none
 | .imax x y=>match ρ x,ρ y with
  | .int k a,.int k' b=>if k=k' then some (.int k (if b > a then b else a),H) else none
  | _,_=>none
 | .imin x y=>match ρ x,ρ y with
  | .int k a,.int k' b=>if k=k' then some (.int k (if b<a then b else a),H) else none
  | _,_=>none
 | .i2s x=>match ρ x with
  | .int _ n=>some (.str (Utf8.encode n),H)
  | _=>none
 | .idxa n sz x i=>match ρ x,ρ i with
  | .ptr b o,.int _ j=>if 0≤j∧j<n then some (.ptr b (o+j.toNat*sz),H) else none
  | _,_=>none
 | .call _ _=>none
 | .stuck=>none

end Go.B
end

section
namespace Go.B
set_option linter.unusedVariables false
set_option linter.unusedSimpArgs false

def aG1:Value→BV
 | .bool b=>.bool b
 | .int k n=>.int k n
 | .string s=>.str s
 | .pointer none=>.nilp
 | .slice none 0 0=>.nils
 | .map none=>.nilm
 | .func (.func f) a b=>if a.size=0∧b.size=0 then .fn f [] else .any
 | .nilFunc=>.nilf
 | .nilIface=>.nili
 | .iface t v=>.iface t (aG1 v)
 | _=>.any
def toB:Value→BV
 | .agg cs=>.agg (cs.toList.map aG1)
 | .tuple vs=>.tup (vs.toList.map aG1)
 | v=>aG1 v

def opd:Operand→Option Opd
 | .tmp t=>some (.t t)
 | .const v=>some (.c (toB v))
 | .func f=>some (.c (.fn f []))
 | .global _=>none

def aH8:Option Operand→Option (Option Opd)
 | none=>some none
 | some l=>(opd l).map some

def guardOf(ops:Array Oper):Option (Nat×Bool)→Option (Option (Nat×Bool))
 | none=>some none
 | some (j,b)=>do
  let oj ←ops[j]?
  let d ←oj.dst
  some (some (d,b))

def qO:Operand→Bool
 | .const (.slice none 0 0)=>true
 | _=>false

section
variable (u:Nat→Option TypeDesc) (inf:Nat→Option TypeInfo) (sq:Nat→Bool)

def size?(t:Nat):Option Nat:=(inf t).map (·.size)
def agg?(t:Nat):Option Bool:=(u t).map fun | .struct _=>true | .array _ _=>true|_=>false
def shapeOf(t:Nat):Option (Option Nat):=do
 let a ←agg? u t
 let n ←size? inf t
 if a then some (some n) else if n=1 then some none else none
def zeroCells?(t:Nat):Option (List BV):=match inf t with
 | none=>none
 | some i=>match i.zero with
  | none=>none
  | some z=>some (z.cells.toList.map aG1)

def partsOf(place:Nat→Option (Nat×Nat))(ps:List (Nat×Operand)):Option (List (Nat×Nat×Opd)) :=
 ps.mapM fun(i,x)=>do
  let (o,n) ←place i
  some (o,n,←opd x)

def xH(t:Nat):Option Nat:=match u t with
 | some (.int _)=>some 0
 | some .string=>some 1
 | some .bool=>some 2
 | _=>none

def eC:List Field→Option (List (Nat×Nat))
 | []=>some []
 | f::fs=>match xH u f.type with
  | some kd=>if f.name = "_" then none else(eC fs).map ((f.offset,kd)::·)
  | none=>none

def iU:Nat→List Field→Bool
 | _,[]=>true
 | i,f::fs=>(match u f.type with|some (.int _)=>true|_=>false)&&f.name != "_"&&f.offset==i&&iU (i+1) fs
def fK(t:Nat):Option Nat:=match u t with
 | some (.struct fs)=>if sq t=true∧iU u 0 fs.toList=true then some (fs.size+3) else none
 | some (.array n e)=>match u e,inf e with
  | some (.int _),some i=>if i.size=1 then some (n+3) else none
  | _,_=>none
 | _=>xH u t

def isMM:Builtin→Option Bool
 | .max=>some true
 | .min=>some false
 | _=>none
def vT(c:Call):Option BOp:=do
 let args ←c.args.toList.mapM opd
 match c.callee with
 | .value f=>some (.call (←opd f) args)
 | .builtin .len=>match c.argTypes[0]?,args with
  | some t,[x]=>match u t with
   | some .string=>some (.len 0 x)
   | some (.slice _)=>some (.len 1 x)
   | some (.map _ _)=>some (.len 2 x)
   | _=>none
  | _,_=>none
 | .builtin .append=>match c.argTypes[0]?,c.argTypes[1]?,args with
  | some t,some t2,[x,y]=>match u t with
   | some (.slice e)=>do
    let i ←inf e
    let z ←i.zero
    if t=t2∧z.cells.size=i.size∧c.argTypes.size=2 then some (.app e i.size i.bytes x y) else none
   | _=>none
  | _,_,_=>none
 | .builtin b=>match isMM b,args with
  | some true,[x,y]=>some (.imax x y)
  | some false,[x,y]=>some (.imin x y)
  | _,_=>none
 | _=>none

def aT:Op→Option BOp
 | .move x | .assign x=>do some (.mov (←opd x))
 | .pick c a b=>do some (.pick (←opd c) (←opd a) (←opd b))
 | .alloc t=>do some (.new t (←zeroCells? inf t))
 | .box t x=>do some (.box t (←opd x))
 | .build t ps=>do
  match u t with
  | some (.struct fs)=>do
   let z ←zeroCells? inf t
   let qs ←partsOf (fun i=>do let f ←fs[i]?;some (f.offset,←size? inf f.type)) ps.toList
   let _ ←fs.toList.mapM (fun f=>(inf f.type).map fun i=>(f.offset,i.size))
   some (.build z qs)
  | some (.array _ e)=>do
   let n ←size? inf e
   some (.build (←zeroCells? inf t) (←partsOf (fun i=>some (i*n,n)) ps.toList))
  | _=>none
 | .buildSlice t len ps=>do
  match u t with
  | some (.slice e)=>do
   let n ←size? inf e
   let z ←zeroCells? inf e
   if len*n≤16777216∧len≤16777216∧z.length=n then some (.mk e len (List.flatten (List.replicate len z)) (←partsOf (fun i=>some (i*n,n)) ps.toList)) else none
  | _=>none
 | .load t a=>do some (.load none (←shapeOf u inf t) (←opd a))
 | .store t a x=>do some (.store none (←size? inf t) (←opd a) (←opd x))
 | .nilCheck x=>do some (.nilck (←opd x))
 | .binOp op t x y _=>do
  match u t,op with
  | some (.int _),_|some .string,_=>some (.bin op (←opd x) (←opd y))
  | some .bool,.eql=>some (.beq false (←opd x) (←opd y))
  | some .bool,.neq=>some (.beq true (←opd x) (←opd y))
  | some (.struct fs),.eql=>if sq t then some (.eqs false (←eC u fs.toList) (←opd x) (←opd y)) else none
  | some (.struct fs),.neq=>if sq t then some (.eqs true (←eC u fs.toList) (←opd x) (←opd y)) else none
  | some (.slice _),.eql=>if qO y then some (.isnil false (←opd x)) else none
  | some (.slice _),.neq=>if qO y then some (.isnil true (←opd x)) else none
  | _,_=>none
 | .unOp .not _ x=>do some (.not (←opd x))
 | .unOp .neg _ x=>do some (.neg (←opd x))
 | .convert s d x=>do
  match u s,u d with
  | some (.int _),some (.int k)=>some (.conv k (←opd x))
  | some (.slice e),some .string=>match u e with
   | some (.int .u8)=>some (.b2s e (←opd x))
   | _=>none
  | some (.int _),some .string=>some (.i2s (←opd x))
  | _,_=>none
 | .fieldAddr t x f=>do
  match u t with
  | some (.struct fs)=>do
   let f ←fs[f]?
   if (←size? inf f.type)=0 then none else some (.lea f.offset (←opd x))
  | _=>none
 | .field t x f=>do
  match u t with
  | some (.struct fs)=>do
   let f ←fs[f]?
   some (.fld f.offset (←shapeOf u inf f.type) (←opd x))
  | _=>none
 | .indexAddr t x i=>do
  match u t with
  | some (.slice e)=>some (.idx (←size? inf e) (←opd x) (←opd i))
  | some (.array n e)=>some (.idxa n (←size? inf e) (←opd x) (←opd i))
  | _=>none
 | .index t x i=>do
  match u t with
  | some .string=>some (.idxs (←opd x) (←opd i))
  | _=>none
 | .slice t x lo hi none=>do
  let l ←aH8 lo
  let h ←aH8 hi
  match u t with
  | some (.slice e)=>some (.slice (←size? inf e) (←opd x) l h)
  | some .string=>some (.sslice (←opd x) l h)
  | _=>none
 | .makeFunc (.func f) first captured=>do
  if first.size=0 then some (.mkfn f (←captured.toList.mapM opd)) else none
 | .makeMap t none=>do
  match u t with
  | some (.map _ _)=>some .mkmap
  | _=>none
 | .mapUpdate t m k x | .insert t m k x=>do
  match u t with
  | some (.map kt _)=>some (.mset (←fK u inf sq kt) (←opd m) (←opd k) (←opd x))
  | _=>none
 | .lookup t m k ok=>do
  match u t with
  | some (.map kt e)=>match (←inf e).zero with
   | some z=>some (.look (←fK u inf sq kt) ok (toB z) (←opd m) (←opd k))
   | none=>none
  | _=>none
 | .makeSlice t l c=>do
  match u t with
  | some (.slice e)=>do
   let i ←inf e
   let z ←zeroCells? inf e
   if z.length=i.size then some (.mksl e i.bytes z (←opd l) (←opd c)) else none
  | _=>none
 | .extract x i=>do some (.ext i (←opd x))
 | .call c=>vT u inf c
 | _=>none

def lS(op:Op):BOp:=(aT u inf sq op).getD .stuck

def vS(N:Nat)(ops:Array Oper)(o:Oper):Option BOper:=do
 let op:=lS u inf sq o.op
 let g ←guardOf ops o.guard
 match o.dst with
 | some d=>if d<N then some { dst:=o.dst,op:=op,guard:=g,keep:=[] } else none
 | none=>some { dst:=none,op:=op,guard:=g,keep:=[] }

def BOp.cls:BOp→Nat
 | .load _ _ _ | .look _ _ _ _ _ | .len 2 _ | .b2s _ _=>1
 | .new _ _ | .box _ _ | .mk _ _ _ _ | .mkmap | .mksl _ _ _ _ _=>2
 | .store _ _ _ _ | .mset _ _ _ _ | .app _ _ _ _ _=>3
 | .call _ _=>4
 | _=>0

def bit(m j:Nat):Bool:=m.testBit j

def pickOrder(bs:List BOper)(before:List Nat):(fuel:Nat)→(done:Nat)→List Nat→List Nat
 | 0,_,acc=>acc.reverse
 | fuel+1,done,acc =>
  let n:=bs.length
  let ready:=(List.range n).filter fun i=>!bit done i&&((before.getD i 0) &&& done)==before.getD i 0
  let cl:=fun i=>((bs[i]?).map (·.op.cls)).getD 4
  match ready.find? (fun i=>cl i≤1) with
  | some i=>pickOrder bs before fuel (done ||| 2^i) (i::acc)
  | none=>match ready.find? (fun i=>cl i ≥ 3) with
   | some i=>pickOrder bs before fuel (done ||| 2^i) (i::acc)
   | none=>match ready with
    | i::_=>pickOrder bs before fuel (done ||| 2^i) (i::acc)
    | []=>acc.reverse

def BOp.reads:BOp→List Opd
 | .mov x | .box _ x | .load _ _ x | .nilck x | .isnil _ x | .not x | .neg x | .conv _ x | .lea _ x | .fld _ _ x | .ext _ x | .len _ x | .b2s _ x | .i2s x=>[x]
 | .pick a b c | .mset _ a b c=>[a,b,c]
 | .new _ _ | .mkmap | .stuck=>[]
 | .build _ ps | .mk _ _ _ ps=>ps.map (·.2.2)
 | .store _ _ a b | .bin _ a b | .imax a b | .imin a b | .beq _ a b | .eqs _ _ a b | .idx _ a b | .idxa _ _ a b | .idxs a b | .look _ _ _ a b | .mksl _ _ _ a b | .app _ _ _ a b=>[a,b]
 | .slice _ x lo hi | .sslice x lo hi=>x::lo.toList++hi.toList
 | .mkfn _ cs=>cs
 | .call f as=>f::as
def aS7(l:List Opd):List Nat:=l.filterMap fun | .t n=>some n|_=>none
def BOper.names(o:BOper):List Nat:=o.dst.toList++aS7 o.op.reads++(match o.guard with|some (t,_)=>[t]|none=>[])

def BOp.rt:BOp→Option Nat
 | .load rt _ _=>rt
 | .store rt _ _ _=>rt
 | .app ty _ _ _ _=>some ty
 | .b2s ty _=>some ty
 | .look _ _ _ _ _ | .len 2 _ | .mset _ _ _ _=>some mapTy
 | _=>none
def apart:Option Nat→Option Nat→Bool
 | some a,some b=>a != b
 | _,_=>false
def kept(x:Option Nat)(tys:List Nat):Bool:=match x with
 | some a=>tys.contains a
 | none=>false
def clsOk(x y:BOper):Bool:=match x.op.cls,y.op.cls with
 | 0,_=>true
 | _,0=>true
 | 1,1=>true
 | 1,2=>true
 | 1,3=>apart x.op.rt y.op.rt
 | 1,4=>kept x.op.rt y.keep
 | 2,2=>true
 | 3,2=>true
 | 4,2=>true
 | _,_=>false
def wA(x y:BOper):Bool :=
 !(x.dst.toList.any fun t=>y.names.contains t)&&!(y.dst.toList.any fun t=>x.names.contains t)&&clsOk x y

def mW(o:Oper):List Nat:=(o.after.toList.filter (Region.binds .any)).map (·.on)
def aL8(deps:List (List Nat))(R:List Nat):Bool :=
 (List.range deps.length).all fun i=>(List.range deps.length).all fun p=>!bit (R.getD i 0) p||(deps.getD i []).contains p||(deps.getD i []).any fun m=>bit (R.getD m 0) p
def aS6(deps:List (List Nat)):List Nat→List Nat→Bool
 | _,[]=>true
 | done,i::r=>(deps.getD i []).all (done.contains ·)&&aS6 deps (i::done) r
def aC4(bs:List BOper)(R:List Nat):List Nat→Bool
 | []=>true
 | i::r=>(r.all fun j=>bit (R.getD j 0) i||(match bs[i]?,bs[j]? with|some x,some y=>wA x y|_,_=>false))&&aC4 bs R r
def permOk(n:Nat)(ord:List Nat):Bool:=decide (ord.Nodup)&&decide (ord.length=n)&&ord.all (fun i=>decide (i<n))&&(List.range n).all (fun i=>ord.contains i)

def aT4(ops:List Oper):Nat→Operand→Nat→Nat
 | 0,_,d=>d
 | fuel+1,.tmp t,d=>match ops.find? (fun o=>o.dst==some t) with
  | some o=>match o.op with
   | .fieldAddr s x _=>aT4 ops fuel x s
   | .indexAddr s _ _=>match u s with
    | some (.slice e)=>e
    | _=>d
   | .nilCheck x | .move x | .assign x=>aT4 ops fuel x d
   | _=>d
  | none=>d
 | _+1,_,d=>d
def aF7(ops:List Oper)(o:Oper)(b:BOper):BOper:=match o.op,b.op with
 | .load t a,.load _ n x=>{ b with op:=.load (some (aT4 u ops 20 a t)) n x }
 | .store t a _,.store _ n x v=>{ b with op:=.store (some (aT4 u ops 20 a t)) n x v }
 | _,_=>b

def qJ(ops:List Oper)(bs:List BOper)(before:List Nat):List BOper :=
 let n:=bs.length
 let loose (i j:Nat):Bool:=j != i&&!(bit (before.getD i 0) j||bit (before.getD j 0) i)
 let cl (i:Nat):Nat:=((bs[i]?).map (·.op.cls)).getD 0
 let typed:=(bs.zip ops).zipIdx.map fun((b,o),i) =>
  if (cl i==1&&(List.range n).any fun j=>loose i j&&cl j ≥ 3)||(cl i==3&&(List.range n).any fun j=>loose i j&&cl j==1) then aF7 u ops o b else b
 typed.zipIdx.map fun(b,i) =>
  if cl i==4 then { b with keep:=((List.range n).filterMap fun j=>if loose i j&&cl j==1 then(typed[j]?).bind (·.op.rt) else none).eraseDups } else b

def ordered(bs:List BOper):List Nat→Option (List BOper)
 | []=>some []
 | i::r=>match bs[i]? with
  | some o=>(ordered bs r).map (o::·)
  | none=>none

def gU(N:Nat)(ops:Array Oper):List Oper→Option (List BOper)
 | []=>some []
 | o::r=>match vS u inf sq N ops o with
  | some b=>(gU N ops r).map (b::·)
  | none=>none

def aE7(N:Nat)(ops:Array Oper):Option (List BOper):=do
 let bs ←gU u inf sq N ops ops.toList
 let R:=(Region.before ops).toList
 let deps:=ops.toList.map mW
 let ms:=qJ u ops.toList bs R
 let ord:=pickOrder ms R ms.length 0 []
 if permOk ms.length ord&&aL8 deps R&&aS6 deps [] ord&&aC4 ms R ord then ordered ms ord else none

def zX(N:Nat)(ops:Array Oper)(draw:Bool):Option (List BOper) :=
 if draw then aE7 u inf sq N ops else gU u inf sq N ops ops.toList

def comp(N:Nat):Code→Option BCode
 | .skip=>some .skip
 | .region _ ops draw=>do some (.region (←zX u inf sq N ops draw))
 | .seq a b=>do some (.seq (←comp N a) (←comp N b))
 | .cond c a b=>do some (.cond (←opd c) (←comp N a) (←comp N b))
 | .block id b=>do some (.block id (←comp N b))
 | .loop b=>do some (.loop (←comp N b))
 | .exit id=>some (.exit id)
 | .ret=>some .ret
 | _=>none

def aQ8(fn:Func):Option aM:=do
 let c ←fn.body
 let b ←comp u inf sq fn.ntmps c
 let rs ←fn.results.toList.mapM fun
  | .tmp t=>some (BRes.tmp t)
  | .cell a t=>do some (BRes.cell a (←shapeOf u inf t))
 some { results:=rs,body:=b }
end
end Go.B
end

section
namespace Go.B
set_option linter.unusedVariables false
set_option linter.unusedSimpArgs false

abbrev bR:=Nat→List BV→BH→BV→BH→Prop

structure Ctx where
 aA:Nat
 fn:Nat→Option aM
 ext:bR

def eX(args:List BV):Env:=fun t=>args.getD t (.tup [])

def lN(e:Env):Option (Nat×Bool)→Option Bool
 | none=>some true
 | some (t,b)=>match e t with
  | .bool c=>some (c==b)
  | .tup []=>some false
  | _=>none

def BExit.outOf(id:Nat):BExit→BExit
 | .exit i=>if i=id then .normal else .exit i
 | x=>x

inductive ExO(aA:Nat)(C:bR):List BOper→Env→BH→Env→BH→Prop where
 | nil {e:Env} {H:BH}:ExO aA C [] e H e H
 | skip {o:BOper} {r:List BOper} {e e':Env} {H H':BH}:lN e o.guard=some false→ExO aA C r (e.puto o.dst (.tup [])) H e' H'→ExO aA C (o::r) e H e' H'
 | op {o:BOper} {r:List BOper} {e e':Env} {H H1 H':BH} {nb:Nat} {v:BV}:lN e o.guard=some true→op1 aA nb (·.ev e) H o.op=some (v,H1) →
   ExO aA C r (e.puto o.dst v) H1 e' H'→ExO aA C (o::r) e H e' H'
 | call {o:BOper} {r:List BOper} {e e':Env} {H H1 H':BH} {f:Opd} {xs:List Opd} {g:Nat} {caps:List BV} {v:BV}:lN e o.guard=some true→o.op=.call f xs →
   f.ev e=.fn g caps→C g (xs.map (·.ev e)++caps) H v H1→H.KeepsTys o.keep H1→ExO aA C r (e.puto o.dst v) H1 e' H'→ExO aA C (o::r) e H e' H'

inductive ExC(aA:Nat)(C:bR):BCode→Env→BH→BExit→Env→BH→Prop where
 | skip {e:Env} {H:BH}:ExC aA C .skip e H .normal e H
 | region {ops:List BOper} {e e':Env} {H H':BH}:ExO aA C ops e H e' H'→ExC aA C (.region ops) e H .normal e' H'
 | seq {a b:BCode} {x:BExit} {e e1 e2:Env} {H H1 H2:BH}:ExC aA C a e H .normal e1 H1→ExC aA C b e1 H1 x e2 H2→ExC aA C (.seq a b) e H x e2 H2
 | seqx {a b:BCode} {x:BExit} {e e1:Env} {H H1:BH}:ExC aA C a e H x e1 H1→x≠.normal→ExC aA C (.seq a b) e H x e1 H1
 | thn {c:Opd} {a b:BCode} {x:BExit} {e e1:Env} {H H1:BH}:c.ev e=.bool true→ExC aA C a e H x e1 H1→ExC aA C (.cond c a b) e H x e1 H1
 | els {c:Opd} {a b:BCode} {x:BExit} {e e1:Env} {H H1:BH}:c.ev e=.bool false→ExC aA C b e H x e1 H1→ExC aA C (.cond c a b) e H x e1 H1
 | block {id:Nat} {b:BCode} {x:BExit} {e e1:Env} {H H1:BH}:ExC aA C b e H x e1 H1→ExC aA C (.block id b) e H (x.outOf id) e1 H1
 | loopn {b:BCode} {x:BExit} {e e1 e2:Env} {H H1 H2:BH}:ExC aA C b e H .normal e1 H1→ExC aA C (.loop b) e1 H1 x e2 H2→ExC aA C (.loop b) e H x e2 H2
 | loopx {b:BCode} {x:BExit} {e e1:Env} {H H1:BH}:ExC aA C b e H x e1 H1→x≠.normal→ExC aA C (.loop b) e H x e1 H1
 | exit {id:Nat} {e:Env} {H:BH}:ExC aA C (.exit id) e H (.exit id) e H
 | ret {e:Env} {H:BH}:ExC aA C .ret e H .ret e H

def BRes.val(e:Env)(H:BH):BRes→Option BV
 | .tmp t=>some (e t)
 | .cell t n=>match e t with
  | .ptr b o=>match H.row b with
   | .arr _ cs=>if o+n.getD 1≤cs.length then asm n ((cs.drop o).take (n.getD 1)) else none
   | _=>none
  | _=>none
def cX(e:Env)(H:BH):List BRes→Option (List BV)
 | []=>some []
 | r::rs=>match r.val e H with
  | some v=>(cX e H rs).map (v::·)
  | none=>none
def oneOf:List BV→BV
 | [v]=>v
 | vs=>.tup vs
def cY(rs:List BRes)(e:Env)(H:BH):Option BV:=(cX e H rs).map oneOf

def CallN(Γ:Ctx):Nat→bR
 | 0=>fun _ _ _ _ _=>False
 | n+1=>fun f args H v H'=>(∃fn,Γ.fn f=some fn∧∃x e',ExC Γ.aA (CallN Γ n) fn.body (eX args) H x e' H'∧(x=.normal∨x=.ret)∧cY fn.results e' H'=some v) ∨
   Γ.ext f args H v H'
def Runs(Γ:Ctx):bR:=fun f args H v H'=>∃n,CallN Γ n f args H v H'

theorem ExO.mono{aA:Nat}{C D:bR}(h:∀f args H v H',C f args H v H'→D f args H v H'){l:List BOper}{e e':Env}{H H':BH}(x:ExO aA C l e H e' H'):ExO aA D l e H e' H':=by
 induction x with
 | nil=>exact .nil
 | skip hw _ ih=>exact .skip hw ih
 | op hw ho _ ih=>exact .op hw ho ih
 | call hw ho hf hc hk _ ih=>exact .call hw ho hf (h _ _ _ _ _ hc) hk ih
theorem ExC.mono{aA:Nat}{C D:bR}(h:∀f args H v H',C f args H v H'→D f args H v H'){c:BCode}{e e':Env}{H H':BH}{x:BExit}(k:ExC aA C c e H x e' H'):ExC aA D c e H x e' H':=by
 induction k with
 | skip=>exact .skip
 | region hr=>exact .region (hr.mono h)
 | seq _ _ ih1 ih2=>exact .seq ih1 ih2
 | seqx _ hx ih=>exact .seqx ih hx
 | thn hc _ ih=>exact .thn hc ih
 | els hc _ ih=>exact .els hc ih
 | block _ ih=>exact .block ih
 | loopn _ _ ih1 ih2=>exact .loopn ih1 ih2
 | loopx _ hx ih=>exact .loopx ih hx
 | exit=>exact .exit
 | ret=>exact .ret

theorem CallN.succ{Γ:Ctx}:∀(n:Nat) (f:Nat) (args:List BV) (H:BH) (v:BV) (H':BH),CallN Γ n f args H v H'→CallN Γ (n+1) f args H v H'
 | 0,_,_,_,_,_,h=>h.elim
 | n+1,f,args,H,v,H',h=>by
  rcases h with⟨fn,hf,x,e',hx,hr⟩|h
  ·exact .inl ⟨fn,hf,x,e',hx.mono (CallN.succ n),hr⟩
  ·exact .inr h
theorem CallN.le{Γ:Ctx}{n m:Nat}(h:n≤m)(f:Nat)(args:List BV)(H:BH)(v:BV)(H':BH)(c:CallN Γ n f args H v H'):CallN Γ m f args H v H':=by
 induction h with
 | refl=>exact c
 | step _ ih=>exact CallN.succ _ _ _ _ _ _ ih

theorem ExO.at{Γ:Ctx}{aA:Nat}{l:List BOper}{e e':Env}{H H':BH}(x:ExO aA (Runs Γ) l e H e' H'):∃n,ExO aA (CallN Γ n) l e H e' H':=by
 induction x with
 | nil=>exact⟨0,.nil⟩
 | skip hw _ ih=>obtain⟨n,h⟩:=ih;exact⟨n,.skip hw h⟩
 | op hw ho _ ih=>obtain⟨n,h⟩:=ih;exact⟨n,.op hw ho h⟩
 | call hw ho hf hc hk _ ih =>
  obtain⟨n,h⟩:=ih
  obtain⟨m,c⟩:=hc
  exact⟨max n m,.call hw ho hf (CallN.le (Nat.le_max_right n m) _ _ _ _ _ c) hk (h.mono (CallN.le (Nat.le_max_left n m)))⟩
theorem ExC.at{Γ:Ctx}{aA:Nat}{c:BCode}{e e':Env}{H H':BH}{x:BExit}(k:ExC aA (Runs Γ) c e H x e' H'):∃n,ExC aA (CallN Γ n) c e H x e' H':=by
 induction k with
 | skip=>exact⟨0,.skip⟩
 | region hr=>obtain⟨n,h⟩:=hr.at;exact⟨n,.region h⟩
 | seq _ _ ih1 ih2 =>
  obtain⟨n,h⟩:=ih1;obtain⟨m,k⟩:=ih2
  exact⟨max n m,.seq (h.mono (CallN.le (Nat.le_max_left n m))) (k.mono (CallN.le (Nat.le_max_right n m)))⟩
 | seqx _ hx ih=>obtain⟨n,h⟩:=ih;exact⟨n,.seqx h hx⟩
 | thn hc _ ih=>obtain⟨n,h⟩:=ih;exact⟨n,.thn hc h⟩
 | els hc _ ih=>obtain⟨n,h⟩:=ih;exact⟨n,.els hc h⟩
 | block _ ih=>obtain⟨n,h⟩:=ih;exact⟨n,.block h⟩
 | loopn _ _ ih1 ih2 =>
  obtain⟨n,h⟩:=ih1;obtain⟨m,k⟩:=ih2
  exact⟨max n m,.loopn (h.mono (CallN.le (Nat.le_max_left n m))) (k.mono (CallN.le (Nat.le_max_right n m)))⟩
 | loopx _ hx ih=>obtain⟨n,h⟩:=ih;exact⟨n,.loopx h hx⟩
 | exit=>exact⟨0,.exit⟩
 | ret=>exact⟨0,.ret⟩

/-! ### what has to be shown -/
def BOp.makes:BOp→Bool
  | .new _ _ | .box _ _ | .mk _ _ _ _ | .mkmap | .mksl _ _ _ _ _ | .app _ _ _ _ _=>true
  | _=>false

def after(r:Option (BV×BH))(dst:Option Nat)(K:Env→BH→Prop)(e:Env):Prop:=match r with
 | some (v,H1)=>K (e.puto dst v) H1
 | none=>False

def aX(aA:Nat)(C:bR)(o:BOper)(K:Env→BH→Prop)(e:Env)(H:BH):Prop:=match o.op with
 | .call f xs=>match f.ev e with
  | .fn g caps=>∃v H1,C g (xs.map (·.ev e)++caps) H v H1∧H.KeepsTys o.keep H1∧K (e.puto o.dst v) H1
  | _=>False
 | op=>if op.makes then ∀nb,aA≤nb→H.row nb=.fresh→after (op1 aA nb (·.ev e) H op) o.dst K e else after (op1 aA 0 (·.ev e) H op) o.dst K e

def wpO(aA:Nat)(C:bR):List BOper→(Env→BH→Prop)→Env→BH→Prop
 | [],Q,e,H=>Q e H
 | o::r,Q,e,H=>match lN e o.guard with
  | some true=>aX aA C o (wpO aA C r Q) e H
  | some false=>wpO aA C r Q (e.puto o.dst (.tup [])) H
  | none=>False

theorem aA3{r:Option (BV×BH)}{dst:Option Nat}{K:Env→BH→Prop}{e:Env}(h:after r dst K e):∃v H1,r=some (v,H1)∧K (e.puto dst v) H1:=by
 cases r with
 | none=>exact h.elim
 | some p=>exact⟨p.1,p.2,rfl,h⟩

theorem aM5{aA:Nat}{C:bR}{o:BOper}{K:Env→BH→Prop}{e:Env}{H:BH}(h:aX aA C o K e H):
  (∃nb v H1,op1 aA nb (·.ev e) H o.op=some (v,H1)∧K (e.puto o.dst v) H1) ∨
  (∃f xs g caps v H1,o.op=.call f xs∧f.ev e=.fn g caps∧C g (xs.map (·.ev e)++caps) H v H1∧H.KeepsTys o.keep H1∧K (e.puto o.dst v) H1):=by
 unfold aX at h
 split at h
 ·rename_i f xs ho
  split at h
  ·rename_i g caps hf
   obtain⟨v,H1,hc,hk,hK⟩:=h
   exact .inr ⟨f,xs,g,caps,v,H1,ho,hf,hc,hk,hK⟩
  ·exact h.elim
 ·split at h
  ·obtain⟨nb,hb,hn⟩:=H.exists_fresh aA
   obtain⟨v,H1,ho,hK⟩:=aA3 (h nb hb hn)
   exact .inl ⟨nb,v,H1,ho,hK⟩
  ·obtain⟨v,H1,ho,hK⟩:=aA3 h
   exact .inl ⟨0,v,H1,ho,hK⟩

theorem vG{aA:Nat}{C:bR}{Q:Env→BH→Prop}:∀{l:List BOper} {e:Env} {H:BH},wpO aA C l Q e H→∃e' H',ExO aA C l e H e' H'∧Q e' H'
 | [],e,H,h=>⟨e,H,.nil,h⟩
 | o::r,e,H,h=>by
  unfold wpO at h
  split at h
  ·rename_i hw
   rcases aM5 h with⟨nb,v,H1,ho,hK⟩|⟨f,xs,g,caps,v,H1,ho,hf,hc,hk,hK⟩
   ·obtain⟨e',H',hx,hQ⟩:=vG hK
    exact⟨e',H',.op hw ho hx,hQ⟩
   ·obtain⟨e',H',hx,hQ⟩:=vG hK
    exact⟨e',H',.call hw ho hf hc hk hx,hQ⟩
  ·rename_i hw
   obtain⟨e',H',hx,hQ⟩:=vG h
   exact⟨e',H',.skip hw hx,hQ⟩
  ·exact h.elim

abbrev Post:=BExit→Env→BH→Prop
def Post.then(K:Env→BH→Prop)(Q:Post):Post
 | .normal,e,H=>K e H
 | x,e,H=>Q x e H
def Post.inBlock(id:Nat)(Q:Post):Post:=fun x e H=>Q (x.outOf id) e H

def wpC(aA:Nat)(C:bR):BCode→Post→Env→BH→Prop
 | .skip,Q,e,H=>Q .normal e H
 | .region ops,Q,e,H=>wpO aA C ops (Q .normal) e H
 | .seq a b,Q,e,H=>wpC aA C a (Post.then (wpC aA C b Q) Q) e H
 | .cond c a b,Q,e,H=>match c.ev e with
  | .bool true=>wpC aA C a Q e H
  | .bool false=>wpC aA C b Q e H
  | _=>False
 | .block id b,Q,e,H=>wpC aA C b (Post.inBlock id Q) e H
 | .loop b,Q,e,H=>∃x e' H',ExC aA C (.loop b) e H x e' H'∧Q x e' H'
 | .exit id,Q,e,H=>Q (.exit id) e H
 | .ret,Q,e,H=>Q .ret e H

theorem fF{aA:Nat}{C:bR}:∀{c:BCode} {Q:Post} {e:Env} {H:BH},wpC aA C c Q e H→∃x e' H',ExC aA C c e H x e' H'∧Q x e' H'
 | .skip,Q,e,H,h=>⟨_,_,_,.skip,h⟩
 | .region ops,Q,e,H,h=>let ⟨e',H',hx,hQ⟩:=vG h;⟨_,_,_,.region hx,hQ⟩
 | .seq a b,Q,e,H,h=>by
  obtain⟨x,e1,H1,hx,hQ⟩:=fF (c:=a) h
  cases x with
  | normal =>
   obtain⟨x,e2,H2,hy,hQ⟩:=fF (c:=b) hQ
   exact⟨x,e2,H2,.seq hx hy,hQ⟩
  | exit i=>exact⟨_,e1,H1,.seqx hx (by simp),hQ⟩
  | ret=>exact⟨_,e1,H1,.seqx hx (by simp),hQ⟩
 | .cond c a b,Q,e,H,h=>by
  unfold wpC at h
  split at h
  ·rename_i hc
   obtain⟨x,e1,H1,hx,hQ⟩:=fF (c:=a) h
   exact⟨x,e1,H1,.thn hc hx,hQ⟩
  ·rename_i hc
   obtain⟨x,e1,H1,hx,hQ⟩:=fF (c:=b) h
   exact⟨x,e1,H1,.els hc hx,hQ⟩
  ·exact h.elim
 | .block id b,Q,e,H,h=>by
  obtain⟨x,e1,H1,hx,hQ⟩:=fF (c:=b) h
  exact⟨_,e1,H1,.block hx,hQ⟩
 | .loop b,Q,e,H,h=>h
 | .exit id,Q,e,H,h=>⟨_,_,_,.exit,h⟩
 | .ret,Q,e,H,h=>⟨_,_,_,.ret,h⟩

theorem aA2{r:Option (BV×BH)}{dst:Option Nat}{K K':Env→BH→Prop}(hk:∀e H,K e H→K' e H){e:Env}(h:after r dst K e):after r dst K' e:=by
 cases r with
 | none=>exact h.elim
 | some p=>exact hk _ _ h
theorem aM4{aA:Nat}{C:bR}{o:BOper}{K K':Env→BH→Prop}(hk:∀e H,K e H→K' e H){e:Env}{H:BH}(h:aX aA C o K e H):aX aA C o K' e H:=by
 unfold aX at *
 cases o with
 | mk dst op g kp =>
  cases op with
  | call f xs =>
   dsimp only at h ⊢
   cases hf:f.ev e<;>simp only[hf] at h ⊢
   obtain⟨v,H1,hc,hk1,hK⟩:=h
   exact⟨v,H1,hc,hk1,hk _ _ hK⟩
  | _ =>
   simp only[BOp.makes,Bool.false_eq_true,if_false,if_true] at h ⊢
   first
    | exact aA2 hk h
    | exact fun nb hb hn=>aA2 hk (h nb hb hn)
theorem aA7{aA:Nat}{C:bR}{Q Q':Env→BH→Prop}(hq:∀e H,Q e H→Q' e H):∀{l:List BOper} {e:Env} {H:BH},wpO aA C l Q e H→wpO aA C l Q' e H
 | [],e,H,h=>hq _ _ h
 | o::r,e,H,h=>by
  unfold wpO at h ⊢
  cases hw:lN e o.guard with
  | none=>rw[hw] at h;exact h.elim
  | some t =>
   cases t
   ·rw[hw] at h;exact aA7 hq h
   ·rw[hw] at h;exact aM4 (fun _ _=>aA7 hq) h

theorem wpC_mono{aA:Nat}{C:bR}:∀{c:BCode} {Q Q':Post} {e:Env} {H:BH},(∀x e H,Q x e H→Q' x e H)→wpC aA C c Q e H→wpC aA C c Q' e H
 | .skip,_,_,_,_,hq,h=>hq _ _ _ h
 | .region ops,_,_,_,_,hq,h=>aA7 (hq _) h
 | .seq a b,Q,Q',_,_,hq,h=>wpC_mono (c:=a) (fun x e H hx=>by
   cases x with
   | normal=>exact wpC_mono (c:=b) hq hx
   | exit i=>exact hq _ _ _ hx
   | ret=>exact hq _ _ _ hx) h
 | .cond c a b,_,_,e,_,hq,h=>by
  unfold wpC at h ⊢
  cases hc:c.ev e with
  | bool t =>
   cases t
   ·rw[hc] at h;exact wpC_mono (c:=b) hq h
   ·rw[hc] at h;exact wpC_mono (c:=a) hq h
  | _=>rw[hc] at h;exact h.elim
 | .block id b,_,_,_,_,hq,h=>wpC_mono (c:=b) (fun x e H hx=>hq _ _ _ hx) h
 | .loop b,_,_,_,_,hq,⟨x,e',H',h,hx⟩=>⟨x,e',H',h,hq _ _ _ hx⟩
 | .exit id,_,_,_,_,hq,h=>hq _ _ _ h
 | .ret,_,_,_,_,hq,h=>hq _ _ _ h

theorem wpC_loop{aA:Nat}{C:bR}{b:BCode}{Q:Post}{e:Env}{H:BH}(I:Env→BH→Prop)(μ:Env→BH→Nat)(h0:I e H)(round:∀e H,I e H→wpC aA C b (Post.then (fun e' H'=>I e' H'∧μ e' H' < μ e H) Q) e H):wpC aA C (.loop b) Q e H:=by
 show ∃x e' H',ExC aA C (.loop b) e H x e' H'∧Q x e' H'
 have key:∀n e H,μ e H=n→I e H→∃x e' H',ExC aA C (.loop b) e H x e' H'∧Q x e' H':=by
  intro n
  induction n using Nat.strongRecOn with
  | _ n ih =>
   intro e H hn hI
   obtain⟨x,e1,H1,hx,hQ⟩:=fF (round e H hI)
   cases x with
   | normal =>
    obtain⟨hI1,hlt⟩:=hQ
    obtain⟨x,e2,H2,hy,hQ⟩:=ih _ (hn ▸ hlt) e1 H1 rfl hI1
    exact⟨x,e2,H2,.loopn hx hy,hQ⟩
   | exit i=>exact⟨_,e1,H1,.loopx hx (by simp),hQ⟩
   | ret=>exact⟨_,e1,H1,.loopx hx (by simp),hQ⟩
 exact key _ e H rfl h0

theorem uE{Γ:Ctx}{f:Nat}{fn:aM}{args:List BV}{H:BH}{R:BV→BH→Prop}(hf:Γ.fn f=some fn)(h:wpC Γ.aA (Runs Γ) fn.body (fun x e' H'=>(x=.normal∨x=.ret)∧∃v,cY fn.results e' H'=some v∧R v H') (eX args) H):
  ∃v H',Runs Γ f args H v H'∧R v H':=by
 obtain⟨x,e',H',hx,hxx,v,hv,hR⟩:=fF h
 obtain⟨n,hx⟩:=hx.at
 exact⟨v,H',⟨n+1,.inl ⟨fn,hf,x,e',hx,hxx,hv⟩⟩,hR⟩

end Go.B
end

section
namespace Go.B
set_option linter.unusedVariables false
set_option linter.unusedSimpArgs false

structure Row where
 blk:Nat
 sz:Nat
 room:Nat
abbrev Tie:=Nat→Option Row
def Tie.le(X Y:Tie):Prop:=∀b r,X b=some r→Y b=some r
theorem Tie.le_refl(X:Tie):X.le X:=fun _ _ h=>h
theorem Tie.le_trans{X Y Z:Tie}(h:X.le Y)(k:Y.le Z):X.le Z:=fun b r hb=>k b r (h b r hb)
def Tie.put(X:Tie)(b:Nat)(r:Row):Tie:=fun c=>if c=b then some r else X c
theorem Tie.put_self(X:Tie)(b:Nat)(r:Row):X.put b r b=some r:=by simp[Tie.put]
theorem Tie.le_put{X:Tie}{b:Nat}(r:Row)(h:X b=none):X.le (X.put b r):=fun c s hc=>by
 have:c≠b:=by rintro rfl;rw[h] at hc;cases hc
 simp[Tie.put,this,hc]

mutual
def VR(aA:Nat)(X:Tie):BV→Value→Prop
 | .any,_=>True
 | .int k n,v=>v=.int k n
 | .bool b,v=>v=.bool b
 | .str s,v=>v=.string s
 | .nilp,v=>v=.pointer none
 | .ptr b o,v=>∃r,X b=some r∧v=.pointer (some ⟨r.blk,o,none⟩)
 | .nils,v=>v=.slice none 0 0
 | .sl b o n,v=>∃r cap,X b=some r∧v=.slice (some ⟨r.blk,o,none⟩) n cap∧n≤cap∧(aA≤b→o=0→cap*r.sz=r.room∧cap≤maxLen)
 | .sle,v=>∃a cap,v=.slice a 0 cap∧(a=none→cap=0)
 | .nilm,v=>v=.map none
 | .mp b,v=>∃r,X b=some r∧v=.map (some r.blk)
 | .nilf,v=>v=.nilFunc
 | .fn f cs,v=>∃cs',v=.func (.func f) #[] cs'∧VRL aA X cs cs'.toList
 | .nili,v=>v=.nilIface
 | .iface t u,v=>∃v',v=.iface t v'∧VR aA X u v'
 | .agg cs,v=>∃cs',v=.agg cs'∧VRL aA X cs cs'.toList
 | .tup cs,v=>∃cs',v=.tuple cs'∧VRL aA X cs cs'.toList
def VRL(aA:Nat)(X:Tie):List BV→List Value→Prop
 | [],vs=>vs=[]
 | c::cs,vs=>∃v r,vs=v::r∧VR aA X c v∧VRL aA X cs r
end

mutual
theorem VR.mono{aA:Nat}{X Y:Tie}(h:X.le Y):∀{c:BV} {v:Value},VR aA X c v→VR aA Y c v
 | .any,_,_=>trivial
 | .int _ _,_,k=>k
 | .bool _,_,k=>k
 | .str _,_,k=>k
 | .nilp,_,k=>k
 | .ptr b o,_,⟨r,k,e⟩=>⟨r,h _ _ k,e⟩
 | .nils,_,k=>k
 | .sl b o n,_,⟨r,cap,k,e⟩=>⟨r,cap,h _ _ k,e⟩
 | .sle,_,k=>k
 | .nilm,_,k=>k
 | .mp b,_,⟨r,k,e⟩=>⟨r,h _ _ k,e⟩
 | .nilf,_,k=>k
 | .fn f cs,_,⟨cs',e,k⟩=>⟨cs',e,VRL.mono h k⟩
 | .nili,_,k=>k
 | .iface t u,_,⟨v',e,k⟩=>⟨v',e,VR.mono h k⟩
 | .agg cs,_,⟨cs',e,k⟩=>⟨cs',e,VRL.mono h k⟩
 | .tup cs,_,⟨cs',e,k⟩=>⟨cs',e,VRL.mono h k⟩
theorem VRL.mono{aA:Nat}{X Y:Tie}(h:X.le Y):∀{cs:List BV} {vs:List Value},VRL aA X cs vs→VRL aA Y cs vs
 | [],_,k=>k
 | c::cs,_,⟨v,r,e,k,l⟩=>⟨v,r,e,VR.mono h k,VRL.mono h l⟩
end

section
variable {aA:Nat} {X:Tie}
theorem VRL.len:∀{cs:List BV} {vs:List Value},VRL aA X cs vs→cs.length=vs.length
 | [],_,rfl=>rfl
 | c::cs,_,⟨v,r,rfl,_,l⟩=>by simp[l.len]
theorem VRL.get:∀{cs:List BV} {vs:List Value},VRL aA X cs vs→∀(i:Nat) (c:BV),cs[i]?=some c→∃v,vs[i]?=some v∧VR aA X c v
 | [],_,rfl,i,c,h=>by simp at h
 | c::cs,_,⟨v,r,rfl,k,l⟩,0,d,h=>by simp at h;subst h;exact⟨v,rfl,k⟩
 | c::cs,_,⟨v,r,rfl,k,l⟩,i+1,d,h=>by simpa using l.get i d (by simpa using h)
theorem VRL.of:∀{cs:List BV} {vs:List Value},cs.length=vs.length→(∀(i:Nat) (c:BV),cs[i]?=some c→∃v,vs[i]?=some v∧VR aA X c v)→VRL aA X cs vs
 | [],[],_,_=>rfl
 | [],_::_,h,_=>by simp at h
 | _::_,[],h,_=>by simp at h
 | c::cs,v::vs,hl,h=>by
  obtain⟨v',hv,k⟩:=h 0 c rfl
  simp at hv
  subst hv
  exact⟨v,vs,rfl,k,VRL.of (by simpa using hl) fun i d hd=>by simpa using h (i+1) d (by simpa using hd)⟩
theorem VRL.append{cs ds:List BV}{vs us:List Value}(h:VRL aA X cs vs)(k:VRL aA X ds us):VRL aA X (cs++ds) (vs++us):=by
 induction cs generalizing vs with
 | nil=>obtain rfl:=h;exact k
 | cons c cs ih=>obtain⟨v,r,rfl,k1,l⟩:=h;exact⟨v,r++us,rfl,k1,ih l⟩

theorem VR.one{c:BV}{v:Value}(h:VR aA X c v)(h1:c.one=true):v.oneCell'=true∧v.cells.toList=[v]:=by
 cases c<;>simp[BV.one] at h1<;>simp only[VR] at h<;>(try (obtain⟨_,h⟩:=h))<;>(try (obtain⟨_,h⟩:=h))<;>(try (obtain⟨_,h⟩:=h)) <;>
  (try (obtain⟨_,_⟩:=h))<;>subst_vars<;>simp[Value.oneCell',Value.cells] 
theorem VR.cellsOf{c:BV}{v:Value}(h:VR aA X c v)(h1:c.cells.all BV.one=true):VRL aA X c.cells v.cells.toList∧v.cells.all (·.oneCell')=true:=by
 cases c with
 | agg cs =>
  obtain⟨cs',rfl,k⟩:=h
  refine⟨k,?_⟩
  rw[Array.all_eq_true_iff_forall_mem]
  intro x hx
  obtain⟨i,hi⟩:=List.getElem?_of_mem (Array.mem_toList_iff.2 hx)
  have hlt:i<cs.length:=by
   rw[k.len]
   exact(List.getElem?_eq_some_iff.1 hi).1
  obtain⟨v,hv,kv⟩:=k.get i _ (List.getElem?_eq_getElem hlt)
  have:v=x:=by
   change cs'.toList[i]?=some x at hi
   rw[hi] at hv;exact(Option.some.inj hv).symm
  subst this
  exact(kv.one ((List.all_eq_true.1 h1) _ (List.getElem_mem hlt))).1
 | any=>simp[BV.cells,BV.one] at h1
 | tup cs=>simp[BV.cells,BV.one] at h1
 | _ =>
  have h2:=VR.one h (by simpa[BV.cells] using h1)
  rw[h2.2]
  refine⟨⟨v,[],rfl,h,rfl⟩,?_⟩
  rw[←Array.all_toList,h2.2]
  simp[h2.1]
end

def ER(aA:Nat)(X:Tie):List (BV×BV)→List MapEntry→Prop
 | [],es=>es=[]
 | (k,v)::r,es=>∃e es',es=e::es'∧VR aA X k e.key∧VR aA X v e.val∧ER aA X r es'
theorem ER.mono{aA:Nat}{X Y:Tie}(h:X.le Y):∀{ms:List (BV×BV)} {es:List MapEntry},ER aA X ms es→ER aA Y ms es
 | [],_,k=>k
 | (_,_)::_,_,⟨e,es',he,k1,k2,l⟩=>⟨e,es',he,k1.mono h,k2.mono h,ER.mono h l⟩

def BSt.live:BSt→Bool
 | .arr _ _ | .mp _=>true
 | _=>false

def RR(P:Program)(aA:Nat)(low:Nat)(X:Tie)(b:Nat)(w:World):BSt→Prop
 | .arr ty cs=>∃r cur fz,X b=some r∧w.heap[r.blk]?=some (.cells cur ty fz)∧cur.size=r.room∧r.sz=P.cellsOf ty ∧
   (∀(i:Nat) (c:BV),cs[i]?=some c→∃v,cur[i]?=some v∧VR aA X c v)∧(aA≤b→low≤r.blk∧fz=(0,0))
 | .mp es=>∃r es' clk,X b=some r∧w.heap[r.blk]?=some (.map es' clk)∧ER aA X es es'.toList∧(aA≤b→low≤r.blk)
 | .dead=>∃r,X b=some r
 | .fresh=>X b=none

structure HR(P:Program)(aA:Nat)(w0:World)(X:Tie)(H:BH)(w:World):Prop where
 row:∀b,RR P aA w0.heap.size X b w (H.row b)
 inj:∀b c r s,(H.row b).live=true→(H.row c).live=true→X b=some r→X c=some s→r.blk=s.blk→b=c
 ext:w0.Extends w

theorem RR.lives{P:Program}{aA low:Nat}{X:Tie}{b:Nat}{w:World}{s:BSt}(h:RR P aA low X b w s)(hl:s.live=true):∃r,X b=some r∧r.blk<w.heap.size:=by
 cases s with
 | arr ty cs =>
  obtain⟨r,cur,fz,hx,hh,_⟩:=h
  exact⟨r,hx,(Array.getElem?_eq_some_iff.1 hh).1⟩
 | mp es =>
  obtain⟨r,es',clk,hx,hh,_⟩:=h
  exact⟨r,hx,(Array.getElem?_eq_some_iff.1 hh).1⟩
 | dead=>simp[BSt.live] at hl
 | fresh=>simp[BSt.live] at hl

theorem RR.stay{P:Program}{aA low:Nat}{X Y:Tie}{b:Nat}{w w':World}{s:BSt}(h:RR P aA low X b w s)(hle:X.le Y)(hf:s=.fresh→Y b=none)(hb:s.live=true→∀r,X b=some r→w'.heap[r.blk]?=w.heap[r.blk]?):RR P aA low Y b w' s:=by
 cases s with
 | arr ty cs =>
  obtain⟨r,cur,fz,hx,hh,h1,h2,h3,h4⟩:=h
  exact⟨r,cur,fz,hle _ _ hx,by rw[hb rfl r hx];exact hh,h1,h2,fun i c hc=>let ⟨v,hv,k⟩:=h3 i c hc;⟨v,hv,k.mono hle⟩,h4⟩
 | mp es =>
  obtain⟨r,es',clk,hx,hh,h1,h2⟩:=h
  exact⟨r,es',clk,hle _ _ hx,by rw[hb rfl r hx];exact hh,h1.mono hle,h2⟩
 | dead=>obtain⟨r,hx⟩:=h;exact⟨r,hle _ _ hx⟩
 | fresh=>exact hf rfl

theorem HR.fresh_none{P:Program}{aA:Nat}{w0 w:World}{X:Tie}{H:BH}(h:HR P aA w0 X H w){b:Nat}(hb:H.row b=.fresh):X b=none:=by
 have:=h.row b
 rw[hb] at this
 exact this

theorem HR.grow{P:Program}{aA:Nat}{w0 w w':World}{X:Tie}{H:BH}(h:HR P aA w0 X H w)(hx:w0.Extends w')(hb:∀k,k<w.heap.size→w'.heap[k]?=w.heap[k]?):HR P aA w0 X H w' where
 row:=fun b=>(h.row b).stay (Tie.le_refl X) (fun e=>h.fresh_none e) fun hl r hr=>by
  obtain⟨r',hx',hlt⟩:=(h.row b).lives hl
  rw[hr] at hx'
  cases hx'
  exact hb _ hlt
 inj:=h.inj
 ext:=hx

theorem HR.make{P:Program}{aA nb:Nat}{w0 w:World}{X:Tie}{H:BH}{s:BSt}{r:Row}{o:Obj}(h:HR P aA w0 X H w)(hf:H.row nb=.fresh)(hr:r.blk=w.heap.size)(hs:RR P aA w0.heap.size (X.put nb r) nb (w.alloc o) s):HR P aA w0 (X.put nb r) (H.set nb s) (w.alloc o) where
 row:=fun b=>by
  rw[BH.row_set]
  split
  ·rename_i e;subst e;exact hs
  ·rename_i e
   refine(h.row b).stay (Tie.le_put r (h.fresh_none hf)) (fun e'=>?_) fun hl q hq=>?_
   ·simp[Tie.put,e,h.fresh_none e']
   ·obtain⟨r',hx',hlt⟩:=(h.row b).lives hl
    rw[hq] at hx'
    cases hx'
    exact heap_alloc_old w o _ hlt
 inj:=fun b c p q hb hc hp hq hpq=>by
  rw[BH.row_set] at hb hc
  by_cases eb:b=nb<;>by_cases ec:c=nb
  ·rw[eb,ec]
  ·simp only[Tie.put,eb,ec,if_true,if_false] at hp hq hc
   cases hp
   obtain⟨q',hx',hlt⟩:=(h.row c).lives hc
   rw[hq] at hx'
   cases hx'
   omega
  ·simp only[Tie.put,eb,ec,if_true,if_false] at hp hq hb
   cases hq
   obtain⟨q',hx',hlt⟩:=(h.row b).lives hb
   rw[hp] at hx'
   cases hx'
   omega
  ·simp only[Tie.put,eb,ec,if_false] at hp hq hb hc
   exact h.inj b c p q hb hc hp hq hpq
 ext:=h.ext.alloc o

theorem HR.write{P:Program}{aA b:Nat}{w0 w w':World}{X:Tie}{H:BH}{s:BSt}{r:Row}(h:HR P aA w0 X H w)(hl:(H.row b).live=true)(hb:X b=some r)(hext:w0.Extends w')(hk:∀k,k<w.heap.size→k≠r.blk→w'.heap[k]?=w.heap[k]?)(hsl:s.live=true)(hs:RR P aA w0.heap.size X b w' s):HR P aA w0 X (H.set b s) w' where
 row:=fun c=>by
  rw[BH.row_set]
  split
  ·rename_i e;subst e;exact hs
  ·rename_i e
   refine(h.row c).stay (Tie.le_refl X) (fun e'=>h.fresh_none e') fun hl' q hq=>?_
   obtain⟨r',hx',hlt⟩:=(h.row c).lives hl'
   rw[hq] at hx'
   cases hx'
   exact hk _ hlt fun e'=>e (h.inj c b q r hl' hl hq hb e')
 inj:=fun c d p q hc hd hp hq hpq=>by
  refine h.inj c d p q ?_ ?_ hp hq hpq
  ·rw[BH.row_set] at hc
   split at hc
   ·rename_i e;rw[e];exact hl
   ·exact hc
  ·rw[BH.row_set] at hd
   split at hd
   ·rename_i e;rw[e];exact hl
   ·exact hd
 ext:=hext

end Go.B
end

section
namespace Go.B
set_option linter.unusedVariables false
set_option linter.unusedSimpArgs false

section
variable {P:Program} {aA:Nat} {w0 w:World} {X:Tie} {H:BH}

theorem xY(v:Value):VR aA X (aG1 v) v:=by
  unfold aG1
  split<;>first
    | exact trivial
    | rfl
    | exact⟨_,rfl,rfl⟩
    | exact⟨_,rfl,xY _⟩
    | (split
       · rename_i f a b h
         obtain rfl:=Array.eq_empty_of_size_eq_zero h.1
         exact⟨b,rfl,by rw[Array.eq_empty_of_size_eq_zero h.2];rfl⟩
       · exact trivial)
theorem rD:∀(vs:List Value),VRL aA X (vs.map aG1) vs
 | []=>rfl
 | v::vs=>⟨v,vs,rfl,xY v,rD vs⟩
theorem VR_toB(v:Value):VR aA X (toB v) v:=by
 unfold toB
 split
 ·exact⟨_,rfl,rD _⟩
 ·exact⟨_,rfl,rD _⟩
 ·exact xY v

def OR(aA:Nat)(X:Tie)(σ:Opd→BV)(ρ:Operand→Value):Prop:=∀x y,opd x=some y→VR aA X (σ y) (ρ x)
theorem OR.mono{Y:Tie}{σ:Opd→BV}{ρ:Operand→Value}(h:X.le Y)(k:OR aA X σ ρ):OR aA Y σ ρ:=fun x y e=>(k x y e).mono h

def Does(P:Program)(aA:Nat)(w0:World)(X:Tie)(w:World)(o:Oper)(ρ:Operand→Value)(v:BV)(H1:BH):Prop :=
 ∃nx w' X' v',(execOp ρ o).run P w=.ok nx w'∧(nx=.value v'∨(nx=.skip∧v'=undef))∧X.le X'∧VR aA X' v v'∧HR P aA w0 X' H1 w'

theorem Does.plain{o:Oper}{ρ:Operand→Value}{v:BV}{v':Value}(hr:HR P aA w0 X H w)(h:(execOp ρ o).run P w=.ok (.value v') w)(k:VR aA X v v'):Does P aA w0 X w o ρ v H:=⟨_,w,X,v',h,.inl rfl,Tie.le_refl X,k,hr⟩

variable {o:Oper} {ρ:Operand→Value} {σ:Opd→BV}

theorem aW5{x:Operand}{y:Opd}(ho:o.op=.move x∨o.op=.assign x)(hy:opd x=some y)(hr:HR P aA w0 X H w)(hρ:OR aA X σ ρ):Does P aA w0 X w o ρ (σ y) H:=by
 refine .plain hr (v':=ρ x) ?_ (hρ x y hy)
 rcases ho with ho|ho<;>simp[execOp,ho]

theorem aL2{c a b:Operand}{c' a' b':Opd}(ho:o.op=.pick c a b)(hc:opd c=some c')(ha:opd a=some a')(hb:opd b=some b')(hr:HR P aA w0 X H w)(hρ:OR aA X σ ρ){t:Bool}(ht:σ c'=.bool t):Does P aA w0 X w o ρ (if t then σ a' else σ b') H:=by
 have h1:=hρ c c' hc
 rw[ht] at h1
 have h1:ρ c=.bool t:=h1
 refine .plain hr (v':=if t then ρ a else ρ b) ?_ ?_
 ·cases t<;>simp[execOp,ho,h1,asBool]
 ·cases t
  ·exact hρ b b' hb
  ·exact hρ a a' ha

theorem HR.newRow{nb ty:Nat}{cs:List BV}{cur:Array Value}(hr:HR P aA w0 X H w)(hf:H.row nb=.fresh)(hl:VRL aA X cs cur.toList):HR P aA w0 (X.put nb ⟨w.heap.size,P.cellsOf ty,cur.size⟩) (H.set nb (.arr ty cs)) (w.alloc (.cells cur ty))∧X.le (X.put nb ⟨w.heap.size,P.cellsOf ty,cur.size⟩):=by
 have hle:=Tie.le_put (X:=X) (b:=nb) ⟨w.heap.size,P.cellsOf ty,cur.size⟩ (hr.fresh_none hf)
 refine⟨hr.make hf rfl ?_,hle⟩
 refine⟨⟨w.heap.size,P.cellsOf ty,cur.size⟩,cur,(0,0),by simp[Tie.put],heap_alloc_new w _,rfl,rfl,fun i c hc=>?_,fun _=>⟨hr.ext.size,rfl⟩⟩
 obtain⟨v,hv,k⟩:=hl.get i c hc
 exact⟨v,by simpa using hv,k.mono hle⟩

theorem dC{nb:Nat}{s:BSt}{K:BH}(h:H.make aA nb s=some K):H.row nb=.fresh∧aA≤nb∧K=H.set nb s:=by
 unfold BH.make at h
 split at h
 ·rename_i hf
  split at h
  ·rename_i hb;exact⟨hf,hb,(Option.some.inj h).symm⟩
  ·cases h
 ·cases h

theorem dK{t:Nat}{cs:List BV}(h:zeroCells? P.info? t=some cs):∃i z,P.info? t=some i∧i.zero=some z∧cs=z.cells.toList.map aG1:=by
 unfold zeroCells? at h
 split at h
 ·cases h
 ·rename_i i hi
  split at h
  ·cases h
  ·rename_i z hz
   exact⟨i,z,hi,hz,(Option.some.inj h).symm⟩

theorem does_new{t nb:Nat}{cs:List BV}{K:BH}(ho:o.op=.alloc t)(hz:zeroCells? P.info? t=some cs)(hr:HR P aA w0 X H w)(hm:H.make aA nb (.arr t cs)=some K):Does P aA w0 X w o ρ (.ptr nb 0) K:=by
 obtain⟨i,z,hi,hzz,rfl⟩:=dK hz
 obtain⟨hf,hb,rfl⟩:=dC hm
 obtain⟨h1,h2⟩:=hr.newRow hf (ty:=t) (rD (aA:=aA) (X:=X) z.cells.toList)
 refine⟨_,_,_,.pointer (some ⟨w.heap.size,0,none⟩),?_,.inl rfl,h2,⟨_,Tie.put_self _ _ _,rfl⟩,h1⟩
 simp[execOp,ho,Instr.alloc,zeroValue,typeInfo,hi,hzz,newVar,newRow,World.alloc_eq]

theorem does_box{t nb:Nat}{x:Operand}{y:Opd}{K:BH}(ho:o.op=.box t x)(hy:opd x=some y)(hr:HR P aA w0 X H w)(hρ:OR aA X σ ρ)(h1:(σ y).cells.all BV.one=true)(hm:H.make aA nb (.arr t (σ y).cells)=some K):Does P aA w0 X w o ρ (.ptr nb 0) K:=by
 obtain⟨hf,hb,rfl⟩:=dC hm
 obtain⟨h1,h2⟩:=hr.newRow hf (ty:=t) ((hρ x y hy).cellsOf h1).1
 refine⟨_,_,_,.pointer (some ⟨w.heap.size,0,none⟩),?_,.inl rfl,h2,⟨_,Tie.put_self _ _ _,rfl⟩,h1⟩
 simp[execOp,ho,Instr.box,newVar,newRow,World.alloc_eq]

theorem zU{x:Operand}{y:Opd}(ho:o.op=.nilCheck x)(hy:opd x=some y)(hr:HR P aA w0 X H w)(hρ:OR aA X σ ρ)(h:(∃b i,σ y=.ptr b i)∨(∃f cs,σ y=.fn f cs)):Does P aA w0 X w o ρ (σ y) H:=by
 have h1:=hρ x y hy
 refine .plain hr (v':=ρ x) ?_ h1
 rcases h with⟨b,i,h⟩|⟨f,cs,h⟩
 ·rw[h] at h1
  obtain⟨r,_,e⟩:=h1
  simp[execOp,ho,e]
 ·rw[h] at h1
  obtain⟨cs',e,_⟩:=h1
  simp[execOp,ho,e]

theorem does_not{t:TypeId}{x:Operand}{y:Opd}(ho:o.op=.unOp .not t x)(hy:opd x=some y)(hr:HR P aA w0 X H w)(hρ:OR aA X σ ρ){b:Bool}(h:σ y=.bool b):Does P aA w0 X w o ρ (.bool (!b)) H:=by
 have h1:=hρ x y hy
 rw[h] at h1
 have h1:ρ x=.bool b:=h1
 refine .plain hr (v':=.bool (!b)) ?_ rfl
 simp[execOp,ho,h1,Op.unary]

theorem does_neg{t:TypeId}{x:Operand}{y:Opd}(ho:o.op=.unOp .neg t x)(hy:opd x=some y)(hr:HR P aA w0 X H w)(hρ:OR aA X σ ρ){k:IntKind}{n:Int}(h:σ y=.int k n):Does P aA w0 X w o ρ (.int k (k.wrap (0-n))) H:=by
 have h1:=hρ x y hy
 rw[h] at h1
 have h1:ρ x=.int k n:=h1
 refine .plain hr (v':=.int k (k.wrap (0-n))) ?_ rfl
 simp[execOp,ho,h1,Op.unary,Op.intArith]

theorem does_conv{s d:TypeId}{x:Operand}{y:Opd}{k:IntKind}{ts:TypeDesc}(ho:o.op=.convert s d x)(hs:P.underlying s=some ts)(hd:P.underlying d=some (.int k))(hy:opd x=some y)(hr:HR P aA w0 X H w)(hρ:OR aA X σ ρ){k':IntKind}{n:Int}(h:σ y=.int k' n):Does P aA w0 X w o ρ (.int k (k.wrap n)) H:=by
 have h1:=hρ x y hy
 rw[h] at h1
 have h1:ρ x=.int k' n:=h1
 refine .plain hr (v':=.int k (k.wrap n)) ?_ rfl
 simp[execOp,ho,h1,convert,underlying,hs,hd,Conv.intToInt]

theorem cA{op:BinOp}{t:TypeId}{x y:Operand}{a b:Value}(h:a.oneCell'=true)(hn:a≠.nilIface):(eqGuard op t x y a b).run P w=.ok () w:=by
 unfold eqGuard
 cases a<;>first
  | (simp[Value.oneCell'] at h;done)
  | (exact absurd rfl hn)
  | (cases op<;>simp)

theorem aW7{op:BinOp}{t t':TypeId}{x y:Operand}{x' y':Opd}(ho:o.op=.binOp op t x y t')(hx:opd x=some x')(hy:opd y=some y')(hr:HR P aA w0 X H w)(hρ:OR aA X σ ρ){v:BV}(h:bC op (σ x') (σ y')=some v):Does P aA w0 X w o ρ v H:=by
  have h1:=hρ x x' hx
  have h2:=hρ y y' hy
  unfold bC at h
  split at h
  · rename_i k a k' b e1 e2
    rw[e1] at h1
    rw[e2] at h2
    have h1:ρ x=.int k a:=h1
    have h2:ρ y=.int k' b:=h2
    split at h
    · rename_i hs
      cases op<;>simp[iR] at hs<;>simp[shiftB] at h<;>(obtain⟨hb,rfl⟩:=h) <;>
        (refine .plain hr ?_ rfl;simp[execOp,ho,h1,h2,cA (P:=P) (w:=w) (a:=.int k a) rfl (by simp),binOp,Op.shift,Int.not_lt.2 hb])
    · rename_i hs
      split at h
      · rename_i e
        subst e
        cases op<;>simp[iR] at hs<;>simp at h <;>
          first
            | (obtain⟨hb,rfl⟩:=h
               refine .plain hr ?_ rfl
               simp[execOp,ho,h1,h2,cA (P:=P) (w:=w) (a:=.int k a) rfl (by simp),binOp,Op.intDiv,hb])
            | (subst h
               refine .plain hr ?_ rfl
               simp[execOp,ho,h1,h2,cA (P:=P) (w:=w) (a:=.int k a) rfl (by simp),binOp,Op.intArith,Op.intBits,Op.intCmp])
      · cases h
  · rename_i a b e1 e2
    rw[e1] at h1
    rw[e2] at h2
    have h1:ρ x=.string a:=h1
    have h2:ρ y=.string b:=h2
    cases op<;>simp at h <;>
      first
        | (obtain⟨hb,rfl⟩:=h
           refine .plain hr ?_ rfl
           simp[execOp,ho,h1,h2,cA (P:=P) (w:=w) (a:=.string a) rfl (by simp),binOp,Op.stringOp,IntKind.max,IntKind.signed,IntKind.bits]
           omega)
        | (subst h
           refine .plain hr ?_ rfl
           simp[execOp,ho,h1,h2,cA (P:=P) (w:=w) (a:=.string a) rfl (by simp),binOp,Op.stringOp])
  · cases h

theorem aW8{t t':TypeId}{neg:Bool}{x y:Operand}{x' y':Opd}(ho:o.op=.binOp (if neg then .neq else .eql) t x y t')(ht:P.underlying t=some .bool)(hx:opd x=some x')(hy:opd y=some y')(hr:HR P aA w0 X H w)(hρ:OR aA X σ ρ){a b:Bool}(e1:σ x'=.bool a)(e2:σ y'=.bool b):Does P aA w0 X w o ρ (.bool (if neg then !(a==b) else a==b)) H:=by
 have h1:=hρ x x' hx
 have h2:=hρ y y' hy
 rw[e1] at h1
 rw[e2] at h2
 have h1:ρ x=.bool a:=h1
 have h2:ρ y=.bool b:=h2
 have h3:=run_equalIn_bool' (P:=P) w 9999 t a b ht
 refine .plain hr ?_ rfl
 cases neg
 ·simp[execOp,ho,h1,h2,cA (P:=P) (w:=w) (a:=.bool a) rfl (by simp),binOp,Op.equal,Op.maxDepth,h3]
 ·simp[execOp,ho,h1,h2,cA (P:=P) (w:=w) (a:=.bool a) rfl (by simp),binOp,Op.equal,Op.maxDepth,h3]

end
end Go.B
end

section
namespace Go.B
set_option linter.unusedVariables false
set_option linter.unusedSimpArgs false

section
variable {P:Program} {aA:Nat} {w0 w:World} {X:Tie} {H:BH} {o:Oper} {ρ:Operand→Value} {σ:Opd→BV}

theorem size?_elim{t n:Nat}(h:size? P.info? t=some n):∃i,P.info? t=some i∧i.size=n:=by
 unfold size? at h
 cases hi:P.info? t with
 | none=>simp[hi] at h
 | some i=>simp[hi] at h;exact⟨i,rfl,h⟩

def aggD:TypeDesc→Bool
 | .struct _ | .array _ _=>true
 | _=>false

theorem uN{t:Nat}{s:Option Nat}(h:shapeOf P.underlying P.info? t=some s):∃d i,P.underlying t=some d∧P.info? t=some i ∧
  ((aggD d=true∧s=some i.size)∨(aggD d=false∧s=none)):=by
 unfold shapeOf at h
 cases hu:P.underlying t with
 | none=>simp[agg?,hu] at h
 | some d =>
  cases hi:size? P.info? t with
  | none=>cases d<;>simp[agg?,hu,hi] at h
  | some n =>
   obtain⟨i,hi',rfl⟩:=size?_elim hi
   refine⟨d,i,rfl,hi',?_⟩
   cases d<;>simp[agg?,hu,hi] at h<;>simp[h,aggD]

theorem sG{t:TypeId}{d:TypeDesc}(h:P.underlying t=some d):(isAgg t).run P w=.ok (aggD d) w:=by
 cases d<;>simp[isAgg,run_underlying h,aggD]

theorem HR.cells{b ty:Nat}{cs:List BV}(hr:HR P aA w0 X H w)(hb:H.row b=.arr ty cs){o n:Nat}(hn:o+n≤cs.length):
  ∃r vs,X b=some r∧vs.length=n∧(∀j v,vs[j]?=some v→w.cell? ⟨r.blk,o+j,none⟩=some v)∧VRL aA X ((cs.drop o).take n) vs:=by
 have h:=hr.row b
 rw[hb] at h
 obtain⟨r,cur,fz,hx,hh,h1,h2,h3,h4⟩:=h
 have hlen:o+n≤cur.size∨n=0:=by
  by_cases h0:n=0
  ·exact .inr h0
  ·have hlt:o+n-1<cs.length:=by omega
   obtain⟨v,hv,_⟩:=h3 (o+n-1) _ (List.getElem?_eq_getElem hlt)
   have:=(Array.getElem?_eq_some_iff.1 hv).1
   exact .inl (by omega)
 refine⟨r,(cur.toList.drop o).take n,hx,?_,?_,?_⟩
 ·simp
  omega
 ·intro j v hv
  have hj:j<n:=by
   have:=(List.getElem?_eq_some_iff.1 hv).1
   simp at this
   omega
  rw[List.getElem?_take_of_lt hj,List.getElem?_drop] at hv
  simp[World.cell?,hh]
  simpa using hv
 ·refine VRL.of ?_ ?_
  ·simp
   omega
  ·intro i c hc
   have hj:i<n:=by
    have:=(List.getElem?_eq_some_iff.1 hc).1
    simp at this
    omega
   rw[List.getElem?_take_of_lt hj,List.getElem?_drop] at hc
   obtain⟨v,hv,k⟩:=h3 _ _ hc
   refine⟨v,?_,k⟩
   rw[List.getElem?_take_of_lt hj,List.getElem?_drop]
   simpa using hv

theorem nV{b ty t:Nat}{cs:List BV}{s:Option Nat}(hr:HR P aA w0 X H w)(hb:H.row b=.arr ty cs)(hs:shapeOf P.underlying P.info? t=some s){o:Nat}(hn:o+s.getD 1≤cs.length){v:BV}(hv:asm s ((cs.drop o).take (s.getD 1))=some v):∃r v',X b=some r∧(loadVar t ⟨r.blk,o,none⟩).run P w=.ok v' w∧VR aA X v v':=by
 obtain⟨d,i,hu,hi,hd⟩:=uN hs
 obtain⟨r,vs,hx,hl,hc,hk⟩:=hr.cells hb hn
 rcases hd with⟨hd,rfl⟩|⟨hd,rfl⟩
 ·refine⟨r,.agg vs.toArray,hx,?_,?_⟩
  ·have h1:vs.length=i.size:=by simpa using hl
   have h2:=run_loadCells_list (P:=P) w ⟨r.blk,o,none⟩ vs (fun j v hv=>by
    have:(⟨r.blk,o,none⟩:Addr).add j=⟨r.blk,o+j,none⟩:=by unfold Addr.add;split<;>simp_all
    rw[this];exact hc j v hv)
   rw[h1] at h2
   simp[loadVar,sG (P:=P) (w:=w) hu,hd,sizeOf,typeInfo,hi,h2]
  ·simp only[asm,Option.some.injEq] at hv
   subst hv
   exact⟨_,rfl,by simpa using hk⟩
 ·simp only[asm,Option.getD_none] at hv hl hk
  match vs,hl with
  | [x],_ =>
   refine⟨r,x,hx,?_,?_⟩
   ·have h2:=hc 0 x rfl
    simp only[Nat.add_zero] at h2
    simp[loadVar,sG (P:=P) (w:=w) hu,hd,h2]
   ·cases hq:(cs.drop o).take 1 with
    | nil=>rw[hq] at hv;simp at hv
    | cons c q =>
     rw[hq] at hv hk
     simp at hv
     subst hv
     obtain⟨v',q',e,k1,_⟩:=hk
     cases e
     exact k1

theorem does_load{t:Nat}{s:Option Nat}{x:Operand}{y:Opd}(ho:o.op=.load t x)(hs:shapeOf P.underlying P.info? t=some s)(hy:opd x=some y)(hr:HR P aA w0 X H w)(hρ:OR aA X σ ρ){b i ty:Nat}{cs:List BV}(hp:σ y=.ptr b i)(hb:H.row b=.arr ty cs)(hn:i+s.getD 1≤cs.length){v:BV}(hv:asm s ((cs.drop i).take (s.getD 1))=some v):Does P aA w0 X w o ρ v H:=by
 have h1:=hρ x y hy
 rw[hp] at h1
 obtain⟨r,hx,e⟩:=h1
 obtain⟨r',v',hx',hrun,k⟩:=nV hr hb hs hn hv
 rw[hx] at hx'
 cases hx'
 refine .plain hr (v':=v') ?_ k
 simp[execOp,ho,e,Instr.loadAt,Instr.sureAddr,hrun]

theorem bC8{t n:Nat}{x z:Operand}{y q:Opd}(ho:o.op=.store t x z)(hs:size? P.info? t=some n)(hy:opd x=some y)(hq:opd z=some q)(hr:HR P aA w0 X H w)(hρ:OR aA X σ ρ){b i ty:Nat}{cs:List BV}(hp:σ y=.ptr b i)(hb:H.row b=.arr ty cs)(hbase:aA≤b)(hlen:(σ q).cells.length=n)(hn:i+n≤cs.length)(hone:(σ q).cells.all BV.one=true):Does P aA w0 X w o ρ (.tup []) (H.set b (.arr ty (cs.take i++(σ q).cells++cs.drop (i+n)))):=by
 have h1:=hρ x y hy
 rw[hp] at h1
 obtain⟨r,hx,e⟩:=h1
 obtain⟨i',hi',rfl⟩:=size?_elim hs
 obtain⟨hcl,hone'⟩:=(hρ z q hq).cellsOf hone
 have hrow:=hr.row b
 rw[hb] at hrow
 obtain⟨r',cur,fz,hx',hh,g1,g2,g3,g4⟩:=hrow
 rw[hx] at hx'
 cases hx'
 obtain⟨glow,rfl⟩:=g4 hbase
 have hsz:(ρ z).cells.toList.length=i'.size:=by rw[←hcl.len,hlen]
 have hle:cs.length≤cur.size:=by
  by_cases h0:cs.length=0
  ·omega
  ·obtain⟨v,hv,_⟩:=g3 (cs.length-1) _ (List.getElem?_eq_getElem (by omega))
   have:=(Array.getElem?_eq_some_iff.1 hv).1
   omega
 have hst:=run_storeCells_at (P:=P) r.blk i ty (ρ z).cells.toList 0 cur w hh (by simp only[Nat.add_zero,hsz];omega)
  (fun v hv=>(Array.all_eq_true_iff_forall_mem.1 hone') v (Array.mem_toList_iff.1 hv))
 simp only[Nat.add_zero,hsz] at hst
 have hszz:(ρ z).cells.size=i'.size:=by simpa using hsz
 refine⟨.skip,_,X,undef,?_,.inr ⟨rfl,rfl⟩,Tie.le_refl X,⟨#[],rfl,rfl⟩,hr.write (by rw[hb];rfl) hx (hr.ext.setRow r.blk ((cur.toList.take i++(ρ z).cells.toList++cur.toList.drop (i+i'.size)).toArray) glow)
  (fun k _ hk=>setRow_other _ _ _ _ hk) rfl ?_⟩
 ·simp[execOp,ho,e,Instr.storeAt,Instr.sureAddr,storeVar,sizeOf,typeInfo,hi',hszz,hst]
 ·refine⟨r,_,(0,0),hx,setRow_heap w r.blk cur _ ty (0,0) hh,?_,g2,?_,fun _=>⟨glow,rfl⟩⟩
  ·simp
   omega
  ·intro j c hc
   simp only[List.append_assoc] at hc ⊢
   by_cases hj:j<i
   ·rw[List.getElem?_append_left (by simp;omega),List.getElem?_take_of_lt hj] at hc
    obtain⟨v,hv,k⟩:=g3 j c hc
    refine⟨v,?_,k⟩
    simp only[List.getElem?_toArray]
    rw[List.getElem?_append_left (by simp;omega),List.getElem?_take_of_lt hj]
    simpa using hv
   ·have ht:(cs.take i).length=i:=by simp;omega
    have ht':(cur.toList.take i).length=i:=by simp;omega
    rw[List.getElem?_append_right (by omega),ht] at hc
    simp only[List.getElem?_toArray]
    rw[List.getElem?_append_right (by omega),ht']
    by_cases hj2:j-i<i'.size
    ·rw[List.getElem?_append_left (by omega)] at hc ⊢
     exact hcl.get _ _ hc
    ·rw[List.getElem?_append_right (by omega),hlen,List.getElem?_drop] at hc
     obtain⟨v,hv,k⟩:=g3 _ c hc
     refine⟨v,?_,k⟩
     rw[List.getElem?_append_right (by omega),hsz,List.getElem?_drop]
     simpa using hv

theorem does_lea{s n f:Nat}{x:Operand}{y:Opd}{fs:Array Field}{fd:Field}(ho:o.op=.fieldAddr s x f)(hu:P.underlying s=some (.struct fs))(hf:fs[f]?=some fd)(hs:size? P.info? fd.type=some n)(hn:n≠0)(hy:opd x=some y)(hr:HR P aA w0 X H w)(hρ:OR aA X σ ρ){b i:Nat}(hp:σ y=.ptr b i):Does P aA w0 X w o ρ (.ptr b (i+fd.offset)) H:=by
 have h1:=hρ x y hy
 rw[hp] at h1
 obtain⟨r,hx,e⟩:=h1
 obtain⟨i',hi',rfl⟩:=size?_elim hs
 refine .plain hr (v':=.pointer (some ⟨r.blk,i+fd.offset,none⟩)) ?_ ⟨r,hx,rfl⟩
 have:(⟨r.blk,i,none⟩:Addr).add fd.offset=⟨r.blk,i+fd.offset,none⟩:=by unfold Addr.add;split<;>simp_all
 simp[execOp,ho,e,Instr.fieldAt,run_underlying hu,hf,Instr.sureAddr,fieldPlace,sizeOf,typeInfo,hi',hn,this]

theorem aH0{t:Nat}{s:Option Nat}{cs:List BV}{vs:Array Value}(hk:VRL aA X cs vs.toList)(hs:shapeOf P.underlying P.info? t=some s){off:Nat}(hn:off+s.getD 1≤cs.length){v:BV}(hv:asm s ((cs.drop off).take (s.getD 1))=some v):∃v',(part t vs off).run P w=.ok v' w∧VR aA X v v':=by
 obtain⟨d,i,hu,hi,hd⟩:=uN hs
 have hlen:=hk.len
 rcases hd with⟨hd,rfl⟩|⟨hd,rfl⟩
 ·simp only[asm,Option.some.injEq] at hv
  subst hv
  refine⟨.agg (vs.extract off (off+i.size)),?_,_,rfl,?_⟩
  ·simp[part,sG (P:=P) (w:=w) hu,hd,sizeOf,typeInfo,hi]
  ·simp only[Option.getD_some] at hn ⊢
   refine VRL.of ?_ ?_
   ·simp
    simp at hlen
    omega
   ·intro j c hc
    have hj:j<i.size:=by
     have:=(List.getElem?_eq_some_iff.1 hc).1
     simp at this
     omega
    rw[List.getElem?_take_of_lt hj,List.getElem?_drop] at hc
    obtain⟨v,hv,k⟩:=hk.get _ _ hc
    refine⟨v,?_,k⟩
    simp only[Array.toList_extract,List.extract_eq_take_drop]
    rw[List.getElem?_take_of_lt (by omega),List.getElem?_drop]
    exact hv
 ·simp only[asm,Option.getD_none] at hv hn
  cases hq:(cs.drop off).take 1 with
  | nil=>rw[hq] at hv;simp at hv
  | cons c q =>
   have hc:cs[off]?=some c:=by
    have:((cs.drop off).take 1)[0]?=some c:=by rw[hq];rfl
    rw[List.getElem?_take_of_lt (by omega),List.getElem?_drop] at this
    simpa using this
   rw[hq] at hv
   simp at hv
   subst hv
   obtain⟨v',hv',k⟩:=hk.get _ _ hc
   have hv'':vs[off]?=some v':=by simpa using hv'
   exact⟨v',by simp[part,sG (P:=P) (w:=w) hu,hd,hv''],k⟩

theorem does_fld{s f:Nat}{x:Operand}{y:Opd}{fs:Array Field}{fd:Field}{sh:Option Nat}(ho:o.op=.field s x f)(hu:P.underlying s=some (.struct fs))(hf:fs[f]?=some fd)(hs:shapeOf P.underlying P.info? fd.type=some sh)(hy:opd x=some y)(hr:HR P aA w0 X H w)(hρ:OR aA X σ ρ){cs:List BV}(hp:σ y=.agg cs)(hn:fd.offset+sh.getD 1≤cs.length){v:BV}(hv:asm sh ((cs.drop fd.offset).take (sh.getD 1))=some v):Does P aA w0 X w o ρ v H:=by
 have h1:=hρ x y hy
 rw[hp] at h1
 obtain⟨vs,e,k⟩:=h1
 obtain⟨v',hrun,kv⟩:=aH0 (P:=P) (w:=w) k hs hn hv
 refine .plain hr (v':=v') ?_ kv
 simp[execOp,ho,e,Instr.field,run_underlying hu,hf,asAgg,hrun]

theorem does_idx{t e n:Nat}{x z:Operand}{y q:Opd}(ho:o.op=.indexAddr t x z)(hu:P.underlying t=some (.slice e))(hs:size? P.info? e=some n)(hy:opd x=some y)(hq:opd z=some q)(hr:HR P aA w0 X H w)(hρ:OR aA X σ ρ){b i m:Nat}{k:IntKind}{j:Int}(h1:σ y=.sl b i m)(h2:σ q=.int k j)(hj:0≤j)(hjm:j<m):Does P aA w0 X w o ρ (.ptr b (i+j.toNat*n)) H:=by
 have g1:=hρ x y hy
 have g2:=hρ z q hq
 rw[h1] at g1
 rw[h2] at g2
 obtain⟨r,cap,hx,e1,_⟩:=g1
 have g2:ρ z=.int k j:=g2
 obtain⟨i',hi',rfl⟩:=size?_elim hs
 refine .plain hr (v':=.pointer (some ⟨r.blk,i+j.toNat*i'.size,none⟩)) ?_ ⟨r,hx,rfl⟩
 have:(⟨r.blk,i,none⟩:Addr).add (j.toNat*i'.size)=⟨r.blk,i+j.toNat*i'.size,none⟩:=by unfold Addr.add;split<;>simp_all
 simp[execOp,ho,e1,g2,Instr.indexAt,asIntOf,run_underlying hu,hj,hjm,sizeOf,typeInfo,hi',this]

theorem does_idxa{t e n len:Nat}{x z:Operand}{y q:Opd}(ho:o.op=.indexAddr t x z)(hu:P.underlying t=some (.array len e))(hs:size? P.info? e=some n)(hy:opd x=some y)(hq:opd z=some q)(hr:HR P aA w0 X H w)(hρ:OR aA X σ ρ){b i:Nat}{k:IntKind}{j:Int}(h1:σ y=.ptr b i)(h2:σ q=.int k j)(hj:0≤j)(hjm:j<len):Does P aA w0 X w o ρ (.ptr b (i+j.toNat*n)) H:=by
 have g1:=hρ x y hy
 have g2:=hρ z q hq
 rw[h1] at g1
 rw[h2] at g2
 obtain⟨r,hx,e1⟩:=g1
 have g2:ρ z=.int k j:=g2
 obtain⟨i',hi',rfl⟩:=size?_elim hs
 refine .plain hr (v':=.pointer (some ⟨r.blk,i+j.toNat*i'.size,none⟩)) ?_ ⟨r,hx,rfl⟩
 have:(⟨r.blk,i,none⟩:Addr).add (j.toNat*i'.size)=⟨r.blk,i+j.toNat*i'.size,none⟩:=by unfold Addr.add;split<;>simp_all
 simp[execOp,ho,e1,g2,Instr.indexAt,asIntOf,run_underlying hu,Instr.sureAddr,hj,hjm,sizeOf,typeInfo,hi',this]

theorem does_idxs{t:Nat}{x z:Operand}{y q:Opd}(ho:o.op=.index t x z)(hu:P.underlying t=some .string)(hy:opd x=some y)(hq:opd z=some q)(hr:HR P aA w0 X H w)(hρ:OR aA X σ ρ){s:ByteArray}{k:IntKind}{j:Int}{c:UInt8}(h1:σ y=.str s)(h2:σ q=.int k j)(hj:0≤j)(hc:s[j.toNat]?=some c):Does P aA w0 X w o ρ (.int .u8 c.toNat) H:=by
 have g1:=hρ x y hy
 have g2:=hρ z q hq
 rw[h1] at g1
 rw[h2] at g2
 have g1:ρ x=.string s:=g1
 have g2:ρ z=.int k j:=g2
 refine .plain hr (v':=.int .u8 c.toNat) ?_ rfl
 simp[execOp,ho,g1,g2,Instr.index,asIntOf,run_underlying hu,hj,hc]

theorem does_mkfn{f:Nat}{first captured:Array Operand}{caps:List Opd}(ho:o.op=.makeFunc (.func f) first captured)(hf:first.size=0)(hc:captured.toList.mapM opd=some caps)(hr:HR P aA w0 X H w)(hρ:OR aA X σ ρ):Does P aA w0 X w o ρ (.fn f (caps.map σ)) H:=by
 obtain rfl:=Array.eq_empty_of_size_eq_zero hf
 refine .plain hr (v':=.func (.func f) #[] (captured.map ρ)) ?_ ⟨_,rfl,?_⟩
 ·simp[execOp,ho,Instr.makeFunc]
 ·rw[Array.toList_map]
  revert hc
  generalize captured.toList=l
  clear ho
  induction l generalizing caps with
  | nil=>intro hc;simp at hc;subst hc;rfl
  | cons x l ih =>
   intro hc
   simp only[List.mapM_cons,Option.bind_eq_bind,Option.pure_def] at hc
   cases hx:opd x with
   | none=>simp[hx] at hc
   | some y =>
    cases hl:l.mapM opd with
    | none=>simp[hx,hl] at hc
    | some ys =>
     simp[hx,hl] at hc
     subst hc
     exact⟨ρ x,l.map ρ,rfl,hρ x y hx,ih hl⟩

theorem does_ext{i:Nat}{x:Operand}{y:Opd}(ho:o.op=.extract x i)(hy:opd x=some y)(hr:HR P aA w0 X H w)(hρ:OR aA X σ ρ){vs:List BV}(hp:σ y=.tup vs){v:BV}(hv:vs[i]?=some v):Does P aA w0 X w o ρ v H:=by
 have h1:=hρ x y hy
 rw[hp] at h1
 obtain⟨us,e,k⟩:=h1
 obtain⟨v',hv',kv⟩:=k.get _ _ hv
 have hv'':us[i]?=some v':=by simpa using hv'
 refine .plain hr (v':=v') ?_ kv
 simp[execOp,ho,e,Instr.extract,hv'']

end
end Go.B
end

section
namespace Go.B
set_option linter.unusedVariables false
set_option linter.unusedSimpArgs false

section
variable {P:Program} {aA:Nat} {w0 w:World} {X:Tie} {H:BH} {o:Oper} {ρ:Operand→Value} {σ:Opd→BV}

theorem aH7{place:Nat→Option (Nat×Nat)}{i:Nat}{x:Operand}{r:List (Nat×Operand)}{qs:List (Nat×Nat×Opd)}(h:partsOf place ((i,x)::r)=some qs):
  ∃off n y qs',place i=some (off,n)∧opd x=some y∧partsOf place r=some qs'∧qs=(off,n,y)::qs':=by
 unfold partsOf at h ⊢
 simp only[List.mapM_cons,Option.bind_eq_bind,Option.pure_def] at h
 cases hp:place i with
 | none=>simp[hp] at h
 | some p =>
  cases hy:opd x with
  | none=>simp[hp,hy] at h
  | some y =>
   cases hr:r.mapM (fun(x:Nat×Operand)=>(place x.1).bind fun p=>(opd x.2).bind fun a=>some (p.1,p.2,a)) with
   | none=>simp[hp,hy,hr] at h
   | some qs' =>
    simp[hp,hy,hr] at h
    exact⟨p.1,p.2,y,qs',rfl,rfl,rfl,h.symm⟩

theorem vQ{place place':Nat→Option (Nat×Nat)}(hρ:OR aA X σ ρ):∀(ps:List (Nat×Operand)) (qs:List (Nat×Nat×Opd)) (cs cs':List BV) (vs:Array Value),(∀i p,place i=some p→place' i=some p)→partsOf place ps=some qs →
  VRL aA X cs vs.toList→fillB cs (qs.map fun(o,n,x)=>(o,n,σ x))=some cs' →
  ∃vs',Instr.fill place' vs (ps.map fun(i,x)=>(i,ρ x))=some vs'∧VRL aA X cs' vs'.toList∧vs'.size=vs.size
 | [],qs,cs,cs',vs,_,hp,hk,hf=>by
  simp[partsOf] at hp
  subst hp
  simp[fillB] at hf
  subst hf
  exact⟨vs,rfl,hk,rfl⟩
 | (i,x)::r,qs,cs,cs',vs,hpl,hp,hk,hf=>by
  obtain⟨off,n,y,qs',h1,h2,h3,rfl⟩:=aH7 hp
  simp only[List.map_cons,fillB] at hf
  split at hf
  ·rename_i hc
   obtain⟨c1,c2,c3⟩:=hc
   obtain⟨kx,_⟩:=(hρ x y h2).cellsOf c3
   have hxn:(ρ x).cells.size=n:=by
    have:=kx.len
    simp at this
    omega
   have hlen:cs.length=vs.size:=by simpa using hk.len
   obtain⟨g1,g2⟩:=Great.foldl_set off (ρ x).cells.toList 0 vs
   have hk':VRL aA X (cs.take off++(σ y).cells++cs.drop (off+n)) (((ρ x).cells.toList.zipIdx 0).foldl (fun cs (x:Value×Nat)=>cs.setIfInBounds (off+x.2) x.1) vs).toList:=by
    refine VRL.of ?_ ?_
    ·simp only[List.length_append,List.length_take,List.length_drop,Array.length_toList,g1]
     omega
    ·intro j c hc
     simp only[List.append_assoc] at hc
     rw[Array.getElem?_toList,g2 j]
     simp only[Nat.add_zero,Array.length_toList,hxn]
     by_cases hj:j<off
     ·rw[if_neg (by omega)]
      rw[List.getElem?_append_left (by simp;omega),List.getElem?_take_of_lt hj] at hc
      obtain⟨v,hv,k⟩:=hk.get j c hc
      exact⟨v,by simpa using hv,k⟩
     ·have ht:(cs.take off).length=off:=by simp;omega
      rw[List.getElem?_append_right (by omega),ht] at hc
      by_cases hj2:j-off<n
      ·rw[if_pos ⟨by omega,by omega,by omega⟩]
       rw[List.getElem?_append_left (by omega)] at hc
       exact kx.get _ _ hc
      ·rw[if_neg (by omega)]
       rw[List.getElem?_append_right (by omega),c1,List.getElem?_drop] at hc
       have e:off+n+(j-off-n)=j:=by omega
       rw[e] at hc
       obtain⟨v,hv,k⟩:=hk.get j c hc
       exact⟨v,by simpa using hv,k⟩
   obtain⟨vs',r1,r2,r3⟩:=vQ hρ r qs' _ cs' _ hpl h3 hk' hf
   refine⟨vs',?_,r2,by rw[r3,g1]⟩
   simp only[List.map_cons]
   unfold Instr.fill
   simp only[hpl i _ h1,hxn]
   rw[if_neg (by simp;omega)]
   rw[←r1]
   congr 1
   rw[←Array.foldl_toList,Array.toList_zipIdx]
  ·cases hf

theorem bA0{fs:List Field}{places:List (Nat×Nat)}(h:fs.mapM (fun f=>(P.info? f.type).map fun i=>(f.offset,i.size))=some places):
  ∀(i:Nat) (p:Nat×Nat),(do let f ←fs[i]?;some (f.offset,←size? P.info? f.type))=some p→places[i]?=some p:=by
 induction fs generalizing places with
 | nil=>intro i p hp;simp at hp
 | cons f fs ih =>
  simp only[List.mapM_cons,Option.bind_eq_bind,Option.pure_def] at h
  cases hi:P.info? f.type with
  | none=>simp[hi] at h
  | some inf =>
   cases hr:fs.mapM (fun f=>(P.info? f.type).map fun i=>(f.offset,i.size)) with
   | none=>simp[hi,hr] at h
   | some rest =>
    simp[hi,hr] at h
    subst h
    intro i p hp
    cases i with
    | zero=>simp[size?,hi] at hp;simp[hp]
    | succ i=>simpa using ih hr i p (by simpa using hp)

theorem uD{t:Nat}{ps:Array (Nat×Operand)}{qs:List (Nat×Nat×Opd)}{fs:Array Field}{places:List (Nat×Nat)}{z:List BV}(ho:o.op=.build t ps)(hu:P.underlying t=some (.struct fs))(hz:zeroCells? P.info? t=some z)(hp:partsOf (fun i=>do let f ←fs[i]?;some (f.offset,←size? P.info? f.type)) ps.toList=some qs)(hpl:fs.toList.mapM (fun f=>(P.info? f.type).map fun i=>(f.offset,i.size))=some places)(hr:HR P aA w0 X H w)(hρ:OR aA X σ ρ){cs:List BV}(hf:fillB z (qs.map fun(o,n,x)=>(o,n,σ x))=some cs):Does P aA w0 X w o ρ (.agg cs) H:=by
 obtain⟨i,zv,hi,hzz,rfl⟩:=dK hz
 obtain⟨vs,h1,h2,_⟩:=vQ (place':=(places.toArray[·]?)) hρ ps.toList qs _ cs zv.cells (fun j p hj=>by simpa using bA0 hpl j p (by simpa using hj)) hp (rD _) hf
 refine .plain hr (v':=.agg vs) ?_ ⟨vs,rfl,h2⟩
 have hb:P.built t (ps.map fun(i,x)=>(i,ρ x)).toList=some vs:=by
  unfold Program.built
  rw[hi,hu]
  simp only[hzz,hpl]
  rw[Array.toList_map]
  exact h1
 simp[execOp,ho,run_build w t _ vs hb]

theorem vE{t n e:Nat}{len:Nat}{ps:Array (Nat×Operand)}{qs:List (Nat×Nat×Opd)}{z:List BV}(ho:o.op=.build t ps)(hu:P.underlying t=some (.array len e))(hn:size? P.info? e=some n)(hz:zeroCells? P.info? t=some z)(hp:partsOf (fun i=>some (i*n,n)) ps.toList=some qs)(hr:HR P aA w0 X H w)(hρ:OR aA X σ ρ){cs:List BV}(hf:fillB z (qs.map fun(o,n,x)=>(o,n,σ x))=some cs):Does P aA w0 X w o ρ (.agg cs) H:=by
 obtain⟨i,zv,hi,hzz,rfl⟩:=dK hz
 obtain⟨i',hi',rfl⟩:=size?_elim hn
 obtain⟨vs,h1,h2,_⟩:=vQ (place':=fun j=>some (j*i'.size,i'.size)) hρ ps.toList qs _ cs zv.cells (fun j p hj=>hj) hp (rD _) hf
 refine .plain hr (v':=.agg vs) ?_ ⟨vs,rfl,h2⟩
 have hb:P.built t (ps.map fun(i,x)=>(i,ρ x)).toList=some vs:=by
  unfold Program.built
  rw[hi,hu]
  simp only[hzz,hi']
  rw[Array.toList_map]
  exact h1
 simp[execOp,ho,run_build w t _ vs hb]

theorem sV{z:Array Value}{n m:Nat}(hz:z.size=m):VRL aA X (List.flatten (List.replicate n (z.toList.map aG1))) (madeCells z (n*m)).toList:=by
 refine VRL.of ?_ ?_
 ·simp[madeCells,hz]
 ·intro i c hc
  have hlt:i<n*m:=by
   have:=(List.getElem?_eq_some_iff.1 hc).1
   simpa[hz] using this
  have hm:0<m:=by
   rcases Nat.eq_zero_or_pos m with h|h
   ·subst h;simp at hlt
   ·exact h
  have key:∀(n i:Nat),i<n*m→(List.flatten (List.replicate n (z.toList.map aG1)))[i]?=(z.toList.map aG1)[i % m]?:=by
   intro n
   induction n with
   | zero=>intro i hi;simp at hi
   | succ n ih =>
    intro i hi
    rw[List.replicate_succ,List.flatten_cons]
    have hl:(z.toList.map aG1).length=m:=by simpa using hz
    by_cases h:i<m
    ·rw[List.getElem?_append_left (by omega),Nat.mod_eq_of_lt h]
    ·rw[List.getElem?_append_right (by omega),hl,ih _ (by rw[Nat.succ_mul] at hi;omega)]
     congr 1
     rw[←Nat.mod_eq_sub_mod (by omega)]
  rw[key n i hlt] at hc
  have hmod:i % m<z.size:=by rw[hz];exact Nat.mod_lt _ hm
  refine⟨z[i % m],?_,?_⟩
  ·simp[madeCells,hlt,hz,hmod]
   exact getElem!_pos z (i % m) hmod
  ·simp[hmod] at hc
   subst hc
   exact xY _

theorem does_mk{t e n len nb:Nat}{ps:Array (Nat×Operand)}{qs:List (Nat×Nat×Opd)}{z cs:List BV}{K:BH}(ho:o.op=.buildSlice t len ps)(hu:P.underlying t=some (.slice e))(hn:size? P.info? e=some n)(hz:zeroCells? P.info? e=some z)(hsmall:len*n≤16777216)(hsmall':len≤16777216)(hzn:z.length=n)(hp:partsOf (fun i=>some (i*n,n)) ps.toList=some qs)(hr:HR P aA w0 X H w)(hρ:OR aA X σ ρ)(hf:fillB (List.flatten (List.replicate len z)) (qs.map fun(o,n,x)=>(o,n,σ x))=some cs)(hm:H.make aA nb (.arr e cs)=some K):Does P aA w0 X w o ρ (.sl nb 0 len) K:=by
 obtain⟨i,zv,hi,hzz,rfl⟩:=dK hz
 obtain⟨i',hi',rfl⟩:=size?_elim hn
 rw[hi] at hi'
 cases hi'
 obtain⟨hfr,hb,rfl⟩:=dC hm
 have hzs:zv.cells.size=i.size:=by simpa using hzn
 obtain⟨vs,h1,h2,h3⟩:=vQ (place':=fun j=>some (j*i.size,i.size)) hρ ps.toList qs _ cs (madeCells zv.cells (len*i.size)) (fun j p hj=>hj) hp (sV hzs) hf
 obtain⟨r1,r2⟩:=hr.newRow hfr (ty:=e) h2
 rw[size_madeCells] at h3
 have hcell:P.cellsOf e=i.size:=by simp[Program.cellsOf,hi]
 refine⟨_,_,_,.slice (some ⟨w.heap.size,0,none⟩) len len,?_,.inl rfl,r2,⟨_,len,Tie.put_self _ _ _,rfl,Nat.le_refl _,fun _ _=>⟨by simp[hcell,h3],?_⟩⟩,r1⟩
 ·by_cases h0:len*i.size=0
  ·have hm0:madeCells zv.cells (len*i.size)=#[]:=by simp[madeCells,h0]
   rw[hm0] at h1
   have h1':Instr.fill (fun j=>some (j*i.size,i.size)) #[] (ps.map fun(i,x)=>(i,ρ x)).toList=some vs:=by rw[Array.toList_map];exact h1
   have e0:∀f:Nat→Value,(Array.range 0).map f=#[]:=fun f=>by rw[Array.range_zero'];exact Array.map_empty
   have hrun:(Instr.buildSlice t len (ps.map fun(i,x)=>(i,ρ x))).run P w=.ok (.slice (some ⟨w.heap.size,0,none⟩) len len) (w.alloc (.cells vs e)):=by
    simp[Instr.buildSlice,run_underlying hu,sizeOf,typeInfo,hi,h0]
    have h1'':Instr.fill (fun j=>some (j*i.size,i.size)) #[] (List.map (fun x=>(x.fst,ρ x.snd)) ps.toList)=some vs:=h1
    rw[e0,h1'']
    simp[newRow]
   simp only[execOp,ho,Sem.run_bind,hrun,Result.andThen_ok,Sem.run_pure]
  ·have h1':Instr.fill (fun j=>some (j*i.size,i.size)) ((Array.range (len*i.size)).map (zv.cells[· % zv.cells.size]!)) (ps.map fun(i,x)=>(i,ρ x)).toList=some vs:=by rw[Array.toList_map];exact h1
   have:=run_buildSlice (P:=P) w t e len (ps.map fun(i,x)=>(i,ρ x)) vs i zv hu hi hzz (by omega) h0 h1'
   simp only[execOp,ho,Sem.run_bind,this,Result.andThen_ok,Sem.run_pure]
 ·simp[maxLen]
  omega

end
end Go.B
end

section
namespace Go.B
set_option linter.unusedVariables false
set_option linter.unusedSimpArgs false

section
variable {P:Program} {aA:Nat} {w0 w:World} {X:Tie} {H:BH} {o:Oper} {ρ:Operand→Value} {σ:Opd→BV}

theorem qW{neg:Bool}{t e:TypeId}{t':TypeId}{x y:Operand}{x':Opd}(ho:o.op=.binOp (if neg then .neq else .eql) t x y t')(hu:P.underlying t=some (.slice e))(hy:qO y=true)(hx:opd x=some x')(hr:HR P aA w0 X H w)(hρ:OR aA X σ ρ)(hρc:∀v,ρ (.const v)=v)(h:σ x'=.nils∨∃b i n,σ x'=.sl b i n):Does P aA w0 X w o ρ (.bool (match σ x' with | .nils=>!neg|_=>neg)) H:=by
 have h1:=hρ x x' hx
 have h2:ρ y=.slice none 0 0:=by
  unfold qO at hy
  split at hy
  ·exact hρc _
  ·cases hy
 have key:∀(a:Option Addr) (l c:Nat),ρ x=.slice a l c→(execOp ρ o).run P w=.ok (.value (.bool (if neg then !a.isNone else a.isNone))) w:=by
  intro a l c e1
  have h3:=run_equalIn_slice_nil (P:=P) w 9999 t e a l c hu
  cases neg
  ·simp[execOp,ho,e1,h2,cA (P:=P) (w:=w) (a:=.slice a l c) rfl (by simp),binOp,Op.equal,Op.maxDepth,h3]
  ·simp[execOp,ho,e1,h2,cA (P:=P) (w:=w) (a:=.slice a l c) rfl (by simp),binOp,Op.equal,Op.maxDepth,h3]
 rcases h with h|⟨b,i,n,h⟩
 ·rw[h] at h1 ⊢
  have h1:ρ x=.slice none 0 0:=h1
  refine .plain hr (key _ _ _ h1) ?_
  cases neg<;>rfl
 ·rw[h] at h1 ⊢
  obtain⟨r,cap,_,e2,_⟩:=h1
  refine .plain hr (key _ _ _ e2) ?_
  cases neg<;>rfl

theorem lF{t kd:Nat}(h:xH P.underlying t=some kd):(∃k,P.underlying t=some (.int k)∧kd=0)∨(P.underlying t=some .string∧kd=1)∨(P.underlying t=some .bool∧kd=2):=by
 unfold xH at h
 split at h
 ·rename_i k hk;exact .inl ⟨k,hk,(Option.some.inj h).symm⟩
 ·rename_i hk;exact .inr (.inl ⟨hk,(Option.some.inj h).symm⟩)
 ·rename_i hk;exact .inr (.inr ⟨hk,(Option.some.inj h).symm⟩)
 ·cases h

theorem qN{kd:Nat}{a b:BV}{r:Bool}(h:aO6 kd a b=some r):(∃k x y,a=.int k x∧b=.int k y∧r=(x==y)∧kd=0)∨(∃x y,a=.str x∧b=.str y∧r=(x==y)∧kd=1) ∨
  (∃x y,a=.bool x∧b=.bool y∧r=(x==y)∧kd=2):=by
 unfold aO6 at h
 split at h
 ·split at h
  ·rename_i hk;obtain⟨rfl,rfl⟩:=hk;exact .inl ⟨_,_,_,rfl,rfl,(Option.some.inj h).symm,rfl⟩
  ·cases h
 ·split at h
  ·rename_i hk;subst hk;exact .inr (.inl ⟨_,_,rfl,rfl,(Option.some.inj h).symm,rfl⟩)
  ·cases h
 ·split at h
  ·rename_i hk;subst hk;exact .inr (.inr ⟨_,_,rfl,rfl,(Option.some.inj h).symm,rfl⟩)
  ·cases h
 ·cases h

theorem mV{d:Nat}{xs ys:List BV}{us vs:Array Value}(hx:VRL aA X xs us.toList)(hy:VRL aA X ys vs.toList):∀(fs:List Field) (ks:List (Nat×Nat)) (r:Bool),eC P.underlying fs=some ks →
  iV xs ys ks=some r→(Op.eqFields (d+1) us vs fs).run P w=.ok r w
 | [],ks,r,hk,h=>by
  simp[eC] at hk
  subst hk
  simp[iV] at h
  subst h
  rfl
 | f::fs,ks,r,hk,h=>by
  unfold eC at hk
  split at hk
  ·rename_i kd hkd
   split at hk
   ·cases hk
   ·rename_i hn
    cases hks:eC P.underlying fs with
    | none=>simp[hks] at hk
    | some ks' =>
     simp[hks] at hk
     subst hk
     unfold iV at h
     split at h
     ·rename_i a b ha hb
      obtain⟨u,hu,ku⟩:=hx.get _ _ ha
      obtain⟨v,hv,kv⟩:=hy.get _ _ hb
      have hu':us[f.offset]?=some u:=by simpa using hu
      have hv':vs[f.offset]?=some v:=by simpa using hv
      have step:∀q,aO6 kd a b=some q→(part f.type us f.offset).run P w=.ok u w∧(part f.type vs f.offset).run P w=.ok v w∧(Op.equalIn (d+1) f.type u v).run P w=.ok q w:=by
       intro q hq
       rcases qN hq with⟨k,x,y,rfl,rfl,rfl,rfl⟩|⟨x,y,rfl,rfl,rfl,rfl⟩|⟨x,y,rfl,rfl,rfl,rfl⟩
       ·have ku:u=.int k x:=ku
        have kv:v=.int k y:=kv
        subst ku;subst kv
        rcases lF hkd with⟨k',ht,_⟩|⟨_,he⟩|⟨_,he⟩
        ·refine⟨?_,?_,run_equalIn_int w d f.type k k' x y ht⟩
         ·simp[part,isAgg,run_underlying ht,hu']
         ·simp[part,isAgg,run_underlying ht,hv']
        ·simp at he
        ·simp at he
       ·have ku:u=.string x:=ku
        have kv:v=.string y:=kv
        subst ku;subst kv
        rcases lF hkd with⟨k',ht,he⟩|⟨ht,he⟩|⟨_,he⟩
        ·simp at he
        ·refine⟨?_,?_,?_⟩
         ·simp[part,isAgg,run_underlying ht,hu']
         ·simp[part,isAgg,run_underlying ht,hv']
         ·rw[run_equalIn_string w d f.type x y ht,←beq_toListBytes]
        ·simp at he
       ·have ku:u=.bool x:=ku
        have kv:v=.bool y:=kv
        subst ku;subst kv
        rcases lF hkd with⟨k',ht,he⟩|⟨ht,he⟩|⟨ht,he⟩
        ·simp at he
        ·simp at he
        ·refine⟨?_,?_,run_equalIn_bool' w d f.type x y ht⟩
         ·simp[part,isAgg,run_underlying ht,hu']
         ·simp[part,isAgg,run_underlying ht,hv']
      split at h
      ·rename_i hq
       obtain⟨s1,s2,s3⟩:=step _ hq
       simp only[Op.eqFields,ne_eq,hn,not_false_eq_true,if_true,Sem.run_bind,s1,s2,s3,Result.andThen_ok,Bool.not_true,Bool.false_eq_true,if_false]
       exact mV hx hy fs ks' r hks h
      ·rename_i hq
       obtain⟨s1,s2,s3⟩:=step _ hq
       simp only[Option.some.injEq] at h
       subst h
       simp only[Op.eqFields,ne_eq,hn,not_false_eq_true,if_true,Sem.run_bind,s1,s2,s3,Result.andThen_ok,Bool.not_false,Sem.run_pure]
      ·cases h
     ·cases h
  ·cases hk

theorem aW6{neg:Bool}{t t':TypeId}{x y:Operand}{x' y':Opd}{fs:Array Field}{ks:List (Nat×Nat)}(ho:o.op=.binOp (if neg then .neq else .eql) t x y t')(hu:P.underlying t=some (.struct fs))(hs:P.stoodInHeld t=false)(hg:P.eqGuardType P.depth t=false)(hk:eC P.underlying fs.toList=some ks)(hx:opd x=some x')(hy:opd y=some y')(hr:HR P aA w0 X H w)(hρ:OR aA X σ ρ){xs ys:List BV}(e1:σ x'=.agg xs)(e2:σ y'=.agg ys){r:Bool}(h:iV xs ys ks=some r):Does P aA w0 X w o ρ (.bool (if neg then !r else r)) H:=by
 have h1:=hρ x x' hx
 have h2:=hρ y y' hy
 rw[e1] at h1
 rw[e2] at h2
 obtain⟨us,u1,k1⟩:=h1
 obtain⟨vs,u2,k2⟩:=h2
 have hfs:P.fieldsOf t=fs:=by simp[Program.fieldsOf,hu]
 have h3:=run_equalIn_struct (P:=P) w 9999 t us vs (by rw[hfs];exact hu) hs
 rw[hfs,mV (d:=9998) k1 k2 fs.toList ks r hk h] at h3
 refine .plain hr (v':=.bool (if neg then !r else r)) ?_ rfl
 cases neg
 ·simp[execOp,ho,u1,u2,run_eqGuard_agg w _ t x y us vs hg,run_eql_struct,h3]
 ·simp[execOp,ho,u1,u2,run_eqGuard_agg w _ t x y us vs hg,run_neq_struct,h3]

theorem aE1{t:TypeId}{kd:Nat}{x:Operand}{y:Opd}{c:_root_.Go.Call}(ho:o.op=.call c)(hc:c.callee=.builtin .len)(hat:c.argTypes[0]?=some t)(hargs:c.args.toList=[x])(hy:opd x=some y)(hu:(P.underlying t=some .string∧kd=0)∨(∃e,P.underlying t=some (.slice e)∧kd=1)∨(∃k e,P.underlying t=some (.map k e)∧kd=2))(hr:HR P aA w0 X H w)(hρ:OR aA X σ ρ){v:BV}{nb:Nat}{H1:BH}(h:op1 aA nb σ H (.len kd y)=some (v,H1)):Does P aA w0 X w o ρ v H1:=by
 have h1:=hρ x y hy
 have ha:c.args.map ρ=#[ρ x]:=by
  apply Array.toList_inj.1
  rw[Array.toList_map,hargs]
  rfl
 have hexec:∀v',(Builtin.len_ c.argTypes o.type #[ρ x]).run P w=.ok v' w→(execOp ρ o).run P w=.ok (.value v') w:=by
  intro v' h2
  simp[execOp,ho,resolve,hc,ha,invoke,builtin,h2]
 simp only[op1] at h
 split at h
 ·rename_i s e1
  simp at h
  obtain⟨rfl,rfl⟩:=h
  rw[e1] at h1
  have h1:ρ x=.string s:=h1
  rcases hu with⟨hu,_⟩|⟨e,hu,he⟩|⟨k,e,hu,he⟩
  ·exact .plain hr (hexec (.int .i64 s.size) (by simp[Builtin.len_,hat,run_underlying hu,h1,goInt])) rfl
  ·simp at he
  ·simp at he
 ·rename_i e1
  simp at h
  obtain⟨rfl,rfl⟩:=h
  rw[e1] at h1
  have h1:ρ x=.slice none 0 0:=h1
  rcases hu with⟨hu,he⟩|⟨e,hu,he⟩|⟨k,e,hu,he⟩
  ·simp at he
  ·exact .plain hr (hexec (.int .i64 0) (by simp[Builtin.len_,hat,run_underlying hu,h1,goInt])) rfl
  ·simp at he
 ·rename_i e1
  simp at h
  obtain⟨rfl,rfl⟩:=h
  rw[e1] at h1
  obtain⟨a,cap,h1,_⟩:=h1
  rcases hu with⟨hu,he⟩|⟨e,hu,he⟩|⟨k,e,hu,he⟩
  ·simp at he
  ·exact .plain hr (hexec (.int .i64 0) (by simp[Builtin.len_,hat,run_underlying hu,h1,goInt])) rfl
  ·simp at he
 ·rename_i b i n e1
  simp at h
  obtain⟨rfl,rfl⟩:=h
  rw[e1] at h1
  obtain⟨r,cap,_,h1,_⟩:=h1
  rcases hu with⟨hu,he⟩|⟨e,hu,he⟩|⟨k,e,hu,he⟩
  ·simp at he
  ·exact .plain hr (hexec (.int .i64 n) (by simp[Builtin.len_,hat,run_underlying hu,h1,goInt])) rfl
  ·simp at he
 ·rename_i e1
  simp at h
  obtain⟨rfl,rfl⟩:=h
  rw[e1] at h1
  have h1:ρ x=.map none:=h1
  rcases hu with⟨hu,he⟩|⟨e,hu,he⟩|⟨k,e,hu,he⟩
  ·simp at he
  ·simp at he
  ·exact .plain hr (hexec (.int .i64 0) (by simp[Builtin.len_,hat,run_underlying hu,h1,goInt])) rfl
 ·rename_i b e1
  rw[e1] at h1
  obtain⟨r,hx,h1⟩:=h1
  split at h
  ·rename_i es hes
   simp at h
   obtain⟨rfl,rfl⟩:=h
   have hrow:=hr.row b
   rw[hes] at hrow
   obtain⟨r',es',clk,hx',hh,hER,_⟩:=hrow
   rw[hx] at hx'
   cases hx'
   have hlen:es.length=es'.size:=by
    have:∀(ms:List (BV×BV)) (l:List MapEntry),ER aA X ms l→ms.length=l.length:=by
     intro ms
     induction ms with
     | nil=>intro l hl;cases hl;rfl
     | cons p ms ih =>
      intro l hl
      obtain⟨e,es',rfl,_,_,hl⟩:=hl
      simp[ih es' hl]
    simpa using this _ _ hER
   rcases hu with⟨hu,he⟩|⟨e,hu,he⟩|⟨k,e,hu,he⟩
   ·simp at he
   ·simp at he
   ·have hg:(getObj r.blk).run P w=.ok (.map es' clk) w:=by simp[getObj,Sem.run,hh]
    exact .plain hr (hexec (.int .i64 es'.size) (by simp[Builtin.len_,hat,run_underlying hu,h1,hg,goInt])) (by rw[hlen];rfl)
  ·cases h
 ·cases h

theorem yX{v:BV}{n:Nat}(h:natOf v=some n):∃k,v=.int k (n:Int):=by
 unfold natOf at h
 split at h
 ·rename_i k m
  split at h
  ·rename_i hm
   simp at h
   exact⟨k,by rw[←h,Int.toNat_of_nonneg hm]⟩
  ·cases h
 ·cases h

theorem run_sliceBound{k:IntKind}{n y:Nat}{code:BoundsCode}(h:n≤y):(Instr.sliceBound (.int k (n:Int)) y code).run P w=.ok n w:=by
 have h2:(n:Int)≤(y:Int):=by omega
 simp[Instr.sliceBound,asIntOf,h2]

theorem eS{b:Bool}{len cap l h:Nat}{lo hi:Option Operand}{lo' hi':Option Opd}(hρ:OR aA X σ ρ)(hlo:∀x,lo=some x→∃y,lo'=some y∧opd x=some y)(hlo0:lo=none→lo'=none)(hhi:∀x,hi=some x→∃y,hi'=some y∧opd x=some y)(hhi0:hi=none→hi'=none)(hl:bY σ 0 lo'=some l)(hh:bY σ len hi'=some h)(h1:l≤h)(h2:h≤cap)(h3:len≤cap):
  (Instr.sliceBounds b len cap (lo.map ρ) (hi.map ρ) none).run P w=.ok (l,h,cap) w:=by
 have e1:∀x,hi=some x→∃k,ρ x=.int k (h:Int):=by
  intro x hx
  obtain⟨y,rfl,hy⟩:=hhi x hx
  obtain⟨k,ek⟩:=yX hh
  have:=hρ x y hy
  rw[ek] at this
  exact⟨k,this⟩
 have e2:∀x,lo=some x→∃k,ρ x=.int k (l:Int):=by
  intro x hx
  obtain⟨y,rfl,hy⟩:=hlo x hx
  obtain⟨k,ek⟩:=yX hl
  have:=hρ x y hy
  rw[ek] at this
  exact⟨k,this⟩
 have f1:hi=none→h=len:=by
  intro hx
  rw[hhi0 hx] at hh
  simpa[bY] using hh.symm
 have f2:lo=none→l=0:=by
  intro hx
  rw[hlo0 hx] at hl
  simpa[bY] using hl.symm
 cases hi with
 | none =>
  obtain rfl:=f1 rfl
  cases lo with
  | none=>obtain rfl:=f2 rfl;simp[Instr.sliceBounds]
  | some x=>obtain⟨k,e⟩:=e2 x rfl;simp[Instr.sliceBounds,e,run_sliceBound (P:=P) (w:=w) h1]
 | some z =>
  obtain⟨k',e'⟩:=e1 z rfl
  cases lo with
  | none=>obtain rfl:=f2 rfl;simp[Instr.sliceBounds,e',run_sliceBound (P:=P) (w:=w) h2]
  | some x=>obtain⟨k,e⟩:=e2 x rfl;simp[Instr.sliceBounds,e,e',run_sliceBound (P:=P) (w:=w) h1,run_sliceBound (P:=P) (w:=w) h2]

end
end Go.B
end

section
namespace Go.B
set_option linter.unusedVariables false
set_option linter.unusedSimpArgs false

section
variable {P:Program} {aA:Nat} {w0 w:World} {X:Tie} {H:BH} {o:Oper} {ρ:Operand→Value} {σ:Opd→BV}

structure Bounds(lo:Option Operand)(lo':Option Opd):Prop where
 some:∀x,lo=some x→∃y,lo'=some y∧opd x=some y
 none:lo=none→lo'=none

theorem bC9{t e n:Nat}{x:Operand}{y:Opd}{lo hi:Option Operand}{lo' hi':Option Opd}(ho:o.op=.slice t x lo hi none)(hu:P.underlying t=some (.slice e))(hs:size? P.info? e=some n)(hy:opd x=some y)(hlo:Bounds lo lo')(hhi:Bounds hi hi')(hr:HR P aA w0 X H w)(hρ:OR aA X σ ρ){nb:Nat}{v:BV}{H1:BH}(h:op1 aA nb σ H (.slice n y lo' hi')=some (v,H1)):Does P aA w0 X w o ρ v H1:=by
 have g1:=hρ x y hy
 obtain⟨i',hi',rfl⟩:=size?_elim hs
 simp only[op1] at h
 split at h
 ·rename_i b i m e1
  rw[e1] at g1
  obtain⟨r,cap,hx,e2,hle,hown⟩:=g1
  split at h
  ·rename_i l hb hl hh
   split at h
   ·rename_i hc
    obtain⟨c1,c2,c3⟩:=hc
    have hsb:=eS (P:=P) (w:=w) (b:=true) (len:=m) (cap:=cap) hρ hlo.some hlo.none hhi.some hhi.none hl hh c2 (by omega) hle
    split at h
    ·rename_i hlt
     simp at h
     obtain⟨rfl,rfl⟩:=h
     have hne:¬cap=l:=by omega
     refine .plain hr (v':=.slice (some ⟨r.blk,i+l*i'.size,none⟩) (hb-l) (cap-l)) ?_ ⟨r,cap-l,hx,rfl,by omega,fun hbb h0=>?_⟩
     ·have:(⟨r.blk,i,none⟩:Addr).add (l*i'.size)=⟨r.blk,i+l*i'.size,none⟩:=by unfold Addr.add;split<;>simp_all
      simp[execOp,ho,e2,Instr.sliceAt,Instr.slice,run_underlying hu,hsb,sizeOf,typeInfo,hi',hne,this]
     ·have hl0:l=0:=by
       rcases Nat.eq_zero_or_pos l with h|h
       ·exact h
       ·have:=Nat.mul_pos h (Nat.pos_of_ne_zero c1)
        omega
      subst hl0
      have:=hown hbb (by omega)
      simpa using this
    ·rename_i hlt
     simp at h
     obtain⟨rfl,rfl⟩:=h
     by_cases hcl:cap=l
     ·subst hcl
      refine .plain hr (v':=.slice (some ⟨r.blk,i,none⟩) (hb-cap) (cap-cap)) ?_ ⟨some ⟨r.blk,i,none⟩,cap-cap,by rw[show hb-cap=0 by omega],by simp⟩
      simp[execOp,ho,e2,Instr.sliceAt,Instr.slice,run_underlying hu,hsb,sizeOf,typeInfo,hi']
     ·refine .plain hr (v':=.slice (some ((⟨r.blk,i,none⟩:Addr).add (l*i'.size))) (hb-l) (cap-l)) ?_ ⟨some ((⟨r.blk,i,none⟩:Addr).add (l*i'.size)),cap-l,by rw[show hb-l=0 by omega],by simp⟩
      simp[execOp,ho,e2,Instr.sliceAt,Instr.slice,run_underlying hu,hsb,sizeOf,typeInfo,hi',hcl]
   ·cases h
  ·cases h
 ·rename_i e1
  rw[e1] at g1
  have g1:ρ x=.slice none 0 0:=g1
  split at h
  ·rename_i hl hh
   simp at h
   obtain⟨rfl,rfl⟩:=h
   have hsb:=eS (P:=P) (w:=w) (b:=true) (len:=0) (cap:=0) hρ hlo.some hlo.none hhi.some hhi.none hl hh (Nat.le_refl _) (Nat.le_refl _) (Nat.le_refl _)
   refine .plain hr (v':=.slice none 0 0) ?_ rfl
   simp[execOp,ho,g1,Instr.sliceAt,Instr.slice,run_underlying hu,hsb,sizeOf,typeInfo,hi']
  ·cases h
 ·rename_i e1
  rw[e1] at g1
  obtain⟨a,cap,e2,hn⟩:=g1
  split at h
  ·rename_i hl hh
   simp at h
   obtain⟨rfl,rfl⟩:=h
   have hsb:=eS (P:=P) (w:=w) (b:=true) (len:=0) (cap:=cap) hρ hlo.some hlo.none hhi.some hhi.none hl hh (Nat.le_refl _) (Nat.zero_le _) (Nat.zero_le _)
   have hadd:a.map (·.add (0*i'.size))=a:=by cases a<;>simp[Addr.add]
   refine .plain hr (v':=.slice a 0 cap) ?_ ⟨a,cap,rfl,hn⟩
   simp[execOp,ho,e2,Instr.sliceAt,Instr.slice,run_underlying hu,hsb,sizeOf,typeInfo,hi']
   intro _
   cases a<;>simp[Addr.add]
  ·cases h
 ·cases h

theorem aQ4{t:Nat}{x:Operand}{y:Opd}{lo hi:Option Operand}{lo' hi':Option Opd}(ho:o.op=.slice t x lo hi none)(hu:P.underlying t=some .string)(hy:opd x=some y)(hlo:Bounds lo lo')(hhi:Bounds hi hi')(hr:HR P aA w0 X H w)(hρ:OR aA X σ ρ){nb:Nat}{v:BV}{H1:BH}(h:op1 aA nb σ H (.sslice y lo' hi')=some (v,H1)):Does P aA w0 X w o ρ v H1:=by
 have g1:=hρ x y hy
 simp only[op1] at h
 split at h
 ·rename_i s e1
  rw[e1] at g1
  have g1:ρ x=.string s:=g1
  split at h
  ·rename_i l hb hl hh
   split at h
   ·rename_i hc
    simp at h
    obtain⟨rfl,rfl⟩:=h
    have hsb:=eS (P:=P) (w:=w) (b:=false) (len:=s.size) (cap:=s.size) hρ hlo.some hlo.none hhi.some hhi.none hl hh hc.1 hc.2 (Nat.le_refl _)
    refine .plain hr (v':=.string (s.extract l hb)) ?_ rfl
    simp[execOp,ho,g1,Instr.sliceAt,Instr.slice,run_underlying hu,hsb]
   ·cases h
  ·cases h
 ·cases h

theorem bD0{t nb:Nat}{K:BH}(ho:o.op=.makeMap t none)(hr:HR P aA w0 X H w)(hm:H.make aA nb (.mp [])=some K):Does P aA w0 X w o ρ (.mp nb) K:=by
 obtain⟨hf,hb,rfl⟩:=dC hm
 have hle:=Tie.le_put (X:=X) (b:=nb) ⟨w.heap.size,0,0⟩ (hr.fresh_none hf)
 refine⟨_,_,_,.map (some w.heap.size),?_,.inl rfl,hle,⟨_,Tie.put_self _ _ _,rfl⟩,hr.make (o:=.map #[] 0) hf rfl ?_⟩
 ·simp[execOp,ho,Instr.makeMap,World.alloc_eq]
 ·exact⟨_,#[],0,Tie.put_self _ _ _,heap_alloc_new w _,rfl,fun _=>hr.ext.size⟩

theorem does_mksl{t e nb:Nat}{i:TypeInfo}{zc:List BV}{x z:Operand}{y q:Opd}(ho:o.op=.makeSlice t x z)(hu:P.underlying t=some (.slice e))(hi:P.info? e=some i)(hz:zeroCells? P.info? e=some zc)(hzn:zc.length=i.size)(hy:opd x=some y)(hq:opd z=some q)(hr:HR P aA w0 X H w)(hρ:OR aA X σ ρ){v:BV}{H1:BH}(h:op1 aA nb σ H (.mksl e i.bytes zc y q)=some (v,H1)):Does P aA w0 X w o ρ v H1:=by
 have g1:=hρ x y hy
 have g2:=hρ z q hq
 obtain⟨i',zv,hi',hzz,rfl⟩:=dK hz
 rw[hi] at hi'
 cases hi'
 have hzs:zv.cells.size=i.size:=by simpa using hzn
 simp only[op1] at h
 split at h
 ·rename_i k n k' c e1 e2
  rw[e1] at g1
  rw[e2] at g2
  have g1:ρ x=.int k n:=g1
  have g2:ρ z=.int k' c:=g2
  split at h
  ·rename_i hc
   obtain⟨c1,c2,c3,c4⟩:=hc
   cases hm:H.make aA nb (.arr e (List.flatten (List.replicate n.toNat (zv.cells.toList.map aG1)))) with
   | none=>rw[hm] at h;cases h
   | some K =>
    rw[hm] at h
    simp at h
    obtain⟨rfl,rfl⟩:=h
    obtain⟨hf,hb,rfl⟩:=dC hm
    have hle:=Tie.le_put (X:=X) (b:=nb) ⟨w.heap.size,P.cellsOf e,c.toNat*i.size⟩ (hr.fresh_none hf)
    have hcell:P.cellsOf e=i.size:=by simp[Program.cellsOf,hi]
    have hrun:=run_make (P:=P) w t e i zv hu hi hzz k k' n c c1 c2 (by omega) (by omega)
    refine⟨_,_,_,.slice (some ⟨w.heap.size,0,none⟩) n.toNat c.toNat,?_,.inl rfl,hle,⟨_,c.toNat,Tie.put_self _ _ _,rfl,by omega,fun _ _=>⟨by simp[hcell],?_⟩⟩,hr.make (o:=.cells (madeCells zv.cells (c.toNat*i.size)) e) hf rfl ?_⟩
    ·simp[execOp,ho,g1,g2,hrun]
    ·simp[maxLen];omega
    ·refine⟨_,madeCells zv.cells (c.toNat*i.size),(0,0),Tie.put_self _ _ _,heap_alloc_new w _,size_madeCells _ _,rfl,fun j d hd=>?_,fun _=>⟨hr.ext.size,rfl⟩⟩
     obtain⟨u,hu,ku⟩:=(sV (aA:=aA) (X:=X.put nb ⟨w.heap.size,P.cellsOf e,c.toNat*i.size⟩) (n:=n.toNat) hzs).get j d hd
     have hlt:j<n.toNat*i.size:=by
      have:=(List.getElem?_eq_some_iff.1 hu).1
      simpa[size_madeCells] using this
     have hlt2:j<c.toNat*i.size:=Nat.lt_of_lt_of_le hlt (Nat.mul_le_mul_right _ (by omega))
     refine⟨u,?_,ku⟩
     rw[Array.getElem?_toList] at hu
     simp only[madeCells,Array.getElem?_map] at hu ⊢
     rw[show (Array.range (n.toNat*i.size))[j]?=some j by simp[hlt]] at hu
     rw[show (Array.range (c.toNat*i.size))[j]?=some j by simp[hlt2]]
     exact hu
  ·cases h
 ·cases h

end
end Go.B
end

section
namespace Go.B
set_option linter.unusedVariables false
set_option linter.unusedSimpArgs false

section
variable {P:Program} {aA:Nat} {w0 w:World} {X:Tie} {H:BH} {o:Oper} {ρ:Operand→Value} {σ:Opd→BV}

theorem pZ{w0 w w':World}(h:w0.Extends w)(ho:w'.os=w.os)(ht:w'.tape=w.tape)(hp:w'.output=w.output)(hs:w.heap.size≤w'.heap.size)(hb:∀k,k<w0.heap.size→w'.heap[k]?=w.heap[k]?):w0.Extends w':=by
 have hb':∀k,k<w0.heap.size→w'.heap[k]?=w0.heap[k]?:=fun k hk=>(hb k hk).trans (h.block k hk)
 exact⟨ho.trans h.os,ht.trans h.tape,hp.trans h.output,Nat.le_trans h.size hs,fun a ha=>World.cell?_of_block (hb' a.block ha),fun a ha=>World.frozen?_of_block (hb' a.block ha),hb'⟩

theorem qB{a b:ByteArray}(h:(a==b)=true):a=b:=by
 rw[beq_toListBytes,ByteArray.toList_eq,ByteArray.toList_eq] at h
 obtain⟨⟨x⟩⟩:=a
 obtain⟨⟨y⟩⟩:=b
 have:x=y:=by simpa using h
 rw[this]
theorem rL(a:ByteArray):(a==a)=true:=by
 rw[beq_toListBytes]
 simp

def uZ(desc:TypeDesc)(kd:Nat):Prop:=(∃k,desc=.int k∧kd=0)∨(desc=.string∧kd=1)∨(desc=.bool∧kd=2)

theorem kindOf_of{t kd:Nat}(h:xH P.underlying t=some kd):∃d,P.underlying t=some d∧uZ d kd:=by
 rcases lF h with⟨k,h1,rfl⟩|⟨h1,rfl⟩|⟨h1,rfl⟩
 ·exact⟨_,h1,.inl ⟨k,rfl,rfl⟩⟩
 ·exact⟨_,h1,.inr (.inl ⟨rfl,rfl⟩)⟩
 ·exact⟨_,h1,.inr (.inr ⟨rfl,rfl⟩)⟩

theorem run_checkKey{t:Nat}{d:TypeDesc}{kd:Nat}(hu:P.underlying t=some d)(hd:uZ d kd)(e:Bool)(n:Nat)(v:Value):(Instr.checkKey e (n+1) t v).run P w=.ok () w:=by
 rcases hd with⟨k,rfl,_⟩|⟨rfl,_⟩|⟨rfl,_⟩<;>cases v<;>simp[Instr.checkKey,run_underlying hu]

theorem mJ{desc:TypeDesc}{kd:Nat}(hd:uZ desc kd){a b:BV}{u v:Value}(ha:VR aA X a u)(hb:VR aA X b v){r:Bool}(h:aO6 kd a b=some r):Instr.sameNow desc u v=some r∧(r=true→v=u):=by
 rcases qN h with⟨k,x,y,rfl,rfl,rfl,rfl⟩|⟨x,y,rfl,rfl,rfl,rfl⟩|⟨x,y,rfl,rfl,rfl,rfl⟩
 ·have ha:u=.int k x:=ha
  have hb:v=.int k y:=hb
  subst ha;subst hb
  rcases hd with⟨k',rfl,_⟩|⟨_,he⟩|⟨_,he⟩
  ·exact⟨by simp[Instr.sameNow],fun e=>by simp at e;rw[e]⟩
  ·simp at he
  ·simp at he
 ·have ha:u=.string x:=ha
  have hb:v=.string y:=hb
  subst ha;subst hb
  rcases hd with⟨k',_,he⟩|⟨rfl,_⟩|⟨_,he⟩
  ·simp at he
  ·exact⟨by simp[Instr.sameNow],fun e=>by rw[qB e]⟩
  ·simp at he
 ·have ha:u=.bool x:=ha
  have hb:v=.bool y:=hb
  subst ha;subst hb
  rcases hd with⟨k',_,he⟩|⟨_,he⟩|⟨rfl,_⟩
  ·simp at he
  ·simp at he
  ·exact⟨by simp[Instr.sameNow],fun e=>by simp at e;rw[e]⟩

theorem mN{kd:Nat}{desc:TypeDesc}(hd:uZ desc kd){a b:BV}{r:Bool}(h:bK kd a b=some r):aO6 kd a b=some r:=by
 unfold bK at h
 split at h
 ·split at h
  ·rename_i hc
   rcases hd with⟨_,_,e⟩|⟨_,e⟩|⟨_,e⟩<;>omega
  ·cases h
 ·exact h

theorem xJ{desc:TypeDesc}{kd:Nat}(hd:uZ desc kd){kb:BV}{kv:Value}(hk:VR aA X kb kv):∀(ms:List (BV×BV)) (es:List MapEntry) (i:Nat) (r:Option BV),ER aA X ms es→iQ kd ms kb=some r →
  (r=none∧Instr.findNow desc kv es i=some none)∨(∃v j x,r=some v∧Instr.findNow desc kv es i=some (some (j,x))∧VR aA X v x)
 | [],es,i,r,he,h=>by
  cases he
  simp[iQ] at h
  exact .inl ⟨h.symm,rfl⟩
 | (k',v')::ms,es,i,r,he,h=>by
  obtain⟨e,es',rfl,h1,h2,h3⟩:=he
  unfold iQ at h
  split at h
  ·rename_i hq
   obtain⟨s1,s2⟩:=mJ hd hk h1 (mN hd hq)
   simp at h
   subst h
   exact .inr ⟨v',i,e.val,rfl,by simp[Instr.findNow,s1],h2⟩
  ·rename_i hq
   obtain⟨s1,s2⟩:=mJ hd hk h1 (mN hd hq)
   rcases xJ hd hk ms es' (i+1) r h3 h with⟨g1,g2⟩|⟨v,j,x,g1,g2,g3⟩
   ·exact .inl ⟨g1,by simp[Instr.findNow,s1,g2]⟩
   ·exact .inr ⟨v,j,x,g1,by simp[Instr.findNow,s1,g2],g3⟩
  ·cases h

theorem zD{desc:TypeDesc}{kd:Nat}(hd:uZ desc kd){kb vb:BV}{kv vv:Value}(hk:VR aA X kb kv)(hv:VR aA X vb vv):∀(ms:List (BV×BV)) (es:List MapEntry) (i:Nat) (ms':List (BV×BV)),ER aA X ms es →
  fA kd ms kb vb=some ms' →
  (Instr.findNow desc kv es i=some none∧∀n,ER aA X ms' (es++[⟨kv,vv,n⟩])) ∨
  (∃j e,Instr.findNow desc kv es i=some (some (i+j,e.val))∧es[j]?=some e∧e.key=kv∧ER aA X ms' (es.modify j fun e=>{ e with key:=kv,val:=vv })∧∃kb',bK kd kb kb'=some true)
 | [],es,i,ms',he,h=>by
  cases he
  simp[fA] at h
  subst h
  exact .inl ⟨rfl,fun n=>⟨_,[],rfl,hk,hv,rfl⟩⟩
 | (k',v')::ms,es,i,ms',he,h=>by
  obtain⟨e,es',rfl,h1,h2,h3⟩:=he
  unfold fA at h
  split at h
  ·rename_i hq
   obtain⟨s1,s2⟩:=mJ hd hk h1 (mN hd hq)
   simp at h
   subst h
   refine .inr ⟨0,e,by simp[Instr.findNow,s1],rfl,s2 rfl,?_⟩
   exact⟨⟨_,es',rfl,hk,hv,h3⟩,_,hq⟩
  ·rename_i hq
   obtain⟨s1,s2⟩:=mJ hd hk h1 (mN hd hq)
   cases hm:fA kd ms kb vb with
   | none=>simp[hm] at h
   | some ms'' =>
    simp[hm] at h
    subst h
    rcases zD hd hk hv ms es' (i+1) ms'' h3 hm with⟨g1,g2⟩|⟨j,x,g1,g2,g3,g4,g5⟩
    ·exact .inl ⟨by simp[Instr.findNow,s1,g1],fun n=>⟨e,_,rfl,h1,h2,g2 n⟩⟩
    ·exact .inr ⟨j+1,x,by simp[Instr.findNow,s1,g1];omega,by simpa using g2,g3,⟨e,_,rfl,h1,h2,g4⟩,g5⟩
  ·cases h

theorem aV3{d:Nat}:∀{xs ys:List BV} {us vs:List Value} {r:Bool},VRL aA X xs us→VRL aA X ys vs→bO xs ys=some r→(r=true→vs=us)∧xs.length=us.length∧ys.length=vs.length
 | [],[],us,vs,r,hx,hy,h=>by
  cases hx;cases hy
  exact⟨fun _=>rfl,rfl,rfl⟩
 | x::xs,y::ys,us,vs,r,hx,hy,h=>by
  obtain⟨u,us',rfl,hu,hx'⟩:=hx
  obtain⟨v,vs',rfl,hv,hy'⟩:=hy
  refine⟨?_,by simp[hx'.len],by simp[hy'.len]⟩
  intro hr
  subst hr
  unfold bO at h
  split at h
  ·rename_i e;cases e
  ·rename_i k a xs0 k' b ys0 e1 e2
   cases e1;cases e2
   split at h
   ·rename_i hk
    subst hk
    split at h
    ·rename_i hab
     have hu:u=.int k a:=hu
     have hv:v=.int k b:=hv
     have:a=b:=by simpa using hab
     subst this
     rw[hu,hv,(aV3 (d:=d) hx' hy' h).1 rfl]
    ·cases h
   ·cases h
  ·cases h
 | [],_::_,_,_,_,_,_,h=>by simp[bO] at h
 | _::_,[],_,_,_,_,_,h=>by simp[bO] at h

theorem xK{d:Nat}:∀(fs:List Field) (i:Nat) (xs ys:List BV) (us vs:Array Value) (r:Bool),iU P.underlying i fs=true→VRL aA X xs (us.toList.drop i)→VRL aA X ys (vs.toList.drop i)→xs.length=fs.length →
  bO xs ys=some r→(Op.eqFields (d+1) us vs fs).run P w=.ok r w
 | [],i,xs,ys,us,vs,r,hf,hx,hy,hl,h=>by
  have:xs=[]:=List.eq_nil_of_length_eq_zero hl
  subst this
  cases ys with
  | nil=>simp[bO] at h;subst h;rfl
  | cons y ys=>simp[bO] at h
 | f::fs,i,xs,ys,us,vs,r,hf,hx,hy,hl,h=>by
  simp only[iU,Bool.and_eq_true] at hf
  obtain⟨⟨⟨h1,h2⟩,h3⟩,h4⟩:=hf
  have ht:∃k,P.underlying f.type=some (.int k):=by
   split at h1
   ·rename_i k hk;exact⟨k,hk⟩
   ·cases h1
  obtain⟨kt,ht⟩:=ht
  have hn:f.name≠"_":=by simpa using h2
  have ho:f.offset=i:=by simpa using h3
  cases xs with
  | nil=>simp at hl
  | cons x xs =>
   cases ys with
   | nil=>simp[bO] at h
   | cons y ys =>
    obtain⟨u,us',eu,hu,hx'⟩:=hx
    obtain⟨v,vs',ev,hv,hy'⟩:=hy
    have gu:us[i]?=some u:=by
     have:=congrArg List.head? eu
     rw[List.head?_drop] at this
     simpa using this
    have gv:vs[i]?=some v:=by
     have:=congrArg List.head? ev
     rw[List.head?_drop] at this
     simpa using this
    have du:us.toList.drop (i+1)=us':=by rw[←List.tail_drop,eu];rfl
    have dv:vs.toList.drop (i+1)=vs':=by rw[←List.tail_drop,ev];rfl
    have s1:(part f.type us f.offset).run P w=.ok u w:=by simp[part,isAgg,run_underlying ht,ho,gu]
    have s2:(part f.type vs f.offset).run P w=.ok v w:=by simp[part,isAgg,run_underlying ht,ho,gv]
    unfold bO at h
    split at h
    ·rename_i e _;cases e
    ·rename_i k a xs0 k' b ys0 e1 e2
     cases e1;cases e2
     split at h
     ·rename_i hk
      subst hk
      have hu:u=.int k a:=hu
      have hv:v=.int k b:=hv
      subst hu;subst hv
      have s3:=run_equalIn_int (P:=P) w d f.type k kt a b ht
      split at h
      ·rename_i hab
       rw[hab] at s3
       simp only[Op.eqFields,ne_eq,hn,not_false_eq_true,if_true,Sem.run_bind,s1,s2,s3,Result.andThen_ok,Bool.not_true,Bool.false_eq_true,if_false]
       exact xK fs (i+1) xs ys us vs r h4 (by rw[du];exact hx') (by rw[dv];exact hy') (by simpa using hl) h
      ·rename_i hab
       have hab:(a==b)=false:=by simpa using hab
       rw[hab] at s3
       simp only[Option.some.injEq] at h
       subst h
       simp only[Op.eqFields,ne_eq,hn,not_false_eq_true,if_true,Sem.run_bind,s1,s2,s3,Result.andThen_ok,Bool.not_false,Sem.run_pure]
     ·cases h
    ·cases h

theorem zH{d e:Nat}{kt:IntKind}{c:Nat}(ht:P.underlying e=some (.int kt))(hc:c=1):∀(n i:Nat) (xs ys:List BV) (us vs:Array Value) (r:Bool),VRL aA X xs (us.toList.drop i)→VRL aA X ys (vs.toList.drop i)→xs.length=n →
  bO xs ys=some r→(Op.eqItems (d+1) e c us vs (List.range' i n)).run P w=.ok r w
 | 0,i,xs,ys,us,vs,r,hx,hy,hl,h=>by
  have:xs=[]:=List.eq_nil_of_length_eq_zero hl
  subst this
  cases ys with
  | nil=>simp[bO] at h;subst h;rfl
  | cons y ys=>simp[bO] at h
 | n+1,i,xs,ys,us,vs,r,hx,hy,hl,h=>by
  cases xs with
  | nil=>simp at hl
  | cons x xs =>
   cases ys with
   | nil=>simp[bO] at h
   | cons y ys =>
    obtain⟨u,us',eu,hu,hx'⟩:=hx
    obtain⟨v,vs',ev,hv,hy'⟩:=hy
    have gu:us[i]?=some u:=by
     have:=congrArg List.head? eu
     rw[List.head?_drop] at this
     simpa using this
    have gv:vs[i]?=some v:=by
     have:=congrArg List.head? ev
     rw[List.head?_drop] at this
     simpa using this
    have du:us.toList.drop (i+1)=us':=by rw[←List.tail_drop,eu];rfl
    have dv:vs.toList.drop (i+1)=vs':=by rw[←List.tail_drop,ev];rfl
    have s1:(part e us (i*c)).run P w=.ok u w:=by simp[part,isAgg,run_underlying ht,hc,gu]
    have s2:(part e vs (i*c)).run P w=.ok v w:=by simp[part,isAgg,run_underlying ht,hc,gv]
    unfold bO at h
    split at h
    ·rename_i e _;cases e
    ·rename_i k a xs0 k' b ys0 e1 e2
     cases e1;cases e2
     split at h
     ·rename_i hk
      subst hk
      have hu:u=.int k a:=hu
      have hv:v=.int k b:=hv
      subst hu;subst hv
      have s3:=run_equalIn_int (P:=P) w d e k kt a b ht
      rw[List.range'_succ]
      split at h
      ·rename_i hab
       rw[hab] at s3
       simp only[Op.eqItems,Sem.run_bind,s1,s2,s3,Result.andThen_ok,Bool.not_true,Bool.false_eq_true,if_false]
       exact zH ht hc n (i+1) xs ys us vs r (by rw[du];exact hx') (by rw[dv];exact hy') (by simpa using hl) h
      ·rename_i hab
       have hab:(a==b)=false:=by simpa using hab
       rw[hab] at s3
       simp only[Option.some.injEq] at h
       subst h
       simp only[Op.eqItems,Sem.run_bind,s1,s2,s3,Result.andThen_ok,Bool.not_false,if_true,Sem.run_pure]
     ·cases h
    ·cases h

theorem cK{sq:Nat→Bool}{t kd:Nat}(h:fK P.underlying P.info? sq t=some kd):
  (∃d,P.underlying t=some d∧uZ d kd)∨(∃fs,P.underlying t=some (.struct fs)∧sq t=true∧iU P.underlying 0 fs.toList=true∧kd=fs.size+3) ∨
  (∃n e k i,P.underlying t=some (.array n e)∧P.underlying e=some (.int k)∧P.info? e=some i∧i.size=1∧kd=n+3):=by
 unfold fK at h
 split at h
 ·rename_i fs hu
  split at h
  ·rename_i hc
   exact .inr (.inl ⟨fs,hu,hc.1,hc.2,(Option.some.inj h).symm⟩)
  ·cases h
 ·rename_i n e hu
  split at h
  ·rename_i k i h1 h2
   split at h
   ·rename_i h3
    exact .inr (.inr ⟨n,e,k,i,hu,h1,h2,h3,(Option.some.inj h).symm⟩)
   ·cases h
  ·cases h
 ·exact .inl (kindOf_of h)
theorem aO5{d:TypeDesc}{kd:Nat}(h:uZ d kd):kd<3:=by rcases h with⟨_,_,h⟩|⟨_,h⟩|⟨_,h⟩<;>omega
theorem aJ2{kd n:Nat}{k:BV}(h:pV kd k=true)(hn:kd=n+3):∃xs,k=.agg xs∧xs.length=n:=by
 subst hn
 unfold pV at h
 rw[if_neg (by omega)] at h
 split at h
 ·rename_i xs;exact⟨xs,rfl,by simpa using h⟩
 ·cases h

theorem sH{sq:Nat→Bool}{t kd:Nat}(h:fK P.underlying P.info? sq t=some kd)(em:Bool)(n:Nat){kb:BV}{kv:Value}(hv:VR aA X kb kv)(ho:pV kd kb=true):(Instr.checkKey em (n+2) t kv).run P w=.ok () w:=by
 rcases cK h with⟨d,h1,h2⟩|⟨fs,hu,_,hf,hkd⟩|⟨m,e,k,i,hu,he,hi,hi1,hkd⟩
 ·exact run_checkKey h1 h2 em (n+1) kv
 ·obtain⟨xs,rfl,hl⟩:=aJ2 ho hkd
  obtain⟨us,rfl,hx⟩:=hv
  have hlen:us.toList.length=fs.toList.length:=by rw[←hx.len,hl];simp
  rw[show n+2=(n+1)+1 from rfl,Instr.checkKey]
  simp only[Sem.run_bind,run_underlying hu,Result.andThen_ok]
  rw[←Array.forIn_toList]
  have hj0:∃j,iU P.underlying j fs.toList=true∧j+fs.toList.length≤us.toList.length:=⟨0,hf,by omega⟩
  clear hf hlen
  generalize fs.toList=L at hj0
  induction L with
  | nil=>simp
  | cons f L ih =>
   obtain⟨j,hj,hlen⟩:=hj0
   simp only[iU,Bool.and_eq_true] at hj
   obtain⟨⟨⟨g1,g2⟩,g3⟩,g4⟩:=hj
   obtain⟨kt,ht⟩:∃k,P.underlying f.type=some (.int k):=by
    split at g1
    ·rename_i k hk;exact⟨k,hk⟩
    ·cases g1
   have hn:f.name≠"_":=by simpa using g2
   have ho:f.offset=j:=by simpa using g3
   simp only[List.length_cons] at hlen
   have hlt:j<us.size:=by simpa using (show j<us.toList.length by omega)
   have s1:(part f.type us f.offset).run P w=.ok us[j] w:=by simp[part,isAgg,run_underlying ht,ho,Array.getElem?_eq_getElem hlt]
   have s2:(Instr.checkKey em (n+1) f.type us[j]).run P w=.ok () w:=run_checkKey ht (.inl ⟨kt,rfl,rfl⟩) em n _
   simp only[List.forIn_cons,Sem.run_bind,hn,ne_eq,not_false_eq_true,if_true,Result.andThen_ok,s1,s2,Sem.run_pure]
   exact ih ⟨j+1,g4,by omega⟩
 ·obtain⟨xs,rfl,hl⟩:=aJ2 ho hkd
  obtain⟨us,rfl,hx⟩:=hv
  have hlen:us.size=m:=by rw[←Array.length_toList,←hx.len,hl]
  rw[show n+2=(n+1)+1 from rfl,Instr.checkKey]
  simp only[Sem.run_bind,run_underlying hu,Result.andThen_ok]
  simp only[Std.Legacy.Range.forIn_eq_forIn_range',Std.Legacy.Range.size,Nat.sub_zero,Nat.add_one_sub_one,Nat.div_one]
  have hall:∀j∈List.range' 0 m,j<us.size:=by
   intro j hj
   have:=List.mem_range'_1.1 hj
   omega
  generalize List.range' 0 m=is at hall
  induction is with
  | nil=>simp
  | cons j is ih =>
   have hlt:j<us.size:=hall j (by simp)
   have hsz:(sizeOf e).run P w=.ok i.size w:=by simp[sizeOf,typeInfo,hi]
   have s1:(part e us (j*i.size)).run P w=.ok us[j] w:=by simp[part,isAgg,run_underlying he,hi1,Array.getElem?_eq_getElem hlt]
   have s2:(Instr.checkKey em (n+1) e us[j]).run P w=.ok () w:=run_checkKey he (.inl ⟨k,rfl,rfl⟩) em n _
   simp only[List.forIn_cons,Sem.run_bind,hsz,Result.andThen_ok,s1,s2,Sem.run_pure]
   exact ih fun y hy=>hall y (by simp[hy])

theorem qU{sq:Nat→Bool}(hsq:∀t,sq t=true→P.stoodInHeld t=false∧P.eqGuardType P.depth t=false){t kd:Nat}(h:fK P.underlying P.info? sq t=some kd)(h3:3≤kd){a b:BV}{u v:Value}(ha:VR aA X a u)(hb:VR aA X b v){r:Bool}(hr:bK kd a b=some r):
  (Op.equal t u v).run P w=.ok r w∧(r=true→v=u):=by
 have hag:∃xs ys,a=.agg xs∧b=.agg ys∧xs.length+3=kd∧ys.length+3=kd∧bO xs ys=some r:=by
  unfold bK at hr
  split at hr
  ·rename_i xs ys
   split at hr
   ·rename_i hc;exact⟨xs,ys,rfl,rfl,hc.1,hc.2,hr⟩
   ·cases hr
  ·rcases qN hr with⟨_,_,_,_,_,_,e⟩|⟨_,_,_,_,_,e⟩|⟨_,_,_,_,_,e⟩<;>omega
 obtain⟨xs,ys,rfl,rfl,hl1,hl2,hi⟩:=hag
 obtain⟨us,rfl,hx⟩:=ha
 obtain⟨vs,rfl,hy⟩:=hb
 refine⟨?_,fun e=>?_⟩
 ·rcases cK h with⟨d,h1,h2⟩|⟨fs,hu,hs,hf,hkd⟩|⟨m,e,k,i,hu,he,hin,hi1,hkd⟩
  ·have:=aO5 h2;omega
  ·have hfs:P.fieldsOf t=fs:=by simp[Program.fieldsOf,hu]
   have g:=run_equalIn_struct (P:=P) w 9999 t us vs (by rw[hfs];exact hu) (hsq t hs).1
   rw[hfs,xK (d:=9998) fs.toList 0 xs ys us vs r hf (by simpa using hx) (by simpa using hy) (by simp;omega) hi] at g
   exact g
  ·have hc:P.cellsOf e=1:=by simp[Program.cellsOf,hin,hi1]
   have g:=run_equalIn_array (P:=P) (w:=w) 9999 us vs hu hin
   rw[List.range_eq_range',zH (d:=9998) he hc m 0 xs ys us vs r (by simpa using hx) (by simpa using hy) (by omega) hi] at g
   exact g
 ·have:=(aV3 (d:=0) hx hy hi).1 e
  rw[Array.toList_inj.1 this]

theorem aP9{sq:Nat→Bool}(hsq:∀t,sq t=true→P.stoodInHeld t=false∧P.eqGuardType P.depth t=false){t kd:Nat}(hkd:fK P.underlying P.info? sq t=some kd){kb:BV}{kv:Value}(hk:VR aA X kb kv)(ms:List (BV×BV))(es:List MapEntry)(r:Option BV)(hE:ER aA X ms es)(h:iQ kd ms kb=some r):
  (r=none∧(Instr.findKey t kv es).run P w=.ok none w)∨(∃v j x,r=some v∧(Instr.findKey t kv es).run P w=.ok (some (j,x)) w∧VR aA X v x):=by
 by_cases h3:3≤kd
 ·have hask:∀(ms:List (BV×BV)) (es:List MapEntry) (i:Nat),ER aA X ms es→iQ kd ms kb=some r →
    (r=none∧(Instr.findAsking t kv es i).run P w=.ok none w)∨(∃v j x,r=some v∧(Instr.findAsking t kv es i).run P w=.ok (some (j,x)) w∧VR aA X v x):=by
   intro ms
   induction ms with
   | nil=>intro es i he h;cases he;simp[iQ] at h;exact .inl ⟨h.symm,by simp[Instr.findAsking]⟩
   | cons p ms ih =>
    obtain⟨k',v'⟩:=p
    intro es i he h
    obtain⟨e,es',rfl,h1,h2,h3'⟩:=he
    unfold iQ at h
    split at h
    ·rename_i hq
     obtain⟨s1,s2⟩:=qU (w:=w) hsq hkd h3 hk h1 hq
     simp at h
     subst h
     exact .inr ⟨v',i,e.val,rfl,by simp[Instr.findAsking,s1],h2⟩
    ·rename_i hq
     obtain⟨s1,s2⟩:=qU (w:=w) hsq hkd h3 hk h1 hq
     rcases ih es' (i+1) h3' h with⟨g1,g2⟩|⟨v,j,x,g1,g2,g3⟩
     ·exact .inl ⟨g1,by simp[Instr.findAsking,s1,g2]⟩
     ·exact .inr ⟨v,j,x,g1,by simp[Instr.findAsking,s1,g2],g3⟩
    ·cases h
  have hnow:∀d,P.underlying t=some d→es≠[]→Instr.findNow d kv es 0=none:=by
   intro d hd hne
   cases es with
   | nil=>exact absurd rfl hne
   | cons e es =>
    have:Instr.sameNow d kv e.key=none:=by
     rcases cK hkd with⟨d',h1,h2⟩|⟨fs,hu,_,_,_⟩|⟨m,e',k,i,hu,_,_,_,_⟩
     ·have:=aO5 h2;omega
     ·rw[hu] at hd;cases hd;rfl
     ·rw[hu] at hd;cases hd;rfl
    simp[Instr.findNow,this]
  obtain⟨d,hd⟩:∃d,P.underlying t=some d:=by
   rcases cK hkd with⟨d',h1,_⟩|⟨fs,hu,_⟩|⟨m,e',k,i,hu,_⟩
   ·exact⟨_,h1⟩
   ·exact⟨_,hu⟩
   ·exact⟨_,hu⟩
  by_cases hne:es=[]
  ·subst hne
   have:ms=[]:=by
    cases ms with
    | nil=>rfl
    | cons p ms=>obtain⟨e,es',e1,_⟩:=hE;cases e1
   subst this
   simp[iQ] at h
   exact .inl ⟨h.symm,by simp[Instr.findKey,run_underlying hd,Instr.findNow]⟩
  ·have g:=hask ms es 0 hE h
   simpa[Instr.findKey,run_underlying hd,hnow d hd hne] using g
 ·rcases cK hkd with⟨d,h1,h2⟩|⟨fs,_,_,_,e⟩|⟨m,_,_,_,_,_,_,_,e⟩
  ·rcases xJ h2 hk ms es 0 r hE h with⟨g1,g2⟩|⟨v,j,x,g1,g2,g3⟩
   ·exact .inl ⟨g1,by simp[Instr.findKey,run_underlying h1,g2]⟩
   ·exact .inr ⟨v,j,x,g1,by simp[Instr.findKey,run_underlying h1,g2],g3⟩
  ·omega
  ·omega

theorem sE:∀{xs ys:List BV} {us:List Value},VRL aA X xs us→bO xs ys=some true→(us.zip us).all (fun(x,y)=>Instr.sameBits 9999 x y)=true
 | [],_,us,h,_=>by cases h;rfl
 | x::xs,[],_,_,h=>by simp[bO] at h
 | x::xs,y::ys,us,hx,h=>by
  obtain⟨u,us',rfl,hu,hx'⟩:=hx
  unfold bO at h
  split at h
  ·rename_i e;cases e
  ·rename_i k a xs0 k' b ys0 e1 e2
   cases e1;cases e2
   split at h
   ·split at h
    ·have hu:u=.int k a:=hu
     subst hu
     simp only[List.zip_cons_cons,List.all_cons,sE hx' h,Bool.and_true]
     simp[Instr.sameBits]
    ·cases h
   ·cases h
  ·cases h
theorem aG7{kd:Nat}{a b:BV}{u:Value}(ha:VR aA X a u)(h:bK kd a b=some true):Instr.sameBits 10000 u u=true:=by
 unfold bK at h
 split at h
 ·rename_i xs ys
  split at h
  ·obtain⟨us,rfl,hx⟩:=ha
   have:=sE hx h
   rw[show (10000:Nat)=9999+1 from rfl]
   simp only[Instr.sameBits,beq_self_eq_true,Bool.true_and]
   exact this
  ·cases h
 ·rcases qN h with⟨k1,x,y,rfl,_⟩|⟨x,y,rfl,_⟩|⟨x,y,rfl,_⟩
  ·have ha:u=.int k1 x:=ha
   simp[ha,Instr.sameBits]
  ·have ha:u=.string x:=ha
   simp[ha,Instr.sameBits,rL]
  ·have ha:u=.bool x:=ha
   simp[ha,Instr.sameBits]

theorem aY9{sq:Nat→Bool}(hsq:∀t,sq t=true→P.stoodInHeld t=false∧P.eqGuardType P.depth t=false){t kd:Nat}(hkd:fK P.underlying P.info? sq t=some kd){kb vb:BV}{kv vv:Value}(hk:VR aA X kb kv)(hv:VR aA X vb vv):
  ∀(ms:List (BV×BV)) (es:List MapEntry) (ms':List (BV×BV)),ER aA X ms es→fA kd ms kb vb=some ms' →
  ((Instr.findKey t kv es).run P w=.ok none w∧∀n,ER aA X ms' (es++[⟨kv,vv,n⟩])) ∨
  (∃j e,(Instr.findKey t kv es).run P w=.ok (some (j,e.val)) w∧es[j]?=some e∧e.key=kv∧ER aA X ms' (es.modify j fun e=>{ e with key:=kv,val:=vv })∧∃kb',bK kd kb kb'=some true):=by
 by_cases h3:3≤kd
 ·have hask:∀(ms:List (BV×BV)) (es:List MapEntry) (i:Nat) (ms':List (BV×BV)),ER aA X ms es→fA kd ms kb vb=some ms' →
    ((Instr.findAsking t kv es i).run P w=.ok none w∧∀n,ER aA X ms' (es++[⟨kv,vv,n⟩])) ∨
    (∃j e,(Instr.findAsking t kv es i).run P w=.ok (some (i+j,e.val)) w∧es[j]?=some e∧e.key=kv∧ER aA X ms' (es.modify j fun e=>{ e with key:=kv,val:=vv })∧∃kb',bK kd kb kb'=some true):=by
   intro ms
   induction ms with
   | nil =>
    intro es i ms' he h
    cases he
    simp[fA] at h
    subst h
    exact .inl ⟨by simp[Instr.findAsking],fun n=>⟨_,[],rfl,hk,hv,rfl⟩⟩
   | cons p ms ih =>
    obtain⟨k',v'⟩:=p
    intro es i ms' he h
    obtain⟨e,es',rfl,h1,h2,h3'⟩:=he
    unfold fA at h
    split at h
    ·rename_i hq
     obtain⟨s1,s2⟩:=qU (w:=w) hsq hkd h3 hk h1 hq
     simp at h
     subst h
     exact .inr ⟨0,e,by simp[Instr.findAsking,s1],rfl,s2 rfl,⟨_,es',rfl,hk,hv,h3'⟩,_,hq⟩
    ·rename_i hq
     obtain⟨s1,s2⟩:=qU (w:=w) hsq hkd h3 hk h1 hq
     cases hm:fA kd ms kb vb with
     | none=>simp[hm] at h
     | some ms'' =>
      simp[hm] at h
      subst h
      rcases ih es' (i+1) ms'' h3' hm with⟨g1,g2⟩|⟨j,x,g1,g2,g3,g4,g5⟩
      ·exact .inl ⟨by simp[Instr.findAsking,s1,g1],fun n=>⟨e,_,rfl,h1,h2,g2 n⟩⟩
      ·exact .inr ⟨j+1,x,by simp[Instr.findAsking,s1,g1];omega,by simpa using g2,g3,⟨e,_,rfl,h1,h2,g4⟩,g5⟩
    ·cases h
  intro ms es ms' he h
  obtain⟨d,hd⟩:∃d,P.underlying t=some d:=by
   rcases cK hkd with⟨d',h1,_⟩|⟨fs,hu,_⟩|⟨m,e',k,i,hu,_⟩
   ·exact⟨_,h1⟩
   ·exact⟨_,hu⟩
   ·exact⟨_,hu⟩
  cases es with
  | nil =>
   have:ms=[]:=by
    cases ms with
    | nil=>rfl
    | cons p ms=>obtain⟨e,es',e1,_⟩:=he;cases e1
   subst this
   simp[fA] at h
   subst h
   exact .inl ⟨by simp[Instr.findKey,run_underlying hd,Instr.findNow],fun n=>⟨_,[],rfl,hk,hv,rfl⟩⟩
  | cons e0 es0 =>
   have hnow:Instr.findNow d kv (e0::es0) 0=none:=by
    have:Instr.sameNow d kv e0.key=none:=by
     rcases cK hkd with⟨d',h1,h2⟩|⟨fs,hu,_,_,_⟩|⟨m,e',k,i,hu,_,_,_,_⟩
     ·have:=aO5 h2;omega
     ·rw[hu] at hd;cases hd;rfl
     ·rw[hu] at hd;cases hd;rfl
    simp[Instr.findNow,this]
   have g:=hask ms (e0::es0) 0 ms' he h
   simpa only[Instr.findKey,Sem.run_bind,run_underlying hd,Result.andThen_ok,hnow,Nat.zero_add] using g
 ·rcases cK hkd with⟨d,h1,h2⟩|⟨fs,_,_,_,e⟩|⟨m,_,_,_,_,_,_,_,e⟩
  ·intro ms es ms' he h
   rcases zD h2 hk hv ms es 0 ms' he h with⟨g1,g2⟩|⟨j,e,g1,g2,g3,g4,g5⟩
   ·exact .inl ⟨by simp[Instr.findKey,run_underlying h1,g1],g2⟩
   ·exact .inr ⟨j,e,by simp[Instr.findKey,run_underlying h1,g1],g2,g3,g4,g5⟩
  ·omega
  ·omega

theorem aA0:∀{cs:List BV} {vs:List Value} {xs:List Int},VRL aA X cs vs→qC cs=some xs→vs=xs.map (Value.int .u8)
 | [],_,_,rfl,h=>by simp[qC] at h;subst h;rfl
 | c::cs,_,xs,⟨v,r,rfl,k,l⟩,h=>by
  unfold qC at h
  split at h
  ·rename_i e;cases e
  ·rename_i n r' e
   cases e
   cases hq:qC cs with
   | none=>rw[hq] at h;cases h
   | some ys =>
    rw[hq] at h
    simp at h
    subst h
    simp only[VR] at k
    rw[k,aA0 l hq]
    rfl
  ·cases h

theorem does_b2s{s d e:TypeId}{x:Operand}{y:Opd}(ho:o.op=.convert s d x)(hs:P.underlying s=some (.slice e))(hd:P.underlying d=some .string)(he:P.underlying e=some (.int .u8))(hy:opd x=some y)(hr:HR P aA w0 X H w)(hρ:OR aA X σ ρ){nb:Nat}{v:BV}{H1:BH}(h:op1 aA nb σ H (.b2s e y)=some (v,H1)):Does P aA w0 X w o ρ v H1:=by
 have g1:=hρ x y hy
 simp only[op1] at h
 split at h
 ·rename_i e1
  rw[e1] at g1
  simp only[VR] at g1
  simp at h
  obtain⟨rfl,rfl⟩:=h
  refine .plain hr (v':=.string ByteArray.empty) ?_ rfl
  simp[execOp,ho,g1,run_convert_bytes_nil w s e hs he 0 0 d hd]
 ·rename_i b i n e1
  rw[e1] at g1
  obtain⟨r,cap,hX,e2,_⟩:=g1
  split at h
  ·rename_i t cs hrow
   split at h
   ·rename_i hcnd
    cases hq:qC ((cs.drop i).take n) with
    | none=>rw[hq] at h;cases h
    | some xs =>
     rw[hq] at h
     simp at h
     obtain⟨rfl,rfl⟩:=h
     obtain⟨r',vs,hX',hvl,hcell,hrel⟩:=hr.cells hrow hcnd.2
     rw[hX] at hX'
     cases hX'
     have hvs:=aA0 hrel hq
     subst hvs
     simp at hvl
     refine .plain hr (v':=.string (strOfNums xs)) ?_ rfl
     have:=run_convert_bytes_arg (P:=P) w s e hs he r.blk i n cap xs hvl (fun j hj=>by
      refine hcell j _ ?_
      simp[List.getElem?_eq_getElem (show j<xs.length by omega)]) d hd
     simp[execOp,ho,e2,this]
   ·cases h
  ·cases h
 ·cases h

theorem does_look{sq:Nat→Bool}(hsq:∀t,sq t=true→P.stoodInHeld t=false∧P.eqGuardType P.depth t=false){t kt e kd:Nat}{i:TypeInfo}{z:Value}{okk:Bool}{x k:Operand}{x' k':Opd}(ho:o.op=.lookup t x k okk)(hu:P.underlying t=some (.map kt e))(hkd:fK P.underlying P.info? sq kt=some kd)(hi:P.info? e=some i)(hz:i.zero=some z)(hx:opd x=some x')(hk:opd k=some k')(hr:HR P aA w0 X H w)(hρ:OR aA X σ ρ){nb:Nat}{v:BV}{H1:BH}(h:op1 aA nb σ H (.look kd okk (toB z) x' k')=some (v,H1)):Does P aA w0 X w o ρ v H1:=by
 have g1:=hρ x x' hx
 have g2:=hρ k k' hk
 simp only[op1] at h
 split at h
 ·rename_i b e1
  rw[e1] at g1
  obtain⟨r,hX,e2⟩:=g1
  split at h
  ·rename_i ms hms
   have hrow:=hr.row b
   rw[hms] at hrow
   obtain⟨r',es,clk,hX',hh,hER,_⟩:=hrow
   rw[hX] at hX'
   cases hX'
   have hg:(getObj r.blk).run P w=.ok (.map es clk) w:=by simp[getObj,Sem.run,hh]
   split at h
   rotate_left
   ·cases h
   rename_i hkok
   cases hm:iQ kd ms (σ k') with
   | none=>rw[hm] at h;cases h
   | some q =>
    rw[hm] at h
    simp at h
    obtain⟨rfl,rfl⟩:=h
    have hck:=sH (P:=P) (w:=w) hkd es.isEmpty 9998 g2 hkok
    rcases aP9 (w:=w) hsq hkd g2 ms es.toList q hER hm with⟨rfl,g⟩|⟨u,j,xv,rfl,g,gv⟩
    ·refine .plain hr (v':=if okk then .tuple #[z,.bool false] else z) ?_ ?_
     ·simp[execOp,ho,e2,Instr.lookup,run_underlying hu,hg,hck,g,zeroValue,typeInfo,hi,hz]
     ·cases okk
      ·exact VR_toB z
      ·exact⟨_,rfl,_,_,rfl,VR_toB z,_,_,rfl,rfl,rfl⟩
    ·refine .plain hr (v':=if okk then .tuple #[xv,.bool true] else xv) ?_ ?_
     ·simp[execOp,ho,e2,Instr.lookup,run_underlying hu,hg,hck,g]
     ·cases okk
      ·exact gv
      ·exact⟨_,rfl,_,_,rfl,gv,_,_,rfl,rfl,rfl⟩
  ·cases h
 ·cases h

theorem aL3{sq:Nat→Bool}(hsq:∀t,sq t=true→P.stoodInHeld t=false∧P.eqGuardType P.depth t=false){t kt e kd:Nat}{x k y:Operand}{x' k' y':Opd}(ho:o.op=.mapUpdate t x k y∨o.op=.insert t x k y)(hu:P.underlying t=some (.map kt e))(hkd:fK P.underlying P.info? sq kt=some kd)(hx:opd x=some x')(hk:opd k=some k')(hy:opd y=some y')(hr:HR P aA w0 X H w)(hρ:OR aA X σ ρ){nb:Nat}{v:BV}{H1:BH}(h:op1 aA nb σ H (.mset kd x' k' y')=some (v,H1)):Does P aA w0 X w o ρ v H1:=by
 have g1:=hρ x x' hx
 have g2:=hρ k k' hk
 have g3:=hρ y y' hy
 simp only[op1] at h
 split at h
 ·rename_i b e1
  rw[e1] at g1
  obtain⟨r,hX,e2⟩:=g1
  split at h
  ·rename_i ms hms
   split at h
   ·rename_i hbase0
    obtain⟨hbase,hkok⟩:=hbase0
    have hrow:=hr.row b
    rw[hms] at hrow
    obtain⟨r',es,clk,hX',hh,hER,hlow⟩:=hrow
    rw[hX] at hX'
    cases hX'
    have hg:(getObj r.blk).run P w=.ok (.map es clk) w:=by simp[getObj,Sem.run,hh]
    have hlt:=(Array.getElem?_eq_some_iff.1 hh).1
    cases hm:fA kd ms (σ k') (σ y') with
    | none=>rw[hm] at h;cases h
    | some ms' =>
     rw[hm] at h
     simp at h
     obtain⟨rfl,rfl⟩:=h
     have hck:=sH (P:=P) (w:=w) hkd false 9998 g2 hkok
     have fin:∀(es':Array MapEntry) (clk':Nat),(Instr.mapUpdate t (ρ x) (ρ k) (ρ y)).run P w=.ok () { w with heap:=w.heap.setIfInBounds r.blk (.map es' clk') }→ER aA X ms' es'.toList→Does P aA w0 X w o ρ (.tup []) (H.set b (.mp ms')):=by
      intro es' clk' hrun hER'
      refine⟨.skip,_,X,undef,?_,.inr ⟨rfl,rfl⟩,Tie.le_refl X,⟨#[],rfl,rfl⟩,hr.write (w':={ w with heap:=w.heap.setIfInBounds r.blk (.map es' clk') }) (by rw[hms];rfl) hX
       (pZ hr.ext rfl rfl rfl (by simp) fun j hj=>?_) (fun j _ hj=>?_) rfl ⟨r,es',clk',hX,?_,hER',hlow⟩⟩
      ·rcases ho with ho|ho<;>simp[execOp,ho,hrun]
      ·have:=hlow hbase
       simp[Array.getElem?_setIfInBounds,show r.blk≠j by omega]
      ·simp[Array.getElem?_setIfInBounds,Ne.symm hj]
      ·simp[hlt]
     have hset:∀ob,(setObj r.blk ob).run P w=.ok () { w with heap:=w.heap.setIfInBounds r.blk ob }:=by
      intro ob
      simp[setObj,Sem.run,hh]
     rcases aY9 (w:=w) hsq hkd g2 g3 ms es.toList ms' hER hm with⟨f1,f2⟩|⟨j,en,f1,f2,f3,f4,kb',f5⟩
     ·refine fin (es.push ⟨ρ k,ρ y,clk⟩) (clk+1) ?_ (by simpa using f2 clk)
      simp[Instr.mapUpdate,e2,run_underlying hu,hg,hck,f1,hset]
     ·have hj:es[j]?=some en:=by simpa using f2
      refine fin (es.modify j fun e=>{ e with key:=ρ k,val:=ρ y }) clk ?_ (by simpa using f4)
      have hsame:Instr.sameBits 10000 (ρ k) (ρ k)=true:=aG7 g2 f5
      simp[Instr.mapUpdate,e2,run_underlying hu,hg,hck,f1,hset,hj,f3,Instr.keyThatStays,hsame]
   ·cases h
  ·cases h
 ·cases h

end
end Go.B
end

section
namespace Go.B
set_option linter.unusedVariables false
set_option linter.unusedSimpArgs false

section
variable {P:Program} {aA:Nat} {w0 w:World} {X:Tie} {H:BH} {o:Oper} {ρ:Operand→Value} {σ:Opd→BV}

theorem HR.make'{nb:Nat}{w':World}{s:BSt}{r:Row}(h:HR P aA w0 X H w)(hf:H.row nb=.fresh)(hr:w.heap.size≤r.blk)(hx:w0.Extends w')(hk:∀k,k<w.heap.size→w'.heap[k]?=w.heap[k]?)(hs:RR P aA w0.heap.size (X.put nb r) nb w' s):HR P aA w0 (X.put nb r) (H.set nb s) w' where
 row:=fun b=>by
  rw[BH.row_set]
  split
  ·rename_i e;subst e;exact hs
  ·rename_i e
   refine(h.row b).stay (Tie.le_put r (h.fresh_none hf)) (fun e'=>?_) fun hl q hq=>?_
   ·simp[Tie.put,e,h.fresh_none e']
   ·obtain⟨r',hx',hlt⟩:=(h.row b).lives hl
    rw[hq] at hx'
    cases hx'
    exact hk _ hlt
 inj:=fun b c p q hb hc hp hq hpq=>by
  rw[BH.row_set] at hb hc
  by_cases eb:b=nb<;>by_cases ec:c=nb
  ·rw[eb,ec]
  ·simp only[Tie.put,eb,ec,if_true,if_false] at hp hq hc
   cases hp
   obtain⟨q',hx',hlt⟩:=(h.row c).lives hc
   rw[hq] at hx'
   cases hx'
   omega
  ·simp only[Tie.put,eb,ec,if_true,if_false] at hp hq hb
   cases hq
   obtain⟨q',hx',hlt⟩:=(h.row b).lives hb
   rw[hp] at hx'
   cases hx'
   omega
  ·simp only[Tie.put,eb,ec,if_false] at hp hq hb hc
   exact h.inj b c p q hb hc hp hq hpq
 ext:=hx

theorem HR.kill{b:Nat}{r:Row}(h:HR P aA w0 X H w)(hb:X b=some r):HR P aA w0 X (H.set b .dead) w where
 row:=fun c=>by
  rw[BH.row_set]
  split
  ·rename_i e;subst e;exact⟨r,hb⟩
  ·exact h.row c
 inj:=fun c d p q hc hd hp hq hpq=>by
  rw[BH.row_set] at hc hd
  split at hc
  ·simp[BSt.live] at hc
  ·split at hd
   ·simp[BSt.live] at hd
   ·exact h.inj c d p q hc hd hp hq hpq
 ext:=h.ext

theorem aR4{y:Opd}{x:Operand}{sz:Nat}{new:List BV}(hr:HR P aA w0 X H w)(h:VR aA X (σ y) (ρ x))(hc:H.cells sz (σ y)=some new):
  ∃a m c vs,ρ x=.slice a m c∧(a=none→m=0)∧vs.length=m*sz∧VRL aA X new vs∧(∀a',a=some a'→∀j u,vs[j]?=some u→w.cell? (a'.add j)=some u):=by
 unfold BH.cells at hc
 split at hc
 ·rename_i e
  rw[e] at h
  have h:ρ x=.slice none 0 0:=h
  simp at hc
  subst hc
  exact⟨none,0,0,[],h,fun _=>rfl,by simp,rfl,fun a' e=>by cases e⟩
 ·rename_i e
  rw[e] at h
  obtain⟨a,cap,h,_⟩:=h
  simp at hc
  subst hc
  exact⟨a,0,cap,[],h,fun _=>rfl,by simp,rfl,fun a' e j u hj=>by simp at hj⟩
 ·rename_i b i n e
  rw[e] at h
  obtain⟨r,cap,hX,h,_⟩:=h
  split at hc
  ·rename_i ty cs hcs
   split at hc
   ·rename_i hle
    simp at hc
    subst hc
    obtain⟨r',vs,hX',hl,hcell,hk⟩:=hr.cells hcs hle
    rw[hX] at hX'
    cases hX'
    refine⟨_,n,cap,vs,h,fun e=>(by cases e),hl,hk,fun a' e j u hj=>?_⟩
    cases e
    have:(⟨r.blk,i,none⟩:Addr).add j=⟨r.blk,i+j,none⟩:=by unfold Addr.add;split<;>simp_all
    rw[this]
    exact hcell j u hj
   ·cases hc
  ·cases hc
 ·cases hc

theorem aU0{new:List BV}{vs:List Value}(hk:VRL aA X new vs)(h1:new.all BV.one=true):∀u∈vs,u.oneCell'=true:=by
 intro u hu
 obtain⟨i,hi⟩:=List.getElem?_of_mem hu
 have hlt:i<new.length:=by
  rw[hk.len]
  exact(List.getElem?_eq_some_iff.1 hi).1
 obtain⟨v,hv,kv⟩:=hk.get i _ (List.getElem?_eq_getElem hlt)
 rw[hi] at hv
 cases hv
 exact(kv.one ((List.all_eq_true.1 h1) _ (List.getElem_mem hlt))).1

theorem run_append_room(t ty e:TypeId)(i:TypeInfo)(ht:P.underlying t=some (.slice e))(hi:P.info? e=some i)(b n cap:Nat)(cur:Array Value)(hh:w.heap[b]?=some (.cells cur e (0,0)))(a:Option Addr)(m c:Nat)(ha:a=none→m=0)(vs:List Value)(hl:vs.length=m*i.size)(hc:∀a',a=some a'→∀j u,vs[j]?=some u→w.cell? (a'.add j)=some u)(h1:∀u∈vs,u.oneCell'=true)(hroom:n+m≤cap)(hfit:(n+m)*i.size≤cur.size):
  (Builtin.append_ #[t,t] ty #[.slice (some ⟨b,0,none⟩) n cap,.slice a m c]).run P w=.ok (.slice (some ⟨b,0,none⟩) (n+m) cap)
   (w.setRow b (cur.toList.take (n*i.size)++vs++cur.toList.drop (n*i.size+m*i.size)).toArray):=by
 have hfc:(Builtin.firstCells i.size m (.slice a m c)).run P w=.ok vs.toArray w:=by
  cases a with
  | none =>
   obtain rfl:=ha rfl
   have:vs=[]:=List.eq_nil_of_length_eq_zero (by simpa using hl)
   subst this
   simp[Builtin.firstCells]
  | some a'=>exact run_firstCells_some (P:=P) w i.size m a' m c vs hl (hc a' rfl)
 have hst:=run_storeCells_at (P:=P) b (n*i.size) e vs 0 cur w hh (by rw[hl];rw[Nat.add_mul] at hfit;omega) h1
 simp only[Nat.add_zero,hl] at hst
 have hadd:(⟨b,0,none⟩:Addr).add (n*i.size)=⟨b,n*i.size,none⟩:=by unfold Addr.add;split<;>simp_all
 simp[Builtin.append_,run_underlying ht,sizeOf,typeInfo,hi,Builtin.lenOf,hroom,hfc,hadd,hst]

theorem does_app{t e nb:Nat}{i:TypeInfo}{z:Value}{c:_root_.Go.Call}{x y:Operand}{x' y':Opd}(ho:o.op=.call c)(hc:c.callee=.builtin .append)(hat:c.argTypes[0]?=some t∧c.argTypes[1]?=some t)(hargs:c.args.toList=[x,y])(hu:P.underlying t=some (.slice e))(hi:P.info? e=some i)(hz:i.zero=some z)(hzs:z.cells.size=i.size)(hx:opd x=some x')(hy:opd y=some y')(hr:HR P aA w0 X H w)(hρ:OR aA X σ ρ)(htys:c.argTypes=#[t,t]){v:BV}{H1:BH}(h:op1 aA nb σ H (.app e i.size i.bytes x' y')=some (v,H1)):Does P aA w0 X w o ρ v H1:=by
 have g1:=hρ x x' hx
 have g2:=hρ y y' hy
 have ha:c.args.map ρ=#[ρ x,ρ y]:=by
  apply Array.toList_inj.1
  rw[Array.toList_map,hargs]
  rfl
 have hexec:∀v' w',(Builtin.append_ #[t,t] o.type #[ρ x,ρ y]).run P w=.ok v' w'→(execOp ρ o).run P w=.ok (.value v') w':=by
  intro v' w' h2
  simp[execOp,ho,resolve,hc,ha,invoke,builtin,htys,h2]
 have hcell:P.cellsOf e=i.size:=by simp[Program.cellsOf,hi]
 simp only[op1] at h
 split at h
 ·rename_i e1 e2
  split at h
  ·rename_i hsz
   simp at h
   obtain⟨rfl,rfl⟩:=h
   rw[e1] at g1
   have g1:ρ x=.slice none 0 0:=g1
   obtain⟨a,m,cc,vs,b1,b2,b3,b4,b5⟩:=aR4 hr g2 e2
   have hvs:vs=[]:=List.eq_nil_of_length_eq_zero b4.len.symm
   have hm:m=0:=by
    subst hvs
    have h0:m*i.size=0:=by rw[←b3];rfl
    rcases Nat.mul_eq_zero.1 h0 with h|h
    ·exact h
    ·omega
   subst hm
   refine .plain hr (v':=.slice none 0 0) (hexec _ _ ?_) rfl
   rw[g1,b1]
   have hfc:(Builtin.firstCells i.size 0 (.slice a 0 cc)).run P w=.ok #[] w:=by
    cases a with
    | none=>simp[Builtin.firstCells]
    | some a'=>exact run_firstCells_some (P:=P) w i.size 0 a' 0 cc [] (by simp) (fun j u hj=>by simp at hj)
   simp[Builtin.append_,run_underlying hu,sizeOf,typeInfo,hi,Builtin.lenOf,hfc]
  ·cases h
 ·rename_i new hne e1 e2
  split at h
  ·rename_i hcnd
   obtain⟨c1,c2,c3,c4⟩:=hcnd
   cases hm:H.make aA nb (.arr e new) with
   | none=>rw[hm] at h;cases h
   | some K =>
    rw[hm] at h
    simp at h
    obtain⟨rfl,rfl⟩:=h
    obtain⟨hf,hb,rfl⟩:=dC hm
    rw[e1] at g1
    have g1:ρ x=.slice none 0 0:=g1
    obtain⟨a,m,cc,vs,b1,b2,b3,b4,b5⟩:=aR4 hr g2 e2
    have hlen:=b4.len
    have hnl:new.length≠0:=fun h0=>hne (List.eq_nil_of_length_eq_zero h0) 
    have hmpos:m≠0:=by
     rintro rfl
     simp at b3
     rw[b3] at hlen
     exact hnl (by simpa using hlen)
    obtain⟨a',rfl⟩:∃a',a=some a':=by
     cases a with
     | none=>exact absurd (b2 rfl) hmpos
     | some a'=>exact⟨a',rfl⟩
    have hdiv:new.length / i.size=m:=by rw[hlen,b3];exact Nat.mul_div_cancel _ c2
    have hml:m≤m*i.size:=Nat.le_mul_of_pos_right _ c2
    have hby:m*i.bytes≤35184372088832:=by
     rw[hlen,b3] at c3
     have:(m*i.bytes)*i.size≤35184372088832*i.size:=by
      calc (m*i.bytes)*i.size=m*i.size*i.bytes:=by rw[Nat.mul_right_comm]
       _≤_:=c3
     exact Nat.le_of_mul_le_mul_right this c2
    obtain⟨v',w',hrun,hown,hgrow,hnil⟩:=run_append_own (P:=P) w w.heap.size t o.type e i z i.size i.bytes hu hi hz rfl rfl hzs c2 (.slice none 0 0) 0 [] (World.ownsRow_nil w _ e i.size) a' m cc vs b3 (b5 a' rfl) (aU0 b4 c1)
     (by simp only[maxLen];omega) (by rw[Nat.zero_add];omega) (Nat.le_refl _)
    rcases hown.2 with⟨rfl,h0⟩|⟨g,cap,cur,rfl,hg1,hg2,hg3,hg4,hg5,hg6⟩
    ·omega
    ·have hle:=Tie.le_put (X:=X) (b:=nb) ⟨g,P.cellsOf e,cur.size⟩ (hr.fresh_none hf)
     have hgb:∀k,k<w.heap.size→w'.heap[k]?=w.heap[k]?:=fun k hk=>hgrow.block k hk (by simp[Value.ownBlock])
     refine⟨_,w',X.put nb ⟨g,P.cellsOf e,cur.size⟩,.slice (some ⟨g,0,none⟩) (0+m) cap,hexec _ _ (by rw[g1,b1];exact hrun),.inl rfl,hle,⟨_,cap,Tie.put_self _ _ _,by rw[hdiv,Nat.zero_add],by omega,fun _ _=>⟨by simp[hcell,hg5],hg4⟩⟩,
      hr.make' hf hg1 (pZ hr.ext hgrow.os hgrow.tape hgrow.output hgrow.size fun k hk=>hgb k (Nat.lt_of_lt_of_le hk hr.ext.size)) hgb ?_⟩
     refine⟨_,cur,(0,0),Tie.put_self _ _ _,hg2,rfl,rfl,fun j d hd=>?_,fun _=>⟨Nat.le_trans hr.ext.size hg1,rfl⟩⟩
     obtain⟨u,hu,ku⟩:=b4.get j d hd
     refine⟨u,?_,ku.mono hle⟩
     have hj:j<vs.length:=(List.getElem?_eq_some_iff.1 hu).1
     rw[List.nil_append] at hg6
     rw[←hg6,List.getElem?_take_of_lt (by rw[b3] at hj;rw[Nat.zero_add];exact hj)] at hu
     simpa using hu
  ·cases h
 ·rename_i b i0 n new e1 e2
  split at h
  ·rename_i ty' cs hcs
   split at h
   ·rename_i hcnd
    obtain⟨d1,d2,rfl,rfl,d5,c1,c2,c3,c4⟩:=hcnd
    cases hm:H.make aA nb (.arr ty' (cs++new)) with
    | none=>rw[hm] at h;cases h
    | some K =>
     rw[hm] at h
     simp at h
     obtain⟨rfl,rfl⟩:=h
     obtain⟨hf,hb,rfl⟩:=dC hm
     rw[e1] at g1
     obtain⟨r,cap,hX,g1,hnc,hown⟩:=g1
     obtain⟨q1,q2⟩:=hown d1 rfl
     obtain⟨a,m,cc,vs,b1,b2,b3,b4,b5⟩:=aR4 hr g2 e2
     have hrow:=hr.row b
     rw[hcs] at hrow
     obtain⟨r',cur,fz,hX',hh,k1,k2,k3,k4⟩:=hrow
     rw[hX] at hX'
     cases hX'
     obtain⟨klow,rfl⟩:=k4 d1
     have hlen:=b4.len
     have hdiv:new.length / i.size=m:=by rw[hlen,b3];exact Nat.mul_div_cancel _ c2
     have hml:n+m≤(n+m)*i.size:=Nat.le_mul_of_pos_right _ c2
     have hsum:n*i.size+new.length=(n+m)*i.size:=by rw[hlen,b3,Nat.add_mul]
     have hby:(n+m)*i.bytes≤35184372088832:=by
      rw[hsum] at c3
      have:((n+m)*i.bytes)*i.size≤35184372088832*i.size:=by
       calc ((n+m)*i.bytes)*i.size=(n+m)*i.size*i.bytes:=by rw[Nat.mul_right_comm]
        _≤_:=c3
      exact Nat.le_of_mul_le_mul_right this c2
     have hcs0:cs.length≤cur.size:=by
      by_cases h0:cs.length=0
      ·omega
      ·obtain⟨v,hv,_⟩:=k3 (cs.length-1) _ (List.getElem?_eq_getElem (by omega))
       have:=(Array.getElem?_eq_some_iff.1 hv).1
       omega
     by_cases hroom:n+m≤cap
     ·have hfit:(n+m)*i.size≤cur.size:=by
       rw[k1,←q1,k2,hcell]
       exact Nat.mul_le_mul_right _ hroom
      have hrun:=run_append_room (P:=P) (w:=w) t o.type ty' i hu hi r.blk n cap cur hh a m cc b2 vs b3 b5 (aU0 b4 c1) hroom hfit
      have hle:=Tie.le_put (X:=X) (b:=nb) r (hr.fresh_none hf)
      have hlive:(H.row b).live=true:=by rw[hcs];rfl
      refine⟨_,_,X.put nb r,.slice (some ⟨r.blk,0,none⟩) (n+m) cap,hexec _ _ (by rw[g1,b1];exact hrun),.inl rfl,hle,⟨r,cap,Tie.put_self _ _ _,by rw[hdiv],by rw[hdiv];exact hroom,fun _ _=>⟨q1,q2⟩⟩,?_⟩
      refine⟨fun d=>?_,fun d d' p q hd hd' hp hq hpq=>?_,hr.ext.setRow r.blk _ klow⟩
      ·rw[BH.row_set]
       split
       ·rename_i e;subst e
        exact⟨r,hle _ _ hX⟩
       ·rename_i e
        rw[BH.row_set]
        split
        ·rename_i e';subst e'
         refine⟨r,_,(0,0),Tie.put_self _ _ _,setRow_heap w r.blk cur _ ty' (0,0) hh,?_,k2,fun j d hd=>?_,fun _=>⟨klow,rfl⟩⟩
         ·simp
          omega
         ·have ht:(cur.toList.take (n*i.size)).length=n*i.size:=by simp;omega
          simp only[List.getElem?_toArray,List.append_assoc]
          by_cases hj:j<n*i.size
          ·rw[List.getElem?_append_left (by omega)] at hd
           obtain⟨v,hv,kv⟩:=k3 j d hd
           refine⟨v,?_,kv.mono hle⟩
           rw[List.getElem?_append_left (by omega),List.getElem?_take_of_lt hj]
           simpa using hv
          ·rw[List.getElem?_append_right (by omega),←d5] at hd
           obtain⟨v,hv,kv⟩:=b4.get _ d hd
           refine⟨v,?_,kv.mono hle⟩
           rw[List.getElem?_append_right (by omega),ht,List.getElem?_append_left (by exact(List.getElem?_eq_some_iff.1 hv).1)]
           exact hv
        ·rename_i e'
         refine(hr.row d).stay hle (fun e''=>by simp[Tie.put,e',hr.fresh_none e'']) fun hl q hq=>?_
         refine setRow_other _ _ _ _ fun e''=>e (hr.inj d b q r hl hlive hq hX e'')
      ·rw[BH.row_set] at hd hd'
       split at hd
       ·simp[BSt.live] at hd
       ·rename_i e
        split at hd'
        ·simp[BSt.live] at hd'
        ·rename_i e'
         rw[BH.row_set] at hd hd'
         by_cases f1:d=nb<;>by_cases f2:d'=nb
         ·rw[f1,f2]
         ·simp only[f2,if_false] at hd'
          simp only[Tie.put,f1,f2,if_true,if_false] at hp hq
          cases hp
          exact absurd (hr.inj d' b q r hd' hlive hq hX hpq.symm) e'
         ·simp only[f1,if_false] at hd
          simp only[Tie.put,f1,f2,if_true,if_false] at hp hq
          cases hq
          exact absurd (hr.inj d b p r hd hlive hp hX hpq) e
         ·simp only[f1,f2,if_false] at hd hd'
          simp only[Tie.put,f1,f2,if_false] at hp hq
          exact hr.inj d d' p q hd hd' hp hq hpq
     ·have hmpos:m≠0:=by omega
      obtain⟨a',rfl⟩:∃a',a=some a':=by
       cases a with
       | none=>exact absurd (b2 rfl) hmpos
       | some a'=>exact⟨a',rfl⟩
      have holds:∀j u,(cur.toList.take (n*i.size))[j]?=some u→w.cell? ((⟨r.blk,0,none⟩:Addr).add j)=some u:=by
       intro j u hj
       have hlt:j<n*i.size:=by
        have:=(List.getElem?_eq_some_iff.1 hj).1
        simp at this
        omega
       rw[List.getElem?_take_of_lt hlt] at hj
       have:(⟨r.blk,0,none⟩:Addr).add j=⟨r.blk,j,none⟩:=by unfold Addr.add;split<;>simp_all
       rw[this]
       simp[World.cell?,hh]
       simpa using hj
      obtain⟨v',w',hrun,hown',hgrow⟩:=run_append_arg_grows (P:=P) w t o.type ty' i z i.size i.bytes hu hi hz rfl rfl hzs c2 ⟨r.blk,0,none⟩ n cap (cur.toList.take (n*i.size)) (by simp;omega) holds a' m cc vs b3 (b5 a' rfl)
       (by omega) (by simp only[maxLen];omega) (by omega)
      rcases hown'.2 with⟨rfl,h0⟩|⟨g,cap',cur',rfl,hg1,hg2,hg3,hg4,hg5,hg6⟩
      ·omega
      ·have hle:=Tie.le_put (X:=X) (b:=nb) ⟨g,P.cellsOf ty',cur'.size⟩ (hr.fresh_none hf)
       have hgb:∀k,k<w.heap.size→w'.heap[k]?=w.heap[k]?:=fun k hk=>hgrow.block k hk (by simp)
       refine⟨_,w',X.put nb ⟨g,P.cellsOf ty',cur'.size⟩,.slice (some ⟨g,0,none⟩) (n+m) cap',hexec _ _ (by rw[g1,b1];exact hrun),.inl rfl,hle,⟨_,cap',Tie.put_self _ _ _,by rw[hdiv],by rw[hdiv];exact hg3,fun _ _=>⟨by simp[hcell,hg5],hg4⟩⟩,
        (hr.make' hf hg1 (pZ hr.ext hgrow.os hgrow.tape hgrow.output hgrow.size fun k hk=>hgb k (Nat.lt_of_lt_of_le hk hr.ext.size)) hgb ?_).kill (hle _ _ hX)⟩
       refine⟨_,cur',(0,0),Tie.put_self _ _ _,hg2,rfl,rfl,fun j d hd=>?_,fun _=>⟨Nat.le_trans hr.ext.size hg1,rfl⟩⟩
       have hall:VRL aA X (cs++new) (cur.toList.take (n*i.size)++vs):=by
        refine VRL.append (VRL.of (by simp;omega) fun j d hd=>?_) b4
        have hlt:j<cs.length:=(List.getElem?_eq_some_iff.1 hd).1
        obtain⟨v,hv,kv⟩:=k3 j d hd
        refine⟨v,?_,kv⟩
        rw[List.getElem?_take_of_lt (by omega)]
        simpa using hv
       obtain⟨u,hu,ku⟩:=hall.get j d hd
       refine⟨u,?_,ku.mono hle⟩
       have hj:j<(cur.toList.take (n*i.size)++vs).length:=(List.getElem?_eq_some_iff.1 hu).1
       rw[hown'.1] at hj
       rw[←hg6,List.getElem?_take_of_lt hj] at hu
       simpa using hu
   ·cases h
  ·cases h
 ·cases h

end
end Go.B
end

section
namespace Go.B
set_option linter.unusedVariables false
set_option linter.unusedSimpArgs false

def BOp.bare:BOp→BOp
 | .load _ n a=>.load none n a
 | .store _ n a v=>.store none n a v
 | op=>op
theorem aT9{aA nb:Nat}{σ:Opd→BV}{H:BH}{op:BOp}{r:BV×BH}(h:op1 aA nb σ H op=some r):op1 aA nb σ H op.bare=some r:=by
 cases op with
 | load rt n a =>
  simp only[BOp.bare,op1] at h ⊢
  split at h
  ·rename_i b i e
   split at h
   ·rename_i ty cs e2
    split at h
    ·rename_i hc
     rw[if_pos ⟨rfl,hc.2⟩]
     exact h
    ·cases h
   ·cases h
  ·cases h
 | store rt n a v =>
  simp only[BOp.bare,op1] at h ⊢
  split at h
  ·rename_i b i e
   split at h
   ·rename_i ty cs e2
    split at h
    ·rename_i hc
     rw[if_pos ⟨rfl,hc.2⟩]
     exact h
    ·cases h
   ·cases h
  ·cases h
 | _=>exact h

section
variable {P:Program} {aA:Nat} {w0 w:World} {X:Tie} {H:BH} {o:Oper} {ρ:Operand→Value} {σ:Opd→BV} {sq:Nat→Bool}

theorem tG{lo:Option Operand}{lo':Option Opd}(h:aH8 lo=some lo'):Bounds lo lo':=by
 cases lo with
 | none =>
  simp[aH8] at h
  subst h
  exact⟨fun x e=>(nomatch e),fun _=>rfl⟩
 | some l =>
  simp[aH8] at h
  obtain⟨y,hy,rfl⟩:=h
  exact⟨fun x e=>⟨y,rfl,by cases e;exact hy⟩,fun e=>(nomatch e)⟩

theorem one_of{l:List Operand}{y:Opd}(h:l.mapM opd=some [y]):∃x,l=[x]∧opd x=some y:=by
 cases l with
 | nil=>simp at h
 | cons a l =>
  cases l with
  | nil =>
   simp[Option.bind_eq_some_iff] at h
   exact⟨a,rfl,h⟩
  | cons b l =>
   simp only[List.mapM_cons,Option.bind_eq_bind,Option.pure_def,Option.bind_eq_some_iff] at h
   obtain⟨_,_,_,⟨_,_,_,_,e1⟩,e2⟩:=h
   simp at e1
   subst e1
   simp at e2
theorem two_of{l:List Operand}{y z:Opd}(h:l.mapM opd=some [y,z]):∃x x',l=[x,x']∧opd x=some y∧opd x'=some z:=by
 cases l with
 | nil=>simp at h
 | cons a l =>
  simp only[List.mapM_cons,Option.bind_eq_bind,Option.pure_def,Option.bind_eq_some_iff] at h
  obtain⟨y',hy',zs,hzs,e⟩:=h
  simp at e
  obtain⟨rfl,rfl⟩:=e
  obtain⟨x,rfl,hx⟩:=one_of hzs
  exact⟨a,x,rfl,hy',hx⟩
theorem two_types{a:Array TypeId}{t:TypeId}(h0:a[0]?=some t)(h1:a[1]?=some t)(h:a.size=2):a=#[t,t]:=by
 apply Array.ext
 ·simp[h]
 ·intro i h1' h2'
  have:i=0∨i=1:=by omega
  rcases this with rfl|rfl
  ·have:=(Array.getElem?_eq_some_iff.1 h0).2
   simpa using this
  ·have:=(Array.getElem?_eq_some_iff.1 h1).2
   simpa using this

theorem isMM_max{b:Builtin}(h:isMM b=some true):b=.max:=by
 cases b<;>first|rfl|(simp[isMM] at h)
theorem isMM_min{b:Builtin}(h:isMM b=some false):b=.min:=by
 cases b<;>first|rfl|(simp[isMM] at h)
theorem does_imax{x y:Operand}{x' y':Opd}{c:_root_.Go.Call}(ho:o.op=.call c)(hc:c.callee=.builtin .max)(hargs:c.args.toList=[x,y])(hx:opd x=some x')(hy:opd y=some y')(hr:HR P aA w0 X H w)(hρ:OR aA X σ ρ){v:BV}{nb:Nat}{H1:BH}(h:op1 aA nb σ H (.imax x' y')=some (v,H1)):Does P aA w0 X w o ρ v H1:=by
 have h1:=hρ x x' hx
 have h2:=hρ y y' hy
 have ha:c.args.map ρ=#[ρ x,ρ y]:=by
  apply Array.toList_inj.1
  rw[Array.toList_map,hargs]
  rfl
 simp only[op1] at h
 split at h
 ·rename_i k a k' b e1 e2
  split at h
  ·rename_i hk
   subst hk
   simp at h
   obtain⟨rfl,rfl⟩:=h
   rw[e1] at h1
   rw[e2] at h2
   have h1:ρ x=.int k a:=h1
   have h2:ρ y=.int k b:=h2
   refine .plain hr (v':=.int k (if a<b then b else a)) ?_ rfl
   simp[execOp,ho,resolve,hc,ha,invoke,builtin,Builtin.max_,Builtin.max2,h1,h2]
  ·cases h
 ·cases h
theorem does_imin{x y:Operand}{x' y':Opd}{c:_root_.Go.Call}(ho:o.op=.call c)(hc:c.callee=.builtin .min)(hargs:c.args.toList=[x,y])(hx:opd x=some x')(hy:opd y=some y')(hr:HR P aA w0 X H w)(hρ:OR aA X σ ρ){v:BV}{nb:Nat}{H1:BH}(h:op1 aA nb σ H (.imin x' y')=some (v,H1)):Does P aA w0 X w o ρ v H1:=by
 have h1:=hρ x x' hx
 have h2:=hρ y y' hy
 have ha:c.args.map ρ=#[ρ x,ρ y]:=by
  apply Array.toList_inj.1
  rw[Array.toList_map,hargs]
  rfl
 simp only[op1] at h
 split at h
 ·rename_i k a k' b e1 e2
  split at h
  ·rename_i hk
   subst hk
   simp at h
   obtain⟨rfl,rfl⟩:=h
   rw[e1] at h1
   rw[e2] at h2
   have h1:ρ x=.int k a:=h1
   have h2:ρ y=.int k b:=h2
   refine .plain hr (v':=.int k (if b<a then b else a)) ?_ rfl
   simp[execOp,ho,resolve,hc,ha,invoke,builtin,Builtin.min_,Builtin.min2,h1,h2]
  ·cases h
 ·cases h
theorem does_i2s{s d:TypeId}{k:IntKind}{x:Operand}{x':Opd}(ho:o.op=.convert s d x)(hs:P.underlying s=some (.int k))(hd:P.underlying d=some .string)(hx:opd x=some x')(hr:HR P aA w0 X H w)(hρ:OR aA X σ ρ){v:BV}{nb:Nat}{H1:BH}(h:op1 aA nb σ H (.i2s x')=some (v,H1)):Does P aA w0 X w o ρ v H1:=by
 have h1:=hρ x x' hx
 simp only[op1] at h
 split at h
 ·rename_i k' n e1
  simp at h
  obtain⟨rfl,rfl⟩:=h
  rw[e1] at h1
  have h1:ρ x=.int k' n:=h1
  refine .plain hr (v':=.string (Utf8.encode n)) ?_ rfl
  simp[execOp,ho,h1,convert,underlying,hs,hd,Conv.intToString]
 ·cases h



theorem op_does{bo:BOp}(hc:aT P.underlying P.info? sq o.op=some bo)(hsq:∀t,sq t=true→P.stoodInHeld t=false∧P.eqGuardType P.depth t=false)(hρc:∀v,ρ (.const v)=v)(hr:HR P aA w0 X H w)(hρ:OR aA X σ ρ){nb:Nat}{v:BV}{H1:BH}(h:op1 aA nb σ H bo=some (v,H1)):Does P aA w0 X w o ρ v H1:=by
 cases hop:o.op with
 | move x =>
  rw[hop] at hc
  simp[aT,Option.bind_eq_some_iff] at hc
  obtain⟨y,hy,rfl⟩:=hc
  simp[op1] at h
  obtain⟨rfl,rfl⟩:=h
  exact aW5 (.inl hop) hy hr hρ
 | assign x =>
  rw[hop] at hc
  simp[aT,Option.bind_eq_some_iff] at hc
  obtain⟨y,hy,rfl⟩:=hc
  simp[op1] at h
  obtain⟨rfl,rfl⟩:=h
  exact aW5 (.inr hop) hy hr hρ
 | pick c a b =>
  rw[hop] at hc
  simp[aT,Option.bind_eq_some_iff] at hc
  obtain⟨c',hc',a',ha',b',hb',rfl⟩:=hc
  simp only[op1] at h
  split at h
  ·rename_i e
   simp at h
   obtain⟨rfl,rfl⟩:=h
   simpa using aL2 hop hc' ha' hb' hr hρ e
  ·rename_i e
   simp at h
   obtain⟨rfl,rfl⟩:=h
   simpa using aL2 hop hc' ha' hb' hr hρ e
  ·cases h
 | alloc t =>
  rw[hop] at hc
  simp[aT,Option.bind_eq_some_iff] at hc
  obtain⟨z,hz,rfl⟩:=hc
  simp only[op1,Option.map_eq_some_iff] at h
  obtain⟨K,hK,e⟩:=h
  simp at e
  obtain⟨rfl,rfl⟩:=e
  exact does_new hop hz hr hK
 | box t x =>
  rw[hop] at hc
  simp[aT,Option.bind_eq_some_iff] at hc
  obtain⟨y,hy,rfl⟩:=hc
  simp only[op1] at h
  split at h
  ·rename_i h1
   simp only[Option.map_eq_some_iff] at h
   obtain⟨K,hK,e⟩:=h
   simp at e
   obtain⟨rfl,rfl⟩:=e
   exact does_box hop hy hr hρ h1 hK
  ·cases h
 | build t ps =>
  rw[hop] at hc
  simp only[aT] at hc
  split at hc
  ·rename_i fs hu
   simp[Option.bind_eq_some_iff] at hc
   obtain⟨z,hz,qs,hq,⟨pl,hpl⟩,rfl⟩:=hc
   simp only[op1] at h
   split at h
   ·rename_i cs hf
    simp at h
    obtain⟨rfl,rfl⟩:=h
    exact uD hop hu hz hq hpl hr hρ hf
   ·cases h
  ·rename_i len e hu
   simp[Option.bind_eq_some_iff] at hc
   obtain⟨n,hn,z,hz,qs,hq,rfl⟩:=hc
   simp only[op1] at h
   split at h
   ·rename_i cs hf
    simp at h
    obtain⟨rfl,rfl⟩:=h
    exact vE hop hu hn hz hq hr hρ hf
   ·cases h
  ·cases hc
 | buildSlice t len ps =>
  rw[hop] at hc
  simp only[aT] at hc
  split at hc
  ·rename_i e hu
   simp[Option.bind_eq_some_iff] at hc
   obtain⟨n,hn,z,hz,hcond,qs,hq,rfl⟩:=hc
   simp only[op1] at h
   split at h
   ·rename_i cs hf
    simp only[Option.map_eq_some_iff] at h
    obtain⟨K,hK,e⟩:=h
    simp at e
    obtain⟨rfl,rfl⟩:=e
    exact does_mk hop hu hn hz hcond.1 hcond.2.1 hcond.2.2 hq hr hρ hf hK
   ·cases h
  ·cases hc
 | load t x =>
  rw[hop] at hc
  simp[aT,Option.bind_eq_some_iff] at hc
  obtain⟨s,hs,y,hy,rfl⟩:=hc
  simp only[op1] at h
  split at h
  ·rename_i b i e
   split at h
   ·rename_i ty cs e2
    split at h
    ·rename_i hcnd
     simp only[Option.map_eq_some_iff] at h
     obtain⟨q,hq,e3⟩:=h
     simp at e3
     obtain⟨rfl,rfl⟩:=e3
     exact does_load hop hs hy hr hρ e e2 hcnd.2 hq
    ·cases h
   ·cases h
  ·cases h
 | store t x z =>
  rw[hop] at hc
  simp[aT,Option.bind_eq_some_iff] at hc
  obtain⟨n,hn,y,hy,q,hq,rfl⟩:=hc
  simp only[op1] at h
  split at h
  ·rename_i b i e
   split at h
   ·rename_i ty cs e2
    split at h
    ·rename_i hcnd
     simp at h
     obtain⟨rfl,rfl⟩:=h
     obtain⟨_,c1,c2,c3,c4⟩:=hcnd
     rw[←List.append_assoc]
     exact bC8 hop hn hy hq hr hρ e e2 c1 c2 c3 c4
    ·cases h
   ·cases h
  ·cases h
 | nilCheck x =>
  rw[hop] at hc
  simp[aT,Option.bind_eq_some_iff] at hc
  obtain⟨y,hy,rfl⟩:=hc
  simp only[op1] at h
  split at h
  ·rename_i b i e
   simp at h
   obtain⟨rfl,rfl⟩:=h
   rw[←e]
   exact zU hop hy hr hρ (.inl ⟨b,i,e⟩)
  ·rename_i f cs e
   simp at h
   obtain⟨rfl,rfl⟩:=h
   rw[←e]
   exact zU hop hy hr hρ (.inr ⟨f,cs,e⟩)
  ·cases h
 | binOp op t x y t' =>
  rw[hop] at hc
  simp only[aT] at hc
  split at hc
  ·rename_i k hu
   simp[Option.bind_eq_some_iff] at hc
   obtain⟨x',hx,y',hy,rfl⟩:=hc
   simp only[op1,Option.map_eq_some_iff] at h
   obtain⟨q,hq,e⟩:=h
   simp at e
   obtain⟨rfl,rfl⟩:=e
   exact aW7 hop hx hy hr hρ hq
  ·rename_i hu
   simp[Option.bind_eq_some_iff] at hc
   obtain⟨x',hx,y',hy,rfl⟩:=hc
   simp only[op1,Option.map_eq_some_iff] at h
   obtain⟨q,hq,e⟩:=h
   simp at e
   obtain⟨rfl,rfl⟩:=e
   exact aW7 hop hx hy hr hρ hq
  ·rename_i hu
   simp[Option.bind_eq_some_iff] at hc
   obtain⟨x',hx,y',hy,rfl⟩:=hc
   simp only[op1] at h
   split at h
   ·rename_i a b e1 e2
    simp at h
    obtain⟨rfl,rfl⟩:=h
    simpa using aW8 (neg:=false) hop hu hx hy hr hρ e1 e2
   ·cases h
  ·rename_i hu
   simp[Option.bind_eq_some_iff] at hc
   obtain⟨x',hx,y',hy,rfl⟩:=hc
   simp only[op1] at h
   split at h
   ·rename_i a b e1 e2
    simp at h
    obtain⟨rfl,rfl⟩:=h
    simpa using aW8 (neg:=true) hop hu hx hy hr hρ e1 e2
   ·cases h
  ·rename_i fs hu
   split at hc
   ·rename_i hst
    simp[Option.bind_eq_some_iff] at hc
    obtain⟨ks,hks,x',hx,y',hy,rfl⟩:=hc
    simp only[op1] at h
    split at h
    ·rename_i xs ys e1 e2
     simp only[Option.map_eq_some_iff] at h
     obtain⟨q,hq,e⟩:=h
     simp at e
     obtain⟨rfl,rfl⟩:=e
     simpa using aW6 (neg:=false) hop hu (hsq t hst).1 (hsq t hst).2 hks hx hy hr hρ e1 e2 hq
    ·cases h
   ·cases hc
  ·rename_i fs hu
   split at hc
   ·rename_i hst
    simp[Option.bind_eq_some_iff] at hc
    obtain⟨ks,hks,x',hx,y',hy,rfl⟩:=hc
    simp only[op1] at h
    split at h
    ·rename_i xs ys e1 e2
     simp only[Option.map_eq_some_iff] at h
     obtain⟨q,hq,e⟩:=h
     simp at e
     obtain⟨rfl,rfl⟩:=e
     simpa using aW6 (neg:=true) hop hu (hsq t hst).1 (hsq t hst).2 hks hx hy hr hρ e1 e2 hq
    ·cases h
   ·cases hc
  ·rename_i e hu
   split at hc
   ·rename_i hny
    simp[Option.bind_eq_some_iff] at hc
    obtain⟨x',hx,rfl⟩:=hc
    simp only[op1] at h
    split at h
    ·rename_i e1
     simp at h
     obtain⟨rfl,rfl⟩:=h
     have:=qW (neg:=false) hop hu hny hx hr hρ hρc (.inl e1)
     rw[e1] at this
     exact this
    ·rename_i b i n e1
     simp at h
     obtain⟨rfl,rfl⟩:=h
     have:=qW (neg:=false) hop hu hny hx hr hρ hρc (.inr ⟨b,i,n,e1⟩)
     rw[e1] at this
     exact this
    ·cases h
   ·cases hc
  ·rename_i e hu
   split at hc
   ·rename_i hny
    simp[Option.bind_eq_some_iff] at hc
    obtain⟨x',hx,rfl⟩:=hc
    simp only[op1] at h
    split at h
    ·rename_i e1
     simp at h
     obtain⟨rfl,rfl⟩:=h
     have:=qW (neg:=true) hop hu hny hx hr hρ hρc (.inl e1)
     rw[e1] at this
     exact this
    ·rename_i b i n e1
     simp at h
     obtain⟨rfl,rfl⟩:=h
     have:=qW (neg:=true) hop hu hny hx hr hρ hρc (.inr ⟨b,i,n,e1⟩)
     rw[e1] at this
     exact this
    ·cases h
   ·cases hc
  ·cases hc
 | unOp op t x =>
  rw[hop] at hc
  cases op with
  | not =>
   simp[aT,Option.bind_eq_some_iff] at hc
   obtain⟨y,hy,rfl⟩:=hc
   simp only[op1] at h
   split at h
   ·rename_i b e
    simp at h
    obtain⟨rfl,rfl⟩:=h
    exact does_not hop hy hr hρ e
   ·cases h
  | neg =>
   simp[aT,Option.bind_eq_some_iff] at hc
   obtain⟨y,hy,rfl⟩:=hc
   simp only[op1] at h
   split at h
   ·rename_i k n e
    simp at h
    obtain⟨rfl,rfl⟩:=h
    simpa using does_neg hop hy hr hρ e
   ·cases h
  | _=>simp[aT] at hc
 | convert s d x =>
  rw[hop] at hc
  simp only[aT] at hc
  split at hc
  ·rename_i ks kd hs hd
   simp[Option.bind_eq_some_iff] at hc
   obtain⟨y,hy,rfl⟩:=hc
   simp only[op1] at h
   split at h
   ·rename_i k n e
    simp at h
    obtain⟨rfl,rfl⟩:=h
    exact does_conv hop hs hd hy hr hρ e
   ·cases h
  ·rename_i e hs hd
   split at hc
   ·rename_i he
    simp[Option.bind_eq_some_iff] at hc
    obtain⟨y,hy,rfl⟩:=hc
    exact does_b2s hop hs hd he hy hr hρ h
   ·cases hc
  ·rename_i ki hs hd
   simp[Option.bind_eq_some_iff] at hc
   obtain⟨y,hy,rfl⟩:=hc
   exact does_i2s hop hs hd hy hr hρ h
  ·cases hc
 | fieldAddr t x f =>
  rw[hop] at hc
  simp only[aT] at hc
  split at hc
  ·rename_i fs hu
   simp[Option.bind_eq_some_iff] at hc
   obtain⟨fd,hf,n,hn,hne,y,hy,rfl⟩:=hc
   simp only[op1] at h
   split at h
   ·rename_i b i e
    simp at h
    obtain⟨rfl,rfl⟩:=h
    exact does_lea hop hu hf hn hne hy hr hρ e
   ·cases h
  ·cases hc
 | field t x f =>
  rw[hop] at hc
  simp only[aT] at hc
  split at hc
  ·rename_i fs hu
   simp[Option.bind_eq_some_iff] at hc
   obtain⟨fd,hf,sh,hsh,y,hy,rfl⟩:=hc
   simp only[op1] at h
   split at h
   ·rename_i cs e
    split at h
    ·rename_i hle
     simp only[Option.map_eq_some_iff] at h
     obtain⟨q,hq,e3⟩:=h
     simp at e3
     obtain⟨rfl,rfl⟩:=e3
     exact does_fld hop hu hf hsh hy hr hρ e hle hq
    ·cases h
   ·cases h
  ·cases hc
 | indexAddr t x z =>
  rw[hop] at hc
  simp only[aT] at hc
  split at hc
  ·rename_i e hu
   simp[Option.bind_eq_some_iff] at hc
   obtain⟨n,hn,y,hy,q,hq,rfl⟩:=hc
   simp only[op1] at h
   split at h
   ·rename_i b i m k j e1 e2
    split at h
    ·rename_i hj
     simp at h
     obtain⟨rfl,rfl⟩:=h
     exact does_idx hop hu hn hy hq hr hρ e1 e2 hj.1 hj.2
    ·cases h
   ·cases h
  ·rename_i len e hu
   simp[Option.bind_eq_some_iff] at hc
   obtain⟨n,hn,y,hy,q,hq,rfl⟩:=hc
   simp only[op1] at h
   split at h
   ·rename_i b i k j e1 e2
    split at h
    ·rename_i hj
     simp at h
     obtain⟨rfl,rfl⟩:=h
     exact does_idxa hop hu hn hy hq hr hρ e1 e2 hj.1 hj.2
    ·cases h
   ·cases h
  ·cases hc
 | index t x z =>
  rw[hop] at hc
  simp only[aT] at hc
  split at hc
  ·rename_i hu
   simp[Option.bind_eq_some_iff] at hc
   obtain⟨y,hy,q,hq,rfl⟩:=hc
   simp only[op1] at h
   split at h
   ·rename_i s k j e1 e2
    split at h
    ·rename_i hj
     simp only[Option.map_eq_some_iff] at h
     obtain⟨c,hcc,e3⟩:=h
     simp at e3
     obtain⟨rfl,rfl⟩:=e3
     exact does_idxs hop hu hy hq hr hρ e1 e2 hj hcc
    ·cases h
   ·cases h
  ·cases hc
 | slice t x lo hi mx =>
  rw[hop] at hc
  cases mx with
  | some m=>simp[aT] at hc
  | none =>
   simp only[aT] at hc
   simp only[Option.bind_eq_bind,Option.bind_eq_some_iff] at hc
   obtain⟨lo',hlo,hi',hhi,hc⟩:=hc
   split at hc
   ·rename_i e hu
    simp[Option.bind_eq_some_iff] at hc
    obtain⟨n,hn,y,hy,rfl⟩:=hc
    exact bC9 hop hu hn hy (tG hlo) (tG hhi) hr hρ h
   ·rename_i hu
    simp[Option.bind_eq_some_iff] at hc
    obtain⟨y,hy,rfl⟩:=hc
    exact aQ4 hop hu hy (tG hlo) (tG hhi) hr hρ h
   ·cases hc
 | makeFunc fn first captured =>
  rw[hop] at hc
  cases fn with
  | func f =>
   simp[aT,Option.bind_eq_some_iff] at hc
   obtain⟨hf,caps,hcaps,rfl⟩:=hc
   simp[op1] at h
   obtain⟨rfl,rfl⟩:=h
   exact does_mkfn hop (by simp[hf]) hcaps hr hρ
  | _=>simp[aT] at hc
 | makeMap t r =>
  rw[hop] at hc
  cases r with
  | some _=>simp[aT] at hc
  | none =>
   simp only[aT] at hc
   split at hc
   ·simp at hc
    subst hc
    simp only[op1,Option.map_eq_some_iff] at h
    obtain⟨K,hK,e⟩:=h
    simp at e
    obtain⟨rfl,rfl⟩:=e
    exact bD0 hop hr hK
   ·cases hc
 | mapUpdate t m k x =>
  rw[hop] at hc
  simp only[aT] at hc
  split at hc
  ·rename_i kt et hu
   simp[Option.bind_eq_some_iff] at hc
   obtain⟨kd,hkd,m',hm,k',hk,x',hx,rfl⟩:=hc
   exact aL3 hsq (.inl hop) hu hkd hm hk hx hr hρ h
  ·cases hc
 | insert t m k x =>
  rw[hop] at hc
  simp only[aT] at hc
  split at hc
  ·rename_i kt et hu
   simp[Option.bind_eq_some_iff] at hc
   obtain⟨kd,hkd,m',hm,k',hk,x',hx,rfl⟩:=hc
   exact aL3 hsq (.inr hop) hu hkd hm hk hx hr hρ h
  ·cases hc
 | lookup t m k okk =>
  rw[hop] at hc
  simp only[aT] at hc
  split at hc
  ·rename_i kt et hu
   simp only[Option.bind_eq_bind,Option.bind_eq_some_iff] at hc
   obtain⟨i,hi,hc⟩:=hc
   split at hc
   ·rename_i z hz
    simp[Option.bind_eq_some_iff] at hc
    obtain⟨kd,hkd,m',hm,k',hk,rfl⟩:=hc
    exact does_look hsq hop hu hkd hi hz hm hk hr hρ h
   ·cases hc
  ·cases hc
 | makeSlice t l c =>
  rw[hop] at hc
  simp only[aT] at hc
  split at hc
  ·rename_i e hu
   simp[Option.bind_eq_some_iff] at hc
   obtain⟨i,hi,z,hz,hzn,y,hy,q,hq,rfl⟩:=hc
   exact does_mksl hop hu hi hz hzn hy hq hr hρ h
  ·cases hc
 | extract x i =>
  rw[hop] at hc
  simp[aT,Option.bind_eq_some_iff] at hc
  obtain⟨y,hy,rfl⟩:=hc
  simp only[op1] at h
  split at h
  ·rename_i vs e
   simp only[Option.map_eq_some_iff] at h
   obtain⟨q,hq,e3⟩:=h
   simp at e3
   obtain⟨rfl,rfl⟩:=e3
   exact does_ext hop hy hr hρ e hq
  ·cases h
 | call c =>
  rw[hop] at hc
  simp only[aT,vT,Option.bind_eq_bind,Option.bind_eq_some_iff] at hc
  obtain⟨args,hargs,hc⟩:=hc
  split at hc
  ·rename_i f hf
   simp[Option.bind_eq_some_iff] at hc
   obtain⟨f',hf',rfl⟩:=hc
   simp[op1] at h
  ·rename_i hf
   split at hc
   ·rename_i t x hat
    obtain⟨x',hx',hy'⟩:=one_of hargs
    split at hc
    ·rename_i hu
     simp at hc
     subst hc
     exact aE1 hop hf hat hx' hy' (.inl ⟨hu,rfl⟩) hr hρ h
    ·rename_i e hu
     simp at hc
     subst hc
     exact aE1 hop hf hat hx' hy' (.inr (.inl ⟨e,hu,rfl⟩)) hr hρ h
    ·rename_i k e hu
     simp at hc
     subst hc
     exact aE1 hop hf hat hx' hy' (.inr (.inr ⟨k,e,hu,rfl⟩)) hr hρ h
    ·cases hc
   ·cases hc
  ·rename_i hf
   split at hc
   ·rename_i t t2 x y hat hat2
    obtain⟨x',y',hxy,hx',hy'⟩:=two_of hargs
    split at hc
    ·rename_i e hu
     simp only[Option.bind_eq_some_iff] at hc
     obtain⟨i,hi,z,hz,hc⟩:=hc
     split at hc
     ·rename_i hcnd
      obtain⟨rfl,hsz,htys⟩:=hcnd
      simp at hc
      subst hc
      exact does_app hop hf ⟨hat,hat2⟩ hxy hu hi hz hsz hx' hy' hr hρ (two_types hat hat2 htys) h
     ·cases hc
    ·cases hc
   ·cases hc
  ·rename_i hf
   split at hc
   ·rename_i x y hb
    obtain⟨x',y',hxy,hx',hy'⟩:=two_of hargs
    simp at hc
    subst hc
    exact does_imax hop (by rw[hf,isMM_max hb]) hxy hx' hy' hr hρ h
   ·rename_i x y hb
    obtain⟨x',y',hxy,hx',hy'⟩:=two_of hargs
    simp at hc
    subst hc
    exact does_imin hop (by rw[hf,isMM_min hb]) hxy hx' hy' hr hρ h
   ·cases hc
  ·cases hc
 | _=>rw[hop] at hc;simp[aT] at hc

end
end Go.B
end

section
namespace Go.B
set_option linter.unusedVariables false
set_option linter.unusedSimpArgs false

def BOper.looks(o:BOper):List Nat:=aS7 o.op.reads++(match o.guard with|some (t,_)=>[t]|none=>[])

theorem ev_congr{e e':Env}{l:List Opd}(h:∀t∈aS7 l,e t=e' t):∀x∈l,x.ev e=x.ev e':=by
 intro x hx
 cases x with
 | c v=>rfl
 | t n =>
  refine h n ?_
  unfold aS7
  exact List.mem_filterMap.2 ⟨_,hx,rfl⟩

theorem mQ{σ σ':Opd→BV}{d:Nat}{x:Option Opd}(h:∀y,x=some y→σ y=σ' y):bY σ d x=bY σ' d x:=by
 cases x with
 | none=>rfl
 | some y=>simp[bY,h y rfl]

theorem op1_congr{aA nb:Nat}{σ σ':Opd→BV}{H:BH}{op:BOp}(h:∀x∈op.reads,σ x=σ' x):op1 aA nb σ H op=op1 aA nb σ' H op:=by
 cases op with
 | build z ps =>
  have:(ps.map fun(o,n,x)=>(o,n,σ x))=ps.map fun(o,n,x)=>(o,n,σ' x):=by
   refine List.map_congr_left fun p hp=>?_
   show (p.1,p.2.1,σ p.2.2)=(p.1,p.2.1,σ' p.2.2)
   rw[h p.2.2 (by simp only[BOp.reads];exact List.mem_map.2 ⟨p,hp,rfl⟩)]
  simp only[op1,this]
 | mk ty n z ps =>
  have:(ps.map fun(o,n,x)=>(o,n,σ x))=ps.map fun(o,n,x)=>(o,n,σ' x):=by
   refine List.map_congr_left fun p hp=>?_
   show (p.1,p.2.1,σ p.2.2)=(p.1,p.2.1,σ' p.2.2)
   rw[h p.2.2 (by simp only[BOp.reads];exact List.mem_map.2 ⟨p,hp,rfl⟩)]
  simp only[op1,this]
 | mkfn f caps =>
  have:caps.map σ=caps.map σ':=List.map_congr_left fun x hx=>h x hx
  simp only[op1,this]
 | slice sz x lo hi =>
  have h1:=h x (by simp[BOp.reads])
  have h2:∀d,bY σ d lo=bY σ' d lo:=fun d=>mQ fun y hy=>h y (by subst hy;simp[BOp.reads])
  have h3:∀d,bY σ d hi=bY σ' d hi:=fun d=>mQ fun y hy=>h y (by subst hy;simp[BOp.reads])
  simp only[op1,h1,h2,h3]
 | sslice x lo hi =>
  have h1:=h x (by simp[BOp.reads])
  have h2:∀d,bY σ d lo=bY σ' d lo:=fun d=>mQ fun y hy=>h y (by subst hy;simp[BOp.reads])
  have h3:∀d,bY σ d hi=bY σ' d hi:=fun d=>mQ fun y hy=>h y (by subst hy;simp[BOp.reads])
  simp only[op1,h1,h2,h3]
 | call f xs=>rfl
 | new ty z=>rfl
 | mkmap=>rfl
 | _ =>
  simp only[BOp.reads,List.mem_cons,List.not_mem_nil,or_false,forall_eq_or_imp,forall_eq] at h
  simp only[op1,h]

inductive Eff(aA:Nat)(C:bR)(o:BOper)(e:Env)(H:BH):BV→BH→Prop where
 | skip:lN e o.guard=some false→Eff aA C o e H (.tup []) H
 | op {nb:Nat} {v:BV} {H1:BH}:lN e o.guard=some true→op1 aA nb (·.ev e) H o.op=some (v,H1)→Eff aA C o e H v H1
 | call {f:Opd} {xs:List Opd} {g:Nat} {caps:List BV} {v:BV} {H1:BH}:lN e o.guard=some true→o.op=.call f xs→f.ev e=.fn g caps→C g (xs.map (·.ev e)++caps) H v H1 →
   H.KeepsTys o.keep H1→Eff aA C o e H v H1

theorem exO_cons{aA:Nat}{C:bR}{o:BOper}{r:List BOper}{e e':Env}{H H':BH}:ExO aA C (o::r) e H e' H'↔∃v H1,Eff aA C o e H v H1∧ExO aA C r (e.puto o.dst v) H1 e' H':=by
 constructor
 ·intro h
  cases h with
  | skip hw hr=>exact⟨_,_,.skip hw,hr⟩
  | op hw ho hr=>exact⟨_,_,.op hw ho,hr⟩
  | call hw ho hf hc hk hr=>exact⟨_,_,.call hw ho hf hc hk,hr⟩
 ·rintro⟨v,H1,h,hr⟩
  cases h with
  | skip hw=>exact .skip hw hr
  | op hw ho=>exact .op hw ho hr
  | call hw ho hf hc hk=>exact .call hw ho hf hc hk hr

theorem aY2{e e':Env}{g:Option (Nat×Bool)}(h:∀t b,g=some (t,b)→e t=e' t):lN e g=lN e' g:=by
 cases g with
 | none=>rfl
 | some p=>obtain⟨t,b⟩:=p;simp[lN,h t b rfl]

theorem Eff.congr{aA:Nat}{C:bR}{o:BOper}{e e':Env}{H H1:BH}{v:BV}(h:∀t∈o.looks,e t=e' t)(k:Eff aA C o e H v H1):Eff aA C o e' H v H1:=by
 have hw:lN e o.guard=lN e' o.guard:=aY2 fun t b hg=>h t (by simp[BOper.looks,hg])
 have hr:∀x∈o.op.reads,x.ev e=x.ev e':=ev_congr fun t ht=>h t (by simp[BOper.looks,ht])
 cases k with
 | skip k=>exact .skip (hw ▸ k)
 | op k k2=>exact .op (hw ▸ k) (by rw[←op1_congr hr];exact k2)
 | @call f xs g caps v H1 k ho hf hc hk =>
  rw[ho] at hr
  refine .call (f:=f) (xs:=xs) (g:=g) (caps:=caps) (hw ▸ k) ho ?_ ?_ hk
  ·rw[←hr f (by simp[BOp.reads])];exact hf
  ·have:xs.map (·.ev e')=xs.map (·.ev e):=List.map_congr_left fun x hx=>(hr x (by simp[BOp.reads,hx])).symm
   rw[this]
   exact hc

theorem yW{aA:Nat}{σ:Opd→BV}{op:BOp}(hc:op.cls=0)(nb nb':Nat)(H K:BH):op1 aA nb σ H op=(op1 aA nb' σ K op).map fun p=>(p.1,H):=by
 have hm:∀{α:Type} (r:Option α) (f:α→BV),r.map (fun a=>(f a,H))=(r.map (fun a=>(f a,K))).map fun p=>(p.1,H):=by
  intro α r f
  cases r<;>rfl
 cases op
 case len kd x =>
  match kd,hc with
  | 0,_=>cases hx:σ x<;>simp only[op1,hx]<;>rfl
  | 1,_=>cases hx:σ x<;>simp only[op1,hx]<;>rfl
  | 2,hc=>simp[BOp.cls] at hc
  | n+3,_=>rfl
 all_goals simp[BOp.cls] at hc
 all_goals simp only[op1]
 all_goals first
  | rfl
  | exact hm _ _
  | ((repeat' split)<;>first|rfl|exact hm _ _)

theorem wR{aA nb:Nat}{σ:Opd→BV}{H H1:BH}{op:BOp}{v:BV}(hc:op.cls=0)(h:op1 aA nb σ H op=some (v,H1)):H1=H∧∀nb K,op1 aA nb σ K op=some (v,K):=by
 have h2:=yW (aA:=aA) (σ:=σ) hc nb nb H H
 rw[h] at h2
 simp at h2
 refine⟨h2,fun nb' K=>?_⟩
 rw[yW hc nb' nb K H,h]
 rfl

theorem tX{aA nb:Nat}{σ:Opd→BV}{H H1:BH}{op:BOp}{v:BV}(hc:op.cls=1)(h:op1 aA nb σ H op=some (v,H1)):H1=H∧∀nb K,(∀b t,(H.row b).ty=some t→(∀q,op.rt=some q→q=t)→K.row b=H.row b)→op1 aA nb σ K op=some (v,K):=by
 cases op with
 | load rt n a =>
  simp only[op1] at h ⊢
  cases ha:σ a with
  | ptr b i =>
   simp only[ha] at h ⊢
   cases hb:H.row b with
   | arr ty cs =>
    simp only[hb] at h
    split at h
    ·rename_i hcnd
     cases hq:asm n ((cs.drop i).take (n.getD 1)) with
     | none=>rw[hq] at h;cases h
     | some q =>
      rw[hq] at h
      simp at h
      refine⟨h.2.symm,fun nb K hK=>?_⟩
      have:K.row b=H.row b:=hK b ty (by rw[hb];rfl) fun q e=>by
       simp only[BOp.rt] at e
       subst e
       simpa[dF] using hcnd.1
      rw[this,hb]
      simp only[hcnd,if_true,and_self,hq]
      simp[h.1]
    ·cases h
   | _=>simp only[hb] at h;cases h
  | _=>simp only[ha] at h;cases h
 | b2s ty x =>
  simp only[op1] at h ⊢
  cases ha:σ x with
  | nils =>
   simp only[ha] at h ⊢
   simp at h
   exact⟨h.2.symm,fun nb K _=>by simp[h.1]⟩
  | sl b i n =>
   simp only[ha] at h ⊢
   cases hb:H.row b with
   | arr t cs =>
    simp only[hb] at h
    split at h
    ·rename_i hcnd
     cases hq:qC ((cs.drop i).take n) with
     | none=>rw[hq] at h;cases h
     | some q =>
      rw[hq] at h
      simp at h
      refine⟨h.2.symm,fun nb K hK=>?_⟩
      have:K.row b=H.row b:=hK b t (by rw[hb];rfl) fun q e=>by
       simp only[BOp.rt,Option.some.injEq] at e
       rw[←e,hcnd.1]
      rw[this,hb]
      simp only[hcnd,if_true,and_self,hq]
      simp[h.1]
    ·cases h
   | _=>simp only[hb] at h;cases h
  | _=>simp only[ha] at h;cases h
 | look kd okk z m k =>
  simp only[op1] at h ⊢
  cases ha:σ m with
  | mp b =>
   simp only[ha] at h ⊢
   cases hb:H.row b with
   | mp es =>
    simp only[hb] at h
    split at h
    rotate_left
    ·cases h
    rename_i hok
    cases hq:iQ kd es (σ k) with
    | none=>rw[hq] at h;cases h
    | some q =>
     rw[hq] at h
     simp at h
     refine⟨h.2.symm,fun nb K hK=>?_⟩
     have:K.row b=H.row b:=hK b mapTy (by rw[hb];rfl) fun q e=>by
      simp only[BOp.rt,Option.some.injEq] at e
      exact e.symm
     rw[this,hb]
     simp[hq,h.1,hok]
   | _=>simp only[hb] at h;cases h
  | _=>simp only[ha] at h;cases h
 | len kd x =>
  match kd,hc with
  | 2,_ =>
   cases ha:σ x with
   | nilm =>
    simp only[op1,ha] at h ⊢
    simp at h
    exact⟨h.2.symm,fun nb K _=>by simp[h.1]⟩
   | mp b =>
    simp only[op1,ha] at h ⊢
    cases hb:H.row b with
    | mp es =>
     simp only[hb] at h
     simp at h
     refine⟨h.2.symm,fun nb K hK=>?_⟩
     have:K.row b=H.row b:=hK b mapTy (by rw[hb];rfl) fun q e=>by
      simp only[BOp.rt,Option.some.injEq] at e
      exact e.symm
     rw[this,hb]
     simp[h.1]
    | _=>simp only[hb] at h;cases h
   | _=>simp only[op1,ha] at h;cases h
  | 0,hc=>simp[BOp.cls] at hc
  | 1,hc=>simp[BOp.cls] at hc
  | n+3,hc=>simp[BOp.cls] at hc
 | _=>simp[BOp.cls] at hc

theorem aC{aA nb:Nat}{H:BH}{s:BSt}(h1:H.row nb=.fresh)(h2:aA≤nb):H.make aA nb s=some (H.set nb s):=by
 simp[BH.make,h1,h2]

theorem tZ{aA nb:Nat}{σ:Opd→BV}{H H1:BH}{op:BOp}{v:BV}(hc:op.cls=2)(h:op1 aA nb σ H op=some (v,H1)):
  ∃s,s≠.fresh∧H.row nb=.fresh∧H1=H.set nb s∧∀K:BH,K.row nb=.fresh→op1 aA nb σ K op=some (v,K.set nb s):=by
 have fin:∀{s:BSt} {u:BV} ,s≠.fresh→(H.make aA nb s).map (fun K=>(u,K))=some (v,H1)→∃s',s'≠.fresh∧H.row nb=.fresh∧H1=H.set nb s'∧∀K:BH,K.row nb=.fresh→(K.make aA nb s).map (fun K=>(u,K))=some (v,K.set nb s'):=by
  intro s u hs hh
  cases hm:H.make aA nb s with
  | none=>rw[hm] at hh;cases hh
  | some L =>
   rw[hm] at hh
   simp at hh
   obtain⟨rfl,rfl⟩:=hh
   obtain⟨h1,h2,rfl⟩:=dC hm
   exact⟨s,hs,h1,rfl,fun K hK=>by rw[aC hK h2];rfl⟩
 cases op with
 | new ty z=>exact fin (by simp) h
 | box ty x =>
  simp only[op1] at h ⊢
  split at h
  ·rename_i h1
   obtain⟨s,q1,q2,q3,q4⟩:=fin (by simp) h
   exact⟨s,q1,q2,q3,fun K hK=>by simp only[h1,if_true];exact q4 K hK⟩
  ·cases h
 | mk ty n z ps =>
  simp only[op1] at h ⊢
  split at h
  ·rename_i cs h1
   exact fin (by simp) h
  ·cases h
 | mkmap=>exact fin (by simp) h
 | mksl ty by_ z l c =>
  simp only[op1] at h ⊢
  split at h
  ·rename_i k n k' c e1 e2
   split at h
   ·rename_i h1
    obtain⟨s,q1,q2,q3,q4⟩:=fin (by simp) h
    exact⟨s,q1,q2,q3,fun K hK=>by rw[if_pos h1];exact q4 K hK⟩
   ·cases h
  ·cases h
 | len kd x =>
  match kd,hc with
  | 0,hc=>simp[BOp.cls] at hc
  | 1,hc=>simp[BOp.cls] at hc
  | 2,hc=>simp[BOp.cls] at hc
  | n+3,hc=>simp[BOp.cls] at hc
 | _=>simp[BOp.cls] at hc

end Go.B
end

section
namespace Go.B
set_option linter.unusedVariables false
set_option linter.unusedSimpArgs false

theorem mH{s:BSt}{t:Nat}(h:s.ty=some t):s≠.fresh:=by rintro rfl;cases h

theorem op_write{aA nb:Nat}{σ:Opd→BV}{H H1:BH}{op:BOp}{v:BV}(hc:op.cls=3)(h:op1 aA nb σ H op=some (v,H1)){q:Nat}(hq:op.rt=some q):
  ∀b t,(H.row b).ty=some t→t≠q→H1.row b=H.row b:=by
 intro b t hb ht
 cases op with
 | store rt n a x =>
  simp only[BOp.rt] at hq
  subst hq
  simp only[op1] at h
  split at h
  ·rename_i b' i e
   split at h
   ·rename_i ty cs e2
    split at h
    ·rename_i hcnd
     simp at h
     obtain⟨_,rfl⟩:=h
     refine BH.row_set_ne _ _ ?_
     rintro rfl
     rw[e2] at hb
     have h1:=hcnd.1
     simp[dF] at h1
     cases hb
     exact ht h1.symm
    ·cases h
   ·cases h
  ·cases h
 | mset kd m k x =>
  simp only[BOp.rt,Option.some.injEq] at hq
  subst hq
  simp only[op1] at h
  split at h
  ·rename_i b' e
   split at h
   ·rename_i es e2
    split at h
    ·cases hm:fA kd es (σ k) (σ x) with
     | none=>rw[hm] at h;cases h
     | some es' =>
      rw[hm] at h
      simp at h
      obtain⟨_,rfl⟩:=h
      refine BH.row_set_ne _ _ ?_
      rintro rfl
      rw[e2] at hb
      cases hb
      exact ht rfl
    ·cases h
   ·cases h
  ·cases h
 | app ty sz by_ x y =>
  simp only[BOp.rt,Option.some.injEq] at hq
  subst hq
  simp only[op1] at h
  split at h
  ·split at h
   ·simp at h
    rw[h.2]
   ·cases h
  ·rename_i new hne e1 e2
   split at h
   ·obtain⟨K,hm,e⟩:∃K,H.make aA nb (.arr ty new)=some K∧K=H1:=by
     cases hm:H.make aA nb (.arr ty new) with
     | none=>rw[hm] at h;cases h
     | some K=>rw[hm] at h;simp at h;exact⟨K,rfl,h.2⟩
    subst e
    obtain⟨g1,g2,rfl⟩:=dC hm
    refine BH.row_set_ne _ _ ?_
    rintro rfl
    exact mH hb g1
   ·cases h
  ·rename_i b' i n new e1 e2
   split at h
   ·rename_i ty' cs e3
    split at h
    ·rename_i hcnd
     obtain⟨d1,d2,rfl,_⟩:=hcnd
     cases hm:H.make aA nb (.arr ty' (cs++new)) with
     | none=>rw[hm] at h;cases h
     | some K =>
      rw[hm] at h
      simp at h
      obtain⟨_,rfl⟩:=h
      obtain⟨g1,g2,rfl⟩:=dC hm
      rw[BH.row_set_ne,BH.row_set_ne]
      ·rintro rfl
       exact mH hb g1
      ·rintro rfl
       rw[e3] at hb
       cases hb
       exact ht rfl
    ·cases h
   ·cases h
  ·cases h
 | len kd x =>
  match kd,hc with
  | 0,hc=>simp[BOp.cls] at hc
  | 1,hc=>simp[BOp.cls] at hc
  | 2,hc=>simp[BOp.cls] at hc
  | n+3,hc=>simp[BOp.cls] at hc
 | _=>simp[BOp.cls] at hc

theorem rZ{H:BH}{nb:Nat}{s:BSt}(hf:H.row nb=.fresh){sz:Nat}{v:BV}{cs:List BV}(h:H.cells sz v=some cs):(H.set nb s).cells sz v=some cs:=by
 unfold BH.cells at h ⊢
 split at h
 ·exact h
 ·exact h
 ·rename_i b i n
  have:b≠nb:=by
   rintro rfl
   rw[hf] at h
   cases h
  rw[BH.row_set_ne _ _ this]
  exact h
 ·cases h

theorem aT8{aA nb' nb:Nat}{σ:Opd→BV}{H H1:BH}{op:BOp}{v:BV}(h:op1 aA nb' σ H op=some (v,H1))(hf:H1.row nb=.fresh):H.row nb=.fresh∧∀s,op1 aA nb' σ (H.set nb s) op=some (v,H1.set nb s):=by
 have hcls:op.cls=0∨op.cls=1∨op.cls=2∨op.cls=3∨op.cls=4:=by
  unfold BOp.cls
  split<;>simp
 rcases hcls with hc|hc|hc|hc|hc
 ·obtain⟨rfl,hK⟩:=wR hc h
  exact⟨hf,fun s=>hK _ _⟩
 ·obtain⟨rfl,hK⟩:=tX hc h
  refine⟨hf,fun s=>hK _ _ fun b t hb _=>BH.row_set_ne _ _ ?_⟩
  rintro rfl
  exact mH hb hf
 ·obtain⟨s',q1,q2,rfl,q4⟩:=tZ hc h
  have hne:nb≠nb':=by
   rintro rfl
   rw[BH.row_set_eq] at hf
   exact q1 hf
  rw[BH.row_set_ne _ _ hne] at hf
  refine⟨hf,fun s=>?_⟩
  rw[q4 _ (by rw[BH.row_set_ne _ _ (Ne.symm hne)];exact q2),BH.set_comm _ _ _ (Ne.symm hne)]
 ·cases op with
  | store rt n a x =>
   simp only[op1] at h ⊢
   split at h
   ·rename_i b i e
    split at h
    ·rename_i ty cs e2
     split at h
     ·rename_i hcnd
      simp at h
      obtain⟨rfl,rfl⟩:=h
      have hne:nb≠b:=by
       rintro rfl
       rw[BH.row_set_eq] at hf
       cases hf
      rw[BH.row_set_ne _ _ hne] at hf
      refine⟨hf,fun s=>?_⟩
      rw[BH.row_set_ne _ _ (Ne.symm hne),e2]
      simp only[hcnd,and_self,if_true]
      rw[List.append_assoc,BH.set_comm _ _ _ hne]
     ·cases h
    ·cases h
   ·cases h
  | mset kd m k x =>
   simp only[op1] at h ⊢
   split at h
   ·rename_i b e
    split at h
    ·rename_i es e2
     split at h
     ·rename_i hb
      cases hm:fA kd es (σ k) (σ x) with
      | none=>rw[hm] at h;cases h
      | some es' =>
       rw[hm] at h
       simp at h
       obtain⟨rfl,rfl⟩:=h
       have hne:nb≠b:=by
        rintro rfl
        rw[BH.row_set_eq] at hf
        cases hf
       rw[BH.row_set_ne _ _ hne] at hf
       refine⟨hf,fun s=>?_⟩
       rw[BH.row_set_ne _ _ (Ne.symm hne),e2]
       simp only[hb,true_and,if_true,hm,and_self]
       rw[Option.map_some,BH.set_comm _ _ _ hne]
     ·cases h
    ·cases h
   ·cases h
  | app ty sz by_ x y =>
   simp only[op1] at h ⊢
   split at h
   ·rename_i e1 e2
    split at h
    ·rename_i hsz
     simp at h
     obtain⟨rfl,rfl⟩:=h
     refine⟨hf,fun s=>?_⟩
     rw[e1,rZ hf e2]
     simp only[hsz,if_true]
    ·cases h
   ·rename_i new hne e1 e2
    split at h
    ·rename_i hcnd
     cases hm:H.make aA nb' (.arr ty new) with
     | none=>rw[hm] at h;cases h
     | some K =>
      rw[hm] at h
      simp at h
      obtain⟨rfl,rfl⟩:=h
      obtain⟨g1,g2,rfl⟩:=dC hm
      have hn:nb≠nb':=by
       rintro rfl
       rw[BH.row_set_eq] at hf
       cases hf
      rw[BH.row_set_ne _ _ hn] at hf
      refine⟨hf,fun s=>?_⟩
      rw[e1,rZ hf e2]
      have g1':(H.set nb s).row nb'=.fresh:=by rw[BH.row_set_ne _ _ (Ne.symm hn)];exact g1
      cases new with
      | nil=>exact absurd rfl hne
      | cons c cs =>
       simp only[hcnd,and_self,if_true,aC g1' g2]
       rw[Option.map_some,BH.set_comm _ _ _ hn]
    ·cases h
   ·rename_i b i n new e1 e2
    split at h
    ·rename_i ty' cs e3
     split at h
     ·rename_i hcnd
      cases hm:H.make aA nb' (.arr ty (cs++new)) with
      | none=>rw[hm] at h;cases h
      | some K =>
       rw[hm] at h
       simp at h
       obtain⟨rfl,rfl⟩:=h
       obtain⟨g1,g2,rfl⟩:=dC hm
       have hn2:nb≠b:=by
        rintro rfl
        rw[BH.row_set_eq] at hf
        cases hf
       rw[BH.row_set_ne _ _ hn2] at hf
       have hn:nb≠nb':=by
        rintro rfl
        rw[BH.row_set_eq] at hf
        cases hf
       rw[BH.row_set_ne _ _ hn] at hf
       refine⟨hf,fun s=>?_⟩
       rw[e1,rZ hf e2]
       have g1':(H.set nb s).row nb'=.fresh:=by rw[BH.row_set_ne _ _ (Ne.symm hn)];exact g1
       simp only[]
       rw[BH.row_set_ne _ _ (Ne.symm hn2),e3]
       simp only[]
       rw[if_pos hcnd,aC g1' g2,Option.map_some,BH.set_comm _ _ _ hn,BH.set_comm _ _ _ hn2]
     ·cases h
    ·cases h
   ·cases h
  | len kd x =>
   match kd,hc with
   | 0,hc=>simp[BOp.cls] at hc
   | 1,hc=>simp[BOp.cls] at hc
   | 2,hc=>simp[BOp.cls] at hc
   | n+3,hc=>simp[BOp.cls] at hc
  | _=>simp[BOp.cls] at hc
 ·cases op with
  | call f xs=>simp[op1] at h
  | len kd x =>
   match kd,hc with
   | 0,hc=>simp[BOp.cls] at hc
   | 1,hc=>simp[BOp.cls] at hc
   | 2,hc=>simp[BOp.cls] at hc
   | n+3,hc=>simp[BOp.cls] at hc
  | _=>simp[BOp.cls] at hc

def eO(C:bR):Prop:=∀f args H v H1 nb,C f args H v H1→H1.row nb=.fresh→H.row nb=.fresh∧∀s,C f args (H.set nb s) v (H1.set nb s)

theorem rK{H H1:BH}{tys:List Nat}{nb:Nat}{s:BSt}(h:H.KeepsTys tys H1):(H.set nb s).KeepsTys tys (H1.set nb s):=by
 intro b t hb ht
 by_cases e:b=nb
 ·subst e;rw[BH.row_set_eq,BH.row_set_eq]
 ·rw[BH.row_set_ne _ _ e] at hb ⊢
  rw[BH.row_set_ne _ _ e]
  exact h b t hb ht

theorem Eff.frame{aA:Nat}{C:bR}(hC:eO C){o:BOper}{e:Env}{H H1:BH}{v:BV}{nb:Nat}(h:Eff aA C o e H v H1)(hf:H1.row nb=.fresh):H.row nb=.fresh∧∀s,Eff aA C o e (H.set nb s) v (H1.set nb s):=by
 cases h with
 | skip hw=>exact⟨hf,fun s=>.skip hw⟩
 | op hw ho =>
  obtain⟨g1,g2⟩:=aT8 ho hf
  exact⟨g1,fun s=>.op hw (g2 s)⟩
 | call hw ho hg hc hk =>
  obtain⟨g1,g2⟩:=hC _ _ _ _ _ nb hc hf
  exact⟨g1,fun s=>.call hw ho hg (g2 s) (rK hk)⟩

theorem ExO.frame{aA:Nat}{C:bR}(hC:eO C){nb:Nat}:∀{l:List BOper} {e e':Env} {H H':BH},ExO aA C l e H e' H'→H'.row nb=.fresh→H.row nb=.fresh∧∀s,ExO aA C l e (H.set nb s) e' (H'.set nb s)
 | [],e,e',H,H',h,hf=>by
  cases h
  exact⟨hf,fun s=>.nil⟩
 | o::r,e,e',H,H',h,hf=>by
  obtain⟨v,H1,h1,h2⟩:=exO_cons.1 h
  obtain⟨g1,g2⟩:=ExO.frame hC h2 hf
  obtain⟨k1,k2⟩:=h1.frame hC g1
  exact⟨k1,fun s=>exO_cons.2 ⟨v,_,k2 s,g2 s⟩⟩

theorem ExC.frame{aA:Nat}{C:bR}(hC:eO C){nb:Nat}{c:BCode}{e e':Env}{H H':BH}{x:BExit}(h:ExC aA C c e H x e' H'):H'.row nb=.fresh→H.row nb=.fresh∧∀s,ExC aA C c e (H.set nb s) x e' (H'.set nb s):=by
 induction h with
 | skip=>exact fun hf=>⟨hf,fun s=>.skip⟩
 | region hr=>exact fun hf=>let ⟨g1,g2⟩:=hr.frame hC hf;⟨g1,fun s=>.region (g2 s)⟩
 | seq _ _ ih1 ih2=>exact fun hf=>let ⟨g1,g2⟩:=ih2 hf;let ⟨k1,k2⟩:=ih1 g1;⟨k1,fun s=>.seq (k2 s) (g2 s)⟩
 | seqx _ hx ih=>exact fun hf=>let ⟨g1,g2⟩:=ih hf;⟨g1,fun s=>.seqx (g2 s) hx⟩
 | thn hc _ ih=>exact fun hf=>let ⟨g1,g2⟩:=ih hf;⟨g1,fun s=>.thn hc (g2 s)⟩
 | els hc _ ih=>exact fun hf=>let ⟨g1,g2⟩:=ih hf;⟨g1,fun s=>.els hc (g2 s)⟩
 | block _ ih=>exact fun hf=>let ⟨g1,g2⟩:=ih hf;⟨g1,fun s=>.block (g2 s)⟩
 | loopn _ _ ih1 ih2=>exact fun hf=>let ⟨g1,g2⟩:=ih2 hf;let ⟨k1,k2⟩:=ih1 g1;⟨k1,fun s=>.loopn (k2 s) (g2 s)⟩
 | loopx _ hx ih=>exact fun hf=>let ⟨g1,g2⟩:=ih hf;⟨g1,fun s=>.loopx (g2 s) hx⟩
 | exit=>exact fun hf=>⟨hf,fun s=>.exit⟩
 | ret=>exact fun hf=>⟨hf,fun s=>.ret⟩

theorem BRes.frame{e:Env}{H:BH}{nb:Nat}(hf:H.row nb=.fresh){r:BRes}{v:BV}(h:r.val e H=some v)(s:BSt):r.val e (H.set nb s)=some v:=by
 cases r with
 | tmp t=>exact h
 | cell t n =>
  simp only[BRes.val] at h ⊢
  split at h
  ·rename_i b i hb
   have:b≠nb:=by
    rintro rfl
    rw[hf] at h
    cases h
   rw[BH.row_set_ne _ _ this]
   exact h
  ·cases h
theorem sL{e:Env}{H:BH}{nb:Nat}(hf:H.row nb=.fresh)(s:BSt):∀{rs:List BRes} {vs:List BV},cX e H rs=some vs→cX e (H.set nb s) rs=some vs
 | [],vs,h=>h
 | r::rs,vs,h=>by
  unfold cX at h ⊢
  cases hr:r.val e H with
  | none=>rw[hr] at h;cases h
  | some v =>
   rw[hr] at h
   rw[BRes.frame hf hr s]
   cases hrs:cX e H rs with
   | none=>rw[hrs] at h;cases h
   | some us =>
    rw[hrs] at h
    rw[sL hf s hrs]
    exact h

theorem CallN.framed{Γ:Ctx}(hext:eO Γ.ext):∀n,eO (CallN Γ n)
 | 0=>fun _ _ _ _ _ _ h=>h.elim
 | n+1=>by
  intro f args H v H1 nb h hf
  rcases h with⟨fn,hfn,x,e',hx,hxx,hr⟩|h
  ·obtain⟨g1,g2⟩:=hx.frame (CallN.framed hext n) hf
   refine⟨g1,fun s=>.inl ⟨fn,hfn,x,e',g2 s,hxx,?_⟩⟩
   unfold cY at hr ⊢
   cases hrs:cX e' H1 fn.results with
   | none=>rw[hrs] at hr;cases hr
   | some us =>
    rw[hrs] at hr
    rw[sL hf s hrs]
    exact hr
  ·obtain⟨g1,g2⟩:=hext _ _ _ _ _ _ h hf
   exact⟨g1,fun s=>.inr (g2 s)⟩

theorem qY{x y:BOper}(h:clsOk x y=true):x.op.cls=0∨y.op.cls=0∨(x.op.cls=1∧y.op.cls=1)∨(x.op.cls=1∧y.op.cls=2)∨(x.op.cls=1∧y.op.cls=3∧apart x.op.rt y.op.rt=true) ∨
  (x.op.cls=1∧y.op.cls=4∧kept x.op.rt y.keep=true)∨(x.op.cls=2∧y.op.cls=2)∨(x.op.cls=3∧y.op.cls=2)∨(x.op.cls=4∧y.op.cls=2):=by
 unfold clsOk at h
 split at h<;>simp_all

theorem tY{aA nb:Nat}{σ:Opd→BV}{H H1:BH}{op:BOp}{v:BV}(h:op1 aA nb σ H op=some (v,H1)):op.cls≠4:=by
 intro hc
 cases op with
 | call f xs=>simp[op1] at h
 | len kd x =>
  match kd,hc with
  | 0,hc=>simp[BOp.cls] at hc
  | 1,hc=>simp[BOp.cls] at hc
  | 2,hc=>simp[BOp.cls] at hc
  | n+3,hc=>simp[BOp.cls] at hc
 | _=>simp[BOp.cls] at hc

theorem Eff.swap{aA:Nat}{C:bR}(hC:eO C){x y:BOper}{e:Env}{H H1 H2:BH}{u v:BV}(hx:Eff aA C x e H u H1)(hy:Eff aA C y (e.puto x.dst u) H1 v H2)(hs:wA x y=true):
  ∃H1',Eff aA C y e H v H1'∧Eff aA C x (e.puto y.dst v) H1' u H2∧(e.puto x.dst u).puto y.dst v=(e.puto y.dst v).puto x.dst u:=by
 unfold wA at hs
 simp only[Bool.and_eq_true,Bool.not_eq_true',List.any_eq_false] at hs
 obtain⟨⟨hd1,hd2⟩,hcl⟩:=hs
 have look_names:∀(o:BOper) (t:Nat),t∈o.looks→t∈o.names:=by
  intro o t ht
  simp only[BOper.looks,BOper.names,List.mem_append] at ht ⊢
  rcases ht with ht|ht
  ·exact .inl (.inr ht)
  ·exact .inr ht
 have env:∀(o:BOper) (d:Option Nat) (w:BV) (e:Env),(∀t∈d.toList,¬o.names.contains t=true)→∀t∈o.looks,(e.puto d w) t=e t:=by
  intro o d w e hd t ht
  cases d with
  | none=>rfl
  | some n =>
   have hne:t≠n:=by
    rintro rfl
    exact hd t (by simp) (by simpa using look_names o t ht)
   simp[Env.puto,Env.put,hne]
 have hy0:Eff aA C y e H1 v H2:=hy.congr (env y x.dst u e hd1)
 have hput:(e.puto x.dst u).puto y.dst v=(e.puto y.dst v).puto x.dst u:=by
  cases hxd:x.dst with
  | none=>rfl
  | some a =>
   cases hyd:y.dst with
   | none=>rfl
   | some b =>
    have hne:a≠b:=by
     rintro rfl
     exact hd1 a (by simp[hxd]) (by simp[BOper.names,hyd])
    funext t
    simp only[Env.puto,Env.put]
    split<;>split<;>simp_all
 have key:∃H1',Eff aA C y e H v H1'∧Eff aA C x e H1' u H2:=by
  cases hx with
  | skip hw=>exact⟨H2,hy0,.skip hw⟩
  | @op nbx _ _ hwx hox =>
   have hx4:x.op.cls≠4:=tY hox
   cases hy0 with
   | skip hw=>exact⟨H,.skip hw,.op hwx hox⟩
   | @op nby _ _ hwy hoy =>
    have hy4:y.op.cls≠4:=tY hoy
    rcases qY hcl with h0|h0|⟨h0,h1⟩|⟨h0,h1⟩|⟨h0,h1,ha⟩|⟨h0,h1,ha⟩|⟨h0,h1⟩|⟨h0,h1⟩|⟨h0,h1⟩
    ·obtain⟨rfl,hK⟩:=wR h0 hox
     exact⟨H2,.op hwy hoy,.op hwx (hK nbx H2)⟩
    ·obtain⟨rfl,hK⟩:=wR h0 hoy
     exact⟨H,.op hwy (hK nby H),.op hwx hox⟩
    ·obtain⟨rfl,hK⟩:=tX h0 hox
     obtain⟨rfl,hK2⟩:=tX h1 hoy
     exact⟨_,.op hwy hoy,.op hwx hox⟩
    ·obtain⟨rfl,hK⟩:=tX h0 hox
     obtain⟨s,q1,q2,rfl,q4⟩:=tZ h1 hoy
     refine⟨_,.op hwy hoy,.op hwx (hK nbx _ fun b t hb _=>BH.row_set_ne _ _ ?_)⟩
     rintro rfl
     exact mH hb q2
    ·obtain⟨rfl,hK⟩:=tX h0 hox
     unfold apart at ha
     split at ha
     ·rename_i a c hxa hyc
      refine⟨_,.op hwy hoy,.op hwx (hK nbx _ fun b t hb hq=>op_write h1 hoy hyc b t hb ?_)⟩
      rw[←hq a hxa]
      simpa using ha
     ·cases ha
    ·exact absurd h1 hy4
    ·obtain⟨s,q1,q2,rfl,q4⟩:=tZ h0 hox
     obtain⟨s',q1',q2',rfl,q4'⟩:=tZ h1 hoy
     have hne:nby≠nbx:=by
      rintro rfl
      rw[BH.row_set_eq] at q2'
      exact q1 q2'
     rw[BH.row_set_ne _ _ hne] at q2'
     refine⟨H.set nby s',.op hwy (q4' H q2'),.op (nb:=nbx) hwx ?_⟩
     rw[q4 _ (by rw[BH.row_set_ne _ _ (Ne.symm hne)];exact q2),BH.set_comm _ _ _ hne]
    ·obtain⟨s',q1',q2',rfl,q4'⟩:=tZ h1 hoy
     obtain⟨g1,g2⟩:=aT8 hox q2'
     exact⟨H.set nby s',.op hwy (q4' H g1),.op hwx (g2 s')⟩
    ·exact absurd h0 hx4
   | @call f xs g caps _ _ hwy hoy hg hc hk =>
    have h4:y.op.cls=4:=by rw[hoy];rfl
    rcases qY hcl with h0|h0|⟨h0,h1⟩|⟨h0,h1⟩|⟨h0,h1,ha⟩|⟨h0,h1,ha⟩|⟨h0,h1⟩|⟨h0,h1⟩|⟨h0,h1⟩
    ·obtain⟨rfl,hK⟩:=wR h0 hox
     exact⟨H2,.call hwy hoy hg hc hk,.op hwx (hK nbx H2)⟩
    ·omega
    ·omega
    ·omega
    ·omega
    ·obtain⟨rfl,hK⟩:=tX h0 hox
     refine⟨H2,.call hwy hoy hg hc hk,.op hwx (hK nbx H2 fun b t hb hq=>hk b t hb ?_)⟩
     unfold kept at ha
     split at ha
     ·rename_i a hxa
      rw[←hq a hxa]
      simpa using ha
     ·cases ha
    ·omega
    ·omega
    ·omega
  | @call f xs g caps _ _ hwx hox hg hc hk =>
   have h4:x.op.cls=4:=by rw[hox];rfl
   cases hy0 with
   | skip hw=>exact⟨H,.skip hw,.call hwx hox hg hc hk⟩
   | @op nby _ _ hwy hoy =>
    have hy4:y.op.cls≠4:=tY hoy
    rcases qY hcl with h0|h0|⟨h0,h1⟩|⟨h0,h1⟩|⟨h0,h1,ha⟩|⟨h0,h1,ha⟩|⟨h0,h1⟩|⟨h0,h1⟩|⟨h0,h1⟩
    ·omega
    ·obtain⟨rfl,hK⟩:=wR h0 hoy
     exact⟨H,.op hwy (hK nby H),.call hwx hox hg hc hk⟩
    ·omega
    ·omega
    ·omega
    ·omega
    ·omega
    ·omega
    ·obtain⟨s',q1',q2',rfl,q4'⟩:=tZ h1 hoy
     obtain⟨g1,g2⟩:=hC _ _ _ _ _ nby hc q2'
     exact⟨H.set nby s',.op hwy (q4' H g1),.call hwx hox hg (g2 s') (rK hk)⟩
   | call hwy hoy hg' hc' hk' =>
    have h4':y.op.cls=4:=by rw[hoy];rfl
    rcases qY hcl with h0|h0|⟨h0,h1⟩|⟨h0,h1⟩|⟨h0,h1,ha⟩|⟨h0,h1,ha⟩|⟨h0,h1⟩|⟨h0,h1⟩|⟨h0,h1⟩<;>omega
 obtain⟨H1',k1,k2⟩:=key
 exact⟨H1',k1,k2.congr fun t ht=>(env x y.dst v e hd2 t ht).symm,hput⟩

end Go.B
end

section
namespace Go.B
set_option linter.unusedVariables false
set_option linter.unusedSimpArgs false

structure AR(aA:Nat)(X:Tie)(N:Nat)(e:Env)(a:Act):Prop where
 tmps:∀t,VR aA X (e t) (a.tmps.getD t undef)
 size:N≤a.tmps.size
 defers:a.defers=[]

section
variable {P:Program} {aA:Nat} {w0 w:World} {X:Tie} {H:BH} {N:Nat} {e:Env} {a:Act}

theorem AR.mono{Y:Tie}(h:AR aA X N e a)(hle:X.le Y):AR aA Y N e a:=⟨fun t=>(h.tmps t).mono hle,h.size,h.defers⟩

theorem AR.opd(h:AR aA X N e a):OR aA X (·.ev e) a.eval:=by
 intro x y hy
 cases x with
 | tmp t =>
  simp[Go.B.opd] at hy
  subst hy
  exact h.tmps t
 | const v =>
  simp[Go.B.opd] at hy
  subst hy
  exact VR_toB v
 | func f =>
  simp[Go.B.opd] at hy
  subst hy
  exact⟨#[],rfl,rfl⟩
 | global g=>simp[Go.B.opd] at hy

theorem AR.put(h:AR aA X N e a){dst:Option Nat}{v:BV}{v':Value}(hd:∀d,dst=some d→d<N)(hv:VR aA X v v'):AR aA X N (e.puto dst v) (a.put dst v'):=by
 cases dst with
 | none=>exact h
 | some d =>
  have hlt:d<a.tmps.size:=Nat.lt_of_lt_of_le (hd d rfl) h.size
  refine⟨fun t=>?_,by simp[Act.put,h.size],h.defers⟩
  simp only[Env.puto,Env.put,Act.put]
  by_cases ht:t=d
  ·subst ht
   simp[hlt,hv]
  ·simp only[ht,if_false]
   have:=h.tmps t
   simpa[Array.getElem?_setIfInBounds,Ne.symm ht] using this

def aF2(P:Program)(aA:Nat)(w0:World)(X:Tie)(v:BV)(H1:BH)(LO:Prop):Ending→World→Prop
 | .returned v',w'=>∃X',X.le X'∧VR aA X' v v'∧HR P aA w0 X' H1 w'
 | .outgrown,_=>LO
 | .panicked _,_=>False

def Enters(P:Program)(f:Nat):Prop:=∀args w,(callFunc f args).run P w=.ok (.enter f args) w

def mU(P:Program)(aA:Nat)(w0:World)(LO:Prop)(C:bR):Prop :=
 ∀f args H v H1,C f args H v H1→Enters P f∧∀X w args',VRL aA X args args'.toList→HR P aA w0 X H w→Calls P f args' w (aF2 P aA w0 X v H1 LO)

structure Fits(P:Program)(sq:Nat→Bool)(N:Nat)(ops:Array Oper)(o:Oper)(b:BOper):Prop where
 op:lS P.underlying P.info? sq o.op=b.op.bare
 dst:b.dst=o.dst
 lt:∀d,b.dst=some d→d<N
 guard:(o.guard=none∧b.guard=none)∨∃j c oj d,o.guard=some (j,c)∧b.guard=some (d,c)∧ops[j]?=some oj∧oj.dst=some d

theorem tN{sq:Nat→Bool}{ops:Array Oper}{o:Oper}{b:BOper}(hf:Fits P sq N ops o b)(ha:AR aA X N e a){t:Bool}(hw:lN e b.guard=some t):Region.wanted o (yielded ops a.tmps)=t:=by
 rcases hf.guard with⟨h1,h2⟩|⟨j,c,oj,d,h1,h2,h3,h4⟩
 ·rw[h2] at hw
  simp[lN] at hw
  subst hw
  simp[Region.wanted,h1]
 ·rw[h2] at hw
  have hd:=ha.tmps d
  simp only[lN] at hw
  simp only[Region.wanted,h1,yielded,h3,Option.bind_some,h4]
  split at hw
  ·rename_i u hu
   simp at hw
   subst hw
   rw[hu] at hd
   have hd:a.tmps.getD d undef=.bool u:=hd
   have:a.tmps[d]?=some (.bool u):=by
    cases hq:a.tmps[d]? with
    | none=>simp[Array.getD_eq_getD_getElem?,hq,undef] at hd
    | some v=>simp[Array.getD_eq_getD_getElem?,hq] at hd;rw[hd]
   rw[this]
   cases u<;>cases c<;>rfl
  ·rename_i hu
   simp at hw
   subst hw
   rw[hu] at hd
   obtain⟨cs',hd,hk⟩:=hd
   have hk:cs'.toList=[]:=hk
   have:cs'=#[]:=by
    apply Array.toList_inj.1
    rw[hk]
   subst this
   cases hq:a.tmps[d]? with
   | none=>rfl
   | some v =>
    simp[Array.getD_eq_getD_getElem?,hq] at hd
    subst hd
    rfl
  ·cases hw

theorem aU9{σ:Opd→BV}{ρ:Operand→Value}(hρ:OR aA X σ ρ):∀{l:List Operand} {ys:List Opd},l.mapM opd=some ys→VRL aA X (ys.map σ) (l.map ρ)
 | [],ys,h=>by simp at h;subst h;rfl
 | x::l,ys,h=>by
  simp only[List.mapM_cons,Option.bind_eq_bind,Option.pure_def,Option.bind_eq_some_iff] at h
  obtain⟨y,hy,zs,hzs,e⟩:=h
  simp at e
  subst e
  exact⟨ρ x,l.map ρ,rfl,hρ x y hy,aU9 hρ hzs⟩

theorem aQ6{u:Nat→Option TypeDesc}{inf:Nat→Option TypeInfo}{sq:Nat→Bool}{op:Op}{f:Opd}{xs:List Opd}(h:aT u inf sq op=some (.call f xs)):
  ∃c f',op=.call c∧c.callee=.value f'∧opd f'=some f∧c.args.toList.mapM opd=some xs:=by
 cases op with
 | call c =>
  simp only[aT,vT,Option.bind_eq_bind,Option.bind_eq_some_iff] at h
  obtain⟨args,hargs,hop⟩:=h
  split at hop
  ·rename_i f' hcal
   simp[Option.bind_eq_some_iff] at hop
   obtain⟨f2,hf2,e1,e2⟩:=hop
   exact⟨c,f',rfl,hcal,by rw[hf2,e1],by rw[hargs,e2]⟩
  ·split at hop
   ·split at hop<;>simp at hop
   ·cases hop
  ·split at hop
   ·split at hop
    ·simp only[Option.bind_eq_some_iff] at hop
     obtain⟨i,hi,z,hz,hop⟩:=hop
     split at hop<;>simp at hop
    ·cases hop
   ·cases hop
  ·split at hop
   ·simp at hop
   ·simp at hop
   ·cases hop
  ·cases hop
 | unOp op t x=>cases op<;>simp[aT,Option.bind_eq_some_iff] at h
 | makeFunc fn a b=>cases fn<;>simp[aT,Option.bind_eq_some_iff] at h
 | makeMap t r =>
  cases r<;>simp only[aT] at h
  ·split at h<;>simp at h
  ·cases h
 | slice t x lo hi mx =>
  cases mx<;>simp only[aT] at h
  ·simp only[Option.bind_eq_bind,Option.bind_eq_some_iff] at h
   obtain⟨_,_,_,_,h⟩:=h
   split at h<;>simp[Option.bind_eq_some_iff] at h
  ·cases h
 | lookup t x k okk =>
  simp only[aT] at h
  split at h
  ·simp only[Option.bind_eq_bind,Option.bind_eq_some_iff] at h
   obtain⟨_,_,h⟩:=h
   split at h<;>simp[Option.bind_eq_some_iff] at h
  ·cases h
 | _ =>
  simp only[aT] at h
  first
   | (simp[Option.bind_eq_some_iff] at h;done)
   | ((repeat' split at h)<;>first|(cases h;done)|(simp[Option.bind_eq_some_iff] at h;done))

theorem wpOp_of{LO:Prop}{sq:Nat→Bool}(hsq:∀t,sq t=true→P.stoodInHeld t=false∧P.eqGuardType P.depth t=false){ops:Array Oper}{C:bR}(hC:mU P aA w0 LO C){i:Nat}{o:Oper}{b:BOper}(hi:ops[i]?=some o)(hf:Fits P sq N ops o b){v:BV}{H1:BH}(hx:Eff aA C b e H v H1)(ha:AR aA X N e a)(hr:HR P aA w0 X H w){Q:Exit→Act→World→Prop}(hQ:LO→LetsOut Q){K:Act→World→Prop}(hK:∀X' a' w',X.le X'→AR aA X' N (e.puto b.dst v) a'→HR P aA w0 X' H1 w'→K a' w'):wpOp P ops Q i K a w:=by
 unfold wpOp
 rw[hi]
 simp only[]
 cases hx with
 | skip hw =>
  have:=tN hf ha hw
  simp only[this]
  rw[←hf.dst]
  exact hK X _ w (Tie.le_refl X) (ha.put hf.lt ⟨#[],rfl,rfl⟩) hr
 | op hw ho =>
  have:=tN hf ha hw
  simp only[this,if_true]
  refine .inl ?_
  have hop:aT P.underlying P.info? sq o.op=some b.op.bare:=by
   cases hq:aT P.underlying P.info? sq o.op with
   | some q=>have:=hf.op;rw[lS,hq] at this;exact congrArg some this
   | none =>
    have h1:=hf.op
    rw[lS,hq] at h1
    have h2:=aT9 ho
    rw[←h1] at h2
    cases h2
  obtain⟨nx,w',X',v',h1,h2,h3,h4,h5⟩:=op_does hop hsq (fun v=>rfl) hr ha.opd (aT9 ho)
  unfold Oper.wp
  rw[h1]
  rcases h2 with rfl|⟨rfl,rfl⟩
  ·simp only[Oper.upon]
   rw[←hf.dst]
   exact hK X' _ w' h3 ((ha.mono h3).put hf.lt h4) h5
  ·simp only[Oper.upon]
   rw[←hf.dst]
   exact hK X' _ w' h3 ((ha.mono h3).put hf.lt h4) h5
 | @call f xs g caps _ _ hw ho hg hc hk =>
  have:=tN hf ha hw
  simp only[this,if_true]
  refine .inl ?_
  have hop:aT P.underlying P.info? sq o.op=some (.call f xs):=by
   have h1:=hf.op
   rw[ho] at h1
   cases hq:aT P.underlying P.info? sq o.op with
   | some q=>rw[lS,hq] at h1;exact congrArg some h1
   | none=>rw[lS,hq] at h1;cases h1
  obtain⟨c,f',hoo,hcal,hf',hxs⟩:=aQ6 hop
  have hρ:=ha.opd
  have hfv:=hρ f' f hf'
  simp only[hg] at hfv
  obtain⟨cs',hfv,hcs⟩:=hfv
  obtain⟨hent,hcalls⟩:=hC _ _ _ _ _ hc
  have hargs:VRL aA X (xs.map (·.ev e)++caps) (c.args.map a.eval++cs').toList:=by
   rw[Array.toList_append,Array.toList_map]
   exact(aU9 hρ hxs).append hcs
  have hrun:(execOp a.eval o).run P w=.ok (.enter g (c.args.map a.eval++cs')) w:=by
   simp[execOp,hoo,resolve,hcal,Deferred.ofValue,hfv,invoke,hent (c.args.map a.eval++cs') w]
  unfold Oper.wp
  rw[hrun]
  simp only[Oper.upon]
  refine Calls.mono (hcalls X w _ hargs hr) fun en w' hen=>?_
  cases en with
  | returned v' =>
   obtain⟨X',h3,h4,h5⟩:=hen
   simp only[]
   rw[←hf.dst]
   exact hK X' _ w' h3 ((ha.mono h3).put hf.lt h4) h5
  | panicked ch=>exact hen.elim
  | outgrown=>exact hQ hen

def FitsL(P:Program)(sq:Nat→Bool)(N:Nat)(ops:Array Oper):List Nat→List BOper→Prop
 | [],l=>l=[]
 | i::is,l=>∃b r o,l=b::r∧ops[i]?=some o∧Fits P sq N ops o b∧FitsL P sq N ops is r

theorem aS1{LO:Prop}{sq:Nat→Bool}(hsq:∀t,sq t=true→P.stoodInHeld t=false∧P.eqGuardType P.depth t=false){ops:Array Oper}{C:bR}(hC:mU P aA w0 LO C){Q:Exit→Act→World→Prop}(hQ:LO→LetsOut Q):
  ∀(is:List Nat) (l:List BOper),FitsL P sq N ops is l→∀{X:Tie} {e e':Env} {H H':BH} {a:Act} {w:World},ExO aA C l e H e' H'→AR aA X N e a→HR P aA w0 X H w →
   (∀X' a' w',X.le X'→AR aA X' N e' a'→HR P aA w0 X' H' w'→Q .normal a' w')→wpOps P ops Q is a w
 | [],l,hfl,X,e,e',H,H',a,w,hx,ha,hr,hK=>by
  obtain rfl:=hfl
  cases hx
  exact hK X a w (Tie.le_refl X) ha hr
 | i::is,l,hfl,X,e,e',H,H',a,w,hx,ha,hr,hK=>by
  obtain⟨b,r,o,rfl,hi,hf,hfr⟩:=hfl
  obtain⟨v,H1,h1,h2⟩:=exO_cons.1 hx
  rw[wpOps_cons]
  refine wpOp_of hsq hC hi hf h1 ha hr hQ fun X' a' w' hle ha' hr'=>?_
  exact aS1 hsq hC hQ is r hfr h2 ha' hr' fun X'' a'' w'' hle'=>hK X'' a'' w'' (Tie.le_trans hle hle')

theorem aK9{C:bR}(hC:eO C){b:BOper}{post:List BOper}:∀{pre:List BOper} {e e':Env} {H H':BH},ExO aA C (pre++b::post) e H e' H'→(∀x∈pre,wA x b=true) →
  ∃v H1,Eff aA C b e H v H1∧ExO aA C (pre++post) (e.puto b.dst v) H1 e' H'
 | [],e,e',H,H',hx,_=>exO_cons.1 hx
 | x::pre,e,e',H,H',hx,hs=>by
  obtain⟨u,H1,h1,h2⟩:=exO_cons.1 hx
  obtain⟨v,H2,h3,h4⟩:=aK9 hC h2 fun y hy=>hs y (List.mem_cons_of_mem _ hy)
  obtain⟨H1',k1,k2,k3⟩:=h1.swap hC h3 (hs x List.mem_cons_self)
  refine⟨v,H1',k1,exO_cons.2 ⟨u,H2,k2,?_⟩⟩
  rw[←k3]
  exact h4

structure Ready(deps:List (List Nat))(R:List Nat)(ms:List BOper)(listed:Array Bool)(n:Nat)(rem:List Nat):Prop where
 lt:∀i∈rem,i<n
 nodup:rem.Nodup
 isl:∀i,i<n→(listed.getD i true=false↔i∈rem)
 size:listed.size=n
 closed:∀i,i<n→i∉rem→∀p,p<n→bit (R.getD i 0) p=true→p∉rem
 topo:rem.Pairwise fun i j=>j∉deps.getD i []
 self:∀i∈rem,i∉deps.getD i []
 bound:∀i∈rem,∀d∈deps.getD i [],d<n
 pairs:rem.Pairwise fun i j=>bit (R.getD j 0) i=true∨∃x y,ms[i]?=some x∧ms[j]?=some y∧wA x y=true

theorem rH{bs:List BOper}:∀{p q:List Nat} {l:List BOper},ordered bs (p++q)=some l→∃l1 l2,ordered bs p=some l1∧ordered bs q=some l2∧l=l1++l2
 | [],q,l,h=>⟨[],l,rfl,h,rfl⟩
 | i::p,q,l,h=>by
  simp only[List.cons_append,ordered] at h
  cases hb:bs[i]? with
  | none=>rw[hb] at h;cases h
  | some b =>
   rw[hb] at h
   cases hr:ordered bs (p++q) with
   | none=>rw[hr] at h;cases h
   | some l' =>
    rw[hr] at h
    simp at h
    subst h
    obtain⟨l1,l2,h1,h2,rfl⟩:=rH hr
    exact⟨b::l1,l2,by simp[ordered,hb,h1],h2,rfl⟩
theorem lW{bs:List BOper}:∀{p q:List Nat} {l1 l2:List BOper},ordered bs p=some l1→ordered bs q=some l2→ordered bs (p++q)=some (l1++l2)
 | [],q,l1,l2,h1,h2=>by simp[ordered] at h1;subst h1;exact h2
 | i::p,q,l1,l2,h1,h2=>by
  simp only[ordered] at h1
  cases hb:bs[i]? with
  | none=>rw[hb] at h1;cases h1
  | some b =>
   rw[hb] at h1
   cases hr:ordered bs p with
   | none=>rw[hr] at h1;cases h1
   | some l' =>
    rw[hr] at h1
    simp at h1
    subst h1
    simp[ordered,hb,lW hr h2]
theorem wQ{bs:List BOper}:∀{p:List Nat} {l:List BOper},ordered bs p=some l→∀b∈l,∃i∈p,bs[i]?=some b
 | [],l,h,b,hb=>by simp[ordered] at h;subst h;cases hb
 | i::p,l,h,b,hb=>by
  simp only[ordered] at h
  cases hbi:bs[i]? with
  | none=>rw[hbi] at h;cases h
  | some c =>
   rw[hbi] at h
   cases hr:ordered bs p with
   | none=>rw[hr] at h;cases h
   | some l' =>
    rw[hr] at h
    simp at h
    subst h
    rcases List.mem_cons.1 hb with rfl|hb
    ·exact⟨i,List.mem_cons_self,hbi⟩
    ·obtain⟨j,hj,hj2⟩:=wQ hr b hb
     exact⟨j,List.mem_cons_of_mem _ hj,hj2⟩

end
end Go.B
end

section
namespace Go.B
set_option linter.unusedVariables false
set_option linter.unusedSimpArgs false
section
variable {P:Program} {aA:Nat} {w0 w:World} {X:Tie} {H:BH} {N:Nat} {e:Env} {a:Act}

theorem aR2{deps:List (List Nat)}{R:List Nat}(h:aL8 deps R=true){i p:Nat}(hi:i<deps.length)(hp:p<deps.length)(hb:bit (R.getD i 0) p=true):
  p∈deps.getD i []∨∃m∈deps.getD i [],bit (R.getD m 0) p=true:=by
 unfold aL8 at h
 rw[List.all_eq_true] at h
 have h1:=h i (List.mem_range.2 hi)
 rw[List.all_eq_true] at h1
 have h2:=h1 p (List.mem_range.2 hp)
 simp only[hb,Bool.not_true,Bool.false_or,Bool.or_eq_true,List.contains_eq_mem,decide_eq_true_eq,List.any_eq_true] at h2
 exact h2

theorem aW9{ops:Array Oper}{i:Nat}{o:Oper}(h:ops[i]?=some o):(ops.toList.map mW).getD i []=mW o:=by
 simp[List.getD_eq_getElem?_getD,h]

theorem mem_depsOf{o:Oper}{d:Nat}:d∈mW o↔∃e∈o.after,Region.binds .any e=true∧e.on=d:=by
 simp[mW,and_assoc]

theorem aD8{l:Array Bool}{i:Nat}(h:i<l.size)(d:Bool):(l.setIfInBounds i true).getD i d=true:=by
 simp[h]

theorem wpAny_of{LO:Prop}{sq:Nat→Bool}(hsq:∀t,sq t=true→P.stoodInHeld t=false∧P.eqGuardType P.depth t=false){ops:Array Oper}{C:bR}(hC:mU P aA w0 LO C)(hFr:eO C){Q:Exit→Act→World→Prop}(hQ:LO→LetsOut Q){ms:List BOper}{R:List Nat}(hms:∀(i:Nat) (b:BOper),ms[i]?=some b→∃o,ops[i]?=some o∧Fits P sq N ops o b)(hcert:aL8 (ops.toList.map mW) R=true):
  ∀(fuel:Nat) (rem:List Nat) (l:List BOper) (listed:Array Bool),rem.length=fuel→ordered ms rem=some l→Ready (ops.toList.map mW) R ms listed ops.size rem →
  ∀{X:Tie} {e e':Env} {H H':BH} {a:Act} {w:World},ExO aA C l e H e' H'→AR aA X N e a→HR P aA w0 X H w →
   (∀X' a' w',X.le X'→AR aA X' N e' a'→HR P aA w0 X' H' w'→Q .normal a' w')→wpAny P .any ops Q fuel listed a w:=by
 intro fuel
 induction fuel with
 | zero =>
  intro rem l listed hlen hord hg X e e' H H' a w hx ha hr hK
  have:rem=[]:=List.eq_nil_of_length_eq_zero hlen
  subst this
  simp[ordered] at hord
  subst hord
  cases hx
  refine⟨?_,hK X a w (Tie.le_refl X) ha hr⟩
  cases hq:Region.ready .any ops listed with
  | nil=>rfl
  | cons j js =>
   exfalso
   have hj:j∈Region.ready .any ops listed:=by rw[hq];exact List.mem_cons_self
   obtain⟨h1,o,ho,_⟩:=mem_ready.1 hj
   have hlt:=(Array.getElem?_eq_some_iff.1 ho).1
   exact absurd ((hg.isl j hlt).1 h1) (by simp)
 | succ fuel ih =>
  intro rem l listed hlen hord hg X e e' H H' a w hx ha hr hK
  have onlisted:∀d,listed.getD d false=true→d<ops.size∧d∉rem:=by
   intro d hd
   have hlt:d<listed.size:=by
    rcases Nat.lt_or_ge d listed.size with h|h
    ·exact h
    ·simp[Array.getElem?_eq_none h] at hd
   rw[hg.size] at hlt
   refine⟨hlt,fun hm=>?_⟩
   have:=(hg.isl d hlt).2 hm
   have hlt2:d<listed.size:=by rw[hg.size];exact hlt
   simp[hlt2] at this hd
   rw[this] at hd
   cases hd
  have listedon:∀d,d<ops.size→d∉rem→listed.getD d false=true:=by
   intro d hd hm
   have h1:¬listed.getD d true=false:=fun h=>hm ((hg.isl d hd).1 h)
   have hlt2:d<listed.size:=by rw[hg.size];exact hd
   simp[hlt2] at h1 ⊢
   exact h1
  refine⟨fun hnil=>?_,fun i hi=>?_⟩
  ·exfalso
   cases rem with
   | nil=>simp at hlen
   | cons i0 r =>
    have hlt:=hg.lt i0 List.mem_cons_self
    have hin:i0∈Region.ready .any ops listed:=by
     refine mem_ready.2 ⟨(hg.isl i0 hlt).2 List.mem_cons_self,ops[i0],Array.getElem?_eq_getElem hlt,fun ed hed hb=>?_⟩
     have hd:ed.on∈(ops.toList.map mW).getD i0 []:=by
      rw[aW9 (Array.getElem?_eq_getElem hlt)]
      exact mem_depsOf.2 ⟨ed,hed,hb,rfl⟩
     refine listedon _ (hg.bound i0 List.mem_cons_self _ hd) fun hm=>?_
     rcases List.mem_cons.1 hm with h|h
     ·rw[h] at hd
      exact hg.self i0 List.mem_cons_self hd
     ·exact(List.pairwise_cons.1 hg.topo).1 _ h hd
    rw[hnil] at hin
    cases hin
  ·obtain⟨h1,o,ho,hed⟩:=mem_ready.1 hi
   have hlt:=(Array.getElem?_eq_some_iff.1 ho).1
   have hmem:=(hg.isl i hlt).1 h1
   have hdl:(ops.toList.map mW).length=ops.size:=by simp
   obtain⟨pre,post,rfl⟩:=List.append_of_mem hmem
   have hdeps:∀d∈(ops.toList.map mW).getD i [],d<ops.size∧d∉pre++i::post:=by
    intro d hd
    rw[aW9 ho] at hd
    obtain⟨ed,q1,q2,rfl⟩:=mem_depsOf.1 hd
    exact onlisted _ (hed ed q1 q2)
   have hbit:∀p,p<ops.size→bit (R.getD i 0) p=true→p∉pre++i::post:=by
    intro p hp hb
    rcases aR2 hcert (by rw[hdl];exact hlt) (by rw[hdl];exact hp) hb with h|⟨m,hm,hb2⟩
    ·exact(hdeps p h).2
    ·obtain⟨k1,k2⟩:=hdeps m hm
     exact hg.closed m k1 k2 p hp hb2
   obtain⟨l1,l2,o1,o2,rfl⟩:=rH hord
   simp only[ordered] at o2
   cases hb:ms[i]? with
   | none=>rw[hb] at o2;cases o2
   | some b =>
    rw[hb] at o2
    cases hpo:ordered ms post with
    | none=>rw[hpo] at o2;cases o2
    | some lpost =>
     rw[hpo] at o2
     simp at o2
     subst o2
     have hpw:=hg.pairs
     rw[List.pairwise_append] at hpw
     have hsw:∀x∈l1,wA x b=true:=by
      intro x hx
      obtain⟨p,hp,hpx⟩:=wQ o1 x hx
      rcases hpw.2.2 p hp i List.mem_cons_self with h|⟨x',y',g1,g2,g3⟩
      ·exact absurd (List.mem_append_left _ hp) (hbit p (hg.lt p (List.mem_append_left _ hp)) h)
      ·rw[hpx] at g1
       rw[hb] at g2
       cases g1;cases g2
       exact g3
     obtain⟨v,H1,k1,k2⟩:=aK9 hFr hx hsw
     obtain⟨o',ho',hf⟩:=hms i b hb
     rw[ho] at ho'
     cases ho'
     have hsub:(pre++post).Sublist (pre++i::post):=List.Sublist.append_left (List.sublist_cons_self i post) pre
     have hnd:=hg.nodup
     have hni:i∉pre++post:=by
      have:(i::(pre++post)).Nodup:=(List.perm_middle.nodup_iff).1 hnd
      exact(List.nodup_cons.1 this).1
     have hmemiff:∀j,j≠i→(j∈pre++post↔j∈pre++i::post):=by
      intro j hj
      simp[hj]
     refine wpOp_of hsq hC ho hf k1 ha hr hQ fun X' a' w' hle ha' hr'=>?_
     refine ih (pre++post) (l1++lpost) _ ?_ (lW o1 hpo) ?_ k2 ha' hr' fun X'' a'' w'' hle'=>hK X'' a'' w'' (Tie.le_trans hle hle')
     ·simp at hlen ⊢
      omega
     ·refine⟨fun j hj=>hg.lt j (hsub.subset hj),hsub.nodup hnd,fun j hj=>?_,by simp[hg.size],fun j hj hjm p hp hbp=>?_,hg.topo.sublist hsub,fun j hj=>hg.self j (hsub.subset hj),fun j hj=>hg.bound j (hsub.subset hj),hg.pairs.sublist hsub⟩
      ·by_cases hji:j=i
       ·subst hji
        rw[aD8 (by rw[hg.size];exact hlt)]
        simp only[Bool.true_eq_false,false_iff]
        exact hni
       ·rw[getD_set_ne true (Ne.symm hji),hmemiff j hji]
        exact hg.isl j hj
      ·by_cases hji:j=i
       ·subst hji
        exact fun h=>hbit p hp hbp (hsub.subset h)
       ·exact fun h=>hg.closed j hj (fun h'=>hjm ((hmemiff j hji).2 h')) p hp hbp (hsub.subset h)

end
end Go.B
end

section
namespace Go.B
set_option linter.unusedVariables false
set_option linter.unusedSimpArgs false

theorem aQ7{u:Nat→Option TypeDesc}{inf:Nat→Option TypeInfo}{sq:Nat→Bool}{op:Op}{b:BOp}(h:aT u inf sq op=some b):b.bare=b:=by
  cases op with
  | call c =>
    simp only[aT,vT,Option.bind_eq_bind,Option.bind_eq_some_iff] at h
    obtain⟨args,hargs,hop⟩:=h
    split at hop
    · simp[Option.bind_eq_some_iff] at hop
      obtain⟨f2,hf2,rfl⟩:=hop
      rfl
    · split at hop
      · split at hop<;>simp at hop<;>subst hop<;>rfl
      · cases hop
    · split at hop
      · split at hop
        · simp only[Option.bind_eq_some_iff] at hop
          obtain⟨i,hi,z,hz,hop⟩:=hop
          split at hop<;>simp at hop
          subst hop
          rfl
        · cases hop
      · cases hop
    · split at hop
      · simp at hop
        subst hop
        rfl
      · simp at hop
        subst hop
        rfl
      · cases hop
    · cases hop
  | unOp op t x=>cases op<;>simp[aT,Option.bind_eq_some_iff] at h<;>(obtain⟨_,_,rfl⟩:=h;rfl)
  | makeFunc fn a b=>cases fn<;>simp[aT,Option.bind_eq_some_iff] at h;(obtain⟨_,_,_,rfl⟩:=h;rfl)
  | makeMap t r =>
    cases r<;>simp only[aT] at h
    · split at h<;>simp at h
      subst h
      rfl
    · cases h
  | slice t x lo hi mx =>
    cases mx<;>simp only[aT] at h
    · simp only[Option.bind_eq_bind,Option.bind_eq_some_iff] at h
      obtain⟨_,_,_,_,h⟩:=h
      split at h<;>simp[Option.bind_eq_some_iff] at h
      · obtain⟨_,_,_,_,rfl⟩:=h;rfl
      · obtain⟨_,_,rfl⟩:=h;rfl
    · cases h
  | lookup t x k okk =>
    simp only[aT] at h
    split at h
    · simp only[Option.bind_eq_bind,Option.bind_eq_some_iff] at h
      obtain⟨_,_,h⟩:=h
      split at h<;>simp[Option.bind_eq_some_iff] at h
      obtain⟨_,_,_,_,_,_,rfl⟩:=h;rfl
    · cases h
  | _ =>
    simp only[aT] at h
    first
      | (cases h;done)
      | (simp[Option.bind_eq_some_iff] at h
         first
           | (obtain⟨_,_,rfl⟩:=h;rfl)
           | (obtain⟨_,_,_,_,rfl⟩:=h;rfl)
           | (obtain⟨_,_,_,_,_,_,rfl⟩:=h;rfl))
      | ((repeat' split at h)<;>first
          | (cases h;done)
          | (simp[Option.bind_eq_some_iff] at h
             first
               | (obtain⟨_,_,rfl⟩:=h;rfl)
               | (obtain⟨_,_,_,_,rfl⟩:=h;rfl)
               | (obtain⟨_,_,_,_,_,rfl⟩:=h;rfl)
               | (obtain⟨_,_,_,_,_,_,rfl⟩:=h;rfl)
               | (obtain⟨_,_,_,_,⟨_,_⟩,rfl⟩:=h;rfl)
               | (obtain⟨_,_,_,_,_,_,_,rfl⟩:=h;rfl)
               | (obtain⟨_,_,_,_,_,_,_,_,rfl⟩:=h;rfl)
               | (obtain⟨_,_,_,_,_,_,_,_,_,rfl⟩:=h;rfl)))

section
variable {P:Program} {sq:Nat→Bool} {N:Nat} {ops:Array Oper}

theorem aE5{o:Oper}{b:BOper}(h:vS P.underlying P.info? sq N ops o=some b):Fits P sq N ops o b:=by
 unfold vS at h
 simp only[Option.bind_eq_bind,Option.bind_eq_some_iff] at h
 obtain⟨g,hg,h⟩:=h
 have hop:(lS P.underlying P.info? sq o.op).bare=lS P.underlying P.info? sq o.op:=by
  unfold lS
  cases hq:aT P.underlying P.info? sq o.op with
  | some q=>exact aQ7 hq
  | none=>rfl
 generalize hopp:lS P.underlying P.info? sq o.op=op at hop h
 have hgd:∀dst kp,(o.guard=none∧(⟨dst,op,g,kp⟩:BOper).guard=none)∨∃j c oj d,o.guard=some (j,c)∧(⟨dst,op,g,kp⟩:BOper).guard=some (d,c)∧ops[j]?=some oj∧oj.dst=some d:=by
  intro dst kp
  cases hog:o.guard with
  | none =>
   simp[hog,guardOf] at hg
   exact .inl ⟨rfl,hg.symm⟩
  | some p =>
   obtain⟨j,c⟩:=p
   simp[hog,guardOf,Option.bind_eq_some_iff] at hg
   obtain⟨oj,hoj,d,hd,rfl⟩:=hg
   exact .inr ⟨j,c,oj,d,rfl,rfl,hoj,hd⟩
 split at h
 ·rename_i d hd
  split at h
  ·rename_i hlt
   simp at h
   subst h
   exact⟨by rw[hopp];exact hop.symm,rfl,fun d' hd'=>by rw[hd] at hd';cases hd';exact hlt,hgd _ _⟩
  ·cases h
 ·rename_i hd
  simp at h
  subst h
  exact⟨by rw[hopp];exact hop.symm,hd.symm,fun d' hd'=>(by cases hd'),hgd _ _⟩

theorem mP:∀{l:List Oper} {bs:List BOper},gU P.underlying P.info? sq N ops l=some bs→bs.length=l.length∧∀(i:Nat) (b:BOper),bs[i]?=some b→∃o,l[i]?=some o∧Fits P sq N ops o b
 | [],bs,h=>by
  simp[gU] at h
  subst h
  exact⟨rfl,fun i b hb=>by simp at hb⟩
 | o::l,bs,h=>by
  unfold gU at h
  cases ho:vS P.underlying P.info? sq N ops o with
  | none=>rw[ho] at h;cases h
  | some b0 =>
   rw[ho] at h
   cases hl:gU P.underlying P.info? sq N ops l with
   | none=>rw[hl] at h;cases h
   | some bs' =>
    rw[hl] at h
    simp at h
    subst h
    obtain⟨h1,h2⟩:=mP hl
    refine⟨by simp[h1],fun i b hb=>?_⟩
    cases i with
    | zero=>simp at hb;subst hb;exact⟨o,rfl,aE5 ho⟩
    | succ i=>simpa using h2 i b (by simpa using hb)

theorem Fits.same{o:Oper}{b c:BOper}(h:Fits P sq N ops o b)(h1:c.op.bare=b.op.bare)(h2:c.dst=b.dst)(h3:c.guard=b.guard):Fits P sq N ops o c :=
 ⟨by rw[h1];exact h.op,by rw[h2];exact h.dst,by rw[h2];exact h.lt,by rw[h3];exact h.guard⟩

theorem aM6{u:Nat→Option TypeDesc}{os:List Oper}{o:Oper}{b:BOper}:(aF7 u os o b).op.bare=b.op.bare∧(aF7 u os o b).dst=b.dst∧(aF7 u os o b).guard=b.guard:=by
 unfold aF7
 split
 ·rename_i e;refine⟨?_,rfl,rfl⟩;rw[e];rfl
 ·rename_i e;refine⟨?_,rfl,rfl⟩;rw[e];rfl
 ·exact⟨rfl,rfl,rfl⟩

theorem aI8{bs:List BOper}{R:List Nat}(hl:bs.length=ops.size):(qJ P.underlying ops.toList bs R).length=ops.size ∧
  ∀(i:Nat) (c:BOper),(qJ P.underlying ops.toList bs R)[i]?=some c→∃b,bs[i]?=some b∧c.op.bare=b.op.bare∧c.dst=b.dst∧c.guard=b.guard:=by
 unfold qJ
 simp only[]
 refine⟨by simp[hl],fun i c hc=>?_⟩
 rw[List.getElem?_map] at hc
 simp only[Option.map_eq_some_iff] at hc
 obtain⟨⟨b1,i1⟩,hb1,rfl⟩:=hc
 rw[List.getElem?_zipIdx,List.getElem?_map] at hb1
 simp only[Option.map_eq_some_iff] at hb1
 obtain⟨b2,⟨⟨⟨b,o⟩,i2⟩,hb3,rfl⟩,e⟩:=hb1
 rw[List.getElem?_zipIdx] at hb3
 simp only[Option.map_eq_some_iff] at hb3
 obtain⟨⟨b',o'⟩,hz,e2⟩:=hb3
 simp only[Prod.mk.injEq] at e e2
 obtain⟨rfl,rfl⟩:=e
 obtain⟨⟨rfl,rfl⟩,rfl⟩:=e2
 rw[List.getElem?_zip_eq_some] at hz
 refine⟨b',hz.1,?_⟩
 simp only[]
 split<;>split<;>first
  | exact aM6
  | exact⟨rfl,rfl,rfl⟩

theorem vY{deps:List (List Nat)}:∀{ord done:List Nat},aS6 deps done ord=true→ord.Nodup→(∀x∈done,x∉ord) →
  ord.Pairwise (fun i j=>j∉deps.getD i [])∧∀i∈ord,i∉deps.getD i []∧∀d∈deps.getD i [],d∈done∨d∈ord
 | [],_,_,_,_=>⟨List.Pairwise.nil,fun i hi=>by cases hi⟩
 | i::r,done,h,hnd,hdis=>by
  simp only[aS6,Bool.and_eq_true,List.all_eq_true,List.contains_eq_mem,decide_eq_true_eq] at h
  obtain⟨h1,h2⟩:=h
  obtain⟨n1,n2⟩:=List.nodup_cons.1 hnd
  obtain⟨g1,g2⟩:=vY h2 n2 (by
   intro x hx
   rcases List.mem_cons.1 hx with rfl|hx
   ·exact n1
   ·exact fun hm=>hdis x hx (List.mem_cons_of_mem _ hm))
  refine⟨List.pairwise_cons.2 ⟨fun j hj hd=>hdis j (h1 j hd) (List.mem_cons_of_mem _ hj),g1⟩,fun k hk=>?_⟩
  rcases List.mem_cons.1 hk with rfl|hk
  ·exact⟨fun hd=>hdis k (h1 k hd) List.mem_cons_self,fun d hd=>.inl (h1 d hd)⟩
  ·obtain⟨k1,k2⟩:=g2 k hk
   refine⟨k1,fun d hd=>?_⟩
   rcases k2 d hd with h|h
   ·rcases List.mem_cons.1 h with rfl|h
    ·exact .inr List.mem_cons_self
    ·exact .inl h
   ·exact .inr (List.mem_cons_of_mem _ h)

theorem uO{bs:List BOper}{R:List Nat}:∀{ord:List Nat},aC4 bs R ord=true→ord.Pairwise fun i j=>bit (R.getD j 0) i=true∨∃x y,bs[i]?=some x∧bs[j]?=some y∧wA x y=true
 | [],_=>List.Pairwise.nil
 | i::r,h=>by
  simp only[aC4,Bool.and_eq_true,List.all_eq_true,Bool.or_eq_true] at h
  refine List.pairwise_cons.2 ⟨fun j hj=>?_,uO h.2⟩
  rcases h.1 j hj with h|h
  ·exact .inl h
  ·refine .inr ?_
   split at h
   ·rename_i x y hx hy
    exact⟨x,y,hx,hy,h⟩
   ·cases h

theorem aE6{l:List BOper}(h:aE7 P.underlying P.info? sq N ops=some l):∃ms R ord,(∀(i:Nat) (b:BOper),ms[i]?=some b→∃o,ops[i]?=some o∧Fits P sq N ops o b)∧aL8 (ops.toList.map mW) R=true ∧
  ordered ms ord=some l∧ord.length=ops.size∧Ready (ops.toList.map mW) R ms (Array.replicate ops.size false) ops.size ord:=by
 unfold aE7 at h
 simp only[Option.bind_eq_bind,Option.bind_eq_some_iff] at h
 obtain⟨bs,hbs,h⟩:=h
 obtain⟨hl,hget⟩:=mP hbs
 have hl':bs.length=ops.size:=by simpa using hl
 obtain⟨ml,mget⟩:=aI8 (P:=P) (R:=(Region.before ops).toList) hl'
 generalize pickOrder (qJ P.underlying ops.toList bs (Region.before ops).toList) (Region.before ops).toList (qJ P.underlying ops.toList bs (Region.before ops).toList).length 0 []=ord at h
 split at h
 ·rename_i hchk
  simp only[Bool.and_eq_true,permOk,decide_eq_true_eq,List.all_eq_true,List.contains_eq_mem,List.mem_range] at hchk
  obtain⟨⟨⟨⟨⟨⟨p1,p2⟩,p3⟩,p4⟩,c1⟩,c2⟩,c3⟩:=hchk
  rw[ml] at p2 p3 p4
  refine⟨_,_,_,fun i c hc=>?_,c1,h,p2,?_⟩
  ·obtain⟨b,hb,q1,q2,q3⟩:=mget i c hc
   obtain⟨o,ho,hf⟩:=hget i b hb
   exact⟨o,by simpa using ho,hf.same q1 q2 q3⟩
  ·obtain⟨t1,t2⟩:=vY c2 p1 (by simp)
   refine⟨p3,p1,fun i hi=>?_,by simp,fun i hi hni=>absurd (p4 i hi) hni,t1,fun i hi=>(t2 i hi).1,fun i hi d hd=>?_,uO c3⟩
   ·simp[hi,p4 i hi]
   ·rcases(t2 i hi).2 d hd with h|h
    ·cases h
    ·exact p3 d h
 ·cases h

theorem fitsL_of{l:List BOper}(h:gU P.underlying P.info? sq N ops ops.toList=some l):FitsL P sq N ops (List.range ops.size) l:=by
 obtain⟨hl,hget⟩:=mP h
 have key:∀(n k:Nat) (l':List BOper),l'.length=n→(∀(i:Nat) (b:BOper),l'[i]?=some b→∃o,ops[k+i]?=some o∧Fits P sq N ops o b)→FitsL P sq N ops (List.range' k n) l':=by
  intro n
  induction n with
  | zero=>intro k l' hl' _;exact List.eq_nil_of_length_eq_zero hl'
  | succ n ih =>
   intro k l' hl' hg
   cases l' with
   | nil=>simp at hl'
   | cons b r =>
    obtain⟨o,ho,hf⟩:=hg 0 b rfl
    refine⟨b,r,o,rfl,by simpa using ho,hf,ih (k+1) r (by simpa using hl') fun i c hc=>?_⟩
    obtain⟨o',ho',hf'⟩:=hg (i+1) c (by simpa using hc)
    exact⟨o',by rw[←ho'];congr 1;omega,hf'⟩
 rw[List.range_eq_range']
 exact key ops.size 0 l (by simpa using hl) fun i b hb=>by
  obtain⟨o,ho,hf⟩:=hget i b hb
  exact⟨o,by simpa using ho,hf⟩

end
end Go.B
end

section
namespace Go.B
set_option linter.unusedVariables false
set_option linter.unusedSimpArgs false

def BExit.real:BExit→Exit
 | .normal=>.normal
 | .exit i=>.exit i
 | .ret=>.ret

def aA6(P:Program)(c:Code)(Q:Exit→Act→World→Prop)(a:Act)(w:World):Prop :=
 ∀(b:Frame) (k:List Item) (cs:List Frame),∃e a' w',Q e a' w'∧Arrives P (lone (b.at a (.code c::.inLoop c::k)) cs w) b k cs e a' w'

theorem loopAt_wp{P:Program}{c:Code}{Q:Exit→Act→World→Prop}{a:Act}{w:World}(h:aA6 P c Q a w):(Code.loop c).wp P Q a w:=by
 intro b k cs
 obtain⟨e,a',w',hq,harr⟩:=h b k cs
 exact⟨e,a',w',hq,.of_steps (.one step_loop) harr⟩

theorem uV{P:Program}{c:Code}{Q:Exit→Act→World→Prop}{a:Act}{w:World}(h:c.wp P (Exit.then (aA6 P c Q) Q) a w):aA6 P c Q a w:=by
 intro b k cs
 obtain⟨e,a₁,w₁,hq,harr⟩:=h b (.inLoop c::k) cs
 cases e with
 | normal =>
  obtain⟨e₂,a₂,w₂,hq₂,harr₂⟩:=hq b k cs
  exact⟨e₂,a₂,w₂,hq₂,.of_steps (Steps.trans harr (.one step_inLoop)) harr₂⟩
 | exit id=>exact⟨_,a₁,w₁,hq,.pass (x:=.inLoop c) rfl (fun _ _=>.inl (by simp)) harr⟩
 | goto l=>exact⟨_,a₁,w₁,hq,.pass (x:=.inLoop c) rfl (fun _ _=>.inl (by simp)) harr⟩
 | ret=>exact⟨_,a₁,w₁,hq,.pass (x:=.inLoop c) rfl (fun _ _=>.inl (by simp)) harr⟩
 | panic ch=>exact⟨_,a₁,w₁,hq,.pass (x:=.inLoop c) rfl (fun _ _=>.inl (by simp)) harr⟩
 | outgrown=>exact⟨_,a₁,w₁,hq,.pass (x:=.inLoop c) rfl (fun _ _=>.inl (by simp)) harr⟩

def wpAt(P:Program):Code→(Exit→Act→World→Prop)→Act→World→Prop
 | .loop c,Q,a,w=>aA6 P c Q a w
 | c,Q,a,w=>c.wp P Q a w
theorem mF{P:Program}{c:Code}{Q:Exit→Act→World→Prop}{a:Act}{w:World}(h:wpAt P c Q a w):c.wp P Q a w:=by
 cases c<;>first
  | exact loopAt_wp h
  | exact h

section
variable {P:Program} {aA:Nat} {w0:World} {N:Nat} {sq:Nat→Bool}

theorem HR.drew{X:Tie}{H:BH}{w:World}(h:HR P aA w0 X H w):HR P aA w0 X H { w with drawn:=w.drawn+1 } :=
 h.grow ⟨h.ext.os,h.ext.tape,h.ext.output,h.ext.size,h.ext.cell,h.ext.frozen,h.ext.block⟩ fun _ _=>rfl

theorem bD4{LO:Prop}(hm:P.follows .mixedOrders=true)(hsq:∀t,sq t=true→P.stoodInHeld t=false∧P.eqGuardType P.depth t=false){C:bR}(hC:mU P aA w0 LO C)(hFr:eO C){c:BCode}{e e':Env}{H H':BH}{x:BExit}(hx:ExC aA C c e H x e' H'):∀(code:Code),comp P.underlying P.info? sq N code=some c→∀{Q:Exit→Act→World→Prop} (_:LO→LetsOut Q) {X:Tie} {a:Act} {w:World},AR aA X N e a→HR P aA w0 X H w →
   (∀X' a' w',X.le X'→AR aA X' N e' a'→HR P aA w0 X' H' w'→Q x.real a' w')→wpAt P code Q a w:=by
 induction hx with
 | skip =>
  intro code hc Q hQ X a w ha hr hK
  cases code<;>simp[comp,Option.bind_eq_some_iff] at hc
  exact wp_skip (hK X a w (Tie.le_refl X) ha hr)
 | exit =>
  intro code hc Q hQ X a w ha hr hK
  cases code<;>simp[comp,Option.bind_eq_some_iff] at hc
  subst hc
  exact wp_exit (hK X a w (Tie.le_refl X) ha hr)
 | ret =>
  intro code hc Q hQ X a w ha hr hK
  cases code<;>simp[comp,Option.bind_eq_some_iff] at hc
  exact wp_ret (hK X a w (Tie.le_refl X) ha hr)
 | @region ops e e' H H' hx =>
  intro code hc Q hQ X a w ha hr hK
  cases code<;>simp[comp,Option.bind_eq_some_iff] at hc
  rename_i id rops draw
  unfold zX at hc
  cases draw with
  | false =>
   simp only[Bool.false_eq_true,if_false] at hc
   exact wp_region (aS1 hsq hC hQ _ _ (fitsL_of hc) hx ha hr hK)
  | true =>
   simp only[if_true] at hc
   obtain⟨ms,R,ord,h1,h2,h3,h4,h5⟩:=aE6 hc
   exact wp_region_any hm (wpAny_of hsq hC hFr hQ h1 h2 rops.size ord ops _ h4 h3 h5 hx ha hr.drew hK)
 | seq _ _ ih1 ih2 =>
  intro code hc Q hQ X a w ha hr hK
  cases code<;>simp[comp,Option.bind_eq_some_iff] at hc
  obtain⟨hca,hcb⟩:=hc
  refine wp_seq (mF (ih1 _ hca (Q:=Exit.then (Code.wp P _ Q) Q) (fun h=>hQ h) ha hr fun X' a' w' hle ha' hr'=>?_))
  exact mF (ih2 _ hcb hQ ha' hr' fun X'' a'' w'' hle'=>hK X'' a'' w'' (Tie.le_trans hle hle'))
 | @seqx _ _ x _ _ _ _ _ hne ih =>
  intro code hc Q hQ X a w ha hr hK
  cases code<;>simp[comp,Option.bind_eq_some_iff] at hc
  obtain⟨hca,hcb⟩:=hc
  refine wp_seq (mF (ih _ hca (Q:=Exit.then (Code.wp P _ Q) Q) (fun h=>hQ h) ha hr fun X' a' w' hle ha' hr'=>?_))
  have:=hK X' a' w' hle ha' hr'
  cases x with
  | normal=>exact absurd rfl hne
  | exit i=>exact this
  | ret=>exact this
 | thn hcc _ ih =>
  intro code hc Q hQ X a w ha hr hK
  cases code<;>simp[comp,Option.bind_eq_some_iff] at hc
  obtain⟨o,ho,ca,hca,cb,hcb,rfl,rfl,rfl⟩:=hc
  have:=ha.opd _ _ ho
  simp only[hcc] at this
  exact wp_cond_true this (mF (ih _ hca hQ ha hr hK))
 | els hcc _ ih =>
  intro code hc Q hQ X a w ha hr hK
  cases code<;>simp[comp,Option.bind_eq_some_iff] at hc
  obtain⟨o,ho,ca,hca,cb,hcb,rfl,rfl,rfl⟩:=hc
  have:=ha.opd _ _ ho
  simp only[hcc] at this
  exact wp_cond_false this (mF (ih _ hcb hQ ha hr hK))
 | @block id b x _ _ _ _ _ ih =>
  intro code hc Q hQ X a w ha hr hK
  cases code<;>simp[comp,Option.bind_eq_some_iff] at hc
  obtain⟨hcb,rfl⟩:=hc
  refine wp_block (mF (ih _ hcb (Q:=Exit.inBlock _ Q) (fun h=>hQ h) ha hr fun X' a' w' hle ha' hr'=>?_))
  have:=hK X' a' w' hle ha' hr'
  cases x with
  | normal=>exact this
  | exit i =>
   simp only[BExit.real,Exit.inBlock]
   simp only[BExit.outOf] at this
   split at this
   ·rename_i h;rw[if_pos h];exact this
   ·rename_i h;rw[if_neg h];exact this
  | ret=>exact this
 | loopn _ _ ih1 ih2 =>
  intro code hc Q hQ X a w ha hr hK
  cases code<;>simp[comp,Option.bind_eq_some_iff] at hc
  rename_i body
  refine uV (mF (ih1 _ hc (Q:=Exit.then (aA6 P _ Q) Q) (fun h=>hQ h) ha hr fun X' a' w' hle ha' hr'=>?_))
  exact ih2 (.loop body) (by simp[comp,hc]) hQ ha' hr' fun X'' a'' w'' hle'=>hK X'' a'' w'' (Tie.le_trans hle hle')
 | @loopx _ x _ _ _ _ _ hne ih =>
  intro code hc Q hQ X a w ha hr hK
  cases code<;>simp[comp,Option.bind_eq_some_iff] at hc
  refine uV (mF (ih _ hc (Q:=Exit.then (aA6 P _ Q) Q) (fun h=>hQ h) ha hr fun X' a' w' hle ha' hr'=>?_))
  have:=hK X' a' w' hle ha' hr'
  cases x with
  | normal=>exact absurd rfl hne
  | exit i=>exact this
  | ret=>exact this

theorem res_rel{e:Env}{X:Tie}{H:BH}{a:Act}{w:World}(ha:AR aA X N e a)(hr:HR P aA w0 X H w):∀(rs:List ResultVar) (bs:List BRes) (vs:List BV),
  rs.mapM (fun | .tmp t=>some (BRes.tmp t) | .cell a t=>do some (BRes.cell a (←shapeOf P.underlying P.info? t)))=some bs→cX e H bs=some vs →
  ∃us,(rs.mapM (m:=Sem) fun | .tmp t=>pure (a.tmps.getD t undef) | .cell b t=>do loadVar t (←asAddr (a.tmps.getD b undef))).run P w=.ok us w∧VRL aA X vs us
 | [],bs,vs,hb,hv=>by
  simp at hb
  subst hb
  simp[cX] at hv
  subst hv
  exact⟨[],rfl,rfl⟩
 | r::rs,bs,vs,hb,hv=>by
  simp only[List.mapM_cons,Option.bind_eq_bind,Option.pure_def,Option.bind_eq_some_iff] at hb
  obtain⟨b,hb1,bs',hbs,e1⟩:=hb
  simp at e1
  subst e1
  unfold cX at hv
  cases hbv:b.val e H with
  | none=>rw[hbv] at hv;cases hv
  | some v =>
   rw[hbv] at hv
   cases hrs:cX e H bs' with
   | none=>rw[hrs] at hv;cases hv
   | some vs' =>
    rw[hrs] at hv
    simp at hv
    subst hv
    obtain⟨us,h1,h2⟩:=res_rel ha hr rs bs' vs' hbs hrs
    cases r with
    | tmp t =>
     simp at hb1
     subst hb1
     simp only[BRes.val,Option.some.injEq] at hbv
     subst hbv
     refine⟨a.tmps.getD t undef::us,?_,_,_,rfl,ha.tmps t,h2⟩
     simp only[List.mapM_cons,Sem.run_bind,Sem.run_pure,Result.andThen_ok,h1]
    | cell b t =>
     simp[Option.bind_eq_some_iff] at hb1
     obtain⟨sh,hsh,rfl⟩:=hb1
     simp only[BRes.val] at hbv
     split at hbv
     ·rename_i bb i hbb
      split at hbv
      ·rename_i ty cs hcs
       split at hbv
       ·rename_i hle
        obtain⟨r,v',hX,hrun,kv⟩:=nV hr hcs hsh hle hbv
        have htm:=ha.tmps b
        rw[hbb] at htm
        obtain⟨r',hX',htm⟩:=htm
        rw[hX] at hX'
        cases hX'
        refine⟨v'::us,?_,_,_,rfl,kv,h2⟩
        have hasa:(asAddr (a.tmps.getD b undef)).run P w=.ok ⟨r.blk,i,none⟩ w:=by rw[htm];rfl
        simp only[List.mapM_cons,Sem.run_bind,hasa,Sem.run_pure,Result.andThen_ok,hrun,h1]
       ·cases hbv
      ·cases hbv
     ·cases hbv

def Linked(P:Program)(sq:Nat→Bool)(Γ:Ctx):Prop:=∀f bfn,Γ.fn f=some bfn→∃fn,P.funcs[f]?=some fn∧aQ8 P.underlying P.info? sq fn=some bfn∧(fn.name=="runtime.NumGoroutine")=false

theorem xW{LO:Prop}{Γ:Ctx}(hm:P.follows .mixedOrders=true)(hsq:∀t,sq t=true→P.stoodInHeld t=false∧P.eqGuardType P.depth t=false)(hl:Linked P sq Γ)(hext:mU P Γ.aA w0 LO Γ.ext)(hfr:eO Γ.ext):
  ∀n,mU P Γ.aA w0 LO (CallN Γ n)
 | 0=>fun _ _ _ _ _ h=>h.elim
 | n+1=>by
  intro f args H v H1 h
  rcases h with⟨bfn,hf,x,e',hx,hxx,hres⟩|h
  ·obtain⟨fn,hfn,hcomp,hname⟩:=hl f bfn hf
   unfold aQ8 at hcomp
   simp only[Option.bind_eq_bind,Option.bind_eq_some_iff] at hcomp
   obtain⟨c,hbody,bc,hbc,rs,hrs,e1⟩:=hcomp
   simp at e1
   subst e1
   refine⟨fun args w=>?_,fun X w args' hargs hr=>?_⟩
   ·have hne:¬fn.name = "runtime.NumGoroutine":=by simpa using hname
    simp[callFunc,hfn,hne,hbody]
   ·refine calls_of_wp hfn hbody (mF (bD4 (N:=fn.ntmps) hm hsq (xW hm hsq hl hext hfr n) (CallN.framed hfr n) hx c hbc (Q:=bodyPost P fn (aF2 P Γ.aA w0 X v H1 LO)) ?_ ?_ hr ?_))
    ·intro hlo
     exact⟨⟨#[],[]⟩,w,hlo⟩
    ·refine⟨fun t=>?_,?_,rfl⟩
     ·simp only[eX]
      have hlen:args.length=args'.size:=by simpa using hargs.len
      by_cases ht:t<args.length
      ·obtain⟨u,hu,ku⟩:=hargs.get t _ (List.getElem?_eq_getElem ht)
       have hu':args'[t]?=some u:=by simpa using hu
       have h1:args.getD t (.tup [])=args[t]:=by simp[List.getD_eq_getElem?_getD,ht]
       have h2:(args'++Array.replicate (fn.ntmps-args'.size) undef).getD t undef=u:=by
        rw[Array.getD_eq_getD_getElem?,Array.getElem?_append_left (by omega),hu']
        rfl
       rw[h1,h2]
       exact ku
      ·have h1:args.getD t (.tup [])=.tup []:=by simp[List.getD_eq_getElem?_getD,List.getElem?_eq_none (Nat.le_of_not_lt ht)]
       have h2:(args'++Array.replicate (fn.ntmps-args'.size) undef).getD t undef=undef:=by
        rw[Array.getD_eq_getD_getElem?,Array.getElem?_append_right (by omega)]
        by_cases hq:t-args'.size<fn.ntmps-args'.size
        ·simp[hq]
        ·simp[hq]
       rw[h1,h2]
       exact⟨#[],rfl,rfl⟩
     ·simp
      omega
    ·intro X' a' w' hle ha' hr'
     have hfin:a'.defers=[]∧∃v',(results fn a'.tmps).run P w'=.ok v' w'∧aF2 P Γ.aA w0 X v H1 LO (.returned v') w':=by
      refine⟨ha'.defers,?_⟩
      unfold cY at hres
      cases hvs:cX e' H1 rs with
      | none=>rw[hvs] at hres;cases hres
      | some vs =>
       rw[hvs] at hres
       simp at hres
       subst hres
       obtain⟨us,h1,h2⟩:=res_rel ha' hr' fn.results.toList rs vs hrs hvs
       have hlen:=h2.len
       have hrun:((fn.results.mapM (m:=Sem) fun | .tmp t=>pure (a'.tmps.getD t undef) | .cell b t=>do loadVar t (←asAddr (a'.tmps.getD b undef)))).run P w'=.ok us.toArray w':=by
        rw[Array.mapM_eq_mapM_toList,Sem.run_map,h1]
        rfl
       refine⟨if h:us.toArray.size=1 then us.toArray[0] else .tuple us.toArray,?_,X',hle,?_,hr'⟩
       ·unfold results
        rw[Sem.run_bind]
        exact(congrArg (fun r=>Result.andThen r fun(a:Array Value) w'=>(pure (if h:a.size=1 then a[0] else Value.tuple a):Sem Value).run P w') hrun)
       ·match vs,us,h2,hlen with
        | [],[],_,_=>exact⟨#[],rfl,rfl⟩
        | [c],[u],h2,_ =>
         obtain⟨_,_,e2,k,_⟩:=h2
         cases e2
         exact k
        | c::c2::cs,u::u2::us,h2,_=>
         have:¬(u::u2::us).toArray.size=1:=by simp
         rw[dif_neg this]
         exact⟨_,rfl,h2⟩
     rcases hxx with rfl|rfl
     ·exact hfin
     ·exact hfin
  ·exact hext _ _ _ _ _ h

theorem zZ{LO:Prop}{Γ:Ctx}(hm:P.follows .mixedOrders=true)(hsq:∀t,sq t=true→P.stoodInHeld t=false∧P.eqGuardType P.depth t=false)(hl:Linked P sq Γ)(hext:mU P Γ.aA w0 LO Γ.ext)(hfr:eO Γ.ext):mU P Γ.aA w0 LO (Runs Γ):=fun f args H v H1 ⟨n,h⟩=>xW hm hsq hl hext hfr n f args H v H1 h

end
end Go.B
end
