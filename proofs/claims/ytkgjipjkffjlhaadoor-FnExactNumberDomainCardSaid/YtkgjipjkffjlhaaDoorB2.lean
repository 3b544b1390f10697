/-
The compiler from the model's code to the machine B's.
-/
import Derived.Test.YtkgjipjkffjlhaaDoorB1
namespace Go.B
set_option linter.unusedVariables false
set_option linter.unusedSimpArgs false

def toB1 : Value → BV
  | .bool b => .bool b
  | .int k n => .int k n
  | .string s => .str s
  | .pointer none => .nilp
  | .slice none 0 0 => .nils
  | .map none => .nilm
  | .func (.func f) a b => if a.size = 0 ∧ b.size = 0 then .fn f [] else .any
  | .nilFunc => .nilf
  | .nilIface => .nili
  | .iface t v => .iface t (toB1 v)
  | _ => .any
def toB : Value → BV
  | .agg cs => .agg (cs.toList.map toB1)
  | .tuple vs => .tup (vs.toList.map toB1)
  | v => toB1 v

def opd : Operand → Option Opd
  | .tmp t => some (.t t)
  | .const v => some (.c (toB v))
  | .func f => some (.c (.fn f []))
  | .global _ => none

def optOpd : Option Operand → Option (Option Opd)
  | none => some none
  | some l => (opd l).map some

/-- A guard, by the temporary that it looks at. -/
def guardOf (ops : Array Oper) : Option (Nat × Bool) → Option (Option (Nat × Bool))
  | none => some none
  | some (j, b) => do
    let oj ← ops[j]?
    let d ← oj.dst
    some (some (d, b))

def isNilSlice : Operand → Bool
  | .const (.slice none 0 0) => true
  | _ => false

section
variable (u : Nat → Option TypeDesc) (inf : Nat → Option TypeInfo) (sq : Nat → Bool)

def size? (t : Nat) : Option Nat := (inf t).map (·.size)
def agg? (t : Nat) : Option Bool := (u t).map fun | .struct _ => true | .array _ _ => true | _ => false
/-- How a variable of a type is loaded: its cells as an aggregate, or its one cell. -/
def shapeOf (t : Nat) : Option (Option Nat) := do
  let a ← agg? u t
  let n ← size? inf t
  if a then some (some n) else if n = 1 then some none else none
def zeroCells? (t : Nat) : Option (List BV) := match inf t with
  | none => none
  | some i => match i.zero with
    | none => none
    | some z => some (z.cells.toList.map toB1)

def partsOf (place : Nat → Option (Nat × Nat)) (ps : List (Nat × Operand)) : Option (List (Nat × Nat × Opd)) :=
  ps.mapM fun (i, x) => do
    let (o, n) ← place i
    some (o, n, ← opd x)

def keyKind (t : Nat) : Option Nat := match u t with
  | some (.int _) => some 0
  | some .string => some 1
  | some .bool => some 2
  | _ => none

def fieldKinds : List Field → Option (List (Nat × Nat))
  | [] => some []
  | f :: fs => match keyKind u f.type with
    | some kd => if f.name = "_" then none else (fieldKinds fs).map ((f.offset, kd) :: ·)
    | none => none

/-- Fields that are whole numbers, one behind the other. -/
def fieldInts : Nat → List Field → Bool
  | _, [] => true
  | i, f :: fs => (match u f.type with | some (.int _) => true | _ => false) && f.name != "_" && f.offset == i && fieldInts (i + 1) fs
def keyKindM (t : Nat) : Option Nat := match u t with
  | some (.struct fs) => if sq t = true ∧ fieldInts u 0 fs.toList = true then some (fs.size + 3) else none
  | some (.array n e) => match u e, inf e with
    | some (.int _), some i => if i.size = 1 then some (n + 3) else none
    | _, _ => none
  | _ => keyKind u t

def compCall (c : Call) : Option BOp := do
  let args ← c.args.toList.mapM opd
  match c.callee with
  | .value f => some (.call (← opd f) args)
  | .builtin .len => match c.argTypes[0]?, args with
    | some t, [x] => match u t with
      | some .string => some (.len 0 x)
      | some (.slice _) => some (.len 1 x)
      | some (.map _ _) => some (.len 2 x)
      | _ => none
    | _, _ => none
  | .builtin .append => match c.argTypes[0]?, c.argTypes[1]?, args with
    | some t, some t2, [x, y] => match u t with
      | some (.slice e) => do
        let i ← inf e
        let z ← i.zero
        if t = t2 ∧ z.cells.size = i.size ∧ c.argTypes.size = 2 then some (.app e i.size i.bytes x y) else none
      | _ => none
    | _, _, _ => none
  | _ => none

def compOp : Op → Option BOp
  | .move x | .assign x => do some (.mov (← opd x))
  | .pick c a b => do some (.pick (← opd c) (← opd a) (← opd b))
  | .alloc t => do some (.new t (← zeroCells? inf t))
  | .box t x => do some (.box t (← opd x))
  | .build t ps => do
    match u t with
    | some (.struct fs) => do
      let z ← zeroCells? inf t
      let qs ← partsOf (fun i => do let f ← fs[i]?; some (f.offset, ← size? inf f.type)) ps.toList
      let _ ← fs.toList.mapM (fun f => (inf f.type).map fun i => (f.offset, i.size))
      some (.build z qs)
    | some (.array _ e) => do
      let n ← size? inf e
      some (.build (← zeroCells? inf t) (← partsOf (fun i => some (i * n, n)) ps.toList))
    | _ => none
  | .buildSlice t len ps => do
    match u t with
    | some (.slice e) => do
      let n ← size? inf e
      let z ← zeroCells? inf e
      if len * n ≤ 16777216 ∧ len ≤ 16777216 ∧ z.length = n then some (.mk e len (List.flatten (List.replicate len z)) (← partsOf (fun i => some (i * n, n)) ps.toList)) else none
    | _ => none
  | .load t a => do some (.load none (← shapeOf u inf t) (← opd a))
  | .store t a x => do some (.store none (← size? inf t) (← opd a) (← opd x))
  | .nilCheck x => do some (.nilck (← opd x))
  | .binOp op t x y _ => do
    match u t, op with
    | some (.int _), _ | some .string, _ => some (.bin op (← opd x) (← opd y))
    | some .bool, .eql => some (.beq false (← opd x) (← opd y))
    | some .bool, .neq => some (.beq true (← opd x) (← opd y))
    | some (.struct fs), .eql => if sq t then some (.eqs false (← fieldKinds u fs.toList) (← opd x) (← opd y)) else none
    | some (.struct fs), .neq => if sq t then some (.eqs true (← fieldKinds u fs.toList) (← opd x) (← opd y)) else none
    | some (.slice _), .eql => if isNilSlice y then some (.isnil false (← opd x)) else none
    | some (.slice _), .neq => if isNilSlice y then some (.isnil true (← opd x)) else none
    | _, _ => none
  | .unOp .not _ x => do some (.not (← opd x))
  | .unOp .neg _ x => do some (.neg (← opd x))
  | .convert s d x => do
    match u s, u d with
    | some (.int _), some (.int k) => some (.conv k (← opd x))
    | some (.slice e), some .string => match u e with
      | some (.int .u8) => some (.b2s e (← opd x))
      | _ => none
    | _, _ => none
  | .fieldAddr t x f => do
    match u t with
    | some (.struct fs) => do
      let f ← fs[f]?
      if (← size? inf f.type) = 0 then none else some (.lea f.offset (← opd x))
    | _ => none
  | .field t x f => do
    match u t with
    | some (.struct fs) => do
      let f ← fs[f]?
      some (.fld f.offset (← shapeOf u inf f.type) (← opd x))
    | _ => none
  | .indexAddr t x i => do
    match u t with
    | some (.slice e) => some (.idx (← size? inf e) (← opd x) (← opd i))
    | some (.array n e) => some (.idxa n (← size? inf e) (← opd x) (← opd i))
    | _ => none
  | .index t x i => do
    match u t with
    | some .string => some (.idxs (← opd x) (← opd i))
    | _ => none
  | .slice t x lo hi none => do
    let l ← optOpd lo
    let h ← optOpd hi
    match u t with
    | some (.slice e) => some (.slice (← size? inf e) (← opd x) l h)
    | some .string => some (.sslice (← opd x) l h)
    | _ => none
  | .makeFunc (.func f) first captured => do
    if first.size = 0 then some (.mkfn f (← captured.toList.mapM opd)) else none
  | .makeMap t none => do
    match u t with
    | some (.map _ _) => some .mkmap
    | _ => none
  | .mapUpdate t m k x | .insert t m k x => do
    match u t with
    | some (.map kt _) => some (.mset (← keyKindM u inf sq kt) (← opd m) (← opd k) (← opd x))
    | _ => none
  | .lookup t m k ok => do
    match u t with
    | some (.map kt e) => match (← inf e).zero with
      | some z => some (.look (← keyKindM u inf sq kt) ok (toB z) (← opd m) (← opd k))
      | none => none
    | _ => none
  | .makeSlice t l c => do
    match u t with
    | some (.slice e) => do
      let i ← inf e
      let z ← zeroCells? inf e
      if z.length = i.size then some (.mksl e i.bytes z (← opd l) (← opd c)) else none
    | _ => none
  | .extract x i => do some (.ext i (← opd x))
  | .call c => compCall u inf c
  | _ => none

/-- What the machine does not have, it does not do. -/
def compOpS (op : Op) : BOp := (compOp u inf sq op).getD .stuck

def compOper (N : Nat) (ops : Array Oper) (o : Oper) : Option BOper := do
  let op := compOpS u inf sq o.op
  let g ← guardOf ops o.guard
  match o.dst with
  | some d => if d < N then some { dst := o.dst, op := op, guard := g, keep := [] } else none
  | none => some { dst := none, op := op, guard := g, keep := [] }

/-- How an operation meets memory: 0 not at all, 1 it reads, 2 it makes a row, 3 it writes, 4 it calls. -/
def BOp.cls : BOp → Nat
  | .load _ _ _ | .look _ _ _ _ _ | .len 2 _ | .b2s _ _ => 1
  | .new _ _ | .box _ _ | .mk _ _ _ _ | .mkmap | .mksl _ _ _ _ _ => 2
  | .store _ _ _ _ | .mset _ _ _ _ | .app _ _ _ _ _ => 3
  | .call _ _ => 4
  | _ => 0

def bit (m j : Nat) : Bool := m.testBit j

/-- An order of the operations: what reads first, then what writes or calls, what makes rows last. -/
def pickOrder (bs : List BOper) (before : List Nat) : (fuel : Nat) → (done : Nat) → List Nat → List Nat
  | 0, _, acc => acc.reverse
  | fuel + 1, done, acc =>
    let n := bs.length
    let ready := (List.range n).filter fun i => !bit done i && ((before.getD i 0) &&& done) == before.getD i 0
    let cl := fun i => ((bs[i]?).map (·.op.cls)).getD 4
    match ready.find? (fun i => cl i ≤ 1) with
    | some i => pickOrder bs before fuel (done ||| 2 ^ i) (i :: acc)
    | none => match ready.find? (fun i => cl i ≥ 3) with
      | some i => pickOrder bs before fuel (done ||| 2 ^ i) (i :: acc)
      | none => match ready with
        | i :: _ => pickOrder bs before fuel (done ||| 2 ^ i) (i :: acc)
        | [] => acc.reverse

def BOp.reads : BOp → List Opd
  | .mov x | .box _ x | .load _ _ x | .nilck x | .isnil _ x | .not x | .neg x | .conv _ x | .lea _ x | .fld _ _ x | .ext _ x | .len _ x | .b2s _ x => [x]
  | .pick a b c | .mset _ a b c => [a, b, c]
  | .new _ _ | .mkmap | .stuck => []
  | .build _ ps | .mk _ _ _ ps => ps.map (·.2.2)
  | .store _ _ a b | .bin _ a b | .beq _ a b | .eqs _ _ a b | .idx _ a b | .idxa _ _ a b | .idxs a b | .look _ _ _ a b | .mksl _ _ _ a b | .app _ _ _ a b => [a, b]
  | .slice _ x lo hi | .sslice x lo hi => x :: lo.toList ++ hi.toList
  | .mkfn _ cs => cs
  | .call f as => f :: as
def tmpsOf (l : List Opd) : List Nat := l.filterMap fun | .t n => some n | _ => none
def BOper.names (o : BOper) : List Nat := o.dst.toList ++ tmpsOf o.op.reads ++ (match o.guard with | some (t, _) => [t] | none => [])

/-- The type of the row that an operation reads, or writes, where it is laid down. -/
def BOp.rt : BOp → Option Nat
  | .load rt _ _ => rt
  | .store rt _ _ _ => rt
  | .app ty _ _ _ _ => some ty
  | .b2s ty _ => some ty
  | .look _ _ _ _ _ | .len 2 _ | .mset _ _ _ _ => some mapTy
  | _ => none
def apart : Option Nat → Option Nat → Bool
  | some a, some b => a != b
  | _, _ => false
def kept (x : Option Nat) (tys : List Nat) : Bool := match x with
  | some a => tys.contains a
  | none => false
def clsOk (x y : BOper) : Bool := match x.op.cls, y.op.cls with
  | 0, _ => true
  | _, 0 => true
  | 1, 1 => true
  | 1, 2 => true
  | 1, 3 => apart x.op.rt y.op.rt
  | 1, 4 => kept x.op.rt y.keep
  | 2, 2 => true
  | 3, 2 => true
  | 4, 2 => true
  | _, _ => false
/-- 'x' before 'y' comes to the same as 'y' before 'x'. -/
def swapOk (x y : BOper) : Bool :=
  !(x.dst.toList.any fun t => y.names.contains t) && !(y.dst.toList.any fun t => x.names.contains t) && clsOk x y

def depsOf (o : Oper) : List Nat := (o.after.toList.filter (Region.binds .any)).map (·.on)
/-- What the table says must come before, must. -/
def certOk (deps : List (List Nat)) (R : List Nat) : Bool :=
  (List.range deps.length).all fun i => (List.range deps.length).all fun p => !bit (R.getD i 0) p || (deps.getD i []).contains p || (deps.getD i []).any fun m => bit (R.getD m 0) p
def topoOk (deps : List (List Nat)) : List Nat → List Nat → Bool
  | _, [] => true
  | done, i :: r => (deps.getD i []).all (done.contains ·) && topoOk deps (i :: done) r
def pairsOk (bs : List BOper) (R : List Nat) : List Nat → Bool
  | [] => true
  | i :: r => (r.all fun j => bit (R.getD j 0) i || (match bs[i]?, bs[j]? with | some x, some y => swapOk x y | _, _ => false)) && pairsOk bs R r
def permOk (n : Nat) (ord : List Nat) : Bool := decide (ord.Nodup) && decide (ord.length = n) && ord.all (fun i => decide (i < n)) && (List.range n).all (fun i => ord.contains i)

/-- The type of the row that an address leads into, as far as the region's own operations tell. -/
def rootTy (ops : List Oper) : Nat → Operand → Nat → Nat
  | 0, _, d => d
  | fuel + 1, .tmp t, d => match ops.find? (fun o => o.dst == some t) with
    | some o => match o.op with
      | .fieldAddr s x _ => rootTy ops fuel x s
      | .indexAddr s _ _ => match u s with
        | some (.slice e) => e
        | _ => d
      | .nilCheck x | .move x | .assign x => rootTy ops fuel x d
      | _ => d
    | none => d
  | _ + 1, _, d => d
def withRt (ops : List Oper) (o : Oper) (b : BOper) : BOper := match o.op, b.op with
  | .load t a, .load _ n x => { b with op := .load (some (rootTy u ops 20 a t)) n x }
  | .store t a _, .store _ n x v => { b with op := .store (some (rootTy u ops 20 a t)) n x v }
  | _, _ => b

/-- Loads and stores that meet others out of order lay down their rows' types, calls what they must keep. -/
def markKeep (ops : List Oper) (bs : List BOper) (before : List Nat) : List BOper :=
  let n := bs.length
  let loose (i j : Nat) : Bool := j != i && !(bit (before.getD i 0) j || bit (before.getD j 0) i)
  let cl (i : Nat) : Nat := ((bs[i]?).map (·.op.cls)).getD 0
  let typed := (bs.zip ops).zipIdx.map fun ((b, o), i) =>
    if (cl i == 1 && (List.range n).any fun j => loose i j && cl j ≥ 3) || (cl i == 3 && (List.range n).any fun j => loose i j && cl j == 1) then withRt u ops o b else b
  typed.zipIdx.map fun (b, i) =>
    if cl i == 4 then { b with keep := ((List.range n).filterMap fun j => if loose i j && cl j == 1 then (typed[j]?).bind (·.op.rt) else none).eraseDups } else b

/-- The operations in the order in which the machine takes them. -/
def ordered (bs : List BOper) : List Nat → Option (List BOper)
  | [] => some []
  | i :: r => match bs[i]? with
    | some o => (ordered bs r).map (o :: ·)
    | none => none

def compOpers (N : Nat) (ops : Array Oper) : List Oper → Option (List BOper)
  | [] => some []
  | o :: r => match compOper u inf sq N ops o with
    | some b => (compOpers N ops r).map (b :: ·)
    | none => none

def compDraw (N : Nat) (ops : Array Oper) : Option (List BOper) := do
  let bs ← compOpers u inf sq N ops ops.toList
  let R := (Region.before ops).toList
  let deps := ops.toList.map depsOf
  let ms := markKeep u ops.toList bs R
  let ord := pickOrder ms R ms.length 0 []
  if permOk ms.length ord && certOk deps R && topoOk deps [] ord && pairsOk ms R ord then ordered ms ord else none

def compRegion (N : Nat) (ops : Array Oper) (draw : Bool) : Option (List BOper) :=
  if draw then compDraw u inf sq N ops else compOpers u inf sq N ops ops.toList

def comp (N : Nat) : Code → Option BCode
  | .skip => some .skip
  | .region _ ops draw => do some (.region (← compRegion u inf sq N ops draw))
  | .seq a b => do some (.seq (← comp N a) (← comp N b))
  | .cond c a b => do some (.cond (← opd c) (← comp N a) (← comp N b))
  | .block id b => do some (.block id (← comp N b))
  | .loop b => do some (.loop (← comp N b))
  | .exit id => some (.exit id)
  | .ret => some .ret
  | _ => none

def compFun (fn : Func) : Option BFun := do
  let c ← fn.body
  let b ← comp u inf sq fn.ntmps c
  let rs ← fn.results.toList.mapM fun
    | .tmp t => some (BRes.tmp t)
    | .cell a t => do some (BRes.cell a (← shapeOf u inf t))
  some { results := rs, body := b }
end
end Go.B
