/-
The machine B: an abstract deterministic big-step reading of the model's code. Values, heap, operations, the compiler from the model's code.
-/
import Derived.Calls
import Derived.RowKit
namespace Go.B
set_option linter.unusedVariables false
set_option linter.unusedSimpArgs false

/-- Abstract values. A pointer: a row's number and a cell in it; a slice: row, first cell, number of elements. 'any': not known. -/
inductive BV where
  | any
  | int (k : IntKind) (n : Int)
  | bool (b : Bool)
  | str (s : ByteArray)
  | nilp
  | ptr (b o : Nat)
  | nils
  | sl (b o n : Nat)
  | sle
  | nilm
  | mp (b : Nat)
  | nilf
  | fn (f : Nat) (caps : List BV)
  | nili
  | iface (t : Nat) (v : BV)
  | agg (cs : List BV)
  | tup (vs : List BV)
  deriving Inhabited

def BV.one : BV → Bool
  | .any | .agg _ | .tup _ => false
  | _ => true
def BV.cells : BV → List BV
  | .agg cs => cs
  | v => [v]

abbrev Env := Nat → BV
def Env.put (e : Env) (t : Nat) (v : BV) : Env := fun s => if s = t then v else e s
def Env.puto (e : Env) (t : Option Nat) (v : BV) : Env := match t with | some t => e.put t v | none => e

/-- What a row's number stands for: nothing yet, nothing any more, a row of cells of a type, a map. -/
inductive BSt where
  | fresh
  | dead
  | arr (ty : Nat) (cs : List BV)
  | mp (es : List (BV × BV))
  deriving Inhabited

def mapTy : Nat := 1000000007
def BSt.ty : BSt → Option Nat
  | .arr t _ => some t
  | .mp _ => some mapTy
  | _ => none

structure BH where
  row : Nat → BSt
  fin : ∃ n, ∀ b, n ≤ b → row b = .fresh

def BH.set (H : BH) (b : Nat) (s : BSt) : BH where
  row := fun c => if c = b then s else H.row c
  fin := by
    obtain ⟨n, hn⟩ := H.fin
    refine ⟨max n (b + 1), fun c hc => ?_⟩
    have h1 : c ≠ b := by omega
    simp only [h1, if_false]
    exact hn c (by omega)

theorem BH.ext {H K : BH} (h : ∀ b, H.row b = K.row b) : H = K := by
  cases H; cases K
  have := funext h
  cases this
  rfl
theorem BH.row_set (H : BH) (b : Nat) (s : BSt) (c : Nat) : (H.set b s).row c = if c = b then s else H.row c := rfl
theorem BH.row_set_eq (H : BH) (b : Nat) (s : BSt) : (H.set b s).row b = s := by simp [BH.set]
theorem BH.row_set_ne (H : BH) {b c : Nat} (s : BSt) (h : c ≠ b) : (H.set b s).row c = H.row c := by simp [BH.set, h]
theorem BH.set_comm (H : BH) {b c : Nat} (s t : BSt) (h : b ≠ c) : (H.set b s).set c t = (H.set c t).set b s := by
  refine BH.ext fun d => ?_
  simp only [BH.row_set]
  split <;> split <;> simp_all
theorem BH.exists_fresh (H : BH) (base : Nat) : ∃ b, base ≤ b ∧ H.row b = .fresh := by
  obtain ⟨n, hn⟩ := H.fin
  exact ⟨max n base, by omega, hn _ (by omega)⟩
/-- What lives stays as it is. -/
def BH.Keeps (H K : BH) : Prop := ∀ b, (H.row b ≠ .fresh) → K.row b = H.row b
theorem BH.Keeps.refl (H : BH) : H.Keeps H := fun _ _ => rfl
theorem BH.Keeps.trans {H K L : BH} (h : H.Keeps K) (k : K.Keeps L) : H.Keeps L := fun b hb => by
  have h1 := h b hb
  rw [k b (by rw [h1]; exact hb), h1]
/-- What lives, and is of one of these types, stays as it is. -/
def BH.KeepsTys (H : BH) (tys : List Nat) (K : BH) : Prop := ∀ b t, (H.row b).ty = some t → t ∈ tys → K.row b = H.row b
theorem BH.KeepsTys.nil (H K : BH) : H.KeepsTys [] K := fun _ _ _ h => by cases h
theorem BH.Keeps.tys {H K : BH} (h : H.Keeps K) (tys : List Nat) : H.KeepsTys tys K := fun b t hb _ => h b (by rintro e; rw [e] at hb; cases hb)
theorem BH.keeps_set {H : BH} {b : Nat} (s : BSt) (h : H.row b = .fresh) : H.Keeps (H.set b s) := fun c hc => by
  refine BH.row_set_ne _ _ ?_
  rintro rfl
  exact hc h

inductive Opd where
  | t (n : Nat)
  | c (v : BV)
  deriving Inhabited
def Opd.ev (e : Env) : Opd → BV
  | .t n => e n
  | .c v => v

inductive BOp where
  | mov (x : Opd)
  | pick (c a b : Opd)
  | new (ty : Nat) (zero : List BV)
  | box (ty : Nat) (x : Opd)
  | build (zero : List BV) (parts : List (Nat × Nat × Opd))
  | mk (ty n : Nat) (zero : List BV) (parts : List (Nat × Nat × Opd))
  | load (rt : Option Nat) (n : Option Nat) (a : Opd)
  | store (rt : Option Nat) (n : Nat) (a v : Opd)
  | nilck (x : Opd)
  | bin (op : BinOp) (x y : Opd)
  | beq (neg : Bool) (x y : Opd)
  | isnil (neg : Bool) (x : Opd)
  | eqs (neg : Bool) (fs : List (Nat × Nat)) (x y : Opd)
  | not (x : Opd)
  | neg (x : Opd)
  | conv (k : IntKind) (x : Opd)
  | lea (off : Nat) (x : Opd)
  | fld (off : Nat) (n : Option Nat) (x : Opd)
  | idx (sz : Nat) (x i : Opd)
  | idxs (x i : Opd)
  | slice (sz : Nat) (x : Opd) (lo hi : Option Opd)
  | sslice (x : Opd) (lo hi : Option Opd)
  | mkfn (f : Nat) (caps : List Opd)
  | mkmap
  | mset (kd : Nat) (m k v : Opd)
  | look (kd : Nat) (ok : Bool) (zero : BV) (m k : Opd)
  | mksl (ty bytes : Nat) (zero : List BV) (len cap : Opd)
  | ext (i : Nat) (x : Opd)
  | len (kd : Nat) (x : Opd)
  | app (ty sz bytes : Nat) (x y : Opd)
  | b2s (ty : Nat) (x : Opd)
  | idxa (n sz : Nat) (x i : Opd)
  | stuck
  | call (f : Opd) (args : List Opd)
  deriving Inhabited

structure BOper where
  dst : Option Nat
  op : BOp
  guard : Option (Nat × Bool)
  keep : List Nat
  deriving Inhabited

inductive BCode where
  | skip
  | region (ops : List BOper)
  | seq (a b : BCode)
  | cond (c : Opd) (thn els : BCode)
  | block (id : Nat) (body : BCode)
  | loop (body : BCode)
  | exit (id : Nat)
  | ret
  deriving Inhabited

inductive BRes where
  | tmp (t : Nat)
  | cell (t : Nat) (n : Option Nat)
  deriving Inhabited

structure BFun where
  results : List BRes
  body : BCode
  deriving Inhabited

inductive BExit where
  | normal
  | exit (id : Nat)
  | ret

/-! ### what the operations do -/
def shiftB (op : BinOp) (k : IntKind) (a b : Int) : Option BV := if b < 0 then none else match op with
  | .shl => some (.int k (k.wrap (a * 2 ^ min b.toNat k.bits)))
  | .shr => some (.int k (a.fdiv (2 ^ min b.toNat k.bits)))
  | _ => none
def isShift : BinOp → Bool
  | .shl | .shr => true
  | _ => false
def pureBin (op : BinOp) : BV → BV → Option BV
  | .int k a, .int k' b => if isShift op then shiftB op k a b else if k = k' then (match op with
    | .and => some (.int k (k.wrap (BitVec.ofInt k.bits a &&& BitVec.ofInt k.bits b).toNat))
    | .or => some (.int k (k.wrap (BitVec.ofInt k.bits a ||| BitVec.ofInt k.bits b).toNat))
    | .xor => some (.int k (k.wrap (BitVec.ofInt k.bits a ^^^ BitVec.ofInt k.bits b).toNat))
    | .andNot => some (.int k (k.wrap (BitVec.ofInt k.bits a &&& ~~~BitVec.ofInt k.bits b).toNat))
    | .add => some (.int k (k.wrap (a + b)))
    | .sub => some (.int k (k.wrap (a - b)))
    | .mul => some (.int k (k.wrap (a * b)))
    | .quo => if b = 0 then none else some (.int k (k.wrap (a.tdiv b)))
    | .rem => if b = 0 then none else some (.int k (a.tmod b))
    | .eql => some (.bool (a == b))
    | .neq => some (.bool (a != b))
    | .lss => some (.bool (decide (a < b)))
    | .leq => some (.bool (decide (a ≤ b)))
    | .gtr => some (.bool (decide (a > b)))
    | .geq => some (.bool (decide (a ≥ b)))
    | _ => none) else none
  | .str a, .str b => match op with
    | .add => if ((a.size + b.size : Nat) : Int) > 9223372036854775807 then none else some (.str (a ++ b))
    | .eql => some (.bool (a.toList == b.toList))
    | .neq => some (.bool (!(a.toList == b.toList)))
    | .lss => some (.bool (Op.bytesLess a.toList b.toList))
    | .leq => some (.bool (Op.bytesLess a.toList b.toList || a.toList == b.toList))
    | .gtr => some (.bool (!(Op.bytesLess a.toList b.toList || a.toList == b.toList)))
    | .geq => some (.bool (!Op.bytesLess a.toList b.toList))
    | _ => none
  | _, _ => none

def fillB : List BV → List (Nat × Nat × BV) → Option (List BV)
  | cs, [] => some cs
  | cs, (off, n, v) :: rest => if v.cells.length = n ∧ off + n ≤ cs.length ∧ v.cells.all BV.one = true then fillB (cs.take off ++ v.cells ++ cs.drop (off + n)) rest else none

def asm (n : Option Nat) (cs : List BV) : Option BV := match n with
  | some _ => some (.agg cs)
  | none => cs.head?

def natOf : BV → Option Nat
  | .int _ n => if 0 ≤ n then some n.toNat else none
  | _ => none

/-- A bound of a slice. -/
def boundB (σ : Opd → BV) (d : Nat) : Option Opd → Option Nat
  | none => some d
  | some x => natOf (σ x)

/-- What a slice leads to, cell by cell. -/
def BH.cells (H : BH) (sz : Nat) : BV → Option (List BV)
  | .nils => some []
  | .sle => some []
  | .sl b o n => match H.row b with
    | .arr _ cs => if o + n * sz ≤ cs.length then some ((cs.drop o).take (n * sz)) else none
    | _ => none
  | _ => none

/-- Keys of maps: whole numbers (0), strings (1), bools (2). -/
def keyEq (kd : Nat) : BV → BV → Option Bool
  | .int k a, .int k' b => if kd = 0 ∧ k = k' then some (a == b) else none
  | .str a, .str b => if kd = 1 then some (a == b) else none
  | .bool a, .bool b => if kd = 2 then some (a == b) else none
  | _, _ => none
/-- Whole numbers, one by one. -/
def intsEq : List BV → List BV → Option Bool
  | [], [] => some true
  | .int k a :: xs, .int k' b :: ys => if k = k' then (if a == b then intsEq xs ys else some false) else none
  | _, _ => none
/-- Keys that are structs, or arrays, of n whole numbers: 3 + n. -/
def keyEqM (kd : Nat) : BV → BV → Option Bool
  | .agg xs, .agg ys => if xs.length + 3 = kd ∧ ys.length + 3 = kd then intsEq xs ys else none
  | a, b => keyEq kd a b
def keyOk (kd : Nat) (k : BV) : Bool := if kd < 3 then true else match k with
  | .agg xs => xs.length + 3 == kd
  | _ => false
def mapGet (kd : Nat) : List (BV × BV) → BV → Option (Option BV)
  | [], _ => some none
  | (k', v) :: es, k => match keyEqM kd k k' with
    | some true => some (some v)
    | some false => mapGet kd es k
    | none => none
def mapSet (kd : Nat) : List (BV × BV) → BV → BV → Option (List (BV × BV))
  | [], k, v => some [(k, v)]
  | (k', v') :: es, k, v => match keyEqM kd k k' with
    | some true => some ((k, v) :: es)
    | some false => (mapSet kd es k v).map ((k', v') :: ·)
    | none => none

/-- Structs, field by field: where it lies, and of which kind it is. -/
def eqFieldsB (xs ys : List BV) : List (Nat × Nat) → Option Bool
  | [] => some true
  | (off, kd) :: r => match xs[off]?, ys[off]? with
    | some a, some b => match keyEq kd a b with
      | some true => eqFieldsB xs ys r
      | some false => some false
      | none => none
    | _, _ => none

/-- Bytes, from cells. -/
def bytesB : List BV → Option (List Int)
  | [] => some []
  | .int .u8 n :: r => (bytesB r).map (n :: ·)
  | _ => none
def strB (xs : List Int) : ByteArray := ⟨(xs.map fun n => UInt8.ofNat n.toNat).toArray⟩

/-- A new row, under a number that nothing has had. -/
def BH.make (base nb : Nat) (H : BH) (s : BSt) : Option BH := match H.row nb with
  | .fresh => if base ≤ nb then some (H.set nb s) else none
  | _ => none

/-- The type of the row, where it is asked for. -/
def rtOk : Option Nat → Nat → Bool
  | none, _ => true
  | some t, ty => t == ty

def op1 (base nb : Nat) (ρ : Opd → BV) (H : BH) : BOp → Option (BV × BH)
  | .mov x => some (ρ x, H)
  | .pick c a b => match ρ c with
    | .bool true => some (ρ a, H)
    | .bool false => some (ρ b, H)
    | _ => none
  | .new ty zero => (H.make base nb (.arr ty zero)).map fun K => (.ptr nb 0, K)
  | .box ty x => if (ρ x).cells.all BV.one = true then (H.make base nb (.arr ty (ρ x).cells)).map fun K => (.ptr nb 0, K) else none
  | .build zero parts => match fillB zero (parts.map fun (o, n, x) => (o, n, ρ x)) with
    | some cs => some (.agg cs, H)
    | none => none
  | .mk ty n zero parts => match fillB zero (parts.map fun (o, n, x) => (o, n, ρ x)) with
    | some cs => (H.make base nb (.arr ty cs)).map fun K => (.sl nb 0 n, K)
    | none => none
  | .load rt n a => match ρ a with
    | .ptr b o => match H.row b with
      | .arr ty cs => if rtOk rt ty = true ∧ o + n.getD 1 ≤ cs.length then (asm n ((cs.drop o).take (n.getD 1))).map (·, H) else none
      | _ => none
    | _ => none
  | .store rt n a v => match ρ a with
    | .ptr b o => match H.row b with
      | .arr ty cs => if rtOk rt ty = true ∧ base ≤ b ∧ (ρ v).cells.length = n ∧ o + n ≤ cs.length ∧ (ρ v).cells.all BV.one = true then
          some (.tup [], H.set b (.arr ty (cs.take o ++ (ρ v).cells ++ cs.drop (o + n)))) else none
      | _ => none
    | _ => none
  | .nilck x => match ρ x with
    | .ptr b o => some (.ptr b o, H)
    | .fn f cs => some (.fn f cs, H)
    | _ => none
  | .bin op x y => (pureBin op (ρ x) (ρ y)).map (·, H)
  | .beq neg x y => match ρ x, ρ y with
    | .bool a, .bool b => some (.bool (if neg then !(a == b) else a == b), H)
    | _, _ => none
  | .isnil neg x => match ρ x with
    | .nils => some (.bool (!neg), H)
    | .sl _ _ _ => some (.bool neg, H)
    | _ => none
  | .eqs neg fs x y => match ρ x, ρ y with
    | .agg xs, .agg ys => (eqFieldsB xs ys fs).map fun b => (.bool (if neg then !b else b), H)
    | _, _ => none
  | .not x => match ρ x with
    | .bool b => some (.bool (!b), H)
    | _ => none
  | .neg x => match ρ x with
    | .int k n => some (.int k (k.wrap (0 - n)), H)
    | _ => none
  | .conv k x => match ρ x with
    | .int _ n => some (.int k (k.wrap n), H)
    | _ => none
  | .lea off x => match ρ x with
    | .ptr b o => some (.ptr b (o + off), H)
    | _ => none
  | .fld off n x => match ρ x with
    | .agg cs => if off + n.getD 1 ≤ cs.length then (asm n ((cs.drop off).take (n.getD 1))).map (·, H) else none
    | _ => none
  | .idx sz x i => match ρ x, ρ i with
    | .sl b o n, .int _ j => if 0 ≤ j ∧ j < n then some (.ptr b (o + j.toNat * sz), H) else none
    | _, _ => none
  | .idxs x i => match ρ x, ρ i with
    | .str s, .int _ j => if 0 ≤ j then (s[j.toNat]?).map fun b => (.int .u8 b.toNat, H) else none
    | _, _ => none
  | .slice sz x lo hi => match ρ x with
    | .sl b o n => match boundB ρ 0 lo, boundB ρ n hi with
      | some l, some h => if sz ≠ 0 ∧ l ≤ h ∧ h ≤ n then (if l < n then some (.sl b (o + l * sz) (h - l), H) else some (.sle, H)) else none
      | _, _ => none
    | .nils => match boundB ρ 0 lo, boundB ρ 0 hi with
      | some 0, some 0 => some (.nils, H)
      | _, _ => none
    | .sle => match boundB ρ 0 lo, boundB ρ 0 hi with
      | some 0, some 0 => some (.sle, H)
      | _, _ => none
    | _ => none
  | .sslice x lo hi => match ρ x with
    | .str s => match boundB ρ 0 lo, boundB ρ s.size hi with
      | some l, some h => if l ≤ h ∧ h ≤ s.size then some (.str (s.extract l h), H) else none
      | _, _ => none
    | _ => none
  | .mkfn f caps => some (.fn f (caps.map ρ), H)
  | .mkmap => (H.make base nb (.mp [])).map fun K => (.mp nb, K)
  | .mset kd m k v => match ρ m with
    | .mp b => match H.row b with
      | .mp es => if base ≤ b ∧ keyOk kd (ρ k) = true then (mapSet kd es (ρ k) (ρ v)).map fun es' => (.tup [], H.set b (.mp es')) else none
      | _ => none
    | _ => none
  | .look kd ok zero m k => match ρ m with
    | .mp b => match H.row b with
      | .mp es => if keyOk kd (ρ k) = true then (mapGet kd es (ρ k)).map fun r => (if ok then .tup [r.getD zero, .bool r.isSome] else r.getD zero, H) else none
      | _ => none
    | _ => none
  | .mksl ty bytes zero len cap => match ρ len, ρ cap with
    | .int _ n, .int _ c => if 0 ≤ n ∧ n ≤ c ∧ (bytes : Int) * c ≤ 140737488355328 ∧ c ≤ 140737488355328 then
        (H.make base nb (.arr ty (List.flatten (List.replicate n.toNat zero)))).map fun K => (.sl nb 0 n.toNat, K) else none
    | _, _ => none
  | .ext i x => match ρ x with
    | .tup vs => vs[i]?.map (·, H)
    | _ => none
  | .len kd x => match kd, ρ x with
    | 0, .str s => some (.int .i64 s.size, H)
    | 1, .nils => some (.int .i64 0, H)
    | 1, .sle => some (.int .i64 0, H)
    | 1, .sl _ _ n => some (.int .i64 n, H)
    | 2, .nilm => some (.int .i64 0, H)
    | 2, .mp b => match H.row b with
      | .mp es => some (.int .i64 es.length, H)
      | _ => none
    | _, _ => none
  | .app ty sz bytes x y => match ρ x, H.cells sz (ρ y) with
    | .nils, some [] => if 0 < sz then some (.nils, H) else none
    | .nils, some new => if new.all BV.one = true ∧ 0 < sz ∧ new.length * bytes ≤ 35184372088832 * sz ∧ new.length ≤ 35184372088832 then (H.make base nb (.arr ty new)).map fun K => (.sl nb 0 (new.length / sz), K) else none
    | .sl b o n, some new => match H.row b with
      | .arr ty' cs => if base ≤ b ∧ b ≠ nb ∧ ty' = ty ∧ o = 0 ∧ n * sz = cs.length ∧ new.all BV.one = true ∧ 0 < sz ∧ (n * sz + new.length) * bytes ≤ 35184372088832 * sz ∧ n * sz + new.length ≤ 35184372088832 then
          (H.make base nb (.arr ty (cs ++ new))).map fun K => (.sl nb 0 (n + new.length / sz), K.set b .dead) else none
      | _ => none
    | _, _ => none
  | .b2s ty x => match ρ x with
    | .nils => some (.str ByteArray.empty, H)
    | .sl b o n => match H.row b with
      | .arr t cs => if t = ty ∧ o + n ≤ cs.length then (bytesB ((cs.drop o).take n)).map fun xs => (.str (strB xs), H) else none
      | _ => none
    | _ => none
  | .idxa n sz x i => match ρ x, ρ i with
    | .ptr b o, .int _ j => if 0 ≤ j ∧ j < n then some (.ptr b (o + j.toNat * sz), H) else none
    | _, _ => none
  | .call _ _ => none
  | .stuck => none

end Go.B
