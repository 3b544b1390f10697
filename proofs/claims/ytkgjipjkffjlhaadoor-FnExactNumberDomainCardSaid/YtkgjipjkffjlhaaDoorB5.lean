/-
What the machine B's operations do, the model's do.
-/
import Derived.Test.YtkgjipjkffjlhaaDoorB4
namespace Go.B
set_option linter.unusedVariables false
set_option linter.unusedSimpArgs false

section
variable {P : Program} {base : Nat} {w0 w : World} {X : Tie} {H : BH}

theorem VR_toB1 (v : Value) : VR base X (toB1 v) v := by
  unfold toB1
  split <;> first
    | exact trivial
    | rfl
    | exact ⟨_, rfl, rfl⟩
    | exact ⟨_, rfl, VR_toB1 _⟩
    | (split
       · rename_i f a b h
         obtain rfl := Array.eq_empty_of_size_eq_zero h.1
         exact ⟨b, rfl, by rw [Array.eq_empty_of_size_eq_zero h.2]; rfl⟩
       · exact trivial)
theorem VRL_toB1 : ∀ (vs : List Value), VRL base X (vs.map toB1) vs
  | [] => rfl
  | v :: vs => ⟨v, vs, rfl, VR_toB1 v, VRL_toB1 vs⟩
theorem VR_toB (v : Value) : VR base X (toB v) v := by
  unfold toB
  split
  · exact ⟨_, rfl, VRL_toB1 _⟩
  · exact ⟨_, rfl, VRL_toB1 _⟩
  · exact VR_toB1 v

/-- What an operand stands for. -/
def OR (base : Nat) (X : Tie) (σ : Opd → BV) (ρ : Operand → Value) : Prop := ∀ x y, opd x = some y → VR base X (σ y) (ρ x)
theorem OR.mono {Y : Tie} {σ : Opd → BV} {ρ : Operand → Value} (h : X.le Y) (k : OR base X σ ρ) : OR base Y σ ρ := fun x y e => (k x y e).mono h

/-- The operation yields, and what it yields and leaves stands for what the machine has. -/
def Does (P : Program) (base : Nat) (w0 : World) (X : Tie) (w : World) (o : Oper) (ρ : Operand → Value) (v : BV) (H1 : BH) : Prop :=
  ∃ nx w' X' v', (execOp ρ o).run P w = .ok nx w' ∧ (nx = .value v' ∨ (nx = .skip ∧ v' = undef)) ∧ X.le X' ∧ VR base X' v v' ∧ HR P base w0 X' H1 w'

theorem Does.plain {o : Oper} {ρ : Operand → Value} {v : BV} {v' : Value} (hr : HR P base w0 X H w) (h : (execOp ρ o).run P w = .ok (.value v') w) (k : VR base X v v') :
    Does P base w0 X w o ρ v H := ⟨_, w, X, v', h, .inl rfl, Tie.le_refl X, k, hr⟩

variable {o : Oper} {ρ : Operand → Value} {σ : Opd → BV}

theorem does_mov {x : Operand} {y : Opd} (ho : o.op = .move x ∨ o.op = .assign x) (hy : opd x = some y) (hr : HR P base w0 X H w) (hρ : OR base X σ ρ) :
    Does P base w0 X w o ρ (σ y) H := by
  refine .plain hr (v' := ρ x) ?_ (hρ x y hy)
  rcases ho with ho | ho <;> simp [execOp, ho]

theorem does_pick {c a b : Operand} {c' a' b' : Opd} (ho : o.op = .pick c a b) (hc : opd c = some c') (ha : opd a = some a') (hb : opd b = some b')
    (hr : HR P base w0 X H w) (hρ : OR base X σ ρ) {t : Bool} (ht : σ c' = .bool t) : Does P base w0 X w o ρ (if t then σ a' else σ b') H := by
  have h1 := hρ c c' hc
  rw [ht] at h1
  have h1 : ρ c = .bool t := h1
  refine .plain hr (v' := if t then ρ a else ρ b) ?_ ?_
  · cases t <;> simp [execOp, ho, h1, asBool]
  · cases t
    · exact hρ b b' hb
    · exact hρ a a' ha

/-- A new row of cells. -/
theorem HR.newRow {nb ty : Nat} {cs : List BV} {cur : Array Value} (hr : HR P base w0 X H w) (hf : H.row nb = .fresh) (hl : VRL base X cs cur.toList) :
    HR P base w0 (X.put nb ⟨w.heap.size, P.cellsOf ty, cur.size⟩) (H.set nb (.arr ty cs)) (w.alloc (.cells cur ty)) ∧ X.le (X.put nb ⟨w.heap.size, P.cellsOf ty, cur.size⟩) := by
  have hle := Tie.le_put (X := X) (b := nb) ⟨w.heap.size, P.cellsOf ty, cur.size⟩ (hr.fresh_none hf)
  refine ⟨hr.make hf rfl ?_, hle⟩
  refine ⟨⟨w.heap.size, P.cellsOf ty, cur.size⟩, cur, (0, 0), by simp [Tie.put], heap_alloc_new w _, rfl, rfl, fun i c hc => ?_, fun _ => ⟨hr.ext.size, rfl⟩⟩
  obtain ⟨v, hv, k⟩ := hl.get i c hc
  exact ⟨v, by simpa using hv, k.mono hle⟩

theorem make_elim {nb : Nat} {s : BSt} {K : BH} (h : H.make base nb s = some K) : H.row nb = .fresh ∧ base ≤ nb ∧ K = H.set nb s := by
  unfold BH.make at h
  split at h
  · rename_i hf
    split at h
    · rename_i hb; exact ⟨hf, hb, (Option.some.inj h).symm⟩
    · cases h
  · cases h

theorem zeroCells_elim {t : Nat} {cs : List BV} (h : zeroCells? P.info? t = some cs) : ∃ i z, P.info? t = some i ∧ i.zero = some z ∧ cs = z.cells.toList.map toB1 := by
  unfold zeroCells? at h
  split at h
  · cases h
  · rename_i i hi
    split at h
    · cases h
    · rename_i z hz
      exact ⟨i, z, hi, hz, (Option.some.inj h).symm⟩

theorem does_new {t nb : Nat} {cs : List BV} {K : BH} (ho : o.op = .alloc t) (hz : zeroCells? P.info? t = some cs) (hr : HR P base w0 X H w) (hm : H.make base nb (.arr t cs) = some K) :
    Does P base w0 X w o ρ (.ptr nb 0) K := by
  obtain ⟨i, z, hi, hzz, rfl⟩ := zeroCells_elim hz
  obtain ⟨hf, hb, rfl⟩ := make_elim hm
  obtain ⟨h1, h2⟩ := hr.newRow hf (ty := t) (VRL_toB1 (base := base) (X := X) z.cells.toList)
  refine ⟨_, _, _, .pointer (some ⟨w.heap.size, 0, none⟩), ?_, .inl rfl, h2, ⟨_, Tie.put_self _ _ _, rfl⟩, h1⟩
  simp [execOp, ho, Instr.alloc, zeroValue, typeInfo, hi, hzz, newVar, newRow, World.alloc_eq]

theorem does_box {t nb : Nat} {x : Operand} {y : Opd} {K : BH} (ho : o.op = .box t x) (hy : opd x = some y) (hr : HR P base w0 X H w) (hρ : OR base X σ ρ)
    (h1 : (σ y).cells.all BV.one = true) (hm : H.make base nb (.arr t (σ y).cells) = some K) : Does P base w0 X w o ρ (.ptr nb 0) K := by
  obtain ⟨hf, hb, rfl⟩ := make_elim hm
  obtain ⟨h1, h2⟩ := hr.newRow hf (ty := t) ((hρ x y hy).cellsOf h1).1
  refine ⟨_, _, _, .pointer (some ⟨w.heap.size, 0, none⟩), ?_, .inl rfl, h2, ⟨_, Tie.put_self _ _ _, rfl⟩, h1⟩
  simp [execOp, ho, Instr.box, newVar, newRow, World.alloc_eq]

theorem does_nilck {x : Operand} {y : Opd} (ho : o.op = .nilCheck x) (hy : opd x = some y) (hr : HR P base w0 X H w) (hρ : OR base X σ ρ)
    (h : (∃ b i, σ y = .ptr b i) ∨ (∃ f cs, σ y = .fn f cs)) : Does P base w0 X w o ρ (σ y) H := by
  have h1 := hρ x y hy
  refine .plain hr (v' := ρ x) ?_ h1
  rcases h with ⟨b, i, h⟩ | ⟨f, cs, h⟩
  · rw [h] at h1
    obtain ⟨r, _, e⟩ := h1
    simp [execOp, ho, e]
  · rw [h] at h1
    obtain ⟨cs', e, _⟩ := h1
    simp [execOp, ho, e]

theorem does_not {t : TypeId} {x : Operand} {y : Opd} (ho : o.op = .unOp .not t x) (hy : opd x = some y) (hr : HR P base w0 X H w) (hρ : OR base X σ ρ)
    {b : Bool} (h : σ y = .bool b) : Does P base w0 X w o ρ (.bool (!b)) H := by
  have h1 := hρ x y hy
  rw [h] at h1
  have h1 : ρ x = .bool b := h1
  refine .plain hr (v' := .bool (!b)) ?_ rfl
  simp [execOp, ho, h1, Op.unary]

theorem does_neg {t : TypeId} {x : Operand} {y : Opd} (ho : o.op = .unOp .neg t x) (hy : opd x = some y) (hr : HR P base w0 X H w) (hρ : OR base X σ ρ)
    {k : IntKind} {n : Int} (h : σ y = .int k n) : Does P base w0 X w o ρ (.int k (k.wrap (0 - n))) H := by
  have h1 := hρ x y hy
  rw [h] at h1
  have h1 : ρ x = .int k n := h1
  refine .plain hr (v' := .int k (k.wrap (0 - n))) ?_ rfl
  simp [execOp, ho, h1, Op.unary, Op.intArith]

theorem does_conv {s d : TypeId} {x : Operand} {y : Opd} {k : IntKind} {ts : TypeDesc} (ho : o.op = .convert s d x) (hs : P.underlying s = some ts) (hd : P.underlying d = some (.int k)) (hy : opd x = some y)
    (hr : HR P base w0 X H w) (hρ : OR base X σ ρ) {k' : IntKind} {n : Int} (h : σ y = .int k' n) : Does P base w0 X w o ρ (.int k (k.wrap n)) H := by
  have h1 := hρ x y hy
  rw [h] at h1
  have h1 : ρ x = .int k' n := h1
  refine .plain hr (v' := .int k (k.wrap n)) ?_ rfl
  simp [execOp, ho, h1, convert, underlying, hs, hd, Conv.intToInt]

theorem run_eqGuard_ok {op : BinOp} {t : TypeId} {x y : Operand} {a b : Value} (h : a.oneCell' = true) (hn : a ≠ .nilIface) : (eqGuard op t x y a b).run P w = .ok () w := by
  unfold eqGuard
  cases a <;> first
    | (simp [Value.oneCell'] at h; done)
    | (exact absurd rfl hn)
    | (cases op <;> simp)

theorem does_bin {op : BinOp} {t t' : TypeId} {x y : Operand} {x' y' : Opd} (ho : o.op = .binOp op t x y t') (hx : opd x = some x') (hy : opd y = some y') (hr : HR P base w0 X H w) (hρ : OR base X σ ρ)
    {v : BV} (h : pureBin op (σ x') (σ y') = some v) : Does P base w0 X w o ρ v H := by
  have h1 := hρ x x' hx
  have h2 := hρ y y' hy
  unfold pureBin at h
  split at h
  · rename_i k a k' b e1 e2
    rw [e1] at h1
    rw [e2] at h2
    have h1 : ρ x = .int k a := h1
    have h2 : ρ y = .int k' b := h2
    split at h
    · rename_i hs
      cases op <;> simp [isShift] at hs <;> simp [shiftB] at h <;> (obtain ⟨hb, rfl⟩ := h) <;>
        (refine .plain hr ?_ rfl; simp [execOp, ho, h1, h2, run_eqGuard_ok (P := P) (w := w) (a := .int k a) rfl (by simp), binOp, Op.shift, Int.not_lt.2 hb])
    · rename_i hs
      split at h
      · rename_i e
        subst e
        cases op <;> simp [isShift] at hs <;> simp at h <;>
          first
            | (obtain ⟨hb, rfl⟩ := h
               refine .plain hr ?_ rfl
               simp [execOp, ho, h1, h2, run_eqGuard_ok (P := P) (w := w) (a := .int k a) rfl (by simp), binOp, Op.intDiv, hb])
            | (subst h
               refine .plain hr ?_ rfl
               simp [execOp, ho, h1, h2, run_eqGuard_ok (P := P) (w := w) (a := .int k a) rfl (by simp), binOp, Op.intArith, Op.intBits, Op.intCmp])
      · cases h
  · rename_i a b e1 e2
    rw [e1] at h1
    rw [e2] at h2
    have h1 : ρ x = .string a := h1
    have h2 : ρ y = .string b := h2
    cases op <;> simp at h <;>
      first
        | (obtain ⟨hb, rfl⟩ := h
           refine .plain hr ?_ rfl
           simp [execOp, ho, h1, h2, run_eqGuard_ok (P := P) (w := w) (a := .string a) rfl (by simp), binOp, Op.stringOp, IntKind.max, IntKind.signed, IntKind.bits]
           omega)
        | (subst h
           refine .plain hr ?_ rfl
           simp [execOp, ho, h1, h2, run_eqGuard_ok (P := P) (w := w) (a := .string a) rfl (by simp), binOp, Op.stringOp])
  · cases h

theorem does_beq {t t' : TypeId} {neg : Bool} {x y : Operand} {x' y' : Opd} (ho : o.op = .binOp (if neg then .neq else .eql) t x y t') (ht : P.underlying t = some .bool) (hx : opd x = some x') (hy : opd y = some y') (hr : HR P base w0 X H w) (hρ : OR base X σ ρ)
    {a b : Bool} (e1 : σ x' = .bool a) (e2 : σ y' = .bool b) : Does P base w0 X w o ρ (.bool (if neg then !(a == b) else a == b)) H := by
  have h1 := hρ x x' hx
  have h2 := hρ y y' hy
  rw [e1] at h1
  rw [e2] at h2
  have h1 : ρ x = .bool a := h1
  have h2 : ρ y = .bool b := h2
  have h3 := run_equalIn_bool' (P := P) w 9999 t a b ht
  refine .plain hr ?_ rfl
  cases neg
  · simp [execOp, ho, h1, h2, run_eqGuard_ok (P := P) (w := w) (a := .bool a) rfl (by simp), binOp, Op.equal, Op.maxDepth, h3]
  · simp [execOp, ho, h1, h2, run_eqGuard_ok (P := P) (w := w) (a := .bool a) rfl (by simp), binOp, Op.equal, Op.maxDepth, h3]

end
end Go.B
