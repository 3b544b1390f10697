/-
A region's operations, in whatever order: what the machine B leaves, the model leaves.
-/
import Derived.Test.YtkgjipjkffjlhaaDoorB14
import Derived.Orders
namespace Go.B
set_option linter.unusedVariables false
set_option linter.unusedSimpArgs false

structure AR (base : Nat) (X : Tie) (N : Nat) (e : Env) (a : Act) : Prop where
  tmps : ∀ t, VR base X (e t) (a.tmps.getD t undef)
  size : N ≤ a.tmps.size
  defers : a.defers = []

section
variable {P : Program} {base : Nat} {w0 w : World} {X : Tie} {H : BH} {N : Nat} {e : Env} {a : Act}

theorem AR.mono {Y : Tie} (h : AR base X N e a) (hle : X.le Y) : AR base Y N e a := ⟨fun t => (h.tmps t).mono hle, h.size, h.defers⟩

theorem AR.opd (h : AR base X N e a) : OR base X (·.ev e) a.eval := by
  intro x y hy
  cases x with
  | tmp t =>
    simp [Go.B.opd] at hy
    subst hy
    exact h.tmps t
  | const v =>
    simp [Go.B.opd] at hy
    subst hy
    exact VR_toB v
  | func f =>
    simp [Go.B.opd] at hy
    subst hy
    exact ⟨#[], rfl, rfl⟩
  | global g => simp [Go.B.opd] at hy

theorem AR.put (h : AR base X N e a) {dst : Option Nat} {v : BV} {v' : Value} (hd : ∀ d, dst = some d → d < N) (hv : VR base X v v') : AR base X N (e.puto dst v) (a.put dst v') := by
  cases dst with
  | none => exact h
  | some d =>
    have hlt : d < a.tmps.size := Nat.lt_of_lt_of_le (hd d rfl) h.size
    refine ⟨fun t => ?_, by simp [Act.put, h.size], h.defers⟩
    simp only [Env.puto, Env.put, Act.put]
    by_cases ht : t = d
    · subst ht
      simp [hlt, hv]
    · simp only [ht, if_false]
      have := h.tmps t
      simpa [Array.getElem?_setIfInBounds, Ne.symm ht] using this

/-- A call ends as the machine says. -/
def CallPost (P : Program) (base : Nat) (w0 : World) (X : Tie) (v : BV) (H1 : BH) (LO : Prop) : Ending → World → Prop
  | .returned v', w' => ∃ X', X.le X' ∧ VR base X' v v' ∧ HR P base w0 X' H1 w'
  | .outgrown, _ => LO
  | .panicked _, _ => False

def Enters (P : Program) (f : Nat) : Prop := ∀ args w, (callFunc f args).run P w = .ok (.enter f args) w

def Sound (P : Program) (base : Nat) (w0 : World) (LO : Prop) (C : CRel) : Prop :=
  ∀ f args H v H1, C f args H v H1 → Enters P f ∧ ∀ X w args', VRL base X args args'.toList → HR P base w0 X H w → Calls P f args' w (CallPost P base w0 X v H1 LO)

/-- How an operation was compiled. -/
structure Fits (P : Program) (sq : Nat → Bool) (N : Nat) (ops : Array Oper) (o : Oper) (b : BOper) : Prop where
  op : compOpS P.underlying P.info? sq o.op = b.op.bare
  dst : b.dst = o.dst
  lt : ∀ d, b.dst = some d → d < N
  guard : (o.guard = none ∧ b.guard = none) ∨ ∃ j c oj d, o.guard = some (j, c) ∧ b.guard = some (d, c) ∧ ops[j]? = some oj ∧ oj.dst = some d

theorem wanted_rel {sq : Nat → Bool} {ops : Array Oper} {o : Oper} {b : BOper} (hf : Fits P sq N ops o b) (ha : AR base X N e a) {t : Bool} (hw : wantB e b.guard = some t) : Region.wanted o (yielded ops a.tmps) = t := by
  rcases hf.guard with ⟨h1, h2⟩ | ⟨j, c, oj, d, h1, h2, h3, h4⟩
  · rw [h2] at hw
    simp [wantB] at hw
    subst hw
    simp [Region.wanted, h1]
  · rw [h2] at hw
    have hd := ha.tmps d
    simp only [wantB] at hw
    simp only [Region.wanted, h1, yielded, h3, Option.bind_some, h4]
    split at hw
    · rename_i u hu
      simp at hw
      subst hw
      rw [hu] at hd
      have hd : a.tmps.getD d undef = .bool u := hd
      have : a.tmps[d]? = some (.bool u) := by
        cases hq : a.tmps[d]? with
        | none => simp [Array.getD_eq_getD_getElem?, hq, undef] at hd
        | some v => simp [Array.getD_eq_getD_getElem?, hq] at hd; rw [hd]
      rw [this]
      cases u <;> cases c <;> rfl
    · rename_i hu
      simp at hw
      subst hw
      rw [hu] at hd
      obtain ⟨cs', hd, hk⟩ := hd
      have hk : cs'.toList = [] := hk
      have : cs' = #[] := by
        apply Array.toList_inj.1
        rw [hk]
      subst this
      cases hq : a.tmps[d]? with
      | none => rfl
      | some v =>
        simp [Array.getD_eq_getD_getElem?, hq] at hd
        subst hd
        rfl
    · cases hw

theorem mapM_opd {σ : Opd → BV} {ρ : Operand → Value} (hρ : OR base X σ ρ) : ∀ {l : List Operand} {ys : List Opd}, l.mapM opd = some ys → VRL base X (ys.map σ) (l.map ρ)
  | [], ys, h => by simp at h; subst h; rfl
  | x :: l, ys, h => by
    simp only [List.mapM_cons, Option.bind_eq_bind, Option.pure_def, Option.bind_eq_some_iff] at h
    obtain ⟨y, hy, zs, hzs, e⟩ := h
    simp at e
    subst e
    exact ⟨ρ x, l.map ρ, rfl, hρ x y hy, mapM_opd hρ hzs⟩

theorem compOp_call {u : Nat → Option TypeDesc} {inf : Nat → Option TypeInfo} {sq : Nat → Bool} {op : Op} {f : Opd} {xs : List Opd} (h : compOp u inf sq op = some (.call f xs)) :
    ∃ c f', op = .call c ∧ c.callee = .value f' ∧ opd f' = some f ∧ c.args.toList.mapM opd = some xs := by
  cases op with
  | call c =>
    simp only [compOp, compCall, Option.bind_eq_bind, Option.bind_eq_some_iff] at h
    obtain ⟨args, hargs, hop⟩ := h
    split at hop
    · rename_i f' hcal
      simp [Option.bind_eq_some_iff] at hop
      obtain ⟨f2, hf2, e1, e2⟩ := hop
      exact ⟨c, f', rfl, hcal, by rw [hf2, e1], by rw [hargs, e2]⟩
    · split at hop
      · split at hop <;> simp at hop
      · cases hop
    · split at hop
      · split at hop
        · simp only [Option.bind_eq_some_iff] at hop
          obtain ⟨i, hi, z, hz, hop⟩ := hop
          split at hop <;> simp at hop
        · cases hop
      · cases hop
    · cases hop
  | unOp op t x => cases op <;> simp [compOp, Option.bind_eq_some_iff] at h
  | makeFunc fn a b => cases fn <;> simp [compOp, Option.bind_eq_some_iff] at h
  | makeMap t r =>
    cases r <;> simp only [compOp] at h
    · split at h <;> simp at h
    · cases h
  | slice t x lo hi mx =>
    cases mx <;> simp only [compOp] at h
    · simp only [Option.bind_eq_bind, Option.bind_eq_some_iff] at h
      obtain ⟨_, _, _, _, h⟩ := h
      split at h <;> simp [Option.bind_eq_some_iff] at h
    · cases h
  | lookup t x k okk =>
    simp only [compOp] at h
    split at h
    · simp only [Option.bind_eq_bind, Option.bind_eq_some_iff] at h
      obtain ⟨_, _, h⟩ := h
      split at h <;> simp [Option.bind_eq_some_iff] at h
    · cases h
  | _ =>
    simp only [compOp] at h
    first
      | (simp [Option.bind_eq_some_iff] at h; done)
      | ((repeat' split at h) <;> first | (cases h; done) | (simp [Option.bind_eq_some_iff] at h; done))

/-- One operation. -/
theorem wpOp_of {LO : Prop} {sq : Nat → Bool} (hsq : ∀ t, sq t = true → P.stoodInHeld t = false ∧ P.eqGuardType P.depth t = false) {ops : Array Oper} {C : CRel} (hC : Sound P base w0 LO C) {i : Nat} {o : Oper} {b : BOper} (hi : ops[i]? = some o)
    (hf : Fits P sq N ops o b) {v : BV} {H1 : BH} (hx : Eff base C b e H v H1) (ha : AR base X N e a) (hr : HR P base w0 X H w) {Q : Exit → Act → World → Prop} (hQ : LO → LetsOut Q) {K : Act → World → Prop}
    (hK : ∀ X' a' w', X.le X' → AR base X' N (e.puto b.dst v) a' → HR P base w0 X' H1 w' → K a' w') : wpOp P ops Q i K a w := by
  unfold wpOp
  rw [hi]
  simp only []
  cases hx with
  | skip hw =>
    have := wanted_rel hf ha hw
    simp only [this]
    rw [← hf.dst]
    exact hK X _ w (Tie.le_refl X) (ha.put hf.lt ⟨#[], rfl, rfl⟩) hr
  | op hw ho =>
    have := wanted_rel hf ha hw
    simp only [this, if_true]
    refine .inl ?_
    have hop : compOp P.underlying P.info? sq o.op = some b.op.bare := by
      cases hq : compOp P.underlying P.info? sq o.op with
      | some q => have := hf.op; rw [compOpS, hq] at this; exact congrArg some this
      | none =>
        have h1 := hf.op
        rw [compOpS, hq] at h1
        have h2 := op1_bare ho
        rw [← h1] at h2
        cases h2
    obtain ⟨nx, w', X', v', h1, h2, h3, h4, h5⟩ := op_does hop hsq (fun v => rfl) hr ha.opd (op1_bare ho)
    unfold Oper.wp
    rw [h1]
    rcases h2 with rfl | ⟨rfl, rfl⟩
    · simp only [Oper.upon]
      rw [← hf.dst]
      exact hK X' _ w' h3 ((ha.mono h3).put hf.lt h4) h5
    · simp only [Oper.upon]
      rw [← hf.dst]
      exact hK X' _ w' h3 ((ha.mono h3).put hf.lt h4) h5
  | @call f xs g caps _ _ hw ho hg hc hk =>
    have := wanted_rel hf ha hw
    simp only [this, if_true]
    refine .inl ?_
    have hop : compOp P.underlying P.info? sq o.op = some (.call f xs) := by
      have h1 := hf.op
      rw [ho] at h1
      cases hq : compOp P.underlying P.info? sq o.op with
      | some q => rw [compOpS, hq] at h1; exact congrArg some h1
      | none => rw [compOpS, hq] at h1; cases h1
    obtain ⟨c, f', hoo, hcal, hf', hxs⟩ := compOp_call hop
    have hρ := ha.opd
    have hfv := hρ f' f hf'
    simp only [hg] at hfv
    obtain ⟨cs', hfv, hcs⟩ := hfv
    obtain ⟨hent, hcalls⟩ := hC _ _ _ _ _ hc
    have hargs : VRL base X (xs.map (·.ev e) ++ caps) (c.args.map a.eval ++ cs').toList := by
      rw [Array.toList_append, Array.toList_map]
      exact (mapM_opd hρ hxs).append hcs
    have hrun : (execOp a.eval o).run P w = .ok (.enter g (c.args.map a.eval ++ cs')) w := by
      simp [execOp, hoo, resolve, hcal, Deferred.ofValue, hfv, invoke, hent (c.args.map a.eval ++ cs') w]
    unfold Oper.wp
    rw [hrun]
    simp only [Oper.upon]
    refine Calls.mono (hcalls X w _ hargs hr) fun en w' hen => ?_
    cases en with
    | returned v' =>
      obtain ⟨X', h3, h4, h5⟩ := hen
      simp only []
      rw [← hf.dst]
      exact hK X' _ w' h3 ((ha.mono h3).put hf.lt h4) h5
    | panicked ch => exact hen.elim
    | outgrown => exact hQ hen

/-- A region's operations as they stand. -/
def FitsL (P : Program) (sq : Nat → Bool) (N : Nat) (ops : Array Oper) : List Nat → List BOper → Prop
  | [], l => l = []
  | i :: is, l => ∃ b r o, l = b :: r ∧ ops[i]? = some o ∧ Fits P sq N ops o b ∧ FitsL P sq N ops is r

theorem wpOps_of {LO : Prop} {sq : Nat → Bool} (hsq : ∀ t, sq t = true → P.stoodInHeld t = false ∧ P.eqGuardType P.depth t = false) {ops : Array Oper} {C : CRel} (hC : Sound P base w0 LO C) {Q : Exit → Act → World → Prop} (hQ : LO → LetsOut Q) :
    ∀ (is : List Nat) (l : List BOper), FitsL P sq N ops is l → ∀ {X : Tie} {e e' : Env} {H H' : BH} {a : Act} {w : World}, ExO base C l e H e' H' → AR base X N e a → HR P base w0 X H w →
      (∀ X' a' w', X.le X' → AR base X' N e' a' → HR P base w0 X' H' w' → Q .normal a' w') → wpOps P ops Q is a w
  | [], l, hfl, X, e, e', H, H', a, w, hx, ha, hr, hK => by
    obtain rfl := hfl
    cases hx
    exact hK X a w (Tie.le_refl X) ha hr
  | i :: is, l, hfl, X, e, e', H, H', a, w, hx, ha, hr, hK => by
    obtain ⟨b, r, o, rfl, hi, hf, hfr⟩ := hfl
    obtain ⟨v, H1, h1, h2⟩ := exO_cons.1 hx
    rw [wpOps_cons]
    refine wpOp_of hsq hC hi hf h1 ha hr hQ fun X' a' w' hle ha' hr' => ?_
    exact wpOps_of hsq hC hQ is r hfr h2 ha' hr' fun X'' a'' w'' hle' => hK X'' a'' w'' (Tie.le_trans hle hle')

/-- An operation that may come first does. -/
theorem exO_front {C : CRel} (hC : Framed C) {b : BOper} {post : List BOper} : ∀ {pre : List BOper} {e e' : Env} {H H' : BH}, ExO base C (pre ++ b :: post) e H e' H' → (∀ x ∈ pre, swapOk x b = true) →
    ∃ v H1, Eff base C b e H v H1 ∧ ExO base C (pre ++ post) (e.puto b.dst v) H1 e' H'
  | [], e, e', H, H', hx, _ => exO_cons.1 hx
  | x :: pre, e, e', H, H', hx, hs => by
    obtain ⟨u, H1, h1, h2⟩ := exO_cons.1 hx
    obtain ⟨v, H2, h3, h4⟩ := exO_front hC h2 fun y hy => hs y (List.mem_cons_of_mem _ hy)
    obtain ⟨H1', k1, k2, k3⟩ := h1.swap hC h3 (hs x List.mem_cons_self)
    refine ⟨v, H1', k1, exO_cons.2 ⟨u, H2, k2, ?_⟩⟩
    rw [← k3]
    exact h4

/-- What stands in a row's order. -/
structure Ready (deps : List (List Nat)) (R : List Nat) (ms : List BOper) (listed : Array Bool) (n : Nat) (rem : List Nat) : Prop where
  lt : ∀ i ∈ rem, i < n
  nodup : rem.Nodup
  isl : ∀ i, i < n → (listed.getD i true = false ↔ i ∈ rem)
  size : listed.size = n
  closed : ∀ i, i < n → i ∉ rem → ∀ p, p < n → bit (R.getD i 0) p = true → p ∉ rem
  topo : rem.Pairwise fun i j => j ∉ deps.getD i []
  self : ∀ i ∈ rem, i ∉ deps.getD i []
  bound : ∀ i ∈ rem, ∀ d ∈ deps.getD i [], d < n
  pairs : rem.Pairwise fun i j => bit (R.getD j 0) i = true ∨ ∃ x y, ms[i]? = some x ∧ ms[j]? = some y ∧ swapOk x y = true

theorem ordered_append {bs : List BOper} : ∀ {p q : List Nat} {l : List BOper}, ordered bs (p ++ q) = some l → ∃ l1 l2, ordered bs p = some l1 ∧ ordered bs q = some l2 ∧ l = l1 ++ l2
  | [], q, l, h => ⟨[], l, rfl, h, rfl⟩
  | i :: p, q, l, h => by
    simp only [List.cons_append, ordered] at h
    cases hb : bs[i]? with
    | none => rw [hb] at h; cases h
    | some b =>
      rw [hb] at h
      cases hr : ordered bs (p ++ q) with
      | none => rw [hr] at h; cases h
      | some l' =>
        rw [hr] at h
        simp at h
        subst h
        obtain ⟨l1, l2, h1, h2, rfl⟩ := ordered_append hr
        exact ⟨b :: l1, l2, by simp [ordered, hb, h1], h2, rfl⟩
theorem ordered_append_of {bs : List BOper} : ∀ {p q : List Nat} {l1 l2 : List BOper}, ordered bs p = some l1 → ordered bs q = some l2 → ordered bs (p ++ q) = some (l1 ++ l2)
  | [], q, l1, l2, h1, h2 => by simp [ordered] at h1; subst h1; exact h2
  | i :: p, q, l1, l2, h1, h2 => by
    simp only [ordered] at h1
    cases hb : bs[i]? with
    | none => rw [hb] at h1; cases h1
    | some b =>
      rw [hb] at h1
      cases hr : ordered bs p with
      | none => rw [hr] at h1; cases h1
      | some l' =>
        rw [hr] at h1
        simp at h1
        subst h1
        simp [ordered, hb, ordered_append_of hr h2]
theorem ordered_mem {bs : List BOper} : ∀ {p : List Nat} {l : List BOper}, ordered bs p = some l → ∀ b ∈ l, ∃ i ∈ p, bs[i]? = some b
  | [], l, h, b, hb => by simp [ordered] at h; subst h; cases hb
  | i :: p, l, h, b, hb => by
    simp only [ordered] at h
    cases hbi : bs[i]? with
    | none => rw [hbi] at h; cases h
    | some c =>
      rw [hbi] at h
      cases hr : ordered bs p with
      | none => rw [hr] at h; cases h
      | some l' =>
        rw [hr] at h
        simp at h
        subst h
        rcases List.mem_cons.1 hb with rfl | hb
        · exact ⟨i, List.mem_cons_self, hbi⟩
        · obtain ⟨j, hj, hj2⟩ := ordered_mem hr b hb
          exact ⟨j, List.mem_cons_of_mem _ hj, hj2⟩

end
end Go.B
