/-
What the machine B's operations do, the model's do: slices, maps, appends, structs compared.
-/
import Derived.Test.YtkgjipjkffjlhaaDoorB7
import Derived.Laws.Cover3
import Derived.ArgAppend
namespace Go.B
set_option linter.unusedVariables false
set_option linter.unusedSimpArgs false

section
variable {P : Program} {base : Nat} {w0 w : World} {X : Tie} {H : BH} {o : Oper} {ρ : Operand → Value} {σ : Opd → BV}

theorem does_isnil {neg : Bool} {t e : TypeId} {t' : TypeId} {x y : Operand} {x' : Opd} (ho : o.op = .binOp (if neg then .neq else .eql) t x y t') (hu : P.underlying t = some (.slice e)) (hy : isNilSlice y = true) (hx : opd x = some x')
    (hr : HR P base w0 X H w) (hρ : OR base X σ ρ) (hρc : ∀ v, ρ (.const v) = v) (h : σ x' = .nils ∨ ∃ b i n, σ x' = .sl b i n) : Does P base w0 X w o ρ (.bool (match σ x' with | .nils => !neg | _ => neg)) H := by
  have h1 := hρ x x' hx
  have h2 : ρ y = .slice none 0 0 := by
    unfold isNilSlice at hy
    split at hy
    · exact hρc _
    · cases hy
  have key : ∀ (a : Option Addr) (l c : Nat), ρ x = .slice a l c → (execOp ρ o).run P w = .ok (.value (.bool (if neg then !a.isNone else a.isNone))) w := by
    intro a l c e1
    have h3 := run_equalIn_slice_nil (P := P) w 9999 t e a l c hu
    cases neg
    · simp [execOp, ho, e1, h2, run_eqGuard_ok (P := P) (w := w) (a := .slice a l c) rfl (by simp), binOp, Op.equal, Op.maxDepth, h3]
    · simp [execOp, ho, e1, h2, run_eqGuard_ok (P := P) (w := w) (a := .slice a l c) rfl (by simp), binOp, Op.equal, Op.maxDepth, h3]
  rcases h with h | ⟨b, i, n, h⟩
  · rw [h] at h1 ⊢
    have h1 : ρ x = .slice none 0 0 := h1
    refine .plain hr (key _ _ _ h1) ?_
    cases neg <;> rfl
  · rw [h] at h1 ⊢
    obtain ⟨r, cap, _, e2, _⟩ := h1
    refine .plain hr (key _ _ _ e2) ?_
    cases neg <;> rfl

theorem keyKind_elim {t kd : Nat} (h : keyKind P.underlying t = some kd) : (∃ k, P.underlying t = some (.int k) ∧ kd = 0) ∨ (P.underlying t = some .string ∧ kd = 1) ∨ (P.underlying t = some .bool ∧ kd = 2) := by
  unfold keyKind at h
  split at h
  · rename_i k hk; exact .inl ⟨k, hk, (Option.some.inj h).symm⟩
  · rename_i hk; exact .inr (.inl ⟨hk, (Option.some.inj h).symm⟩)
  · rename_i hk; exact .inr (.inr ⟨hk, (Option.some.inj h).symm⟩)
  · cases h

/-- Keys that compare are what they stand for. -/
theorem keyEq_elim {kd : Nat} {a b : BV} {r : Bool} (h : keyEq kd a b = some r) : (∃ k x y, a = .int k x ∧ b = .int k y ∧ r = (x == y) ∧ kd = 0) ∨ (∃ x y, a = .str x ∧ b = .str y ∧ r = (x == y) ∧ kd = 1) ∨
    (∃ x y, a = .bool x ∧ b = .bool y ∧ r = (x == y) ∧ kd = 2) := by
  unfold keyEq at h
  split at h
  · split at h
    · rename_i hk; obtain ⟨rfl, rfl⟩ := hk; exact .inl ⟨_, _, _, rfl, rfl, (Option.some.inj h).symm, rfl⟩
    · cases h
  · split at h
    · rename_i hk; subst hk; exact .inr (.inl ⟨_, _, rfl, rfl, (Option.some.inj h).symm, rfl⟩)
    · cases h
  · split at h
    · rename_i hk; subst hk; exact .inr (.inr ⟨_, _, rfl, rfl, (Option.some.inj h).symm, rfl⟩)
    · cases h
  · cases h

theorem run_eqFields_rel {d : Nat} {xs ys : List BV} {us vs : Array Value} (hx : VRL base X xs us.toList) (hy : VRL base X ys vs.toList) : ∀ (fs : List Field) (ks : List (Nat × Nat)) (r : Bool), fieldKinds P.underlying fs = some ks →
    eqFieldsB xs ys ks = some r → (Op.eqFields (d + 1) us vs fs).run P w = .ok r w
  | [], ks, r, hk, h => by
    simp [fieldKinds] at hk
    subst hk
    simp [eqFieldsB] at h
    subst h
    rfl
  | f :: fs, ks, r, hk, h => by
    unfold fieldKinds at hk
    split at hk
    · rename_i kd hkd
      split at hk
      · cases hk
      · rename_i hn
        cases hks : fieldKinds P.underlying fs with
        | none => simp [hks] at hk
        | some ks' =>
          simp [hks] at hk
          subst hk
          unfold eqFieldsB at h
          split at h
          · rename_i a b ha hb
            obtain ⟨u, hu, ku⟩ := hx.get _ _ ha
            obtain ⟨v, hv, kv⟩ := hy.get _ _ hb
            have hu' : us[f.offset]? = some u := by simpa using hu
            have hv' : vs[f.offset]? = some v := by simpa using hv
            have step : ∀ q, keyEq kd a b = some q → (part f.type us f.offset).run P w = .ok u w ∧ (part f.type vs f.offset).run P w = .ok v w ∧ (Op.equalIn (d + 1) f.type u v).run P w = .ok q w := by
              intro q hq
              rcases keyEq_elim hq with ⟨k, x, y, rfl, rfl, rfl, rfl⟩ | ⟨x, y, rfl, rfl, rfl, rfl⟩ | ⟨x, y, rfl, rfl, rfl, rfl⟩
              · have ku : u = .int k x := ku
                have kv : v = .int k y := kv
                subst ku; subst kv
                rcases keyKind_elim hkd with ⟨k', ht, _⟩ | ⟨_, he⟩ | ⟨_, he⟩
                · refine ⟨?_, ?_, run_equalIn_int w d f.type k k' x y ht⟩
                  · simp [part, isAgg, run_underlying ht, hu']
                  · simp [part, isAgg, run_underlying ht, hv']
                · simp at he
                · simp at he
              · have ku : u = .string x := ku
                have kv : v = .string y := kv
                subst ku; subst kv
                rcases keyKind_elim hkd with ⟨k', ht, he⟩ | ⟨ht, he⟩ | ⟨_, he⟩
                · simp at he
                · refine ⟨?_, ?_, ?_⟩
                  · simp [part, isAgg, run_underlying ht, hu']
                  · simp [part, isAgg, run_underlying ht, hv']
                  · rw [run_equalIn_string w d f.type x y ht, ← beq_toListBytes]
                · simp at he
              · have ku : u = .bool x := ku
                have kv : v = .bool y := kv
                subst ku; subst kv
                rcases keyKind_elim hkd with ⟨k', ht, he⟩ | ⟨ht, he⟩ | ⟨ht, he⟩
                · simp at he
                · simp at he
                · refine ⟨?_, ?_, run_equalIn_bool' w d f.type x y ht⟩
                  · simp [part, isAgg, run_underlying ht, hu']
                  · simp [part, isAgg, run_underlying ht, hv']
            split at h
            · rename_i hq
              obtain ⟨s1, s2, s3⟩ := step _ hq
              simp only [Op.eqFields, ne_eq, hn, not_false_eq_true, if_true, Sem.run_bind, s1, s2, s3, Result.andThen_ok, Bool.not_true, Bool.false_eq_true, if_false]
              exact run_eqFields_rel hx hy fs ks' r hks h
            · rename_i hq
              obtain ⟨s1, s2, s3⟩ := step _ hq
              simp only [Option.some.injEq] at h
              subst h
              simp only [Op.eqFields, ne_eq, hn, not_false_eq_true, if_true, Sem.run_bind, s1, s2, s3, Result.andThen_ok, Bool.not_false, Sem.run_pure]
            · cases h
          · cases h
    · cases hk

theorem does_eqs {neg : Bool} {t t' : TypeId} {x y : Operand} {x' y' : Opd} {fs : Array Field} {ks : List (Nat × Nat)} (ho : o.op = .binOp (if neg then .neq else .eql) t x y t') (hu : P.underlying t = some (.struct fs))
    (hs : P.stoodInHeld t = false) (hg : P.eqGuardType P.depth t = false) (hk : fieldKinds P.underlying fs.toList = some ks) (hx : opd x = some x') (hy : opd y = some y')
    (hr : HR P base w0 X H w) (hρ : OR base X σ ρ) {xs ys : List BV} (e1 : σ x' = .agg xs) (e2 : σ y' = .agg ys) {r : Bool} (h : eqFieldsB xs ys ks = some r) : Does P base w0 X w o ρ (.bool (if neg then !r else r)) H := by
  have h1 := hρ x x' hx
  have h2 := hρ y y' hy
  rw [e1] at h1
  rw [e2] at h2
  obtain ⟨us, u1, k1⟩ := h1
  obtain ⟨vs, u2, k2⟩ := h2
  have hfs : P.fieldsOf t = fs := by simp [Program.fieldsOf, hu]
  have h3 := run_equalIn_struct (P := P) w 9999 t us vs (by rw [hfs]; exact hu) hs
  rw [hfs, run_eqFields_rel (d := 9998) k1 k2 fs.toList ks r hk h] at h3
  refine .plain hr (v' := .bool (if neg then !r else r)) ?_ rfl
  cases neg
  · simp [execOp, ho, u1, u2, run_eqGuard_agg w _ t x y us vs hg, run_eql_struct, h3]
  · simp [execOp, ho, u1, u2, run_eqGuard_agg w _ t x y us vs hg, run_neq_struct, h3]

theorem does_len {t : TypeId} {kd : Nat} {x : Operand} {y : Opd} {c : _root_.Go.Call} (ho : o.op = .call c) (hc : c.callee = .builtin .len) (hat : c.argTypes[0]? = some t) (hargs : c.args.toList = [x]) (hy : opd x = some y)
    (hu : (P.underlying t = some .string ∧ kd = 0) ∨ (∃ e, P.underlying t = some (.slice e) ∧ kd = 1) ∨ (∃ k e, P.underlying t = some (.map k e) ∧ kd = 2))
    (hr : HR P base w0 X H w) (hρ : OR base X σ ρ) {v : BV} {nb : Nat} {H1 : BH} (h : op1 base nb σ H (.len kd y) = some (v, H1)) : Does P base w0 X w o ρ v H1 := by
  have h1 := hρ x y hy
  have ha : c.args.map ρ = #[ρ x] := by
    apply Array.toList_inj.1
    rw [Array.toList_map, hargs]
    rfl
  have hexec : ∀ v', (Builtin.len_ c.argTypes o.type #[ρ x]).run P w = .ok v' w → (execOp ρ o).run P w = .ok (.value v') w := by
    intro v' h2
    simp [execOp, ho, resolve, hc, ha, invoke, builtin, h2]
  simp only [op1] at h
  split at h
  · rename_i s e1
    simp at h
    obtain ⟨rfl, rfl⟩ := h
    rw [e1] at h1
    have h1 : ρ x = .string s := h1
    rcases hu with ⟨hu, _⟩ | ⟨e, hu, he⟩ | ⟨k, e, hu, he⟩
    · exact .plain hr (hexec (.int .i64 s.size) (by simp [Builtin.len_, hat, run_underlying hu, h1, goInt])) rfl
    · simp at he
    · simp at he
  · rename_i e1
    simp at h
    obtain ⟨rfl, rfl⟩ := h
    rw [e1] at h1
    have h1 : ρ x = .slice none 0 0 := h1
    rcases hu with ⟨hu, he⟩ | ⟨e, hu, he⟩ | ⟨k, e, hu, he⟩
    · simp at he
    · exact .plain hr (hexec (.int .i64 0) (by simp [Builtin.len_, hat, run_underlying hu, h1, goInt])) rfl
    · simp at he
  · rename_i e1
    simp at h
    obtain ⟨rfl, rfl⟩ := h
    rw [e1] at h1
    obtain ⟨a, cap, h1, _⟩ := h1
    rcases hu with ⟨hu, he⟩ | ⟨e, hu, he⟩ | ⟨k, e, hu, he⟩
    · simp at he
    · exact .plain hr (hexec (.int .i64 0) (by simp [Builtin.len_, hat, run_underlying hu, h1, goInt])) rfl
    · simp at he
  · rename_i b i n e1
    simp at h
    obtain ⟨rfl, rfl⟩ := h
    rw [e1] at h1
    obtain ⟨r, cap, _, h1, _⟩ := h1
    rcases hu with ⟨hu, he⟩ | ⟨e, hu, he⟩ | ⟨k, e, hu, he⟩
    · simp at he
    · exact .plain hr (hexec (.int .i64 n) (by simp [Builtin.len_, hat, run_underlying hu, h1, goInt])) rfl
    · simp at he
  · rename_i e1
    simp at h
    obtain ⟨rfl, rfl⟩ := h
    rw [e1] at h1
    have h1 : ρ x = .map none := h1
    rcases hu with ⟨hu, he⟩ | ⟨e, hu, he⟩ | ⟨k, e, hu, he⟩
    · simp at he
    · simp at he
    · exact .plain hr (hexec (.int .i64 0) (by simp [Builtin.len_, hat, run_underlying hu, h1, goInt])) rfl
  · rename_i b e1
    rw [e1] at h1
    obtain ⟨r, hx, h1⟩ := h1
    split at h
    · rename_i es hes
      simp at h
      obtain ⟨rfl, rfl⟩ := h
      have hrow := hr.row b
      rw [hes] at hrow
      obtain ⟨r', es', clk, hx', hh, hER, _⟩ := hrow
      rw [hx] at hx'
      cases hx'
      have hlen : es.length = es'.size := by
        have : ∀ (ms : List (BV × BV)) (l : List MapEntry), ER base X ms l → ms.length = l.length := by
          intro ms
          induction ms with
          | nil => intro l hl; cases hl; rfl
          | cons p ms ih =>
            intro l hl
            obtain ⟨e, es', rfl, _, _, hl⟩ := hl
            simp [ih es' hl]
        simpa using this _ _ hER
      rcases hu with ⟨hu, he⟩ | ⟨e, hu, he⟩ | ⟨k, e, hu, he⟩
      · simp at he
      · simp at he
      · have hg : (getObj r.blk).run P w = .ok (.map es' clk) w := by simp [getObj, Sem.run, hh]
        exact .plain hr (hexec (.int .i64 es'.size) (by simp [Builtin.len_, hat, run_underlying hu, h1, hg, goInt])) (by rw [hlen]; rfl)
    · cases h
  · cases h

theorem natOf_elim {v : BV} {n : Nat} (h : natOf v = some n) : ∃ k, v = .int k (n : Int) := by
  unfold natOf at h
  split at h
  · rename_i k m
    split at h
    · rename_i hm
      simp at h
      exact ⟨k, by rw [← h, Int.toNat_of_nonneg hm]⟩
    · cases h
  · cases h

theorem run_sliceBound {k : IntKind} {n y : Nat} {code : BoundsCode} (h : n ≤ y) : (Instr.sliceBound (.int k (n : Int)) y code).run P w = .ok n w := by
  have h2 : (n : Int) ≤ (y : Int) := by omega
  simp [Instr.sliceBound, asIntOf, h2]

theorem run_sliceBounds {b : Bool} {len cap l h : Nat} {lo hi : Option Operand} {lo' hi' : Option Opd} (hρ : OR base X σ ρ) (hlo : ∀ x, lo = some x → ∃ y, lo' = some y ∧ opd x = some y) (hlo0 : lo = none → lo' = none)
    (hhi : ∀ x, hi = some x → ∃ y, hi' = some y ∧ opd x = some y) (hhi0 : hi = none → hi' = none) (hl : boundB σ 0 lo' = some l) (hh : boundB σ len hi' = some h) (h1 : l ≤ h) (h2 : h ≤ cap) (h3 : len ≤ cap) :
    (Instr.sliceBounds b len cap (lo.map ρ) (hi.map ρ) none).run P w = .ok (l, h, cap) w := by
  have e1 : ∀ x, hi = some x → ∃ k, ρ x = .int k (h : Int) := by
    intro x hx
    obtain ⟨y, rfl, hy⟩ := hhi x hx
    obtain ⟨k, ek⟩ := natOf_elim hh
    have := hρ x y hy
    rw [ek] at this
    exact ⟨k, this⟩
  have e2 : ∀ x, lo = some x → ∃ k, ρ x = .int k (l : Int) := by
    intro x hx
    obtain ⟨y, rfl, hy⟩ := hlo x hx
    obtain ⟨k, ek⟩ := natOf_elim hl
    have := hρ x y hy
    rw [ek] at this
    exact ⟨k, this⟩
  have f1 : hi = none → h = len := by
    intro hx
    rw [hhi0 hx] at hh
    simpa [boundB] using hh.symm
  have f2 : lo = none → l = 0 := by
    intro hx
    rw [hlo0 hx] at hl
    simpa [boundB] using hl.symm
  cases hi with
  | none =>
    obtain rfl := f1 rfl
    cases lo with
    | none => obtain rfl := f2 rfl; simp [Instr.sliceBounds]
    | some x => obtain ⟨k, e⟩ := e2 x rfl; simp [Instr.sliceBounds, e, run_sliceBound (P := P) (w := w) h1]
  | some z =>
    obtain ⟨k', e'⟩ := e1 z rfl
    cases lo with
    | none => obtain rfl := f2 rfl; simp [Instr.sliceBounds, e', run_sliceBound (P := P) (w := w) h2]
    | some x => obtain ⟨k, e⟩ := e2 x rfl; simp [Instr.sliceBounds, e, e', run_sliceBound (P := P) (w := w) h1, run_sliceBound (P := P) (w := w) h2]

end
end Go.B
