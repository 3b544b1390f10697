/-
What the machine B's operations do, the model's do: all of them.
-/
import Derived.Test.YtkgjipjkffjlhaaDoorB11
namespace Go.B
set_option linter.unusedVariables false
set_option linter.unusedSimpArgs false

/-- An operation without its rows' types. -/
def BOp.bare : BOp → BOp
  | .load _ n a => .load none n a
  | .store _ n a v => .store none n a v
  | op => op
theorem op1_bare {base nb : Nat} {σ : Opd → BV} {H : BH} {op : BOp} {r : BV × BH} (h : op1 base nb σ H op = some r) : op1 base nb σ H op.bare = some r := by
  cases op with
  | load rt n a =>
    simp only [BOp.bare, op1] at h ⊢
    split at h
    · rename_i b i e
      split at h
      · rename_i ty cs e2
        split at h
        · rename_i hc
          rw [if_pos ⟨rfl, hc.2⟩]
          exact h
        · cases h
      · cases h
    · cases h
  | store rt n a v =>
    simp only [BOp.bare, op1] at h ⊢
    split at h
    · rename_i b i e
      split at h
      · rename_i ty cs e2
        split at h
        · rename_i hc
          rw [if_pos ⟨rfl, hc.2⟩]
          exact h
        · cases h
      · cases h
    · cases h
  | _ => exact h

section
variable {P : Program} {base : Nat} {w0 w : World} {X : Tie} {H : BH} {o : Oper} {ρ : Operand → Value} {σ : Opd → BV} {sq : Nat → Bool}

theorem bounds_of {lo : Option Operand} {lo' : Option Opd} (h : optOpd lo = some lo') : Bounds lo lo' := by
  cases lo with
  | none =>
    simp [optOpd] at h
    subst h
    exact ⟨fun x e => (nomatch e), fun _ => rfl⟩
  | some l =>
    simp [optOpd] at h
    obtain ⟨y, hy, rfl⟩ := h
    exact ⟨fun x e => ⟨y, rfl, by cases e; exact hy⟩, fun e => (nomatch e)⟩

theorem one_of {l : List Operand} {y : Opd} (h : l.mapM opd = some [y]) : ∃ x, l = [x] ∧ opd x = some y := by
  cases l with
  | nil => simp at h
  | cons a l =>
    cases l with
    | nil =>
      simp [Option.bind_eq_some_iff] at h
      exact ⟨a, rfl, h⟩
    | cons b l =>
      simp only [List.mapM_cons, Option.bind_eq_bind, Option.pure_def, Option.bind_eq_some_iff] at h
      obtain ⟨_, _, _, ⟨_, _, _, _, e1⟩, e2⟩ := h
      simp at e1
      subst e1
      simp at e2
theorem two_of {l : List Operand} {y z : Opd} (h : l.mapM opd = some [y, z]) : ∃ x x', l = [x, x'] ∧ opd x = some y ∧ opd x' = some z := by
  cases l with
  | nil => simp at h
  | cons a l =>
    simp only [List.mapM_cons, Option.bind_eq_bind, Option.pure_def, Option.bind_eq_some_iff] at h
    obtain ⟨y', hy', zs, hzs, e⟩ := h
    simp at e
    obtain ⟨rfl, rfl⟩ := e
    obtain ⟨x, rfl, hx⟩ := one_of hzs
    exact ⟨a, x, rfl, hy', hx⟩
theorem two_types {a : Array TypeId} {t : TypeId} (h0 : a[0]? = some t) (h1 : a[1]? = some t) (h : a.size = 2) : a = #[t, t] := by
  apply Array.ext
  · simp [h]
  · intro i h1' h2'
    have : i = 0 ∨ i = 1 := by omega
    rcases this with rfl | rfl
    · have := (Array.getElem?_eq_some_iff.1 h0).2
      simpa using this
    · have := (Array.getElem?_eq_some_iff.1 h1).2
      simpa using this

theorem op_does {bo : BOp} (hc : compOp P.underlying P.info? sq o.op = some bo) (hsq : ∀ t, sq t = true → P.stoodInHeld t = false ∧ P.eqGuardType P.depth t = false) (hρc : ∀ v, ρ (.const v) = v) (hr : HR P base w0 X H w) (hρ : OR base X σ ρ)
    {nb : Nat} {v : BV} {H1 : BH} (h : op1 base nb σ H bo = some (v, H1)) : Does P base w0 X w o ρ v H1 := by
  cases hop : o.op with
  | move x =>
    rw [hop] at hc
    simp [compOp, Option.bind_eq_some_iff] at hc
    obtain ⟨y, hy, rfl⟩ := hc
    simp [op1] at h
    obtain ⟨rfl, rfl⟩ := h
    exact does_mov (.inl hop) hy hr hρ
  | assign x =>
    rw [hop] at hc
    simp [compOp, Option.bind_eq_some_iff] at hc
    obtain ⟨y, hy, rfl⟩ := hc
    simp [op1] at h
    obtain ⟨rfl, rfl⟩ := h
    exact does_mov (.inr hop) hy hr hρ
  | pick c a b =>
    rw [hop] at hc
    simp [compOp, Option.bind_eq_some_iff] at hc
    obtain ⟨c', hc', a', ha', b', hb', rfl⟩ := hc
    simp only [op1] at h
    split at h
    · rename_i e
      simp at h
      obtain ⟨rfl, rfl⟩ := h
      simpa using does_pick hop hc' ha' hb' hr hρ e
    · rename_i e
      simp at h
      obtain ⟨rfl, rfl⟩ := h
      simpa using does_pick hop hc' ha' hb' hr hρ e
    · cases h
  | alloc t =>
    rw [hop] at hc
    simp [compOp, Option.bind_eq_some_iff] at hc
    obtain ⟨z, hz, rfl⟩ := hc
    simp only [op1, Option.map_eq_some_iff] at h
    obtain ⟨K, hK, e⟩ := h
    simp at e
    obtain ⟨rfl, rfl⟩ := e
    exact does_new hop hz hr hK
  | box t x =>
    rw [hop] at hc
    simp [compOp, Option.bind_eq_some_iff] at hc
    obtain ⟨y, hy, rfl⟩ := hc
    simp only [op1] at h
    split at h
    · rename_i h1
      simp only [Option.map_eq_some_iff] at h
      obtain ⟨K, hK, e⟩ := h
      simp at e
      obtain ⟨rfl, rfl⟩ := e
      exact does_box hop hy hr hρ h1 hK
    · cases h
  | build t ps =>
    rw [hop] at hc
    simp only [compOp] at hc
    split at hc
    · rename_i fs hu
      simp [Option.bind_eq_some_iff] at hc
      obtain ⟨z, hz, qs, hq, ⟨pl, hpl⟩, rfl⟩ := hc
      simp only [op1] at h
      split at h
      · rename_i cs hf
        simp at h
        obtain ⟨rfl, rfl⟩ := h
        exact does_build_struct hop hu hz hq hpl hr hρ hf
      · cases h
    · rename_i len e hu
      simp [Option.bind_eq_some_iff] at hc
      obtain ⟨n, hn, z, hz, qs, hq, rfl⟩ := hc
      simp only [op1] at h
      split at h
      · rename_i cs hf
        simp at h
        obtain ⟨rfl, rfl⟩ := h
        exact does_build_array hop hu hn hz hq hr hρ hf
      · cases h
    · cases hc
  | buildSlice t len ps =>
    rw [hop] at hc
    simp only [compOp] at hc
    split at hc
    · rename_i e hu
      simp [Option.bind_eq_some_iff] at hc
      obtain ⟨n, hn, z, hz, hcond, qs, hq, rfl⟩ := hc
      simp only [op1] at h
      split at h
      · rename_i cs hf
        simp only [Option.map_eq_some_iff] at h
        obtain ⟨K, hK, e⟩ := h
        simp at e
        obtain ⟨rfl, rfl⟩ := e
        exact does_mk hop hu hn hz hcond.1 hcond.2.1 hcond.2.2 hq hr hρ hf hK
      · cases h
    · cases hc
  | load t x =>
    rw [hop] at hc
    simp [compOp, Option.bind_eq_some_iff] at hc
    obtain ⟨s, hs, y, hy, rfl⟩ := hc
    simp only [op1] at h
    split at h
    · rename_i b i e
      split at h
      · rename_i ty cs e2
        split at h
        · rename_i hcnd
          simp only [Option.map_eq_some_iff] at h
          obtain ⟨q, hq, e3⟩ := h
          simp at e3
          obtain ⟨rfl, rfl⟩ := e3
          exact does_load hop hs hy hr hρ e e2 hcnd.2 hq
        · cases h
      · cases h
    · cases h
  | store t x z =>
    rw [hop] at hc
    simp [compOp, Option.bind_eq_some_iff] at hc
    obtain ⟨n, hn, y, hy, q, hq, rfl⟩ := hc
    simp only [op1] at h
    split at h
    · rename_i b i e
      split at h
      · rename_i ty cs e2
        split at h
        · rename_i hcnd
          simp at h
          obtain ⟨rfl, rfl⟩ := h
          obtain ⟨_, c1, c2, c3, c4⟩ := hcnd
          rw [← List.append_assoc]
          exact does_store hop hn hy hq hr hρ e e2 c1 c2 c3 c4
        · cases h
      · cases h
    · cases h
  | nilCheck x =>
    rw [hop] at hc
    simp [compOp, Option.bind_eq_some_iff] at hc
    obtain ⟨y, hy, rfl⟩ := hc
    simp only [op1] at h
    split at h
    · rename_i b i e
      simp at h
      obtain ⟨rfl, rfl⟩ := h
      rw [← e]
      exact does_nilck hop hy hr hρ (.inl ⟨b, i, e⟩)
    · rename_i f cs e
      simp at h
      obtain ⟨rfl, rfl⟩ := h
      rw [← e]
      exact does_nilck hop hy hr hρ (.inr ⟨f, cs, e⟩)
    · cases h
  | binOp op t x y t' =>
    rw [hop] at hc
    simp only [compOp] at hc
    split at hc
    · rename_i k hu
      simp [Option.bind_eq_some_iff] at hc
      obtain ⟨x', hx, y', hy, rfl⟩ := hc
      simp only [op1, Option.map_eq_some_iff] at h
      obtain ⟨q, hq, e⟩ := h
      simp at e
      obtain ⟨rfl, rfl⟩ := e
      exact does_bin hop hx hy hr hρ hq
    · rename_i hu
      simp [Option.bind_eq_some_iff] at hc
      obtain ⟨x', hx, y', hy, rfl⟩ := hc
      simp only [op1, Option.map_eq_some_iff] at h
      obtain ⟨q, hq, e⟩ := h
      simp at e
      obtain ⟨rfl, rfl⟩ := e
      exact does_bin hop hx hy hr hρ hq
    · rename_i hu
      simp [Option.bind_eq_some_iff] at hc
      obtain ⟨x', hx, y', hy, rfl⟩ := hc
      simp only [op1] at h
      split at h
      · rename_i a b e1 e2
        simp at h
        obtain ⟨rfl, rfl⟩ := h
        simpa using does_beq (neg := false) hop hu hx hy hr hρ e1 e2
      · cases h
    · rename_i hu
      simp [Option.bind_eq_some_iff] at hc
      obtain ⟨x', hx, y', hy, rfl⟩ := hc
      simp only [op1] at h
      split at h
      · rename_i a b e1 e2
        simp at h
        obtain ⟨rfl, rfl⟩ := h
        simpa using does_beq (neg := true) hop hu hx hy hr hρ e1 e2
      · cases h
    · rename_i fs hu
      split at hc
      · rename_i hst
        simp [Option.bind_eq_some_iff] at hc
        obtain ⟨ks, hks, x', hx, y', hy, rfl⟩ := hc
        simp only [op1] at h
        split at h
        · rename_i xs ys e1 e2
          simp only [Option.map_eq_some_iff] at h
          obtain ⟨q, hq, e⟩ := h
          simp at e
          obtain ⟨rfl, rfl⟩ := e
          simpa using does_eqs (neg := false) hop hu (hsq t hst).1 (hsq t hst).2 hks hx hy hr hρ e1 e2 hq
        · cases h
      · cases hc
    · rename_i fs hu
      split at hc
      · rename_i hst
        simp [Option.bind_eq_some_iff] at hc
        obtain ⟨ks, hks, x', hx, y', hy, rfl⟩ := hc
        simp only [op1] at h
        split at h
        · rename_i xs ys e1 e2
          simp only [Option.map_eq_some_iff] at h
          obtain ⟨q, hq, e⟩ := h
          simp at e
          obtain ⟨rfl, rfl⟩ := e
          simpa using does_eqs (neg := true) hop hu (hsq t hst).1 (hsq t hst).2 hks hx hy hr hρ e1 e2 hq
        · cases h
      · cases hc
    · rename_i e hu
      split at hc
      · rename_i hny
        simp [Option.bind_eq_some_iff] at hc
        obtain ⟨x', hx, rfl⟩ := hc
        simp only [op1] at h
        split at h
        · rename_i e1
          simp at h
          obtain ⟨rfl, rfl⟩ := h
          have := does_isnil (neg := false) hop hu hny hx hr hρ hρc (.inl e1)
          rw [e1] at this
          exact this
        · rename_i b i n e1
          simp at h
          obtain ⟨rfl, rfl⟩ := h
          have := does_isnil (neg := false) hop hu hny hx hr hρ hρc (.inr ⟨b, i, n, e1⟩)
          rw [e1] at this
          exact this
        · cases h
      · cases hc
    · rename_i e hu
      split at hc
      · rename_i hny
        simp [Option.bind_eq_some_iff] at hc
        obtain ⟨x', hx, rfl⟩ := hc
        simp only [op1] at h
        split at h
        · rename_i e1
          simp at h
          obtain ⟨rfl, rfl⟩ := h
          have := does_isnil (neg := true) hop hu hny hx hr hρ hρc (.inl e1)
          rw [e1] at this
          exact this
        · rename_i b i n e1
          simp at h
          obtain ⟨rfl, rfl⟩ := h
          have := does_isnil (neg := true) hop hu hny hx hr hρ hρc (.inr ⟨b, i, n, e1⟩)
          rw [e1] at this
          exact this
        · cases h
      · cases hc
    · cases hc
  | unOp op t x =>
    rw [hop] at hc
    cases op with
    | not =>
      simp [compOp, Option.bind_eq_some_iff] at hc
      obtain ⟨y, hy, rfl⟩ := hc
      simp only [op1] at h
      split at h
      · rename_i b e
        simp at h
        obtain ⟨rfl, rfl⟩ := h
        exact does_not hop hy hr hρ e
      · cases h
    | neg =>
      simp [compOp, Option.bind_eq_some_iff] at hc
      obtain ⟨y, hy, rfl⟩ := hc
      simp only [op1] at h
      split at h
      · rename_i k n e
        simp at h
        obtain ⟨rfl, rfl⟩ := h
        simpa using does_neg hop hy hr hρ e
      · cases h
    | _ => simp [compOp] at hc
  | convert s d x =>
    rw [hop] at hc
    simp only [compOp] at hc
    split at hc
    · rename_i ks kd hs hd
      simp [Option.bind_eq_some_iff] at hc
      obtain ⟨y, hy, rfl⟩ := hc
      simp only [op1] at h
      split at h
      · rename_i k n e
        simp at h
        obtain ⟨rfl, rfl⟩ := h
        exact does_conv hop hs hd hy hr hρ e
      · cases h
    · rename_i e hs hd
      split at hc
      · rename_i he
        simp [Option.bind_eq_some_iff] at hc
        obtain ⟨y, hy, rfl⟩ := hc
        exact does_b2s hop hs hd he hy hr hρ h
      · cases hc
    · cases hc
  | fieldAddr t x f =>
    rw [hop] at hc
    simp only [compOp] at hc
    split at hc
    · rename_i fs hu
      simp [Option.bind_eq_some_iff] at hc
      obtain ⟨fd, hf, n, hn, hne, y, hy, rfl⟩ := hc
      simp only [op1] at h
      split at h
      · rename_i b i e
        simp at h
        obtain ⟨rfl, rfl⟩ := h
        exact does_lea hop hu hf hn hne hy hr hρ e
      · cases h
    · cases hc
  | field t x f =>
    rw [hop] at hc
    simp only [compOp] at hc
    split at hc
    · rename_i fs hu
      simp [Option.bind_eq_some_iff] at hc
      obtain ⟨fd, hf, sh, hsh, y, hy, rfl⟩ := hc
      simp only [op1] at h
      split at h
      · rename_i cs e
        split at h
        · rename_i hle
          simp only [Option.map_eq_some_iff] at h
          obtain ⟨q, hq, e3⟩ := h
          simp at e3
          obtain ⟨rfl, rfl⟩ := e3
          exact does_fld hop hu hf hsh hy hr hρ e hle hq
        · cases h
      · cases h
    · cases hc
  | indexAddr t x z =>
    rw [hop] at hc
    simp only [compOp] at hc
    split at hc
    · rename_i e hu
      simp [Option.bind_eq_some_iff] at hc
      obtain ⟨n, hn, y, hy, q, hq, rfl⟩ := hc
      simp only [op1] at h
      split at h
      · rename_i b i m k j e1 e2
        split at h
        · rename_i hj
          simp at h
          obtain ⟨rfl, rfl⟩ := h
          exact does_idx hop hu hn hy hq hr hρ e1 e2 hj.1 hj.2
        · cases h
      · cases h
    · rename_i len e hu
      simp [Option.bind_eq_some_iff] at hc
      obtain ⟨n, hn, y, hy, q, hq, rfl⟩ := hc
      simp only [op1] at h
      split at h
      · rename_i b i k j e1 e2
        split at h
        · rename_i hj
          simp at h
          obtain ⟨rfl, rfl⟩ := h
          exact does_idxa hop hu hn hy hq hr hρ e1 e2 hj.1 hj.2
        · cases h
      · cases h
    · cases hc
  | index t x z =>
    rw [hop] at hc
    simp only [compOp] at hc
    split at hc
    · rename_i hu
      simp [Option.bind_eq_some_iff] at hc
      obtain ⟨y, hy, q, hq, rfl⟩ := hc
      simp only [op1] at h
      split at h
      · rename_i s k j e1 e2
        split at h
        · rename_i hj
          simp only [Option.map_eq_some_iff] at h
          obtain ⟨c, hcc, e3⟩ := h
          simp at e3
          obtain ⟨rfl, rfl⟩ := e3
          exact does_idxs hop hu hy hq hr hρ e1 e2 hj hcc
        · cases h
      · cases h
    · cases hc
  | slice t x lo hi mx =>
    rw [hop] at hc
    cases mx with
    | some m => simp [compOp] at hc
    | none =>
      simp only [compOp] at hc
      simp only [Option.bind_eq_bind, Option.bind_eq_some_iff] at hc
      obtain ⟨lo', hlo, hi', hhi, hc⟩ := hc
      split at hc
      · rename_i e hu
        simp [Option.bind_eq_some_iff] at hc
        obtain ⟨n, hn, y, hy, rfl⟩ := hc
        exact does_slice hop hu hn hy (bounds_of hlo) (bounds_of hhi) hr hρ h
      · rename_i hu
        simp [Option.bind_eq_some_iff] at hc
        obtain ⟨y, hy, rfl⟩ := hc
        exact does_sslice hop hu hy (bounds_of hlo) (bounds_of hhi) hr hρ h
      · cases hc
  | makeFunc fn first captured =>
    rw [hop] at hc
    cases fn with
    | func f =>
      simp [compOp, Option.bind_eq_some_iff] at hc
      obtain ⟨hf, caps, hcaps, rfl⟩ := hc
      simp [op1] at h
      obtain ⟨rfl, rfl⟩ := h
      exact does_mkfn hop (by simp [hf]) hcaps hr hρ
    | _ => simp [compOp] at hc
  | makeMap t r =>
    rw [hop] at hc
    cases r with
    | some _ => simp [compOp] at hc
    | none =>
      simp only [compOp] at hc
      split at hc
      · simp at hc
        subst hc
        simp only [op1, Option.map_eq_some_iff] at h
        obtain ⟨K, hK, e⟩ := h
        simp at e
        obtain ⟨rfl, rfl⟩ := e
        exact does_mkmap hop hr hK
      · cases hc
  | mapUpdate t m k x =>
    rw [hop] at hc
    simp only [compOp] at hc
    split at hc
    · rename_i kt et hu
      simp [Option.bind_eq_some_iff] at hc
      obtain ⟨kd, hkd, m', hm, k', hk, x', hx, rfl⟩ := hc
      exact does_mset hsq (.inl hop) hu hkd hm hk hx hr hρ h
    · cases hc
  | insert t m k x =>
    rw [hop] at hc
    simp only [compOp] at hc
    split at hc
    · rename_i kt et hu
      simp [Option.bind_eq_some_iff] at hc
      obtain ⟨kd, hkd, m', hm, k', hk, x', hx, rfl⟩ := hc
      exact does_mset hsq (.inr hop) hu hkd hm hk hx hr hρ h
    · cases hc
  | lookup t m k okk =>
    rw [hop] at hc
    simp only [compOp] at hc
    split at hc
    · rename_i kt et hu
      simp only [Option.bind_eq_bind, Option.bind_eq_some_iff] at hc
      obtain ⟨i, hi, hc⟩ := hc
      split at hc
      · rename_i z hz
        simp [Option.bind_eq_some_iff] at hc
        obtain ⟨kd, hkd, m', hm, k', hk, rfl⟩ := hc
        exact does_look hsq hop hu hkd hi hz hm hk hr hρ h
      · cases hc
    · cases hc
  | makeSlice t l c =>
    rw [hop] at hc
    simp only [compOp] at hc
    split at hc
    · rename_i e hu
      simp [Option.bind_eq_some_iff] at hc
      obtain ⟨i, hi, z, hz, hzn, y, hy, q, hq, rfl⟩ := hc
      exact does_mksl hop hu hi hz hzn hy hq hr hρ h
    · cases hc
  | extract x i =>
    rw [hop] at hc
    simp [compOp, Option.bind_eq_some_iff] at hc
    obtain ⟨y, hy, rfl⟩ := hc
    simp only [op1] at h
    split at h
    · rename_i vs e
      simp only [Option.map_eq_some_iff] at h
      obtain ⟨q, hq, e3⟩ := h
      simp at e3
      obtain ⟨rfl, rfl⟩ := e3
      exact does_ext hop hy hr hρ e hq
    · cases h
  | call c =>
    rw [hop] at hc
    simp only [compOp, compCall, Option.bind_eq_bind, Option.bind_eq_some_iff] at hc
    obtain ⟨args, hargs, hc⟩ := hc
    split at hc
    · rename_i f hf
      simp [Option.bind_eq_some_iff] at hc
      obtain ⟨f', hf', rfl⟩ := hc
      simp [op1] at h
    · rename_i hf
      split at hc
      · rename_i t x hat
        obtain ⟨x', hx', hy'⟩ := one_of hargs
        split at hc
        · rename_i hu
          simp at hc
          subst hc
          exact does_len hop hf hat hx' hy' (.inl ⟨hu, rfl⟩) hr hρ h
        · rename_i e hu
          simp at hc
          subst hc
          exact does_len hop hf hat hx' hy' (.inr (.inl ⟨e, hu, rfl⟩)) hr hρ h
        · rename_i k e hu
          simp at hc
          subst hc
          exact does_len hop hf hat hx' hy' (.inr (.inr ⟨k, e, hu, rfl⟩)) hr hρ h
        · cases hc
      · cases hc
    · rename_i hf
      split at hc
      · rename_i t t2 x y hat hat2
        obtain ⟨x', y', hxy, hx', hy'⟩ := two_of hargs
        split at hc
        · rename_i e hu
          simp only [Option.bind_eq_some_iff] at hc
          obtain ⟨i, hi, z, hz, hc⟩ := hc
          split at hc
          · rename_i hcnd
            obtain ⟨rfl, hsz, htys⟩ := hcnd
            simp at hc
            subst hc
            exact does_app hop hf ⟨hat, hat2⟩ hxy hu hi hz hsz hx' hy' hr hρ (two_types hat hat2 htys) h
          · cases hc
        · cases hc
      · cases hc
    · cases hc
  | _ => rw [hop] at hc; simp [compOp] at hc

end
end Go.B
