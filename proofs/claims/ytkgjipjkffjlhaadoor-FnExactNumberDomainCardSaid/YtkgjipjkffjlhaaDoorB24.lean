/-
The machine B as a program: code and calls; a call that needs nothing of the world.
-/
import Derived.Test.YtkgjipjkffjlhaaDoorB23
namespace Go.B
set_option linter.unusedVariables false
set_option linter.unusedSimpArgs false

/-! ### values that are the same -/
mutual
def sameB : Nat → BV → BV → Bool
  | 0, _, _ => false
  | n + 1, .int k a, .int l b => k == l && a == b
  | n + 1, .bool a, .bool b => a == b
  | n + 1, .str a, .str b => decide (a = b)
  | n + 1, .nilp, .nilp => true
  | n + 1, .ptr a b, .ptr c d => a == c && b == d
  | n + 1, .nils, .nils => true
  | n + 1, .sl a b c, .sl d e f => a == d && b == e && c == f
  | n + 1, .sle, .sle => true
  | n + 1, .nilm, .nilm => true
  | n + 1, .mp a, .mp b => a == b
  | n + 1, .nilf, .nilf => true
  | n + 1, .fn a xs, .fn b ys => a == b && sameL n xs ys
  | _, _, _ => false
def sameL : Nat → List BV → List BV → Bool
  | _, [], [] => true
  | 0, _, _ => false
  | n + 1, x :: xs, y :: ys => sameB (n + 1) x y && sameL n xs ys
  | _, _, _ => false
end
mutual
theorem sameB_eq : ∀ (n : Nat) (a b : BV), sameB n a b = true → a = b
  | 0, _, _, h => by simp [sameB] at h
  | n + 1, a, b, h => by
    cases a <;> cases b <;> simp [sameB] at h
    case int.int => obtain ⟨rfl, rfl⟩ := h; rfl
    case bool.bool => subst h; rfl
    case str.str => subst h; rfl
    case nilp.nilp => rfl
    case ptr.ptr => obtain ⟨rfl, rfl⟩ := h; rfl
    case nils.nils => rfl
    case sl.sl => obtain ⟨⟨rfl, rfl⟩, rfl⟩ := h; rfl
    case sle.sle => rfl
    case nilm.nilm => rfl
    case mp.mp => subst h; rfl
    case nilf.nilf => rfl
    case fn.fn a xs b ys =>
      obtain ⟨rfl, h2⟩ := h
      rw [sameL_eq n xs ys h2]
theorem sameL_eq : ∀ (n : Nat) (xs ys : List BV), sameL n xs ys = true → xs = ys
  | n, [], [], _ => rfl
  | 0, [], y :: ys, h => by simp [sameL] at h
  | 0, x :: xs, [], h => by simp [sameL] at h
  | 0, x :: xs, y :: ys, h => by simp [sameL] at h
  | n + 1, [], y :: ys, h => by simp [sameL] at h
  | n + 1, x :: xs, [], h => by simp [sameL] at h
  | n + 1, x :: xs, y :: ys, h => by
    simp only [sameL, Bool.and_eq_true] at h
    rw [sameB_eq (n + 1) x y h.1, sameL_eq n xs ys h.2]
end
def sameRow : BSt → BSt → Bool
  | .arr t xs, .arr u ys => t == u && sameL 100000 xs ys
  | _, _ => false
theorem sameRow_eq {a b : BSt} (h : sameRow a b = true) : a = b := by
  cases a <;> cases b <;> simp [sameRow] at h
  obtain ⟨rfl, h⟩ := h
  rw [sameL_eq _ _ _ h]

/-! ### what calls must keep -/
def Tr.all {α : Type} : Tr α → (Nat → α → Bool) → Bool
  | .lf, _ => true
  | .nd v l r, p => (match v with | some x => p 0 x | none => true) && l.all (fun j => p (2 * j + 1)) && r.all (fun j => p (2 * j + 2))
theorem Tr.all_get {α : Type} : ∀ (t : Tr α) (p : Nat → α → Bool), t.all p = true → ∀ k x, t.get k = some x → p k x = true
  | .lf, p, _, k, x, h => by cases h
  | .nd v l r, p, ha, k, x, h => by
    simp only [Tr.all, Bool.and_eq_true] at ha
    obtain ⟨⟨h1, h2⟩, h3⟩ := ha
    simp only [Tr.get] at h
    split at h
    · rename_i hk
      subst hk
      rw [h] at h1
      exact h1
    · rename_i hk
      split at h
      · rename_i hm
        have := Tr.all_get l _ h2 _ _ h
        rw [show 2 * (k / 2) + 1 = k by omega] at this
        exact this
      · rename_i hm
        have := Tr.all_get r _ h3 _ _ h
        rw [show 2 * (k / 2 - 1) + 2 = k by omega] at this
        exact this
def keepRow (tys : List Nat) (h1 : EH) (b : Nat) (s : BSt) : Bool := match s.ty with
  | some t => if tys.contains t then sameRow (h1.row b) s else true
  | none => true
def keepOk (tys : List Nat) (h h1 : EH) : Bool := match tys with
  | [] => true
  | t :: r => h.t.all (keepRow (t :: r) h1)
theorem keepOk_tys {tys : List Nat} {h h1 : EH} (hk : keepOk tys h h1 = true) : h.abs.KeepsTys tys h1.abs := by
  intro b t hb ht
  cases tys with
  | nil => cases ht
  | cons t0 r =>
    have hb' : (h.row b).ty = some t := hb
    show h1.row b = h.row b
    unfold EH.row at hb' ⊢
    cases hg : h.t.get b with
    | none => rw [hg] at hb'; cases hb'
    | some s =>
      rw [hg] at hb'
      have := Tr.all_get _ _ hk b s hg
      unfold keepRow at this
      rw [show s.ty = some t from hb'] at this
      simp only at this
      rw [if_pos (by simpa using ht)] at this
      exact sameRow_eq this

/-! ### code -/
def evOps (call : Nat → List BV → EH → Option (BV × EH)) : List BOper → Tr BV → EH → Option (Tr BV × EH)
  | [], e, h => some (e, h)
  | o :: r, e, h => match wantB (EE.abs e) o.guard with
    | none => none
    | some false => match EE.puto e o.dst (.tup []) with
      | some e1 => evOps call r e1 h
      | none => none
    | some true => match o.op with
      | .call f xs => match f.ev (EE.abs e) with
        | .fn g caps => match call g (xs.map (·.ev (EE.abs e)) ++ caps) h with
          | some (v, h1) => match keepOk o.keep h h1 with
            | true => match EE.puto e o.dst v with
              | some e1 => evOps call r e1 h1
              | none => none
            | false => none
          | none => none
        | _ => none
      | op => match h.op (·.ev (EE.abs e)) op with
        | some (v, h1) => match EE.puto e o.dst v with
          | some e1 => evOps call r e1 h1
          | none => none
        | none => none

theorem evOps_sound {C : CRel} {call : Nat → List BV → EH → Option (BV × EH)} (hC : ∀ f args h v h', call f args h = some (v, h') → C f args h.abs v h'.abs) :
    ∀ (l : List BOper) (e : Tr BV) (h : EH) (e' : Tr BV) (h' : EH), evOps call l e h = some (e', h') → ExO 0 C l (EE.abs e) h.abs (EE.abs e') h'.abs
  | [], e, h, e', h', hh => by cases hh; exact .nil
  | o :: r, e, h, e', h', hh => by
    unfold evOps at hh
    split at hh
    · cases hh
    · rename_i hw
      split at hh
      · rename_i e1 he
        have := evOps_sound hC r e1 h e' h' hh
        rw [EE.puto_abs he] at this
        exact .skip hw this
      · cases hh
    · rename_i hw
      split at hh
      · rename_i f xs hop
        split at hh
        · rename_i g caps hf
          split at hh
          · rename_i v h1 hc
            split at hh
            · rename_i hk
              split at hh
              · rename_i e1 he
                have := evOps_sound hC r e1 h1 e' h' hh
                rw [EE.puto_abs he] at this
                exact .call hw hop hf (hC _ _ _ _ _ hc) (keepOk_tys hk) this
              · cases hh
            · cases hh
          · cases hh
        · cases hh
      · split at hh
        · rename_i v h1 ho
          split at hh
          · rename_i e1 he
            have := evOps_sound hC r e1 h1 e' h' hh
            rw [EE.puto_abs he] at this
            exact .op hw (EH.op_sound ho) this
          · cases hh
        · cases hh

def evLoop (body : Tr BV → EH → Option (BExit × Tr BV × EH)) : Nat → Tr BV → EH → Option (BExit × Tr BV × EH)
  | 0, _, _ => none
  | n + 1, e, h => match body e h with
    | some (.normal, e1, h1) => evLoop body n e1 h1
    | r => r
def evC (call : Nat → List BV → EH → Option (BV × EH)) (lf : Nat) : BCode → Tr BV → EH → Option (BExit × Tr BV × EH)
  | .skip, e, h => some (.normal, e, h)
  | .region ops, e, h => match evOps call ops e h with
    | some (e1, h1) => some (.normal, e1, h1)
    | none => none
  | .seq a b, e, h => match evC call lf a e h with
    | some (.normal, e1, h1) => evC call lf b e1 h1
    | r => r
  | .cond c a b, e, h => match c.ev (EE.abs e) with
    | .bool true => evC call lf a e h
    | .bool false => evC call lf b e h
    | _ => none
  | .block id b, e, h => match evC call lf b e h with
    | some (x, e1, h1) => some (x.outOf id, e1, h1)
    | none => none
  | .loop b, e, h => evLoop (fun e h => evC call lf b e h) lf e h
  | .exit id, e, h => some (.exit id, e, h)
  | .ret, e, h => some (.ret, e, h)

theorem evLoop_sound {C : CRel} {b : BCode} {body : Tr BV → EH → Option (BExit × Tr BV × EH)} (hb : ∀ e h x e' h', body e h = some (x, e', h') → ExC 0 C b (EE.abs e) h.abs x (EE.abs e') h'.abs) :
    ∀ (n : Nat) (e : Tr BV) (h : EH) (x : BExit) (e' : Tr BV) (h' : EH), evLoop body n e h = some (x, e', h') → ExC 0 C (.loop b) (EE.abs e) h.abs x (EE.abs e') h'.abs
  | 0, e, h, x, e', h', hh => by cases hh
  | n + 1, e, h, x, e', h', hh => by
    unfold evLoop at hh
    split at hh
    · rename_i e1 h1 hq
      exact .loopn (hb _ _ _ _ _ hq) (evLoop_sound hb n e1 h1 x e' h' hh)
    · rename_i hne
      refine .loopx (hb _ _ _ _ _ hh) ?_
      rintro rfl
      exact hne _ _ hh
theorem evC_sound {C : CRel} {call : Nat → List BV → EH → Option (BV × EH)} (hC : ∀ f args h v h', call f args h = some (v, h') → C f args h.abs v h'.abs) (lf : Nat) :
    ∀ (c : BCode) (e : Tr BV) (h : EH) (x : BExit) (e' : Tr BV) (h' : EH), evC call lf c e h = some (x, e', h') → ExC 0 C c (EE.abs e) h.abs x (EE.abs e') h'.abs
  | .skip, e, h, x, e', h', hh => by unfold evC at hh; cases hh; exact .skip
  | .region ops, e, h, x, e', h', hh => by
    unfold evC at hh
    split at hh
    · rename_i e1 h1 hq
      cases hh
      exact .region (evOps_sound hC _ _ _ _ _ hq)
    · cases hh
  | .seq a b, e, h, x, e', h', hh => by
    unfold evC at hh
    split at hh
    · rename_i e1 h1 hq
      exact .seq (evC_sound hC lf a _ _ _ _ _ hq) (evC_sound hC lf b _ _ _ _ _ hh)
    · rename_i hne
      refine .seqx (evC_sound hC lf a _ _ _ _ _ hh) ?_
      rintro rfl
      exact hne _ _ hh
  | .cond c a b, e, h, x, e', h', hh => by
    unfold evC at hh
    split at hh
    · rename_i hc; exact .thn hc (evC_sound hC lf a _ _ _ _ _ hh)
    · rename_i hc; exact .els hc (evC_sound hC lf b _ _ _ _ _ hh)
    · cases hh
  | .block id b, e, h, x, e', h', hh => by
    unfold evC at hh
    split at hh
    · rename_i x1 e1 h1 hq
      cases hh
      exact .block (evC_sound hC lf b _ _ _ _ _ hq)
    · cases hh
  | .loop b, e, h, x, e', h', hh => by
    unfold evC at hh
    exact evLoop_sound (fun e h x e' h' hq => evC_sound hC lf b e h x e' h' hq) lf e h x e' h' hh
  | .exit id, e, h, x, e', h', hh => by unfold evC at hh; cases hh; exact .exit
  | .ret, e, h, x, e', h', hh => by unfold evC at hh; cases hh; exact .ret

def evF (fns : Nat → Option BFun) (lf : Nat) : Nat → Nat → List BV → EH → Option (BV × EH)
  | 0, _, _, _ => none
  | d + 1, f, args, h => match fns f with
    | none => none
    | some fn => match EE.args 0 args .lf with
      | none => none
      | some e => match evC (evF fns lf d) lf fn.body e h with
        | some (.normal, e1, h1) => (resOf fn.results (EE.abs e1) h1.abs).map fun v => (v, h1)
        | some (.ret, e1, h1) => (resOf fn.results (EE.abs e1) h1.abs).map fun v => (v, h1)
        | _ => none
theorem evF_sound {Γ : Ctx} (hb : Γ.base = 0) (lf : Nat) : ∀ (d : Nat) (f : Nat) (args : List BV) (h : EH) (v : BV) (h' : EH), evF Γ.fn lf d f args h = some (v, h') → CallN Γ d f args h.abs v h'.abs
  | 0, f, args, h, v, h', hh => by cases hh
  | d + 1, f, args, h, v, h', hh => by
    unfold evF at hh
    split at hh
    · cases hh
    · rename_i fn hf
      split at hh
      · cases hh
      · rename_i e he
        split at hh
        · rename_i e1 h1 hq
          simp only [Option.map_eq_some_iff, Prod.mk.injEq] at hh
          obtain ⟨u, hu, rfl, rfl⟩ := hh
          have := evC_sound (C := CallN Γ d) (evF_sound hb lf d) lf _ _ _ _ _ _ hq
          rw [EE.args_env he] at this
          exact .inl ⟨fn, hf, .normal, EE.abs e1, by rw [hb]; exact this, .inl rfl, hu⟩
        · rename_i e1 h1 hq
          simp only [Option.map_eq_some_iff, Prod.mk.injEq] at hh
          obtain ⟨u, hu, rfl, rfl⟩ := hh
          have := evC_sound (C := CallN Γ d) (evF_sound hb lf d) lf _ _ _ _ _ _ hq
          rw [EE.args_env he] at this
          exact .inl ⟨fn, hf, .ret, EE.abs e1, by rw [hb]; exact this, .inr rfl, hu⟩
        · cases hh

/-- Nothing is known of the world. -/
def EH.none : EH := ⟨.lf, 0⟩
def Tie.none : Tie := fun _ => Option.none
theorem HR.none (P : Program) (w : World) : HR P 0 w Tie.none EH.none.abs w where
  row := fun b => rfl
  inj := fun b c r s hb _ _ _ _ => by cases hb
  ext := World.Extends.refl w
theorem runs_ev {Γ : Ctx} (hb : Γ.base = 0) {lf d f : Nat} {args : List BV} {b : Bool} (h : (evF Γ.fn lf d f args EH.none).map (fun r => match r.1 with | .bool c => c == b | _ => false) = some true) :
    ∃ H', Runs Γ f args EH.none.abs (.bool b) H' := by
  cases he : evF Γ.fn lf d f args EH.none with
  | none => rw [he] at h; cases h
  | some r =>
    obtain ⟨v, h'⟩ := r
    rw [he] at h
    simp only [Option.map_some, Option.some.injEq] at h
    cases v with
    | bool c =>
      have hcb : c = b := by simpa using h
      subst hcb
      exact ⟨h'.abs, d, evF_sound hb lf d f args EH.none _ h' he⟩
    | _ => cases h
end Go.B
