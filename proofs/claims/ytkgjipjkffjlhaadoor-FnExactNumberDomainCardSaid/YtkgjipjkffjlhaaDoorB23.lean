/-
The machine B as a program: what it comes to can be reckoned out. For calls without arguments that lead into the world.
-/
import Derived.Test.YtkgjipjkffjlhaaDoorB22
namespace Go.B
set_option linter.unusedVariables false
set_option linter.unusedSimpArgs false

/-- Tables over numbers. -/
inductive Tr (α : Type) where
  | lf
  | nd (v : Option α) (l r : Tr α)
namespace Tr
variable {α : Type}
def get : Tr α → Nat → Option α
  | .lf, _ => none
  | .nd v l r, k => if k = 0 then v else if k % 2 = 1 then l.get (k / 2) else r.get (k / 2 - 1)
def put : Nat → Tr α → Nat → α → Tr α
  | 0, t, _, _ => t
  | f + 1, .lf, k, x => if k = 0 then .nd (some x) .lf .lf else if k % 2 = 1 then .nd none (put f .lf (k / 2) x) .lf else .nd none .lf (put f .lf (k / 2 - 1) x)
  | f + 1, .nd v l r, k, x => if k = 0 then .nd (some x) l r else if k % 2 = 1 then .nd v (put f l (k / 2) x) r else .nd v l (put f r (k / 2 - 1) x)
theorem get_e (k : Nat) : (Tr.lf : Tr α).get k = none := rfl
theorem get_put : ∀ (f : Nat) (t : Tr α) (k : Nat) (x : α) (j : Nat), k + 1 < 2 ^ f → (put f t k x).get j = if j = k then some x else t.get j
  | 0, t, k, x, j, h => by simp at h
  | f + 1, t, k, x, j, h => by
    have h2 : 2 ^ (f + 1) = 2 * 2 ^ f := by rw [Nat.pow_succ]; omega
    cases t with
    | lf =>
      unfold put
      by_cases h0 : k = 0
      · subst h0
        rw [if_pos rfl]
        simp only [get]
        split <;> simp
      · rw [if_neg h0]
        by_cases h1 : k % 2 = 1
        · rw [if_pos h1]
          simp only [get]
          by_cases j0 : j = 0
          · rw [if_pos j0, if_neg (by omega)]
          · rw [if_neg j0]
            by_cases j1 : j % 2 = 1
            · rw [if_pos j1, get_put f _ _ _ _ (by omega)]
              by_cases e : j = k
              · subst e; rw [if_pos rfl, if_pos rfl]
              · rw [if_neg (by omega), if_neg e]; rfl
            · rw [if_neg j1, if_neg (by omega)]
        · rw [if_neg h1]
          simp only [get]
          by_cases j0 : j = 0
          · rw [if_pos j0, if_neg (by omega)]
          · rw [if_neg j0]
            by_cases j1 : j % 2 = 1
            · rw [if_pos j1, if_neg (by omega)]
            · rw [if_neg j1, get_put f _ _ _ _ (by omega)]
              by_cases e : j = k
              · subst e; rw [if_pos rfl, if_pos rfl]
              · rw [if_neg (by omega), if_neg e]; rfl
    | nd v l r =>
      unfold put
      by_cases h0 : k = 0
      · subst h0
        rw [if_pos rfl]
        simp only [get]
        split <;> simp_all
      · rw [if_neg h0]
        by_cases h1 : k % 2 = 1
        · rw [if_pos h1]
          simp only [get]
          by_cases j0 : j = 0
          · rw [if_pos j0, if_neg (by omega), if_pos j0]
          · rw [if_neg j0, if_neg j0]
            by_cases j1 : j % 2 = 1
            · rw [if_pos j1, if_pos j1, get_put f _ _ _ _ (by omega)]
              by_cases e : j = k
              · subst e; rw [if_pos rfl, if_pos rfl]
              · rw [if_neg (by omega), if_neg e]
            · rw [if_neg j1, if_neg j1, if_neg (by omega)]
        · rw [if_neg h1]
          simp only [get]
          by_cases j0 : j = 0
          · rw [if_pos j0, if_neg (by omega), if_pos j0]
          · rw [if_neg j0, if_neg j0]
            by_cases j1 : j % 2 = 1
            · rw [if_pos j1, if_pos j1, if_neg (by omega)]
            · rw [if_neg j1, if_neg j1, get_put f _ _ _ _ (by omega)]
              by_cases e : j = k
              · subst e; rw [if_pos rfl, if_pos rfl]
              · rw [if_neg (by omega), if_neg e]
theorem fin : ∀ (t : Tr α), ∃ n, ∀ k, n ≤ k → t.get k = none
  | .lf => ⟨0, fun _ _ => rfl⟩
  | .nd v l r => by
    obtain ⟨a, ha⟩ := fin l
    obtain ⟨b, hb⟩ := fin r
    refine ⟨2 * a + 2 * b + 3, fun k hk => ?_⟩
    simp only [get]
    rw [if_neg (by omega)]
    split
    · exact ha _ (by omega)
    · exact hb _ (by omega)
end Tr

structure EH where
  t : Tr BSt
  nx : Nat
def EH.row (h : EH) (b : Nat) : BSt := (h.t.get b).getD .fresh
def EH.abs (h : EH) : BH where
  row := h.row
  fin := by
    obtain ⟨n, hn⟩ := h.t.fin
    exact ⟨n, fun b hb => by simp [EH.row, hn b hb]⟩
/-- Rows that are laid anew, where there is room in the table. -/
def EH.lay (h : EH) (b : Nat) (s : BSt) : Option EH := if b < 1048575 then some { h with t := h.t.put 20 b s } else none
theorem EH.lay_abs {h h' : EH} {b : Nat} {s : BSt} (e : h.lay b s = some h') : h'.abs = h.abs.set b s := by
  unfold EH.lay at e
  split at e
  · rename_i hb
    cases e
    refine BH.ext fun c => ?_
    show (((h.t.put 20 b s).get c).getD .fresh) = if c = b then s else h.row c
    rw [Tr.get_put _ _ _ _ _ (by omega)]
    split
    · rfl
    · rfl
  · cases e

def EE := Tr BV
def EE.abs (e : Tr BV) : Env := fun k => (e.get k).getD (.tup [])
def EE.put (e : Tr BV) (k : Nat) (v : BV) : Option (Tr BV) := if k < 16383 then some (Tr.put 14 e k v) else none
theorem EE.put_abs {e e' : Tr BV} {k : Nat} {v : BV} (h : EE.put e k v = some e') : EE.abs e' = (EE.abs e).put k v := by
  unfold EE.put at h
  split at h
  · rename_i hk
    cases h
    funext j
    simp only [EE.abs, Env.put]
    rw [Tr.get_put _ _ _ _ _ (by omega)]
    split <;> rfl
  · cases h
def EE.puto (e : Tr BV) (k : Option Nat) (v : BV) : Option (Tr BV) := match k with
  | some k => EE.put e k v
  | none => some e
theorem EE.puto_abs {e e' : Tr BV} {k : Option Nat} {v : BV} (h : EE.puto e k v = some e') : EE.abs e' = (EE.abs e).puto k v := by
  cases k with
  | none => cases h; rfl
  | some k => exact EE.put_abs h
def EE.args : Nat → List BV → Tr BV → Option (Tr BV)
  | _, [], e => some e
  | i, v :: vs, e => match EE.put e i v with
    | some e => EE.args (i + 1) vs e
    | none => none
theorem EE.args_abs : ∀ (vs : List BV) (i : Nat) (e e' : Tr BV), EE.args i vs e = some e' → ∀ k, EE.abs e' k = if i ≤ k then (vs[k - i]?).getD (EE.abs e k) else EE.abs e k
  | [], i, e, e', h, k => by
    cases h
    split <;> simp
  | v :: vs, i, e, e', h, k => by
    unfold EE.args at h
    split at h
    · rename_i e1 h1
      rw [EE.args_abs vs (i + 1) e1 e' h k, EE.put_abs h1]
      simp only [Env.put]
      by_cases hk : k = i
      · subst hk
        rw [if_neg (by omega), if_pos rfl, if_pos (Nat.le_refl k), Nat.sub_self]
        rfl
      · by_cases hlt : i ≤ k
        · rw [if_pos (by omega), if_neg hk, if_pos hlt, show k - i = (k - (i + 1)) + 1 by omega, List.getElem?_cons_succ]
        · rw [if_neg (by omega), if_neg hk, if_neg hlt]
    · cases h
theorem EE.args_env {vs : List BV} {e : Tr BV} (h : EE.args 0 vs .lf = some e) : EE.abs e = argEnv vs := by
  funext k
  rw [EE.args_abs vs 0 .lf e h k, if_pos (Nat.zero_le k), Nat.sub_zero]
  simp only [argEnv, EE.abs, Tr.get_e, Option.getD_none]
  rw [List.getD_eq_getElem?_getD]

/-! ### one operation -/
def BOp.target (ρ : Opd → BV) : BOp → Option Nat
  | .store _ _ a _ => match ρ a with | .ptr b _ => some b | _ => none
  | .mset _ m _ _ => match ρ m with | .mp b => some b | _ => none
  | .app _ _ _ x _ => match ρ x with | .sl b _ _ => some b | _ => none
  | _ => none
def EH.op (h : EH) (ρ : Opd → BV) (op : BOp) : Option (BV × EH) := match op1 0 h.nx ρ h.abs op with
  | none => none
  | some (v, H1) => match op.cls with
    | 0 => some (v, h)
    | 1 => some (v, h)
    | 2 => (h.lay h.nx (H1.row h.nx)).map fun k => (v, { k with nx := h.nx + 1 })
    | 3 => match op with
      | .app _ _ _ _ _ => match op.target ρ with
        | some b => match h.lay b (H1.row b) with
          | some k => (k.lay h.nx (H1.row h.nx)).map fun k => (v, { k with nx := h.nx + 1 })
          | none => none
        | none => match h.row h.nx with
          | .fresh => (h.lay h.nx (H1.row h.nx)).map fun k => (v, { k with nx := h.nx + 1 })
          | _ => none
      | op => match op.target ρ with
        | some b => (h.lay b (H1.row b)).map fun k => (v, k)
        | none => none
    | _ => none
theorem EH.nx_abs (h : EH) (n : Nat) : ({ h with nx := n } : EH).abs = h.abs := rfl
theorem set_self {H : BH} {b : Nat} {s : BSt} : H.set b ((H.set b s).row b) = H.set b s := by rw [BH.row_set_eq]

theorem len_cls (kd : Nat) (x : Opd) : (BOp.len kd x).cls = 0 ∨ (BOp.len kd x).cls = 1 := by
  match kd with
  | 0 => exact .inl rfl
  | 1 => exact .inl rfl
  | 2 => exact .inr rfl
  | n + 3 => exact .inl rfl

theorem EH.op_sound {h h' : EH} {ρ : Opd → BV} {op : BOp} {v : BV} (e : h.op ρ op = some (v, h')) : op1 0 h.nx ρ h.abs op = some (v, h'.abs) := by
  unfold EH.op at e
  split at e
  · cases e
  · rename_i v1 H1 h1
    have pure : op.cls = 0 ∨ op.cls = 1 → H1 = h.abs := by
      rintro (hc | hc)
      · exact (op_pure hc h1).1
      · exact (op_read hc h1).1
    split at e
    · rename_i hc
      cases e
      rw [h1, pure (.inl hc)]
    · rename_i hc
      cases e
      rw [h1, pure (.inr hc)]
    · rename_i hc
      obtain ⟨s, _, _, hs, _⟩ := op_make hc h1
      simp only [Option.map_eq_some_iff, Prod.mk.injEq] at e
      obtain ⟨k, hk, rfl, rfl⟩ := e
      rw [h1, EH.nx_abs, EH.lay_abs hk, hs, set_self]
    · rename_i hc
      cases op
      case store rt n a x =>
        simp only [BOp.target] at e
        split at e
        · rename_i b hb
          split at hb
          · rename_i b' o ha
            cases hb
            simp only [Option.map_eq_some_iff, Prod.mk.injEq] at e
            obtain ⟨k, hk, rfl, rfl⟩ := e
            have hs : ∃ s, H1 = h.abs.set b s := by
              simp only [op1, ha] at h1
              split at h1
              · split at h1
                · cases h1; exact ⟨_, rfl⟩
                · cases h1
              · cases h1
            obtain ⟨s, rfl⟩ := hs
            rw [h1, EH.lay_abs hk, set_self]
          · cases hb
        · cases e
      case mset kd m k x =>
        simp only [BOp.target] at e
        split at e
        · rename_i b hb
          split at hb
          · rename_i b' ha
            cases hb
            simp only [Option.map_eq_some_iff, Prod.mk.injEq] at e
            obtain ⟨k', hk, rfl, rfl⟩ := e
            have hs : ∃ s, H1 = h.abs.set b s := by
              simp only [op1, ha] at h1
              split at h1
              · split at h1
                · simp only [Option.map_eq_some_iff, Prod.mk.injEq] at h1
                  obtain ⟨_, _, _, rfl⟩ := h1
                  exact ⟨_, rfl⟩
                · cases h1
              · cases h1
            obtain ⟨s, rfl⟩ := hs
            rw [h1, EH.lay_abs hk, set_self]
          · cases hb
        · cases e
      case app ty sz bytes x y =>
        simp only [BOp.target] at e
        split at e
        · rename_i b hb
          split at hb
          · rename_i b' o n ha
            cases hb
            split at e
            · rename_i k1 hk1
              simp only [Option.map_eq_some_iff, Prod.mk.injEq] at e
              obtain ⟨k, hk, rfl, rfl⟩ := e
              have hs : b ≠ h.nx ∧ ∃ s, H1 = (h.abs.set h.nx s).set b .dead := by
                simp only [op1] at h1
                cases hcs : h.abs.cells sz (ρ y) with
                | none => rw [ha, hcs] at h1; cases h1
                | some new =>
                  simp only [ha, hcs] at h1
                  split at h1
                  · split at h1
                    · rename_i hcond
                      refine ⟨hcond.2.1, ?_⟩
                      simp only [Option.map_eq_some_iff, Prod.mk.injEq] at h1
                      obtain ⟨K, hK, _, rfl⟩ := h1
                      unfold BH.make at hK
                      split at hK
                      · split at hK
                        · cases hK; exact ⟨_, rfl⟩
                        · cases hK
                      · cases hK
                    · cases h1
                  · cases h1
              obtain ⟨hne, s, rfl⟩ := hs
              rw [h1]
              show _ = some (v1, k.abs)
              rw [EH.lay_abs hk, EH.lay_abs hk1]
              refine congrArg some (Prod.ext rfl (BH.ext fun c => ?_))
              simp only [BH.row_set]
              by_cases c1 : c = b
              · subst c1
                simp only [if_true, if_neg hne]
              · by_cases c2 : c = h.nx
                · subst c2
                  simp only [if_neg c1, if_true]
                · simp only [if_neg c1, if_neg c2]
            · cases e
          · cases hb
        · rename_i hb
          split at e
          · rename_i hfr
            simp only [Option.map_eq_some_iff, Prod.mk.injEq] at e
            obtain ⟨k, hk, rfl, rfl⟩ := e
            have hs : H1 = h.abs ∨ ∃ s, H1 = h.abs.set h.nx s := by
              simp only [op1] at h1
              split at h1
              · split at h1
                · cases h1; exact .inl rfl
                · cases h1
              · split at h1
                · simp only [Option.map_eq_some_iff, Prod.mk.injEq] at h1
                  obtain ⟨K, hK, _, rfl⟩ := h1
                  unfold BH.make at hK
                  split at hK
                  · split at hK
                    · cases hK; exact .inr ⟨_, rfl⟩
                    · cases hK
                  · cases hK
                · cases h1
              · rename_i b1 o1 n1 new hx hcells
                rw [hx] at hb
                cases hb
              · cases h1
            rw [h1]
            show _ = some (v1, k.abs)
            rw [EH.lay_abs hk]
            rcases hs with rfl | ⟨s, rfl⟩
            · refine congrArg some (Prod.ext rfl (BH.ext fun c => ?_))
              rw [BH.row_set]
              split
              · rename_i hc; rw [hc]
              · rfl
            · rw [set_self]
          · cases e
      case len kd x => rcases len_cls kd x with h | h <;> rw [h] at hc <;> cases hc
      all_goals simp [BOp.cls] at hc
    · cases e
end Go.B
