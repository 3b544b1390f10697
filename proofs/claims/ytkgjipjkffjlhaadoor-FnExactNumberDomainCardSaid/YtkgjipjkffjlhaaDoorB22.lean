/-
More working rules: appending as a named step, rows of one's own.
-/
import Derived.Test.YtkgjipjkffjlhaaDoorB21
namespace Go.B
set_option linter.unusedVariables false
section
variable {base : Nat}
def BH.appd (base nb : Nat) (H : BH) (ty sz bytes : Nat) (vx vy : BV) : Option (BV × BH) := op1 base nb (fun o => match o with | .t 0 => vx | _ => vy) H (.app ty sz bytes (.t 0) (.t 1))
theorem op1_app {nb : Nat} {σ : Opd → BV} {H : BH} {ty sz bytes : Nat} {x y : Opd} : op1 base nb σ H (.app ty sz bytes x y) = H.appd base nb ty sz bytes (σ x) (σ y) := rfl
theorem appd_own {H K : BH} {ty sz bytes nb : Nat} {vx vy : BV} {xs new : List (List BV)} {bo : Option Nat} (hk : H.Keeps K) (hb : Fr H bo) (own : OwnN base K ty sz vx xs bo) (hc : K.cells sz vy = some new.flatten)
    (hl : ∀ z ∈ new, z.length = sz) (h1 : ∀ z ∈ new, ∀ c ∈ z, c.one = true) (hsz : 0 < sz) (hsm : (xs.length + new.length) * sz ≤ 35184372088832) (hsm2 : (xs.length + new.length) * bytes ≤ 35184372088832)
    (hn : K.row nb = .fresh) (hnb : base ≤ nb) :
    ∃ v' K' bo', K.appd base nb ty sz bytes vx vy = some (v', K') ∧ OwnN base K' ty sz v' (xs ++ new) bo' ∧ H.Keeps K' ∧ Fr H bo' ∧ (∀ c, bo ≠ some c → K.row c ≠ .fresh → K'.row c = K.row c) ∧ (∀ c, bo' = some c → K.row c = .fresh) :=
  app_own (σ := fun o => match o with | .t 0 => vx | _ => vy) (x := .t 0) (y := .t 1) hk hb own hc hl h1 hsz hsm hsm2 hn hnb
theorem mk_cells {K : BH} {n1 ty sz n : Nat} {cs : List BV} (h : cs.length = n * sz) : (K.set n1 (.arr ty cs)).cells sz (.sl n1 0 n) = some cs := by
  simp only [BH.cells, BH.row_set_eq, Nat.zero_add, ← h, Nat.le_refl, if_true, List.drop_zero, List.take_length]
theorem ne_row {K : BH} {ty ty' sz c : Nat} {v : BV} {xs : List (List BV)} {bo : Option Nat} {cs : List BV} (own : OwnN base K ty sz v xs bo) (h : K.row c = .arr ty' cs) (hn : ty ≠ ty') : bo ≠ some c := by
  intro e
  have := own.live e
  rw [h] at this
  cases this
  exact hn rfl
theorem ne_fresh {K : BH} {ty sz c : Nat} {v : BV} {xs : List (List BV)} {bo : Option Nat} (own : OwnN base K ty sz v xs bo) (h : K.row c = .fresh) : bo ≠ some c := by
  intro e
  have := own.live e
  rw [h] at this
  cases this
end
end Go.B
