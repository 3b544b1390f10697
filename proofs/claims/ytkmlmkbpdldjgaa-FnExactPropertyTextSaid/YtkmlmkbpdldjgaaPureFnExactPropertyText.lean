/-
PropertyText of the program returns what the reference's returns, for every number of 64 bits.
Conditions: none.
-/
import Derived.Test.YtkmlmkbpdldjgaaPFnExactPropertyTextx1
namespace Go.Proofs.Ytkmlmkbpdldjgaa.Pure
open Go.RowKit Go.Proofs.Ytkmlmkbpdldjgaa.PFnExactPropertyText Go.Proofs.YtkmlmkbpdldjgaaW.PrintWords Go.Proofs.YtkmlmkbpdldjgaaW.PrintLast

theorem FnExactPropertyText : laws_FnExactPropertyText.Pure := by
  intro a0 _
  by_cases h : 1 ≤ a0 ∧ a0 ≤ 10
  · obtain ⟨h1, h2⟩ := h
    have h3 : a0 = 1 ∨ a0 = 2 ∨ a0 = 3 ∨ a0 = 4 ∨ a0 = 5 ∨ a0 = 6 ∨ a0 = 7 ∨ a0 = 8 ∨ a0 = 9 ∨ a0 = 10 := by omega
    have e : spec_PropertyText.f a0 = impl_PropertyText.f a0 ∧ ∃ r, impl_PropertyText.f a0 = some r := by
      have hs : spec_PropertyText.f a0 = impl_PropertyText.f a0 ∧ (impl_PropertyText.f a0).isSome = true := by
        rcases h3 with h | h | h | h | h | h | h | h | h | h <;> subst h <;> exact ⟨by simp [spec_PropertyText.f, impl_PropertyText.f, spec_l00In.f, impl_within.f, wrap64, rdOf], by simp [impl_PropertyText.f, impl_within.f, wrap64]⟩
      exact ⟨hs.1, Option.isSome_iff_exists.1 hs.2⟩
    obtain ⟨e, r, er⟩ := e
    unfold laws_FnExactPropertyText.f
    rw [e, er]; simp
  · unfold laws_FnExactPropertyText.f
    have e1 : spec_PropertyText.f a0 = some (⟨#[]⟩ : ByteArray) := by
      unfold spec_PropertyText.f
      simp only [Option.bind_some]
      have : spec_l00In.f a0 1 (wrap64 (((([(⟨#[]⟩ : ByteArray), (⟨#[33, 82, 48, 40, 120, 120, 41]⟩ : ByteArray), (⟨#[40, 82, 48, 40, 120, 121, 41, 38, 33, 82, 48, 40, 121, 120, 41, 41]⟩ : ByteArray), (⟨#[40, 40, 82, 48, 40, 120, 121, 41, 38, 82, 48, 40, 121, 122, 41, 41, 38, 33, 82, 48, 40, 120, 122, 41, 41]⟩ : ByteArray), (⟨#[40, 40, 82, 48, 40, 120, 121, 41, 38, 82, 48, 40, 121, 120, 41, 41, 38, 33, 120, 61, 121, 41]⟩ : ByteArray), (⟨#[82, 48, 40, 120, 120, 41]⟩ : ByteArray), (⟨#[40, 40, 33, 82, 48, 40, 120, 121, 41, 38, 33, 82, 48, 40, 121, 120, 41, 41, 38, 33, 120, 61, 121, 41]⟩ : ByteArray), (⟨#[40, 40, 82, 48, 40, 120, 121, 41, 38, 82, 48, 40, 120, 122, 41, 41, 38, 33, 121, 61, 122, 41]⟩ : ByteArray), (⟨#[33, 69, 121, 82, 48, 40, 120, 121, 41]⟩ : ByteArray), (⟨#[33, 69, 121, 82, 48, 40, 121, 120, 41]⟩ : ByteArray), (⟨#[40, 40, 82, 48, 40, 120, 122, 41, 38, 82, 48, 40, 121, 122, 41, 41, 38, 33, 120, 61, 121, 41]⟩ : ByteArray)] : List ByteArray) : List ByteArray).length : Int) - 1)) = some false := by
        unfold spec_l00In.f
        have e : wrap64 ((11 : Int) - 1) = 10 := by simp [wrap64]
        simp only [List.length_cons, List.length_nil]
        show (if a0 ≥ 1 then some (decide (a0 ≤ wrap64 (11 - 1))) else some false) = some false
        rw [e]
        by_cases g : a0 ≥ 1
        · rw [if_pos g]; congr 1; exact decide_eq_false (by omega)
        · rw [if_neg g]
      rw [this]
      simp
    have e2 : impl_PropertyText.f a0 = some (⟨#[]⟩ : ByteArray) := by
      unfold impl_PropertyText.f
      simp only [Option.bind_some]
      have : impl_within.f a0 1 10 = some false := by
        unfold impl_within.f
        by_cases g : 1 ≤ a0
        · rw [if_pos g]; congr 1; exact decide_eq_false (by omega)
        · rw [if_neg g]
      rw [this]
      simp
    rw [e1, e2]; simp

end Go.Proofs.Ytkmlmkbpdldjgaa.Pure
