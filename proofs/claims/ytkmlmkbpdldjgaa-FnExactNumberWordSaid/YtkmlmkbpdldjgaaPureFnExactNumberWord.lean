/-
NumberWord of the program returns what the reference's returns, for every number of 64 bits.
Conditions: none.
-/
import Derived.Test.YtkmlmkbpdldjgaaPFnExactNumberWordx1
namespace Go.Proofs.Ytkmlmkbpdldjgaa.Pure
open Go.RowKit Go.Proofs.Ytkmlmkbpdldjgaa.PFnExactNumberWord Go.Proofs.YtkmlmkbpdldjgaaW.PrintWords Go.Proofs.YtkmlmkbpdldjgaaW.PrintLast

/-- The digits of a number as letters, the lowest first; d is how many are made at most. -/
def letters : Nat → Int → List Int
  | 0, _ => []
  | d + 1, n => if n > 0 then (97 + n % 2) :: letters d (n / 2) else []

theorem half_wrap {n : Int} (h0 : 0 ≤ n) (h1 : n ≤ 1000000000) : wrap64 (Int.tdiv n 2) = n / 2 := by
  rw [Int.tdiv_eq_ediv_of_nonneg h0]; unfold wrap64; omega
theorem mod_wrap {n : Int} (h0 : 0 ≤ n) : Int.tmod n 2 = n % 2 := Int.tmod_eq_emod_of_nonneg h0

theorem spec_tells (d : Nat) : ∀ (k : Nat) (n : Int) (xs : List Int), 0 ≤ n → n ≤ 1000000000 → n < 2 ^ d → d < k → xs.length + d < 100 →
    spec_l05Word.l0 k n xs = some (strOfNums (xs ++ letters d n)) := by
  induction d with
  | zero =>
    intro k n xs h0 h1 h2 hk hl
    obtain ⟨k, rfl⟩ : ∃ m, k = m + 1 := ⟨k - 1, by omega⟩
    have : n = 0 := by simp at h2; omega
    subst this
    simp only [spec_l05Word.l0]; rw [if_neg (by omega)]; simp [letters]
  | succ d ih =>
    intro k n xs h0 h1 h2 hk hl
    obtain ⟨k, rfl⟩ : ∃ m, k = m + 1 := ⟨k - 1, by omega⟩
    by_cases hn : n > 0
    · simp only [spec_l05Word.l0]
      rw [if_pos hn, if_pos (by omega), half_wrap h0 h1, mod_wrap h0]
      have hh : n / 2 < 2 ^ d := by rw [Int.pow_succ] at h2; omega
      rw [ih k (n / 2) _ (by omega) (by omega) hh (by omega) (by simp; omega)]
      have e : wrap64 (97 + n % 2) % 256 = 97 + n % 2 := by unfold wrap64; omega
      rw [e]; simp only [letters]; rw [if_pos hn]; simp
    · simp only [spec_l05Word.l0]; rw [if_neg hn]; simp only [letters]; rw [if_neg hn]; simp

theorem str_append (xs ys : List Int) : strOfNums xs ++ strOfNums ys = strOfNums (xs ++ ys) := by
  apply ByteArray.ext
  simp [strOfNums]

theorem letter_of (n : Int) : (⟨#[97, 98]⟩ : ByteArray).extract (n % 2).toNat (n % 2 + 1).toNat = strOfNums [97 + n % 2] := by
  have h : n % 2 = 0 ∨ n % 2 = 1 := by omega
  rcases h with h | h <;> rw [h] <;> decide

theorem impl_tells (d : Nat) : ∀ (k : Nat) (n : Int) (xs : List Int), 0 ≤ n → n ≤ 1000000000 → n < 2 ^ d → d < k → xs.length + d < 100 →
    impl_numberWord.l0 k n (strOfNums xs) = some (strOfNums (xs ++ letters d n)) := by
  induction d with
  | zero =>
    intro k n xs h0 h1 h2 hk hl
    obtain ⟨k, rfl⟩ : ∃ m, k = m + 1 := ⟨k - 1, by omega⟩
    have : n = 0 := by simp at h2; omega
    subst this
    simp only [impl_numberWord.l0]; rw [if_neg (by omega)]; simp [letters]
  | succ d ih =>
    intro k n xs h0 h1 h2 hk hl
    obtain ⟨k, rfl⟩ : ∃ m, k = m + 1 := ⟨k - 1, by omega⟩
    by_cases hn : n > 0
    · simp only [impl_numberWord.l0]
      have e : wrap64 (n % 2 + 1) = n % 2 + 1 := by unfold wrap64; omega
      rw [if_pos hn, mod_wrap h0, e, half_wrap h0 h1, letter_of n, str_append]
      have hs : (strOfNums xs).size + (strOfNums [97 + n % 2]).size ≤ 9223372036854775807 := by
        have e1 : (strOfNums xs).size = xs.length := by simp [strOfNums, ByteArray.size]
        have e2 : (strOfNums [97 + n % 2]).size = 1 := by simp [strOfNums, ByteArray.size]
        omega
      rw [if_pos (by omega), if_pos (by omega), if_pos (by omega), if_pos hs]
      have hh : n / 2 < 2 ^ d := by rw [Int.pow_succ] at h2; omega
      rw [ih k (n / 2) _ (by omega) (by omega) hh (by omega) (by simp; omega)]
      simp only [letters]; rw [if_pos hn]; simp
    · simp only [impl_numberWord.l0]; rw [if_neg hn]; simp only [letters]; rw [if_neg hn]; simp

theorem FnExactNumberWord : laws_FnExactNumberWord.Pure := by
  intro a0 _
  refine ⟨40, ?_⟩
  unfold laws_FnExactNumberWord.f
  by_cases h : 0 ≤ a0 ∧ a0 ≤ 1000000000
  · obtain ⟨h0, h1⟩ := h
    have es : spec_l05Word.f 40 a0 = some (strOfNums (letters 31 a0)) := by
      unfold spec_l05Word.f
      rw [spec_tells 31 40 a0 [] h0 h1 (by omega) (by omega) (by simp)]; simp
    have ei : impl_numberWord.f 40 a0 = some (strOfNums (letters 31 a0)) := by
      unfold impl_numberWord.f
      have := impl_tells 31 40 a0 [] h0 h1 (by omega) (by omega) (by simp)
      rw [List.nil_append] at this
      exact this
    have e1 : spec_NumberWord.f 40 a0 = some (strOfNums (letters 31 a0), 0) := by
      unfold spec_NumberWord.f spec_l00In.f
      rw [if_pos (by omega)]; simp only [Option.bind_some]
      rw [if_pos (decide_eq_true h1), es]; rfl
    have e2 : impl_NumberWord.f 40 a0 = some (strOfNums (letters 31 a0), 0) := by
      unfold impl_NumberWord.f impl_isNumber.f impl_within.f
      rw [if_pos (by omega)]; simp only [Option.bind_some]
      rw [if_pos (decide_eq_true h1), ei]; rfl
    rw [e1, e2]; simp
  · have e1 : spec_NumberWord.f 40 a0 = some ((⟨#[]⟩ : ByteArray), 2) := by
      unfold spec_NumberWord.f spec_l00In.f
      by_cases g : a0 ≥ 0
      · rw [if_pos g]; simp only [Option.bind_some]
        rw [if_neg (by simp; omega)]
      · rw [if_neg g]; simp
    have e2 : impl_NumberWord.f 40 a0 = some ((⟨#[]⟩ : ByteArray), 2) := by
      unfold impl_NumberWord.f impl_isNumber.f impl_within.f
      by_cases g : 0 ≤ a0
      · rw [if_pos g]; simp only [Option.bind_some]
        rw [if_neg (by simp; omega)]
      · rw [if_neg g]; simp
    rw [e1, e2]; simp

end Go.Proofs.Ytkmlmkbpdldjgaa.Pure
