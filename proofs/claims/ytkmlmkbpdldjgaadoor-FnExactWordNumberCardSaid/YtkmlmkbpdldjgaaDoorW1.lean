/-
Words and their numbers: what the small functions do.
-/
import Derived.Test.YtkmlmkbpdldjgaaDoorIr
import Derived.Test.YtkmlmkbpdldjgaaDoorB22
import Derived.Laws.Strings
namespace Go.Proofs.YtkmlmkbpdldjgaaDoor.W
set_option linter.unusedVariables false
set_option linter.unusedSimpArgs false
open Go.B
theorem gam_base {base : Nat} : (gam base).base = base := rfl
variable {base : Nat}
attribute [local simp] wpC_skip wpC_region wpC_seq wpC_true wpC_false wpC_block wpC_exit wpC_ret wpO_nil wpO_n wpO_tt wpO_ff wpO_tf wpO_ft wpO_u wpS_mov wpS_pick wpS_build wpS_load wpS_store wpS_nilck wpS_bin wpS_beq wpS_isnil wpS_eqs wpS_not wpS_neg wpS_conv wpS_lea wpS_fld wpS_idx wpS_idxs wpS_slice wpS_sslice wpS_mkfn wpS_mset wpS_look wpS_ext wpS_len wpS_new wpS_box wpS_mk wpS_mkmap wpS_mksl wpS_app wpS_fn wpS_call after_some Post.then Post.inBlock BExit.outOf puto_some puto_none put_eq put_ne Opd.ev argEnv op1_mov op1_pick op1_new op1_box op1_load op1_nilck op1_bin op1_beq op1_not op1_neg op1_conv op1_lea op1_fld op1_len0 op1_len1 op1_idx op1_ext op1_build op1_mk op1_stw op1_mksl op1_eqs pureBin isShift resOf resVals val_tmp val_cell oneOf one_int cells_int one_bool cells_bool one_str cells_str one_nilp cells_nilp one_ptr cells_ptr one_nils cells_nils one_sl cells_sl one_sle cells_sle one_nilm cells_nilm one_mp cells_mp one_nilf cells_nilf one_fn cells_fn one_nili cells_nili cells_agg isSl_sl slen_sl sat_sl make_of asm rtOk wpS_b2s op1_b2s op1_isnil Option.map_some gam_base op1_app op1_idxs wpS_idxa op1_idxa op1_sslice bound_none bound_some nat_of

def abAt (w : ByteArray) (i : Nat) : Bool := match w[i]? with | some b => b.toNat == 97 || b.toNat == 98 | none => false
def pre (w : ByteArray) (n : Nat) : Bool := (List.range n).all (abAt w)
theorem pre_zero (w : ByteArray) : pre w 0 = true := rfl
theorem pre_succ (w : ByteArray) (n : Nat) : pre w (n + 1) = (pre w n && abAt w n) := by simp [pre, List.range_succ]
theorem pre_at {w : ByteArray} {n i : Nat} (h : pre w n = true) (hi : i < n) : abAt w i = true := by
  simp only [pre, List.all_eq_true] at h
  exact h i (by simpa using hi)
theorem pre_not {w : ByteArray} {n i : Nat} (h : abAt w i = false) (hi : i < n) : pre w n = false := by
  cases q : pre w n
  · rfl
  · rw [pre_at q hi] at h; cases h

theorem c6 (w : ByteArray) (H : BH) (hs : w.size ≤ 1048576) : Runs (gam base) 6 [.str w] H (.bool (pre w w.size && decide (w.size ≤ 40))) H := by
  refine runs_of (fn := ir6) rfl ?_
  simp [ir6]
  refine wpC_count w.size (fun i e K => e 0 = .str w ∧ e 3 = .int .i64 i ∧ K = H ∧ pre w i = true) (i0 := 0) ?_ (Nat.zero_le _) ?_
  · exact ⟨rfl, rfl, rfl, rfl⟩
  · rintro i e K hi ⟨e0, e3, rfl, hp⟩
    by_cases hlt : i < w.size
    · have hb : w[i]? = some w[i] := getElem?_pos w i hlt
      have w1 : IntKind.i64.wrap ((i : Int) + 1) = (i : Int) + 1 := w64 (by omega) (by omega)
      have hat : abAt w i = (w[i].toNat == 97 || w[i].toNat == 98) := by simp only [abAt, hb]
      by_cases q1 : (w[i].toNat : Int) = 97
      · simp [e0, e3, hlt, q1, w1]
        rw [pre_succ, hp, hat, show w[i].toNat = 97 by omega]; rfl
      · by_cases q2 : (w[i].toNat : Int) = 98
        · have q1' : ((w[i].toNat : Int) != 97) = true := by simpa using q1
          simp [e0, e3, hlt, q1', q2, w1]
          rw [pre_succ, hp, hat, show w[i].toNat = 98 by omega]; rfl
        · have hn : pre w w.size = false := pre_not (i := i) (by rw [hat]; simp; omega) hlt
          have q1' : ((w[i].toNat : Int) != 97) = true := by simpa using q1
          have q2' : ((w[i].toNat : Int) != 98) = true := by simpa using q2
          simp [e0, e3, hlt, q1', q2', hn]
    · have : i = w.size := by omega
      subst this
      simp [e0, e3, hp]
      omega

/-- The number of the last k letters. -/
def numEnd (w : ByteArray) : Nat → Nat
  | 0 => 0
  | k + 1 => 2 * numEnd w k + (match w[w.size - 1 - k]? with | some b => b.toNat - 97 | none => 0)
theorem numEnd_lt {w : ByteArray} (hp : pre w w.size = true) : ∀ k, k ≤ w.size → numEnd w k < 2 ^ k
  | 0, _ => by simp [numEnd]
  | k + 1, h => by
    have ih := numEnd_lt hp k (by omega)
    have ha := pre_at hp (i := w.size - 1 - k) (by omega)
    have hb : w[w.size - 1 - k]? = some (w[w.size - 1 - k]'(by omega)) := getElem?_pos _ _ _
    generalize w[w.size - 1 - k]'(by omega) = b at hb
    simp only [abAt, hb, Bool.or_eq_true, beq_iff_eq] at ha
    simp only [numEnd, hb, Nat.pow_succ]
    have hh : b.toNat - 97 ≤ 1 := by rcases ha with h | h <;> omega
    omega

theorem c7 (w : ByteArray) (H : BH) (hp : pre w w.size = true) (hs : w.size ≤ 40) : Runs (gam base) 7 [.str w] H (.int .i64 (numEnd w w.size)) H := by
  refine runs_of (fn := ir7) rfl ?_
  have w0 : IntKind.i64.wrap ((w.size : Int) - 1) = (w.size : Int) - 1 := w64 (by omega) (by omega)
  simp [ir7, w0]
  refine wpC_count w.size (fun i e K => e 0 = .str w ∧ e 4 = .int .i64 ((w.size : Int) - 1 - i) ∧ e 3 = .int .i64 (numEnd w i) ∧ K = H) (i0 := 0) ?_ (Nat.zero_le _) ?_
  · exact ⟨rfl, by simp, rfl, rfl⟩
  · rintro i e K hi ⟨e0, e4, e3, rfl⟩
    by_cases hlt : i < w.size
    · have hj : (w.size : Int) - 1 - i = ((w.size - 1 - i : Nat) : Int) := by omega
      rw [hj] at e4
      have hlt' : w.size - 1 - i < w.size := by omega
      have hb : w[w.size - 1 - i]? = some w[w.size - 1 - i] := getElem?_pos w _ hlt'
      have ha := pre_at hp hlt'
      have hl := numEnd_lt hp (i + 1) (by omega)
      have hle : 2 ^ (i + 1) ≤ 2 ^ 40 := Nat.pow_le_pow_right (by omega) (by omega)
      have hn : numEnd w (i + 1) = 2 * numEnd w i + (w[w.size - 1 - i].toNat - 97) := by simp only [numEnd, hb]
      simp only [abAt, hb, Bool.or_eq_true, beq_iff_eq] at ha
      have w1 : IntKind.i64.wrap (((w.size - 1 - i : Nat) : Int) - 1) = ((w.size - 1 - i : Nat) : Int) - 1 := w64 (by omega) (by omega)
      have w2 : IntKind.i64.wrap (2 * (numEnd w i : Int)) = 2 * (numEnd w i : Int) := w64 (by omega) (by omega)
      have w4 : IntKind.i64.wrap (IntKind.u8.wrap ((w[w.size - 1 - i].toNat : Int) - 97)) = ((w[w.size - 1 - i].toNat - 97 : Nat) : Int) := by rcases ha with h | h <;> rw [h] <;> decide
      have w3 : IntKind.i64.wrap (2 * (numEnd w i : Int) + ((w[w.size - 1 - i].toNat - 97 : Nat) : Int)) = 2 * (numEnd w i : Int) + ((w[w.size - 1 - i].toNat - 97 : Nat) : Int) := w64 (by omega) (by omega)
      simp [e0, e4, e3, hlt', w1, w2, w3, w4, hlt]
      omega
    · have : i = w.size := by omega
      subst this
      have hj : ((w.size : Int) - 1 - w.size) = -1 := by omega
      rw [hj] at e4
      simp [e0, e4, e3]

theorem c10 (w : ByteArray) (H : BH) (hp : pre w w.size = true) (hs : w.size ≤ 40) : Runs (gam base) 10 [.str w] H (.int .i64 (numEnd w w.size)) H := by
  refine runs_of (fn := ir10) rfl ?_
  have w0 : IntKind.i64.wrap ((w.size : Int) - 1) = (w.size : Int) - 1 := w64 (by omega) (by omega)
  simp [ir10, w0]
  refine wpC_count w.size (fun i e K => e 0 = .str w ∧ e 4 = .int .i64 ((w.size : Int) - 1 - i) ∧ e 3 = .int .i64 (numEnd w i) ∧ K = H) (i0 := 0) ?_ (Nat.zero_le _) ?_
  · exact ⟨rfl, by simp, rfl, rfl⟩
  · rintro i e K hi ⟨e0, e4, e3, rfl⟩
    by_cases hlt : i < w.size
    · have hj : (w.size : Int) - 1 - i = ((w.size - 1 - i : Nat) : Int) := by omega
      rw [hj] at e4
      have hlt' : w.size - 1 - i < w.size := by omega
      have hb : w[w.size - 1 - i]? = some w[w.size - 1 - i] := getElem?_pos w _ hlt'
      have ha := pre_at hp hlt'
      have hl := numEnd_lt hp (i + 1) (by omega)
      have hle : 2 ^ (i + 1) ≤ 2 ^ 40 := Nat.pow_le_pow_right (by omega) (by omega)
      have hn : numEnd w (i + 1) = 2 * numEnd w i + (w[w.size - 1 - i].toNat - 97) := by simp only [numEnd, hb]
      simp only [abAt, hb, Bool.or_eq_true, beq_iff_eq] at ha
      have w1 : IntKind.i64.wrap (((w.size - 1 - i : Nat) : Int) - 1) = ((w.size - 1 - i : Nat) : Int) - 1 := w64 (by omega) (by omega)
      have w2 : IntKind.i64.wrap (2 * (numEnd w i : Int)) = 2 * (numEnd w i : Int) := w64 (by omega) (by omega)
      have w4 : IntKind.i64.wrap (IntKind.u8.wrap ((w[w.size - 1 - i].toNat : Int) - 97)) = ((w[w.size - 1 - i].toNat - 97 : Nat) : Int) := by rcases ha with h | h <;> rw [h] <;> decide
      have w3 : IntKind.i64.wrap (2 * (numEnd w i : Int) + ((w[w.size - 1 - i].toNat - 97 : Nat) : Int)) = 2 * (numEnd w i : Int) + ((w[w.size - 1 - i].toNat - 97 : Nat) : Int) := w64 (by omega) (by omega)
      simp [e0, e4, e3, hlt', w1, w2, w3, w4, hlt]
      omega
    · have : i = w.size := by omega
      subst this
      have hj : ((w.size : Int) - 1 - w.size) = -1 := by omega
      rw [hj] at e4
      simp [e0, e4, e3]

theorem c14 (a lo hi : Int) (H : BH) : Runs (gam base) 14 [.int .i64 a, .int .i64 lo, .int .i64 hi] H (.bool (decide (lo ≤ a) && decide (a ≤ hi))) H := by
  refine runs_of (fn := ir14) rfl ?_
  by_cases h : lo ≤ a <;> simp [ir14, h]
theorem c11 (a : Int) (H : BH) : Runs (gam base) 11 [.int .i64 a] H (.bool (decide (0 ≤ a) && decide (a ≤ 1000000000))) H := by
  refine runs_of (fn := ir11) rfl ?_
  simp [ir11]
  exact ⟨_, H, c14 a 0 1000000000 H, BH.KeepsTys.nil _ _, by simp⟩

/-- The last letter is an a. -/
def endA (w : ByteArray) : Bool := decide (0 < w.size) && (match w[w.size - 1]? with | some b => b.toNat == 97 | none => false)

theorem last_one (w : ByteArray) (h : 0 < w.size) : ((w.extract (w.size - 1) w.size).toList == [97]) = endA w := by
  have hb : w[w.size - 1]? = some w[w.size - 1] := getElem?_pos w _ (by omega)
  have he : (w.extract (w.size - 1) w.size).data = #[w[w.size - 1]] := by
    rw [ByteArray.data_extract]
    refine Array.ext ?_ fun i h1 h2 => ?_
    · have : w.data.size = w.size := rfl
      simp only [Array.size_extract, this]
      show min w.size w.size - (w.size - 1) = 1
      omega
    · have h2' : i < 1 := h2
      obtain rfl : i = 0 := by omega
      simp [Array.getElem_extract]
      rfl
  rw [ByteArray.toList_eq, he]
  simp only [endA, h, decide_true, Bool.true_and, hb]
  generalize w[w.size - 1] = b
  by_cases q : b = 97
  · subst q; rfl
  · have : b.toNat ≠ 97 := fun e => q (UInt8.toNat_inj.1 (by simpa using e))
    rw [show (b.toNat == 97) = false by simpa using this]
    simpa using q

theorem c13 (w : ByteArray) (H : BH) (hs : w.size ≤ 1048576) : Runs (gam base) 13 [.str w, .str ⟨#[97]⟩] H (.bool (endA w)) H := by
  refine runs_of (fn := ir13) rfl ?_
  have sz1 : (⟨#[97]⟩ : ByteArray).size = 1 := rfl
  have l1 : (⟨#[97]⟩ : ByteArray).toList = [97] := by rw [ByteArray.toList_eq]
  by_cases h : 0 < w.size
  · have h1 : (1 : Int) ≤ w.size := by omega
    have w1 : IntKind.i64.wrap ((w.size : Int) - 1) = ((w.size - 1 : Nat) : Int) := by rw [w64 (by omega) (by omega)]; omega
    simp [ir13, sz1, h1, w1, l1]
    exact last_one w h
  · have h1 : ¬ (1 : Int) ≤ w.size := by omega
    have h2 : endA w = false := by simp [endA, h]
    simp [ir13, sz1, h1, h2]
theorem c9 (w : ByteArray) (H : BH) (hs : w.size ≤ 1048576) : Runs (gam base) 9 [.str w, .str ⟨#[97]⟩] H (.bool (endA w)) H := by
  refine runs_of (fn := ir9) rfl ?_
  simp [ir9]
  exact ⟨_, H, c13 w H hs, BH.KeepsTys.nil _ _, by simp⟩
end Go.Proofs.YtkmlmkbpdldjgaaDoor.W
