/-
Words and their numbers: the law.
-/
import Derived.Test.YtkmlmkbpdldjgaaDoorW2
namespace Go.Proofs.YtkmlmkbpdldjgaaDoor.W
set_option linter.unusedVariables false
set_option linter.unusedSimpArgs false
open Go.B
variable {base : Nat}
attribute [local simp] wpC_skip wpC_region wpC_seq wpC_true wpC_false wpC_block wpC_exit wpC_ret wpO_nil wpO_n wpO_tt wpO_ff wpO_tf wpO_ft wpO_u wpS_mov wpS_pick wpS_build wpS_load wpS_store wpS_nilck wpS_bin wpS_beq wpS_isnil wpS_eqs wpS_not wpS_neg wpS_conv wpS_lea wpS_fld wpS_idx wpS_idxs wpS_slice wpS_sslice wpS_mkfn wpS_mset wpS_look wpS_ext wpS_len wpS_new wpS_box wpS_mk wpS_mkmap wpS_mksl wpS_app wpS_fn wpS_call after_some Post.then Post.inBlock BExit.outOf puto_some puto_none put_eq put_ne Opd.ev argEnv op1_mov op1_pick op1_new op1_box op1_load op1_nilck op1_bin op1_beq op1_not op1_neg op1_conv op1_lea op1_fld op1_len0 op1_len1 op1_idx op1_ext op1_build op1_mk op1_stw op1_mksl op1_eqs pureBin isShift resOf resVals val_tmp val_cell oneOf one_int cells_int one_bool cells_bool one_str cells_str one_nilp cells_nilp one_ptr cells_ptr one_nils cells_nils one_sl cells_sl one_sle cells_sle one_nilm cells_nilm one_mp cells_mp one_nilf cells_nilf one_fn cells_fn one_nili cells_nili cells_agg isSl_sl slen_sl sat_sl make_of asm rtOk wpS_b2s op1_b2s op1_isnil Option.map_some gam_base op1_app op1_idxs wpS_idxa op1_idxa op1_sslice bound_none bound_some nat_of

theorem listEmpty (w : ByteArray) : w.toList = [] ↔ w.size = 0 := by
  rw [ByteArray.toList_eq]
  constructor
  · intro h
    have : w.data.toList.length = 0 := by rw [h]; rfl
    exact this
  · intro h
    exact List.eq_nil_of_length_eq_zero h
theorem abStr : (⟨#[97, 98]⟩ : ByteArray).toList = [97, 98] := by rw [ByteArray.toList_eq]
theorem noStr : (⟨#[]⟩ : ByteArray).toList = [] := by rw [ByteArray.toList_eq]

theorem trim_all {w : ByteArray} {m k : Nat} (hm : m ≤ w.size) (h1 : ∀ j, m ≤ j → j < w.size → abAt w j = true) (h2 : m = 0 ∨ abAt w (m - 1) = false)
    (hk : k ≤ (w.extract 0 m).size) (h3 : ∀ j, j < k → abAt (w.extract 0 m) j = true) (h4 : k = (w.extract 0 m).size ∨ abAt (w.extract 0 m) k = false) :
    (((w.extract 0 m).extract k (w.extract 0 m).size).toList == []) = pre w w.size := by
  have hsz : (w.extract 0 m).size = m := by rw [ext_size hm]; omega
  rw [hsz] at hk h4 ⊢
  have hat : ∀ j, j < m → abAt (w.extract 0 m) j = abAt w j := fun j hj => by
    simp only [abAt]
    rw [ext_get hm (by omega), Nat.zero_add]
  have hs2 : ((w.extract 0 m).extract k m).size = m - k := by rw [ext_size (by omega)]
  have hi : ((((w.extract 0 m).extract k m).toList == []) = true) ↔ m = k := by
    rw [beq_iff_eq, listEmpty, hs2]; omega
  cases q : pre w w.size
  · rw [Bool.eq_false_iff]
    intro hh
    have hmk := hi.1 hh
    have : pre w w.size = true := by
      simp only [pre, List.all_eq_true]
      intro j hj
      have hj : j < w.size := by simpa using hj
      by_cases hjm : j < m
      · rw [← hat j hjm]; exact h3 j (by omega)
      · exact h1 j (by omega) hj
    rw [q] at this
    cases this
  · rw [hi]
    rcases h2 with h2 | h2
    · omega
    · by_cases h0 : m = 0
      · omega
      · rw [pre_at q (by omega)] at h2; cases h2

set_option maxRecDepth 100000 in
theorem c12 (w : ByteArray) (H : BH) (hs : w.size ≤ 1048576) : ∃ r, Gives (gam base) 12 [.str w, .str ⟨#[97, 98]⟩] H (.str r) ∧ (r.toList == []) = pre w w.size := by
  have sz : (⟨#[97, 98]⟩ : ByteArray).size = 2 := rfl
  by_cases hw : w.size = 0
  · refine ⟨w, gives_of (fn := ir12) rfl ?_, ?_⟩
    · have hl := (listEmpty w).2 hw
      simp [ir12, hl, noStr]
      exact BH.Keeps.refl H
    · rw [(listEmpty w).2 hw, hw]; rfl
  · have hl : ¬ w.toList = [] := fun h => hw ((listEmpty w).1 h)
    obtain ⟨v, H', h1, r, rfl, h2, h3⟩ : ∃ v H', Runs (gam base) 12 [.str w, .str ⟨#[97, 98]⟩] H v H' ∧ ∃ r, v = .str r ∧ (r.toList == []) = pre w w.size ∧ H.Keeps H' := by
      refine call_of_wp (fn := ir12) (R := fun v H' => ∃ r, v = .str r ∧ (r.toList == []) = pre w w.size ∧ H.Keeps H') rfl ?_
      have hl' : (w.toList == []) = false := by simpa using hl
      have hne : ((⟨#[97, 98]⟩ : ByteArray).toList == []) = false := by rw [abStr]; rfl
      simp [ir12, hl', noStr, hne, sz]
      obtain ⟨H1, r1, k1⟩ := c17 (base := base) H
      refine ⟨_, H1, r1, BH.KeepsTys.nil _ _, ?_⟩
      simp
      intro nb hb hf
      simp only [make_of hf hb, Option.map_some, after_some]
      have hrow : ∀ zs : List BV, zs.length = 256 → (H1.set nb (.arr 32 zs)).wr base none 256 (.ptr nb 0) (.agg tab) = some (H1.set nb (.arr 32 tab)) := by
        intro zs hz
        rw [wr_row (rt := none) (n := 256) (v := .agg tab) (BH.row_set_eq _ _ _) rfl hb tab_len (by rw [hz]; omega) tab_one]
        refine congrArg some (BH.ext fun c => ?_)
        have hd : zs.take 0 ++ (BV.agg tab).cells ++ zs.drop (0 + 256) = tab := by
          rw [List.drop_eq_nil_of_le (by omega)]
          show [] ++ tab ++ [] = tab
          rw [List.append_nil, List.nil_append]
        rw [hd]
        simp only [BH.row_set]; split <;> rfl
      have hr2 : (H1.set nb (.arr 32 tab)).row nb = .arr 32 tab := BH.row_set_eq _ _ _
      obtain ⟨m, r2, hm, g1, g2⟩ := c19 (base := base) w nb _ hs hr2
      have hsz : (w.extract 0 m).size = m := by rw [ext_size hm]; omega
      obtain ⟨k, r3, hk, g3, g4⟩ := c18 (base := base) (w.extract 0 m) nb _ (by omega) hr2
      simp [hrow]
      refine ⟨_, _, r2, BH.KeepsTys.nil _ _, ?_⟩
      simp
      refine ⟨_, _, r3, BH.KeepsTys.nil _ _, ?_⟩
      simp
      have ht := trim_all hm g1 g2 hk g3 g4
      rw [hsz] at ht
      refine ⟨?_, k1.set (k1.fresh hf) _⟩
      rw [← ht, Nat.min_eq_left hm]
      generalize (((w.extract 0 m).extract k m).toList) = l
      cases l <;> rfl
    exact ⟨r, ⟨H', h1, h3⟩, h2⟩

theorem c8 (w : ByteArray) (H : BH) (hs : w.size ≤ 1048576) : Gives (gam base) 8 [.str w] H (.bool (pre w w.size && decide (w.size ≤ 40))) := by
  refine gives_of (fn := ir8) rfl ?_
  by_cases h : w.size ≤ 40
  · have h' : (w.size : Int) ≤ 40 := by omega
    obtain ⟨r, ⟨H1, r1, k1⟩, hr⟩ := c12 (base := base) w H hs
    simp [ir8, h, h']
    refine ⟨_, H1, r1, BH.KeepsTys.nil _ _, ?_⟩
    simp [noStr]
    exact ⟨by rw [← hr]; simp, k1⟩
  · have h' : ¬ (w.size : Int) ≤ 40 := by omega
    simp [ir8, h, h']
    exact BH.Keeps.refl H

/-- The number of a word, and what is wrong with it. -/
def wnum (w : ByteArray) : Int × Int :=
  if (pre w w.size && decide (w.size ≤ 40)) = false then (0, 1) else if endA w = true then (0, 4) else if (numEnd w w.size : Int) > 1000000000 then (0, 2) else (numEnd w w.size, 0)

theorem c5 (w : ByteArray) (H : BH) (hs : w.size ≤ 1048576) : Gives (gam base) 5 [.str w] H (.tup [.int .i64 (wnum w).1, .int .i64 (wnum w).2]) := by
  refine gives_of (fn := ir5) rfl ?_
  obtain ⟨H1, r1, k1⟩ := c8 (base := base) w H hs
  simp only [wnum]
  cases q : (pre w w.size && decide (w.size ≤ 40))
  · rw [q] at r1
    simp [ir5]
    refine ⟨_, H1, r1, BH.KeepsTys.nil _ _, ?_⟩
    simp
    exact k1
  · rw [q] at r1
    rw [Bool.and_eq_true, decide_eq_true_eq] at q
    simp [ir5]
    refine ⟨_, H1, r1, BH.KeepsTys.nil _ _, ?_⟩
    simp
    refine ⟨_, H1, c9 w H1 hs, BH.KeepsTys.nil _ _, ?_⟩
    cases q2 : endA w
    · simp
      refine ⟨_, H1, c10 w H1 q.1 q.2, BH.KeepsTys.nil _ _, ?_⟩
      simp
      refine ⟨_, H1, c11 _ H1, BH.KeepsTys.nil _ _, ?_⟩
      have h0 : (0 : Int) ≤ numEnd w w.size := by omega
      generalize numEnd w w.size = n at *
      by_cases h1 : (n : Int) > 1000000000
      · have h2 : ¬ n ≤ 1000000000 := by omega
        have h3 : (1000000000 : Int) < n := by omega
        have h4 : ((n : Int) ≤ 1000000000) = False := by simp; omega
        have h5 : (1000000000 < n) = True := by simp; omega
        simp [h2, h3, h4, h5]
        exact k1
      · have h2 : n ≤ 1000000000 := by omega
        have h3 : ¬ (1000000000 : Int) < n := by omega
        have h4 : ((n : Int) ≤ 1000000000) = True := by simp; omega
        have h5 : (1000000000 < n) = False := by simp; omega
        simp [h2, h3, h4, h5]
        exact k1
    · simp
      exact k1

theorem c4 (w : ByteArray) (H : BH) (hs : w.size ≤ 1048576) : Gives (gam base) 4 [.str w] H (.tup [.int .i64 (wnum w).1, .int .i64 (wnum w).2]) := by
  refine gives_of (fn := ir4) rfl ?_
  have r1 := c6 (base := base) w H hs
  simp only [wnum]
  cases q : (pre w w.size && decide (w.size ≤ 40))
  · rw [q] at r1
    simp [ir4]
    refine ⟨_, H, r1, BH.KeepsTys.nil _ _, ?_⟩
    simp
    exact BH.Keeps.refl H
  · rw [q] at r1
    rw [Bool.and_eq_true, decide_eq_true_eq] at q
    simp [ir4]
    refine ⟨_, H, r1, BH.KeepsTys.nil _ _, ?_⟩
    by_cases hz : 0 < w.size
    · have hz' : (0 : Int) < w.size := by omega
      have w1 : IntKind.i64.wrap ((w.size : Int) - 1) = ((w.size - 1 : Nat) : Int) := by rw [w64 (by omega) (by omega)]; omega
      have hlt : w.size - 1 < w.size := by omega
      have hb : w[w.size - 1]? = some w[w.size - 1] := getElem?_pos w _ hlt
      have he : endA w = (w[w.size - 1].toNat == 97) := by simp only [endA, hb, hz, decide_true, Bool.true_and]
      by_cases q2 : (w[w.size - 1].toNat : Int) = 97
      · have he : endA w = true := by rw [he]; simp; omega
        simp [hz, hz', w1, hlt, q2, he]
        exact BH.Keeps.refl H
      · have he : endA w = false := by rw [he]; simp; omega
        have q2' : ((w[w.size - 1].toNat : Int) == 97) = false := by simpa using q2
        simp [hz, hz', w1, hlt, q2', he]
        refine ⟨_, H, c7 w H q.1 q.2, BH.KeepsTys.nil _ _, ?_⟩
        by_cases h1 : 1000000000 < numEnd w w.size
        · have h2 : (1000000000 : Int) < numEnd w w.size := by omega
          simp [h1, h2]
          exact BH.Keeps.refl H
        · have h2 : ¬ (1000000000 : Int) < numEnd w w.size := by omega
          simp [h1, h2]
          exact BH.Keeps.refl H
    · have hz' : w.size = 0 := by omega
      have he : endA w = false := by simp [endA, hz]
      simp [show ¬ (0 : Int) < w.size by omega, hz, he]
      refine ⟨_, H, c7 w H q.1 q.2, BH.KeepsTys.nil _ _, ?_⟩
      by_cases h1 : 1000000000 < numEnd w w.size
      · have h2 : (1000000000 : Int) < numEnd w w.size := by omega
        simp [h1, h2]
        exact BH.Keeps.refl H
      · have h2 : ¬ (1000000000 : Int) < numEnd w w.size := by omega
        simp [h1, h2]
        exact BH.Keeps.refl H

theorem c3 (w : ByteArray) (H : BH) (hs : w.size ≤ 9223372036854775807) : Gives (gam base) 3 [.str w] H (.bool true) := by
  refine gives_of (fn := ir3) rfl ?_
  by_cases h : (1048576 : Int) < w.size
  · have h' : 1048576 < w.size := by omega
    simp [ir3, h, h']
    exact BH.Keeps.refl H
  · have h' : ¬ 1048576 < w.size := by omega
    obtain ⟨H1, r1, k1⟩ := c4 (base := base) w H (by omega)
    obtain ⟨H2, r2, k2⟩ := c5 (base := base) w H1 (by omega)
    simp [ir3, h, h']
    refine ⟨_, H1, r1, BH.KeepsTys.nil _ _, ?_⟩
    simp
    refine ⟨_, H2, r2, BH.KeepsTys.nil _ _, ?_⟩
    simp
    exact k1.trans k2
end Go.Proofs.YtkmlmkbpdldjgaaDoor.W
