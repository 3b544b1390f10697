/-
Words and their numbers: trimming, and the law.
-/
import Derived.Test.YtkmlmkbpdldjgaaDoorW1
namespace Go.Proofs.YtkmlmkbpdldjgaaDoor.W
set_option linter.unusedVariables false
set_option linter.unusedSimpArgs false
open Go.B
variable {base : Nat}
attribute [local simp] wpC_skip wpC_region wpC_seq wpC_true wpC_false wpC_block wpC_exit wpC_ret wpO_nil wpO_n wpO_tt wpO_ff wpO_tf wpO_ft wpO_u wpS_mov wpS_pick wpS_build wpS_load wpS_store wpS_nilck wpS_bin wpS_beq wpS_isnil wpS_eqs wpS_not wpS_neg wpS_conv wpS_lea wpS_fld wpS_idx wpS_idxs wpS_slice wpS_sslice wpS_mkfn wpS_mset wpS_look wpS_ext wpS_len wpS_new wpS_box wpS_mk wpS_mkmap wpS_mksl wpS_app wpS_fn wpS_call after_some Post.then Post.inBlock BExit.outOf puto_some puto_none put_eq put_ne Opd.ev argEnv op1_mov op1_pick op1_new op1_box op1_load op1_nilck op1_bin op1_beq op1_not op1_neg op1_conv op1_lea op1_fld op1_len0 op1_len1 op1_idx op1_ext op1_build op1_mk op1_stw op1_mksl op1_eqs pureBin isShift resOf resVals val_tmp val_cell oneOf one_int cells_int one_bool cells_bool one_str cells_str one_nilp cells_nilp one_ptr cells_ptr one_nils cells_nils one_sl cells_sl one_sle cells_sle one_nilm cells_nilm one_mp cells_mp one_nilf cells_nilf one_fn cells_fn one_nili cells_nili cells_agg isSl_sl slen_sl sat_sl make_of asm rtOk wpS_b2s op1_b2s op1_isnil Option.map_some gam_base op1_app op1_idxs wpS_idxa op1_idxa op1_sslice bound_none bound_some nat_of

/-- The set of bytes, when i letters of "ab" are in. -/
def tabAt : Nat → List BV
  | 0 => List.replicate 256 (.bool false)
  | 1 => (List.replicate 256 (.bool false)).set 97 (.bool true)
  | _ => ((List.replicate 256 (.bool false)).set 97 (.bool true)).set 98 (.bool true)
def tab : List BV := tabAt 2
theorem tabAt_len (i : Nat) : (tabAt i).length = 256 := by
  match i with
  | 0 => exact List.length_replicate
  | 1 => exact (List.length_set ..).trans List.length_replicate
  | _ + 2 => exact (List.length_set ..).trans ((List.length_set ..).trans List.length_replicate)
theorem tab_len : tab.length = 256 := tabAt_len 2
theorem tab_one : tab.all BV.one = true := by decide +kernel
theorem tab_get {b : Nat} (h : b < 256) : tab[b]? = some (.bool (b == 97 || b == 98)) := by
  simp only [tab, tabAt, List.getElem?_set, List.getElem?_replicate, List.length_set, List.length_replicate]
  by_cases h1 : b = 98
  · subst h1; rfl
  · by_cases h2 : b = 97
    · subst h2; rfl
    · have h1' : ¬ 98 = b := fun e => h1 e.symm
      have h2' : ¬ 97 = b := fun e => h2 e.symm
      rw [if_neg h1', if_neg h2', if_pos h]
      simp [h1, h2]
theorem rd_tab {H : BH} {p b : Nat} (hr : H.row p = .arr 32 tab) (h : b < 256) : H.rd none none (.ptr p b) = some (.bool (b == 97 || b == 98)) := by
  have hd : (tab.drop b).take 1 = [.bool (b == 97 || b == 98)] := by
    rw [List.take_one, List.head?_drop, tab_get h]; rfl
  simp only [BH.rd, hr, rtOk, Option.getD_none, tab_len, hd, asm, List.head?_cons]
  rw [if_pos ⟨trivial, by omega⟩]
theorem rd_tabs {H : BH} {p : Nat} {rt : Option Nat} (hr : H.row p = .arr 32 tab) (h : rtOk rt 32 = true) : H.rd rt (some 256) (.ptr p 0) = some (.agg tab) := by
  have hd : (tab.drop 0).take 256 = tab := List.take_of_length_le (by rw [List.drop_zero, tab_len]; omega)
  simp only [BH.rd, hr, h, Option.getD_some, tab_len, hd, asm]
  rw [if_pos ⟨trivial, by omega⟩]

theorem c22 (p : Nat) (b : UInt8) (H : BH) (hr : H.row p = .arr 32 tab) : Runs (gam base) 22 [.ptr p 0, .int .u8 b.toNat] H (.bool (b.toNat == 97 || b.toNat == 98)) H := by
  refine runs_of (fn := ir22) rfl ?_
  have hb : b.toNat < 256 := b.toNat_lt
  have hb' : (b.toNat : Int) < 256 := by omega
  simp [ir22, hb, hb', rd_tab hr hb]

set_option maxRecDepth 100000 in
theorem c17 (H : BH) : ∃ H', Runs (gam base) 17 [.str ⟨#[97, 98]⟩] H (.tup [.agg tab, .bool true]) H' ∧ H.Keeps H' := by
  obtain ⟨v, H', h1, h2, h3⟩ : ∃ v H', Runs (gam base) 17 [.str ⟨#[97, 98]⟩] H v H' ∧ v = .tup [.agg tab, .bool true] ∧ H.Keeps H' := by
    refine call_of_wp (fn := ir17) (R := fun v H' => v = .tup [.agg tab, .bool true] ∧ H.Keeps H') rfl ?_
    have sz : (⟨#[97, 98]⟩ : ByteArray).size = 2 := rfl
    obtain ⟨x0, g0, u0⟩ : ∃ x : UInt8, (⟨#[97, 98]⟩ : ByteArray)[0]? = some x ∧ x.toNat = 97 := ⟨97, rfl, rfl⟩
    obtain ⟨x1, g1, u1⟩ : ∃ x : UInt8, (⟨#[97, 98]⟩ : ByteArray)[1]? = some x ∧ x.toNat = 98 := ⟨98, rfl, rfl⟩
    generalize (⟨#[97, 98]⟩ : ByteArray) = w at sz g0 g1
    have u0 : ∀ h, (w[0]'h).toNat = 97 := fun h => by rw [getElem?_pos w 0 h] at g0; cases g0; exact u0
    have u1 : ∀ h, (w[1]'h).toNat = 98 := fun h => by rw [getElem?_pos w 1 h] at g1; cases g1; exact u1
    simp only [ir17, wpC_seq, wpC_region, wpO_n, wpS_new]
    intro nb hb hf
    have hb : base ≤ nb := hb
    simp only [op1_new, gam_base, make_of hf hb, Option.map_some, after_some]
    have key : ∀ i, H.Keeps (H.set nb (.arr 32 (tabAt i))) := fun i => BH.keeps_set _ hf
    simp
    refine wpC_count 2 (fun i e K => e 0 = .str w ∧ e 2 = .ptr nb 0 ∧ e 4 = .int .i64 i ∧ K = H.set nb (.arr 32 (tabAt i))) (i0 := 0) ?_ (Nat.zero_le _) ?_
    · exact ⟨rfl, by simp, rfl, rfl⟩
    · rintro i e K hi ⟨e0, e2, e4, rfl⟩
      have hcase : i = 0 ∨ i = 1 ∨ i = 2 := by omega
      rcases hcase with rfl | rfl | rfl
      · have hwr : (H.set nb (.arr 32 (tabAt 0))).wr base none 1 (.ptr nb 97) (.bool true) = some (H.set nb (.arr 32 (tabAt 1))) := by
          rw [wr_row (rt := none) (n := 1) (v := .bool true) (BH.row_set_eq _ _ _) rfl hb rfl (by rw [tabAt_len]; omega) rfl]
          refine congrArg some (BH.ext fun c => ?_)
          simp only [BH.row_set]; split <;> rfl
        have w1 : IntKind.i64.wrap 1 = 1 := rfl
        simp [e0, e2, e4, sz, u0, hwr, w1]
      · have hwr : (H.set nb (.arr 32 (tabAt 1))).wr base none 1 (.ptr nb 98) (.bool true) = some (H.set nb (.arr 32 (tabAt 2))) := by
          rw [wr_row (rt := none) (n := 1) (v := .bool true) (BH.row_set_eq _ _ _) rfl hb rfl (by rw [tabAt_len]; omega) rfl]
          refine congrArg some (BH.ext fun c => ?_)
          simp only [BH.row_set]; split <;> rfl
        have w1 : IntKind.i64.wrap 2 = 2 := rfl
        simp [e0, e2, e4, sz, u1, hwr, w1]
      · have hr : (H.set nb (.arr 32 (tabAt 2))).row nb = .arr 32 tab := BH.row_set_eq _ _ _
        have hwr : (H.set nb (.arr 32 (tabAt 2))).wr base none 256 (.ptr nb 0) (.agg tab) = some (H.set nb (.arr 32 (tabAt 2))) := by
          rw [wr_row (rt := none) (n := 256) (v := .agg tab) hr rfl hb tab_len (by rw [tab_len]; omega) tab_one]
          refine congrArg some (BH.ext fun c => ?_)
          simp only [BH.row_set]; split <;> rfl
        have hrd := rd_tabs (rt := none) hr rfl
        simp [e0, e2, e4, sz, hrd, hwr]
        exact key 2
  subst h2
  exact ⟨H', h1, h3⟩

theorem ext_full (w : ByteArray) : w.extract 0 w.size = w := by
  have hd : (w.extract 0 w.size).data = w.data := by
    rw [ByteArray.data_extract]
    exact Array.extract_size
  cases w
  exact congrArg _ hd
theorem ext_get {w : ByteArray} {a b i : Nat} (hb : b ≤ w.size) (hi : a + i < b) : (w.extract a b)[i]? = w[a + i]? := by
  have h1 : i < (w.extract a b).size := by rw [ByteArray.size_extract]; omega
  have h2 : a + i < w.size := by omega
  rw [getElem?_pos (w.extract a b) i h1, getElem?_pos w (a + i) h2, ByteArray.getElem_extract]
theorem ext_ext {w : ByteArray} {a b i j : Nat} (hij : a + j ≤ b) : (w.extract a b).extract i j = w.extract (a + i) (a + j) := by
  rw [ByteArray.extract_extract, Nat.min_eq_left hij]
theorem ext_size {w : ByteArray} {a b : Nat} (hb : b ≤ w.size) : (w.extract a b).size = b - a := by rw [ByteArray.size_extract]; omega

theorem c19 (w : ByteArray) (p : Nat) (H : BH) (hs : w.size ≤ 1048576) (hr : H.row p = .arr 32 tab) :
    ∃ m, Runs (gam base) 19 [.str w, .ptr p 0] H (.str (w.extract 0 m)) H ∧ m ≤ w.size ∧ (∀ j, m ≤ j → j < w.size → abAt w j = true) ∧ (m = 0 ∨ abAt w (m - 1) = false) := by
  obtain ⟨v, H', h1, rfl, m, rfl, h2⟩ : ∃ v H', Runs (gam base) 19 [.str w, .ptr p 0] H v H' ∧ H' = H ∧ ∃ m, v = .str (w.extract 0 m) ∧ m ≤ w.size ∧ (∀ j, m ≤ j → j < w.size → abAt w j = true) ∧ (m = 0 ∨ abAt w (m - 1) = false) := by
    refine call_of_wp (fn := ir19) (R := fun v H' => H' = H ∧ ∃ m, v = .str (w.extract 0 m) ∧ m ≤ w.size ∧ (∀ j, m ≤ j → j < w.size → abAt w j = true) ∧ (m = 0 ∨ abAt w (m - 1) = false)) rfl ?_
    simp [ir19]
    refine wpC_count w.size (fun i e K => e 0 = .str (w.extract 0 (w.size - i)) ∧ e 1 = .ptr p 0 ∧ K = H ∧ ∀ j, w.size - i ≤ j → j < w.size → abAt w j = true) (i0 := 0) ?_ (Nat.zero_le _) ?_
    · refine ⟨?_, rfl, rfl, fun j h1 h2 => by omega⟩
      simp [ext_full]
    · rintro i e K hi ⟨e0, e1, rfl, hab⟩
      obtain ⟨m, hm⟩ : ∃ m, m = w.size - i := ⟨_, rfl⟩
      rw [← hm] at e0 hab
      have hsz : (w.extract 0 m).size = m := by rw [ext_size (by omega)]; omega
      by_cases h0 : 0 < m
      · have h0' : (0 : Int) < m := by omega
        have hc : (w.extract 0 m)[m - 1]? = w[m - 1]? := by rw [ext_get (by omega) (by omega)]; simp
        have hb : w[m - 1]? = some (w[m - 1]'(by omega)) := getElem?_pos w _ (by omega)
        have hat : abAt w (m - 1) = ((w[m - 1]'(by omega)).toNat == 97 || (w[m - 1]'(by omega)).toNat == 98) := by simp only [abAt, hb]
        rw [hb] at hc
        generalize (w[m - 1]'(by omega)) = b at hat hc
        have w1 : IntKind.i64.wrap ((m : Int) - 1) = ((m - 1 : Nat) : Int) := by rw [w64 (by omega) (by omega)]; omega
        have hex : (w.extract 0 m).extract 0 (m - 1) = w.extract 0 (m - 1) := by rw [ext_ext (by omega)]; simp
        obtain ⟨x, hx⟩ : ∃ x, w.extract 0 m = x := ⟨_, rfl⟩
        rw [hx] at e0 hsz hc hex
        simp [e0, e1, hsz, h0, h0', w1, hc]
        refine ⟨_, K, c22 p b K hr, BH.KeepsTys.nil _ _, ?_⟩
        cases q : (b.toNat == 97 || b.toNat == 98)
        · rw [q] at hat
          simp only [Bool.or_eq_false_iff] at q
          simp [e0, e1, q]
          exact ⟨m, hx.symm, by omega, hab, .inr hat⟩
        · rw [q] at hat
          have hle : m - 1 ≤ x.size := by omega
          simp [e0, e1, q, hsz, w1, hex]
          refine ⟨by omega, ?_, fun j h1 h2 => ?_⟩
          · rw [show w.size - (i + 1) = m - 1 by omega]
          · by_cases hj : j = m - 1
            · rw [hj]; exact hat
            · exact hab j (by omega) h2
      · have h00 : m = 0 := by omega
        rw [h00] at hsz e0 hab
        simp [e0, e1, hsz]
        exact ⟨0, by simp, by omega, hab, .inl rfl⟩
  exact ⟨m, h1, h2⟩

theorem c18 (w : ByteArray) (p : Nat) (H : BH) (hs : w.size ≤ 1048576) (hr : H.row p = .arr 32 tab) :
    ∃ m, Runs (gam base) 18 [.str w, .ptr p 0] H (.str (w.extract m w.size)) H ∧ m ≤ w.size ∧ (∀ j, j < m → abAt w j = true) ∧ (m = w.size ∨ abAt w m = false) := by
  obtain ⟨v, H', h1, rfl, m, rfl, h2⟩ : ∃ v H', Runs (gam base) 18 [.str w, .ptr p 0] H v H' ∧ H' = H ∧ ∃ m, v = .str (w.extract m w.size) ∧ m ≤ w.size ∧ (∀ j, j < m → abAt w j = true) ∧ (m = w.size ∨ abAt w m = false) := by
    refine call_of_wp (fn := ir18) (R := fun v H' => H' = H ∧ ∃ m, v = .str (w.extract m w.size) ∧ m ≤ w.size ∧ (∀ j, j < m → abAt w j = true) ∧ (m = w.size ∨ abAt w m = false)) rfl ?_
    simp [ir18]
    refine wpC_count w.size (fun i e K => e 0 = .str (w.extract i w.size) ∧ e 1 = .ptr p 0 ∧ K = H ∧ ∀ j, j < i → abAt w j = true) (i0 := 0) ?_ (Nat.zero_le _) ?_
    · refine ⟨?_, rfl, rfl, fun j h1 => by omega⟩
      simp [ext_full]
    · rintro i e K hi ⟨e0, e1, rfl, hab⟩
      have hsz : (w.extract i w.size).size = w.size - i := ext_size (by omega)
      by_cases h0 : i < w.size
      · have h0' : (0 : Int) < ((w.size - i : Nat) : Int) := by omega
        have hc : (w.extract i w.size)[0]? = w[i]? := by rw [ext_get (by omega) (by omega)]; simp
        have hb : w[i]? = some w[i] := getElem?_pos w _ (by omega)
        have hat : abAt w i = (w[i].toNat == 97 || w[i].toNat == 98) := by simp only [abAt, hb]
        rw [hb] at hc
        generalize w[i] = b at hat hc
        have hex : (w.extract i w.size).extract 1 (w.size - i) = w.extract (i + 1) w.size := by rw [ext_ext (by omega), show i + (w.size - i) = w.size by omega]
        have hle : 1 ≤ w.size - i := by omega
        obtain ⟨x, hx⟩ : ∃ x, w.extract i w.size = x := ⟨_, rfl⟩
        rw [hx] at e0 hsz hc hex
        obtain ⟨m, hm⟩ : ∃ m, w.size - i = m := ⟨_, rfl⟩
        rw [hm] at hsz hex hle h0'
        have h0i : (0 : Int) < m := by omega
        have hc' : ∀ h, (x[0]'h) = b := fun h => by rw [getElem?_pos x 0 h] at hc; cases hc; rfl
        have h0n : 0 < m := hle
        simp [e0, e1, hsz, h0n, hc']
        refine ⟨_, K, c22 p b K hr, BH.KeepsTys.nil _ _, ?_⟩
        cases q : (b.toNat == 97 || b.toNat == 98)
        · rw [q] at hat
          simp only [Bool.or_eq_false_iff] at q
          simp [e0, e1, q]
          exact ⟨i, hx.symm, by omega, hab, .inr hat⟩
        · rw [q] at hat
          simp [e0, e1, q, hsz, hex, hle, h0]
          refine fun j h1 => ?_
          by_cases hj : j = i
          · rw [hj]; exact hat
          · exact hab j (by omega)
      · have h00 : i = w.size := by omega
        subst h00
        rw [Nat.sub_self] at hsz
        simp [e0, e1, hsz]
        exact ⟨w.size, by simp, by omega, hab, .inl rfl⟩
  exact ⟨m, h1, h2⟩
end Go.Proofs.YtkmlmkbpdldjgaaDoor.W
