/-
Texts of our own, put together: T3, T4, T5, T6, T7, T8, T9, T10, T11, T12, O2.
-/
import Derived.Test.YtcnkhkmapgbodaaDoorQ5
import Derived.ChangeSlices
import Derived.WideShapes
section
namespace Go.Proofs.YtcnkhkmapgbodaaDoor.W
set_option linter.unusedVariables false
set_option linter.unusedSimpArgs false
open Go.B
variable {base : Nat}
attribute [local simp] wpC_skip wpC_region wpC_seq wpC_true wpC_false wpC_block wpC_exit wpC_ret wpO_nil wpO_n wpO_tt wpO_ff wpO_tf wpO_ft wpO_u wpS_mov wpS_pick wpS_build wpS_load wpS_store wpS_nilck wpS_bin wpS_beq wpS_isnil wpS_eqs wpS_not wpS_neg wpS_conv wpS_lea wpS_fld wpS_idx wpS_idxs wpS_slice wpS_sslice wpS_mkfn wpS_mset wpS_look wpS_ext wpS_len wpS_new wpS_box wpS_mk wpS_mkmap wpS_mksl wpS_app wpS_fn wpS_call after_some pthen_n pthen_x pthen_r pin BExit.outOf puto_some puto_none put_eq put_ne Opd.ev argEnv op1_mov op1_pick op1_new op1_box op1_load op1_nilck op1_bin op1_beq op1_not op1_neg op1_conv op1_lea op1_fld op1_len0 op1_len1 op1_idx op1_ext op1_build op1_mk op1_stw op1_mksl op1_eqs pureBin isShift resOf resVals val_tmp val_cell oneOf one_int cells_int one_bool cells_bool one_str cells_str one_nilp cells_nilp one_ptr cells_ptr one_nils cells_nils one_sl cells_sl one_sle cells_sle one_nilm cells_nilm one_mp cells_mp one_nilf cells_nilf one_fn cells_fn one_nili cells_nili cells_agg isSl_sl slen_sl sat_sl make_of asm rtOk wpS_b2s op1_b2s wpS_imax op1_imax wpS_imin op1_imin wpS_i2s op1_i2s op1_isnil Option.map_some gam_base op1_app op1_idxs wpS_idxa op1_idxa op1_sslice bound_none bound_some nat_of op1_mkmap op1_mset op1_look op1_len2 op1_mkfn Go.B.fillB Has
open Go.Au
theorem snoc_ind {α : Type} {P : List α → Prop} (h0 : P []) (h1 : ∀ l x, P l → P (l ++ [x])) (l : List α) : P l := by
  have key : ∀ n (l : List α), l.length = n → P l := by
    intro n
    induction n with
    | zero => intro l hl; rw [List.length_eq_zero_iff] at hl; subst hl; exact h0
    | succ n ih =>
      intro l hl
      have hne : l ≠ [] := by rintro rfl; simp at hl
      rw [← List.dropLast_concat_getLast hne]
      exact h1 _ _ (ih _ (by simp [hl]))
  exact key _ l rfl
def preK (cs : List Nat) (j : Nat) : List ByteArray := (List.range j).map fun i => keyS (cs.take i)
theorem preK_succ (cs : List Nat) (j : Nat) : preK cs (j + 1) = preK cs j ++ [keyS (cs.take j)] := by simp [preK, List.range_succ]
noncomputable def bgW (css : List (List Nat)) : List ByteArray := css.foldl (fun ks cs => addAll ks (preK cs (cs.length + 1))) []
noncomputable def tkW (css : List (List Nat)) : List ByteArray := css.foldl (fun ks cs => addK ks (keyS cs)) []
theorem bgW_snoc (css : List (List Nat)) (cs : List Nat) : bgW (css ++ [cs]) = addAll (bgW css) (preK cs (cs.length + 1)) := by simp [bgW, List.foldl_append]
theorem tkW_snoc (css : List (List Nat)) (cs : List Nat) : tkW (css ++ [cs]) = addK (tkW css) (keyS cs) := by simp [tkW, List.foldl_append]
theorem addAll_len {α : Type} [DecidableEq α] : ∀ (l ks : List α), (addAll ks l).length ≤ ks.length + l.length
  | [], ks => by simp [addAll]
  | x :: l, ks => by
    have h1 := addAll_len l (addK ks x)
    have h2 : (addK ks x).length ≤ ks.length + 1 := by
      unfold addK
      split
      · omega
      · simp
    show (addAll (addK ks x) l).length ≤ _
    simp only [List.length_cons]
    omega
theorem mem_bgW {css : List (List Nat)} {s : ByteArray} : s ∈ bgW css ↔ ∃ cs ∈ css, ∃ i, i ≤ cs.length ∧ s = keyS (cs.take i) := by
  induction css using snoc_ind with
  | h0 => simp [bgW]
  | h1 css cs ih =>
    rw [bgW_snoc, mem_addAll, ih]
    constructor
    · rintro (⟨ds, h1, h2⟩ | h)
      · exact ⟨ds, List.mem_append_left _ h1, h2⟩
      · obtain ⟨i, hi, rfl⟩ := List.mem_map.1 h
        exact ⟨cs, by simp, i, by have := List.mem_range.1 hi; omega, rfl⟩
    · rintro ⟨ds, h1, i, hi, rfl⟩
      rcases List.mem_append.1 h1 with h1 | h1
      · exact .inl ⟨ds, h1, i, hi, rfl⟩
      · rw [List.mem_singleton] at h1
        subst h1
        exact .inr (List.mem_map.2 ⟨i, List.mem_range.2 (by omega), rfl⟩)
theorem mem_tkW {css : List (List Nat)} {s : ByteArray} : s ∈ tkW css ↔ ∃ cs ∈ css, s = keyS cs := by
  induction css using snoc_ind with
  | h0 => simp [tkW]
  | h1 css cs ih =>
    rw [tkW_snoc, mem_addK, ih]
    constructor
    · rintro (⟨ds, h1, h2⟩ | rfl)
      · exact ⟨ds, List.mem_append_left _ h1, h2⟩
      · exact ⟨cs, by simp, rfl⟩
    · rintro ⟨ds, h1, rfl⟩
      rcases List.mem_append.1 h1 with h1 | h1
      · exact .inl ⟨ds, h1, rfl⟩
      · rw [List.mem_singleton] at h1
        subst h1
        exact .inr rfl
theorem bgW_len (css : List (List Nat)) {N : Nat} (h : ∀ cs ∈ css, cs.length ≤ N) : (bgW css).length ≤ css.length * (N + 1) := by
  induction css using snoc_ind with
  | h0 => simp [bgW]
  | h1 css cs ih =>
    rw [bgW_snoc]
    have h1 := addAll_len (preK cs (cs.length + 1)) (bgW css)
    have h2 := ih fun ds hd => h ds (List.mem_append_left _ hd)
    have h3 := h cs (by simp)
    have h4 : (preK cs (cs.length + 1)).length = cs.length + 1 := by simp [preK]
    rw [List.length_append, List.length_singleton, Nat.succ_mul]
    omega
def dash : ByteArray := ⟨#[45]⟩
noncomputable def lsNx (css : List (List Nat)) (s : ByteArray) (c : Nat) : ByteArray := if s ≠ dash ∧ s ++ strL [65 + c] ∈ bgW css then s ++ strL [65 + c] else dash
noncomputable def lsAcc (css : List (List Nat)) (s : ByteArray) : Bool := decide (s ∈ tkW css)
noncomputable def lstU (css : List (List Nat)) : List ByteArray := keyS [] :: dash :: bgW css
theorem lstU_closed (css : List (List Nat)) (w : Nat) : Closed w (lsNx css) (keyS []) (lstU css) := by
  refine ⟨List.mem_cons_self, fun k _ c _ => ?_⟩
  unfold lsNx lstU
  split
  · rename_i h
    exact List.mem_cons_of_mem _ (List.mem_cons_of_mem _ h.2)
  · exact List.mem_cons_of_mem _ List.mem_cons_self
theorem ls_dash (css : List (List Nat)) : ∀ cs : List Nat, cs.foldl (lsNx css) dash = dash
  | [] => rfl
  | c :: cs => by
    rw [List.foldl_cons]
    have : lsNx css dash c = dash := by unfold lsNx; rw [if_neg (fun h => h.1 rfl)]
    rw [this]
    exact ls_dash css cs
theorem ls_fold (css : List (List Nat)) {w : Nat} (hw : w ≤ 26) : ∀ (cs p : List Nat), In w p → In w cs →
    ((∀ i, 0 < i → i ≤ cs.length → keyS (p ++ cs.take i) ∈ bgW css) → cs.foldl (lsNx css) (keyS p) = keyS (p ++ cs)) ∧ ((¬ ∀ i, 0 < i → i ≤ cs.length → keyS (p ++ cs.take i) ∈ bgW css) → cs.foldl (lsNx css) (keyS p) = dash)
  | [], p, _, _ => ⟨fun _ => by simp, fun h => absurd (fun i h1 h2 => by simp at h2; omega) h⟩
  | c :: cs, p, hp, hin => by
    have hp' : In w (p ++ [c]) := hp.append (fun d hd => by rw [List.mem_singleton] at hd; subst hd; exact hin.head)
    obtain ⟨i1, i2⟩ := ls_fold css hw cs (p ++ [c]) hp' hin.tail
    have hnd := keyS_dash hw hp
    rw [List.foldl_cons]
    by_cases hm : keyS (p ++ [c]) ∈ bgW css
    · have hn : lsNx css (keyS p) c = keyS (p ++ [c]) := by
        unfold lsNx
        rw [keyS_snoc, if_pos ⟨hnd, hm⟩]
      rw [hn]
      have eq : (∀ i, 0 < i → i ≤ (c :: cs).length → keyS (p ++ (c :: cs).take i) ∈ bgW css) ↔ (∀ i, 0 < i → i ≤ cs.length → keyS (p ++ [c] ++ cs.take i) ∈ bgW css) := by
        constructor
        · intro h i h1 h2
          have := h (i + 1) (by omega) (by simp; omega)
          simpa using this
        · intro h i h1 h2
          cases i with
          | zero => omega
          | succ i =>
            by_cases hi : i = 0
            · subst hi; simpa using hm
            · have := h i (by omega) (by simp at h2; omega)
              simpa using this
      refine ⟨fun h => ?_, fun h => i2 (fun hh => h (eq.2 hh))⟩
      rw [i1 (eq.1 h)]
      simp
    · have hn : lsNx css (keyS p) c = dash := by
        unfold lsNx
        rw [keyS_snoc, if_neg (fun h => hm h.2)]
      rw [hn, ls_dash]
      refine ⟨fun h => absurd (by simpa using h 1 (by omega) (by simp)) hm, fun _ => rfl⟩
theorem ls_lang {css : List (List Nat)} {w : Nat} (hw : w ≤ 26) (hcss : ∀ cs ∈ css, In w cs) {cs : List Nat} (hin : In w cs) : langK (lsNx css) (lsAcc css) (keyS []) cs = decide (cs ∈ css) := by
  obtain ⟨h1, h2⟩ := ls_fold css hw cs [] (In.nil w) hin
  unfold langK lsAcc
  by_cases hall : ∀ i, 0 < i → i ≤ cs.length → keyS ([] ++ cs.take i) ∈ bgW css
  · rw [h1 hall, List.nil_append, Bool.eq_iff_iff, decide_eq_true_iff, decide_eq_true_iff, mem_tkW]
    constructor
    · rintro ⟨ds, hd, e⟩
      rw [keyS_inj hw hin (hcss ds hd) e]
      exact hd
    · intro h; exact ⟨cs, h, rfl⟩
  · rw [h2 hall, Bool.eq_iff_iff, decide_eq_true_iff, decide_eq_true_iff, mem_tkW]
    constructor
    · rintro ⟨ds, hd, e⟩
      exact absurd e.symm (keyS_dash hw (hcss ds hd))
    · intro h
      exact absurd (fun i _ h2 => mem_bgW.2 ⟨cs, h, i, h2, by simp⟩) hall
/-- The automaton of some lists of columns. -/
noncomputable def lsX (t : Nat) (css : List (List Nat)) : Aut := autOf (wd t) (lsNx css) (lsAcc css) (metL (succs (wd t) (lsNx css)) (keyS []) (lstU css).length)
theorem lsX_ok {t : Nat} (ht : t ≤ 3) {css : List (List Nat)} (hcss : ∀ cs ∈ css, In (wd t) cs) : (lsX t css).Ok (wd t) ∧ (lsX t css).acc.length ≤ (bgW css).length + 2 ∧ ∀ cs, In (wd t) cs → (lsX t css).lang 0 cs = decide (cs ∈ css) := by
  obtain ⟨h1, h2, h3⟩ := autOf_met (a := lsAcc css) (lstU_closed css (wd t))
  refine ⟨h1, ?_, fun cs hc => (h3 cs hc).trans (ls_lang (wd_3 ht) hcss hc)⟩
  have : (lstU css).length = (bgW css).length + 2 := by simp [lstU]
  rw [this] at h2
  exact h2
theorem i_list1 (n5 m14 : Nat) (css : List (List Nat)) (s : ByteArray) (H : BH) (h5 : H.row n5 = .arr 118 [.mp m14]) (hm : H.row m14 = .mp (trueEs (tkW css))) :
    FnDoes (gam base) 107 [.str s, .ptr n5 0] H fun v _ => v = .bool (lsAcc css s) := by
  refine FnDoes.of (fn := ir107) rfl ?_
  have r5 := rd_ptr h5 (rt := none) (j := 0) (c := .mp m14) rfl rfl
  have l5 := lookT hm s
  simp [ir107, r5, l5]
  exact ⟨BH.Keeps.refl H, rfl⟩
theorem i_list2 (n6 m15 c : Nat) (css : List (List Nat)) (s : ByteArray) (H : BH) (h6 : H.row n6 = .arr 118 [.mp m15]) (hm : H.row m15 = .mp (trueEs (bgW css))) (hc : c < 26) (hs : s.size ≤ 1000000) :
    FnDoes (gam base) 108 [.str s, encN c, .ptr n6 0] H fun v _ => v = .str (lsNx css s c) := by
  refine FnDoes.of (fn := ir108) rfl ?_
  have r6 := rd_ptr h6 (rt := none) (j := 0) (c := .mp m15) rfl rfl
  have l6 := lookT hm (s ++ strL [65 + c])
  have e1 := enc_col hc
  have hno : ¬ (9223372036854775807 : Int) < (s.size : Int) + ((strL [65 + c]).size : Int) := by rw [strL_size]; simp; omega
  have hb : (s.toList == (⟨#[45]⟩ : ByteArray).toList) = decide (s = dash) := by
    rw [Bool.eq_iff_iff, beq_iff_eq, decide_eq_true_iff]
    constructor
    · intro h
      rw [ByteArray.toList_eq, ByteArray.toList_eq] at h
      cases s with
      | mk x =>
        have : x = #[45] := Array.toList_inj.1 (by simpa using h)
        subst this; rfl
    · rintro rfl; rfl
  have e45 : (⟨#[45]⟩ : ByteArray).toList = [45] := by rw [ByteArray.toList_eq]
  rw [e45] at hb
  by_cases hd : s = dash
  · have hl : lsNx css s c = dash := by unfold lsNx; rw [if_neg (fun h => h.1 hd)]
    rw [decide_eq_true hd] at hb
    simp [ir108, e1, hno, hb]
    rw [hl]
    exact ⟨BH.Keeps.refl H, rfl⟩
  · rw [decide_eq_false hd] at hb
    by_cases hm2 : s ++ strL [65 + c] ∈ bgW css
    · have hl : lsNx css s c = s ++ strL [65 + c] := by unfold lsNx; rw [if_pos ⟨hd, hm2⟩]
      rw [decide_eq_true hm2] at l6
      simp [ir108, e1, hno, hb, r6, l6]
      rw [hl]
      exact ⟨BH.Keeps.refl H, rfl⟩
    · have hl : lsNx css s c = dash := by unfold lsNx; rw [if_neg (fun h => hm2 h.2)]
      rw [decide_eq_false hm2] at l6
      simp [ir108, e1, hno, hb, r6, l6]
      rw [hl]
      exact ⟨BH.Keeps.refl H, rfl⟩
end Go.Proofs.YtcnkhkmapgbodaaDoor.W
end

section
namespace Go.Proofs.YtcnkhkmapgbodaaDoor.W
set_option linter.unusedVariables false
set_option linter.unusedSimpArgs false
open Go.B
variable {base : Nat}
attribute [local simp] wpC_skip wpC_region wpC_seq wpC_true wpC_false wpC_block wpC_exit wpC_ret wpO_nil wpO_n wpO_tt wpO_ff wpO_tf wpO_ft wpO_u wpS_mov wpS_pick wpS_build wpS_load wpS_store wpS_nilck wpS_bin wpS_beq wpS_isnil wpS_eqs wpS_not wpS_neg wpS_conv wpS_lea wpS_fld wpS_idx wpS_idxs wpS_slice wpS_sslice wpS_mkfn wpS_mset wpS_look wpS_ext wpS_len wpS_new wpS_box wpS_mk wpS_mkmap wpS_mksl wpS_app wpS_fn wpS_call after_some pthen_n pthen_x pthen_r pin BExit.outOf puto_some puto_none put_eq put_ne Opd.ev argEnv op1_mov op1_pick op1_new op1_box op1_load op1_nilck op1_bin op1_beq op1_not op1_neg op1_conv op1_lea op1_fld op1_len0 op1_len1 op1_idx op1_ext op1_build op1_mk op1_stw op1_mksl op1_eqs pureBin isShift resOf resVals val_tmp val_cell oneOf one_int cells_int one_bool cells_bool one_str cells_str one_nilp cells_nilp one_ptr cells_ptr one_nils cells_nils one_sl cells_sl one_sle cells_sle one_nilm cells_nilm one_mp cells_mp one_nilf cells_nilf one_fn cells_fn one_nili cells_nili cells_agg isSl_sl slen_sl sat_sl make_of asm rtOk wpS_b2s op1_b2s wpS_imax op1_imax wpS_imin op1_imin wpS_i2s op1_i2s op1_isnil Option.map_some gam_base op1_app op1_idxs wpS_idxa op1_idxa op1_sslice bound_none bound_some nat_of op1_mkmap op1_mset op1_look op1_len2 op1_mkfn Go.B.fillB Has
open Go.Au
/-- Tuples that are right. -/
def TupOk (t : Nat) (tups : List (List (List Nat))) : Prop := ∀ ws ∈ tups, ws.length = t ∧ ∀ w ∈ ws, IsW w ∧ w.length ≤ 40
theorem TupOk.inw {t : Nat} {tups : List (List (List Nat))} (h : TupOk t tups) : ∀ cs ∈ tups.map colsW, In (wd t) cs := fun cs hcs => by
  obtain ⟨ws, hw, rfl⟩ := List.mem_map.1 hcs
  obtain ⟨h1, h2⟩ := h ws hw
  rw [← h1]
  exact cols_in fun w hw => (h2 w hw).1
theorem TupOk.len {t : Nat} {tups : List (List (List Nat))} (h : TupOk t tups) : ∀ cs ∈ tups.map colsW, cs.length ≤ 40 := fun cs hcs => by
  obtain ⟨ws, hw, rfl⟩ := List.mem_map.1 hcs
  rw [colsW_len]
  exact lng_le fun w hw' => ((h ws hw).2 w hw').2
theorem i_listMachine (t : Nat) (ht : t ≤ 3) (tups : List (List (List Nat))) (v : BV) (H : BH) (h : RdR H 58 9 v encW tups) (hok : TupOk t tups) (hn : tups.length ≤ 1000) :
    FnDoes (gam base) 78 [encN t, v] H fun m K => OwnM base H K t 0 (lsX t (tups.map colsW)) m := by
  obtain ⟨R, hR⟩ : ∃ R : BV → BH → Prop, R = fun m K => OwnM base H K t 0 (lsX t (tups.map colsW)) m := ⟨_, rfl⟩
  rw [← hR]
  refine FnDoes.of (fn := ir78) rfl ?_
  have hwd := wd_3 ht
  simp [ir78]
  intro n4 b4 f4
  simp [make_of f4 b4]
  intro n14 b14 f14
  simp [make_of f14 b14]
  intro n5 b5 f5
  simp [make_of f5 b5]
  have o1 := Own.start (base := base) (H := H) |>.new f4 b4 (s := .arr 62 [.int .i64 0, .int .i64 0, .nils, .nils]) |>.new f14 b14 (s := .mp (trueEs [])) |>.new f5 b5 (s := .arr 118 [.nilm])
  have e0 : trueEs [] = [] := rfl
  rw [e0] at o1
  obtain ⟨K1, g1, o2⟩ := o1.put 0 (b := n5) rfl (j := 0) (u := .mp n14) (by simp) rfl (rt := none) rfl
  simp [g1]
  intro n15 b15 f15
  simp [make_of f15 b15]
  intro n6 b6 f6
  simp [make_of f6 b6]
  have o3 := o2.new f15 b15 (s := .mp []) |>.new f6 b6 (s := .arr 118 [.nilm])
  obtain ⟨K2, g2, o4⟩ := o3.put 0 (b := n6) rfl (j := 0) (u := .mp n15) (by simp) rfl (rt := none) rfl
  simp [g2, h.isSl, h.len]
  obtain ⟨css, hcss⟩ : ∃ css, css = tups.map colsW := ⟨_, rfl⟩
  obtain ⟨Z, hZ⟩ : ∃ Z : List ByteArray → List ByteArray → List Sl, Z = fun bg tk => [(some n6, .arr 118 [.mp n15]), (some n15, .mp (trueEs bg)), (some n5, .arr 118 [.mp n14]), (some n14, .mp (trueEs tk)), (some n4, .arr 62 [.int .i64 0, .int .i64 0, .nils, .nils])] := ⟨_, rfl⟩
  obtain ⟨I, hI⟩ : ∃ I : Nat → Env → BH → Prop, I = (fun i e K => e 18 = encN i ∧ Own base H K (Z (bgW (css.take i)) (tkW (css.take i)))) := ⟨_, rfl⟩
  refine wpC_countK tups.length [(0, encN t), (4, .ptr n4 0), (5, .ptr n5 0), (6, .ptr n6 0), (16, v), (17, encN tups.length)] I (i0 := 0) rfl ?_ ?_ (Nat.zero_le _) ?_
  · simp
  · rw [hI, hZ]
    exact ⟨by simp, o4⟩
  clear o1 o2 o3 o4 g1 g2
  rintro i e K hi ⟨e0, e4, e5, e6, e16, e17, -⟩ hh
  rw [hI, hZ] at hh
  obtain ⟨e18, o⟩ := hh
  simp only [] at e0 e4 e5 e6 e16 e17 o
  have wi := wS (n := i) (by omega)
  by_cases hlt : i < tups.length
  · have hr' := h.keeps o.keeps
    obtain ⟨uw, q1, q2⟩ := h.at hlt
    have q2 := rd_keeps o.keeps (q2 none rfl)
    obtain ⟨ws, hws⟩ : ∃ ws, ws = tups[i] := ⟨_, rfl⟩
    obtain ⟨hw1, hw2⟩ := hok _ (List.getElem_mem hlt)
    rw [← hws] at q1 hw1 hw2
    have hcl : (colsW ws).length ≤ 40 := by rw [colsW_len]; exact lng_le fun w hw => (hw2 w hw).2
    have hin : In (wd t) (colsW ws) := by rw [← hw1]; exact cols_in fun w hw => (hw2 w hw).1
    have r6 := rd_ptr (o.at 0 (b := n6) rfl) (rt := none) (j := 0) (c := .mp n15) rfl rfl
    obtain ⟨K3, g3, o3⟩ := o.msetT 1 rfl (keyS [])
    have g3' : K.msetv base 1 (.mp n15) (.str ⟨#[]⟩) (.bool true) = some K3 := g3
    have hctk : css.take (i + 1) = css.take i ++ [colsW ws] := by
      rw [hcss, ← List.map_take, ← List.map_take, List.take_add_one, List.getElem?_eq_getElem hlt, List.map_append, ← hws]
      rfl
    simp [e16, e17, e18, hlt, hr'.isSl, hr'.len, q2, e6, r6, g3']
    refine (i_columnsOf (base := base) ws uw K3 (q1.keeps o3.keeps) (fun w hw => (hw2 w hw).1) (by omega) (fun w hw => by have := (hw2 w hw).2; omega)).step fun cv K4 k4 hv => ?_
    obtain ⟨co, hcv, hfr⟩ := hv
    have o4 := o3.take k4 hcv hfr
    have hcv' : Vec co cv (colsW ws).length := by simpa using hcv.vec
    simp [hcv'.isSl, hcv'.len]
    obtain ⟨cs, hcs⟩ : ∃ cs, cs = colsW ws := ⟨_, rfl⟩
    rw [← hcs] at hcl hin hctk o4 hcv' ⊢
    obtain ⟨J, hJ⟩ : ∃ J : Nat → Env → BH → Prop, J = (fun j e K => e 27 = encN j ∧ e 9 = .str (keyS (cs.take j)) ∧ Own base H K ((co, .arr 3 (cs.map encN)) :: Z (addAll (bgW (css.take i)) (preK cs (j + 1))) (tkW (css.take i)))) := ⟨_, rfl⟩
    refine wpC_countK cs.length [(0, encN t), (4, .ptr n4 0), (5, .ptr n5 0), (6, .ptr n6 0), (16, v), (17, encN tups.length), (18, encN i), (25, cv), (26, encN cs.length)] J (i0 := 0) rfl ?_ ?_ (Nat.zero_le _) ?_
    · simp [e0, e4, e5, e6, e16, e17, e18]
    · rw [hJ, hZ]
      refine ⟨by simp, by simp [keyS_nil], ?_⟩
      have : addAll (bgW (css.take i)) (preK cs (0 + 1)) = addK (bgW (css.take i)) (keyS []) := by simp [preK, addAll]
      rw [this]
      exact o4
    clear o o3 o4 g3 g3' r6 e0 e4 e5 e6 e16 e17 e18 hcv hfr
    rintro j e K hj ⟨e0, e4, e5, e6, e16, e17, e18, e25, e26, -⟩ hh
    rw [hJ, hZ] at hh
    obtain ⟨e27, e9, o⟩ := hh
    simp only [] at e0 e4 e5 e6 e16 e17 e18 e25 e26 o
    by_cases hlj : j < cs.length
    · have wj := wS (n := j) (by omega)
      have g1 := (o.rd 0 rfl (by simpa using hcv')).at (i := j) hlj (rt := none) rfl
      have hc26 : cs[j] < 26 := by have := hin _ (List.getElem_mem hlj); omega
      have e1 := enc_col hc26
      have hno : ¬ (9223372036854775807 : Int) < ((keyS (cs.take j)).size : Int) + ((strL [65 + cs[j]]).size : Int) := by
        rw [keyS_size, strL_size]
        simp
        omega
      have hks : keyS (cs.take j) ++ strL [65 + cs[j]] = keyS (cs.take (j + 1)) := by
        rw [keyS_snoc, List.take_add_one, List.getElem?_eq_getElem hlj]
        rfl
      have r6 := rd_ptr (o.at 1 (b := n6) rfl) (rt := none) (j := 0) (c := .mp n15) rfl rfl
      obtain ⟨K3, g3, o3⟩ := o.msetT 2 rfl (keyS (cs.take (j + 1)))
      simp [e25, e26, e27, hlj, hcv'.isSl, hcv'.len, g1, e9, e1, hno, hks, e6, r6, g3, wj]
      rw [hJ, hZ]
      refine ⟨by simp, by simp, ?_⟩
      rw [preK_succ, addAll_append]
      exact o3
    · have hje : j = cs.length := by omega
      subst hje
      rw [List.take_length] at e9
      have r5 := rd_ptr (o.at 3 (b := n5) rfl) (rt := none) (j := 0) (c := .mp n14) rfl rfl
      obtain ⟨K3, g3, o3⟩ := o.msetT 4 rfl (keyS cs)
      simp [e26, e27, e5, r5, e9, g3, e18, wi, hlt]
      rw [hI, hZ]
      refine ⟨by simp, ?_⟩
      rw [hctk, bgW_snoc, tkW_snoc]
      exact o3.tail
  have hie : i = tups.length := by omega
  subst hie
  have htk : css.take tups.length = css := by rw [hcss, ← List.map_take, List.take_length]
  rw [htk] at o
  -- the machine
  have hinw : ∀ cs ∈ css, In (wd t) cs := by rw [hcss]; exact hok.inw
  have hclen : ∀ cs ∈ css, cs.length ≤ 40 := by rw [hcss]; exact hok.len
  have hbl := bgW_len css hclen
  have hcn : css.length = tups.length := by rw [hcss, List.length_map]
  rw [hcn] at hbl
  have hb2 : (bgW css).length ≤ 41000 := by
    have : tups.length * (40 + 1) ≤ 1000 * (40 + 1) := Nat.mul_le_mul_right _ hn
    omega
  have hul : (lstU css).length = (bgW css).length + 2 := by simp [lstU]
  have hsz : ∀ s ∈ lstU css, s.size ≤ 1000000 := by
    intro s hs
    unfold lstU at hs
    rcases List.mem_cons.1 hs with rfl | hs
    · rw [keyS_size]; simp
    · rcases List.mem_cons.1 hs with rfl | hs
      · show 1 ≤ 1000000; omega
      · obtain ⟨cs, h1, i, h2, rfl⟩ := mem_bgW.1 hs
        have := hclen cs h1
        rw [keyS_size]
        simp
        omega
  have n5r := o.at 2 (b := n5) rfl
  have n6r := o.at 0 (b := n6) rfl
  have m14r := o.at 3 (b := n14) rfl
  have m15r := o.at 1 (b := n15) rfl
  simp [e0, e5, e6, e17, e18]
  have grow := i_grow_string (base := base) (fun s : ByteArray => BV.str s) (fun _ => rfl) keyEq_str (fun _ => rfl) t ht (keyS []) 0 107 108 [.ptr n5 0] [.ptr n6 0] (lsNx css) (lsAcc css) (lstU css) (lstU_closed css (wd t)) (by omega) K
    (fun L kL k hk => i_list1 n5 n14 css k L (by rw [kL n5 (by rw [n5r]; simp), n5r]) (by rw [kL n14 (by rw [m14r]; simp), m14r]))
    (fun L kL k hk c hc => i_list2 n6 n15 c css k L (by rw [kL n6 (by rw [n6r]; simp), n6r]) (by rw [kL n15 (by rw [m15r]; simp), m15r]) (by omega) (hsz k hk))
  refine grow.step fun v2 K5 k5 hv => ?_
  unfold GrowR at hv
  rw [if_neg (by omega)] at hv
  obtain ⟨mm, rfl, hmm⟩ := hv
  have hmm : OwnM base K K5 t 0 (lsX t css) mm := hmm
  have hrd := hmm.rd
  obtain ⟨uu, ww, rfl, hu, hw⟩ := id hrd
  have u1 := hu.one
  have w1 := one_of_isSl hw.isSl
  simp [u1, w1]
  intro n12 b12 f12
  obtain ⟨mu, mw, mbo, mwo, mvs, mfr, hme, om, hm1, hm2, hm3⟩ := hmm
  simp only [BV.agg.injEq, List.cons.injEq, and_true, true_and] at hme
  obtain ⟨hme1, hme2⟩ := hme
  subst hme1 hme2
  have oj := Own.join o k5 om
  obtain ⟨K6, g6, o6⟩ := (oj.new f12 b12 (s := .arr 62 [.int .i64 0, .int .i64 0, .nils, .nils])).putAll 0 (b := n12) (n := 4) (ds := [encN t, encN 0, uu, ww]) rfl rfl rfl (by simp [u1, w1]) (rt := none) rfl
  have r12 := rd_all (o6.at 0 (b := n12) rfl) (n := 4) (rt := none) rfl rfl
  obtain ⟨K7, g7, o7⟩ := o6.putAll 5 (b := n4) rfl (n := 4) (ds := [encN t, encN 0, uu, ww]) rfl rfl (by simp [u1, w1]) (rt := none) rfl
  have r4 := rd_all (o7.at 5 (b := n4) rfl) (n := 4) (rt := none) rfl rfl
  simp [make_of f12 b12, g6, r12, e4, g7, r4]
  rw [hR, ← hcss]
  exact ⟨o7.keeps, uu, ww, mbo, mwo, mvs, mfr, rfl, o7.drop 6, hm1, hm2, hm3⟩
end Go.Proofs.YtcnkhkmapgbodaaDoor.W
end

section
namespace Go.Proofs.YtcnkhkmapgbodaaDoor.W
set_option linter.unusedVariables false
set_option linter.unusedSimpArgs false
open Go.B
variable {base : Nat}
attribute [local simp] wpC_skip wpC_region wpC_seq wpC_true wpC_false wpC_block wpC_exit wpC_ret wpO_nil wpO_n wpO_tt wpO_ff wpO_tf wpO_ft wpO_u wpS_mov wpS_pick wpS_build wpS_load wpS_store wpS_nilck wpS_bin wpS_beq wpS_isnil wpS_eqs wpS_not wpS_neg wpS_conv wpS_lea wpS_fld wpS_idx wpS_idxs wpS_slice wpS_sslice wpS_mkfn wpS_mset wpS_look wpS_ext wpS_len wpS_new wpS_box wpS_mk wpS_mkmap wpS_mksl wpS_app wpS_fn wpS_call after_some pthen_n pthen_x pthen_r pin BExit.outOf puto_some puto_none put_eq put_ne Opd.ev argEnv op1_mov op1_pick op1_new op1_box op1_load op1_nilck op1_bin op1_beq op1_not op1_neg op1_conv op1_lea op1_fld op1_len0 op1_len1 op1_idx op1_ext op1_build op1_mk op1_stw op1_mksl op1_eqs pureBin isShift resOf resVals val_tmp val_cell oneOf one_int cells_int one_bool cells_bool one_str cells_str one_nilp cells_nilp one_ptr cells_ptr one_nils cells_nils one_sl cells_sl one_sle cells_sle one_nilm cells_nilm one_mp cells_mp one_nilf cells_nilf one_fn cells_fn one_nili cells_nili cells_agg isSl_sl slen_sl sat_sl make_of asm rtOk wpS_b2s op1_b2s wpS_imax op1_imax wpS_imin op1_imin wpS_i2s op1_i2s op1_isnil Option.map_some gam_base op1_app op1_idxs wpS_idxa op1_idxa op1_sslice bound_none bound_some nat_of op1_mkmap op1_mset op1_look op1_len2 op1_mkfn Go.B.fillB Has
open Go.Au
def totW (tups : List (List (List Nat))) : Nat := (tups.map fun ws => (colsW ws).length).sum
theorem totW_succ {tups : List (List (List Nat))} {i : Nat} (h : i < tups.length) : totW (tups.take (i + 1)) = totW (tups.take i) + (colsW tups[i]).length := by
  unfold totW
  rw [List.take_add_one, List.getElem?_eq_getElem h, List.map_append, List.sum_append]
  simp
theorem totW_le {tups : List (List (List Nat))} {N : Nat} (h : ∀ ws ∈ tups, (colsW ws).length ≤ N) : totW tups ≤ tups.length * N := by
  induction tups with
  | nil => simp [totW]
  | cons ws tups ih =>
    have h1 := ih fun x hx => h x (List.mem_cons_of_mem _ hx)
    have h2 := h ws List.mem_cons_self
    simp only [totW, List.map_cons, List.sum_cons, List.length_cons, Nat.succ_mul] at h1 ⊢
    omega
def lsL (tups : List (List (List Nat))) (cs : List Nat) : Bool := decide (cs ∈ tups.map colsW)
noncomputable def relOfN (t : Nat) (tups : List (List (List Nat))) : Option Aut × Nat := if 300 < tups.length then (none, 2) else if 1000 < totW tups then (none, 3) else told (TA t (lsL tups))
theorem ls_TA {t : Nat} (ht : t ≤ 3) {tups : List (List (List Nat))} (hok : TupOk t tups) : TA t ((lsX t (tups.map colsW)).lang 0) = TA t (lsL tups) := TA_congr fun cs hc _ => (lsX_ok ht hok.inw).2.2 cs hc
theorem ls_small {t : Nat} (ht : t ≤ 3) {tups : List (List (List Nat))} (hok : TupOk t tups) (hn : tups.length ≤ 300) : (lsX t (tups.map colsW)).acc.length ≤ 12400 := by
  have h1 := (lsX_ok ht hok.inw).2.1
  have h2 := bgW_len (tups.map colsW) hok.len
  rw [List.length_map] at h2
  have : tups.length * (40 + 1) ≤ 300 * (40 + 1) := Nat.mul_le_mul_right _ hn
  omega
theorem i_RelationOf (t : Nat) (ht1 : 1 ≤ t) (ht : t ≤ 3) (tups : List (List (List Nat))) (v : BV) (H : BH) (h : RdR H 58 9 v encW tups) (hok : TupOk t tups) (hn : tups.length ≤ 1000000000) :
    FnDoes (gam base) 50 [encN t, v] H fun m K => RelR base H t (relOfN t tups) m K := by
  obtain ⟨R, hR⟩ : ∃ R : BV → BH → Prop, R = fun m K => RelR base H t (relOfN t tups) m K := ⟨_, rfl⟩
  rw [← hR]
  refine FnDoes.of (fn := ir50) rfl ?_
  simp [ir50]
  intro n4 b4 f4
  have o0 := Own.start (base := base) (H := H) |>.new f4 b4 (s := .arr 29 [.int .i64 0, .int .i64 0, .nils, .nils])
  simp [make_of f4 b4, h.isSl, h.len]
  obtain ⟨I, hI⟩ : ∃ I : Nat → Env → BH → Prop, I = (fun i e K => e 13 = encN i ∧ Own base H K [(some n4, .arr 29 [.int .i64 0, .int .i64 0, .nils, .nils])]) := ⟨_, rfl⟩
  refine wpC_countK tups.length [(0, encN t), (1, v), (4, .ptr n4 0), (11, v), (12, encN tups.length)] I (i0 := 0) rfl ?_ ?_ (Nat.zero_le _) ?_
  · simp
  · rw [hI]; exact ⟨by simp, o0⟩
  clear o0
  rintro i e K hi ⟨e0, e1, e4, e11, e12, -⟩ hh
  rw [hI] at hh
  obtain ⟨e13, o⟩ := hh
  simp only [] at e0 e1 e4 e11 e12
  have wi := wS (n := i) (by omega)
  by_cases hlt : i < tups.length
  · obtain ⟨uw, q1, q2⟩ := h.at hlt
    have q2 := rd_keeps o.keeps (q2 none rfl)
    obtain ⟨hw1, hw2⟩ := hok _ (List.getElem_mem hlt)
    simp [e11, e12, e13, hlt, h.isSl, h.len, q2]
    refine (i_wordsOk (base := base) tups[i] uw K (q1.keeps o.keeps) hw2 (by omega)).step fun v2 K2 k2 hv => ?_
    subst hv
    simp [e13, wi, hlt]
    rw [hI]
    exact ⟨by simp, o.call k2⟩
  have hie : i = tups.length := by omega
  subst hie
  have hin1 : inB t 1 3 = true := by simp [inB]; omega
  simp [e0, e12, e13]
  refine callP (i_areTapes t K) ?_
  rw [hin1]
  have r4 := rd_all (o.at 0 (b := n4) rfl) (n := 4) (rt := none) rfl rfl
  by_cases h300 : 300 < tups.length
  · have h300' : (300 : Int) < (tups.length : Int) := by omega
    obtain ⟨K7, g7, o7⟩ := o.putAll 0 (b := n4) rfl (n := 4) (ds := [.int .i64 0, .int .i64 0, .nils, .nils]) rfl rfl rfl (rt := none) rfl
    have r5 := rd_all (o7.at 0 (b := n4) rfl) (n := 4) (rt := none) rfl rfl
    simp [e1, h.isSl, h.len, h300, h300', e4, g7, r5]
    rw [hR]
    refine ⟨o7.keeps, ?_⟩
    unfold relOfN
    rw [if_pos h300]
    rfl
  have h300' : ¬ (300 : Int) < (tups.length : Int) := by omega
  simp [e1, h.isSl, h.len, h300, h300']
  have hcl : ∀ ws ∈ tups, (colsW ws).length ≤ 40 := fun ws hws => hok.len _ (List.mem_map.2 ⟨ws, hws, rfl⟩)
  obtain ⟨J, hJ⟩ : ∃ J : Nat → Env → BH → Prop, J = (fun i e K => e 33 = encN i ∧ e 8 = encN (totW (tups.take i)) ∧ Own base H K [(some n4, .arr 29 [.int .i64 0, .int .i64 0, .nils, .nils])]) := ⟨_, rfl⟩
  refine wpC_countK tups.length [(0, encN t), (1, v), (4, .ptr n4 0), (31, v), (32, encN tups.length)] J (i0 := 0) rfl ?_ ?_ (Nat.zero_le _) ?_
  · simp [e0, e1, e4]
  · rw [hJ]; exact ⟨by simp, by simp [totW], o⟩
  clear o e0 e1 e4 e11 e12 e13 r4 wi hi hlt
  rintro i e K hi ⟨e0, e1, e4, e31, e32, -⟩ hh
  rw [hJ] at hh
  obtain ⟨e33, e8, o⟩ := hh
  simp only [] at e0 e1 e4 e31 e32
  have wi := wS (n := i) (by omega)
  have htl := totW_le (tups := tups.take i) (N := 40) fun ws hws => hcl ws (List.mem_of_mem_take hws)
  have htl2 : (tups.take i).length * 40 ≤ 300 * 40 := Nat.mul_le_mul_right _ (by simp; omega)
  by_cases hlt : i < tups.length
  · obtain ⟨uw, q1, q2⟩ := h.at hlt
    have q2 := rd_keeps o.keeps (q2 none rfl)
    obtain ⟨hw1, hw2⟩ := hok _ (List.getElem_mem hlt)
    have hul : uw.slen = t := by rw [q1.lenM, hw1]
    have hsl := q1.isSl
    have hc1 := hcl _ (List.getElem_mem hlt)
    simp [e0, e31, e32, e33, hlt, h.isSl, h.len, q2, hsl, hul]
    refine (i_columnsOf (base := base) tups[i] uw K (q1.keeps o.keeps) (fun w hw => (hw2 w hw).1) (by omega) (fun w hw => by have := (hw2 w hw).2; omega)).step fun cv K4 k4 hv => ?_
    obtain ⟨co, hcv, hfr⟩ := hv
    have hcv' : Vec co cv (colsW tups[i]).length := by simpa using hcv.vec
    have wt : IntKind.i64.wrap (((totW (tups.take i) : Nat) : Int) + (((colsW tups[i]).length : Nat) : Int)) = ((totW (tups.take (i + 1)) : Nat) : Int) := by
      rw [totW_succ hlt, ← Int.natCast_add]; exact wN (by omega)
    simp [hcv'.isSl, hcv'.len, e8, wt, e33, wi, hlt]
    rw [hJ]
    exact ⟨by simp, by simp, o.call k4⟩
  have hie : i = tups.length := by omega
  subst hie
  rw [List.take_length] at e8 htl htl2
  simp [e32, e33, e8]
  by_cases h1000 : 1000 < totW tups
  · have h1000' : (1000 : Int) < (totW tups : Int) := by omega
    obtain ⟨K7, g7, o7⟩ := o.putAll 0 (b := n4) rfl (n := 4) (ds := [.int .i64 0, .int .i64 0, .nils, .nils]) rfl rfl rfl (rt := none) rfl
    have r5 := rd_all (o7.at 0 (b := n4) rfl) (n := 4) (rt := none) rfl rfl
    simp [h1000, h1000', e4, g7, r5]
    rw [hR]
    refine ⟨o7.keeps, ?_⟩
    unfold relOfN
    rw [if_neg h300, if_pos h1000]
    rfl
  have h1000' : ¬ (1000 : Int) < (totW tups : Int) := by omega
  simp [h1000, h1000', e0, e1]
  refine (i_listMachine (base := base) t ht tups v K (h.keeps o.keeps) hok (by omega)).step fun mm K2 k2 hm => ?_
  obtain ⟨hX1, hX2, hX3⟩ := lsX_ok ht hok.inw
  have hXs := ls_small ht hok (by omega)
  simp
  refine (i_tidied (base := base) t 0 ht _ mm K2 hm.rd hX1 hX1.pos (by omega)).step fun v3 K3 k3 hv3 => ?_
  rw [ls_TA ht hok] at hv3
  have hres : relOfN t tups = told (TA t (lsL tups)) := by unfold relOfN; rw [if_neg h300, if_neg h1000]
  have hoo := (o.call k2).call k3
  rw [← hres] at hv3
  rw [hR]
  obtain ⟨ra, rc, hrr⟩ : ∃ ra rc, relOfN t tups = (ra, rc) := ⟨_, _, rfl⟩
  rw [hrr] at hv3 ⊢
  cases ra with
  | none =>
    have hv3 : v3 = .tup [.agg [encN 0, encN 0, .nils, .nils], encN rc] := hv3
    subst hv3
    obtain ⟨K7, g7, o7⟩ := hoo.putAll 0 (b := n4) rfl (n := 4) (ds := [encN 0, encN 0, .nils, .nils]) rfl rfl rfl (rt := none) rfl
    have r5 := rd_all (o7.at 0 (b := n4) rfl) (n := 4) (rt := none) rfl rfl
    simp [e4, g7, r5]
    exact ⟨o7.keeps, rfl⟩
  | some A =>
    obtain ⟨m, rfl, hmm⟩ := hv3
    obtain ⟨mu, mw, mbo, mwo, mvs, mfr, rfl, om, hm1, hm2, hm3⟩ := hmm
    have u1 := hm1.one
    have w1 := hm2.one
    have oj := Own.join (o.call k2) k3 om
    obtain ⟨K7, g7, o7⟩ := oj.putAll 0 (b := n4) rfl (n := 4) (ds := [encN t, encN 0, mu, mw]) rfl rfl (by simp [u1, w1]) (rt := none) rfl
    have r5 := rd_all (o7.at 0 (b := n4) rfl) (n := 4) (rt := none) rfl rfl
    simp [e4, g7, r5]
    exact ⟨o7.keeps, _, rfl, mu, mw, mbo, mwo, mvs, mfr, rfl, o7.tail, hm1, hm2, hm3⟩
end Go.Proofs.YtcnkhkmapgbodaaDoor.W
end

section
namespace Go.Proofs.YtcnkhkmapgbodaaDoor.W
set_option linter.unusedVariables false
set_option linter.unusedSimpArgs false
open Go.B
variable {base : Nat}
attribute [local simp] wpC_skip wpC_region wpC_seq wpC_true wpC_false wpC_block wpC_exit wpC_ret wpO_nil wpO_n wpO_tt wpO_ff wpO_tf wpO_ft wpO_u wpS_mov wpS_pick wpS_build wpS_load wpS_store wpS_nilck wpS_bin wpS_beq wpS_isnil wpS_eqs wpS_not wpS_neg wpS_conv wpS_lea wpS_fld wpS_idx wpS_idxs wpS_slice wpS_sslice wpS_mkfn wpS_mset wpS_look wpS_ext wpS_len wpS_new wpS_box wpS_mk wpS_mkmap wpS_mksl wpS_app wpS_fn wpS_call after_some pthen_n pthen_x pthen_r pin BExit.outOf puto_some puto_none put_eq put_ne Opd.ev argEnv op1_mov op1_pick op1_new op1_box op1_load op1_nilck op1_bin op1_beq op1_not op1_neg op1_conv op1_lea op1_fld op1_len0 op1_len1 op1_idx op1_ext op1_build op1_mk op1_stw op1_mksl op1_eqs pureBin isShift resOf resVals val_tmp val_cell oneOf one_int cells_int one_bool cells_bool one_str cells_str one_nilp cells_nilp one_ptr cells_ptr one_nils cells_nils one_sl cells_sl one_sle cells_sle one_nilm cells_nilm one_mp cells_mp one_nilf cells_nilf one_fn cells_fn one_nili cells_nili cells_agg isSl_sl slen_sl sat_sl make_of asm rtOk wpS_b2s op1_b2s wpS_imax op1_imax wpS_imin op1_imin wpS_i2s op1_i2s op1_isnil Option.map_some gam_base op1_app op1_idxs wpS_idxa op1_idxa op1_sslice bound_none bound_some nat_of op1_mkmap op1_mset op1_look op1_len2 op1_mkfn Go.B.fillB Has
open Go.Au
/-- The beginnings, and which of them are whole. -/
structure Tr (PS dn : List (List Nat)) : Prop where
  nodup : PS.Nodup
  root : PS[0]? = some []
  pre : ∀ p c, p ++ [c] ∈ PS → p ∈ PS
  whole : ∀ cs ∈ dn, cs ∈ PS
def idN (PS : List (List Nat)) (p : List Nat) : Nat := if p ∈ PS then pos PS p + 1 else 0
def trRow (w : Nat) (PS : List (List Nat)) (p : List Nat) : List Nat := (List.range w).map fun c => idN PS (p ++ [c])
def trA (w : Nat) (PS dn : List (List Nat)) : Aut := ⟨false :: PS.map (fun p => decide (p ∈ dn)), List.replicate w 0 :: PS.map (trRow w PS)⟩
theorem Tr.start : Tr [[]] [] := ⟨by simp, rfl, fun p c h => by simp at h, fun _ h => by cases h⟩
theorem Tr.mem {PS dn : List (List Nat)} (h : Tr PS dn) : [] ∈ PS := List.mem_of_getElem? h.root
theorem idN_lt {PS : List (List Nat)} (p : List Nat) : idN PS p < PS.length + 1 := by
  unfold idN
  split
  · rename_i h
    have := (idx_get h).1
    omega
  · omega
theorem trA_ok {w : Nat} {PS dn : List (List Nat)} (h : Tr PS dn) : (trA w PS dn).Ok w := by
  refine ⟨by simp [trA], by simp [trA], fun r hr => ?_⟩
  simp only [trA, List.length_cons, List.length_map] at hr ⊢
  rcases List.mem_cons.1 hr with rfl | hr
  · exact ⟨by simp, fun q hq => by have := List.eq_of_mem_replicate hq; omega⟩
  · obtain ⟨p, hp, rfl⟩ := List.mem_map.1 hr
    refine ⟨by simp [trRow], fun q hq => ?_⟩
    obtain ⟨c, _, rfl⟩ := List.mem_map.1 hq
    exact idN_lt _
theorem Tr.pres {PS dn : List (List Nat)} (h : Tr PS dn) : ∀ (ds p : List Nat), p ++ ds ∈ PS → p ∈ PS
  | [], p, hm => by simpa using hm
  | d :: ds, p, hm => h.pre p d (Tr.pres h ds (p ++ [d]) (by simpa using hm))
theorem trA_to {w : Nat} {PS dn : List (List Nat)} {p : List Nat} (hp : p ∈ PS) {c : Nat} (hc : c < w) : (trA w PS dn).to (pos PS p + 1) c = idN PS (p ++ [c]) := by
  obtain ⟨h1, h2⟩ := idx_get hp
  unfold Aut.to trA
  simp only [List.getD_cons_succ]
  rw [getD_map h1, h2]
  unfold trRow
  rw [getD_map (by simpa using hc)]
  simp
theorem trA_dead {w : Nat} {PS dn : List (List Nat)} {c : Nat} (hc : c < w) : (trA w PS dn).to 0 c = 0 := by
  unfold Aut.to trA
  simp [hc]
theorem trA_run0 {w : Nat} {PS dn : List (List Nat)} : ∀ {cs : List Nat}, In w cs → (trA w PS dn).run 0 cs = 0
  | [], _ => rfl
  | c :: cs, h => by
    show (trA w PS dn).run ((trA w PS dn).to 0 c) cs = 0
    rw [trA_dead h.head]
    exact trA_run0 h.tail
theorem trA_run {w : Nat} {PS dn : List (List Nat)} (h : Tr PS dn) : ∀ (cs p : List Nat), p ∈ PS → In w cs → (trA w PS dn).run (pos PS p + 1) cs = idN PS (p ++ cs)
  | [], p, hp, _ => by simp [Aut.run, idN, hp]
  | c :: cs, p, hp, hin => by
    show (trA w PS dn).run ((trA w PS dn).to (pos PS p + 1) c) cs = _
    rw [trA_to hp hin.head]
    by_cases hm : p ++ [c] ∈ PS
    · have e : idN PS (p ++ [c]) = pos PS (p ++ [c]) + 1 := by simp [idN, hm]
      rw [e, trA_run h cs (p ++ [c]) hm hin.tail]
      simp
    · have e : idN PS (p ++ [c]) = 0 := by simp [idN, hm]
      rw [e, trA_run0 hin.tail]
      have hn : p ++ c :: cs ∉ PS := fun hh => hm (Tr.pres h cs (p ++ [c]) (by simpa using hh))
      simp [idN, hn]
theorem trA_lang {w : Nat} {PS dn : List (List Nat)} (h : Tr PS dn) {cs : List Nat} (hin : In w cs) : (trA w PS dn).lang 1 cs = decide (cs ∈ dn) := by
  have h0 : pos PS [] = 0 := by
    obtain ⟨r, hr⟩ : ∃ r, PS = [] :: r := by
      cases hP : PS with
      | nil => have := h.root; rw [hP] at this; simp at this
      | cons x r =>
        have := h.root
        rw [hP] at this
        simp at this
        exact ⟨r, by rw [this]⟩
    rw [hr]
    simp [pos]
  have h1 := trA_run h cs [] h.mem hin
  rw [h0, List.nil_append] at h1
  unfold Aut.lang
  rw [show (1 : Nat) = 0 + 1 from rfl, h1]
  by_cases hm : cs ∈ PS
  · obtain ⟨g1, g2⟩ := idx_get hm
    have e : idN PS cs = pos PS cs + 1 := by simp [idN, hm]
    rw [e]
    simp only [trA, List.getD_cons_succ]
    rw [getD_map g1, g2]
  · have e : idN PS cs = 0 := by simp [idN, hm]
    rw [e]
    have hn : cs ∉ dn := fun hh => hm (h.whole cs hh)
    simp [trA, hn]
/-- A beginning more. -/
theorem Tr.add {PS dn : List (List Nat)} (h : Tr PS dn) {p : List Nat} {c : Nat} (hp : p ∈ PS) (hn : p ++ [c] ∉ PS) : Tr (PS ++ [p ++ [c]]) dn := by
  refine ⟨?_, ?_, fun q d hq => ?_, fun cs hcs => List.mem_append_left _ (h.whole cs hcs)⟩
  · rw [List.nodup_append]
    refine ⟨h.nodup, by simp, ?_⟩
    intro a ha b hb
    rw [List.mem_singleton] at hb
    subst hb
    rintro rfl
    exact hn ha
  · have := h.root
    rw [List.getElem?_append_left (List.getElem?_eq_some_iff.1 this).1, this]
  · rcases List.mem_append.1 hq with hq | hq
    · exact List.mem_append_left _ (h.pre q d hq)
    · rw [List.mem_singleton] at hq
      have := (List.append_inj' hq (by simp)).1
      rw [this]
      exact List.mem_append_left _ hp
theorem Tr.done {PS dn : List (List Nat)} (h : Tr PS dn) {cs : List Nat} (hm : cs ∈ PS) : Tr PS (dn ++ [cs]) := ⟨h.nodup, h.root, h.pre, fun ds hd => by
  rcases List.mem_append.1 hd with hd | hd
  · exact h.whole ds hd
  · rw [List.mem_singleton] at hd
    subst hd
    exact hm⟩
theorem idN_add {PS : List (List Nat)} {x q : List Nat} (hx : x ∉ PS) : idN (PS ++ [x]) q = if q = x then PS.length + 1 else idN PS q := by
  unfold idN
  by_cases h : q = x
  · subst h
    rw [if_pos (by simp), if_pos rfl]
    have : pos (PS ++ [q]) q = PS.length := by
      have h1 := idx_new (ks := PS) (k := q) hx
      unfold addK at h1
      rwa [if_neg hx] at h1
    rw [this]
  · rw [if_neg h]
    by_cases hq : q ∈ PS
    · rw [if_pos (List.mem_append_left _ hq), if_pos hq, idx_pre (List.prefix_append PS [x]) hq]
    · rw [if_neg (by simp [hq, h]), if_neg hq]
/-- The rows, when a beginning is added. -/
theorem rows_add {w : Nat} {PS dn : List (List Nat)} (h : Tr PS dn) {p : List Nat} {c : Nat} (hp : p ∈ PS) (hn : p ++ [c] ∉ PS) :
    (PS ++ [p ++ [c]]).map (trRow w (PS ++ [p ++ [c]])) = (PS.map (trRow w PS)).set (pos PS p) ((trRow w PS p).set c (PS.length + 1)) ++ [List.replicate w 0] := by
  obtain ⟨h1, h2⟩ := idx_get hp
  rw [List.map_append]
  congr 1
  · apply List.ext_getElem
    · simp
    · intro i g1 g2
      simp only [List.length_map] at g1
      rw [List.getElem_map, List.getElem_set]
      have row : ∀ q, q ∈ PS → q ≠ p → trRow w (PS ++ [p ++ [c]]) q = trRow w PS q := fun q hq hqp => by
        unfold trRow
        refine List.map_congr_left fun d _ => ?_
        rw [idN_add hn, if_neg]
        intro he
        exact hqp (List.append_inj' he (by simp)).1
      by_cases hi : pos PS p = i
      · rw [if_pos hi]
        have hpi : PS[i] = p := by simp only [← hi, h2]
        rw [hpi]
        apply List.ext_getElem
        · simp [trRow]
        · intro d k1 k2
          simp only [trRow, List.length_map, List.length_range] at k1
          rw [List.getElem_set]
          simp only [trRow, List.getElem_map, List.getElem_range]
          rw [idN_add hn]
          by_cases hd : c = d
          · subst hd; simp
          · have : ¬ p ++ [d] = p ++ [c] := fun he => hd (by have := (List.append_inj' he (by simp)).2; simp at this; exact this.symm)
            rw [if_neg this, if_neg hd]
      · rw [if_neg hi, List.getElem_map]
        exact row _ (List.getElem_mem g1) fun he => hi (by rw [← he]; exact idx_of_get h.nodup g1)
  · simp only [List.map_cons, List.map_nil]
    congr 1
    apply List.ext_getElem
    · simp [trRow]
    · intro d k1 k2
      simp only [trRow, List.getElem_map, List.getElem_range, List.getElem_replicate]
      rw [idN_add hn, if_neg (fun he => by have := congrArg List.length he; simp at this)]
      unfold idN
      rw [if_neg (fun hh => hn (h.pre _ _ hh))]
theorem accs_add {PS dn : List (List Nat)} (h : Tr PS dn) {x : List Nat} (hn : x ∉ PS) : (PS ++ [x]).map (fun p => decide (p ∈ dn)) = PS.map (fun p => decide (p ∈ dn)) ++ [false] := by
  rw [List.map_append]
  congr 1
  have : x ∉ dn := fun hh => hn (h.whole x hh)
  simp [this]
theorem accs_done {PS dn : List (List Nat)} (h : Tr PS dn) {cs : List Nat} (hm : cs ∈ PS) : (PS.map (fun p => decide (p ∈ dn))).set (pos PS cs) true = PS.map (fun p => decide (p ∈ dn ++ [cs])) := by
  obtain ⟨h1, h2⟩ := idx_get hm
  apply List.ext_getElem
  · simp
  · intro i g1 g2
    simp only [List.length_set, List.length_map] at g1
    rw [List.getElem_set, List.getElem_map, List.getElem_map]
    by_cases hi : pos PS cs = i
    · have : PS[i] = cs := by simp only [← hi, h2]
      rw [if_pos hi, this]
      simp
    · rw [if_neg hi]
      have : PS[i] ≠ cs := fun he => hi (by rw [← he]; exact idx_of_get h.nodup g1)
      simp [this]
end Go.Proofs.YtcnkhkmapgbodaaDoor.W
end

section
namespace Go.Proofs.YtcnkhkmapgbodaaDoor.W
set_option linter.unusedVariables false
set_option linter.unusedSimpArgs false
open Go.B
variable {base : Nat}
attribute [local simp] wpC_skip wpC_region wpC_seq wpC_true wpC_false wpC_block wpC_exit wpC_ret wpO_nil wpO_n wpO_tt wpO_ff wpO_tf wpO_ft wpO_u wpS_mov wpS_pick wpS_build wpS_load wpS_store wpS_nilck wpS_bin wpS_beq wpS_isnil wpS_eqs wpS_not wpS_neg wpS_conv wpS_lea wpS_fld wpS_idx wpS_idxs wpS_slice wpS_sslice wpS_mkfn wpS_mset wpS_look wpS_ext wpS_len wpS_new wpS_box wpS_mk wpS_mkmap wpS_mksl wpS_app wpS_fn wpS_call after_some pthen_n pthen_x pthen_r pin BExit.outOf puto_some puto_none put_eq put_ne Opd.ev argEnv op1_mov op1_pick op1_new op1_box op1_load op1_nilck op1_bin op1_beq op1_not op1_neg op1_conv op1_lea op1_fld op1_len0 op1_len1 op1_idx op1_ext op1_build op1_mk op1_stw op1_mksl op1_eqs pureBin isShift resOf resVals val_tmp val_cell oneOf one_int cells_int one_bool cells_bool one_str cells_str one_nilp cells_nilp one_ptr cells_ptr one_nils cells_nils one_sl cells_sl one_sle cells_sle one_nilm cells_nilm one_mp cells_mp one_nilf cells_nilf one_fn cells_fn one_nili cells_nili cells_agg isSl_sl slen_sl sat_sl make_of asm rtOk wpS_b2s op1_b2s wpS_imax op1_imax wpS_imin op1_imin wpS_i2s op1_i2s op1_isnil Option.map_some gam_base op1_app op1_idxs wpS_idxa op1_idxa op1_sslice bound_none bound_some nat_of op1_mkmap op1_mset op1_look op1_len2 op1_mkfn Go.B.fillB Has
open Go.Au
theorem s_own (cs : List BV) (v : BV) (H : BH) (h : Rd H 2 v cs) (hp : 0 < cs.length) (hone : ∀ c ∈ cs, c.one = true) (hn : cs.length ≤ 1000000) : FnDoes (gam base) 75 [v] H fun v' K => ∃ bo, OwnV base K 2 v' cs bo ∧ Fr H bo := by
  refine FnDoes.of (fn := ir75) rfl ?_
  simp [ir75]
  intro n3 b3 f3
  simp [make_of f3 b3]
  intro n5 b5 f5
  have o := Own.start (base := base) (H := H) |>.new f3 b3 (s := .arr 2 [])
  obtain ⟨v', K', bo', a1, a2, a3⟩ := o.app 0 rfl (v := .sl n3 0 0) rfl (vy := v) (new := cs) (bytes := 8) (nb := n5) ((h.keeps o.keeps).cells hp) hone (by simp; omega) (by simp; omega) f5 b5
  simp [a1]
  exact ⟨a2.keeps, bo', a2.vec 0 rfl (by simpa using a3), fun b hb => by subst hb; exact a2.fr 0 rfl⟩
/-- The tree in memory. -/
def TrSt (base : Nat) (H : BH) (t n9 n4 : Nat) (v10 : BV) (PS dn : List (List Nat)) (X : Sl) (K : BH) : Prop := ∃ av ao wv wo vs fr,
  Own base H K ([X, (ao, .arr 4 ((trA (wd t) PS dn).acc.map encB)), (wo, .arr 37 vs), (some n9, .arr 29 [encN t, encN 1, av, wv]), (some n4, .arr 29 [.int .i64 0, .int .i64 0, .nils, .nils])] ++ fr) ∧
  Vec ao av (PS.length + 1) ∧ Vec wo wv vs.length ∧ RowsOf 2 vs fr ((trA (wd t) PS dn).nxt.map (·.map encN)) ∧ vs[0]? = some v10
theorem tr_row {t : Nat} {PS dn : List (List Nat)} {p : List Nat} (hp : p ∈ PS) : ((trA (wd t) PS dn).nxt.map (·.map encN))[pos PS p + 1]? = some ((trRow (wd t) PS p).map encN) := by
  obtain ⟨h1, h2⟩ := idx_get hp
  simp [trA, h1, h2]
theorem trA_nlen (w : Nat) (PS dn : List (List Nat)) : (trA w PS dn).nxt.length = PS.length + 1 := by simp [trA]
theorem trA_alen (w : Nat) (PS dn : List (List Nat)) : (trA w PS dn).acc.length = PS.length + 1 := by simp [trA]
theorem tr_read {H K : BH} {t n9 n4 : Nat} {v10 : BV} {PS dn : List (List Nat)} {X : Sl} {p : List Nat} {c : Nat} (h : TrSt base H t n9 n4 v10 PS dn X K) (hp : p ∈ PS) (hc : c < wd t) :
    ∃ wv row, K.rd none none (.ptr n9 3) = some wv ∧ wv.isSl = true ∧ wv.slen = PS.length + 1 ∧ pos PS p + 1 < PS.length + 1 ∧ K.rd none none (wv.sat (pos PS p + 1) 1) = some row ∧ row.isSl = true ∧ row.slen = wd t ∧ K.rd none none (row.sat c 1) = some (encN (idN PS (p ++ [c]))) := by
  obtain ⟨av, ao, wv, wo, vs, fr, o, hav, hwv, hr, h0⟩ := h
  have hl := hr.len.1
  rw [List.length_map, trA_nlen] at hl
  obtain ⟨g1, g2⟩ := idx_get hp
  have hs : pos PS p + 1 < vs.length := by omega
  obtain ⟨bo, hfr, hv⟩ := hr.get (i := pos PS p + 1) (u := vs[pos PS p + 1]) (by simp [hs]) (tr_row hp)
  have hv' : Vec bo vs[pos PS p + 1] (wd t) := by simpa [trRow] using hv
  have r1 := (o.rd 2 rfl hwv).get (i := pos PS p + 1) hs (rt := none) rfl
  have hd := o.rd (ty := 2) (5 + (pos PS p + 1)) (by rw [show 5 + (pos PS p + 1) = (pos PS p + 1) + 1 + 1 + 1 + 1 + 1 by omega]; simpa using hfr) hv
  have hc' : c < (trRow (wd t) PS p).length := by simpa [trRow] using hc
  have r2 := hd.at (i := c) hc' (rt := none) rfl
  have e2 : (trRow (wd t) PS p)[c] = idN PS (p ++ [c]) := by simp [trRow]
  rw [e2] at r2
  exact ⟨wv, vs[pos PS p + 1], rd_ptr (o.at 3 (b := n9) rfl) (rt := none) rfl rfl, hwv.isSl, by rw [hwv.len, hl], by omega, r1, hv'.isSl, hv'.len, r2⟩
theorem wd_pos {t : Nat} (ht1 : 1 ≤ t) : 2 ≤ wd t := by
  have h1 := p3_le ht1
  have h2 : p3 1 = 3 := rfl
  unfold wd
  omega
def Re1 (base : Nat) (H : BH) (t : Nat) (tups : List (List (List Nat))) (v : BV) (e : Env) (K : BH) : Prop := ¬ 300 < tups.length ∧ ¬ 1000 < totW tups ∧ ∃ n4, Has e [(0, encN t), (1, v), (4, .ptr n4 0)] ∧ Own base H K [(some n4, .arr 29 [.int .i64 0, .int .i64 0, .nils, .nils])]
theorem rel_p1 (t : Nat) (tups : List (List (List Nat))) (v : BV) (H : BH) (h : RdR H 58 9 v encW tups) (hok : TupOk t tups) (ht1 : 1 ≤ t) (ht : t ≤ 3) (hn : tups.length ≤ 1000000000) (R : BV → BH → Prop) (hR : ∀ K, H.Keeps K → (300 < tups.length → R (.tup [.agg [encN 0, encN 0, .nils, .nils], encN 2]) K) ∧ (¬ 300 < tups.length → 1000 < totW tups → R (.tup [.agg [encN 0, encN 0, .nils, .nils], encN 3]) K)) :
    wpC base (Runs (gam base)) (ir48.body.hd 6) (Post.then (Re1 base H t tups v) (fun x e' K => (x = .normal ∨ x = .ret) ∧ ∃ v, resOf ir48.results e' K = some v ∧ H.Keeps K ∧ R v K)) (argEnv [encN t, v]) H := by
  obtain ⟨Y, hY⟩ : ∃ Y : Env → BH → Prop, Y = Re1 base H t tups v := ⟨_, rfl⟩
  rw [← hY]
  simp [ir48, BCode.hd]
  intro n4 b4 f4
  have o0 := Own.start (base := base) (H := H) |>.new f4 b4 (s := .arr 29 [.int .i64 0, .int .i64 0, .nils, .nils])
  simp [make_of f4 b4]
  obtain ⟨I, hI⟩ : ∃ I : Nat → Env → BH → Prop, I = (fun i e K => e 6 = encN i ∧ Own base H K [(some n4, .arr 29 [.int .i64 0, .int .i64 0, .nils, .nils])]) := ⟨_, rfl⟩
  refine wpC_countK tups.length [(0, encN t), (1, v), (4, .ptr n4 0)] I (i0 := 0) rfl ?_ ?_ (Nat.zero_le _) ?_
  · simp
  · rw [hI]; exact ⟨by simp, o0⟩
  clear o0
  rintro i e K hi ⟨e0, e1, e4, -⟩ hh
  rw [hI] at hh
  obtain ⟨e6, o⟩ := hh
  simp only [] at e0 e1 e4
  have wi := wS (n := i) (by omega)
  by_cases hlt : i < tups.length
  · obtain ⟨uw, q1, q2⟩ := h.at hlt
    have q2 := rd_keeps o.keeps (q2 none rfl)
    obtain ⟨hw1, hw2⟩ := hok _ (List.getElem_mem hlt)
    simp [e1, e6, hlt, h.isSl, h.len, q2]
    refine callP (s_wordsOk tups[i] uw K (q1.keeps o.keeps) hw2 (by omega)) ?_
    simp [e6, wi, hlt]
    rw [hI]
    exact ⟨by simp, o⟩
  have hie : i = tups.length := by omega
  subst hie
  have hin1 : inB t 1 3 = true := by simp [inB]; omega
  simp [e0, e1, e6, h.isSl, h.len]
  refine callP (s_in t 1 3 K) ?_
  rw [hin1]
  by_cases h300 : 300 < tups.length
  · have h300' : (300 : Int) < (tups.length : Int) := by omega
    obtain ⟨K7, g7, o7⟩ := o.putAll 0 (b := n4) rfl (n := 4) (ds := [.int .i64 0, .int .i64 0, .nils, .nils]) rfl rfl rfl (rt := none) rfl
    have r5 := rd_all (o7.at 0 (b := n4) rfl) (n := 4) (rt := none) rfl rfl
    simp [e1, h.isSl, h.len, h300, h300', e4, g7, r5]
    exact ⟨o7.keeps, (hR K7 o7.keeps).1 h300⟩
  have h300' : ¬ (300 : Int) < (tups.length : Int) := by omega
  simp [e1, h.isSl, h.len, h300, h300']
  have hcl : ∀ ws ∈ tups, (colsW ws).length ≤ 40 := fun ws hws => hok.len _ (List.mem_map.2 ⟨ws, hws, rfl⟩)
  obtain ⟨J, hJ⟩ : ∃ J : Nat → Env → BH → Prop, J = (fun i e K => e 8 = encN i ∧ e 7 = encN (totW (tups.take i)) ∧ Own base H K [(some n4, .arr 29 [.int .i64 0, .int .i64 0, .nils, .nils])]) := ⟨_, rfl⟩
  refine wpC_countK tups.length [(0, encN t), (1, v), (4, .ptr n4 0)] J (i0 := 0) rfl ?_ ?_ (Nat.zero_le _) ?_
  · simp [e0, e1, e4]
  · rw [hJ]; exact ⟨by simp, by simp [totW], o⟩
  clear o e0 e1 e4 e6 wi hi hlt
  rintro i e K hi ⟨e0, e1, e4, -⟩ hh
  rw [hJ] at hh
  obtain ⟨e8, e7, o⟩ := hh
  simp only [] at e0 e1 e4
  have wi := wS (n := i) (by omega)
  have htl := totW_le (tups := tups.take i) (N := 40) fun ws hws => hcl ws (List.mem_of_mem_take hws)
  have htl2 : (tups.take i).length * 40 ≤ 300 * 40 := Nat.mul_le_mul_right _ (by simp; omega)
  by_cases hlt : i < tups.length
  · obtain ⟨uw, q1, q2⟩ := h.at hlt
    have q2 := rd_keeps o.keeps (q2 none rfl)
    obtain ⟨hw1, hw2⟩ := hok _ (List.getElem_mem hlt)
    have hul : uw.slen = t := by rw [q1.lenM, hw1]
    have hsl := q1.isSl
    have hc1 := hcl _ (List.getElem_mem hlt)
    simp [e0, e1, e8, hlt, h.isSl, h.len, q2, hsl, hul]
    refine (s_columns (base := base) tups[i] uw K (q1.keeps o.keeps) (fun w hw => (hw2 w hw).1) (by omega) (fun w hw => by have := (hw2 w hw).2; omega)).step fun cv K4 k4 hv => ?_
    obtain ⟨co, hcv, hfr⟩ := hv
    have hcv' : Vec co cv (colsW tups[i]).length := by simpa using hcv.vec
    have wt : IntKind.i64.wrap (((totW (tups.take i) : Nat) : Int) + (((colsW tups[i]).length : Nat) : Int)) = ((totW (tups.take (i + 1)) : Nat) : Int) := by
      rw [totW_succ hlt, ← Int.natCast_add]; exact wN (by omega)
    simp [hcv'.isSl, hcv'.len, e7, wt, e8, wi, hlt]
    rw [hJ]
    exact ⟨by simp, by simp, o.call k4⟩
  have hie : i = tups.length := by omega
  subst hie
  rw [List.take_length] at e7 htl htl2
  simp [e1, e8, e7, h.isSl, h.len]
  by_cases h1000 : 1000 < totW tups
  · have h1000' : (1000 : Int) < (totW tups : Int) := by omega
    obtain ⟨K7, g7, o7⟩ := o.putAll 0 (b := n4) rfl (n := 4) (ds := [.int .i64 0, .int .i64 0, .nils, .nils]) rfl rfl rfl (rt := none) rfl
    have r5 := rd_all (o7.at 0 (b := n4) rfl) (n := 4) (rt := none) rfl rfl
    simp [h1000, h1000', e4, g7, r5]
    exact ⟨o7.keeps, (hR K7 o7.keeps).2 h300 h1000⟩
  have h1000' : ¬ (1000 : Int) < (totW tups : Int) := by omega
  simp [h1000, h1000']
  rw [hY]
  exact ⟨h300, h1000, n4, by simp [e0, e1, e4], o⟩
def Re2 (base : Nat) (H : BH) (t : Nat) (v : BV) (e : Env) (K : BH) : Prop := ∃ n4 n9 v10, Has e [(0, encN t), (1, v), (4, .ptr n4 0), (9, .ptr n9 0), (10, v10)] ∧ TrSt base H t n9 n4 v10 [[]] [] (none, .arr 2 []) K
theorem perm6 {α : Type} (a b c d e f : α) : [c, a, e, f, d, b].Perm [a, b, c, d, e, f] := (show ([2, 0, 4, 5, 3, 1] : List Nat).Perm [0, 1, 2, 3, 4, 5] by decide).map fun i => [a, b, c, d, e, f].getD i a
theorem trow0 (w : Nat) : trRow w [[]] [] = List.replicate w 0 := by
  unfold trRow
  apply List.ext_getElem
  · simp
  · intro i h1 h2; simp [idN]
theorem rel_p2 (t : Nat) (tups : List (List (List Nat))) (v : BV) (H : BH) (ht1 : 1 ≤ t) (ht : t ≤ 3) (Q : Post) (e : Env) (K : BH) (hh : Re1 base H t tups v e K) :
    wpC base (Runs (gam base)) ((ir48.body.tl 6).hd 6) (Post.then (Re2 base H t v) Q) e K := by
  obtain ⟨Y, hY⟩ : ∃ Y : Env → BH → Prop, Y = Re2 base H t v := ⟨_, rfl⟩
  rw [← hY]
  obtain ⟨-, -, n4, ⟨e0, e1, e4, -⟩, o⟩ := hh
  simp only [] at e0 e1 e4
  have hw2 := wd_pos ht1
  have hw26 := wd_3 ht
  simp [ir48, BCode.hd, BCode.tl, e0]
  intro n9 b9 f9
  obtain ⟨K1, g1, o1⟩ := (o.new f9 b9 (s := .arr 29 [.int .i64 0, .int .i64 0, .nils, .nils])).putAll 0 (b := n9) rfl (n := 4) (ds := [encN t, .int .i64 0, .nils, .nils]) rfl rfl rfl (rt := none) rfl
  simp [make_of f9 b9, g1]
  intro n10 b10 f10
  simp [make_of f10 b10]
  have o2 := o1.new f10 b10 (s := .arr 2 [])
  obtain ⟨I, hI⟩ : ∃ I : Nat → Env → BH → Prop, I = (fun i e K => e 11 = encN i ∧ ∃ v10 bo, e 10 = v10 ∧ Own base H K [(bo, .arr 2 (List.replicate i (.int .i64 0))), (some n9, .arr 29 [encN t, .int .i64 0, .nils, .nils]), (some n4, .arr 29 [.int .i64 0, .int .i64 0, .nils, .nils])] ∧ Vec bo v10 i) := ⟨_, rfl⟩
  refine wpC_countK (wd t) [(0, encN t), (1, v), (4, .ptr n4 0), (9, .ptr n9 0)] I (i0 := 0) rfl ?_ ?_ (Nat.zero_le _) ?_
  · simp [e0, e1, e4]
  · rw [hI]; exact ⟨by simp, _, some n10, by simp, o2, rfl⟩
  clear o o1 o2 g1 e0 e1 e4
  rintro i e K hi ⟨e0, e1, e4, e9, -⟩ hh
  rw [hI] at hh
  obtain ⟨e11, v10, bo, e10, o, hv10⟩ := hh
  simp only [] at e0 e1 e4 e9
  have wi := wS (n := i) (by omega)
  simp [e0, e11]
  refine callP (s_wide t K (by omega)) ?_
  by_cases hlt : i < wd t
  · simp [hlt, e10]
    intro n1 b1 f1
    simp [make_of f1 b1]
    intro n2 b2 f2
    obtain ⟨v', K', b', p1, p2, p3⟩ := o.push 0 rfl (by simpa using hv10) (x := .int .i64 0) (bytes := 8) rfl (by simp; omega) (by simp; omega) f1 b1 f2 b2
    simp [p1, e11, wi, hlt]
    rw [hI]
    refine ⟨by simp, v', some b', by simp, ?_, by simpa using p3⟩
    rw [List.replicate_succ']
    exact p2
  have hie : i = wd t := by omega
  subst hie
  simp [e9]
  intro n75 b75 f75
  simp [make_of f75 b75]
  have o3 := o.new f75 b75 (s := .arr 4 [.bool false, .bool false])
  obtain ⟨K4, g4, o4⟩ := o3.put 2 (b := n9) rfl (j := 2) (u := .sl n75 0 2) (by simp) rfl (rt := none) rfl
  simp [e9, g4, e10]
  refine (s_own (base := base) (List.replicate (wd t) (.int .i64 0)) v10 K4 (o4.rd 1 rfl (by simpa using hv10)) (by simp; omega) (fun c hc => by rw [List.eq_of_mem_replicate hc]; rfl) (by simp; omega)).step fun v79 K5 k5 hv => ?_
  obtain ⟨bo79, hv79, hfr79⟩ := hv
  have o5 := o4.take k5 hv79 hfr79
  simp [e10, hv10.one, hv79.rd.one]
  intro n80 b80 f80
  simp [make_of f80 b80, e9, e10, cells_one hv10.one, cells_one hv79.rd.one, hv10.one, hv79.rd.one]
  have o6 := o5.new f80 b80 (s := .arr 37 [v10, v79])
  obtain ⟨K7, g7, o7⟩ := o6.put 4 (b := n9) rfl (j := 3) (u := .sl n80 0 2) (by simp) rfl (rt := none) rfl
  obtain ⟨K8, g8, o8⟩ := o7.put 4 (b := n9) rfl (j := 1) (u := .int .i64 1) (by simp) rfl (rt := none) rfl
  simp [e9, g7, g8]
  rw [hY]
  refine ⟨n4, n9, v10, by simp [e0, e1, e4, e9, e10], .sl n75 0 2, some n75, .sl n80 0 2, some n80, [v10, v79], [(bo, .arr 2 (List.replicate (wd t) (.int .i64 0))), (bo79, .arr 2 (List.replicate (wd t) (.int .i64 0)))], ?_, rfl, rfl, ?_, rfl⟩
  · have ea : (trA (wd t) [[]] []).acc.map encB = [.bool false, .bool false] := by simp [trA]
    rw [ea]
    exact (o8.perm (perm6 _ _ _ _ _ _)).nil _
  · have e1 : ((trA (wd t) [[]] []).nxt.map (·.map encN)) = [List.replicate (wd t) (.int .i64 0), List.replicate (wd t) (.int .i64 0)] := by
      simp [trA, trow0]
    rw [e1]
    exact ⟨rfl, by simpa using hv10, rfl, by simpa using hv79.vec, trivial⟩
end Go.Proofs.YtcnkhkmapgbodaaDoor.W
end

section
namespace Go.Proofs.YtcnkhkmapgbodaaDoor.W
set_option linter.unusedVariables false
set_option linter.unusedSimpArgs false
open Go.B
variable {base : Nat}
attribute [local simp] wpC_skip wpC_region wpC_seq wpC_true wpC_false wpC_block wpC_exit wpC_ret wpO_nil wpO_n wpO_tt wpO_ff wpO_tf wpO_ft wpO_u wpS_mov wpS_pick wpS_build wpS_load wpS_store wpS_nilck wpS_bin wpS_beq wpS_isnil wpS_eqs wpS_not wpS_neg wpS_conv wpS_lea wpS_fld wpS_idx wpS_idxs wpS_slice wpS_sslice wpS_mkfn wpS_mset wpS_look wpS_ext wpS_len wpS_new wpS_box wpS_mk wpS_mkmap wpS_mksl wpS_app wpS_fn wpS_call after_some pthen_n pthen_x pthen_r pin BExit.outOf puto_some puto_none put_eq put_ne Opd.ev argEnv op1_mov op1_pick op1_new op1_box op1_load op1_nilck op1_bin op1_beq op1_not op1_neg op1_conv op1_lea op1_fld op1_len0 op1_len1 op1_idx op1_ext op1_build op1_mk op1_stw op1_mksl op1_eqs pureBin isShift resOf resVals val_tmp val_cell oneOf one_int cells_int one_bool cells_bool one_str cells_str one_nilp cells_nilp one_ptr cells_ptr one_nils cells_nils one_sl cells_sl one_sle cells_sle one_nilm cells_nilm one_mp cells_mp one_nilf cells_nilf one_fn cells_fn one_nili cells_nili cells_agg isSl_sl slen_sl sat_sl make_of asm rtOk wpS_b2s op1_b2s wpS_imax op1_imax wpS_imin op1_imin wpS_i2s op1_i2s op1_isnil Option.map_some gam_base op1_app op1_idxs wpS_idxa op1_idxa op1_sslice bound_none bound_some nat_of op1_mkmap op1_mset op1_look op1_len2 op1_mkfn Go.B.fillB Has
open Go.Au
def Re3 (base : Nat) (H : BH) (t : Nat) (css : List (List Nat)) (e : Env) (K : BH) : Prop := ∃ n4 n9 v10 PS X, Has e [(4, .ptr n4 0), (9, .ptr n9 0)] ∧ TrSt base H t n9 n4 v10 PS css X K ∧ Tr PS css ∧ PS.length ≤ 12001
theorem TrSt.call {H K K' : BH} {t n9 n4 : Nat} {v10 : BV} {PS dn : List (List Nat)} {X : Sl} (h : TrSt base H t n9 n4 v10 PS dn X K) (k : K.Keeps K') : TrSt base H t n9 n4 v10 PS dn X K' := by
  obtain ⟨av, ao, wv, wo, vs, fr, o, r⟩ := h
  exact ⟨av, ao, wv, wo, vs, fr, o.call k, r⟩
theorem TrSt.keeps {H K : BH} {t n9 n4 : Nat} {v10 : BV} {PS dn : List (List Nat)} {X : Sl} (h : TrSt base H t n9 n4 v10 PS dn X K) : H.Keeps K := by
  obtain ⟨av, ao, wv, wo, vs, fr, o, r⟩ := h
  exact o.keeps
theorem nxt_add {t : Nat} {PS dn : List (List Nat)} (htr : Tr PS dn) {p : List Nat} {c : Nat} (hp : p ∈ PS) (hn : p ++ [c] ∉ PS) :
    (trA (wd t) (PS ++ [p ++ [c]]) dn).nxt.map (·.map encN) = ((trA (wd t) PS dn).nxt.map (·.map encN)).set (pos PS p + 1) (((trRow (wd t) PS p).map encN).set c (encN (PS.length + 1))) ++ [List.replicate (wd t) (.int .i64 0)] := by
  have h1 := rows_add (w := wd t) htr hp hn
  simp only [trA, List.map_cons]
  rw [h1]
  simp [List.map_set]
theorem acc_add {w : Nat} {PS dn : List (List Nat)} (htr : Tr PS dn) {x : List Nat} (hn : x ∉ PS) : (trA w (PS ++ [x]) dn).acc.map encB = (trA w PS dn).acc.map encB ++ [.bool false] := by
  have h1 := accs_add htr hn
  simp only [trA, List.map_cons]
  rw [h1]
  simp
theorem acc_done {w : Nat} {PS dn : List (List Nat)} (htr : Tr PS dn) {cs : List Nat} (hm : cs ∈ PS) : ((trA w PS dn).acc.map encB).set (pos PS cs + 1) (.bool true) = (trA w PS (dn ++ [cs])).acc.map encB := by
  have h1 := accs_done htr hm
  simp only [trA, List.map_cons, List.set_cons_succ]
  rw [← h1, List.map_set]
theorem rel_p3 (t : Nat) (tups : List (List (List Nat))) (v : BV) (H : BH) (h : RdR H 58 9 v encW tups) (hok : TupOk t tups) (ht1 : 1 ≤ t) (ht : t ≤ 3) (hn : tups.length ≤ 300) (Q : Post) (e : Env) (K : BH) (hh : Re2 base H t v e K) :
    wpC base (Runs (gam base)) (((ir48.body.tl 6).tl 6).hd 1) (Post.then (Re3 base H t (tups.map colsW)) Q) e K := by
  obtain ⟨Y, hY⟩ : ∃ Y : Env → BH → Prop, Y = Re3 base H t (tups.map colsW) := ⟨_, rfl⟩
  rw [← hY]
  obtain ⟨n4, n9, v10, ⟨e0, e1, e4, e9, e10, -⟩, hs⟩ := hh
  simp only [] at e0 e1 e4 e9 e10
  have hw2 := wd_pos ht1
  have hw26 := wd_3 ht
  simp [ir48, BCode.hd, BCode.tl]
  obtain ⟨css, hcss⟩ : ∃ css, css = tups.map colsW := ⟨_, rfl⟩
  rw [← hcss] at hY
  obtain ⟨I, hI⟩ : ∃ I : Nat → Env → BH → Prop, I = (fun i e K => e 12 = encN i ∧ ∃ PS X, TrSt base H t n9 n4 v10 PS (css.take i) X K ∧ Tr PS (css.take i) ∧ PS.length ≤ 40 * i + 1) := ⟨_, rfl⟩
  refine wpC_countK tups.length [(0, encN t), (1, v), (4, .ptr n4 0), (9, .ptr n9 0), (10, v10)] I (i0 := 0) rfl ?_ ?_ (Nat.zero_le _) ?_
  · simp [e0, e1, e4, e9, e10]
  · rw [hI]
    exact ⟨by simp, [[]], _, by simpa using hs, by simpa using Tr.start, by simp⟩
  clear e0 e1 e4 e9 e10 hs
  rintro i e K hi ⟨e0, e1, e4, e9, e10, -⟩ hh
  rw [hI] at hh
  obtain ⟨e12, PS, X, hs, htr, hps⟩ := hh
  simp only [] at e0 e1 e4 e9 e10
  have wi := wS (n := i) (by omega)
  by_cases hlt : i < tups.length
  · obtain ⟨uw, q1, q2⟩ := h.at hlt
    have q2 := rd_keeps hs.keeps (q2 none rfl)
    obtain ⟨ws, hws⟩ : ∃ ws, ws = tups[i] := ⟨_, rfl⟩
    obtain ⟨hw1, hw2'⟩ := hok _ (List.getElem_mem hlt)
    rw [← hws] at q1 hw1 hw2'
    have hcl : (colsW ws).length ≤ 40 := by rw [colsW_len]; exact lng_le fun w hw => (hw2' w hw).2
    have hin : In (wd t) (colsW ws) := by rw [← hw1]; exact cols_in fun w hw => (hw2' w hw).1
    have hctk : css.take (i + 1) = css.take i ++ [colsW ws] := by
      rw [hcss, ← List.map_take, ← List.map_take, List.take_add_one, List.getElem?_eq_getElem hlt, List.map_append, ← hws]
      rfl
    simp [e1, e12, hlt, h.isSl, h.len, q2]
    refine (s_columns (base := base) ws uw K (q1.keeps hs.keeps) (fun w hw => (hw2' w hw).1) (by omega) (fun w hw => by have := (hw2' w hw).2; omega)).step fun cv K4 k4 hv => ?_
    obtain ⟨co, hcv, hfr⟩ := hv
    have hcv' : Vec co cv (colsW ws).length := by simpa using hcv.vec
    obtain ⟨cs, hcs⟩ : ∃ cs, cs = colsW ws := ⟨_, rfl⟩
    rw [← hcs] at hcl hin hctk hcv hcv'
    have hs2 : TrSt base H t n9 n4 v10 PS (css.take i) (co, .arr 2 (cs.map encN)) K4 := by
      obtain ⟨av, ao, wv, wo, vs, fr, o, r⟩ := hs
      exact ⟨av, ao, wv, wo, vs, fr, (o.take k4 hcv hfr).sub (.cons_cons _ (.cons _ (List.Sublist.refl _))), r⟩
    clear hs hcv hfr
    have r1 : K4.rd none none (.ptr n9 1) = some (encN 1) := by
      obtain ⟨av, ao, wv, wo, vs, fr, o, r⟩ := hs2
      exact rd_ptr (o.at 3 (b := n9) rfl) (rt := none) rfl rfl
    simp [e9, r1]
    obtain ⟨J, hJ⟩ : ∃ J : Nat → Env → BH → Prop, J = (fun k e K => e 15 = encN k ∧ ∃ PS, TrSt base H t n9 n4 v10 PS (css.take i) (co, .arr 2 (cs.map encN)) K ∧ Tr PS (css.take i) ∧ cs.take k ∈ PS ∧ PS.length ≤ 40 * i + 1 + k ∧ e 14 = encN (pos PS (cs.take k) + 1)) := ⟨_, rfl⟩
    have h0 : pos PS [] = 0 := by
      have h1 := htr.root
      cases hP : PS with
      | nil => rw [hP] at h1; simp at h1
      | cons x r => rw [hP] at h1; simp at h1; subst h1; simp [pos]
    refine wpC_countK cs.length [(0, encN t), (1, v), (4, .ptr n4 0), (9, .ptr n9 0), (10, v10), (12, encN i), (13, cv)] J (i0 := 0) rfl ?_ ?_ (Nat.zero_le _) ?_
    · simp [e0, e1, e4, e9, e10, e12]
    · rw [hJ]
      exact ⟨by simp, PS, hs2, htr, by simpa using htr.mem, by omega, by simp [h0]⟩
    clear hs2 htr hps h0 r1 e0 e1 e4 e9 e10 e12 k4
    clear PS
    rintro k e K hk ⟨e0, e1, e4, e9, e10, e12, e13, -⟩ hh
    rw [hJ] at hh
    obtain ⟨e15, PS, hs, htr, hp, hps, e14⟩ := hh
    simp only [] at e0 e1 e4 e9 e10 e12 e13
    have wk := wS (n := k) (by omega)
    by_cases hlk : k < cs.length
    · obtain ⟨p, hpe⟩ : ∃ p, p = cs.take k := ⟨_, rfl⟩
      obtain ⟨c, hce⟩ : ∃ c, c = cs[k] := ⟨_, rfl⟩
      have htk : cs.take (k + 1) = p ++ [c] := by
        rw [List.take_add_one, List.getElem?_eq_getElem hlk, hpe, hce]
        rfl
      rw [← hpe] at hp e14
      have hc : c < wd t := by rw [hce]; exact hin _ (List.getElem_mem hlk)
      have hcR : ∀ {K : BH} {PS : List (List Nat)}, TrSt base H t n9 n4 v10 PS (css.take i) (co, .arr 2 (cs.map encN)) K → K.rd none none (cv.sat k 1) = some (encN c) := by
        rintro K PS ⟨av, ao, wv, wo, vs, fr, o, r⟩
        have := (o.rd 0 rfl (by simpa using hcv')).at (i := k) hlk (rt := none) rfl
        rw [← hce] at this
        exact this
      obtain ⟨wv, row, a1, a2, a3, a4, a5, a6, a7, a8⟩ := tr_read hs hp hc
      have a9 := hcR hs
      obtain ⟨st, hst⟩ : ∃ st, st = pos PS p + 1 := ⟨_, rfl⟩
      rw [← hst] at a4 a5 e14
      have a4' : ((st : Nat) : Int) < (PS.length : Int) + 1 := by omega
      by_cases hm : p ++ [c] ∈ PS
      · have hid : idN PS (p ++ [c]) = pos PS (p ++ [c]) + 1 := by simp [idN, hm]
        rw [hid] at a8
        obtain ⟨s2, hs2⟩ : ∃ s2, s2 = pos PS (p ++ [c]) + 1 := ⟨_, rfl⟩
        rw [← hs2] at a8
        have hne : ((s2 : Int) == 0) = false := by rw [beq_eq_false_iff_ne]; omega
        simp [e9, e13, e14, e15, hlk, hcv'.isSl, hcv'.len, a1, a2, a3, a4, a4', a5, a6, a7, a8, a9, hc, hne, wk]
        rw [hJ]
        exact ⟨by simp, PS, hs, htr, by rw [htk]; exact hm, by omega, by rw [htk, ← hs2]; simp⟩
      · have hid : idN PS (p ++ [c]) = 0 := by simp [idN, hm]
        rw [hid] at a8
        obtain ⟨av, ao, wv', wo, vs, fr, o, hav, hwv, hr, hv0⟩ := id hs
        have r93 := rd_ptr (o.at 3 (b := n9) rfl) (rt := none) (j := 3) (c := wv') rfl rfl
        rw [r93] at a1
        cases a1
        have r92 := rd_ptr (o.at 3 (b := n9) rfl) (rt := none) (j := 2) (c := av) rfl rfl
        have hl := hr.len
        rw [List.length_map, trA_nlen] at hl
        have hsl : st < vs.length := by omega
        have trw : ((trA (wd t) PS (css.take i)).nxt.map (·.map encN))[st]? = some ((trRow (wd t) PS p).map encN) := by rw [hst]; exact tr_row hp
        obtain ⟨bo, hfr, hv⟩ := hr.get (i := st) (u := vs[st]) (by simp [hsl]) trw
        have hvw : Vec bo vs[st] (wd t) := by simpa [trRow] using hv
        have hrw : row = vs[st] := by
          have := (o.rd 2 rfl hwv).get (i := st) hsl (rt := none) rfl
          rw [a5] at this
          exact Option.some.inj this
        -- the cell
        obtain ⟨K1, g1, o1⟩ := o.wr (5 + st) (by rw [show 5 + st = st + 1 + 1 + 1 + 1 + 1 by omega]; simpa using hfr) hv (j := c) (by simpa [trRow] using hc) (u := encN (PS.length + 1)) rfl (rt := none) rfl
        rw [← hrw] at g1
        obtain ⟨fr1, hfr1⟩ : ∃ fr1, fr1 = fr.set st (bo, .arr 2 (((trRow (wd t) PS p).map encN).set c (encN (PS.length + 1)))) := ⟨_, rfl⟩
        have o1 : Own base H K1 ([(co, .arr 2 (cs.map encN)), (ao, .arr 4 ((trA (wd t) PS (css.take i)).acc.map encB)), (wo, .arr 37 vs), (some n9, .arr 29 [encN t, encN 1, av, wv]), (some n4, .arr 29 [.int .i64 0, .int .i64 0, .nils, .nils])] ++ fr1) := by
          rw [hfr1]
          rw [show 5 + st = st + 1 + 1 + 1 + 1 + 1 by omega] at o1
          exact o1
        have hr1 : RowsOf 2 vs fr1 (((trA (wd t) PS (css.take i)).nxt.map (·.map encN)).set st (((trRow (wd t) PS p).map encN).set c (encN (PS.length + 1)))) := by
          rw [hfr1]
          exact RowsOf.upd (by simp) hr hfr
        have r92' := rd_ptr (o1.at 3 (b := n9) rfl) (rt := none) (j := 2) (c := av) rfl rfl
        obtain ⟨PL, hPL⟩ : ∃ PL, PL = PS.length + 1 := ⟨_, rfl⟩
        rw [← hPL] at a3 a4 g1 hav
        have hPLi : (PS.length : Int) + 1 = (PL : Int) := by omega
        rw [hPLi] at a4'
        simp [e9, e13, e14, e15, hlk, hcv'.isSl, hcv'.len, r93, r92, a2, a3, a4, a4', a5, a6, a7, a8, a9, hc, hav.isSl, hav.len, g1, r92']
        intro n129 b129 f129
        simp [make_of f129 b129]
        intro n130 b130 f130
        obtain ⟨av2, K2, ab2, p1, p2, p3⟩ := o1.push 1 rfl (by simpa [trA_alen, hPL] using hav) (x := .bool false) (bytes := 1) rfl (by simp [trA_alen]; omega) (by simp [trA_alen]; omega) f129 b129 f130 b130
        rw [← acc_add htr hm] at p2
        obtain ⟨K3, g3, o3⟩ := p2.put 3 (b := n9) rfl (j := 2) (u := av2) (by simp) p3.one (rt := none) rfl
        have r93' := rd_ptr (o3.at 3 (b := n9) rfl) (rt := some 29) (j := 3) (c := wv) rfl rfl
        simp [p1, e9, g3, r93', e10]
        -- the zeros
        have hr10 : ∃ zo, fr1[0]? = some (zo, .arr 2 (List.replicate (wd t) (.int .i64 0))) ∧ Vec zo v10 (wd t) := by
          have z0 : (((trA (wd t) PS (css.take i)).nxt.map (·.map encN)).set st (((trRow (wd t) PS p).map encN).set c (encN (PS.length + 1))))[0]? = some (List.replicate (wd t) (.int .i64 0)) := by
            rw [List.getElem?_set_ne (by omega)]
            simp [trA]
          obtain ⟨zo, z1, z2⟩ := hr1.get hv0 z0
          exact ⟨zo, z1, by simpa using z2⟩
        obtain ⟨zo, z1, z2⟩ := hr10
        have rz := o3.rd (ty := 2) (v := v10) 5 z1 (by simpa using z2)
        refine (s_own (base := base) (List.replicate (wd t) (.int .i64 0)) v10 K3 rz (by simp; omega) (fun c hc => by rw [List.eq_of_mem_replicate hc]; rfl) (by simp; omega)).step fun v135 K4' k4' hv => ?_
        obtain ⟨bo135, hv135, hfr135⟩ := hv
        have o4 := o3.take k4' hv135 hfr135
        have o1' := hv135.rd.one
        simp [o1']
        intro n136 b136 f136
        simp [make_of f136 b136, cells_one o1', o1']
        intro n137 b137 f137
        obtain ⟨wv2, K5, wb2, s1, s2, s3⟩ := o4.push 3 rfl hwv (x := v135) (bytes := 24) o1' (by omega) (by omega) f136 b136 f137 b137
        obtain ⟨K6, g6, o6⟩ := s2.put 4 (b := n9) rfl (j := 3) (u := wv2) (by simp) s3.one (rt := none) rfl
        have hnew : TrSt base H t n9 n4 v10 (PS ++ [p ++ [c]]) (css.take i) (co, .arr 2 (cs.map encN)) K6 := by
          refine ⟨av2, some ab2, wv2, some wb2, vs ++ [v135], fr1 ++ [(bo135, .arr 2 (List.replicate (wd t) (.int .i64 0)))], ?_, ?_, by simpa using s3, ?_, ?_⟩
          · have o6' : Own base H K6 ((bo135, .arr 2 (List.replicate (wd t) (.int .i64 0))) :: ([(co, .arr 2 (cs.map encN)), (some ab2, .arr 4 ((trA (wd t) (PS ++ [p ++ [c]]) (css.take i)).acc.map encB)), (some wb2, .arr 37 (vs ++ [v135])), (some n9, .arr 29 [encN t, encN 1, av2, wv2]), (some n4, .arr 29 [.int .i64 0, .int .i64 0, .nils, .nils])] ++ fr1)) := o6
            exact o6'.last
          · have h1 : ((trA (wd t) PS (css.take i)).acc.map encB).length + 1 = (PS ++ [p ++ [c]]).length + 1 := by simp [trA_alen]
            rw [← h1]
            exact p3
          · rw [nxt_add htr hp hm, ← hst]
            exact RowsOf.snoc (by simpa using hv135.vec) hr1
          · rw [List.getElem?_append_left (by omega)]
            exact hv0
        have hp' : p ∈ PS ++ [p ++ [c]] := List.mem_append_left _ hp
        have hpos : pos (PS ++ [p ++ [c]]) p = pos PS p := idx_pre (List.prefix_append _ _) hp
        obtain ⟨wv3, row3, b1, b2, b3, b4, b5, b6, b7, b8⟩ := tr_read hnew hp' hc
        have b9 := hcR hnew
        rw [hpos, ← hst] at b4 b5
        have hidn : idN (PS ++ [p ++ [c]]) (p ++ [c]) = PL := by rw [idN_add hm, if_pos rfl, hPL]
        have hpn : pos (PS ++ [p ++ [c]]) (p ++ [c]) + 1 = PL := by
          rw [← hidn]
          unfold idN
          rw [if_pos (by simp)]
        have hlen2 : (PS ++ [p ++ [c]]).length = PL := by simp [hPL]
        rw [hidn] at b8
        rw [hlen2] at b3 b4
        have b4' : (st : Int) < (PL : Int) + 1 := by omega
        simp [s1, e9, g6, e13, e14, e15, hlk, hcv'.isSl, hcv'.len, b1, b2, b3, b4, b4', b5, b6, b7, b8, b9, hc, wk]
        rw [hJ]
        refine ⟨by simp, PS ++ [p ++ [c]], hnew, htr.add hp hm, by rw [htk]; simp, by rw [hlen2]; omega, ?_⟩
        rw [htk, hpn]
        simp
    · have hke : k = cs.length := by omega
      subst hke
      rw [List.take_length] at hp e14
      obtain ⟨av, ao, wv, wo, vs, fr, o, hav, hwv, hr, hv0⟩ := hs
      have r92 := rd_ptr (o.at 3 (b := n9) rfl) (rt := none) (j := 2) (c := av) rfl rfl
      obtain ⟨g1, g2⟩ := idx_get hp
      have htr' := htr.done hp
      obtain ⟨st, hst⟩ : ∃ st, st = pos PS cs + 1 := ⟨_, rfl⟩
      rw [← hst] at e14
      obtain ⟨K5, g5, o5⟩ := o.wr 1 rfl (by simpa [trA_alen] using hav) (j := st) (by simp [trA_alen]; omega) (u := .bool true) rfl (rt := none) rfl
      have hstl : (st : Int) < (PS.length : Int) + 1 := by omega
      have hstl2 : st < PS.length + 1 := by omega
      simp [e9, e13, e14, e15, hcv'.isSl, hcv'.len, r92, hav.isSl, hav.len, hstl, hstl2, g5, e12, wi, hlt]
      rw [hI]
      refine ⟨by simp, PS, (co, .arr 2 (cs.map encN)), ?_, by rw [hctk]; exact htr', by omega⟩
      rw [hctk]
      refine ⟨av, ao, wv, wo, vs, fr, ?_, hav, hwv, ?_, hv0⟩
      · rw [← acc_done htr hp, ← hst]
        exact o5
      · have : (trA (wd t) PS (css.take i ++ [cs])).nxt = (trA (wd t) PS (css.take i)).nxt := rfl
        rw [this]
        exact hr
  · have hie : i = tups.length := by omega
    subst hie
    have htk : css.take tups.length = css := by rw [hcss, ← List.map_take, List.take_length]
    rw [htk] at hs htr
    simp [e1, e12, h.isSl, h.len]
    rw [hY]
    exact ⟨n4, n9, v10, PS, X, by simp [e4, e9], hs, htr, by omega⟩
end Go.Proofs.YtcnkhkmapgbodaaDoor.W
end

section
namespace Go.Proofs.YtcnkhkmapgbodaaDoor.W
set_option linter.unusedVariables false
set_option linter.unusedSimpArgs false
open Go.B
variable {base : Nat}
attribute [local simp] wpC_skip wpC_region wpC_seq wpC_true wpC_false wpC_block wpC_exit wpC_ret wpO_nil wpO_n wpO_tt wpO_ff wpO_tf wpO_ft wpO_u wpS_mov wpS_pick wpS_build wpS_load wpS_store wpS_nilck wpS_bin wpS_beq wpS_isnil wpS_eqs wpS_not wpS_neg wpS_conv wpS_lea wpS_fld wpS_idx wpS_idxs wpS_slice wpS_sslice wpS_mkfn wpS_mset wpS_look wpS_ext wpS_len wpS_new wpS_box wpS_mk wpS_mkmap wpS_mksl wpS_app wpS_fn wpS_call after_some pthen_n pthen_x pthen_r pin BExit.outOf puto_some puto_none put_eq put_ne Opd.ev argEnv op1_mov op1_pick op1_new op1_box op1_load op1_nilck op1_bin op1_beq op1_not op1_neg op1_conv op1_lea op1_fld op1_len0 op1_len1 op1_idx op1_ext op1_build op1_mk op1_stw op1_mksl op1_eqs pureBin isShift resOf resVals val_tmp val_cell oneOf one_int cells_int one_bool cells_bool one_str cells_str one_nilp cells_nilp one_ptr cells_ptr one_nils cells_nils one_sl cells_sl one_sle cells_sle one_nilm cells_nilm one_mp cells_mp one_nilf cells_nilf one_fn cells_fn one_nili cells_nili cells_agg isSl_sl slen_sl sat_sl make_of asm rtOk wpS_b2s op1_b2s wpS_imax op1_imax wpS_imin op1_imin wpS_i2s op1_i2s op1_isnil Option.map_some gam_base op1_app op1_idxs wpS_idxa op1_idxa op1_sslice bound_none bound_some nat_of op1_mkmap op1_mset op1_look op1_len2 op1_mkfn Go.B.fillB Has
open Go.Au
theorem s_told (t s : Nat) (A : Aut) (m : BV) (H : BH) (h : RdRel H t s A m) (hn : A.acc.length ≤ 1000000) : FnDoes (gam base) 76 [m] H fun v _ => v = .tup (if 150 < A.acc.length then [.agg [encN 0, encN 0, .nils, .nils], encN 3] else [m, encN 0]) := by
  obtain ⟨R, hR⟩ : ∃ R : BV → BH → Prop, R = fun v _ => v = .tup (if 150 < A.acc.length then [.agg [encN 0, encN 0, .nils, .nils], encN 3] else [m, encN 0]) := ⟨_, rfl⟩
  rw [← hR]
  refine FnDoes.of (fn := ir76) rfl ?_
  obtain ⟨u, x, rfl, hu, hx⟩ := h
  have u1 := hu.one
  have x1 := one_of_isSl hx.isSl
  simp [ir76, u1, x1]
  intro n1 b1 f1
  simp [make_of f1 b1]
  intro n2 b2 f2
  have o := Own.start (base := base) (H := H) |>.new f1 b1 (s := .arr 29 [encN t, encN s, u, x]) |>.new f2 b2 (s := .arr 29 [.int .i64 0, .int .i64 0, .nils, .nils])
  have r2 := rd_ptr (o.at 1 (b := n1) rfl) (rt := none) (j := 2) (c := u) rfl rfl
  have rA := rd_all (o.at 1 (b := n1) rfl) (n := 4) (rt := none) rfl rfl
  by_cases h150 : 150 < A.acc.length
  · have h' : (150 : Int) < (A.acc.length : Int) := by omega
    obtain ⟨K5, g5, o5⟩ := o.putAll 0 (b := n2) rfl (n := 4) (ds := [.int .i64 0, .int .i64 0, .nils, .nils]) rfl rfl rfl (rt := none) rfl
    have r5 := rd_all (o5.at 0 (b := n2) rfl) (n := 4) (rt := none) rfl rfl
    simp [make_of f2 b2, r2, hu.isSl, hu.lenM, h150, h', g5, r5]
    rw [hR]
    exact ⟨o5.keeps, by rw [if_pos h150]; rfl⟩
  · have h' : ¬ (150 : Int) < (A.acc.length : Int) := by omega
    obtain ⟨K5, g5, o5⟩ := o.putAll 0 (b := n2) rfl (n := 4) (ds := [encN t, encN s, u, x]) rfl rfl (by simp [u1, x1]) (rt := none) rfl
    have r5 := rd_all (o5.at 0 (b := n2) rfl) (n := 4) (rt := none) rfl rfl
    simp [make_of f2 b2, r2, hu.isSl, hu.lenM, h150, h', rA, g5, r5]
    rw [hR]
    exact ⟨o5.keeps, by rw [if_neg h150]; rfl⟩
theorem tr_rdP {H K : BH} {t n9 n4 : Nat} {v10 : BV} {PS dn : List (List Nat)} {X : Sl} (h : TrSt base H t n9 n4 v10 PS dn X K) : RdP K n9 t 1 (trA (wd t) PS dn) := by
  obtain ⟨av, ao, wv, wo, vs, fr, o, hav, hwv, hr, hv0⟩ := h
  refine ⟨av, wv, o.at 3 rfl, o.rd 1 rfl (by simpa [trA_alen] using hav), ?_⟩
  exact RowsOf.rdR (bo := wo) (F := [X, (ao, .arr 4 ((trA (wd t) PS dn).acc.map encB)), (wo, .arr 37 vs), (some n9, .arr 29 [encN t, encN 1, av, wv]), (some n4, .arr 29 [.int .i64 0, .int .i64 0, .nils, .nils])]) o hr (o.rd 2 rfl hwv)
theorem tr_TA {t : Nat} {PS : List (List Nat)} {tups : List (List (List Nat))} (htr : Tr PS (tups.map colsW)) : TA t ((trA (wd t) PS (tups.map colsW)).lang 1) = TA t (lsL tups) := TA_congr fun cs hc _ => trA_lang htr hc
theorem s_RelationOf (t : Nat) (ht1 : 1 ≤ t) (ht : t ≤ 3) (tups : List (List (List Nat))) (v : BV) (H : BH) (h : RdR H 58 9 v encW tups) (hok : TupOk t tups) (hn : tups.length ≤ 1000000000) :
    FnDoes (gam base) 48 [encN t, v] H fun m K => RelR base H t (relOfN t tups) m K := by
  obtain ⟨R, hR⟩ : ∃ R : BV → BH → Prop, R = fun m K => RelR base H t (relOfN t tups) m K := ⟨_, rfl⟩
  rw [← hR]
  refine FnDoes.of (fn := ir48) rfl ?_
  refine wpC_part 6 (Re1 base H t tups v) (rel_p1 t tups v H h hok ht1 ht hn R fun K k => ⟨fun h300 => ?_, fun h300 h1000 => ?_⟩) fun e K h1 => ?_
  · rw [hR]
    unfold relOfN
    rw [if_pos h300]
    rfl
  · rw [hR]
    unfold relOfN
    rw [if_neg h300, if_pos h1000]
    rfl
  have h300 := h1.1
  have h1000 := h1.2.1
  refine wpC_part 6 (Re2 base H t v) (rel_p2 t tups v H ht1 ht _ e K h1) fun e K h2 => ?_
  refine wpC_part 1 (Re3 base H t (tups.map colsW)) (rel_p3 t tups v H h hok ht1 ht (by omega) _ e K h2) fun e K h3 => ?_
  obtain ⟨n4, n9, v10, PS, X, ⟨e4, e9, -⟩, hs, htr, hps⟩ := h3
  simp only [] at e4 e9
  have hP := tr_rdP hs
  have hok9 := trA_ok (w := wd t) htr
  have hl9 := trA_alen (wd t) PS (tups.map colsW)
  have hp1 : 0 < PS.length := List.length_pos_of_mem htr.mem
  simp [ir48, BCode.tl, e9]
  refine (s_tidied (base := base) t 1 n9 ht _ K hP hok9 (by omega) (by omega)).step fun m K2 k2 hm => ?_
  rw [tr_TA htr] at hm
  have hs2 := (TA_spec ht hok9 (s := 1) (by omega)).2
  rw [tr_TA htr] at hs2
  simp
  refine (s_told (base := base) t 0 _ m K2 hm.rd (by omega)).step fun v3 K3 k3 hv3 => ?_
  have hres : relOfN t tups = told (TA t (lsL tups)) := by unfold relOfN; rw [if_neg h300, if_neg h1000]
  obtain ⟨av, ao, wv, wo, vs, fr, o, -⟩ := hs
  by_cases h150 : 150 < (TA t (lsL tups)).acc.length
  · rw [if_pos h150] at hv3
    subst hv3
    obtain ⟨K7, g7, o7⟩ := ((o.call k2).call k3).putAll 4 (b := n4) rfl (n := 4) (ds := [encN 0, encN 0, .nils, .nils]) rfl rfl rfl (rt := none) rfl
    have r5 := rd_all (o7.at 4 (b := n4) rfl) (n := 4) (rt := none) rfl rfl
    simp [e4, g7, r5]
    rw [hR, hres]
    unfold told
    rw [if_pos h150]
    exact ⟨o7.keeps, rfl⟩
  · rw [if_neg h150] at hv3
    subst hv3
    obtain ⟨mu, mw, mbo, mwo, mvs, mfr, rfl, om, hm1, hm2, hm3⟩ := hm
    have u1 := hm1.one
    have w1 := hm2.one
    have oj := Own.join o k2 om
    obtain ⟨K7, g7, o7⟩ := (oj.call k3).putAll 4 (b := n4) rfl (n := 4) (ds := [encN t, encN 0, mu, mw]) rfl rfl (by simp [u1, w1]) (rt := none) rfl
    have r5 := rd_all (o7.at 4 (b := n4) rfl) (n := 4) (rt := none) rfl rfl
    simp [e4, g7, r5]
    rw [hR, hres]
    unfold told
    rw [if_neg h150]
    refine ⟨o7.keeps, _, rfl, mu, mw, mbo, mwo, mvs, mfr, rfl, ?_, hm1, hm2, hm3⟩
    refine o7.sub ?_
    rw [List.set_append_left _ _ (by simp)]
    exact List.sublist_append_right _ _
end Go.Proofs.YtcnkhkmapgbodaaDoor.W
end

section
namespace Go.Proofs.YtcnkhkmapgbodaaDoor.W
set_option linter.unusedVariables false
set_option linter.unusedSimpArgs false
open Go.B
variable {base : Nat}
attribute [local simp] wpC_skip wpC_region wpC_seq wpC_true wpC_false wpC_block wpC_exit wpC_ret wpO_nil wpO_n wpO_tt wpO_ff wpO_tf wpO_ft wpO_u wpS_mov wpS_pick wpS_build wpS_load wpS_store wpS_nilck wpS_bin wpS_beq wpS_isnil wpS_eqs wpS_not wpS_neg wpS_conv wpS_lea wpS_fld wpS_idx wpS_idxs wpS_slice wpS_sslice wpS_mkfn wpS_mset wpS_look wpS_ext wpS_len wpS_new wpS_box wpS_mk wpS_mkmap wpS_mksl wpS_app wpS_fn wpS_call after_some pthen_n pthen_x pthen_r pin BExit.outOf puto_some puto_none put_eq put_ne Opd.ev argEnv op1_mov op1_pick op1_new op1_box op1_load op1_nilck op1_bin op1_beq op1_not op1_neg op1_conv op1_lea op1_fld op1_len0 op1_len1 op1_idx op1_ext op1_build op1_mk op1_stw op1_mksl op1_eqs pureBin isShift resOf resVals val_tmp val_cell oneOf one_int cells_int one_bool cells_bool one_str cells_str one_nilp cells_nilp one_ptr cells_ptr one_nils cells_nils one_sl cells_sl one_sle cells_sle one_nilm cells_nilm one_mp cells_mp one_nilf cells_nilf one_fn cells_fn one_nili cells_nili cells_agg isSl_sl slen_sl sat_sl make_of asm rtOk wpS_b2s op1_b2s wpS_imax op1_imax wpS_imin op1_imin wpS_i2s op1_i2s op1_isnil Option.map_some gam_base op1_app op1_idxs wpS_idxa op1_idxa op1_sslice bound_none bound_some nat_of op1_mkmap op1_mset op1_look op1_len2 op1_mkfn Go.B.fillB Has
open Go.Au
def okI (n : Int) : Bool := inB n 0 1000000000
def tupsN (list : List Int) : List (List (List Nat)) := list.map fun n => [wdN n.toNat]
noncomputable def numSetN (list : List Int) : Option Aut × Nat := if list.all okI = true then relOfN 1 (tupsN list) else (none, 2)
theorem okI_iff {n : Int} : okI n = true ↔ 0 ≤ n ∧ n ≤ 1000000000 := by simp [okI, inB]
theorem tupsN_ok {list : List Int} (h : list.all okI = true) : TupOk 1 (tupsN list) := fun ws hws => by
  obtain ⟨n, hn, rfl⟩ := List.mem_map.1 hws
  have h1 := okI_iff.1 (List.all_eq_true.1 h n hn)
  have h2 := wdN_len (n := n.toNat) (by omega)
  refine ⟨rfl, fun w hw => ?_⟩
  rw [List.mem_singleton] at hw
  subst hw
  exact ⟨wdN_w _, by omega⟩
theorem tupsN_take {list : List Int} {i : Nat} (h : i < list.length) : (tupsN (list.take (i + 1))).map (·.map encW) = (tupsN (list.take i)).map (·.map encW) ++ [[encW (wdN list[i].toNat)]] := by
  unfold tupsN
  rw [List.take_add_one, List.getElem?_eq_getElem h, List.map_append, List.map_append]
  rfl
theorem all_take {list : List Int} {i : Nat} (h : i < list.length) (h1 : (list.take i).all okI = true) (h2 : okI list[i] = true) : (list.take (i + 1)).all okI = true := by
  rw [List.take_add_one, List.getElem?_eq_getElem h, List.all_append, h1]
  simp [h2]
theorem not_all {list : List Int} {i : Nat} (h : i < list.length) (h2 : okI list[i] = false) : ¬ list.all okI = true := fun hh => by
  rw [List.all_eq_true.1 hh _ (List.getElem_mem h)] at h2
  cases h2
/-- The end, alike on both sides. -/
theorem num_end {H K K3 : BH} {n2 : Nat} {Z : List Sl} {r : Option Aut × Nat} {v : BV} (o : Own base H K ((some n2, .arr 29 [.int .i64 0, .int .i64 0, .nils, .nils]) :: Z)) (k : K.Keeps K3) (hr : RelR base K 1 r v K3) :
    ∃ m K7, v = .tup [m, encN r.2] ∧ K3.wr base none 4 (.ptr n2 0) m = some K7 ∧ K7.rd none (some 4) (.ptr n2 0) = some m ∧ H.Keeps K7 ∧ RelR base H 1 r (.tup [m, encN r.2]) K7 := by
  obtain ⟨a, c⟩ := r
  cases a with
  | none =>
    have hr : v = .tup [.agg [encN 0, encN 0, .nils, .nils], encN c] := hr
    obtain ⟨K7, g7, o7⟩ := (o.call k).putAll 0 (b := n2) rfl (n := 4) (ds := [encN 0, encN 0, .nils, .nils]) rfl rfl rfl (rt := none) rfl
    exact ⟨_, K7, hr, g7, rd_all (o7.at 0 (b := n2) rfl) rfl rfl, o7.keeps, rfl⟩
  | some A =>
    obtain ⟨m, e, hm⟩ := hr
    obtain ⟨mu, mw, mbo, mwo, mvs, mfr, rfl, om, hm1, hm2, hm3⟩ := hm
    have u1 := hm1.one
    have w1 := hm2.one
    have oj := Own.join o k om
    obtain ⟨K7, g7, o7⟩ := oj.putAll 0 (b := n2) rfl (n := 4) (ds := [encN 1, encN 0, mu, mw]) rfl rfl (by simp [u1, w1]) (rt := none) rfl
    refine ⟨_, K7, e, g7, rd_all (o7.at 0 (b := n2) rfl) rfl rfl, o7.keeps, _, rfl, mu, mw, mbo, mwo, mvs, mfr, rfl, ?_, hm1, hm2, hm3⟩
    have : Own base H K7 ((some n2, .arr 29 [encN 1, encN 0, mu, mw]) :: (Z ++ ((mbo, .arr 4 (A.acc.map encB)) :: (mwo, .arr 37 mvs) :: mfr))) := o7
    exact this.sub ((List.sublist_append_right _ _).trans (List.sublist_cons_self _ _))
theorem i_NumberSet (list : List Int) (v : BV) (H : BH) (h : Rd H 2 v (list.map encI)) (hn : list.length ≤ 1000000000) : FnDoes (gam base) 18 [v] H fun m K => RelR base H 1 (numSetN list) m K := by
  obtain ⟨R, hR⟩ : ∃ R : BV → BH → Prop, R = fun m K => RelR base H 1 (numSetN list) m K := ⟨_, rfl⟩
  rw [← hR]
  refine FnDoes.of (fn := ir18) rfl ?_
  simp [ir18]
  intro n2 b2 f2
  have o0 := Own.start (base := base) (H := H) |>.new f2 b2 (s := .arr 29 [.int .i64 0, .int .i64 0, .nils, .nils]) |>.nil (.arr 58 [])
  simp [make_of f2 b2, h.isSl, h.lenM]
  obtain ⟨I, hI⟩ : ∃ I : Nat → Env → BH → Prop, I = (fun i e K => e 9 = encN i ∧ (list.take i).all okI = true ∧ ∃ v4 to vs fr, e 4 = v4 ∧ Own base H K ([(to, .arr 58 vs), (some n2, .arr 29 [.int .i64 0, .int .i64 0, .nils, .nils])] ++ fr) ∧ Vec to v4 vs.length ∧ RowsOf 9 vs fr ((tupsN (list.take i)).map (·.map encW))) := ⟨_, rfl⟩
  refine wpC_countK list.length [(2, .ptr n2 0), (7, v), (8, encN list.length)] I (i0 := 0) rfl ?_ ?_ (Nat.zero_le _) ?_
  · simp
  · rw [hI]; exact ⟨by simp, by simp, .nils, none, [], [], by simp, by simpa using o0, Vec.none, by simp [tupsN, RowsOf]⟩
  clear o0
  rintro i e K hi ⟨e2, e7, e8, -⟩ hh
  rw [hI] at hh
  obtain ⟨e9, hall, v4, to, vs, fr, e4, o, hv4, hrows⟩ := hh
  simp only [] at e2 e7 e8
  have wi := wS (n := i) (by omega)
  have hvl := hrows.len.1
  by_cases hlt : i < list.length
  · have g1 := (h.keeps o.keeps).at (i := i) hlt (rt := none) rfl
    simp [e7, e8, e9, hlt, h.isSl, h.lenM, g1]
    refine callP (i_isNumber _ K) ?_
    cases hg : okI list[i] with
    | false =>
      have hg' : inB list[i] 0 1000000000 = false := hg
      rw [hg']
      obtain ⟨K7, g7, o7⟩ := o.putAll 1 (b := n2) rfl (n := 4) (ds := [.int .i64 0, .int .i64 0, .nils, .nils]) rfl rfl rfl (rt := none) rfl
      have r5 := rd_all (o7.at 1 (b := n2) rfl) (n := 4) (rt := none) rfl rfl
      simp [e2, g7, r5]
      rw [hR]
      unfold numSetN
      rw [if_neg (not_all hlt hg)]
      exact ⟨o7.keeps, rfl⟩
    | true =>
      have hg' : inB list[i] 0 1000000000 = true := hg
      rw [hg']
      have hb := okI_iff.1 hg
      obtain ⟨N, hN⟩ : ∃ N : Nat, list[i] = (N : Int) := ⟨list[i].toNat, by omega⟩
      have hNt : list[i].toNat = N := by omega
      simp [e4, hN]
      refine (i_word (base := base) N (by omega) K).step fun w2 K2 k2 hv => ?_
      subst hv
      rw [wordB_eq]
      simp
      intro n20 b20 f20
      simp [make_of f20 b20]
      intro n21 b21 f21
      simp [make_of f21 b21]
      intro n22 b22 f22
      have o2 := (o.call k2).new f20 b20 (s := .arr 9 [encW (wdN N)])
      obtain ⟨v', K', b', p1, p2, p3⟩ := o2.push 1 rfl hv4 (x := .sl n20 0 1) (bytes := 24) rfl (by rw [hvl]; simp [tupsN]; omega) (by rw [hvl]; simp [tupsN]; omega) f21 b21 f22 b22
      simp [p1, e9, wi, hlt]
      rw [hI]
      refine ⟨by simp, all_take hlt hall hg, v', some b', vs ++ [.sl n20 0 1], fr ++ [(some n20, .arr 9 [encW (wdN N)])], by simp, ?_, by simpa using p3, ?_⟩
      · have p2' : Own base H K' ((some n20, .arr 9 [encW (wdN N)]) :: ([(some b', .arr 58 (vs ++ [.sl n20 0 1])), (some n2, .arr 29 [.int .i64 0, .int .i64 0, .nils, .nils])] ++ fr)) := p2
        exact p2'.last
      · rw [tupsN_take hlt, hNt]
        exact RowsOf.snoc (bo := some n20) (v := .sl n20 0 1) (xs := [encW (wdN N)]) rfl hrows
  · have hie : i = list.length := by omega
    subst hie
    rw [List.take_length] at hall hrows
    have hrr : RdR K 58 9 v4 encW (tupsN list) := RowsOf.rdR (bo := to) (F := [(to, .arr 58 vs), (some n2, .arr 29 [.int .i64 0, .int .i64 0, .nils, .nils])]) o hrows (o.rd 0 rfl hv4)
    simp [e8, e9, e4]
    refine (i_RelationOf (base := base) 1 (by omega) (by omega) (tupsN list) v4 K hrr (tupsN_ok hall) (by simp [tupsN]; omega)).step fun m K3 k3 hm => ?_
    obtain ⟨m', K7, rfl, g7, r7, kk, hrel⟩ := num_end (o.sub (M := (some n2, .arr 29 [.int .i64 0, .int .i64 0, .nils, .nils]) :: fr) (List.sublist_cons_self _ _)) k3 hm
    simp [e2, g7, r7]
    rw [hR]
    unfold numSetN
    rw [if_pos hall]
    exact ⟨kk, hrel⟩
end Go.Proofs.YtcnkhkmapgbodaaDoor.W
end

section
namespace Go.Proofs.YtcnkhkmapgbodaaDoor.W
set_option linter.unusedVariables false
set_option linter.unusedSimpArgs false
open Go.B
variable {base : Nat}
attribute [local simp] wpC_skip wpC_region wpC_seq wpC_true wpC_false wpC_block wpC_exit wpC_ret wpO_nil wpO_n wpO_tt wpO_ff wpO_tf wpO_ft wpO_u wpS_mov wpS_pick wpS_build wpS_load wpS_store wpS_nilck wpS_bin wpS_beq wpS_isnil wpS_eqs wpS_not wpS_neg wpS_conv wpS_lea wpS_fld wpS_idx wpS_idxs wpS_slice wpS_sslice wpS_mkfn wpS_mset wpS_look wpS_ext wpS_len wpS_new wpS_box wpS_mk wpS_mkmap wpS_mksl wpS_app wpS_fn wpS_call after_some pthen_n pthen_x pthen_r pin BExit.outOf puto_some puto_none put_eq put_ne Opd.ev argEnv op1_mov op1_pick op1_new op1_box op1_load op1_nilck op1_bin op1_beq op1_not op1_neg op1_conv op1_lea op1_fld op1_len0 op1_len1 op1_idx op1_ext op1_build op1_mk op1_stw op1_mksl op1_eqs pureBin isShift resOf resVals val_tmp val_cell oneOf one_int cells_int one_bool cells_bool one_str cells_str one_nilp cells_nilp one_ptr cells_ptr one_nils cells_nils one_sl cells_sl one_sle cells_sle one_nilm cells_nilm one_mp cells_mp one_nilf cells_nilf one_fn cells_fn one_nili cells_nili cells_agg isSl_sl slen_sl sat_sl make_of asm rtOk wpS_b2s op1_b2s wpS_imax op1_imax wpS_imin op1_imin wpS_i2s op1_i2s op1_isnil Option.map_some gam_base op1_app op1_idxs wpS_idxa op1_idxa op1_sslice bound_none bound_some nat_of op1_mkmap op1_mset op1_look op1_len2 op1_mkfn Go.B.fillB Has
open Go.Au
theorem s_NumberSet (list : List Int) (v : BV) (H : BH) (h : Rd H 2 v (list.map encI)) (hn : list.length ≤ 1000000000) : FnDoes (gam base) 16 [v] H fun m K => RelR base H 1 (numSetN list) m K := by
  obtain ⟨R, hR⟩ : ∃ R : BV → BH → Prop, R = fun m K => RelR base H 1 (numSetN list) m K := ⟨_, rfl⟩
  rw [← hR]
  refine FnDoes.of (fn := ir16) rfl ?_
  simp [ir16]
  intro n2 b2 f2
  simp [make_of f2 b2]
  intro n6 b6 f6
  simp [make_of f6 b6, h.isSl, h.lenM]
  have o0 := Own.start (base := base) (H := H) |>.new f2 b2 (s := .arr 29 [.int .i64 0, .int .i64 0, .nils, .nils]) |>.new f6 b6 (s := .arr 58 [])
  obtain ⟨I, hI⟩ : ∃ I : Nat → Env → BH → Prop, I = (fun i e K => e 5 = encN i ∧ (list.take i).all okI = true ∧ ∃ v4 to vs fr, e 4 = v4 ∧ Own base H K ([(to, .arr 58 vs), (some n2, .arr 29 [.int .i64 0, .int .i64 0, .nils, .nils])] ++ fr) ∧ Vec to v4 vs.length ∧ RowsOf 9 vs fr ((tupsN (list.take i)).map (·.map encW))) := ⟨_, rfl⟩
  refine wpC_countK list.length [(0, v), (2, .ptr n2 0)] I (i0 := 0) rfl ?_ ?_ (Nat.zero_le _) ?_
  · simp
  · rw [hI]; exact ⟨by simp, by simp, .sl n6 0 0, some n6, [], [], by simp, by simpa using o0, rfl, by simp [tupsN, RowsOf]⟩
  clear o0
  rintro i e K hi ⟨e0, e2, -⟩ hh
  rw [hI] at hh
  obtain ⟨e5, hall, v4, to, vs, fr, e4, o, hv4, hrows⟩ := hh
  simp only [] at e0 e2
  have wi := wS (n := i) (by omega)
  have hvl := hrows.len.1
  by_cases hlt : i < list.length
  · have g1 := (h.keeps o.keeps).at (i := i) hlt (rt := none) rfl
    simp [e0, e5, hlt, h.isSl, h.lenM, g1]
    refine callP (s_in _ _ _ K) ?_
    cases hg : okI list[i] with
    | false =>
      have hg' : inB list[i] 0 1000000000 = false := hg
      rw [hg']
      obtain ⟨K7, g7, o7⟩ := o.putAll 1 (b := n2) rfl (n := 4) (ds := [.int .i64 0, .int .i64 0, .nils, .nils]) rfl rfl rfl (rt := none) rfl
      have r5 := rd_all (o7.at 1 (b := n2) rfl) (n := 4) (rt := none) rfl rfl
      simp [e2, g7, r5]
      rw [hR]
      unfold numSetN
      rw [if_neg (not_all hlt hg)]
      exact ⟨o7.keeps, rfl⟩
    | true =>
      have hg' : inB list[i] 0 1000000000 = true := hg
      rw [hg']
      have hb := okI_iff.1 hg
      obtain ⟨N, hN⟩ : ∃ N : Nat, list[i] = (N : Int) := ⟨list[i].toNat, by omega⟩
      have hNt : list[i].toNat = N := by omega
      simp [e4, e0, e5, hlt, h.isSl, h.lenM, g1, hN]
      refine (s_word (base := base) N (by omega) K).step fun w2 K2 k2 hv => ?_
      subst hv
      rw [wordB_eq]
      simp
      intro n20 b20 f20
      simp [make_of f20 b20]
      intro n21 b21 f21
      simp [make_of f21 b21]
      intro n22 b22 f22
      have o2 := (o.call k2).new f20 b20 (s := .arr 9 [encW (wdN N)])
      obtain ⟨v', K', b', p1, p2, p3⟩ := o2.push 1 rfl hv4 (x := .sl n20 0 1) (bytes := 24) rfl (by rw [hvl]; simp [tupsN]; omega) (by rw [hvl]; simp [tupsN]; omega) f21 b21 f22 b22
      simp [p1, e5, wi, hlt]
      rw [hI]
      refine ⟨by simp, all_take hlt hall hg, v', some b', vs ++ [.sl n20 0 1], fr ++ [(some n20, .arr 9 [encW (wdN N)])], by simp, ?_, by simpa using p3, ?_⟩
      · have p2' : Own base H K' ((some n20, .arr 9 [encW (wdN N)]) :: ([(some b', .arr 58 (vs ++ [.sl n20 0 1])), (some n2, .arr 29 [.int .i64 0, .int .i64 0, .nils, .nils])] ++ fr)) := p2
        exact p2'.last
      · rw [tupsN_take hlt, hNt]
        exact RowsOf.snoc (bo := some n20) (v := .sl n20 0 1) (xs := [encW (wdN N)]) rfl hrows
  · have hie : i = list.length := by omega
    subst hie
    rw [List.take_length] at hall hrows
    have hrr : RdR K 58 9 v4 encW (tupsN list) := RowsOf.rdR (bo := to) (F := [(to, .arr 58 vs), (some n2, .arr 29 [.int .i64 0, .int .i64 0, .nils, .nils])]) o hrows (o.rd 0 rfl hv4)
    simp [e0, e5, e4, h.isSl, h.lenM]
    refine (s_RelationOf (base := base) 1 (by omega) (by omega) (tupsN list) v4 K hrr (tupsN_ok hall) (by simp [tupsN]; omega)).step fun m K3 k3 hm => ?_
    obtain ⟨m', K7, rfl, g7, r7, kk, hrel⟩ := num_end (o.sub (M := (some n2, .arr 29 [.int .i64 0, .int .i64 0, .nils, .nils]) :: fr) (List.sublist_cons_self _ _)) k3 hm
    simp [e2, g7, r7]
    rw [hR]
    unfold numSetN
    rw [if_pos hall]
    exact ⟨kk, hrel⟩
end Go.Proofs.YtcnkhkmapgbodaaDoor.W
end

section
namespace Go.Proofs.YtcnkhkmapgbodaaDoor.W
set_option linter.unusedVariables false
set_option linter.unusedSimpArgs false
open Go.B
variable {base : Nat}
attribute [local simp] wpC_skip wpC_region wpC_seq wpC_true wpC_false wpC_block wpC_exit wpC_ret wpO_nil wpO_n wpO_tt wpO_ff wpO_tf wpO_ft wpO_u wpS_mov wpS_pick wpS_build wpS_load wpS_store wpS_nilck wpS_bin wpS_beq wpS_isnil wpS_eqs wpS_not wpS_neg wpS_conv wpS_lea wpS_fld wpS_idx wpS_idxs wpS_slice wpS_sslice wpS_mkfn wpS_mset wpS_look wpS_ext wpS_len wpS_new wpS_box wpS_mk wpS_mkmap wpS_mksl wpS_app wpS_fn wpS_call after_some pthen_n pthen_x pthen_r pin BExit.outOf puto_some puto_none put_eq put_ne Opd.ev argEnv op1_mov op1_pick op1_new op1_box op1_load op1_nilck op1_bin op1_beq op1_not op1_neg op1_conv op1_lea op1_fld op1_len0 op1_len1 op1_idx op1_ext op1_build op1_mk op1_stw op1_mksl op1_eqs pureBin isShift resOf resVals val_tmp val_cell oneOf one_int cells_int one_bool cells_bool one_str cells_str one_nilp cells_nilp one_ptr cells_ptr one_nils cells_nils one_sl cells_sl one_sle cells_sle one_nilm cells_nilm one_mp cells_mp one_nilf cells_nilf one_fn cells_fn one_nili cells_nili cells_agg isSl_sl slen_sl sat_sl make_of asm rtOk wpS_b2s op1_b2s wpS_imax op1_imax wpS_imin op1_imin wpS_i2s op1_i2s op1_isnil Option.map_some gam_base op1_app op1_idxs wpS_idxa op1_idxa op1_sslice bound_none bound_some nat_of op1_mkmap op1_mset op1_look op1_len2 op1_mkfn Go.B.fillB Has
open Go.Au
/-- A relation that is right and small, or none. -/
def GoodR (t : Nat) (r : Option Aut × Nat) : Prop := ∀ A, r.1 = some A → A.Ok (wd t) ∧ A.acc.length ≤ 150
theorem GoodR.none (t c : Nat) : GoodR t (none, c) := fun A h => by cases h
theorem GoodR.of_told {t : Nat} {A : Aut} (h : A.Ok (wd t)) : GoodR t (told A) := fun B hB => by
  unfold told at hB
  split at hB
  · cases hB
  · cases hB
    exact ⟨h, by omega⟩
theorem GoodR.facts {t : Nat} {r : Option Aut × Nat} (h : GoodR t r) : (resQ t r).2.2.1.length ≤ 150 ∧ (resQ t r).2.2.2.length ≤ 150 ∧ ∀ xs ∈ (resQ t r).2.2.2, xs.length = wd t := by
  obtain ⟨a, c⟩ := r
  cases a with
  | none => exact ⟨Nat.zero_le _, Nat.zero_le _, fun xs hx => by cases hx⟩
  | some A =>
    obtain ⟨h1, h2⟩ := h A rfl
    refine ⟨h2, ?_, fun xs hx => ?_⟩
    · show (A.nxt.map _).length ≤ 150
      rw [List.length_map, h1.len]
      exact h2
    · obtain ⟨ys, hy, rfl⟩ := List.mem_map.1 hx
      rw [List.length_map]
      exact (h1.row ys hy).1
theorem relOfN_good {t : Nat} (ht : t ≤ 3) {tups : List (List (List Nat))} (hok : TupOk t tups) : GoodR t (relOfN t tups) := by
  unfold relOfN
  split
  · exact .none _ _
  split
  · exact .none _ _
  have h1 := lsX_ok ht hok.inw
  have h2 := (TA_spec ht h1.1 (s := 0) h1.1.pos).1
  rw [ls_TA ht hok] at h2
  exact GoodR.of_told h2.ok
theorem numSetN_good (list : List Int) : GoodR 1 (numSetN list) := by
  unfold numSetN
  split
  · next h => exact relOfN_good (by omega) (tupsN_ok h)
  · exact .none _ _
/-- The rows of a relation of one's own. -/
theorem OwnQ.rows {H K : BH} {T S : Int} {acc : List Bool} {rows : List (List Int)} {m : BV} (h : OwnQ base H K T S acc rows m []) :
    ∃ Y, Own base H K Y ∧ ∀ {H' K' : BH} {Z : List Sl}, Own base H' K' (Y ++ Z) → OwnQ base H' K' T S acc rows m Z := by
  obtain ⟨u, x, bo, wo, vs, fr, e, o, hu, hx, hr⟩ := h
  rw [List.append_nil] at o
  exact ⟨_, o, fun {H' K' Z} o' => ⟨u, x, bo, wo, vs, fr, e, o', hu, hx, hr⟩⟩
theorem OwnQ.one {H K : BH} {T S : Int} {acc : List Bool} {rows : List (List Int)} {m : BV} {Z : List Sl} (h : OwnQ base H K T S acc rows m Z) : ∃ u x, m = .agg [.int .i64 T, .int .i64 S, u, x] ∧ u.one = true ∧ x.one = true := by
  obtain ⟨u, x, bo, wo, vs, fr, e, o, hu, hx, hr⟩ := h
  exact ⟨u, x, e, hu.one, hx.one⟩
theorem MkQ.rest {H K : BH} {T S : Int} {k n p w : Nat} {m : BV} {Z : List Sl} (h : MkQ base H K T S k n p w m Z) : Own base H K Z := by
  obtain ⟨u, x, bo, wo, vs, fr, e, o, hu, hx, hr⟩ := h
  exact o.sub ((List.sublist_append_right _ _).trans ((List.sublist_cons_self _ _).trans (List.sublist_cons_self _ _)))
theorem law_NumberSet (ns : List Int) (v : BV) (H : BH) {ty : Nat} (h : Rd H ty v (ns.map encI)) (hn : ns.length ≤ 9223372036854775807) :
    FnDoes (gam base) 6 [v] H fun u _ => u = .bool true := by
  refine FnDoes.of (fn := ir6) rfl ?_
  simp [ir6, h.isSl, h.lenM]
  by_cases hbig : (1048576 : Int) < (ns.length : Int)
  · simp [hbig]
    exact BH.Keeps.refl _
  have hl : ns.length ≤ 1048576 := by omega
  have hone : ∀ c ∈ ns.map encI, c.one = true := fun c hc => by
    obtain ⟨q, _, rfl⟩ := List.mem_map.1 hc
    rfl
  have hlen : (ns.map encI).length ≤ 1048576 := by simpa using hl
  simp [hbig]
  refine (t_longs (base := base) _ v H h hone hlen).step fun v1 K1 k1 hv1 => ?_
  obtain ⟨b1, rfl, o1⟩ := hv1
  have r1 : Rd K1 2 (.sl b1 0 (ns.map encI).length) (ns.map encI) := o1.rd 0 rfl rfl
  simp
  rw [List.length_map] at r1
  refine (s_NumberSet (base := base) ns _ K1 r1 (by omega)).step fun vE K2 k2 hE0 => ?_
  have gd := (numSetN_good ns).facts
  obtain ⟨gd1, gd2, gd3⟩ := gd
  obtain ⟨mE, rfl, hE⟩ := hE0.ownR k2
  clear hE0
  obtain ⟨uE, xE, eE, uE1, xE1⟩ := OwnQ.one hE
  obtain ⟨c, hc⟩ : ∃ c, c = (numSetN ns).2 := ⟨_, rfl⟩
  obtain ⟨T, S, acc, rows, hr4⟩ : ∃ T S acc rows, resQ 1 (numSetN ns) = (T, S, acc, rows) := ⟨_, _, _, _, rfl⟩
  unfold OwnR at hE
  rw [hr4] at hE gd1 gd2 gd3 eE
  rw [← hc]
  simp only [] at hE gd1 gd2 gd3 eE
  have hEr := hE.rd
  subst eE
  simp [uE1, xE1]
  intro n3 b3 f3
  obtain ⟨K3, g3, o3⟩ := (Own.start (base := base) (H := K2) |>.new f3 b3 (s := .arr 29 [.int .i64 0, .int .i64 0, .nils, .nils])).putAll 0 (b := n3) (n := 4) (ds := [.int .i64 T, .int .i64 S, uE, xE]) rfl rfl rfl (by simp [uE1, xE1]) (rt := none) rfl
  have r3 := rd_all (o3.at 0 (b := n3) rfl) (n := 4) (rt := none) rfl rfl
  simp [make_of f3 b3, g3]
  have hEr := hEr.keeps o3.keeps
  have kk := (k1.trans k2).trans o3.keeps
  refine (t_longs (base := base) _ v K3 (h.keeps kk) hone hlen).step fun v5 K5 k5 hv5 => ?_
  obtain ⟨b5, rfl, o5⟩ := hv5
  rw [List.length_map]
  have r5 : Rd K5 2 (.sl b5 0 ns.length) (ns.map encI) := o5.rd 0 rfl (by simp; rfl)
  simp
  refine (i_NumberSet (base := base) ns _ K5 r5 (by omega)).step fun vG K6 k6 hG0 => ?_
  obtain ⟨mG, rfl, hG⟩ := hG0.ownR k6
  clear hG0
  unfold OwnR at hG
  rw [hr4] at hG
  simp only [] at hG
  rw [← hc]
  obtain ⟨uG, xG, eG, uG1, xG1⟩ := OwnQ.one hG
  subst eG
  obtain ⟨Y, oY, hY⟩ := hG.rows
  have oj := Own.join o5 k6 oY
  simp [uG1, xG1]
  intro n6 b6 f6
  obtain ⟨K7, g7, o7⟩ := (oj.new f6 b6 (s := .arr 29 [.int .i64 0, .int .i64 0, .nils, .nils])).putAll 0 (b := n6) (n := 4) (ds := [.int .i64 T, .int .i64 S, uG, xG]) rfl rfl rfl (by simp [uG1, xG1]) (rt := none) rfl
  have o7 : Own base K3 K7 ((some n6, .arr 29 [.int .i64 T, .int .i64 S, uG, xG]) :: (some b5, .arr 2 (ns.map encI)) :: Y) := o7
  have r6 := rd_all (o7.at 0 (b := n6) rfl) (n := 4) (rt := none) rfl rfl
  have r3' := rd_keeps o7.keeps r3
  simp [make_of f6 b6, g7, r6, r3']
  have q7 := hY (H' := K3) (K' := K7) (Z := [(some n6, .arr 29 [.int .i64 T, .int .i64 S, uG, xG]), (some b5, .arr 2 (ns.map encI))]) (o7.perm List.perm_append_comm)
  have big1 : acc.length ≤ 4611686018427387904 := by omega
  have big2 : rows.length ≤ 4611686018427387904 := by omega
  have big3 : ∀ r ∈ rows, r.length ≤ 4611686018427387904 := fun r hr => by rw [gd3 r hr]; decide
  refine (q_rel (base := base) T S acc rows _ _ K7 q7.rd (hEr.keeps o7.keeps) big1 big2 big3).step fun v' K8 k8 hv' => ?_
  subst hv'
  have o8 := o7.call k8
  simp
  refine (t_longs (base := base) _ v K8 (h.keeps (kk.trans o8.keeps)) hone hlen).step fun v9 K9 k9 hv9 => ?_
  obtain ⟨b9, rfl, o9⟩ := hv9
  rw [List.length_map]
  have r9 : Rd K9 2 (.sl b9 0 ns.length) (ns.map encI) := o9.rd 0 rfl (by simp; rfl)
  simp
  have o10 := o8.call k9
  refine callP (q_longs (base := base) ns _ _ K9 (o10.rd 1 (v := .sl b5 0 ns.length) rfl (by simp; rfl)) r9 (by omega)) ?_
  simp
  refine (mark_ints (base := base) 1 1 o10 (v := .sl b5 0 ns.length) rfl (by simp; rfl) (by simp; omega)).step fun v11 K11 hh => ?_
  obtain ⟨rfl, o11⟩ := hh
  rw [List.length_map]
  have o11 : Own base K3 K11 ((some n6, .arr 29 [.int .i64 T, .int .i64 S, uG, xG]) :: (some b5, .arr 2 (mkI 1 (ns.map encI).length)) :: Y) := o11
  have neg1 : ¬ (1 : Int) + (ns.length : Int) < 0 := by omega
  have r6 := rd_all (o11.at 0 (b := n6) rfl) (n := 4) (rt := none) rfl rfl
  have r3' := rd_keeps o11.keeps r3
  simp [neg1, r6, r3']
  obtain ⟨M, hM⟩ : ∃ M, M = mkI 1 (ns.map encI).length := ⟨_, rfl⟩
  rw [← hM] at o11
  have q11 := hY (H' := K3) (K' := K11) (Z := [(some n6, .arr 29 [.int .i64 T, .int .i64 S, uG, xG]), (some b5, .arr 2 M)]) (o11.perm List.perm_append_comm)
  refine (q_rel (base := base) T S acc rows _ _ K11 q11.rd (hEr.keeps o11.keeps) big1 big2 big3).step fun v' K12 k12 hv' => ?_
  subst hv'
  have q12 := q11.call k12
  have r6 := rd_keeps k12 r6
  simp [r6]
  have hpw : rows.length * 2 ≤ 300 := by omega
  refine (mark_rel (base := base) 1 2 q12 gd3 (by omega) (by omega)).step fun v13 K13 hh => ?_
  obtain ⟨rfl, q13⟩ := hh
  have o13 := q13.rest
  have r6 := rd_all (o13.at 0 (b := n6) rfl) (n := 4) (rt := none) rfl rfl
  simp [r6]
  refine (held_rel (base := base) q13 (by omega) (by omega)).step fun v14 K14 k14 hv14 => ?_
  subst hv14
  have neg2 : ¬ (1 : Int) + (acc.length : Int) + (rows.length : Int) * 2 < 0 := by omega
  simp [neg2]
  refine (t_longs (base := base) _ v K14 (h.keeps (kk.trans (q13.keeps.trans k14))) hone hlen).step fun v15 K15 k15 hv15 => ?_
  obtain ⟨b15, rfl, o15⟩ := hv15
  rw [List.length_map]
  have r15 : Rd K15 2 (.sl b15 0 ns.length) (ns.map encI) := o15.rd 0 rfl (by simp; rfl)
  simp
  refine (i_NumberSet (base := base) ns _ K15 r15 (by omega)).step fun vN K16 k16 hN0 => ?_
  obtain ⟨mN, rfl, hN⟩ := hN0.ownR k16
  clear hN0
  unfold OwnR at hN
  rw [hr4] at hN
  simp only [] at hN
  rw [← hc]
  obtain ⟨uN, xN, eN, uN1, xN1⟩ := OwnQ.one hN
  subst eN
  simp [uN1, xN1]
  intro n11 b11 f11
  obtain ⟨K17, g17, o17⟩ := (Own.start (base := base) (H := K16) |>.new f11 b11 (s := .arr 29 [.int .i64 0, .int .i64 0, .nils, .nils])).putAll 0 (b := n11) (n := 4) (ds := [.int .i64 T, .int .i64 S, uN, xN]) rfl rfl rfl (by simp [uN1, xN1]) (rt := none) rfl
  have r11 := rd_all (o17.at 0 (b := n11) rfl) (n := 4) (rt := none) rfl rfl
  have q17 := (((q13.call k14).call k15).call k16).call o17.keeps
  have r3' := rd_keeps q17.keeps r3
  simp [make_of f11 b11, g17, r11, r3']
  refine (q_rel (base := base) T S acc rows _ _ K17 (hN.rd.keeps o17.keeps) (hEr.keeps q17.keeps) big1 big2 big3).step fun v' K18 k18 hv' => ?_
  subst hv'
  have q18 := q17.call k18
  have r6 := rd_all (q18.rest.at 0 (b := n6) rfl) (n := 4) (rt := none) rfl rfl
  simp [r6]
  refine (held_rel (base := base) q18 (by omega) (by omega)).step fun v19 K19 k19 hv19 => ?_
  subst hv19
  simp [neg2]
  exact kk.trans (q18.keeps.trans k19)
end Go.Proofs.YtcnkhkmapgbodaaDoor.W
end

section
namespace Go.Proofs.YtcnkhkmapgbodaaDoor.W
set_option linter.unusedVariables false
set_option linter.unusedSimpArgs false
open Go.B
variable {base : Nat}
attribute [local simp] wpC_skip wpC_region wpC_seq wpC_true wpC_false wpC_block wpC_exit wpC_ret wpO_nil wpO_n wpO_tt wpO_ff wpO_tf wpO_ft wpO_u wpS_mov wpS_pick wpS_build wpS_load wpS_store wpS_nilck wpS_bin wpS_beq wpS_isnil wpS_eqs wpS_not wpS_neg wpS_conv wpS_lea wpS_fld wpS_idx wpS_idxs wpS_slice wpS_sslice wpS_mkfn wpS_mset wpS_look wpS_ext wpS_len wpS_new wpS_box wpS_mk wpS_mkmap wpS_mksl wpS_app wpS_fn wpS_call after_some pthen_n pthen_x pthen_r pin BExit.outOf puto_some puto_none put_eq put_ne Opd.ev argEnv op1_mov op1_pick op1_new op1_box op1_load op1_nilck op1_bin op1_beq op1_not op1_neg op1_conv op1_lea op1_fld op1_len0 op1_len1 op1_idx op1_ext op1_build op1_mk op1_stw op1_mksl op1_eqs pureBin isShift resOf resVals val_tmp val_cell oneOf one_int cells_int one_bool cells_bool one_str cells_str one_nilp cells_nilp one_ptr cells_ptr one_nils cells_nils one_sl cells_sl one_sle cells_sle one_nilm cells_nilm one_mp cells_mp one_nilf cells_nilf one_fn cells_fn one_nili cells_nili cells_agg isSl_sl slen_sl sat_sl make_of asm rtOk wpS_b2s op1_b2s wpS_imax op1_imax wpS_imin op1_imin wpS_i2s op1_i2s op1_isnil Option.map_some gam_base op1_app op1_idxs wpS_idxa op1_idxa op1_sslice bound_none bound_some nat_of op1_mkmap op1_mset op1_look op1_len2 op1_mkfn Go.B.fillB Has
section
variable {H : Type} {enc : TypeId × Value → H} {W : World} {held : Bool}
set_option maxRecDepth 100000 in
theorem open_list {r : Reach} {b0 : Nat} {c : Value} {d : DataW H} {ps : List MemPlace} (hval : Value.okWide Tryd.prog W r b0 37 c) (h : DataW.Trod enc Tryd.prog W 0 (fun _ => true) held 37 c d ps) :
    ∃ (ns : List Int) (ty : Nat), Rd (heap0 W) ty (absV W c) (ns.map encI) ∧ ns.length ≤ 9223372036854775807 := by
  obtain ⟨fuel, h⟩ := h
  obtain ⟨a0, len0, cap0, rfl⟩ := Go.WideShapes.okWide_slice u37 hval
  rw [show (Value.slice a0 len0 cap0).cells.toList = [.slice a0 len0 cap0] from rfl] at h
  rcases Go.ChangeShapes.open_ints u37 u2 (by kernel_rfl) h with ⟨e, _⟩ | ⟨a, len, cap, zs, e, hb, hl, hm, hz, hy, hcell, hwz⟩
  · simp at e
    obtain ⟨rfl, rfl, rfl⟩ := e
    exact ⟨[], 0, sls_nil W 0 1, by simp⟩
  · simp at e
    obtain ⟨rfl, rfl, rfl⟩ := e
    simp only [if_true] at hz
    obtain ⟨ty, hty⟩ := open_longs (W := W) (a := a) hl hz (fun i hi => hcell i (by rw [hz]; exact hi))
    refine ⟨zs.take len0, ty, hty, ?_⟩
    simp [maxLen] at hm ⊢
    omega
end
end Go.Proofs.YtcnkhkmapgbodaaDoor.W
end
