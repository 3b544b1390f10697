/-
Chains of transducers: what is shared.
-/
import Derived.Test.YtkmlmkbpdldjgaaW16
namespace Go.Proofs.Ytkmlmkbpdldjgaa.W
set_option linter.unusedVariables false
set_option linter.unusedSimpArgs false
open Go.B
variable {base : Nat}
attribute [local simp] wpC_skip wpC_region wpC_seq wpC_true wpC_false wpC_block wpC_exit wpC_ret wpO_nil wpO_n wpO_tt wpO_ff wpO_tf wpO_ft wpO_u wpS_mov wpS_pick wpS_build wpS_load wpS_store wpS_nilck wpS_bin wpS_beq wpS_isnil wpS_eqs wpS_not wpS_neg wpS_conv wpS_lea wpS_fld wpS_idx wpS_idxs wpS_slice wpS_sslice wpS_mkfn wpS_mset wpS_look wpS_ext wpS_len wpS_new wpS_box wpS_mk wpS_mkmap wpS_mksl wpS_app wpS_fn wpS_call after_some Post.then Post.inBlock BExit.outOf puto_some puto_none put_eq put_ne Opd.ev argEnv op1_mov op1_pick op1_new op1_box op1_load op1_nilck op1_bin op1_beq op1_not op1_neg op1_conv op1_lea op1_fld op1_len0 op1_len1 op1_idx op1_ext op1_build op1_mk op1_stw op1_mksl op1_eqs pureBin isShift resOf resVals val_tmp val_cell oneOf one_int cells_int one_bool cells_bool one_str cells_str one_nilp cells_nilp one_ptr cells_ptr one_nils cells_nils one_sl cells_sl one_sle cells_sle one_nilm cells_nilm one_mp cells_mp one_nilf cells_nilf one_fn cells_fn one_nili cells_nili cells_agg isSl_sl slen_sl sat_sl make_of asm rtOk wpS_b2s op1_b2s op1_isnil Option.map_some gam_base op1_app

/-- Rows that live beside a transducer that is being built stay beside it. -/
def Sf (n : Nat) (bB cB : Option Nat) (B K : BH) (bo co : Option Nat) : Prop :=
  ∀ d, B.row d ≠ .fresh → d ≠ n → bB ≠ some d → cB ≠ some d → K.row d = B.row d ∧ bo ≠ some d ∧ co ≠ some d
section
variable {n : Nat} {bA cA bB cB bo co : Option Nat} {A B K L : BH}
theorem Sf.refl : Sf n bo co K K bo co := fun d h1 h2 h3 h4 => ⟨rfl, h3, h4⟩
theorem Sf.trans (h : Sf n bA cA A B bB cB) (k : Sf n bB cB B K bo co) : Sf n bA cA A K bo co := fun d h1 h2 h3 h4 => by
  obtain ⟨e1, e2, e3⟩ := h d h1 h2 h3 h4
  obtain ⟨f1, f2, f3⟩ := k d (by rw [e1]; exact h1) h2 e2 e3
  exact ⟨f1.trans e1, f2, f3⟩
theorem Sf.keeps (h : Sf n bB cB B K bo co) (k : K.Keeps L) : Sf n bB cB B L bo co := fun d h1 h2 h3 h4 => by
  obtain ⟨e1, e2, e3⟩ := h d h1 h2 h3 h4
  exact ⟨by rw [k d (by rw [e1]; exact h1), e1], e2, e3⟩
theorem Sf.own (h : Sf n bB cB B K bo co) {ty sz : Nat} {w : BV} {xs : List (List BV)} {fo : Option Nat} (own : OwnN base B ty sz w xs fo) (fr : ∀ d, fo = some d → d ≠ n ∧ bB ≠ some d ∧ cB ≠ some d) :
    OwnN base K ty sz w xs fo ∧ ∀ d, fo = some d → d ≠ n ∧ bo ≠ some d ∧ co ≠ some d := by
  have key : ∀ d, fo = some d → K.row d = B.row d ∧ bo ≠ some d ∧ co ≠ some d := fun d hd => h d (by rw [own.live hd]; simp) (fr d hd).1 (fr d hd).2.1 (fr d hd).2.2
  exact ⟨own.stay fun d hd => (key d hd).1, fun d hd => ⟨(fr d hd).1, (key d hd).2⟩⟩
theorem Sf.box (h : Sf n bB cB B K bo co) {H : BH} {s : Int} {u v : BV} {bs : List Bool} {es : List E4} (bl : Bld base H B n s u v bs es bB cB) {d : Nat} {cs : List BV} (hr : B.row d = .arr 34 cs) (hd : d ≠ n) : K.row d = .arr 34 cs := by
  rw [(h d (by rw [hr]; simp) hd (ne_row bl.fl hr (by omega)) (ne_row bl.ed hr (by omega))).1, hr]
theorem Sf.edge (h : Sf n bB cB B K bo co) {d : Nat} {cs : List BV} (hr : B.row d = .arr 54 cs) (fr : d ≠ n ∧ bB ≠ some d ∧ cB ≠ some d) : K.row d = .arr 54 cs ∧ d ≠ n ∧ bo ≠ some d ∧ co ≠ some d := by
  obtain ⟨e1, e2, e3⟩ := h d (by rw [hr]; simp) fr.1 fr.2.1 fr.2.2
  exact ⟨e1.trans hr, fr.1, e2, e3⟩
end
section
variable {H K : BH} {n : Nat} {s : Int} {u v : BV} {bs : List Bool} {es : List E4} {bo co : Option Nat}
theorem Bld.free (h : Bld base H K n s u v bs es bo co) {d : Nat} (hf : K.row d = .fresh) : d ≠ n ∧ bo ≠ some d ∧ co ≠ some d :=
  ⟨(by rintro rfl; rw [h.row] at hf; cases hf), ne_fresh h.fl hf, ne_fresh h.ed hf⟩
theorem Bld.pushS (h : Bld base H K n s u v bs es bo co) (hk : H.Keeps K) {vy : BV} {new : List E4} (hc : K.cells 4 vy = some (new.map E4.enc).flatten)
    (hsm : es.length + new.length ≤ 500000000) {nb : Nat} (hn : K.row nb = .fresh) (hnb : base ≤ nb) :
    ∃ v' K' K2 co', K.appd base nb 54 4 48 v vy = some (v', K') ∧ K'.wr base none 1 (.ptr n 2) v' = some K2 ∧ Bld base H K2 n s u v' bs (es ++ new) bo co' ∧ H.Keeps K2 ∧ Sf n bo co K K2 bo co' := by
  obtain ⟨v', K', co', h1, h2, h3, h4, h5, h6⟩ := appd_own (base := base) (bytes := 48) (nb := nb) hk h.fc h.ed hc (encEs_all new) (encEs_one new) (by omega) (by simp; omega) (by simp; omega) hn hnb
  have hrow' : K'.row n = .arr 34 [.int .i64 s, u, v] := by rw [h5 n (ne_row h.ed h.row (by omega)) (by rw [h.row]; simp), h.row]
  have hw := wr_row (base := base) (o := 2) (n := 1) (v := v') (rt := none) hrow' rfl h.own (by rw [cells_one h2.one]; rfl) (by simp) (by rw [cells_one h2.one]; simp [h2.one])
  rw [cells_one h2.one] at hw
  refine ⟨v', K', _, co', h1, hw, ⟨BH.row_set_eq _ _ _, ?_, ?_, h.fb, h4, h.fn, h.own⟩, ?_, ?_⟩
  · refine h.fl.stay fun b hb => ?_
    have hbr := h.fl.live hb
    rw [BH.row_set_ne _ _ (by rintro rfl; rw [h.row] at hbr; cases hbr), h5 b (ne_row h.ed hbr (by omega)) (by rw [hbr]; simp)]
  · rw [List.map_append]
    refine h2.stay fun b hb => BH.row_set_ne _ _ ?_
    rintro rfl
    have := h2.live hb
    rw [hrow'] at this
    cases this
  · exact h3.set h.fn _
  · intro d hd hdn hb hc
    exact ⟨by rw [BH.row_set_ne _ _ hdn, h5 d hc hd], hb, fun e => hd (h6 d e)⟩
theorem Bld.push1S (h : Bld base H K n s u v bs es bo co) (hk : H.Keeps K) (e : E4) (hsm : es.length + 1 ≤ 500000000)
    {n1 : Nat} (hf1 : K.row n1 = .fresh) {nb : Nat} (hn : (K.set n1 (.arr 54 e.enc)).row nb = .fresh) (hnb : base ≤ nb) :
    ∃ v' K' K2 co', (K.set n1 (.arr 54 e.enc)).appd base nb 54 4 48 v (.sl n1 0 1) = some (v', K') ∧ K'.wr base none 1 (.ptr n 2) v' = some K2 ∧ Bld base H K2 n s u v' bs (es ++ [e]) bo co' ∧ H.Keeps K2 ∧ Sf n bo co K K2 bo co' := by
  have hks := BH.keeps_set (.arr 54 e.enc) hf1
  obtain ⟨v', K', K2, co', h1, h2, h3, h4, h5⟩ := (h.keeps hks).pushS (hk.trans hks) (vy := .sl n1 0 1) (new := [e]) (by simpa using mk_cells (K := K) (n1 := n1) (ty := 54) (sz := 4) (n := 1) (encE_len e)) (by simpa using hsm) hn hnb
  exact ⟨v', K', K2, co', h1, h2, h3, h4, (Sf.refl.keeps hks).trans h5⟩
/-- A flag is appended to it. -/
theorem Bld.push1B (h : Bld base H K n s u v bs es bo co) (hk : H.Keeps K) (x : Bool) (hsm : bs.length + 1 ≤ 500000000)
    {n1 : Nat} (hf1 : K.row n1 = .fresh) {nb : Nat} (hn : (K.set n1 (.arr 4 [.bool x])).row nb = .fresh) (hnb : base ≤ nb) :
    ∃ u' K' K2 bo', (K.set n1 (.arr 4 [.bool x])).appd base nb 4 1 1 u (.sl n1 0 1) = some (u', K') ∧ K'.wr base none 1 (.ptr n 1) u' = some K2 ∧ Bld base H K2 n s u' v (bs ++ [x]) es bo' co ∧ H.Keeps K2 ∧ Sf n bo co K K2 bo' co := by
  have hks := BH.keeps_set (.arr 4 [.bool x]) hf1
  have hb' := h.keeps hks
  obtain ⟨u', K', bo', h1, h2, h3, h4, h5, h6⟩ := appd_own (base := base) (bytes := 1) (nb := nb) (vy := .sl n1 0 1) (hk.trans hks) hb'.fb hb'.fl (new := [x].map encB) (by simpa [encB] using mk_cells (K := K) (n1 := n1) (ty := 4) (sz := 1) (n := 1) (cs := [.bool x]) rfl) (encBs_all [x]) (encBs_one [x]) (by omega) (by simp; omega) (by simp; omega) hn hnb
  have hrow' : K'.row n = .arr 34 [.int .i64 s, u, v] := by rw [h5 n (ne_row hb'.fl hb'.row (by omega)) (by rw [hb'.row]; simp), hb'.row]
  have hw := wr_row (base := base) (o := 1) (n := 1) (v := u') (rt := none) hrow' rfl h.own (by rw [cells_one h2.one]; rfl) (by simp) (by rw [cells_one h2.one]; simp [h2.one])
  rw [cells_one h2.one] at hw
  refine ⟨u', K', _, bo', h1, hw, ⟨BH.row_set_eq _ _ _, ?_, ?_, h4, h.fc, h.fn, h.own⟩, ?_, ?_⟩
  · rw [List.map_append]
    refine h2.stay fun b hb => BH.row_set_ne _ _ ?_
    rintro rfl
    have := h2.live hb
    rw [hrow'] at this
    cases this
  · refine hb'.ed.stay fun b hb => ?_
    have hbr := hb'.ed.live hb
    rw [BH.row_set_ne _ _ (by rintro rfl; rw [hb'.row] at hbr; cases hbr), h5 b (ne_row hb'.fl hbr (by omega)) (by rw [hbr]; simp)]
  · exact h3.set h.fn _
  · intro d hd hdn hb hc
    have e0 := hks d hd
    exact ⟨by rw [BH.row_set_ne _ _ hdn, h5 d hb (by rw [e0]; exact hd), e0], fun e => by have := h6 d e; rw [e0] at this; exact hd this, hc⟩
end

theorem take_filter_succ {α : Type} {p : α → Bool} {xs : List α} {i : Nat} (h : i < xs.length) : (xs.take (i + 1)).filter p = (xs.take i).filter p ++ (if p xs[i] then [xs[i]] else []) := by
  rw [List.take_add_one, List.getElem?_eq_getElem h, List.filter_append]
  simp [List.filter_cons]
theorem take_flatMap_succ {α β : Type} {f : α → List β} {xs : List α} {i : Nat} (h : i < xs.length) : (xs.take (i + 1)).flatMap f = (xs.take i).flatMap f ++ f xs[i] := by
  rw [List.take_add_one, List.getElem?_eq_getElem h, List.flatMap_append]
  simp
theorem flatMap_len {α β : Type} {f : α → List β} {B : Nat} : ∀ {l : List α}, (∀ x ∈ l, (f x).length ≤ B) → (l.flatMap f).length ≤ l.length * B
  | [], _ => by simp
  | x :: l, h => by
    have h1 := h x List.mem_cons_self
    have h2 := flatMap_len (f := f) (B := B) (l := l) fun y hy => h y (List.mem_cons_of_mem _ hy)
    rw [List.flatMap_cons, List.length_append, List.length_cons, Nat.succ_mul]
    omega
theorem flatMap_filter {α β : Type} {p : α → Bool} {f : α → List β} : ∀ {l : List α}, (l.filter p).flatMap f = l.flatMap fun x => if p x = true then f x else []
  | [] => rfl
  | x :: l => by
    cases h : p x <;> simp [List.filter_cons, h, flatMap_filter (l := l)]

theorem wpO_cut {C : CRel} {ops : List BOper} {K : Env → BH → Prop} {e : Env} {H : BH} (I : Env → BH → Prop) (h1 : wpO base C ops I e H) (h2 : ∀ e' H', I e' H' → K e' H') : wpO base C ops K e H := wpO_mono h2 h1

/-- The edges from a state. -/
def fromS (es : List E4) (p : Nat) : List E4 := es.filter fun e => e.f == (p : Int)
theorem fromS_len (es : List E4) (p : Nat) : (fromS es p).length ≤ es.length := List.length_filter_le _ _
theorem fromS_small {es : List E4} {p : Nat} (h : Small es) : Small (fromS es p) := fun e he => h e (List.mem_filter.1 he).1

theorem c73 (p : Nat) (s : Int) (es : List E4) (u v : BV) (c m : Nat) (K : BH) (rm : K.row m = .arr 34 [.int .i64 s, u, v]) (ov : OwnS base K 54 4 v (es.map E4.enc) c) (hn : es.length ≤ 1048576) :
    ∃ w K', Runs (gam base) 73 [.ptr m 0, .int .i64 p] K w K' ∧ K.Keeps K' ∧ ∃ fo, OwnN base K' 54 4 w ((fromS es p).map E4.enc) fo ∧ Fr K fo := by
  refine call_of_wp (fn := ir73) (R := fun w K' => K.Keeps K' ∧ ∃ fo, OwnN base K' 54 4 w ((fromS es p).map E4.enc) fo ∧ Fr K fo) rfl ?_
  have hlv : v.slen = es.length := by rw [ov.sls.len]; simp
  simp [ir73, fillB]
  intro n1 b1 f1
  simp [make_of f1 b1]
  have ks := BH.keeps_set (H := K) (.arr 54 []) f1
  refine wpC_count es.length (fun i e L => e 0 = .ptr m 0 ∧ e 1 = .int .i64 p ∧ e 6 = .int .i64 i ∧ K.Keeps L ∧ ∃ w fo, e 5 = w ∧ OwnN base L 54 4 w (((es.take i).filter fun e => e.f == (p : Int)).map E4.enc) fo ∧ Fr K fo) (i0 := 0) ?_ (Nat.zero_le _) ?_
  · exact ⟨rfl, rfl, rfl, ks, .sl n1 0 0, some n1, rfl, ⟨rfl, by rw [BH.row_set_eq]; rfl, b1, fun _ h => by cases h⟩, Fr.some f1⟩
  · rintro i e L hi ⟨e0, e1, e6, hk, w, fo, e5, own, hfr⟩
    have rmL : L.row m = .arr 34 [.int .i64 s, u, v] := by rw [hk m (by rw [rm]; simp), rm]
    obtain ⟨_, _, w3, _⟩ := rows3 rmL (rt := none) rfl
    by_cases hlt : i < es.length
    · obtain ⟨b, o, hsat, hf⟩ := (ov.sls.keeps hk).fldt (i := i) (x := es[i].enc) (by simp [hlt])
      have f0 := hf none 0 (.int .i64 es[i].f) rfl rfl
      have hrd : L.rd none (some 4) (v.sat i 4) = some (.agg (E4.enc es[i])) := (ov.sls.keeps hk).rd (by simp [hlt]) rfl
      rw [hsat] at hrd
      have wr2 : IntKind.i64.wrap ((i : Int) + 1) = (i : Int) + 1 := w64 (by omega) (by omega)
      simp only [Nat.add_zero] at f0
      have hts := take_filter_succ (p := fun e : E4 => e.f == (p : Int)) hlt
      cases q : (es[i].f == (p : Int))
      · rw [q] at hts
        simp [e0, e1, e6, e5, w3, ov.isSl, hlv, hlt, hsat, f0, q, wr2]
        refine ⟨hk, fo, ?_, hfr⟩
        have own' : OwnN base L 54 4 w (((es.take (i + 1)).filter fun e => e.f == (p : Int)).map E4.enc) fo := by rw [hts]; simpa using own
        exact own'
      · rw [q] at hts
        have hfill : fillB [.int .i64 0, .int .i64 0, .str ⟨#[]⟩, .str ⟨#[]⟩] [(0, 4, .agg es[i].enc)] = some es[i].enc := rfl
        simp [e0, e1, e6, e5, w3, ov.isSl, hlv, hlt, hsat, f0, q, hrd, hfill]
        intro n2 b2 f2
        simp [make_of f2 b2]
        intro n3 b3 f3
        have ks2 := BH.keeps_set (H := L) (.arr 54 es[i].enc) f2
        obtain ⟨w', L', fo', h1, h2, h3, h4, h5, h6⟩ := appd_own (base := base) (bytes := 48) (nb := n3) (vy := .sl n2 0 1) (hk.trans ks2) hfr (own.keeps ks2) (new := [es[i].enc]) (by simpa using mk_cells (K := L) (n1 := n2) (ty := 54) (sz := 4) (n := 1) (encE_len _))
          (by intro z hz; simp at hz; subst hz; rfl) (by intro z hz; simp at hz; subst hz; exact encE_one _) (by omega) (by
            have := List.length_filter_le (fun e : E4 => e.f == (p : Int)) (es.take i)
            simp at this ⊢
            omega) (by
            have := List.length_filter_le (fun e : E4 => e.f == (p : Int)) (es.take i)
            simp at this ⊢
            omega) f3 b3
        simp [h1, e0, e1, e6, wr2, hlt]
        refine ⟨h3, fo', ?_, h4⟩
        have own' : OwnN base L' 54 4 w' (((es.take (i + 1)).filter fun e => e.f == (p : Int)).map E4.enc) fo' := by rw [hts]; simpa using h2
        exact own'
    · have : i = es.length := by omega
      subst this
      rw [List.take_length] at own
      simp [e0, e1, e6, e5, w3, ov.isSl, hlv]
      exact ⟨hk, fo, by simpa [fromS] using own, hfr⟩
end Go.Proofs.Ytkmlmkbpdldjgaa.W
