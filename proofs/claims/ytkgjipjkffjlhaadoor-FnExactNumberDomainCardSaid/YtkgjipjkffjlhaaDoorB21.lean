/-
More working rules: slices of one's own that may be nil, what is appended, cells that are set one by one.
-/
import Derived.Test.YtkgjipjkffjlhaaDoorB19
namespace Go.B
set_option linter.unusedVariables false
set_option linter.unusedSimpArgs false

/-- A slice of one's own, or nil. -/
def OwnN (base : Nat) (H : BH) (ty sz : Nat) (v : BV) (xs : List (List BV)) : Option Nat → Prop
  | none => v = .nils ∧ xs = []
  | some b => OwnS base H ty sz v xs b
/-- The row was not there yet. -/
def Fr (H : BH) (bo : Option Nat) : Prop := ∀ b, bo = some b → H.row b = .fresh

section
variable {base : Nat} {H K : BH} {ty sz : Nat} {v : BV} {xs : List (List BV)} {bo : Option Nat}
theorem Fr.none : Fr H none := fun _ h => by cases h
theorem Fr.some {b : Nat} (h : H.row b = .fresh) : Fr H (some b) := fun c e => by cases e; exact h
theorem OwnN.sls (h : OwnN base H ty sz v xs bo) : Sls H ty sz v xs := by
  cases bo with
  | none => obtain ⟨rfl, rfl⟩ := h; exact ⟨rfl, rfl, fun i x hi => by simp at hi⟩
  | some b => exact OwnS.sls h
theorem OwnN.stay (h : OwnN base H ty sz v xs bo) (hk : ∀ b, bo = some b → K.row b = H.row b) : OwnN base K ty sz v xs bo := by
  cases bo with
  | none => exact h
  | some b => exact OwnS.stay h (hk b rfl)
theorem OwnN.keeps (h : OwnN base H ty sz v xs bo) (hk : H.Keeps K) : OwnN base K ty sz v xs bo := by
  cases bo with
  | none => exact h
  | some b => exact OwnS.keeps h hk
theorem OwnN.isSl (h : OwnN base H ty sz v xs bo) : v.isSl = true := h.sls.isSl
theorem OwnN.one (h : OwnN base H ty sz v xs bo) : v.one = true := one_of_isSl h.isSl
theorem OwnN.len (h : OwnN base H ty sz v xs bo) : v.slen = xs.length := h.sls.len
theorem OwnN.live (h : OwnN base H ty sz v xs bo) {b : Nat} (hb : bo = some b) : H.row b = .arr ty xs.flatten := by
  subst hb
  exact OwnS.row h
theorem OwnN.cells (h : OwnN base H ty sz v xs bo) : H.cells sz v = some xs.flatten := by
  cases bo with
  | none => obtain ⟨rfl, rfl⟩ := h; rfl
  | some b =>
    obtain ⟨rfl, h2, h3, h4⟩ := h
    have := flatten_len h4
    simp only [BH.cells, h2, Nat.zero_add, ← this, Nat.le_refl, if_true, List.drop_zero, List.take_length]

/-- What is appended to a slice of one's own. -/
theorem app_own {K : BH} {nb bytes : Nat} {σ : Opd → BV} {x y : Opd} {new : List (List BV)} (hk : H.Keeps K) (hb : Fr H bo) (own : OwnN base K ty sz (σ x) xs bo) (hc : K.cells sz (σ y) = some new.flatten)
    (hl : ∀ z ∈ new, z.length = sz) (h1 : ∀ z ∈ new, ∀ c ∈ z, c.one = true) (hsz : 0 < sz) (hsm : (xs.length + new.length) * sz ≤ 35184372088832) (hsm2 : (xs.length + new.length) * bytes ≤ 35184372088832)
    (hn : K.row nb = .fresh) (hnb : base ≤ nb) :
    ∃ v' K' bo', op1 base nb σ K (.app ty sz bytes x y) = some (v', K') ∧ OwnN base K' ty sz v' (xs ++ new) bo' ∧ H.Keeps K' ∧ Fr H bo' ∧ (∀ c, bo ≠ some c → K.row c ≠ .fresh → K'.row c = K.row c) ∧ (∀ c, bo' = some c → K.row c = .fresh) := by
  have hnl : new.flatten.length = new.length * sz := flatten_len hl
  have hall : new.flatten.all BV.one = true := by
    rw [List.all_eq_true]
    intro c hcc
    obtain ⟨z, hz, hcz⟩ := List.mem_flatten.1 hcc
    exact h1 z hz c hcz
  have hmul : (xs.length + new.length) * sz = xs.length * sz + new.length * sz := Nat.add_mul _ _ _
  have hby : (xs.length * sz + new.length * sz) * bytes ≤ 35184372088832 * sz := by
    rw [← hmul, Nat.mul_assoc, Nat.mul_comm sz bytes, ← Nat.mul_assoc]
    exact Nat.mul_le_mul_right _ hsm2
  cases bo with
  | none =>
    obtain ⟨e1, rfl⟩ := own
    cases new with
    | nil =>
      refine ⟨.nils, K, none, ?_, ⟨rfl, rfl⟩, hk, Fr.none, fun _ _ _ => rfl, fun _ h => by cases h⟩
      simp only [op1, e1, hc]
      simp [hsz]
    | cons z zs =>
      have hne : ∃ c cs, (z :: zs).flatten = c :: cs := by
        cases h : (z :: zs).flatten with
        | nil =>
          have hp : 0 < (z :: zs).length * sz := Nat.mul_pos (by simp) hsz
          rw [h] at hnl
          simp only [List.length_nil] at hnl
          omega
        | cons c cs => exact ⟨c, cs, rfl⟩
      obtain ⟨c, cs, hcs⟩ := hne
      refine ⟨.sl nb 0 (z :: zs).length, K.set nb (.arr ty (z :: zs).flatten), some nb, ?_, ⟨by simp, by simp [BH.row_set_eq], hnb, by simpa using hl⟩, hk.set (hk.fresh hn) _, Fr.some (hk.fresh hn), fun c' _ hc' => ?_, fun c' e => by cases e; exact hn⟩
      · simp only [op1, e1, hc]
        rw [hcs]
        rw [hcs] at hnl hall
        have hdiv : (c :: cs).length / sz = (z :: zs).length := by rw [hnl]; exact Nat.mul_div_cancel _ hsz
        simp only [List.length_nil, Nat.zero_mul, Nat.zero_add] at hby hsm hsm2
        simp only [hall, hsz, hnl, hby, hsm, and_self, if_true, make_of hn hnb]
        rw [← hnl, hdiv]
        rfl
      · exact BH.row_set_ne _ _ (by rintro rfl; exact hc' hn)
  | some b =>
    obtain ⟨e1, hrow, hbb, hxl⟩ := own
    have hfl := flatten_len hxl
    have hbn : b ≠ nb := by
      rintro rfl
      rw [hrow] at hn
      cases hn
    have hbf : H.row b = .fresh := hb b rfl
    refine ⟨.sl nb 0 (xs ++ new).length, (K.set nb (.arr ty (xs ++ new).flatten)).set b .dead, some nb, ?_, ⟨rfl, ?_, hnb, ?_⟩, (hk.set (hk.fresh hn) _).set hbf _, Fr.some (hk.fresh hn), fun c' h1 hc' => ?_, fun c' e => by cases e; exact hn⟩
    · simp only [op1, e1, hc]
      have hdiv : new.flatten.length / sz = new.length := by rw [hnl]; exact Nat.mul_div_cancel _ hsz
      have hmk : K.make base nb (.arr ty (xs.flatten ++ new.flatten)) = some (K.set nb (.arr ty (xs.flatten ++ new.flatten))) := make_of hn hnb
      cases hnf : new.flatten with
      | nil =>
        simp only [hrow]
        rw [← hnf, if_pos ⟨hbb, hbn, trivial, trivial, hfl.symm, hall, hsz, by rw [hnl]; exact hby, by rw [hnl]; omega⟩, hmk, hdiv]
        simp
      | cons c cs =>
        simp only [hrow]
        rw [← hnf, if_pos ⟨hbb, hbn, trivial, trivial, hfl.symm, hall, hsz, by rw [hnl]; exact hby, by rw [hnl]; omega⟩, hmk, hdiv]
        simp
    · rw [BH.row_set_ne _ _ (Ne.symm hbn), BH.row_set_eq]
    · intro z hz
      rcases List.mem_append.1 hz with h | h
      · exact hxl z h
      · exact hl z h
    · rw [BH.row_set_ne _ _ (by rintro rfl; exact h1 rfl), BH.row_set_ne _ _ (by rintro rfl; exact hc' hn)]

theorem take_set {cs : List BV} {o : Nat} {u : BV} (h : o < cs.length) : cs.take o ++ u :: cs.drop (o + 1) = cs.set o u := by
  rw [List.set_eq_take_append_cons_drop, if_pos h]
/-- One cell of one element is set. -/
theorem flatten_set1 {sz : Nat} {u : BV} : ∀ {xs : List (List BV)}, (∀ x ∈ xs, x.length = sz) → ∀ {i j : Nat} (h : i < xs.length), j < sz → xs.flatten.set (i * sz + j) u = (xs.set i (xs[i].set j u)).flatten
  | [], _, i, j, h, _ => by simp at h
  | x :: xs, hl, 0, j, h, hj => by
    have := hl x List.mem_cons_self
    simp only [Nat.zero_mul, Nat.zero_add, List.flatten_cons, List.set_cons_zero, List.getElem_cons_zero]
    rw [List.set_append_left _ _ (by omega)]
  | x :: xs, hl, i + 1, j, h, hj => by
    have hx := hl x List.mem_cons_self
    have ih := flatten_set1 (u := u) (fun z hz => hl z (List.mem_cons_of_mem _ hz)) (i := i) (by simpa using h) hj
    have e : (i + 1) * sz + j = x.length + (i * sz + j) := by rw [Nat.succ_mul, hx]; omega
    rw [List.set_cons_succ, List.flatten_cons, List.flatten_cons, e, List.getElem_cons_succ, ← ih, List.set_append_right _ _ (by omega)]
    simp
end

/-! ### writing -/
def BH.wr (base : Nat) (H : BH) (rt : Option Nat) (n : Nat) (p v : BV) : Option BH := match p with
  | .ptr b o => match H.row b with
    | .arr ty cs => if rtOk rt ty = true ∧ base ≤ b ∧ v.cells.length = n ∧ o + n ≤ cs.length ∧ v.cells.all BV.one = true then some (H.set b (.arr ty (cs.take o ++ v.cells ++ cs.drop (o + n)))) else none
    | _ => none
  | _ => none
section
variable {base nb : Nat} {σ : Opd → BV} {H K : BH} {C : CRel} {e : Env} {Kn : Env → BH → Prop} {d : Option Nat} {g : Option (Nat × Bool)} {kp : List Nat}
theorem op1_stw {rt : Option Nat} {n : Nat} {a v : Opd} : op1 base nb σ H (.store rt n a v) = (H.wr base rt n (σ a) (σ v)).map fun K => (.tup [], K) := by
  cases ha : σ a <;> simp only [op1, BH.wr, ha] <;> try rfl
  rename_i b o
  cases hb : H.row b <;> simp only [] <;> try rfl
  split <;> rfl
theorem op1_b2s {ty : Nat} {x : Opd} : op1 base nb σ H (.b2s ty x) = match σ x with
    | .nils => some (.str ByteArray.empty, H)
    | .sl b o n => match H.row b with
      | .arr t cs => if t = ty ∧ o + n ≤ cs.length then (bytesB ((cs.drop o).take n)).map fun xs => (.str (strB xs), H) else none
      | _ => none
    | _ => none := rfl
theorem wpS_b2s {ty : Nat} {x : Opd} : wpStep base C ⟨d, .b2s ty x, g, kp⟩ Kn e H = after (op1 base 0 (·.ev e) H (.b2s ty x)) d Kn e := rfl
theorem op1_idxa {n sz : Nat} {x i : Opd} : op1 base nb σ H (.idxa n sz x i) = match σ x, σ i with
    | .ptr b o, .int _ j => if 0 ≤ j ∧ j < n then some (.ptr b (o + j.toNat * sz), H) else none
    | _, _ => none := rfl
theorem wpS_idxa {n sz : Nat} {x i : Opd} : wpStep base C ⟨d, .idxa n sz x i, g, kp⟩ Kn e H = after (op1 base 0 (·.ev e) H (.idxa n sz x i)) d Kn e := rfl
theorem op1_sslice {x : Opd} {lo hi : Option Opd} : op1 base nb σ H (.sslice x lo hi) = match σ x with
    | .str s => match boundB σ 0 lo, boundB σ s.size hi with
      | some l, some h => if l ≤ h ∧ h ≤ s.size then some (.str (s.extract l h), H) else none
      | _, _ => none
    | _ => none := rfl
theorem bound_none {n : Nat} : boundB σ n none = some n := rfl
theorem bound_some {n : Nat} {x : Opd} : boundB σ n (some x) = natOf (σ x) := rfl
theorem nat_of {k : IntKind} {n : Int} : natOf (.int k n) = if 0 ≤ n then some n.toNat else none := rfl
theorem wr_row {ty b o n : Nat} {cs : List BV} {v : BV} {rt : Option Nat} (hr : H.row b = .arr ty cs) (h0 : rtOk rt ty = true) (h1 : base ≤ b) (h2 : v.cells.length = n) (h3 : o + n ≤ cs.length) (h4 : v.cells.all BV.one = true) :
    H.wr base rt n (.ptr b o) v = some (H.set b (.arr ty (cs.take o ++ v.cells ++ cs.drop (o + n)))) := by
  simp only [BH.wr, hr]
  rw [if_pos ⟨h0, h1, h2, h3, h4⟩]
/-- A cell of an element of one's own is written. -/
theorem OwnN.wr {ty sz i j : Nat} {v u : BV} {xs : List (List BV)} {bo : Option Nat} (own : OwnN base K ty sz v xs bo) (hi : i < xs.length) (hj : j < sz) (hu : u.one = true) {rt : Option Nat} (hrt : rtOk rt ty = true) :
    ∃ b K', bo = some b ∧ v.sat i sz = .ptr b (i * sz) ∧ K.wr base rt 1 (.ptr b (i * sz + j)) u = some K' ∧ OwnN base K' ty sz v (xs.set i (xs[i].set j u)) bo ∧ (∀ c, bo ≠ some c → K'.row c = K.row c) := by
  cases bo with
  | none =>
    obtain ⟨_, rfl⟩ := own
    simp at hi
  | some b =>
    obtain ⟨rfl, hrow, hb, hl⟩ := own
    have hfl := flatten_len hl
    have hlt : i * sz + sz ≤ xs.length * sz := by rw [← Nat.succ_mul]; exact Nat.mul_le_mul_right _ hi
    have hw := wr_row (base := base) (o := i * sz + j) (v := u) (n := 1) (rt := rt) hrow hrt hb (by rw [cells_one hu]; rfl) (by omega) (by rw [cells_one hu]; simp [hu])
    rw [cells_one hu, List.append_assoc, List.singleton_append, take_set (by omega), flatten_set1 hl hi hj] at hw
    refine ⟨b, _, rfl, by rw [sat_sl, Nat.zero_add], hw, ⟨by simp, BH.row_set_eq _ _ _, hb, ?_⟩, fun c hc => BH.row_set_ne _ _ (by rintro rfl; exact hc rfl)⟩
    intro x hx
    rcases List.mem_or_eq_of_mem_set hx with h | h
    · exact hl x h
    · rw [h, List.length_set]
      exact hl _ (List.getElem_mem hi)
theorem Sls.fldt {ty sz : Nat} {v : BV} {xs : List (List BV)} (h : Sls H ty sz v xs) {i : Nat} {x : List BV} (hi : xs[i]? = some x) :
    ∃ b o, v.sat i sz = .ptr b o ∧ ∀ (rt : Option Nat) (k : Nat) (c : BV), rtOk rt ty = true → x[k]? = some c → H.rd rt none (.ptr b (o + k)) = some c := by
  obtain ⟨b, o, cs, h1, h2, h3, h4⟩ := h.get i x hi
  refine ⟨b, o, h1, fun rt k c hrt hk => ?_⟩
  have hlt : k < x.length := (List.getElem?_eq_some_iff.1 hk).1
  have hx : x.length ≤ sz := by rw [← h4]; simp; omega
  rw [← h4, List.getElem?_take_of_lt (by omega), List.getElem?_drop] at hk
  have hlt2 : o + k < cs.length := by omega
  have : (cs.drop (o + k)).head? = some c := by rw [List.head?_drop]; exact hk
  simp [BH.rd, h2, hrt, show o + k + 1 ≤ cs.length by omega, asm, List.head?_take, this]
end

/-- A list that is filled from the beginning. -/
def mixOf (f : Nat → List BV) (xs : List (List BV)) (i : Nat) : List (List BV) := (List.range i).map f ++ xs.drop i
section
variable {f : Nat → List BV} {xs : List (List BV)} {i : Nat}
theorem mix_len (h : i ≤ xs.length) : (mixOf f xs i).length = xs.length := by
  simp [mixOf]
  omega
theorem mix_zero : mixOf f xs 0 = xs := by simp [mixOf]
theorem mix_end (h : xs.length ≤ i) : mixOf f xs i = (List.range i).map f := by simp [mixOf, List.drop_eq_nil_of_le h]
theorem mix_get (h : i < xs.length) : (mixOf f xs i)[i]? = some xs[i] := by
  unfold mixOf
  rw [List.getElem?_append_right (by simp)]
  simp [List.getElem?_eq_getElem h]
theorem mix_set (h : i < xs.length) : (mixOf f xs i).set i (f i) = mixOf f xs (i + 1) := by
  unfold mixOf
  rw [List.set_append_right _ _ (by simp), List.length_map, List.length_range, Nat.sub_self, List.drop_eq_getElem_cons h, List.set_cons_zero, List.range_succ, List.map_append]
  simp
end
theorem val_tmp {e : Env} {H : BH} {t : Nat} : BRes.val e H (.tmp t) = some (e t) := rfl
theorem val_cell {e : Env} {H : BH} {t : Nat} {n : Option Nat} : BRes.val e H (.cell t n) = H.rd none n (e t) := by
  cases h : e t <;> simp only [BRes.val, BH.rd, h]
  rename_i b o
  cases hb : H.row b <;> simp [rtOk]
end Go.B
