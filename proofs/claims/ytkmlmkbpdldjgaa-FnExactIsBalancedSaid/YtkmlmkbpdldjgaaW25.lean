/-
What is reached: plain facts.
-/
import Derived.Test.YtkmlmkbpdldjgaaW22
namespace Go.Proofs.Ytkmlmkbpdldjgaa.W
set_option linter.unusedVariables false
set_option linter.unusedSimpArgs false
open Go.B

def iter {α : Type} (f : α → α) : Nat → α → α
  | 0, x => x
  | k + 1, x => f (iter f k x)
def frE (back : Bool) (e : E4) : Nat := if back then e.t.toNat else e.f.toNat
def toE (back : Bool) (e : E4) : Nat := if back then e.f.toNat else e.t.toNat
def stepE (back : Bool) (st : List Bool) (e : E4) : List Bool := st.set (toE back e) (st.getD (toE back e) false || st.getD (frE back e) false)
def passL (back : Bool) (es : List E4) (st : List Bool) : List Bool := es.foldl (stepE back) st
def cnt (st : List Bool) : Nat := st.countP id

theorem step_len {back : Bool} {st : List Bool} {e : E4} : (stepE back st e).length = st.length := by simp [stepE]
theorem pass_len {back : Bool} : ∀ {es : List E4} {st : List Bool}, (passL back es st).length = st.length
  | [], st => rfl
  | e :: es, st => by
    show (passL back es (stepE back st e)).length = st.length
    rw [pass_len, step_len]
theorem pass_snoc {back : Bool} {es : List E4} {e : E4} {st : List Bool} : passL back (es ++ [e]) st = stepE back (passL back es st) e := by simp [passL]
theorem iter_len {back : Bool} {es : List E4} {st : List Bool} : ∀ k, (iter (passL back es) k st).length = st.length
  | 0 => rfl
  | k + 1 => by
    show (passL back es (iter (passL back es) k st)).length = st.length
    rw [pass_len, iter_len k]
theorem cnt_le (st : List Bool) : cnt st ≤ st.length := List.countP_le_length
theorem cnt_set : ∀ {st : List Bool} {i : Nat}, st[i]? = some false → cnt (st.set i true) = cnt st + 1
  | [], i, h => by simp at h
  | x :: st, 0, h => by
    simp at h
    subst h
    simp [cnt]
  | x :: st, i + 1, h => by
    have ih := cnt_set (st := st) (i := i) (by simpa using h)
    simp only [cnt, List.set_cons_succ, List.countP_cons] at ih ⊢
    omega
/-- A step sets, or leaves all as it is. -/
theorem step_same {back : Bool} {st : List Bool} {e : E4} (h : (st.getD (frE back e) false && !st.getD (toE back e) false) = false) (hlt : toE back e < st.length) : stepE back st e = st := by
  unfold stepE
  have hv : (st.getD (toE back e) false || st.getD (frE back e) false) = st[toE back e] := by
    have : st.getD (toE back e) false = st[toE back e] := by simp [List.getD, List.getElem?_eq_getElem hlt]
    rw [this] at h ⊢
    cases h1 : st[toE back e] <;> cases h2 : st.getD (frE back e) false <;> simp_all
  rw [hv, List.set_getElem_self]
theorem step_more {back : Bool} {st : List Bool} {e : E4} (h : (st.getD (frE back e) false && !st.getD (toE back e) false) = true) (hlt : toE back e < st.length) :
    stepE back st e = st.set (toE back e) true ∧ cnt (stepE back st e) = cnt st + 1 := by
  simp only [Bool.and_eq_true, Bool.not_eq_true'] at h
  have e1 : stepE back st e = st.set (toE back e) true := by
    unfold stepE
    rw [h.1, Bool.or_true]
  refine ⟨e1, ?_⟩
  rw [e1]
  refine cnt_set ?_
  have := h.2
  simp [List.getD, List.getElem?_eq_getElem hlt] at this
  rw [List.getElem?_eq_getElem hlt, this]
def InR (n : Nat) (es : List E4) : Prop := ∀ e ∈ es, 0 ≤ e.f ∧ e.f < n ∧ 0 ≤ e.t ∧ e.t < n
theorem InR.to {n : Nat} {es : List E4} (h : InR n es) {e : E4} (he : e ∈ es) (back : Bool) : toE back e < n ∧ frE back e < n := by
  obtain ⟨h1, h2, h3, h4⟩ := h e he
  cases back <;> simp [toE, frE] <;> omega
/-- A pass that changes nothing, or makes more. -/
theorem pass_grow {back : Bool} {n : Nat} : ∀ {es : List E4} {st : List Bool}, InR n es → st.length = n → passL back es st = st ∨ cnt st < cnt (passL back es st)
  | [], st, _, _ => .inl rfl
  | e :: es, st, h, hl => by
    show passL back es (stepE back st e) = st ∨ cnt st < cnt (passL back es (stepE back st e))
    have ht := (h.to List.mem_cons_self back).1
    rw [← hl] at ht
    have hes : InR n es := fun x hx => h x (List.mem_cons_of_mem _ hx)
    have ih := pass_grow (back := back) (es := es) (st := stepE back st e) hes (by rw [step_len, hl])
    cases q : (st.getD (frE back e) false && !st.getD (toE back e) false)
    · have hs := step_same q ht
      rw [hs] at ih ⊢
      exact ih
    · obtain ⟨_, hc⟩ := step_more q ht
      right
      rcases ih with h1 | h1
      · rw [h1]
        omega
      · omega
theorem pass_mono {back : Bool} {n : Nat} {es : List E4} {st : List Bool} (h : InR n es) (hl : st.length = n) : cnt st ≤ cnt (passL back es st) := by
  rcases pass_grow (back := back) h hl with h1 | h1
  · rw [h1]
    exact Nat.le_refl _
  · omega
theorem iter_fix {α : Type} {f : α → α} {x : α} {k : Nat} (h : f (iter f k x) = iter f k x) : ∀ m, k ≤ m → iter f m x = iter f k x := by
  intro m hm
  induction m with
  | zero =>
    have : k = 0 := by omega
    rw [this]
  | succ m ih =>
    by_cases e : k = m + 1
    · rw [e]
    · show f (iter f m x) = _
      rw [ih (by omega), h]
theorem iter_cnt {back : Bool} {n : Nat} {es : List E4} {st : List Bool} (h : InR n es) (hl : st.length = n) : ∀ k, (∃ m, m ≤ k ∧ passL back es (iter (passL back es) m st) = iter (passL back es) m st) ∨ k ≤ cnt (iter (passL back es) k st)
  | 0 => .inr (Nat.zero_le _)
  | k + 1 => by
    rcases iter_cnt h hl k with ⟨m, h1, h2⟩ | h1
    · exact .inl ⟨m, by omega, h2⟩
    · rcases pass_grow (back := back) (st := iter (passL back es) k st) h (by rw [iter_len, hl]) with h2 | h2
      · exact .inl ⟨k, by omega, h2⟩
      · right
        show k + 1 ≤ cnt (passL back es (iter (passL back es) k st))
        omega
/-- Behind as many passes as there are states nothing changes any more. -/
theorem iter_done {back : Bool} {n : Nat} {es : List E4} {st : List Bool} (h : InR n es) (hl : st.length = n) : passL back es (iter (passL back es) n st) = iter (passL back es) n st := by
  rcases iter_cnt (back := back) h hl n with ⟨m, h1, h2⟩ | h1
  · rw [iter_fix h2 n h1, h2]
  · rcases pass_grow (back := back) (st := iter (passL back es) n st) h (by rw [iter_len, hl]) with h2 | h2
    · exact h2
    · have := cnt_le (passL back es (iter (passL back es) n st))
      rw [pass_len, iter_len, hl] at this
      omega
theorem iter_end {back : Bool} {n k : Nat} {es : List E4} {st : List Bool} (h : InR n es) (hl : st.length = n) (hk : passL back es (iter (passL back es) k st) = iter (passL back es) k st) : iter (passL back es) k st = iter (passL back es) n st := by
  have h1 := iter_done (back := back) h hl
  rcases Nat.le_total k n with h2 | h2
  · exact (iter_fix hk n h2).symm
  · exact iter_fix h1 k h2
theorem iter_more {back : Bool} {n k : Nat} {es : List E4} {st : List Bool} (h : InR n es) (hl : st.length = n) (hk : passL back es (iter (passL back es) k st) ≠ iter (passL back es) k st) : k < n := by
  rcases Nat.lt_or_ge k n with h1 | h1
  · exact h1
  · refine absurd ?_ hk
    rw [iter_fix (iter_done (back := back) h hl) k h1]
    exact iter_done h hl

/-! ### the states that are left -/
def cntS (sel : Nat → Bool) (i : Nat) : Nat := ((List.range i).filter sel).length
def numS (sel : Nat → Bool) (q : Nat) : Int := if sel q = true then (cntS sel q : Int) else -1
def accS (sel : Nat → Bool) (bs : List Bool) (i : Nat) : List Bool := ((List.range i).filter sel).map fun q => bs.getD q false
theorem accS_len {sel : Nat → Bool} {bs : List Bool} {i : Nat} : (accS sel bs i).length = cntS sel i := by simp [accS, cntS]
theorem cntS_le {sel : Nat → Bool} {i : Nat} : cntS sel i ≤ i := by
  have := List.length_filter_le sel (List.range i)
  simpa [cntS] using this
theorem accS_succ {sel : Nat → Bool} {bs : List Bool} {i : Nat} : accS sel bs (i + 1) = accS sel bs i ++ (if sel i = true then [bs.getD i false] else []) := by
  unfold accS
  rw [List.range_succ, List.filter_append, List.map_append]
  cases h : sel i <;> simp [List.filter_cons, h]
def selE (sel : Nat → Bool) (e : E4) : List E4 := if (decide (0 ≤ numS sel e.f.toNat) && decide (0 ≤ numS sel e.t.toNat)) = true then [⟨numS sel e.f.toNat, numS sel e.t.toNat, e.i, e.o⟩] else []
def startB (n : Nat) (s : Int) : List Bool := (List.replicate n false).set s.toNat true
def selT (s : Int) (bs : List Bool) (es : List E4) (q : Nat) : Bool :=
  ((iter (passL false es) bs.length (startB bs.length s)).getD q false && (iter (passL true es) bs.length bs).getD q false) || ((q : Int) == s)
def trimF (s : Int) (bs : List Bool) (es : List E4) : TR :=
  if validB s bs.length es = true then ⟨numS (selT s bs es) s.toNat, accS (selT s bs es) bs bs.length, es.flatMap (selE (selT s bs es)), 0⟩ else errT 1
theorem selE_len {sel : Nat → Bool} {e : E4} : (selE sel e).length ≤ 1 := by unfold selE; split <;> simp
theorem trimF_len (s : Int) (bs : List Bool) (es : List E4) : (trimF s bs es).bs.length ≤ 2000 ∧ (trimF s bs es).es.length ≤ 2000 := by
  unfold trimF
  split
  · rename_i h
    have := validB_len h
    have h1 := cntS_le (sel := selT s bs es) (i := bs.length)
    have h2 := flatMap_len (l := es) (f := selE (selT s bs es)) (B := 1) fun _ _ => selE_len
    simp only [accS_len]
    omega
  · simp [errT]
theorem validB_inR {s : Int} {n : Nat} {es : List E4} (h : validB s n es = true) : InR n es := by
  have hl := validB_len h
  rw [valid_ok] at h
  simp only [okB, formB, Bool.and_eq_true, decide_eq_true_eq, inB, List.all_eq_true, okE] at h
  obtain ⟨h1, h2, ⟨h3, h4⟩, h5⟩ := h
  intro e he
  have := h5 e he
  omega
end Go.Proofs.Ytkmlmkbpdldjgaa.W
