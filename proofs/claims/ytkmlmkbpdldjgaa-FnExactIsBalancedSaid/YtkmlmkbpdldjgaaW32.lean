/-
Matrices of flags, and maps, of one's own.
-/
import Derived.Test.YtkmlmkbpdldjgaaW31
namespace Go.Proofs.Ytkmlmkbpdldjgaa.W
set_option linter.unusedVariables false
set_option linter.unusedSimpArgs false
open Go.B
variable {base : Nat}

/-! ### maps -/
def _root_.Go.B.BH.msetv (base kd : Nat) (H : BH) (m k v : BV) : Option BH := match m with
  | .mp b => match H.row b with
    | .mp es => if base ≤ b then (mapSet kd es k v).map fun es' => H.set b (.mp es') else none
    | _ => none
  | _ => none
def _root_.Go.B.BH.mlook (kd : Nat) (ok : Bool) (zero : BV) (H : BH) (m k : BV) : Option BV := match m with
  | .mp b => match H.row b with
    | .mp es => (mapGet kd es k).map fun r => if ok then .tup [r.getD zero, .bool r.isSome] else r.getD zero
    | _ => none
  | _ => none
section
variable {nb : Nat} {σ : Opd → BV} {H : BH}
theorem op1_mkmap : op1 base nb σ H .mkmap = (H.make base nb (.mp [])).map fun K => (.mp nb, K) := rfl
theorem op1_mset {kd : Nat} {m k v : Opd} : op1 base nb σ H (.mset kd m k v) = (H.msetv base kd (σ m) (σ k) (σ v)).map fun K => (.tup [], K) := by
  cases ha : σ m <;> simp only [op1, BH.msetv, ha] <;> try rfl
  rename_i b
  cases hb : H.row b <;> simp only [] <;> try rfl
  split
  · rw [Option.map_map]
    rfl
  · rfl
theorem op1_look {kd : Nat} {ok : Bool} {z : BV} {m k : Opd} : op1 base nb σ H (.look kd ok z m k) = (H.mlook kd ok z (σ m) (σ k)).map (·, H) := by
  cases ha : σ m <;> simp only [op1, BH.mlook, ha] <;> try rfl
  rename_i b
  cases hb : H.row b <;> simp only [] <;> try rfl
  rw [Option.map_map]
  rfl
end
/-- A map's entries. -/
def encM (ms : List (Nat × Int)) : List (BV × BV) := ms.map fun p => (.int .i64 p.1, .int .i64 p.2)
def lookM (ms : List (Nat × Int)) (q : Nat) : Option Int := (ms.find? fun p => p.1 == q).map (·.2)
theorem get_encM (q : Nat) : ∀ ms : List (Nat × Int), mapGet 0 (encM ms) (.int .i64 q) = some ((lookM ms q).map (.int .i64))
  | [] => rfl
  | p :: ms => by
    have ih := get_encM q ms
    by_cases h : p.1 = q
    · subst h
      simp [encM, mapGet, keyEq, lookM]
    · have h1 : ((p.1 : Int) == (q : Int)) = false := by simpa using (by omega : (p.1 : Int) ≠ q)
      have h2 : (p.1 == q) = false := by simpa using h
      have h1' : ((q : Int) == (p.1 : Int)) = false := by simpa using (by omega : (q : Int) ≠ p.1)
      have : mapGet 0 (encM (p :: ms)) (.int .i64 q) = mapGet 0 (encM ms) (.int .i64 q) := by simp [encM, mapGet, keyEq, h1, h1']
      rw [this, ih]
      simp [lookM, List.find?_cons, h2]
theorem set_encM {q : Nat} {x : Int} : ∀ {ms : List (Nat × Int)}, lookM ms q = none → mapSet 0 (encM ms) (.int .i64 q) (.int .i64 x) = some (encM (ms ++ [(q, x)]))
  | [], _ => rfl
  | p :: ms, h => by
    have h2 : (p.1 == q) = false := by
      cases hh : (p.1 == q)
      · rfl
      · simp [lookM, List.find?_cons, hh] at h
    have h1 : ((p.1 : Int) == (q : Int)) = false := by
      have : p.1 ≠ q := by simpa using h2
      simpa using (by omega : (p.1 : Int) ≠ q)
    have h1' : ((q : Int) == (p.1 : Int)) = false := by
      have : p.1 ≠ q := by simpa using h2
      simpa using (by omega : (q : Int) ≠ p.1)
    have ih := set_encM (q := q) (x := x) (ms := ms) (by simpa [lookM, List.find?_cons, h2] using h)
    have e : mapSet 0 (encM (p :: ms)) (.int .i64 q) (.int .i64 x) = (mapSet 0 (encM ms) (.int .i64 q) (.int .i64 x)).map ((.int .i64 p.1, .int .i64 p.2) :: ·) := by simp [encM, mapSet, keyEq, h1, h1']
    rw [e, ih]
    rfl
theorem lookM_none {ms : List (Nat × Int)} {q : Nat} : lookM ms q = none ↔ q ∉ ms.map (·.1) := by
  unfold lookM
  simp only [Option.map_eq_none_iff, List.find?_eq_none, List.mem_map, not_exists, not_and]
  constructor
  · intro h x hx hq
    exact h x hx (by simpa using hq)
  · intro h x hx hq
    exact h x hx (by simpa using hq)
theorem lookM_app {ms : List (Nat × Int)} {q x : Nat} {l : Int} : lookM (ms ++ [(x, l)]) q = match lookM ms q with | some y => some y | none => if x = q then some l else none := by
  unfold lookM
  rw [List.find?_append]
  cases h : ms.find? (fun p => p.1 == q) with
  | some y => simp
  | none =>
    by_cases hq : x = q
    · subst hq
      simp [List.find?_cons]
    · simp [List.find?_cons, hq]
theorem lookM_mem {ms : List (Nat × Int)} {q : Nat} {l : Int} (h : lookM ms q = some l) : (q, l) ∈ ms := by
  unfold lookM at h
  simp only [Option.map_eq_some_iff] at h
  obtain ⟨p, hp, rfl⟩ := h
  have h1 := List.mem_of_find?_eq_some hp
  have h2 := List.find?_some hp
  have : p.1 = q := by simpa using h2
  rw [← this]
  exact h1
theorem mset_own {K : BH} {b q : Nat} {x : Int} {ms : List (Nat × Int)} (hr : K.row b = .mp (encM ms)) (hb : base ≤ b) (hn : lookM ms q = none) : K.msetv base 0 (.mp b) (.int .i64 q) (.int .i64 x) = some (K.set b (.mp (encM (ms ++ [(q, x)])))) := by
  simp only [BH.msetv, hr, hb, if_true, set_encM hn]
  rfl
theorem look_own {K : BH} {b q : Nat} {ms : List (Nat × Int)} (hr : K.row b = .mp (encM ms)) : K.mlook 0 false (.int .i64 0) (.mp b) (.int .i64 q) = some (.int .i64 ((lookM ms q).getD 0)) := by
  simp only [BH.mlook, hr, get_encM]
  cases h : lookM ms q <;> rfl
theorem look_own2 {K : BH} {b q : Nat} {ms : List (Nat × Int)} (hr : K.row b = .mp (encM ms)) : K.mlook 0 true (.int .i64 0) (.mp b) (.int .i64 q) = some (.tup [.int .i64 ((lookM ms q).getD 0), .bool (lookM ms q).isSome]) := by
  simp only [BH.mlook, hr, get_encM]
  cases h : lookM ms q <;> rfl

/-! ### matrices -/
structure Mat (base : Nat) (H K : BH) (n nO : Nat) (ρ : Nat → Nat) (D : Nat → List Bool) : Prop where
  out : OwnN base K 26 1 (.sl nO 0 n) ((List.range n).map fun i => [.sl (ρ i) 0 n]) (some nO)
  row : ∀ i, i < n → OwnN base K 4 1 (.sl (ρ i) 0 n) ((D i).map encB) (some (ρ i))
  len : ∀ i, i < n → (D i).length = n
  inj : ∀ i j, i < n → j < n → ρ i = ρ j → i = j
  fr : ∀ i, i < n → H.row (ρ i) = .fresh
  fo : H.row nO = .fresh
section
variable {H K : BH} {n nO : Nat} {ρ : Nat → Nat} {D : Nat → List Bool}
theorem Mat.get (h : Mat base H K n nO ρ D) {i j : Nat} (hi : i < n) (hj : j < n) : K.rd none none (.ptr nO i) = some (.sl (ρ i) 0 n) ∧ K.rd none none (.ptr (ρ i) j) = some (.bool ((D i).getD j false)) := by
  constructor
  · have := h.out.sls.rd1 (i := i) (c := .sl (ρ i) 0 n) (by simp [hi]) (rt := none) rfl
    simpa [sat_sl] using this
  · have hl := h.len i hi
    have := (h.row i hi).sls.rd1 (i := j) (c := .bool ((D i).getD j false)) (by simp [encB, hl, hj]) (rt := none) rfl
    simpa [sat_sl] using this
theorem Mat.stay (h : Mat base H K n nO ρ D) {L : BH} (k : ∀ d ty cs, K.row d = .arr ty cs → ty ≠ 2 → L.row d = K.row d) : Mat base H L n nO ρ D :=
  ⟨h.out.stay fun d hd => k d _ _ (h.out.live hd) (by omega), fun i hi => (h.row i hi).stay fun d hd => k d _ _ ((h.row i hi).live hd) (by omega), h.len, h.inj, h.fr, h.fo⟩
/-- A flag is set. -/
theorem Mat.put (h : Mat base H K n nO ρ D) (hk : H.Keeps K) {i j : Nat} (hi : i < n) (hj : j < n) (x : Bool) :
    ∃ K', K.wr base none 1 (.ptr (ρ i) j) (.bool x) = some K' ∧ Mat base H K' n nO ρ (fun a => if a = i then (D i).set j x else D a) ∧ H.Keeps K' ∧ (∀ d, d ≠ ρ i → K'.row d = K.row d) := by
  obtain ⟨_, K', h1, h2, h3⟩ := own_setB (x := x) (h.row i hi) (t := j) (by rw [h.len i hi]; exact hj)
  refine ⟨K', h1, ⟨h.out.stay fun d hd => h3 d ?_, fun a ha => ?_, fun a ha => ?_, h.inj, h.fr, h.fo⟩, keeps_num hk (h.fr i hi) h3, h3⟩
  · rintro rfl
    have e1 := h.out.live hd
    rw [(h.row i hi).live rfl] at e1
    cases e1
  · by_cases e : a = i
    · subst e
      simpa using h2
    · simp only [e, if_false]
      refine (h.row a ha).stay fun d hd => h3 d ?_
      rintro rfl
      exact e (h.inj a i ha hi (Option.some.inj hd))
  · by_cases e : a = i
    · subst e
      simp [h.len a hi]
    · simp [e, h.len a ha]
theorem put_get {i j a b : Nat} {x : Bool} (hl : (D i).length = n) (hj : j < n) : (if a = i then (D i).set j x else D a).getD b false = if a = i ∧ b = j then x else (D a).getD b false := by
  by_cases e : a = i
  · subst e
    simp only [if_true, true_and, List.getD_eq_getElem?_getD, List.getElem?_set]
    by_cases e2 : j = b
    · subst e2
      simp [hl, hj]
    · simp [e2, Ne.symm e2]
  · simp [e]
end
end Go.Proofs.Ytkmlmkbpdldjgaa.W
