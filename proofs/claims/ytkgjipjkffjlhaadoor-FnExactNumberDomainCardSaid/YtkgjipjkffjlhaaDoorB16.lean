/-
A region's operations, in whatever order: what the machine B leaves, the model leaves.
-/
import Derived.Test.YtkgjipjkffjlhaaDoorB15
namespace Go.B
set_option linter.unusedVariables false
set_option linter.unusedSimpArgs false
section
variable {P : Program} {base : Nat} {w0 w : World} {X : Tie} {H : BH} {N : Nat} {e : Env} {a : Act}

theorem certOk_elim {deps : List (List Nat)} {R : List Nat} (h : certOk deps R = true) {i p : Nat} (hi : i < deps.length) (hp : p < deps.length) (hb : bit (R.getD i 0) p = true) :
    p ∈ deps.getD i [] ∨ ∃ m ∈ deps.getD i [], bit (R.getD m 0) p = true := by
  unfold certOk at h
  rw [List.all_eq_true] at h
  have h1 := h i (List.mem_range.2 hi)
  rw [List.all_eq_true] at h1
  have h2 := h1 p (List.mem_range.2 hp)
  simp only [hb, Bool.not_true, Bool.false_or, Bool.or_eq_true, List.contains_eq_mem, decide_eq_true_eq, List.any_eq_true] at h2
  exact h2

theorem deps_get {ops : Array Oper} {i : Nat} {o : Oper} (h : ops[i]? = some o) : (ops.toList.map depsOf).getD i [] = depsOf o := by
  simp [List.getD_eq_getElem?_getD, h]

theorem mem_depsOf {o : Oper} {d : Nat} : d ∈ depsOf o ↔ ∃ e ∈ o.after, Region.binds .any e = true ∧ e.on = d := by
  simp [depsOf, and_assoc]

theorem getD_set_self {l : Array Bool} {i : Nat} (h : i < l.size) (d : Bool) : (l.setIfInBounds i true).getD i d = true := by
  simp [h]

theorem wpAny_of {LO : Prop} {sq : Nat → Bool} (hsq : ∀ t, sq t = true → P.stoodInHeld t = false ∧ P.eqGuardType P.depth t = false) {ops : Array Oper} {C : CRel} (hC : Sound P base w0 LO C) (hFr : Framed C) {Q : Exit → Act → World → Prop} (hQ : LO → LetsOut Q)
    {ms : List BOper} {R : List Nat} (hms : ∀ (i : Nat) (b : BOper), ms[i]? = some b → ∃ o, ops[i]? = some o ∧ Fits P sq N ops o b) (hcert : certOk (ops.toList.map depsOf) R = true) :
    ∀ (fuel : Nat) (rem : List Nat) (l : List BOper) (listed : Array Bool), rem.length = fuel → ordered ms rem = some l → Ready (ops.toList.map depsOf) R ms listed ops.size rem →
    ∀ {X : Tie} {e e' : Env} {H H' : BH} {a : Act} {w : World}, ExO base C l e H e' H' → AR base X N e a → HR P base w0 X H w →
      (∀ X' a' w', X.le X' → AR base X' N e' a' → HR P base w0 X' H' w' → Q .normal a' w') → wpAny P .any ops Q fuel listed a w := by
  intro fuel
  induction fuel with
  | zero =>
    intro rem l listed hlen hord hg X e e' H H' a w hx ha hr hK
    have : rem = [] := List.eq_nil_of_length_eq_zero hlen
    subst this
    simp [ordered] at hord
    subst hord
    cases hx
    refine ⟨?_, hK X a w (Tie.le_refl X) ha hr⟩
    cases hq : Region.ready .any ops listed with
    | nil => rfl
    | cons j js =>
      exfalso
      have hj : j ∈ Region.ready .any ops listed := by rw [hq]; exact List.mem_cons_self
      obtain ⟨h1, o, ho, _⟩ := mem_ready.1 hj
      have hlt := (Array.getElem?_eq_some_iff.1 ho).1
      exact absurd ((hg.isl j hlt).1 h1) (by simp)
  | succ fuel ih =>
    intro rem l listed hlen hord hg X e e' H H' a w hx ha hr hK
    have onlisted : ∀ d, listed.getD d false = true → d < ops.size ∧ d ∉ rem := by
      intro d hd
      have hlt : d < listed.size := by
        rcases Nat.lt_or_ge d listed.size with h | h
        · exact h
        · simp [Array.getElem?_eq_none h] at hd
      rw [hg.size] at hlt
      refine ⟨hlt, fun hm => ?_⟩
      have := (hg.isl d hlt).2 hm
      have hlt2 : d < listed.size := by rw [hg.size]; exact hlt
      simp [hlt2] at this hd
      rw [this] at hd
      cases hd
    have listedon : ∀ d, d < ops.size → d ∉ rem → listed.getD d false = true := by
      intro d hd hm
      have h1 : ¬ listed.getD d true = false := fun h => hm ((hg.isl d hd).1 h)
      have hlt2 : d < listed.size := by rw [hg.size]; exact hd
      simp [hlt2] at h1 ⊢
      exact h1
    refine ⟨fun hnil => ?_, fun i hi => ?_⟩
    · exfalso
      cases rem with
      | nil => simp at hlen
      | cons i0 r =>
        have hlt := hg.lt i0 List.mem_cons_self
        have hin : i0 ∈ Region.ready .any ops listed := by
          refine mem_ready.2 ⟨(hg.isl i0 hlt).2 List.mem_cons_self, ops[i0], Array.getElem?_eq_getElem hlt, fun ed hed hb => ?_⟩
          have hd : ed.on ∈ (ops.toList.map depsOf).getD i0 [] := by
            rw [deps_get (Array.getElem?_eq_getElem hlt)]
            exact mem_depsOf.2 ⟨ed, hed, hb, rfl⟩
          refine listedon _ (hg.bound i0 List.mem_cons_self _ hd) fun hm => ?_
          rcases List.mem_cons.1 hm with h | h
          · rw [h] at hd
            exact hg.self i0 List.mem_cons_self hd
          · exact (List.pairwise_cons.1 hg.topo).1 _ h hd
        rw [hnil] at hin
        cases hin
    · obtain ⟨h1, o, ho, hed⟩ := mem_ready.1 hi
      have hlt := (Array.getElem?_eq_some_iff.1 ho).1
      have hmem := (hg.isl i hlt).1 h1
      have hdl : (ops.toList.map depsOf).length = ops.size := by simp
      obtain ⟨pre, post, rfl⟩ := List.append_of_mem hmem
      have hdeps : ∀ d ∈ (ops.toList.map depsOf).getD i [], d < ops.size ∧ d ∉ pre ++ i :: post := by
        intro d hd
        rw [deps_get ho] at hd
        obtain ⟨ed, q1, q2, rfl⟩ := mem_depsOf.1 hd
        exact onlisted _ (hed ed q1 q2)
      have hbit : ∀ p, p < ops.size → bit (R.getD i 0) p = true → p ∉ pre ++ i :: post := by
        intro p hp hb
        rcases certOk_elim hcert (by rw [hdl]; exact hlt) (by rw [hdl]; exact hp) hb with h | ⟨m, hm, hb2⟩
        · exact (hdeps p h).2
        · obtain ⟨k1, k2⟩ := hdeps m hm
          exact hg.closed m k1 k2 p hp hb2
      obtain ⟨l1, l2, o1, o2, rfl⟩ := ordered_append hord
      simp only [ordered] at o2
      cases hb : ms[i]? with
      | none => rw [hb] at o2; cases o2
      | some b =>
        rw [hb] at o2
        cases hpo : ordered ms post with
        | none => rw [hpo] at o2; cases o2
        | some lpost =>
          rw [hpo] at o2
          simp at o2
          subst o2
          have hpw := hg.pairs
          rw [List.pairwise_append] at hpw
          have hsw : ∀ x ∈ l1, swapOk x b = true := by
            intro x hx
            obtain ⟨p, hp, hpx⟩ := ordered_mem o1 x hx
            rcases hpw.2.2 p hp i List.mem_cons_self with h | ⟨x', y', g1, g2, g3⟩
            · exact absurd (List.mem_append_left _ hp) (hbit p (hg.lt p (List.mem_append_left _ hp)) h)
            · rw [hpx] at g1
              rw [hb] at g2
              cases g1; cases g2
              exact g3
          obtain ⟨v, H1, k1, k2⟩ := exO_front hFr hx hsw
          obtain ⟨o', ho', hf⟩ := hms i b hb
          rw [ho] at ho'
          cases ho'
          have hsub : (pre ++ post).Sublist (pre ++ i :: post) := List.Sublist.append_left (List.sublist_cons_self i post) pre
          have hnd := hg.nodup
          have hni : i ∉ pre ++ post := by
            have : (i :: (pre ++ post)).Nodup := (List.perm_middle.nodup_iff).1 hnd
            exact (List.nodup_cons.1 this).1
          have hmemiff : ∀ j, j ≠ i → (j ∈ pre ++ post ↔ j ∈ pre ++ i :: post) := by
            intro j hj
            simp [hj]
          refine wpOp_of hsq hC ho hf k1 ha hr hQ fun X' a' w' hle ha' hr' => ?_
          refine ih (pre ++ post) (l1 ++ lpost) _ ?_ (ordered_append_of o1 hpo) ?_ k2 ha' hr' fun X'' a'' w'' hle' => hK X'' a'' w'' (Tie.le_trans hle hle')
          · simp at hlen ⊢
            omega
          · refine ⟨fun j hj => hg.lt j (hsub.subset hj), hsub.nodup hnd, fun j hj => ?_, by simp [hg.size], fun j hj hjm p hp hbp => ?_, hg.topo.sublist hsub, fun j hj => hg.self j (hsub.subset hj), fun j hj => hg.bound j (hsub.subset hj), hg.pairs.sublist hsub⟩
            · by_cases hji : j = i
              · subst hji
                rw [getD_set_self (by rw [hg.size]; exact hlt)]
                simp only [Bool.true_eq_false, false_iff]
                exact hni
              · rw [getD_set_ne true (Ne.symm hji), hmemiff j hji]
                exact hg.isl j hj
            · by_cases hji : j = i
              · subst hji
                exact fun h => hbit p hp hbp (hsub.subset h)
              · exact fun h => hg.closed j hj (fun h' => hjm ((hmemiff j hji).2 h')) p hp hbp (hsub.subset h)

end
end Go.B
