/-
Code and calls: what the machine B does, the model does.
-/
import Derived.Test.YtkgjipjkffjlhaaDoorB16
namespace Go.B
set_option linter.unusedVariables false
set_option linter.unusedSimpArgs false

theorem compOp_bare {u : Nat → Option TypeDesc} {inf : Nat → Option TypeInfo} {sq : Nat → Bool} {op : Op} {b : BOp} (h : compOp u inf sq op = some b) : b.bare = b := by
  cases op with
  | call c =>
    simp only [compOp, compCall, Option.bind_eq_bind, Option.bind_eq_some_iff] at h
    obtain ⟨args, hargs, hop⟩ := h
    split at hop
    · simp [Option.bind_eq_some_iff] at hop
      obtain ⟨f2, hf2, rfl⟩ := hop
      rfl
    · split at hop
      · split at hop <;> simp at hop <;> subst hop <;> rfl
      · cases hop
    · split at hop
      · split at hop
        · simp only [Option.bind_eq_some_iff] at hop
          obtain ⟨i, hi, z, hz, hop⟩ := hop
          split at hop <;> simp at hop
          subst hop
          rfl
        · cases hop
      · cases hop
    · cases hop
  | unOp op t x => cases op <;> simp [compOp, Option.bind_eq_some_iff] at h <;> (obtain ⟨_, _, rfl⟩ := h; rfl)
  | makeFunc fn a b => cases fn <;> simp [compOp, Option.bind_eq_some_iff] at h; (obtain ⟨_, _, _, rfl⟩ := h; rfl)
  | makeMap t r =>
    cases r <;> simp only [compOp] at h
    · split at h <;> simp at h
      subst h
      rfl
    · cases h
  | slice t x lo hi mx =>
    cases mx <;> simp only [compOp] at h
    · simp only [Option.bind_eq_bind, Option.bind_eq_some_iff] at h
      obtain ⟨_, _, _, _, h⟩ := h
      split at h <;> simp [Option.bind_eq_some_iff] at h
      · obtain ⟨_, _, _, _, rfl⟩ := h; rfl
      · obtain ⟨_, _, rfl⟩ := h; rfl
    · cases h
  | lookup t x k okk =>
    simp only [compOp] at h
    split at h
    · simp only [Option.bind_eq_bind, Option.bind_eq_some_iff] at h
      obtain ⟨_, _, h⟩ := h
      split at h <;> simp [Option.bind_eq_some_iff] at h
      obtain ⟨_, _, _, _, _, _, rfl⟩ := h; rfl
    · cases h
  | _ =>
    simp only [compOp] at h
    first
      | (cases h; done)
      | (simp [Option.bind_eq_some_iff] at h
         first
           | (obtain ⟨_, _, rfl⟩ := h; rfl)
           | (obtain ⟨_, _, _, _, rfl⟩ := h; rfl)
           | (obtain ⟨_, _, _, _, _, _, rfl⟩ := h; rfl))
      | ((repeat' split at h) <;> first
          | (cases h; done)
          | (simp [Option.bind_eq_some_iff] at h
             first
               | (obtain ⟨_, _, rfl⟩ := h; rfl)
               | (obtain ⟨_, _, _, _, rfl⟩ := h; rfl)
               | (obtain ⟨_, _, _, _, _, rfl⟩ := h; rfl)
               | (obtain ⟨_, _, _, _, _, _, rfl⟩ := h; rfl)
               | (obtain ⟨_, _, _, _, ⟨_, _⟩, rfl⟩ := h; rfl)
               | (obtain ⟨_, _, _, _, _, _, _, rfl⟩ := h; rfl)
               | (obtain ⟨_, _, _, _, _, _, _, _, rfl⟩ := h; rfl)
               | (obtain ⟨_, _, _, _, _, _, _, _, _, rfl⟩ := h; rfl)))

section
variable {P : Program} {sq : Nat → Bool} {N : Nat} {ops : Array Oper}

theorem compOper_fits {o : Oper} {b : BOper} (h : compOper P.underlying P.info? sq N ops o = some b) : Fits P sq N ops o b := by
  unfold compOper at h
  simp only [Option.bind_eq_bind, Option.bind_eq_some_iff] at h
  obtain ⟨g, hg, h⟩ := h
  have hop : (compOpS P.underlying P.info? sq o.op).bare = compOpS P.underlying P.info? sq o.op := by
    unfold compOpS
    cases hq : compOp P.underlying P.info? sq o.op with
    | some q => exact compOp_bare hq
    | none => rfl
  generalize hopp : compOpS P.underlying P.info? sq o.op = op at hop h
  have hgd : ∀ dst kp, (o.guard = none ∧ (⟨dst, op, g, kp⟩ : BOper).guard = none) ∨ ∃ j c oj d, o.guard = some (j, c) ∧ (⟨dst, op, g, kp⟩ : BOper).guard = some (d, c) ∧ ops[j]? = some oj ∧ oj.dst = some d := by
    intro dst kp
    cases hog : o.guard with
    | none =>
      simp [hog, guardOf] at hg
      exact .inl ⟨rfl, hg.symm⟩
    | some p =>
      obtain ⟨j, c⟩ := p
      simp [hog, guardOf, Option.bind_eq_some_iff] at hg
      obtain ⟨oj, hoj, d, hd, rfl⟩ := hg
      exact .inr ⟨j, c, oj, d, rfl, rfl, hoj, hd⟩
  split at h
  · rename_i d hd
    split at h
    · rename_i hlt
      simp at h
      subst h
      exact ⟨by rw [hopp]; exact hop.symm, rfl, fun d' hd' => by rw [hd] at hd'; cases hd'; exact hlt, hgd _ _⟩
    · cases h
  · rename_i hd
    simp at h
    subst h
    exact ⟨by rw [hopp]; exact hop.symm, hd.symm, fun d' hd' => (by cases hd'), hgd _ _⟩

theorem compOpers_get : ∀ {l : List Oper} {bs : List BOper}, compOpers P.underlying P.info? sq N ops l = some bs → bs.length = l.length ∧ ∀ (i : Nat) (b : BOper), bs[i]? = some b → ∃ o, l[i]? = some o ∧ Fits P sq N ops o b
  | [], bs, h => by
    simp [compOpers] at h
    subst h
    exact ⟨rfl, fun i b hb => by simp at hb⟩
  | o :: l, bs, h => by
    unfold compOpers at h
    cases ho : compOper P.underlying P.info? sq N ops o with
    | none => rw [ho] at h; cases h
    | some b0 =>
      rw [ho] at h
      cases hl : compOpers P.underlying P.info? sq N ops l with
      | none => rw [hl] at h; cases h
      | some bs' =>
        rw [hl] at h
        simp at h
        subst h
        obtain ⟨h1, h2⟩ := compOpers_get hl
        refine ⟨by simp [h1], fun i b hb => ?_⟩
        cases i with
        | zero => simp at hb; subst hb; exact ⟨o, rfl, compOper_fits ho⟩
        | succ i => simpa using h2 i b (by simpa using hb)

theorem Fits.same {o : Oper} {b c : BOper} (h : Fits P sq N ops o b) (h1 : c.op.bare = b.op.bare) (h2 : c.dst = b.dst) (h3 : c.guard = b.guard) : Fits P sq N ops o c :=
  ⟨by rw [h1]; exact h.op, by rw [h2]; exact h.dst, by rw [h2]; exact h.lt, by rw [h3]; exact h.guard⟩

theorem withRt_same {u : Nat → Option TypeDesc} {os : List Oper} {o : Oper} {b : BOper} : (withRt u os o b).op.bare = b.op.bare ∧ (withRt u os o b).dst = b.dst ∧ (withRt u os o b).guard = b.guard := by
  unfold withRt
  split
  · rename_i e; refine ⟨?_, rfl, rfl⟩; rw [e]; rfl
  · rename_i e; refine ⟨?_, rfl, rfl⟩; rw [e]; rfl
  · exact ⟨rfl, rfl, rfl⟩

theorem markKeep_get {bs : List BOper} {R : List Nat} (hl : bs.length = ops.size) : (markKeep P.underlying ops.toList bs R).length = ops.size ∧
    ∀ (i : Nat) (c : BOper), (markKeep P.underlying ops.toList bs R)[i]? = some c → ∃ b, bs[i]? = some b ∧ c.op.bare = b.op.bare ∧ c.dst = b.dst ∧ c.guard = b.guard := by
  unfold markKeep
  simp only []
  refine ⟨by simp [hl], fun i c hc => ?_⟩
  rw [List.getElem?_map] at hc
  simp only [Option.map_eq_some_iff] at hc
  obtain ⟨⟨b1, i1⟩, hb1, rfl⟩ := hc
  rw [List.getElem?_zipIdx, List.getElem?_map] at hb1
  simp only [Option.map_eq_some_iff] at hb1
  obtain ⟨b2, ⟨⟨⟨b, o⟩, i2⟩, hb3, rfl⟩, e⟩ := hb1
  rw [List.getElem?_zipIdx] at hb3
  simp only [Option.map_eq_some_iff] at hb3
  obtain ⟨⟨b', o'⟩, hz, e2⟩ := hb3
  simp only [Prod.mk.injEq] at e e2
  obtain ⟨rfl, rfl⟩ := e
  obtain ⟨⟨rfl, rfl⟩, rfl⟩ := e2
  rw [List.getElem?_zip_eq_some] at hz
  refine ⟨b', hz.1, ?_⟩
  simp only []
  split <;> split <;> first
    | exact withRt_same
    | exact ⟨rfl, rfl, rfl⟩

theorem topoOk_elim {deps : List (List Nat)} : ∀ {ord done : List Nat}, topoOk deps done ord = true → ord.Nodup → (∀ x ∈ done, x ∉ ord) →
    ord.Pairwise (fun i j => j ∉ deps.getD i []) ∧ ∀ i ∈ ord, i ∉ deps.getD i [] ∧ ∀ d ∈ deps.getD i [], d ∈ done ∨ d ∈ ord
  | [], _, _, _, _ => ⟨List.Pairwise.nil, fun i hi => by cases hi⟩
  | i :: r, done, h, hnd, hdis => by
    simp only [topoOk, Bool.and_eq_true, List.all_eq_true, List.contains_eq_mem, decide_eq_true_eq] at h
    obtain ⟨h1, h2⟩ := h
    obtain ⟨n1, n2⟩ := List.nodup_cons.1 hnd
    obtain ⟨g1, g2⟩ := topoOk_elim h2 n2 (by
      intro x hx
      rcases List.mem_cons.1 hx with rfl | hx
      · exact n1
      · exact fun hm => hdis x hx (List.mem_cons_of_mem _ hm))
    refine ⟨List.pairwise_cons.2 ⟨fun j hj hd => hdis j (h1 j hd) (List.mem_cons_of_mem _ hj), g1⟩, fun k hk => ?_⟩
    rcases List.mem_cons.1 hk with rfl | hk
    · exact ⟨fun hd => hdis k (h1 k hd) List.mem_cons_self, fun d hd => .inl (h1 d hd)⟩
    · obtain ⟨k1, k2⟩ := g2 k hk
      refine ⟨k1, fun d hd => ?_⟩
      rcases k2 d hd with h | h
      · rcases List.mem_cons.1 h with rfl | h
        · exact .inr List.mem_cons_self
        · exact .inl h
      · exact .inr (List.mem_cons_of_mem _ h)

theorem pairsOk_elim {bs : List BOper} {R : List Nat} : ∀ {ord : List Nat}, pairsOk bs R ord = true → ord.Pairwise fun i j => bit (R.getD j 0) i = true ∨ ∃ x y, bs[i]? = some x ∧ bs[j]? = some y ∧ swapOk x y = true
  | [], _ => List.Pairwise.nil
  | i :: r, h => by
    simp only [pairsOk, Bool.and_eq_true, List.all_eq_true, Bool.or_eq_true] at h
    refine List.pairwise_cons.2 ⟨fun j hj => ?_, pairsOk_elim h.2⟩
    rcases h.1 j hj with h | h
    · exact .inl h
    · refine .inr ?_
      split at h
      · rename_i x y hx hy
        exact ⟨x, y, hx, hy, h⟩
      · cases h

theorem compDraw_elim {l : List BOper} (h : compDraw P.underlying P.info? sq N ops = some l) : ∃ ms R ord, (∀ (i : Nat) (b : BOper), ms[i]? = some b → ∃ o, ops[i]? = some o ∧ Fits P sq N ops o b) ∧ certOk (ops.toList.map depsOf) R = true ∧
    ordered ms ord = some l ∧ ord.length = ops.size ∧ Ready (ops.toList.map depsOf) R ms (Array.replicate ops.size false) ops.size ord := by
  unfold compDraw at h
  simp only [Option.bind_eq_bind, Option.bind_eq_some_iff] at h
  obtain ⟨bs, hbs, h⟩ := h
  obtain ⟨hl, hget⟩ := compOpers_get hbs
  have hl' : bs.length = ops.size := by simpa using hl
  obtain ⟨ml, mget⟩ := markKeep_get (P := P) (R := (Region.before ops).toList) hl'
  generalize pickOrder (markKeep P.underlying ops.toList bs (Region.before ops).toList) (Region.before ops).toList (markKeep P.underlying ops.toList bs (Region.before ops).toList).length 0 [] = ord at h
  split at h
  · rename_i hchk
    simp only [Bool.and_eq_true, permOk, decide_eq_true_eq, List.all_eq_true, List.contains_eq_mem, List.mem_range] at hchk
    obtain ⟨⟨⟨⟨⟨⟨p1, p2⟩, p3⟩, p4⟩, c1⟩, c2⟩, c3⟩ := hchk
    rw [ml] at p2 p3 p4
    refine ⟨_, _, _, fun i c hc => ?_, c1, h, p2, ?_⟩
    · obtain ⟨b, hb, q1, q2, q3⟩ := mget i c hc
      obtain ⟨o, ho, hf⟩ := hget i b hb
      exact ⟨o, by simpa using ho, hf.same q1 q2 q3⟩
    · obtain ⟨t1, t2⟩ := topoOk_elim c2 p1 (by simp)
      refine ⟨p3, p1, fun i hi => ?_, by simp, fun i hi hni => absurd (p4 i hi) hni, t1, fun i hi => (t2 i hi).1, fun i hi d hd => ?_, pairsOk_elim c3⟩
      · simp [hi, p4 i hi]
      · rcases (t2 i hi).2 d hd with h | h
        · cases h
        · exact p3 d h
  · cases h

theorem fitsL_of {l : List BOper} (h : compOpers P.underlying P.info? sq N ops ops.toList = some l) : FitsL P sq N ops (List.range ops.size) l := by
  obtain ⟨hl, hget⟩ := compOpers_get h
  have key : ∀ (n k : Nat) (l' : List BOper), l'.length = n → (∀ (i : Nat) (b : BOper), l'[i]? = some b → ∃ o, ops[k + i]? = some o ∧ Fits P sq N ops o b) → FitsL P sq N ops (List.range' k n) l' := by
    intro n
    induction n with
    | zero => intro k l' hl' _; exact List.eq_nil_of_length_eq_zero hl'
    | succ n ih =>
      intro k l' hl' hg
      cases l' with
      | nil => simp at hl'
      | cons b r =>
        obtain ⟨o, ho, hf⟩ := hg 0 b rfl
        refine ⟨b, r, o, rfl, by simpa using ho, hf, ih (k + 1) r (by simpa using hl') fun i c hc => ?_⟩
        obtain ⟨o', ho', hf'⟩ := hg (i + 1) c (by simpa using hc)
        exact ⟨o', by rw [← ho']; congr 1; omega, hf'⟩
  rw [List.range_eq_range']
  exact key ops.size 0 l (by simpa using hl) fun i b hb => by
    obtain ⟨o, ho, hf⟩ := hget i b hb
    exact ⟨o, by simpa using ho, hf⟩

end
end Go.B
