/-
Paths, their lags, and balance: plain facts.
-/
import Derived.Test.YtkmlmkbpdldjgaaW25
namespace Go.Proofs.Ytkmlmkbpdldjgaa.W
set_option linter.unusedVariables false
set_option linter.unusedSimpArgs false
open Go.B

def lagE (e : E4) : Int := (e.i.size : Int) - e.o.size
def Path (es : List E4) : Nat → List E4 → Nat → Prop
  | u, [], v => u = v
  | u, e :: r, v => e ∈ es ∧ e.f.toNat = u ∧ Path es e.t.toNat r v
def lagP : List E4 → Int
  | [] => 0
  | e :: r => lagE e + lagP r
/-- Every round has the lag 0. -/
def Bal (es : List E4) : Prop := ∀ u r, Path es u r u → lagP r = 0

section
variable {es : List E4}
theorem Path.append : ∀ {u w v : Nat} {r q : List E4}, Path es u r w → Path es w q v → Path es u (r ++ q) v
  | u, w, v, [], q, h, k => by cases h; exact k
  | u, w, v, e :: r, q, ⟨h1, h2, h3⟩, k => ⟨h1, h2, Path.append h3 k⟩
theorem lagP_append : ∀ {r q : List E4}, lagP (r ++ q) = lagP r + lagP q
  | [], q => by simp [lagP]
  | e :: r, q => by
    show lagE e + lagP (r ++ q) = lagE e + lagP r + lagP q
    rw [lagP_append]
    omega
theorem Path.snoc {u v : Nat} {r : List E4} {e : E4} (h : Path es u r v) (he : e ∈ es) (hf : e.f.toNat = v) : Path es u (r ++ [e]) e.t.toNat := h.append ⟨he, hf, rfl⟩
theorem lagP_snoc {r : List E4} {e : E4} : lagP (r ++ [e]) = lagP r + lagE e := by
  rw [lagP_append]
  simp [lagP]
theorem Path.mid : ∀ {u v x : Nat} {r : List E4}, Path es u r v → x ∈ (u :: r.map fun e => e.t.toNat) → ∃ a b, r = a ++ b ∧ Path es u a x ∧ Path es x b v
  | u, v, x, [], h, hx => by
    simp at hx
    subst hx
    exact ⟨[], [], rfl, rfl, h⟩
  | u, v, x, e :: r, h, hx => by
    rcases List.mem_cons.1 hx with rfl | hx
    · exact ⟨[], e :: r, rfl, rfl, h⟩
    · obtain ⟨a, b, h1, h2, h3⟩ := Path.mid h.2.2 (x := x) (by simpa using hx)
      exact ⟨e :: a, b, by rw [h1]; rfl, ⟨h.1, h.2.1, h2⟩, h3⟩
/-- A path without a state twice, or one with a round in it. -/
theorem Path.cut : ∀ {u v : Nat} {r : List E4}, Path es u r v → (u :: r.map fun e => e.t.toNat).Nodup ∨ ∃ x a b c, r = a ++ (b ++ c) ∧ b ≠ [] ∧ Path es u a x ∧ Path es x b x ∧ Path es x c v
  | u, v, [], h => .inl (by simp)
  | u, v, e :: r, h => by
    by_cases hu : u ∈ (e.t.toNat :: r.map fun e => e.t.toNat)
    · obtain ⟨a, b, h1, h2, h3⟩ := Path.mid h.2.2 hu
      exact .inr ⟨u, [], e :: a, b, by rw [h1]; rfl, by simp, rfl, ⟨h.1, h.2.1, h2⟩, h3⟩
    · rcases Path.cut h.2.2 with h1 | ⟨x, a, b, c, h1, h2, h3, h4, h5⟩
      · left
        rw [List.map_cons, List.nodup_cons]
        exact ⟨hu, h1⟩
      · exact .inr ⟨x, e :: a, b, c, by rw [h1]; rfl, h2, ⟨h.1, h.2.1, h3⟩, h4, h5⟩
theorem nodup_lt : ∀ {n : Nat} {l : List Nat}, l.Nodup → (∀ x ∈ l, x < n) → l.length ≤ n
  | 0, l, _, h => by
    cases l with
    | nil => simp
    | cons x l => exact absurd (h x List.mem_cons_self) (by omega)
  | n + 1, l, hd, h => by
    by_cases hn : n ∈ l
    · have h1 := nodup_lt (n := n) (l := l.erase n) (hd.erase n) (fun x hx => by
        have h2 := (hd.mem_erase_iff).1 hx
        have h3 := h x h2.2
        have h4 := h2.1
        omega)
      rw [List.length_erase_of_mem hn] at h1
      omega
    · have h1 := nodup_lt (n := n) (l := l) hd (fun x hx => by
        have h3 := h x hx
        have : x ≠ n := by rintro rfl; exact hn hx
        omega)
      omega
theorem Path.lt {n : Nat} (hin : InR n es) : ∀ {u v : Nat} {r : List E4}, Path es u r v → ∀ x ∈ r.map (fun e => e.t.toNat), x < n
  | u, v, [], _, x, hx => by simp at hx
  | u, v, e :: r, h, x, hx => by
    rcases List.mem_cons.1 hx with rfl | hx
    · exact (hin.to h.1 false).1
    · exact Path.lt hin h.2.2 x hx
/-- Where all rounds have the lag 0, each path has a short one beside it with its lag. -/
theorem Bal.short {n : Nat} (hb : Bal es) (hin : InR n es) {u v : Nat} (hu : u < n) : ∀ (m : Nat) {r : List E4}, r.length ≤ m → Path es u r v → ∃ q, Path es u q v ∧ lagP q = lagP r ∧ q.length < n
  | 0, r, hm, h => by
    have : r = [] := List.length_eq_zero_iff.1 (by omega)
    subst this
    exact ⟨[], h, rfl, by simp; omega⟩
  | m + 1, r, hm, h => by
    rcases h.cut with h1 | ⟨x, a, b, c, h1, h2, h3, h4, h5⟩
    · refine ⟨r, h, rfl, ?_⟩
      have := nodup_lt h1 (fun y hy => by
        rcases List.mem_cons.1 hy with rfl | hy
        · exact hu
        · exact h.lt hin y hy)
      simp at this
      omega
    · have hlen : (a ++ c).length ≤ m := by
        have : 0 < b.length := List.length_pos_iff.2 h2
        rw [h1] at hm
        simp only [List.length_append] at hm ⊢
        omega
      obtain ⟨q, g1, g2, g3⟩ := Bal.short hb hin hu m hlen (h3.append h5)
      refine ⟨q, g1, ?_, g3⟩
      rw [g2, h1, lagP_append, lagP_append, lagP_append, hb x b h4]
      omega

/-! ### what leads where, step by step -/
inductive Lead (es : List E4) : Nat → Nat → Nat → Prop where
  | same (k i : Nat) : Lead es k i i
  | edge (k : Nat) (e : E4) : e ∈ es → Lead es k e.f.toNat e.t.toNat
  | by (k i m j : Nat) : Lead es k i m → m < k → Lead es k m j → Lead es k i j
theorem Lead.succ {k i j : Nat} (h : Lead es (k + 1) i j) : Lead es k i j ∨ (Lead es k i k ∧ Lead es k k j) := by
  induction h with
  | same i => exact .inl (.same k i)
  | edge e he => exact .inl (.edge k e he)
  | «by» i m j h1 hm h2 ih1 ih2 =>
    by_cases hk : m < k
    · rcases ih1 with a | ⟨a, b⟩ <;> rcases ih2 with c | ⟨c, d⟩
      · exact .inl (.by k i m j a hk c)
      · exact .inr ⟨.by k i m k a hk c, d⟩
      · exact .inr ⟨a, .by k k m j b hk c⟩
      · exact .inr ⟨a, d⟩
    · have : m = k := by omega
      subst this
      right
      constructor
      · rcases ih1 with a | ⟨a, _⟩ <;> exact a
      · rcases ih2 with a | ⟨_, a⟩ <;> exact a
theorem Lead.path {k i j : Nat} (h : Lead es k i j) : ∃ r, Path es i r j := by
  induction h with
  | same i => exact ⟨[], rfl⟩
  | edge e he => exact ⟨[e], he, rfl, rfl⟩
  | «by» i m j h1 hm h2 ih1 ih2 =>
    obtain ⟨r, hr⟩ := ih1
    obtain ⟨q, hq⟩ := ih2
    exact ⟨r ++ q, hr.append hq⟩
theorem Path.lead {n : Nat} (hin : InR n es) : ∀ {i j : Nat} {r : List E4}, Path es i r j → Lead es n i j
  | i, j, [], h => by cases h; exact .same n i
  | i, j, e :: r, ⟨h1, h2, h3⟩ => by
    subst h2
    exact .by n _ _ _ (.edge n e h1) (hin.to h1 false).1 (Path.lead hin h3)
end

/-! ### what is left is reached -/
section
variable {n : Nat} {es : List E4} {s : Int}
theorem step_reach {P : Nat → Prop} {st : List Bool} {e : E4} (he : P e.f.toNat → P e.t.toNat) (h : ∀ q, st.getD q false = true → P q) : ∀ q, (stepE false st e).getD q false = true → P q := by
  intro q hq
  unfold stepE at hq
  simp only [toE, frE, Bool.false_eq_true, if_false, List.getD_eq_getElem?_getD, List.getElem?_set] at hq h
  split at hq
  · rename_i hqt
    split at hq
    · simp only [Option.getD_some, Bool.or_eq_true] at hq
      subst hqt
      rcases hq with hq | hq
      · exact h _ hq
      · exact he (h _ hq)
    · simp at hq
  · exact h q hq
theorem pass_reach {P : Nat → Prop} : ∀ {l : List E4} {st : List Bool}, (∀ e ∈ l, P e.f.toNat → P e.t.toNat) → (∀ q, st.getD q false = true → P q) → ∀ q, (passL false l st).getD q false = true → P q
  | [], st, _, h => h
  | e :: l, st, hl, h => pass_reach (l := l) (st := stepE false st e) (fun x hx => hl x (List.mem_cons_of_mem _ hx)) (step_reach (hl e List.mem_cons_self) h)
theorem iter_reach {P : Nat → Prop} {st : List Bool} (hl : ∀ e ∈ es, P e.f.toNat → P e.t.toNat) (h : ∀ q, st.getD q false = true → P q) : ∀ k q, (iter (passL false es) k st).getD q false = true → P q
  | 0 => h
  | k + 1 => pass_reach hl (iter_reach hl h k)
theorem step_up {back : Bool} {st : List Bool} {e : E4} {q : Nat} (h : st.getD q false = true) : (stepE back st e).getD q false = true := by
  unfold stepE
  simp only [List.getD_eq_getElem?_getD, List.getElem?_set] at h ⊢
  split
  · rename_i hq
    subst hq
    split
    · simp [h]
    · rename_i hlt
      rw [List.getElem?_eq_none (by omega)] at h
      simp at h
  · exact h
theorem pass_up {back : Bool} {q : Nat} : ∀ {l : List E4} {st : List Bool}, st.getD q false = true → (passL back l st).getD q false = true
  | [], st, h => h
  | e :: l, st, h => pass_up (l := l) (st := stepE back st e) (step_up h)
theorem iter_up {back : Bool} {q : Nat} {st : List Bool} (h : st.getD q false = true) : ∀ k, (iter (passL back es) k st).getD q false = true
  | 0 => h
  | k + 1 => pass_up (iter_up h k)
/-- What a pass does not change is closed. -/
theorem pass_closed {back : Bool} : ∀ {l : List E4} {st : List Bool}, InR st.length l → passL back l st = st → ∀ e ∈ l, st.getD (frE back e) false = true → st.getD (toE back e) false = true
  | [], st, _, _, e, he, _ => by simp at he
  | x :: l, st, hin, h, e, he, hf => by
    have hl : InR st.length l := fun y hy => hin y (List.mem_cons_of_mem _ hy)
    have ht := (hin.to List.mem_cons_self back).1
    have hs : stepE back st x = st := by
      cases q : (st.getD (frE back x) false && !st.getD (toE back x) false)
      · exact step_same q ht
      · obtain ⟨_, h2⟩ := step_more q ht
        have h3 := pass_mono (back := back) (es := l) (st := stepE back st x) (n := st.length) hl step_len
        have h4 : passL back l (stepE back st x) = st := h
        rw [h4] at h3
        omega
    have h4 : passL back l (stepE back st x) = st := h
    rw [hs] at h4
    rcases List.mem_cons.1 he with rfl | he
    · have := step_up (back := back) (st := st) (e := e) (q := toE back e)
      have h5 : (stepE back st e).getD (toE back e) false = true := by
        unfold stepE
        simp [List.getD_eq_getElem?_getD, List.getElem?_set, ht] at hf ⊢
        simp [hf]
      rw [hs] at h5
      exact h5
    · exact pass_closed hl h4 e he hf
end
end Go.Proofs.Ytkmlmkbpdldjgaa.W
