/-
Balance, from each state: plain facts.
-/
import Derived.Test.YtkmlmkbpdldjgaaW32
namespace Go.Proofs.Ytkmlmkbpdldjgaa.W
set_option linter.unusedVariables false
set_option linter.unusedSimpArgs false
open Go.B

def ld (D : Nat → List Bool) (a b : Nat) : Prop := (D a).getD b false = true
/-- The flags tell what leads where. -/
structure Sound (n : Nat) (es : List E4) (D : Nat → List Bool) : Prop where
  path : ∀ a b, a < n → b < n → ld D a b → ∃ r, Path es a r b
def Low (n : Nat) (es : List E4) (D : Nat → List Bool) (k : Nat) : Prop := ∀ a b, a < n → b < n → Lead es k a b → ld D a b

/-- What is known of lags from 'r', at the state 'i' of the list, at the edge 'k'. -/
structure Bfs (n : Nat) (es : List E4) (D : Nat → List Bool) (r : Nat) (ms : List (Nat × Int)) (i k : Nat) : Prop where
  nodup : (ms.map (·.1)).Nodup
  lt : ∀ p ∈ ms, p.1 < n
  first : lookM ms r = some 0
  walk : ∀ p ∈ ms, ∃ q, Path es r q p.1 ∧ lagP q = p.2
  size : ∀ p ∈ ms, -(ms.length : Int) ≤ p.2 ∧ p.2 ≤ (ms.length : Int)
  done : ∀ j q l, j < i → ms[j]? = some (q, l) → ∀ e ∈ es, e.f.toNat = q → ld D e.t.toNat r → lookM ms e.t.toNat = some (l + lagE e)
  cur : ∀ q l, ms[i]? = some (q, l) → ∀ e ∈ es.take k, e.f.toNat = q → ld D e.t.toNat r → lookM ms e.t.toNat = some (l + lagE e)

section
variable {n : Nat} {es : List E4} {D : Nat → List Bool} {r : Nat} {ms : List (Nat × Int)} {i k : Nat}
theorem look_of : ∀ {ms : List (Nat × Int)} {q : Nat} {l : Int}, (ms.map (·.1)).Nodup → (q, l) ∈ ms → lookM ms q = some l
  | [], q, l, _, h => by simp at h
  | p :: ms, q, l, hd, h => by
    rw [List.map_cons, List.nodup_cons] at hd
    rcases List.mem_cons.1 h with h | h
    · subst h
      simp [lookM, List.find?_cons]
    · have hne : p.1 ≠ q := by
        rintro rfl
        exact hd.1 (List.mem_map.2 ⟨_, h, rfl⟩)
      have h2 : (p.1 == q) = false := by simpa using hne
      have ih := look_of hd.2 h
      simpa [lookM, List.find?_cons, h2] using ih
theorem Bfs.len (h : Bfs n es D r ms i k) : ms.length ≤ n := by
  have := nodup_lt h.nodup (n := n) (fun x hx => by
    obtain ⟨p, hp, rfl⟩ := List.mem_map.1 hx
    exact h.lt p hp)
  simpa using this
theorem Bfs.start (hr : r < n) : Bfs n es D r [(r, 0)] 0 0 := by
  refine ⟨by simp, fun p hp => ?_, by simp [lookM], fun p hp => ?_, fun p hp => ?_, fun j q l hj => by omega, fun q l _ e he => by simp at he⟩
  · simp at hp; subst hp; exact hr
  · simp at hp; subst hp; exact ⟨[], rfl, rfl⟩
  · simp at hp; subst hp; simp
theorem Bfs.skip (h : Bfs n es D r ms i k) (hk : k < es.length) (hd : ∀ q l, ms[i]? = some (q, l) → (es[k]).f.toNat = q → ld D (es[k]).t.toNat r → lookM ms (es[k]).t.toNat = some (l + lagE es[k])) : Bfs n es D r ms i (k + 1) := by
  refine ⟨h.nodup, h.lt, h.first, h.walk, h.size, h.done, fun q l hq e he => ?_⟩
  rcases take_mem hk he with h1 | h1
  · exact h.cur q l hq e h1
  · rw [h1]
    exact hd q l hq
theorem Bfs.add (h : Bfs n es D r ms i k) (hin : InR n es) (hlg : Lagy es) (hi : i < ms.length) (hk : k < es.length) {l : Int} (hq : ms[i]? = some ((es[k]).f.toNat, l)) (hn : lookM ms (es[k]).t.toNat = none) :
    Bfs n es D r (ms ++ [((es[k]).t.toNat, l + lagE es[k])]) i (k + 1) := by
  have he := List.getElem_mem hk
  have ht := (hin.to he false).1
  simp only [toE, Bool.false_eq_true, if_false] at ht
  have hm : ((es[k]).f.toNat, l) ∈ ms := List.mem_of_getElem? hq
  have hup : ∀ q y, lookM ms q = some y → lookM (ms ++ [((es[k]).t.toNat, l + lagE es[k])]) q = some y := fun q y hy => by rw [lookM_app, hy]
  have hold : ∀ j, j < ms.length → (ms ++ [((es[k]).t.toNat, l + lagE es[k])])[j]? = ms[j]? := fun j hj => List.getElem?_append_left hj
  refine ⟨?_, fun p hp => ?_, hup _ _ h.first, fun p hp => ?_, fun p hp => ?_, fun j q y hj hjq e hee => ?_, fun q y hjq e hee hf hl => ?_⟩
  · rw [List.map_append, List.nodup_append]
    refine ⟨h.nodup, by simp, fun a ha b hb => ?_⟩
    simp at hb
    subst hb
    rintro rfl
    exact (lookM_none.1 hn) ha
  · rcases List.mem_append.1 hp with hp | hp
    · exact h.lt p hp
    · simp at hp
      subst hp
      exact ht
  · rcases List.mem_append.1 hp with hp | hp
    · exact h.walk p hp
    · simp at hp
      subst hp
      obtain ⟨q, q1, q2⟩ := h.walk _ hm
      exact ⟨q ++ [es[k]], q1.snoc he rfl, by rw [lagP_snoc, q2]⟩
  · rw [List.length_append, List.length_singleton]
    rcases List.mem_append.1 hp with hp | hp
    · have := h.size p hp
      omega
    · simp at hp
      subst hp
      have h1 := h.size _ hm
      have h2 := hlg.lag he
      simp only [] at h1 ⊢
      omega
  · rw [hold j (by omega)] at hjq
    intro hf hl
    exact hup _ _ (h.done j q y hj hjq e hee hf hl)
  · rw [hold i hi] at hjq
    rcases take_mem hk hee with h1 | h1
    · exact hup _ _ (h.cur q y hjq e h1 hf hl)
    · subst h1
      rw [hq] at hjq
      cases hjq
      rw [lookM_app, hn]
      simp
theorem Bfs.next (h : Bfs n es D r ms i es.length) : Bfs n es D r ms (i + 1) 0 := by
  refine ⟨h.nodup, h.lt, h.first, h.walk, h.size, fun j q l hj hq e he => ?_, fun q l _ e he => by simp at he⟩
  by_cases hji : j < i
  · exact h.done j q l hji hq e he
  · have : j = i := by omega
    subst this
    exact h.cur q l hq e (by rw [List.take_length]; exact he)
/-- Two lags that do not fit together: not balanced. -/
theorem Bfs.clash (h : Bfs n es D r ms i k) (hs : Sound n es D) (hr : r < n) (hin : InR n es) (hk : k < es.length) {l y : Int} (hq : ms[i]? = some ((es[k]).f.toNat, l)) (hd : ld D (es[k]).t.toNat r) (hy : lookM ms (es[k]).t.toNat = some y) (hne : y ≠ l + lagE es[k]) : ¬ Bal es := by
  intro hb
  have he := List.getElem_mem hk
  have ht := (hin.to he false).1
  simp only [toE, Bool.false_eq_true, if_false] at ht
  obtain ⟨q1, a1, a2⟩ := h.walk _ (List.mem_of_getElem? hq)
  obtain ⟨q2, b1, b2⟩ := h.walk _ (lookM_mem hy)
  obtain ⟨q3, c1⟩ := hs.path _ _ ht hr hd
  have e1 := hb r _ ((a1.snoc he rfl).append c1)
  have e2 := hb r _ (b1.append c1)
  rw [lagP_append, lagP_snoc] at e1
  rw [lagP_append] at e2
  simp only [] at a2 b2
  omega
/-- All that is reached fits together: rounds from here have the lag 0. -/
theorem Bfs.ends (h : Bfs n es D r ms ms.length 0) (hlow : Low n es D n) (hr : r < n) (hin : InR n es) : ∀ p, Path es r p r → lagP p = 0 := by
  have key : ∀ {p : List E4} {a : Nat} {l : Int}, lookM ms a = some l → Path es a p r → lookM ms r = some (l + lagP p) := by
    intro p
    induction p with
    | nil =>
      rintro a l ha hp
      have : a = r := hp
      subst this
      simpa [lagP] using ha
    | cons e p ih =>
      rintro a l ha ⟨h1, h2, h3⟩
      subst h2
      have ht := (hin.to h1 false).1
      simp only [toE, Bool.false_eq_true, if_false] at ht
      obtain ⟨j, hj⟩ := List.getElem?_of_mem (lookM_mem ha)
      have hjl : j < ms.length := (List.getElem?_eq_some_iff.1 hj).1
      have := ih (h.done j _ l hjl hj e h1 rfl (hlow _ _ ht hr (Path.lead hin h3))) h3
      rw [this]
      simp only [lagP]
      congr 1
      omega
  intro p hp
  have := key h.first hp
  rw [h.first] at this
  simp at this
  omega
theorem bal_of (hin : InR n es) (h : ∀ r, r < n → ∀ p, Path es r p r → lagP p = 0) : Bal es := by
  intro u p hp
  cases p with
  | nil => rfl
  | cons e q =>
    have : u < n := by
      obtain ⟨h1, h2, _⟩ := hp
      have := (hin.to h1 false).2
      simp only [frE, Bool.false_eq_true, if_false] at this
      omega
    exact h u this _ hp
end
end Go.Proofs.Ytkmlmkbpdldjgaa.W
