/-
The argument of the laws of transducers, opened.
-/
import Derived.Test.YtkmlmkbpdldjgaaW8
import Derived.Test.YtkmlmkbpdldjgaaB20
import Derived.Lib.SmallJoins
import Derived.Deep.Grids
import Derived.ChangeArms
import Derived.KernelRfl
namespace Go.Proofs.Ytkmlmkbpdldjgaa.W
set_option linter.unusedSimpArgs false
set_option linter.unusedVariables false
open Go.B

section
variable {H : Type} {enc : TypeId × Value → H} {W : World} {held : Bool}

theorem sls_nil (w : World) (ty sz : Nat) : Sls (heap0 w) ty sz (absV w (.slice none 0 0)) [] := ⟨rfl, rfl, fun i x hi => by simp at hi⟩

def fs70 : Array Field := #[⟨"From", 2, 0, false, "", "", 0⟩, ⟨"To", 2, 1, false, "", "", 8⟩, ⟨"In", 9, 2, false, "", "", 16⟩, ⟨"Out", 9, 3, false, "", "", 32⟩]
theorem u70 : Try.prog.underlying 70 = some (.struct fs70) := by kernel_rfl
theorem u2 : Try.prog.underlying 2 = some (.int .i64) := by kernel_rfl
theorem u9 : Try.prog.underlying 9 = some .string := by kernel_rfl
theorem u27 : Try.prog.underlying 27 = some (.slice 70) := by kernel_rfl
theorem u26 : Try.prog.underlying 26 = some (.slice 4) := by kernel_rfl
theorem u4 : Try.prog.underlying 4 = some .bool := by kernel_rfl
theorem z2 : Try.prog.cellsOf 2 = 1 := by kernel_rfl
theorem z9 : Try.prog.cellsOf 9 = 1 := by kernel_rfl
theorem z70 : Try.prog.cellsOf 70 = 4 := by kernel_rfl

/-- Four cells of an edge. -/
theorem edge_cells {fuel : Nat} {cs : List Value} {x : DataW H × List MemPlace} (h : DataW.trod enc Try.prog W 0 (fun _ => true) held fuel 70 cs = some x) :
    ∃ e : E4, cs = [.int .i64 e.f, .int .i64 e.t, .string e.i, .string e.o] ∧ e.i.size ≤ 9223372036854775807 ∧ e.o.size ≤ 9223372036854775807 := by
  obtain ⟨xs, n, _, _, hl, hxl, hf⟩ := DataW.trod_struct u70 h
  rw [z70] at hl
  match cs, hl with
  | [c0, c1, c2, c3], _ =>
    have g : ∀ (k : Nat), k < 4 → ∃ y, xs[k]? = some y := fun k hk => ⟨_, List.getElem?_eq_getElem (by rw [hxl]; exact hk)⟩
    obtain ⟨y0, g0⟩ := g 0 (by omega)
    obtain ⟨y1, g1⟩ := g 1 (by omega)
    obtain ⟨y2, g2⟩ := g 2 (by omega)
    obtain ⟨y3, g3⟩ := g 3 (by omega)
    have h0 : DataW.trod enc Try.prog W 0 (fun _ => true) held n 2 (([c0, c1, c2, c3].drop 0).take (Try.prog.cellsOf 2)) = xs[0]? := hf 0 ⟨_, _, _, _, _, _, _⟩ rfl
    have h1 : DataW.trod enc Try.prog W 0 (fun _ => true) held n 2 (([c0, c1, c2, c3].drop 1).take (Try.prog.cellsOf 2)) = xs[1]? := hf 1 ⟨_, _, _, _, _, _, _⟩ rfl
    have h2 : DataW.trod enc Try.prog W 0 (fun _ => true) held n 9 (([c0, c1, c2, c3].drop 2).take (Try.prog.cellsOf 9)) = xs[2]? := hf 2 ⟨_, _, _, _, _, _, _⟩ rfl
    have h3 : DataW.trod enc Try.prog W 0 (fun _ => true) held n 9 (([c0, c1, c2, c3].drop 3).take (Try.prog.cellsOf 9)) = xs[3]? := hf 3 ⟨_, _, _, _, _, _, _⟩ rfl
    rw [g0, z2] at h0
    rw [g1, z2] at h1
    rw [g2, z9] at h2
    rw [g3, z9] at h3
    obtain ⟨a, e0, _, _⟩ := DataW.trod_int u2 h0
    obtain ⟨b, e1, _, _⟩ := DataW.trod_int u2 h1
    obtain ⟨s, e2, _, q2⟩ := DataW.trod_string u9 h2
    obtain ⟨t, e3, _, q3⟩ := DataW.trod_string u9 h3
    simp at e0 e1 e2 e3
    subst e0 e1 e2 e3
    exact ⟨⟨a, b, s, t⟩, rfl, by simpa [maxLen] using q2, by simpa [maxLen] using q3⟩
theorem open_edges {fuel : Nat} {c : Value} {x : DataW H × List MemPlace} (h : DataW.trod enc Try.prog W 0 (fun _ => true) held fuel 27 [c] = some x) :
    ∃ (es : List E4) (ty : Nat), Sls (heap0 W) ty 4 (absV W c) (es.map E4.enc) ∧ es.length ≤ 9223372036854775807 ∧ ∀ e ∈ es, e.i.size ≤ 9223372036854775807 ∧ e.o.size ≤ 9223372036854775807 := by
  rcases Deep.open_slice u27 h with ⟨e, _⟩ | ⟨a, len, cap, m, n, D, Pl, e, _, hl, hm, hmm, _, hi⟩
  · simp at e
    subst e
    exact ⟨[], 0, sls_nil W 0 4, by simp, by simp⟩
  · simp at e
    subst e
    simp only [if_true] at hmm
    subst hmm
    obtain ⟨E, hE⟩ : ∃ E : Nat → E4, ∀ i, i < len → (∀ (j : Nat) (v : Value), [Value.int .i64 (E i).f, .int .i64 (E i).t, .string (E i).i, .string (E i).o][j]? = some v → W.cell? (a.add (i * 4 + j)) = some v) ∧
        (E i).i.size ≤ 9223372036854775807 ∧ (E i).o.size ≤ 9223372036854775807 := by
      have : Inhabited E4 := ⟨⟨0, 0, ⟨#[]⟩, ⟨#[]⟩⟩⟩
      refine Deep.choose_lt (α := E4) (p := fun i e => (∀ (j : Nat) (v : Value), [Value.int .i64 e.f, .int .i64 e.t, .string e.i, .string e.o][j]? = some v → W.cell? (a.add (i * 4 + j)) = some v) ∧ e.i.size ≤ 9223372036854775807 ∧ e.o.size ≤ 9223372036854775807) fun i hlt => ?_
      obtain ⟨cs', hc, ht⟩ := hi i (by omega)
      rw [z70] at hc
      obtain ⟨_, _, hat⟩ := World.cells?_some hc
      obtain ⟨e, he, q1, q2⟩ := edge_cells ht
      refine ⟨e, fun j v hj => ?_, q1, q2⟩
      have hj4 : j < 4 := (List.getElem?_eq_some_iff.1 hj).1
      rw [← Deep.add_add, hat j hj4, he]
      exact hj
    obtain ⟨ty, hs⟩ := Sls.start (w := W) (a := a) (n := len) (c := m) (sz := 4) (xs := (List.range len).map fun i => [Value.int .i64 (E i).f, .int .i64 (E i).t, .string (E i).i, .string (E i).o]) (by simp) hl (by omega) (by simp) (by
      intro i x hi j v hj
      rw [List.getElem?_map] at hi
      simp only [Option.map_eq_some_iff] at hi
      obtain ⟨k, hk, rfl⟩ := hi
      obtain ⟨hlt, hkv⟩ := List.getElem?_eq_some_iff.1 hk
      simp at hlt hkv
      subst hkv
      exact (hE i hlt).1 j v hj)
    refine ⟨(List.range len).map E, ty, ?_, ?_, ?_⟩
    · simpa [List.map_map, Function.comp_def, absV, toB1, E4.enc] using hs
    · simp [maxLen] at hm ⊢
      omega
    · intro e he
      obtain ⟨k, hk, rfl⟩ := List.mem_map.1 he
      exact (hE k (List.mem_range.1 hk)).2

theorem open_flags {fuel : Nat} {c : Value} {x : DataW H × List MemPlace} (h : DataW.trod enc Try.prog W 0 (fun _ => true) held fuel 26 [c] = some x) :
    ∃ (bs : List Bool) (ty : Nat), Sls (heap0 W) ty 1 (absV W c) (bs.map encB) ∧ bs.length ≤ 9223372036854775807 := by
  rcases Deep.open_bools u26 u4 (by kernel_rfl) h with ⟨e, _⟩ | ⟨a, len, cap, B, e, _, hl, hm, _, hcell⟩
  · simp at e
    subst e
    exact ⟨[], 0, sls_nil W 0 1, by simp⟩
  · simp at e
    subst e
    obtain ⟨ty, hs⟩ := Sls.start (w := W) (a := a) (n := len) (c := cap) (sz := 1) (xs := (List.range len).map fun i => [Value.bool (B i)]) (by simp) hl (by omega) (by simp) (by
      intro i x hi j v hj
      rw [List.getElem?_map] at hi
      simp only [Option.map_eq_some_iff] at hi
      obtain ⟨k, hk, rfl⟩ := hi
      obtain ⟨hlt, hkv⟩ := List.getElem?_eq_some_iff.1 hk
      simp at hlt hkv
      subst hkv
      cases j with
      | zero =>
        simp at hj
        subst hj
        simpa using hcell i (by omega)
      | succ j => simp at hj)
    refine ⟨(List.range len).map B, ty, ?_, ?_⟩
    · simpa [List.map_map, Function.comp_def, absV, toB1, encB] using hs
    · simp [maxLen] at hm ⊢
      omega
end
end Go.Proofs.Ytkmlmkbpdldjgaa.W
