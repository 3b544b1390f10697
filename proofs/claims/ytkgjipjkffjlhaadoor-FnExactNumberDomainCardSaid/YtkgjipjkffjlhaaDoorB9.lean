/-
What the machine B's operations do, the model's do: slices, maps and appends.
-/
import Derived.Test.YtkgjipjkffjlhaaDoorB8
namespace Go.B
set_option linter.unusedVariables false
set_option linter.unusedSimpArgs false

section
variable {P : Program} {base : Nat} {w0 w : World} {X : Tie} {H : BH} {o : Oper} {ρ : Operand → Value} {σ : Opd → BV}

/-- How the bounds were compiled. -/
structure Bounds (lo : Option Operand) (lo' : Option Opd) : Prop where
  some : ∀ x, lo = some x → ∃ y, lo' = some y ∧ opd x = some y
  none : lo = none → lo' = none

theorem does_slice {t e n : Nat} {x : Operand} {y : Opd} {lo hi : Option Operand} {lo' hi' : Option Opd} (ho : o.op = .slice t x lo hi none) (hu : P.underlying t = some (.slice e)) (hs : size? P.info? e = some n) (hy : opd x = some y)
    (hlo : Bounds lo lo') (hhi : Bounds hi hi') (hr : HR P base w0 X H w) (hρ : OR base X σ ρ) {nb : Nat} {v : BV} {H1 : BH} (h : op1 base nb σ H (.slice n y lo' hi') = some (v, H1)) : Does P base w0 X w o ρ v H1 := by
  have g1 := hρ x y hy
  obtain ⟨i', hi', rfl⟩ := size?_elim hs
  simp only [op1] at h
  split at h
  · rename_i b i m e1
    rw [e1] at g1
    obtain ⟨r, cap, hx, e2, hle, hown⟩ := g1
    split at h
    · rename_i l hb hl hh
      split at h
      · rename_i hc
        obtain ⟨c1, c2, c3⟩ := hc
        have hsb := run_sliceBounds (P := P) (w := w) (b := true) (len := m) (cap := cap) hρ hlo.some hlo.none hhi.some hhi.none hl hh c2 (by omega) hle
        split at h
        · rename_i hlt
          simp at h
          obtain ⟨rfl, rfl⟩ := h
          have hne : ¬ cap = l := by omega
          refine .plain hr (v' := .slice (some ⟨r.blk, i + l * i'.size, none⟩) (hb - l) (cap - l)) ?_ ⟨r, cap - l, hx, rfl, by omega, fun hbb h0 => ?_⟩
          · have : (⟨r.blk, i, none⟩ : Addr).add (l * i'.size) = ⟨r.blk, i + l * i'.size, none⟩ := by unfold Addr.add; split <;> simp_all
            simp [execOp, ho, e2, Instr.sliceAt, Instr.slice, run_underlying hu, hsb, sizeOf, typeInfo, hi', hne, this]
          · have hl0 : l = 0 := by
              rcases Nat.eq_zero_or_pos l with h | h
              · exact h
              · have := Nat.mul_pos h (Nat.pos_of_ne_zero c1)
                omega
            subst hl0
            have := hown hbb (by omega)
            simpa using this
        · rename_i hlt
          simp at h
          obtain ⟨rfl, rfl⟩ := h
          by_cases hcl : cap = l
          · subst hcl
            refine .plain hr (v' := .slice (some ⟨r.blk, i, none⟩) (hb - cap) (cap - cap)) ?_ ⟨some ⟨r.blk, i, none⟩, cap - cap, by rw [show hb - cap = 0 by omega], by simp⟩
            simp [execOp, ho, e2, Instr.sliceAt, Instr.slice, run_underlying hu, hsb, sizeOf, typeInfo, hi']
          · refine .plain hr (v' := .slice (some ((⟨r.blk, i, none⟩ : Addr).add (l * i'.size))) (hb - l) (cap - l)) ?_ ⟨some ((⟨r.blk, i, none⟩ : Addr).add (l * i'.size)), cap - l, by rw [show hb - l = 0 by omega], by simp⟩
            simp [execOp, ho, e2, Instr.sliceAt, Instr.slice, run_underlying hu, hsb, sizeOf, typeInfo, hi', hcl]
      · cases h
    · cases h
  · rename_i e1
    rw [e1] at g1
    have g1 : ρ x = .slice none 0 0 := g1
    split at h
    · rename_i hl hh
      simp at h
      obtain ⟨rfl, rfl⟩ := h
      have hsb := run_sliceBounds (P := P) (w := w) (b := true) (len := 0) (cap := 0) hρ hlo.some hlo.none hhi.some hhi.none hl hh (Nat.le_refl _) (Nat.le_refl _) (Nat.le_refl _)
      refine .plain hr (v' := .slice none 0 0) ?_ rfl
      simp [execOp, ho, g1, Instr.sliceAt, Instr.slice, run_underlying hu, hsb, sizeOf, typeInfo, hi']
    · cases h
  · rename_i e1
    rw [e1] at g1
    obtain ⟨a, cap, e2, hn⟩ := g1
    split at h
    · rename_i hl hh
      simp at h
      obtain ⟨rfl, rfl⟩ := h
      have hsb := run_sliceBounds (P := P) (w := w) (b := true) (len := 0) (cap := cap) hρ hlo.some hlo.none hhi.some hhi.none hl hh (Nat.le_refl _) (Nat.zero_le _) (Nat.zero_le _)
      have hadd : a.map (·.add (0 * i'.size)) = a := by cases a <;> simp [Addr.add]
      refine .plain hr (v' := .slice a 0 cap) ?_ ⟨a, cap, rfl, hn⟩
      simp [execOp, ho, e2, Instr.sliceAt, Instr.slice, run_underlying hu, hsb, sizeOf, typeInfo, hi']
      intro _
      cases a <;> simp [Addr.add]
    · cases h
  · cases h

theorem does_sslice {t : Nat} {x : Operand} {y : Opd} {lo hi : Option Operand} {lo' hi' : Option Opd} (ho : o.op = .slice t x lo hi none) (hu : P.underlying t = some .string) (hy : opd x = some y)
    (hlo : Bounds lo lo') (hhi : Bounds hi hi') (hr : HR P base w0 X H w) (hρ : OR base X σ ρ) {nb : Nat} {v : BV} {H1 : BH} (h : op1 base nb σ H (.sslice y lo' hi') = some (v, H1)) : Does P base w0 X w o ρ v H1 := by
  have g1 := hρ x y hy
  simp only [op1] at h
  split at h
  · rename_i s e1
    rw [e1] at g1
    have g1 : ρ x = .string s := g1
    split at h
    · rename_i l hb hl hh
      split at h
      · rename_i hc
        simp at h
        obtain ⟨rfl, rfl⟩ := h
        have hsb := run_sliceBounds (P := P) (w := w) (b := false) (len := s.size) (cap := s.size) hρ hlo.some hlo.none hhi.some hhi.none hl hh hc.1 hc.2 (Nat.le_refl _)
        refine .plain hr (v' := .string (s.extract l hb)) ?_ rfl
        simp [execOp, ho, g1, Instr.sliceAt, Instr.slice, run_underlying hu, hsb]
      · cases h
    · cases h
  · cases h

theorem does_mkmap {t nb : Nat} {K : BH} (ho : o.op = .makeMap t none) (hr : HR P base w0 X H w) (hm : H.make base nb (.mp []) = some K) : Does P base w0 X w o ρ (.mp nb) K := by
  obtain ⟨hf, hb, rfl⟩ := make_elim hm
  have hle := Tie.le_put (X := X) (b := nb) ⟨w.heap.size, 0, 0⟩ (hr.fresh_none hf)
  refine ⟨_, _, _, .map (some w.heap.size), ?_, .inl rfl, hle, ⟨_, Tie.put_self _ _ _, rfl⟩, hr.make (o := .map #[] 0) hf rfl ?_⟩
  · simp [execOp, ho, Instr.makeMap, World.alloc_eq]
  · exact ⟨_, #[], 0, Tie.put_self _ _ _, heap_alloc_new w _, rfl, fun _ => hr.ext.size⟩

theorem does_mksl {t e nb : Nat} {i : TypeInfo} {zc : List BV} {x z : Operand} {y q : Opd} (ho : o.op = .makeSlice t x z) (hu : P.underlying t = some (.slice e)) (hi : P.info? e = some i) (hz : zeroCells? P.info? e = some zc) (hzn : zc.length = i.size)
    (hy : opd x = some y) (hq : opd z = some q) (hr : HR P base w0 X H w) (hρ : OR base X σ ρ) {v : BV} {H1 : BH} (h : op1 base nb σ H (.mksl e i.bytes zc y q) = some (v, H1)) : Does P base w0 X w o ρ v H1 := by
  have g1 := hρ x y hy
  have g2 := hρ z q hq
  obtain ⟨i', zv, hi', hzz, rfl⟩ := zeroCells_elim hz
  rw [hi] at hi'
  cases hi'
  have hzs : zv.cells.size = i.size := by simpa using hzn
  simp only [op1] at h
  split at h
  · rename_i k n k' c e1 e2
    rw [e1] at g1
    rw [e2] at g2
    have g1 : ρ x = .int k n := g1
    have g2 : ρ z = .int k' c := g2
    split at h
    · rename_i hc
      obtain ⟨c1, c2, c3, c4⟩ := hc
      cases hm : H.make base nb (.arr e (List.flatten (List.replicate n.toNat (zv.cells.toList.map toB1)))) with
      | none => rw [hm] at h; cases h
      | some K =>
        rw [hm] at h
        simp at h
        obtain ⟨rfl, rfl⟩ := h
        obtain ⟨hf, hb, rfl⟩ := make_elim hm
        have hle := Tie.le_put (X := X) (b := nb) ⟨w.heap.size, P.cellsOf e, c.toNat * i.size⟩ (hr.fresh_none hf)
        have hcell : P.cellsOf e = i.size := by simp [Program.cellsOf, hi]
        have hrun := run_make (P := P) w t e i zv hu hi hzz k k' n c c1 c2 (by omega) (by omega)
        refine ⟨_, _, _, .slice (some ⟨w.heap.size, 0, none⟩) n.toNat c.toNat, ?_, .inl rfl, hle, ⟨_, c.toNat, Tie.put_self _ _ _, rfl, by omega, fun _ _ => ⟨by simp [hcell], ?_⟩⟩, hr.make (o := .cells (madeCells zv.cells (c.toNat * i.size)) e) hf rfl ?_⟩
        · simp [execOp, ho, g1, g2, hrun]
        · simp [maxLen]; omega
        · refine ⟨_, madeCells zv.cells (c.toNat * i.size), (0, 0), Tie.put_self _ _ _, heap_alloc_new w _, size_madeCells _ _, rfl, fun j d hd => ?_, fun _ => ⟨hr.ext.size, rfl⟩⟩
          obtain ⟨u, hu, ku⟩ := (madeCells_rel (base := base) (X := X.put nb ⟨w.heap.size, P.cellsOf e, c.toNat * i.size⟩) (n := n.toNat) hzs).get j d hd
          have hlt : j < n.toNat * i.size := by
            have := (List.getElem?_eq_some_iff.1 hu).1
            simpa [size_madeCells] using this
          have hlt2 : j < c.toNat * i.size := Nat.lt_of_lt_of_le hlt (Nat.mul_le_mul_right _ (by omega))
          refine ⟨u, ?_, ku⟩
          rw [Array.getElem?_toList] at hu
          simp only [madeCells, Array.getElem?_map] at hu ⊢
          rw [show (Array.range (n.toNat * i.size))[j]? = some j by simp [hlt]] at hu
          rw [show (Array.range (c.toNat * i.size))[j]? = some j by simp [hlt2]]
          exact hu
    · cases h
  · cases h

end
end Go.B
