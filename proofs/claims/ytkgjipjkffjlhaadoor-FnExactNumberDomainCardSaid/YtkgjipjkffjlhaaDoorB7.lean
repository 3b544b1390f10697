/-
What the machine B's operations do, the model's do: literals, slices and appends.
-/
import Derived.Test.YtkgjipjkffjlhaaDoorB6
namespace Go.B
set_option linter.unusedVariables false
set_option linter.unusedSimpArgs false

section
variable {P : Program} {base : Nat} {w0 w : World} {X : Tie} {H : BH} {o : Oper} {ρ : Operand → Value} {σ : Opd → BV}

/-- The parts of a literal, as the two sides place them. -/
theorem partsOf_cons {place : Nat → Option (Nat × Nat)} {i : Nat} {x : Operand} {r : List (Nat × Operand)} {qs : List (Nat × Nat × Opd)} (h : partsOf place ((i, x) :: r) = some qs) :
    ∃ off n y qs', place i = some (off, n) ∧ opd x = some y ∧ partsOf place r = some qs' ∧ qs = (off, n, y) :: qs' := by
  unfold partsOf at h ⊢
  simp only [List.mapM_cons, Option.bind_eq_bind, Option.pure_def] at h
  cases hp : place i with
  | none => simp [hp] at h
  | some p =>
    cases hy : opd x with
    | none => simp [hp, hy] at h
    | some y =>
      cases hr : r.mapM (fun (x : Nat × Operand) => (place x.1).bind fun p => (opd x.2).bind fun a => some (p.1, p.2, a)) with
      | none => simp [hp, hy, hr] at h
      | some qs' =>
        simp [hp, hy, hr] at h
        exact ⟨p.1, p.2, y, qs', rfl, rfl, rfl, h.symm⟩

theorem fill_rel {place place' : Nat → Option (Nat × Nat)} (hρ : OR base X σ ρ) : ∀ (ps : List (Nat × Operand)) (qs : List (Nat × Nat × Opd)) (cs cs' : List BV) (vs : Array Value), (∀ i p, place i = some p → place' i = some p) → partsOf place ps = some qs →
    VRL base X cs vs.toList → fillB cs (qs.map fun (o, n, x) => (o, n, σ x)) = some cs' →
    ∃ vs', Instr.fill place' vs (ps.map fun (i, x) => (i, ρ x)) = some vs' ∧ VRL base X cs' vs'.toList ∧ vs'.size = vs.size
  | [], qs, cs, cs', vs, _, hp, hk, hf => by
    simp [partsOf] at hp
    subst hp
    simp [fillB] at hf
    subst hf
    exact ⟨vs, rfl, hk, rfl⟩
  | (i, x) :: r, qs, cs, cs', vs, hpl, hp, hk, hf => by
    obtain ⟨off, n, y, qs', h1, h2, h3, rfl⟩ := partsOf_cons hp
    simp only [List.map_cons, fillB] at hf
    split at hf
    · rename_i hc
      obtain ⟨c1, c2, c3⟩ := hc
      obtain ⟨kx, _⟩ := (hρ x y h2).cellsOf c3
      have hxn : (ρ x).cells.size = n := by
        have := kx.len
        simp at this
        omega
      have hlen : cs.length = vs.size := by simpa using hk.len
      obtain ⟨g1, g2⟩ := Great.foldl_set off (ρ x).cells.toList 0 vs
      have hk' : VRL base X (cs.take off ++ (σ y).cells ++ cs.drop (off + n)) (((ρ x).cells.toList.zipIdx 0).foldl (fun cs (x : Value × Nat) => cs.setIfInBounds (off + x.2) x.1) vs).toList := by
        refine VRL.of ?_ ?_
        · simp only [List.length_append, List.length_take, List.length_drop, Array.length_toList, g1]
          omega
        · intro j c hc
          simp only [List.append_assoc] at hc
          rw [Array.getElem?_toList, g2 j]
          simp only [Nat.add_zero, Array.length_toList, hxn]
          by_cases hj : j < off
          · rw [if_neg (by omega)]
            rw [List.getElem?_append_left (by simp; omega), List.getElem?_take_of_lt hj] at hc
            obtain ⟨v, hv, k⟩ := hk.get j c hc
            exact ⟨v, by simpa using hv, k⟩
          · have ht : (cs.take off).length = off := by simp; omega
            rw [List.getElem?_append_right (by omega), ht] at hc
            by_cases hj2 : j - off < n
            · rw [if_pos ⟨by omega, by omega, by omega⟩]
              rw [List.getElem?_append_left (by omega)] at hc
              exact kx.get _ _ hc
            · rw [if_neg (by omega)]
              rw [List.getElem?_append_right (by omega), c1, List.getElem?_drop] at hc
              have e : off + n + (j - off - n) = j := by omega
              rw [e] at hc
              obtain ⟨v, hv, k⟩ := hk.get j c hc
              exact ⟨v, by simpa using hv, k⟩
      obtain ⟨vs', r1, r2, r3⟩ := fill_rel hρ r qs' _ cs' _ hpl h3 hk' hf
      refine ⟨vs', ?_, r2, by rw [r3, g1]⟩
      simp only [List.map_cons]
      unfold Instr.fill
      simp only [hpl i _ h1, hxn]
      rw [if_neg (by simp; omega)]
      rw [← r1]
      congr 1
      rw [← Array.foldl_toList, Array.toList_zipIdx]
    · cases hf

theorem places_get {fs : List Field} {places : List (Nat × Nat)} (h : fs.mapM (fun f => (P.info? f.type).map fun i => (f.offset, i.size)) = some places) :
    ∀ (i : Nat) (p : Nat × Nat), (do let f ← fs[i]?; some (f.offset, ← size? P.info? f.type)) = some p → places[i]? = some p := by
  induction fs generalizing places with
  | nil => intro i p hp; simp at hp
  | cons f fs ih =>
    simp only [List.mapM_cons, Option.bind_eq_bind, Option.pure_def] at h
    cases hi : P.info? f.type with
    | none => simp [hi] at h
    | some inf =>
      cases hr : fs.mapM (fun f => (P.info? f.type).map fun i => (f.offset, i.size)) with
      | none => simp [hi, hr] at h
      | some rest =>
        simp [hi, hr] at h
        subst h
        intro i p hp
        cases i with
        | zero => simp [size?, hi] at hp; simp [hp]
        | succ i => simpa using ih hr i p (by simpa using hp)

theorem does_build_struct {t : Nat} {ps : Array (Nat × Operand)} {qs : List (Nat × Nat × Opd)} {fs : Array Field} {places : List (Nat × Nat)} {z : List BV} (ho : o.op = .build t ps) (hu : P.underlying t = some (.struct fs))
    (hz : zeroCells? P.info? t = some z) (hp : partsOf (fun i => do let f ← fs[i]?; some (f.offset, ← size? P.info? f.type)) ps.toList = some qs)
    (hpl : fs.toList.mapM (fun f => (P.info? f.type).map fun i => (f.offset, i.size)) = some places)
    (hr : HR P base w0 X H w) (hρ : OR base X σ ρ) {cs : List BV} (hf : fillB z (qs.map fun (o, n, x) => (o, n, σ x)) = some cs) : Does P base w0 X w o ρ (.agg cs) H := by
  obtain ⟨i, zv, hi, hzz, rfl⟩ := zeroCells_elim hz
  obtain ⟨vs, h1, h2, _⟩ := fill_rel (place' := (places.toArray[·]?)) hρ ps.toList qs _ cs zv.cells (fun j p hj => by simpa using places_get hpl j p (by simpa using hj)) hp (VRL_toB1 _) hf
  refine .plain hr (v' := .agg vs) ?_ ⟨vs, rfl, h2⟩
  have hb : P.built t (ps.map fun (i, x) => (i, ρ x)).toList = some vs := by
    unfold Program.built
    rw [hi, hu]
    simp only [hzz, hpl]
    rw [Array.toList_map]
    exact h1
  simp [execOp, ho, run_build w t _ vs hb]

theorem does_build_array {t n e : Nat} {len : Nat} {ps : Array (Nat × Operand)} {qs : List (Nat × Nat × Opd)} {z : List BV} (ho : o.op = .build t ps) (hu : P.underlying t = some (.array len e)) (hn : size? P.info? e = some n)
    (hz : zeroCells? P.info? t = some z) (hp : partsOf (fun i => some (i * n, n)) ps.toList = some qs)
    (hr : HR P base w0 X H w) (hρ : OR base X σ ρ) {cs : List BV} (hf : fillB z (qs.map fun (o, n, x) => (o, n, σ x)) = some cs) : Does P base w0 X w o ρ (.agg cs) H := by
  obtain ⟨i, zv, hi, hzz, rfl⟩ := zeroCells_elim hz
  obtain ⟨i', hi', rfl⟩ := size?_elim hn
  obtain ⟨vs, h1, h2, _⟩ := fill_rel (place' := fun j => some (j * i'.size, i'.size)) hρ ps.toList qs _ cs zv.cells (fun j p hj => hj) hp (VRL_toB1 _) hf
  refine .plain hr (v' := .agg vs) ?_ ⟨vs, rfl, h2⟩
  have hb : P.built t (ps.map fun (i, x) => (i, ρ x)).toList = some vs := by
    unfold Program.built
    rw [hi, hu]
    simp only [hzz, hi']
    rw [Array.toList_map]
    exact h1
  simp [execOp, ho, run_build w t _ vs hb]

theorem madeCells_rel {z : Array Value} {n m : Nat} (hz : z.size = m) : VRL base X (List.flatten (List.replicate n (z.toList.map toB1))) (madeCells z (n * m)).toList := by
  refine VRL.of ?_ ?_
  · simp [madeCells, hz]
  · intro i c hc
    have hlt : i < n * m := by
      have := (List.getElem?_eq_some_iff.1 hc).1
      simpa [hz] using this
    have hm : 0 < m := by
      rcases Nat.eq_zero_or_pos m with h | h
      · subst h; simp at hlt
      · exact h
    have key : ∀ (n i : Nat), i < n * m → (List.flatten (List.replicate n (z.toList.map toB1)))[i]? = (z.toList.map toB1)[i % m]? := by
      intro n
      induction n with
      | zero => intro i hi; simp at hi
      | succ n ih =>
        intro i hi
        rw [List.replicate_succ, List.flatten_cons]
        have hl : (z.toList.map toB1).length = m := by simpa using hz
        by_cases h : i < m
        · rw [List.getElem?_append_left (by omega), Nat.mod_eq_of_lt h]
        · rw [List.getElem?_append_right (by omega), hl, ih _ (by rw [Nat.succ_mul] at hi; omega)]
          congr 1
          rw [← Nat.mod_eq_sub_mod (by omega)]
    rw [key n i hlt] at hc
    have hmod : i % m < z.size := by rw [hz]; exact Nat.mod_lt _ hm
    refine ⟨z[i % m], ?_, ?_⟩
    · simp [madeCells, hlt, hz, hmod]
      exact getElem!_pos z (i % m) hmod
    · simp [hmod] at hc
      subst hc
      exact VR_toB1 _

theorem does_mk {t e n len nb : Nat} {ps : Array (Nat × Operand)} {qs : List (Nat × Nat × Opd)} {z cs : List BV} {K : BH} (ho : o.op = .buildSlice t len ps) (hu : P.underlying t = some (.slice e)) (hn : size? P.info? e = some n)
    (hz : zeroCells? P.info? e = some z) (hsmall : len * n ≤ 16777216) (hsmall' : len ≤ 16777216) (hzn : z.length = n) (hp : partsOf (fun i => some (i * n, n)) ps.toList = some qs)
    (hr : HR P base w0 X H w) (hρ : OR base X σ ρ) (hf : fillB (List.flatten (List.replicate len z)) (qs.map fun (o, n, x) => (o, n, σ x)) = some cs) (hm : H.make base nb (.arr e cs) = some K) :
    Does P base w0 X w o ρ (.sl nb 0 len) K := by
  obtain ⟨i, zv, hi, hzz, rfl⟩ := zeroCells_elim hz
  obtain ⟨i', hi', rfl⟩ := size?_elim hn
  rw [hi] at hi'
  cases hi'
  obtain ⟨hfr, hb, rfl⟩ := make_elim hm
  have hzs : zv.cells.size = i.size := by simpa using hzn
  obtain ⟨vs, h1, h2, h3⟩ := fill_rel (place' := fun j => some (j * i.size, i.size)) hρ ps.toList qs _ cs (madeCells zv.cells (len * i.size)) (fun j p hj => hj) hp (madeCells_rel hzs) hf
  obtain ⟨r1, r2⟩ := hr.newRow hfr (ty := e) h2
  rw [size_madeCells] at h3
  have hcell : P.cellsOf e = i.size := by simp [Program.cellsOf, hi]
  refine ⟨_, _, _, .slice (some ⟨w.heap.size, 0, none⟩) len len, ?_, .inl rfl, r2, ⟨_, len, Tie.put_self _ _ _, rfl, Nat.le_refl _, fun _ _ => ⟨by simp [hcell, h3], ?_⟩⟩, r1⟩
  · by_cases h0 : len * i.size = 0
    · have hm0 : madeCells zv.cells (len * i.size) = #[] := by simp [madeCells, h0]
      rw [hm0] at h1
      have h1' : Instr.fill (fun j => some (j * i.size, i.size)) #[] (ps.map fun (i, x) => (i, ρ x)).toList = some vs := by rw [Array.toList_map]; exact h1
      have e0 : ∀ f : Nat → Value, (Array.range 0).map f = #[] := fun f => by rw [Array.range_zero']; exact Array.map_empty
      have hrun : (Instr.buildSlice t len (ps.map fun (i, x) => (i, ρ x))).run P w = .ok (.slice (some ⟨w.heap.size, 0, none⟩) len len) (w.alloc (.cells vs e)) := by
        simp [Instr.buildSlice, run_underlying hu, sizeOf, typeInfo, hi, h0]
        have h1'' : Instr.fill (fun j => some (j * i.size, i.size)) #[] (List.map (fun x => (x.fst, ρ x.snd)) ps.toList) = some vs := h1
        rw [e0, h1'']
        simp [newRow]
      simp only [execOp, ho, Sem.run_bind, hrun, Result.andThen_ok, Sem.run_pure]
    · have h1' : Instr.fill (fun j => some (j * i.size, i.size)) ((Array.range (len * i.size)).map (zv.cells[· % zv.cells.size]!)) (ps.map fun (i, x) => (i, ρ x)).toList = some vs := by rw [Array.toList_map]; exact h1
      have := run_buildSlice (P := P) w t e len (ps.map fun (i, x) => (i, ρ x)) vs i zv hu hi hzz (by omega) h0 h1'
      simp only [execOp, ho, Sem.run_bind, this, Result.andThen_ok, Sem.run_pure]
  · simp [maxLen]
    omega

end
end Go.B
