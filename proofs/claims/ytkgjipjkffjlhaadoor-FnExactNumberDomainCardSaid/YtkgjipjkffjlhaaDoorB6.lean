/-
What the machine B's operations do, the model's do: reading, writing and building.
-/
import Derived.Test.YtkgjipjkffjlhaaDoorB5
import Derived.Laws.MakeOwn
import Derived.Great.BuildSlice
namespace Go.B
set_option linter.unusedVariables false
set_option linter.unusedSimpArgs false

section
variable {P : Program} {base : Nat} {w0 w : World} {X : Tie} {H : BH} {o : Oper} {ρ : Operand → Value} {σ : Opd → BV}

theorem size?_elim {t n : Nat} (h : size? P.info? t = some n) : ∃ i, P.info? t = some i ∧ i.size = n := by
  unfold size? at h
  cases hi : P.info? t with
  | none => simp [hi] at h
  | some i => simp [hi] at h; exact ⟨i, rfl, h⟩

def aggD : TypeDesc → Bool
  | .struct _ | .array _ _ => true
  | _ => false

theorem shapeOf_elim {t : Nat} {s : Option Nat} (h : shapeOf P.underlying P.info? t = some s) : ∃ d i, P.underlying t = some d ∧ P.info? t = some i ∧
    ((aggD d = true ∧ s = some i.size) ∨ (aggD d = false ∧ s = none)) := by
  unfold shapeOf at h
  cases hu : P.underlying t with
  | none => simp [agg?, hu] at h
  | some d =>
    cases hi : size? P.info? t with
    | none => cases d <;> simp [agg?, hu, hi] at h
    | some n =>
      obtain ⟨i, hi', rfl⟩ := size?_elim hi
      refine ⟨d, i, rfl, hi', ?_⟩
      cases d <;> simp [agg?, hu, hi] at h <;> simp [h, aggD]

theorem run_isAgg {t : TypeId} {d : TypeDesc} (h : P.underlying t = some d) : (isAgg t).run P w = .ok (aggD d) w := by
  cases d <;> simp [isAgg, run_underlying h, aggD]

/-- A row's cells, from one on. -/
theorem HR.cells {b ty : Nat} {cs : List BV} (hr : HR P base w0 X H w) (hb : H.row b = .arr ty cs) {o n : Nat} (hn : o + n ≤ cs.length) :
    ∃ r vs, X b = some r ∧ vs.length = n ∧ (∀ j v, vs[j]? = some v → w.cell? ⟨r.blk, o + j, none⟩ = some v) ∧ VRL base X ((cs.drop o).take n) vs := by
  have h := hr.row b
  rw [hb] at h
  obtain ⟨r, cur, fz, hx, hh, h1, h2, h3, h4⟩ := h
  have hlen : o + n ≤ cur.size ∨ n = 0 := by
    by_cases h0 : n = 0
    · exact .inr h0
    · have hlt : o + n - 1 < cs.length := by omega
      obtain ⟨v, hv, _⟩ := h3 (o + n - 1) _ (List.getElem?_eq_getElem hlt)
      have := (Array.getElem?_eq_some_iff.1 hv).1
      exact .inl (by omega)
  refine ⟨r, (cur.toList.drop o).take n, hx, ?_, ?_, ?_⟩
  · simp
    omega
  · intro j v hv
    have hj : j < n := by
      have := (List.getElem?_eq_some_iff.1 hv).1
      simp at this
      omega
    rw [List.getElem?_take_of_lt hj, List.getElem?_drop] at hv
    simp [World.cell?, hh]
    simpa using hv
  · refine VRL.of ?_ ?_
    · simp
      omega
    · intro i c hc
      have hj : i < n := by
        have := (List.getElem?_eq_some_iff.1 hc).1
        simp at this
        omega
      rw [List.getElem?_take_of_lt hj, List.getElem?_drop] at hc
      obtain ⟨v, hv, k⟩ := h3 _ _ hc
      refine ⟨v, ?_, k⟩
      rw [List.getElem?_take_of_lt hj, List.getElem?_drop]
      simpa using hv

/-- A variable is loaded. -/
theorem run_loadVar_rel {b ty t : Nat} {cs : List BV} {s : Option Nat} (hr : HR P base w0 X H w) (hb : H.row b = .arr ty cs) (hs : shapeOf P.underlying P.info? t = some s) {o : Nat}
    (hn : o + s.getD 1 ≤ cs.length) {v : BV} (hv : asm s ((cs.drop o).take (s.getD 1)) = some v) : ∃ r v', X b = some r ∧ (loadVar t ⟨r.blk, o, none⟩).run P w = .ok v' w ∧ VR base X v v' := by
  obtain ⟨d, i, hu, hi, hd⟩ := shapeOf_elim hs
  obtain ⟨r, vs, hx, hl, hc, hk⟩ := hr.cells hb hn
  rcases hd with ⟨hd, rfl⟩ | ⟨hd, rfl⟩
  · refine ⟨r, .agg vs.toArray, hx, ?_, ?_⟩
    · have h1 : vs.length = i.size := by simpa using hl
      have h2 := run_loadCells_list (P := P) w ⟨r.blk, o, none⟩ vs (fun j v hv => by
        have : (⟨r.blk, o, none⟩ : Addr).add j = ⟨r.blk, o + j, none⟩ := by unfold Addr.add; split <;> simp_all
        rw [this]; exact hc j v hv)
      rw [h1] at h2
      simp [loadVar, run_isAgg (P := P) (w := w) hu, hd, sizeOf, typeInfo, hi, h2]
    · simp only [asm, Option.some.injEq] at hv
      subst hv
      exact ⟨_, rfl, by simpa using hk⟩
  · simp only [asm, Option.getD_none] at hv hl hk
    match vs, hl with
    | [x], _ =>
      refine ⟨r, x, hx, ?_, ?_⟩
      · have h2 := hc 0 x rfl
        simp only [Nat.add_zero] at h2
        simp [loadVar, run_isAgg (P := P) (w := w) hu, hd, h2]
      · cases hq : (cs.drop o).take 1 with
        | nil => rw [hq] at hv; simp at hv
        | cons c q =>
          rw [hq] at hv hk
          simp at hv
          subst hv
          obtain ⟨v', q', e, k1, _⟩ := hk
          cases e
          exact k1

theorem does_load {t : Nat} {s : Option Nat} {x : Operand} {y : Opd} (ho : o.op = .load t x) (hs : shapeOf P.underlying P.info? t = some s) (hy : opd x = some y) (hr : HR P base w0 X H w) (hρ : OR base X σ ρ)
    {b i ty : Nat} {cs : List BV} (hp : σ y = .ptr b i) (hb : H.row b = .arr ty cs) (hn : i + s.getD 1 ≤ cs.length) {v : BV} (hv : asm s ((cs.drop i).take (s.getD 1)) = some v) :
    Does P base w0 X w o ρ v H := by
  have h1 := hρ x y hy
  rw [hp] at h1
  obtain ⟨r, hx, e⟩ := h1
  obtain ⟨r', v', hx', hrun, k⟩ := run_loadVar_rel hr hb hs hn hv
  rw [hx] at hx'
  cases hx'
  refine .plain hr (v' := v') ?_ k
  simp [execOp, ho, e, Instr.loadAt, Instr.sureAddr, hrun]

theorem does_store {t n : Nat} {x z : Operand} {y q : Opd} (ho : o.op = .store t x z) (hs : size? P.info? t = some n) (hy : opd x = some y) (hq : opd z = some q) (hr : HR P base w0 X H w) (hρ : OR base X σ ρ)
    {b i ty : Nat} {cs : List BV} (hp : σ y = .ptr b i) (hb : H.row b = .arr ty cs) (hbase : base ≤ b) (hlen : (σ q).cells.length = n) (hn : i + n ≤ cs.length) (hone : (σ q).cells.all BV.one = true) :
    Does P base w0 X w o ρ (.tup []) (H.set b (.arr ty (cs.take i ++ (σ q).cells ++ cs.drop (i + n)))) := by
  have h1 := hρ x y hy
  rw [hp] at h1
  obtain ⟨r, hx, e⟩ := h1
  obtain ⟨i', hi', rfl⟩ := size?_elim hs
  obtain ⟨hcl, hone'⟩ := (hρ z q hq).cellsOf hone
  have hrow := hr.row b
  rw [hb] at hrow
  obtain ⟨r', cur, fz, hx', hh, g1, g2, g3, g4⟩ := hrow
  rw [hx] at hx'
  cases hx'
  obtain ⟨glow, rfl⟩ := g4 hbase
  have hsz : (ρ z).cells.toList.length = i'.size := by rw [← hcl.len, hlen]
  have hle : cs.length ≤ cur.size := by
    by_cases h0 : cs.length = 0
    · omega
    · obtain ⟨v, hv, _⟩ := g3 (cs.length - 1) _ (List.getElem?_eq_getElem (by omega))
      have := (Array.getElem?_eq_some_iff.1 hv).1
      omega
  have hst := run_storeCells_at (P := P) r.blk i ty (ρ z).cells.toList 0 cur w hh (by simp only [Nat.add_zero, hsz]; omega)
    (fun v hv => (Array.all_eq_true_iff_forall_mem.1 hone') v (Array.mem_toList_iff.1 hv))
  simp only [Nat.add_zero, hsz] at hst
  have hszz : (ρ z).cells.size = i'.size := by simpa using hsz
  refine ⟨.skip, _, X, undef, ?_, .inr ⟨rfl, rfl⟩, Tie.le_refl X, ⟨#[], rfl, rfl⟩, hr.write (by rw [hb]; rfl) hx (hr.ext.setRow r.blk ((cur.toList.take i ++ (ρ z).cells.toList ++ cur.toList.drop (i + i'.size)).toArray) glow)
    (fun k _ hk => setRow_other _ _ _ _ hk) rfl ?_⟩
  · simp [execOp, ho, e, Instr.storeAt, Instr.sureAddr, storeVar, sizeOf, typeInfo, hi', hszz, hst]
  · refine ⟨r, _, (0, 0), hx, setRow_heap w r.blk cur _ ty (0, 0) hh, ?_, g2, ?_, fun _ => ⟨glow, rfl⟩⟩
    · simp
      omega
    · intro j c hc
      simp only [List.append_assoc] at hc ⊢
      by_cases hj : j < i
      · rw [List.getElem?_append_left (by simp; omega), List.getElem?_take_of_lt hj] at hc
        obtain ⟨v, hv, k⟩ := g3 j c hc
        refine ⟨v, ?_, k⟩
        simp only [List.getElem?_toArray]
        rw [List.getElem?_append_left (by simp; omega), List.getElem?_take_of_lt hj]
        simpa using hv
      · have ht : (cs.take i).length = i := by simp; omega
        have ht' : (cur.toList.take i).length = i := by simp; omega
        rw [List.getElem?_append_right (by omega), ht] at hc
        simp only [List.getElem?_toArray]
        rw [List.getElem?_append_right (by omega), ht']
        by_cases hj2 : j - i < i'.size
        · rw [List.getElem?_append_left (by omega)] at hc ⊢
          exact hcl.get _ _ hc
        · rw [List.getElem?_append_right (by omega), hlen, List.getElem?_drop] at hc
          obtain ⟨v, hv, k⟩ := g3 _ c hc
          refine ⟨v, ?_, k⟩
          rw [List.getElem?_append_right (by omega), hsz, List.getElem?_drop]
          simpa using hv

theorem does_lea {s n f : Nat} {x : Operand} {y : Opd} {fs : Array Field} {fd : Field} (ho : o.op = .fieldAddr s x f) (hu : P.underlying s = some (.struct fs)) (hf : fs[f]? = some fd) (hs : size? P.info? fd.type = some n)
    (hn : n ≠ 0) (hy : opd x = some y) (hr : HR P base w0 X H w) (hρ : OR base X σ ρ) {b i : Nat} (hp : σ y = .ptr b i) : Does P base w0 X w o ρ (.ptr b (i + fd.offset)) H := by
  have h1 := hρ x y hy
  rw [hp] at h1
  obtain ⟨r, hx, e⟩ := h1
  obtain ⟨i', hi', rfl⟩ := size?_elim hs
  refine .plain hr (v' := .pointer (some ⟨r.blk, i + fd.offset, none⟩)) ?_ ⟨r, hx, rfl⟩
  have : (⟨r.blk, i, none⟩ : Addr).add fd.offset = ⟨r.blk, i + fd.offset, none⟩ := by unfold Addr.add; split <;> simp_all
  simp [execOp, ho, e, Instr.fieldAt, run_underlying hu, hf, Instr.sureAddr, fieldPlace, sizeOf, typeInfo, hi', hn, this]

/-- A part of an aggregate. -/
theorem run_part_rel {t : Nat} {s : Option Nat} {cs : List BV} {vs : Array Value} (hk : VRL base X cs vs.toList) (hs : shapeOf P.underlying P.info? t = some s) {off : Nat} (hn : off + s.getD 1 ≤ cs.length) {v : BV}
    (hv : asm s ((cs.drop off).take (s.getD 1)) = some v) : ∃ v', (part t vs off).run P w = .ok v' w ∧ VR base X v v' := by
  obtain ⟨d, i, hu, hi, hd⟩ := shapeOf_elim hs
  have hlen := hk.len
  rcases hd with ⟨hd, rfl⟩ | ⟨hd, rfl⟩
  · simp only [asm, Option.some.injEq] at hv
    subst hv
    refine ⟨.agg (vs.extract off (off + i.size)), ?_, _, rfl, ?_⟩
    · simp [part, run_isAgg (P := P) (w := w) hu, hd, sizeOf, typeInfo, hi]
    · simp only [Option.getD_some] at hn ⊢
      refine VRL.of ?_ ?_
      · simp
        simp at hlen
        omega
      · intro j c hc
        have hj : j < i.size := by
          have := (List.getElem?_eq_some_iff.1 hc).1
          simp at this
          omega
        rw [List.getElem?_take_of_lt hj, List.getElem?_drop] at hc
        obtain ⟨v, hv, k⟩ := hk.get _ _ hc
        refine ⟨v, ?_, k⟩
        simp only [Array.toList_extract, List.extract_eq_take_drop]
        rw [List.getElem?_take_of_lt (by omega), List.getElem?_drop]
        exact hv
  · simp only [asm, Option.getD_none] at hv hn
    cases hq : (cs.drop off).take 1 with
    | nil => rw [hq] at hv; simp at hv
    | cons c q =>
      have hc : cs[off]? = some c := by
        have : ((cs.drop off).take 1)[0]? = some c := by rw [hq]; rfl
        rw [List.getElem?_take_of_lt (by omega), List.getElem?_drop] at this
        simpa using this
      rw [hq] at hv
      simp at hv
      subst hv
      obtain ⟨v', hv', k⟩ := hk.get _ _ hc
      have hv'' : vs[off]? = some v' := by simpa using hv'
      exact ⟨v', by simp [part, run_isAgg (P := P) (w := w) hu, hd, hv''], k⟩

theorem does_fld {s f : Nat} {x : Operand} {y : Opd} {fs : Array Field} {fd : Field} {sh : Option Nat} (ho : o.op = .field s x f) (hu : P.underlying s = some (.struct fs)) (hf : fs[f]? = some fd)
    (hs : shapeOf P.underlying P.info? fd.type = some sh) (hy : opd x = some y) (hr : HR P base w0 X H w) (hρ : OR base X σ ρ) {cs : List BV} (hp : σ y = .agg cs) (hn : fd.offset + sh.getD 1 ≤ cs.length) {v : BV}
    (hv : asm sh ((cs.drop fd.offset).take (sh.getD 1)) = some v) : Does P base w0 X w o ρ v H := by
  have h1 := hρ x y hy
  rw [hp] at h1
  obtain ⟨vs, e, k⟩ := h1
  obtain ⟨v', hrun, kv⟩ := run_part_rel (P := P) (w := w) k hs hn hv
  refine .plain hr (v' := v') ?_ kv
  simp [execOp, ho, e, Instr.field, run_underlying hu, hf, asAgg, hrun]

theorem does_idx {t e n : Nat} {x z : Operand} {y q : Opd} (ho : o.op = .indexAddr t x z) (hu : P.underlying t = some (.slice e)) (hs : size? P.info? e = some n) (hy : opd x = some y) (hq : opd z = some q)
    (hr : HR P base w0 X H w) (hρ : OR base X σ ρ) {b i m : Nat} {k : IntKind} {j : Int} (h1 : σ y = .sl b i m) (h2 : σ q = .int k j) (hj : 0 ≤ j) (hjm : j < m) : Does P base w0 X w o ρ (.ptr b (i + j.toNat * n)) H := by
  have g1 := hρ x y hy
  have g2 := hρ z q hq
  rw [h1] at g1
  rw [h2] at g2
  obtain ⟨r, cap, hx, e1, _⟩ := g1
  have g2 : ρ z = .int k j := g2
  obtain ⟨i', hi', rfl⟩ := size?_elim hs
  refine .plain hr (v' := .pointer (some ⟨r.blk, i + j.toNat * i'.size, none⟩)) ?_ ⟨r, hx, rfl⟩
  have : (⟨r.blk, i, none⟩ : Addr).add (j.toNat * i'.size) = ⟨r.blk, i + j.toNat * i'.size, none⟩ := by unfold Addr.add; split <;> simp_all
  simp [execOp, ho, e1, g2, Instr.indexAt, asIntOf, run_underlying hu, hj, hjm, sizeOf, typeInfo, hi', this]

theorem does_idxa {t e n len : Nat} {x z : Operand} {y q : Opd} (ho : o.op = .indexAddr t x z) (hu : P.underlying t = some (.array len e)) (hs : size? P.info? e = some n) (hy : opd x = some y) (hq : opd z = some q)
    (hr : HR P base w0 X H w) (hρ : OR base X σ ρ) {b i : Nat} {k : IntKind} {j : Int} (h1 : σ y = .ptr b i) (h2 : σ q = .int k j) (hj : 0 ≤ j) (hjm : j < len) : Does P base w0 X w o ρ (.ptr b (i + j.toNat * n)) H := by
  have g1 := hρ x y hy
  have g2 := hρ z q hq
  rw [h1] at g1
  rw [h2] at g2
  obtain ⟨r, hx, e1⟩ := g1
  have g2 : ρ z = .int k j := g2
  obtain ⟨i', hi', rfl⟩ := size?_elim hs
  refine .plain hr (v' := .pointer (some ⟨r.blk, i + j.toNat * i'.size, none⟩)) ?_ ⟨r, hx, rfl⟩
  have : (⟨r.blk, i, none⟩ : Addr).add (j.toNat * i'.size) = ⟨r.blk, i + j.toNat * i'.size, none⟩ := by unfold Addr.add; split <;> simp_all
  simp [execOp, ho, e1, g2, Instr.indexAt, asIntOf, run_underlying hu, Instr.sureAddr, hj, hjm, sizeOf, typeInfo, hi', this]

theorem does_idxs {t : Nat} {x z : Operand} {y q : Opd} (ho : o.op = .index t x z) (hu : P.underlying t = some .string) (hy : opd x = some y) (hq : opd z = some q)
    (hr : HR P base w0 X H w) (hρ : OR base X σ ρ) {s : ByteArray} {k : IntKind} {j : Int} {c : UInt8} (h1 : σ y = .str s) (h2 : σ q = .int k j) (hj : 0 ≤ j) (hc : s[j.toNat]? = some c) : Does P base w0 X w o ρ (.int .u8 c.toNat) H := by
  have g1 := hρ x y hy
  have g2 := hρ z q hq
  rw [h1] at g1
  rw [h2] at g2
  have g1 : ρ x = .string s := g1
  have g2 : ρ z = .int k j := g2
  refine .plain hr (v' := .int .u8 c.toNat) ?_ rfl
  simp [execOp, ho, g1, g2, Instr.index, asIntOf, run_underlying hu, hj, hc]

theorem does_mkfn {f : Nat} {first captured : Array Operand} {caps : List Opd} (ho : o.op = .makeFunc (.func f) first captured) (hf : first.size = 0) (hc : captured.toList.mapM opd = some caps)
    (hr : HR P base w0 X H w) (hρ : OR base X σ ρ) : Does P base w0 X w o ρ (.fn f (caps.map σ)) H := by
  obtain rfl := Array.eq_empty_of_size_eq_zero hf
  refine .plain hr (v' := .func (.func f) #[] (captured.map ρ)) ?_ ⟨_, rfl, ?_⟩
  · simp [execOp, ho, Instr.makeFunc]
  · rw [Array.toList_map]
    revert hc
    generalize captured.toList = l
    clear ho
    induction l generalizing caps with
    | nil => intro hc; simp at hc; subst hc; rfl
    | cons x l ih =>
      intro hc
      simp only [List.mapM_cons, Option.bind_eq_bind, Option.pure_def] at hc
      cases hx : opd x with
      | none => simp [hx] at hc
      | some y =>
        cases hl : l.mapM opd with
        | none => simp [hx, hl] at hc
        | some ys =>
          simp [hx, hl] at hc
          subst hc
          exact ⟨ρ x, l.map ρ, rfl, hρ x y hx, ih hl⟩

theorem does_ext {i : Nat} {x : Operand} {y : Opd} (ho : o.op = .extract x i) (hy : opd x = some y) (hr : HR P base w0 X H w) (hρ : OR base X σ ρ) {vs : List BV} (hp : σ y = .tup vs) {v : BV} (hv : vs[i]? = some v) :
    Does P base w0 X w o ρ v H := by
  have h1 := hρ x y hy
  rw [hp] at h1
  obtain ⟨us, e, k⟩ := h1
  obtain ⟨v', hv', kv⟩ := k.get _ _ hv
  have hv'' : us[i]? = some v' := by simpa using hv'
  refine .plain hr (v' := v') ?_ kv
  simp [execOp, ho, e, Instr.extract, hv'']

end
end Go.B
