/-
What the machine B's operations do, the model's do: maps and appends.
-/
import Derived.Test.YtkmlmkbpdldjgaaDoorB9
import Derived.Laws.BytesArg
namespace Go.B
set_option linter.unusedVariables false
set_option linter.unusedSimpArgs false

section
variable {P : Program} {base : Nat} {w0 w : World} {X : Tie} {H : BH} {o : Oper} {ρ : Operand → Value} {σ : Opd → BV}

theorem ext_block {w0 w w' : World} (h : w0.Extends w) (ho : w'.os = w.os) (ht : w'.tape = w.tape) (hp : w'.output = w.output) (hs : w.heap.size ≤ w'.heap.size) (hb : ∀ k, k < w0.heap.size → w'.heap[k]? = w.heap[k]?) : w0.Extends w' := by
  have hb' : ∀ k, k < w0.heap.size → w'.heap[k]? = w0.heap[k]? := fun k hk => (hb k hk).trans (h.block k hk)
  exact ⟨ho.trans h.os, ht.trans h.tape, hp.trans h.output, Nat.le_trans h.size hs, fun a ha => World.cell?_of_block (hb' a.block ha), fun a ha => World.frozen?_of_block (hb' a.block ha), hb'⟩

theorem bytes_eq_of_beq {a b : ByteArray} (h : (a == b) = true) : a = b := by
  rw [beq_toListBytes, ByteArray.toList_eq, ByteArray.toList_eq] at h
  obtain ⟨⟨x⟩⟩ := a
  obtain ⟨⟨y⟩⟩ := b
  have : x = y := by simpa using h
  rw [this]
theorem bytes_beq_self (a : ByteArray) : (a == a) = true := by
  rw [beq_toListBytes]
  simp

def KindOf (desc : TypeDesc) (kd : Nat) : Prop := (∃ k, desc = .int k ∧ kd = 0) ∨ (desc = .string ∧ kd = 1) ∨ (desc = .bool ∧ kd = 2)

theorem kindOf_of {t kd : Nat} (h : keyKind P.underlying t = some kd) : ∃ d, P.underlying t = some d ∧ KindOf d kd := by
  rcases keyKind_elim h with ⟨k, h1, rfl⟩ | ⟨h1, rfl⟩ | ⟨h1, rfl⟩
  · exact ⟨_, h1, .inl ⟨k, rfl, rfl⟩⟩
  · exact ⟨_, h1, .inr (.inl ⟨rfl, rfl⟩)⟩
  · exact ⟨_, h1, .inr (.inr ⟨rfl, rfl⟩)⟩

theorem run_checkKey {t : Nat} {d : TypeDesc} {kd : Nat} (hu : P.underlying t = some d) (hd : KindOf d kd) (e : Bool) (n : Nat) (v : Value) : (Instr.checkKey e (n + 1) t v).run P w = .ok () w := by
  rcases hd with ⟨k, rfl, _⟩ | ⟨rfl, _⟩ | ⟨rfl, _⟩ <;> cases v <;> simp [Instr.checkKey, run_underlying hu]

theorem sameNow_rel {desc : TypeDesc} {kd : Nat} (hd : KindOf desc kd) {a b : BV} {u v : Value} (ha : VR base X a u) (hb : VR base X b v) {r : Bool} (h : keyEq kd a b = some r) : Instr.sameNow desc u v = some r ∧ (r = true → v = u) := by
  rcases keyEq_elim h with ⟨k, x, y, rfl, rfl, rfl, rfl⟩ | ⟨x, y, rfl, rfl, rfl, rfl⟩ | ⟨x, y, rfl, rfl, rfl, rfl⟩
  · have ha : u = .int k x := ha
    have hb : v = .int k y := hb
    subst ha; subst hb
    rcases hd with ⟨k', rfl, _⟩ | ⟨_, he⟩ | ⟨_, he⟩
    · exact ⟨by simp [Instr.sameNow], fun e => by simp at e; rw [e]⟩
    · simp at he
    · simp at he
  · have ha : u = .string x := ha
    have hb : v = .string y := hb
    subst ha; subst hb
    rcases hd with ⟨k', _, he⟩ | ⟨rfl, _⟩ | ⟨_, he⟩
    · simp at he
    · exact ⟨by simp [Instr.sameNow], fun e => by rw [bytes_eq_of_beq e]⟩
    · simp at he
  · have ha : u = .bool x := ha
    have hb : v = .bool y := hb
    subst ha; subst hb
    rcases hd with ⟨k', _, he⟩ | ⟨_, he⟩ | ⟨rfl, _⟩
    · simp at he
    · simp at he
    · exact ⟨by simp [Instr.sameNow], fun e => by simp at e; rw [e]⟩

theorem findNow_rel {desc : TypeDesc} {kd : Nat} (hd : KindOf desc kd) {kb : BV} {kv : Value} (hk : VR base X kb kv) : ∀ (ms : List (BV × BV)) (es : List MapEntry) (i : Nat) (r : Option BV), ER base X ms es → mapGet kd ms kb = some r →
    (r = none ∧ Instr.findNow desc kv es i = some none) ∨ (∃ v j x, r = some v ∧ Instr.findNow desc kv es i = some (some (j, x)) ∧ VR base X v x)
  | [], es, i, r, he, h => by
    cases he
    simp [mapGet] at h
    exact .inl ⟨h.symm, rfl⟩
  | (k', v') :: ms, es, i, r, he, h => by
    obtain ⟨e, es', rfl, h1, h2, h3⟩ := he
    unfold mapGet at h
    split at h
    · rename_i hq
      obtain ⟨s1, s2⟩ := sameNow_rel hd hk h1 hq
      simp at h
      subst h
      exact .inr ⟨v', i, e.val, rfl, by simp [Instr.findNow, s1], h2⟩
    · rename_i hq
      obtain ⟨s1, s2⟩ := sameNow_rel hd hk h1 hq
      rcases findNow_rel hd hk ms es' (i + 1) r h3 h with ⟨g1, g2⟩ | ⟨v, j, x, g1, g2, g3⟩
      · exact .inl ⟨g1, by simp [Instr.findNow, s1, g2]⟩
      · exact .inr ⟨v, j, x, g1, by simp [Instr.findNow, s1, g2], g3⟩
    · cases h

theorem mapSet_rel {desc : TypeDesc} {kd : Nat} (hd : KindOf desc kd) {kb vb : BV} {kv vv : Value} (hk : VR base X kb kv) (hv : VR base X vb vv) : ∀ (ms : List (BV × BV)) (es : List MapEntry) (i : Nat) (ms' : List (BV × BV)), ER base X ms es →
    mapSet kd ms kb vb = some ms' →
    (Instr.findNow desc kv es i = some none ∧ ∀ n, ER base X ms' (es ++ [⟨kv, vv, n⟩])) ∨
    (∃ j e, Instr.findNow desc kv es i = some (some (i + j, e.val)) ∧ es[j]? = some e ∧ e.key = kv ∧ ER base X ms' (es.modify j fun e => { e with key := kv, val := vv }))
  | [], es, i, ms', he, h => by
    cases he
    simp [mapSet] at h
    subst h
    exact .inl ⟨rfl, fun n => ⟨_, [], rfl, hk, hv, rfl⟩⟩
  | (k', v') :: ms, es, i, ms', he, h => by
    obtain ⟨e, es', rfl, h1, h2, h3⟩ := he
    unfold mapSet at h
    split at h
    · rename_i hq
      obtain ⟨s1, s2⟩ := sameNow_rel hd hk h1 hq
      simp at h
      subst h
      refine .inr ⟨0, e, by simp [Instr.findNow, s1], rfl, s2 rfl, ?_⟩
      exact ⟨_, es', rfl, hk, hv, h3⟩
    · rename_i hq
      obtain ⟨s1, s2⟩ := sameNow_rel hd hk h1 hq
      cases hm : mapSet kd ms kb vb with
      | none => simp [hm] at h
      | some ms'' =>
        simp [hm] at h
        subst h
        rcases mapSet_rel hd hk hv ms es' (i + 1) ms'' h3 hm with ⟨g1, g2⟩ | ⟨j, x, g1, g2, g3, g4⟩
        · exact .inl ⟨by simp [Instr.findNow, s1, g1], fun n => ⟨e, _, rfl, h1, h2, g2 n⟩⟩
        · exact .inr ⟨j + 1, x, by simp [Instr.findNow, s1, g1]; omega, by simpa using g2, g3, ⟨e, _, rfl, h1, h2, g4⟩⟩
    · cases h

theorem bytesB_rel : ∀ {cs : List BV} {vs : List Value} {xs : List Int}, VRL base X cs vs → bytesB cs = some xs → vs = xs.map (Value.int .u8)
  | [], _, _, rfl, h => by simp [bytesB] at h; subst h; rfl
  | c :: cs, _, xs, ⟨v, r, rfl, k, l⟩, h => by
    unfold bytesB at h
    split at h
    · rename_i e; cases e
    · rename_i n r' e
      cases e
      cases hq : bytesB cs with
      | none => rw [hq] at h; cases h
      | some ys =>
        rw [hq] at h
        simp at h
        subst h
        simp only [VR] at k
        rw [k, bytesB_rel l hq]
        rfl
    · cases h

theorem does_b2s {s d e : TypeId} {x : Operand} {y : Opd} (ho : o.op = .convert s d x) (hs : P.underlying s = some (.slice e)) (hd : P.underlying d = some .string) (he : P.underlying e = some (.int .u8)) (hy : opd x = some y)
    (hr : HR P base w0 X H w) (hρ : OR base X σ ρ) {nb : Nat} {v : BV} {H1 : BH} (h : op1 base nb σ H (.b2s e y) = some (v, H1)) : Does P base w0 X w o ρ v H1 := by
  have g1 := hρ x y hy
  simp only [op1] at h
  split at h
  · rename_i e1
    rw [e1] at g1
    simp only [VR] at g1
    simp at h
    obtain ⟨rfl, rfl⟩ := h
    refine .plain hr (v' := .string ByteArray.empty) ?_ rfl
    simp [execOp, ho, g1, run_convert_bytes_nil w s e hs he 0 0 d hd]
  · rename_i b i n e1
    rw [e1] at g1
    obtain ⟨r, cap, hX, e2, _⟩ := g1
    split at h
    · rename_i t cs hrow
      split at h
      · rename_i hcnd
        cases hq : bytesB ((cs.drop i).take n) with
        | none => rw [hq] at h; cases h
        | some xs =>
          rw [hq] at h
          simp at h
          obtain ⟨rfl, rfl⟩ := h
          obtain ⟨r', vs, hX', hvl, hcell, hrel⟩ := hr.cells hrow hcnd.2
          rw [hX] at hX'
          cases hX'
          have hvs := bytesB_rel hrel hq
          subst hvs
          simp at hvl
          refine .plain hr (v' := .string (strOfNums xs)) ?_ rfl
          have := run_convert_bytes_arg (P := P) w s e hs he r.blk i n cap xs hvl (fun j hj => by
            refine hcell j _ ?_
            simp [List.getElem?_eq_getElem (show j < xs.length by omega)]) d hd
          simp [execOp, ho, e2, this]
      · cases h
    · cases h
  · cases h

theorem does_look {t kt e kd : Nat} {i : TypeInfo} {z : Value} {okk : Bool} {x k : Operand} {x' k' : Opd} (ho : o.op = .lookup t x k okk) (hu : P.underlying t = some (.map kt e)) (hkd : keyKind P.underlying kt = some kd) (hi : P.info? e = some i) (hz : i.zero = some z)
    (hx : opd x = some x') (hk : opd k = some k') (hr : HR P base w0 X H w) (hρ : OR base X σ ρ) {nb : Nat} {v : BV} {H1 : BH} (h : op1 base nb σ H (.look kd okk (toB z) x' k') = some (v, H1)) : Does P base w0 X w o ρ v H1 := by
  have g1 := hρ x x' hx
  have g2 := hρ k k' hk
  obtain ⟨d, hd1, hd2⟩ := kindOf_of hkd
  simp only [op1] at h
  split at h
  · rename_i b e1
    rw [e1] at g1
    obtain ⟨r, hX, e2⟩ := g1
    split at h
    · rename_i ms hms
      have hrow := hr.row b
      rw [hms] at hrow
      obtain ⟨r', es, clk, hX', hh, hER, _⟩ := hrow
      rw [hX] at hX'
      cases hX'
      have hg : (getObj r.blk).run P w = .ok (.map es clk) w := by simp [getObj, Sem.run, hh]
      cases hm : mapGet kd ms (σ k') with
      | none => rw [hm] at h; cases h
      | some q =>
        rw [hm] at h
        simp at h
        obtain ⟨rfl, rfl⟩ := h
        have hck := run_checkKey (P := P) (w := w) hd1 hd2 es.isEmpty 9999 (ρ k)
        rcases findNow_rel hd2 g2 ms es.toList 0 q hER hm with ⟨rfl, g⟩ | ⟨u, j, xv, rfl, g, gv⟩
        · refine .plain hr (v' := if okk then .tuple #[z, .bool false] else z) ?_ ?_
          · simp [execOp, ho, e2, Instr.lookup, run_underlying hu, hg, hck, Instr.findKey, run_underlying hd1, g, zeroValue, typeInfo, hi, hz]
          · cases okk
            · exact VR_toB z
            · exact ⟨_, rfl, _, _, rfl, VR_toB z, _, _, rfl, rfl, rfl⟩
        · refine .plain hr (v' := if okk then .tuple #[xv, .bool true] else xv) ?_ ?_
          · simp [execOp, ho, e2, Instr.lookup, run_underlying hu, hg, hck, Instr.findKey, run_underlying hd1, g]
          · cases okk
            · exact gv
            · exact ⟨_, rfl, _, _, rfl, gv, _, _, rfl, rfl, rfl⟩
    · cases h
  · cases h

theorem does_mset {t kt e kd : Nat} {x k y : Operand} {x' k' y' : Opd} (ho : o.op = .mapUpdate t x k y ∨ o.op = .insert t x k y) (hu : P.underlying t = some (.map kt e)) (hkd : keyKind P.underlying kt = some kd)
    (hx : opd x = some x') (hk : opd k = some k') (hy : opd y = some y') (hr : HR P base w0 X H w) (hρ : OR base X σ ρ) {nb : Nat} {v : BV} {H1 : BH} (h : op1 base nb σ H (.mset kd x' k' y') = some (v, H1)) : Does P base w0 X w o ρ v H1 := by
  have g1 := hρ x x' hx
  have g2 := hρ k k' hk
  have g3 := hρ y y' hy
  obtain ⟨d, hd1, hd2⟩ := kindOf_of hkd
  simp only [op1] at h
  split at h
  · rename_i b e1
    rw [e1] at g1
    obtain ⟨r, hX, e2⟩ := g1
    split at h
    · rename_i ms hms
      split at h
      · rename_i hbase
        have hrow := hr.row b
        rw [hms] at hrow
        obtain ⟨r', es, clk, hX', hh, hER, hlow⟩ := hrow
        rw [hX] at hX'
        cases hX'
        have hg : (getObj r.blk).run P w = .ok (.map es clk) w := by simp [getObj, Sem.run, hh]
        have hlt := (Array.getElem?_eq_some_iff.1 hh).1
        cases hm : mapSet kd ms (σ k') (σ y') with
        | none => rw [hm] at h; cases h
        | some ms' =>
          rw [hm] at h
          simp at h
          obtain ⟨rfl, rfl⟩ := h
          have hck := run_checkKey (P := P) (w := w) hd1 hd2 false 9999 (ρ k)
          have fin : ∀ (es' : Array MapEntry) (clk' : Nat), (Instr.mapUpdate t (ρ x) (ρ k) (ρ y)).run P w = .ok () { w with heap := w.heap.setIfInBounds r.blk (.map es' clk') } → ER base X ms' es'.toList → Does P base w0 X w o ρ (.tup []) (H.set b (.mp ms')) := by
            intro es' clk' hrun hER'
            refine ⟨.skip, _, X, undef, ?_, .inr ⟨rfl, rfl⟩, Tie.le_refl X, ⟨#[], rfl, rfl⟩, hr.write (w' := { w with heap := w.heap.setIfInBounds r.blk (.map es' clk') }) (by rw [hms]; rfl) hX
              (ext_block hr.ext rfl rfl rfl (by simp) fun j hj => ?_) (fun j _ hj => ?_) rfl ⟨r, es', clk', hX, ?_, hER', hlow⟩⟩
            · rcases ho with ho | ho <;> simp [execOp, ho, hrun]
            · have := hlow hbase
              simp [Array.getElem?_setIfInBounds, show r.blk ≠ j by omega]
            · simp [Array.getElem?_setIfInBounds, Ne.symm hj]
            · simp [hlt]
          have hset : ∀ ob, (setObj r.blk ob).run P w = .ok () { w with heap := w.heap.setIfInBounds r.blk ob } := by
            intro ob
            simp [setObj, Sem.run, hh]
          rcases mapSet_rel hd2 g2 g3 ms es.toList 0 ms' hER hm with ⟨f1, f2⟩ | ⟨j, en, f1, f2, f3, f4⟩
          · refine fin (es.push ⟨ρ k, ρ y, clk⟩) (clk + 1) ?_ (by simpa using f2 clk)
            simp [Instr.mapUpdate, e2, run_underlying hu, hg, hck, Instr.findKey, run_underlying hd1, f1, hset]
          · have hj : es[j]? = some en := by simpa using f2
            refine fin (es.modify j fun e => { e with key := ρ k, val := ρ y }) clk ?_ (by simpa using f4)
            have hsame : Instr.sameBits 10000 (ρ k) (ρ k) = true := by
              have hq : ∃ q r, keyEq kd (σ k') q = some r := by
                clear fin hset f1 f4 f2
                revert hm hER
                cases ms with
                | nil =>
                  intro hER _
                  have : es.toList = [] := hER
                  have h0 : es.size = 0 := by rw [← Array.length_toList, this]; rfl
                  have := (Array.getElem?_eq_some_iff.1 hj).1
                  omega
                | cons p ms =>
                  intro _ hm
                  unfold mapSet at hm
                  split at hm
                  · rename_i hq; exact ⟨_, _, hq⟩
                  · rename_i hq; exact ⟨_, _, hq⟩
                  · cases hm
              obtain ⟨q, r, hq⟩ := hq
              rcases keyEq_elim hq with ⟨k1, a, b, e, _⟩ | ⟨a, b, e, _⟩ | ⟨a, b, e, _⟩
              · rw [e] at g2
                have g2 : ρ k = .int k1 a := g2
                simp [g2, Instr.sameBits]
              · rw [e] at g2
                have g2 : ρ k = .string a := g2
                simp [g2, Instr.sameBits, bytes_beq_self]
              · rw [e] at g2
                have g2 : ρ k = .bool a := g2
                simp [g2, Instr.sameBits]
            simp [Instr.mapUpdate, e2, run_underlying hu, hg, hck, Instr.findKey, run_underlying hd1, f1, hset, hj, f3, Instr.keyThatStays, hsame]
      · cases h
    · cases h
  · cases h

end
end Go.B
