/-
What the machine B's operations do, the model's do: maps and appends.
-/
import Derived.Test.YtkgjipjkffjlhaaDoorB9
import Derived.Laws.BytesArg
import Derived.ChangeKeysEq
namespace Go.B
set_option linter.unusedVariables false
set_option linter.unusedSimpArgs false

section
variable {P : Program} {base : Nat} {w0 w : World} {X : Tie} {H : BH} {o : Oper} {ρ : Operand → Value} {σ : Opd → BV}

theorem ext_block {w0 w w' : World} (h : w0.Extends w) (ho : w'.os = w.os) (ht : w'.tape = w.tape) (hp : w'.output = w.output) (hs : w.heap.size ≤ w'.heap.size) (hb : ∀ k, k < w0.heap.size → w'.heap[k]? = w.heap[k]?) : w0.Extends w' := by
  have hb' : ∀ k, k < w0.heap.size → w'.heap[k]? = w0.heap[k]? := fun k hk => (hb k hk).trans (h.block k hk)
  exact ⟨ho.trans h.os, ht.trans h.tape, hp.trans h.output, Nat.le_trans h.size hs, fun a ha => World.cell?_of_block (hb' a.block ha), fun a ha => World.frozen?_of_block (hb' a.block ha), hb'⟩

theorem bytes_eq_of_beq {a b : ByteArray} (h : (a == b) = true) : a = b := by
  rw [beq_toListBytes, ByteArray.toList_eq, ByteArray.toList_eq] at h
  obtain ⟨⟨x⟩⟩ := a
  obtain ⟨⟨y⟩⟩ := b
  have : x = y := by simpa using h
  rw [this]
theorem bytes_beq_self (a : ByteArray) : (a == a) = true := by
  rw [beq_toListBytes]
  simp

def KindOf (desc : TypeDesc) (kd : Nat) : Prop := (∃ k, desc = .int k ∧ kd = 0) ∨ (desc = .string ∧ kd = 1) ∨ (desc = .bool ∧ kd = 2)

theorem kindOf_of {t kd : Nat} (h : keyKind P.underlying t = some kd) : ∃ d, P.underlying t = some d ∧ KindOf d kd := by
  rcases keyKind_elim h with ⟨k, h1, rfl⟩ | ⟨h1, rfl⟩ | ⟨h1, rfl⟩
  · exact ⟨_, h1, .inl ⟨k, rfl, rfl⟩⟩
  · exact ⟨_, h1, .inr (.inl ⟨rfl, rfl⟩)⟩
  · exact ⟨_, h1, .inr (.inr ⟨rfl, rfl⟩)⟩

theorem run_checkKey {t : Nat} {d : TypeDesc} {kd : Nat} (hu : P.underlying t = some d) (hd : KindOf d kd) (e : Bool) (n : Nat) (v : Value) : (Instr.checkKey e (n + 1) t v).run P w = .ok () w := by
  rcases hd with ⟨k, rfl, _⟩ | ⟨rfl, _⟩ | ⟨rfl, _⟩ <;> cases v <;> simp [Instr.checkKey, run_underlying hu]

theorem sameNow_rel {desc : TypeDesc} {kd : Nat} (hd : KindOf desc kd) {a b : BV} {u v : Value} (ha : VR base X a u) (hb : VR base X b v) {r : Bool} (h : keyEq kd a b = some r) : Instr.sameNow desc u v = some r ∧ (r = true → v = u) := by
  rcases keyEq_elim h with ⟨k, x, y, rfl, rfl, rfl, rfl⟩ | ⟨x, y, rfl, rfl, rfl, rfl⟩ | ⟨x, y, rfl, rfl, rfl, rfl⟩
  · have ha : u = .int k x := ha
    have hb : v = .int k y := hb
    subst ha; subst hb
    rcases hd with ⟨k', rfl, _⟩ | ⟨_, he⟩ | ⟨_, he⟩
    · exact ⟨by simp [Instr.sameNow], fun e => by simp at e; rw [e]⟩
    · simp at he
    · simp at he
  · have ha : u = .string x := ha
    have hb : v = .string y := hb
    subst ha; subst hb
    rcases hd with ⟨k', _, he⟩ | ⟨rfl, _⟩ | ⟨_, he⟩
    · simp at he
    · exact ⟨by simp [Instr.sameNow], fun e => by rw [bytes_eq_of_beq e]⟩
    · simp at he
  · have ha : u = .bool x := ha
    have hb : v = .bool y := hb
    subst ha; subst hb
    rcases hd with ⟨k', _, he⟩ | ⟨_, he⟩ | ⟨rfl, _⟩
    · simp at he
    · simp at he
    · exact ⟨by simp [Instr.sameNow], fun e => by simp at e; rw [e]⟩

theorem keyEqM_prim {kd : Nat} {desc : TypeDesc} (hd : KindOf desc kd) {a b : BV} {r : Bool} (h : keyEqM kd a b = some r) : keyEq kd a b = some r := by
  unfold keyEqM at h
  split at h
  · split at h
    · rename_i hc
      rcases hd with ⟨_, _, e⟩ | ⟨_, e⟩ | ⟨_, e⟩ <;> omega
    · cases h
  · exact h

theorem findNow_rel {desc : TypeDesc} {kd : Nat} (hd : KindOf desc kd) {kb : BV} {kv : Value} (hk : VR base X kb kv) : ∀ (ms : List (BV × BV)) (es : List MapEntry) (i : Nat) (r : Option BV), ER base X ms es → mapGet kd ms kb = some r →
    (r = none ∧ Instr.findNow desc kv es i = some none) ∨ (∃ v j x, r = some v ∧ Instr.findNow desc kv es i = some (some (j, x)) ∧ VR base X v x)
  | [], es, i, r, he, h => by
    cases he
    simp [mapGet] at h
    exact .inl ⟨h.symm, rfl⟩
  | (k', v') :: ms, es, i, r, he, h => by
    obtain ⟨e, es', rfl, h1, h2, h3⟩ := he
    unfold mapGet at h
    split at h
    · rename_i hq
      obtain ⟨s1, s2⟩ := sameNow_rel hd hk h1 (keyEqM_prim hd hq)
      simp at h
      subst h
      exact .inr ⟨v', i, e.val, rfl, by simp [Instr.findNow, s1], h2⟩
    · rename_i hq
      obtain ⟨s1, s2⟩ := sameNow_rel hd hk h1 (keyEqM_prim hd hq)
      rcases findNow_rel hd hk ms es' (i + 1) r h3 h with ⟨g1, g2⟩ | ⟨v, j, x, g1, g2, g3⟩
      · exact .inl ⟨g1, by simp [Instr.findNow, s1, g2]⟩
      · exact .inr ⟨v, j, x, g1, by simp [Instr.findNow, s1, g2], g3⟩
    · cases h

theorem mapSet_rel {desc : TypeDesc} {kd : Nat} (hd : KindOf desc kd) {kb vb : BV} {kv vv : Value} (hk : VR base X kb kv) (hv : VR base X vb vv) : ∀ (ms : List (BV × BV)) (es : List MapEntry) (i : Nat) (ms' : List (BV × BV)), ER base X ms es →
    mapSet kd ms kb vb = some ms' →
    (Instr.findNow desc kv es i = some none ∧ ∀ n, ER base X ms' (es ++ [⟨kv, vv, n⟩])) ∨
    (∃ j e, Instr.findNow desc kv es i = some (some (i + j, e.val)) ∧ es[j]? = some e ∧ e.key = kv ∧ ER base X ms' (es.modify j fun e => { e with key := kv, val := vv }) ∧ ∃ kb', keyEqM kd kb kb' = some true)
  | [], es, i, ms', he, h => by
    cases he
    simp [mapSet] at h
    subst h
    exact .inl ⟨rfl, fun n => ⟨_, [], rfl, hk, hv, rfl⟩⟩
  | (k', v') :: ms, es, i, ms', he, h => by
    obtain ⟨e, es', rfl, h1, h2, h3⟩ := he
    unfold mapSet at h
    split at h
    · rename_i hq
      obtain ⟨s1, s2⟩ := sameNow_rel hd hk h1 (keyEqM_prim hd hq)
      simp at h
      subst h
      refine .inr ⟨0, e, by simp [Instr.findNow, s1], rfl, s2 rfl, ?_⟩
      exact ⟨⟨_, es', rfl, hk, hv, h3⟩, _, hq⟩
    · rename_i hq
      obtain ⟨s1, s2⟩ := sameNow_rel hd hk h1 (keyEqM_prim hd hq)
      cases hm : mapSet kd ms kb vb with
      | none => simp [hm] at h
      | some ms'' =>
        simp [hm] at h
        subst h
        rcases mapSet_rel hd hk hv ms es' (i + 1) ms'' h3 hm with ⟨g1, g2⟩ | ⟨j, x, g1, g2, g3, g4, g5⟩
        · exact .inl ⟨by simp [Instr.findNow, s1, g1], fun n => ⟨e, _, rfl, h1, h2, g2 n⟩⟩
        · exact .inr ⟨j + 1, x, by simp [Instr.findNow, s1, g1]; omega, by simpa using g2, g3, ⟨e, _, rfl, h1, h2, g4⟩, g5⟩
    · cases h

/-- The list of whole numbers, read as fields. -/
theorem ints_get {d : Nat} : ∀ {xs ys : List BV} {us vs : List Value} {r : Bool}, VRL base X xs us → VRL base X ys vs → intsEq xs ys = some r → (r = true → vs = us) ∧ xs.length = us.length ∧ ys.length = vs.length
  | [], [], us, vs, r, hx, hy, h => by
    cases hx; cases hy
    exact ⟨fun _ => rfl, rfl, rfl⟩
  | x :: xs, y :: ys, us, vs, r, hx, hy, h => by
    obtain ⟨u, us', rfl, hu, hx'⟩ := hx
    obtain ⟨v, vs', rfl, hv, hy'⟩ := hy
    refine ⟨?_, by simp [hx'.len], by simp [hy'.len]⟩
    intro hr
    subst hr
    unfold intsEq at h
    split at h
    · rename_i e; cases e
    · rename_i k a xs0 k' b ys0 e1 e2
      cases e1; cases e2
      split at h
      · rename_i hk
        subst hk
        split at h
        · rename_i hab
          have hu : u = .int k a := hu
          have hv : v = .int k b := hv
          have : a = b := by simpa using hab
          subst this
          rw [hu, hv, (ints_get (d := d) hx' hy' h).1 rfl]
        · cases h
      · cases h
    · cases h
  | [], _ :: _, _, _, _, _, _, h => by simp [intsEq] at h
  | _ :: _, [], _, _, _, _, _, h => by simp [intsEq] at h

theorem fields_ints {d : Nat} : ∀ (fs : List Field) (i : Nat) (xs ys : List BV) (us vs : Array Value) (r : Bool), fieldInts P.underlying i fs = true → VRL base X xs (us.toList.drop i) → VRL base X ys (vs.toList.drop i) → xs.length = fs.length →
    intsEq xs ys = some r → (Op.eqFields (d + 1) us vs fs).run P w = .ok r w
  | [], i, xs, ys, us, vs, r, hf, hx, hy, hl, h => by
    have : xs = [] := List.eq_nil_of_length_eq_zero hl
    subst this
    cases ys with
    | nil => simp [intsEq] at h; subst h; rfl
    | cons y ys => simp [intsEq] at h
  | f :: fs, i, xs, ys, us, vs, r, hf, hx, hy, hl, h => by
    simp only [fieldInts, Bool.and_eq_true] at hf
    obtain ⟨⟨⟨h1, h2⟩, h3⟩, h4⟩ := hf
    have ht : ∃ k, P.underlying f.type = some (.int k) := by
      split at h1
      · rename_i k hk; exact ⟨k, hk⟩
      · cases h1
    obtain ⟨kt, ht⟩ := ht
    have hn : f.name ≠ "_" := by simpa using h2
    have ho : f.offset = i := by simpa using h3
    cases xs with
    | nil => simp at hl
    | cons x xs =>
      cases ys with
      | nil => simp [intsEq] at h
      | cons y ys =>
        obtain ⟨u, us', eu, hu, hx'⟩ := hx
        obtain ⟨v, vs', ev, hv, hy'⟩ := hy
        have gu : us[i]? = some u := by
          have := congrArg List.head? eu
          rw [List.head?_drop] at this
          simpa using this
        have gv : vs[i]? = some v := by
          have := congrArg List.head? ev
          rw [List.head?_drop] at this
          simpa using this
        have du : us.toList.drop (i + 1) = us' := by rw [← List.tail_drop, eu]; rfl
        have dv : vs.toList.drop (i + 1) = vs' := by rw [← List.tail_drop, ev]; rfl
        have s1 : (part f.type us f.offset).run P w = .ok u w := by simp [part, isAgg, run_underlying ht, ho, gu]
        have s2 : (part f.type vs f.offset).run P w = .ok v w := by simp [part, isAgg, run_underlying ht, ho, gv]
        unfold intsEq at h
        split at h
        · rename_i e _; cases e
        · rename_i k a xs0 k' b ys0 e1 e2
          cases e1; cases e2
          split at h
          · rename_i hk
            subst hk
            have hu : u = .int k a := hu
            have hv : v = .int k b := hv
            subst hu; subst hv
            have s3 := run_equalIn_int (P := P) w d f.type k kt a b ht
            split at h
            · rename_i hab
              rw [hab] at s3
              simp only [Op.eqFields, ne_eq, hn, not_false_eq_true, if_true, Sem.run_bind, s1, s2, s3, Result.andThen_ok, Bool.not_true, Bool.false_eq_true, if_false]
              exact fields_ints fs (i + 1) xs ys us vs r h4 (by rw [du]; exact hx') (by rw [dv]; exact hy') (by simpa using hl) h
            · rename_i hab
              have hab : (a == b) = false := by simpa using hab
              rw [hab] at s3
              simp only [Option.some.injEq] at h
              subst h
              simp only [Op.eqFields, ne_eq, hn, not_false_eq_true, if_true, Sem.run_bind, s1, s2, s3, Result.andThen_ok, Bool.not_false, Sem.run_pure]
          · cases h
        · cases h

theorem items_ints {d e : Nat} {kt : IntKind} {c : Nat} (ht : P.underlying e = some (.int kt)) (hc : c = 1) : ∀ (n i : Nat) (xs ys : List BV) (us vs : Array Value) (r : Bool), VRL base X xs (us.toList.drop i) → VRL base X ys (vs.toList.drop i) → xs.length = n →
    intsEq xs ys = some r → (Op.eqItems (d + 1) e c us vs (List.range' i n)).run P w = .ok r w
  | 0, i, xs, ys, us, vs, r, hx, hy, hl, h => by
    have : xs = [] := List.eq_nil_of_length_eq_zero hl
    subst this
    cases ys with
    | nil => simp [intsEq] at h; subst h; rfl
    | cons y ys => simp [intsEq] at h
  | n + 1, i, xs, ys, us, vs, r, hx, hy, hl, h => by
    cases xs with
    | nil => simp at hl
    | cons x xs =>
      cases ys with
      | nil => simp [intsEq] at h
      | cons y ys =>
        obtain ⟨u, us', eu, hu, hx'⟩ := hx
        obtain ⟨v, vs', ev, hv, hy'⟩ := hy
        have gu : us[i]? = some u := by
          have := congrArg List.head? eu
          rw [List.head?_drop] at this
          simpa using this
        have gv : vs[i]? = some v := by
          have := congrArg List.head? ev
          rw [List.head?_drop] at this
          simpa using this
        have du : us.toList.drop (i + 1) = us' := by rw [← List.tail_drop, eu]; rfl
        have dv : vs.toList.drop (i + 1) = vs' := by rw [← List.tail_drop, ev]; rfl
        have s1 : (part e us (i * c)).run P w = .ok u w := by simp [part, isAgg, run_underlying ht, hc, gu]
        have s2 : (part e vs (i * c)).run P w = .ok v w := by simp [part, isAgg, run_underlying ht, hc, gv]
        unfold intsEq at h
        split at h
        · rename_i e _; cases e
        · rename_i k a xs0 k' b ys0 e1 e2
          cases e1; cases e2
          split at h
          · rename_i hk
            subst hk
            have hu : u = .int k a := hu
            have hv : v = .int k b := hv
            subst hu; subst hv
            have s3 := run_equalIn_int (P := P) w d e k kt a b ht
            rw [List.range'_succ]
            split at h
            · rename_i hab
              rw [hab] at s3
              simp only [Op.eqItems, Sem.run_bind, s1, s2, s3, Result.andThen_ok, Bool.not_true, Bool.false_eq_true, if_false]
              exact items_ints ht hc n (i + 1) xs ys us vs r (by rw [du]; exact hx') (by rw [dv]; exact hy') (by simpa using hl) h
            · rename_i hab
              have hab : (a == b) = false := by simpa using hab
              rw [hab] at s3
              simp only [Option.some.injEq] at h
              subst h
              simp only [Op.eqItems, Sem.run_bind, s1, s2, s3, Result.andThen_ok, Bool.not_false, if_true, Sem.run_pure]
          · cases h
        · cases h

theorem keyKindM_elim {sq : Nat → Bool} {t kd : Nat} (h : keyKindM P.underlying P.info? sq t = some kd) :
    (∃ d, P.underlying t = some d ∧ KindOf d kd) ∨ (∃ fs, P.underlying t = some (.struct fs) ∧ sq t = true ∧ fieldInts P.underlying 0 fs.toList = true ∧ kd = fs.size + 3) ∨
    (∃ n e k i, P.underlying t = some (.array n e) ∧ P.underlying e = some (.int k) ∧ P.info? e = some i ∧ i.size = 1 ∧ kd = n + 3) := by
  unfold keyKindM at h
  split at h
  · rename_i fs hu
    split at h
    · rename_i hc
      exact .inr (.inl ⟨fs, hu, hc.1, hc.2, (Option.some.inj h).symm⟩)
    · cases h
  · rename_i n e hu
    split at h
    · rename_i k i h1 h2
      split at h
      · rename_i h3
        exact .inr (.inr ⟨n, e, k, i, hu, h1, h2, h3, (Option.some.inj h).symm⟩)
      · cases h
    · cases h
  · exact .inl (kindOf_of h)
theorem kind_lt {d : TypeDesc} {kd : Nat} (h : KindOf d kd) : kd < 3 := by rcases h with ⟨_, _, h⟩ | ⟨_, h⟩ | ⟨_, h⟩ <;> omega
theorem keyOk_agg {kd n : Nat} {k : BV} (h : keyOk kd k = true) (hn : kd = n + 3) : ∃ xs, k = .agg xs ∧ xs.length = n := by
  subst hn
  unfold keyOk at h
  rw [if_neg (by omega)] at h
  split at h
  · rename_i xs; exact ⟨xs, rfl, by simpa using h⟩
  · cases h

theorem run_checkKeyM {sq : Nat → Bool} {t kd : Nat} (h : keyKindM P.underlying P.info? sq t = some kd) (em : Bool) (n : Nat) {kb : BV} {kv : Value} (hv : VR base X kb kv) (ho : keyOk kd kb = true) : (Instr.checkKey em (n + 2) t kv).run P w = .ok () w := by
  rcases keyKindM_elim h with ⟨d, h1, h2⟩ | ⟨fs, hu, _, hf, hkd⟩ | ⟨m, e, k, i, hu, he, hi, hi1, hkd⟩
  · exact run_checkKey h1 h2 em (n + 1) kv
  · obtain ⟨xs, rfl, hl⟩ := keyOk_agg ho hkd
    obtain ⟨us, rfl, hx⟩ := hv
    have hlen : us.toList.length = fs.toList.length := by rw [← hx.len, hl]; simp
    rw [show n + 2 = (n + 1) + 1 from rfl, Instr.checkKey]
    simp only [Sem.run_bind, run_underlying hu, Result.andThen_ok]
    rw [← Array.forIn_toList]
    have hj0 : ∃ j, fieldInts P.underlying j fs.toList = true ∧ j + fs.toList.length ≤ us.toList.length := ⟨0, hf, by omega⟩
    clear hf hlen
    generalize fs.toList = L at hj0
    induction L with
    | nil => simp
    | cons f L ih =>
      obtain ⟨j, hj, hlen⟩ := hj0
      simp only [fieldInts, Bool.and_eq_true] at hj
      obtain ⟨⟨⟨g1, g2⟩, g3⟩, g4⟩ := hj
      obtain ⟨kt, ht⟩ : ∃ k, P.underlying f.type = some (.int k) := by
        split at g1
        · rename_i k hk; exact ⟨k, hk⟩
        · cases g1
      have hn : f.name ≠ "_" := by simpa using g2
      have ho : f.offset = j := by simpa using g3
      simp only [List.length_cons] at hlen
      have hlt : j < us.size := by simpa using (show j < us.toList.length by omega)
      have s1 : (part f.type us f.offset).run P w = .ok us[j] w := by simp [part, isAgg, run_underlying ht, ho, Array.getElem?_eq_getElem hlt]
      have s2 : (Instr.checkKey em (n + 1) f.type us[j]).run P w = .ok () w := run_checkKey ht (.inl ⟨kt, rfl, rfl⟩) em n _
      simp only [List.forIn_cons, Sem.run_bind, hn, ne_eq, not_false_eq_true, if_true, Result.andThen_ok, s1, s2, Sem.run_pure]
      exact ih ⟨j + 1, g4, by omega⟩
  · obtain ⟨xs, rfl, hl⟩ := keyOk_agg ho hkd
    obtain ⟨us, rfl, hx⟩ := hv
    have hlen : us.size = m := by rw [← Array.length_toList, ← hx.len, hl]
    rw [show n + 2 = (n + 1) + 1 from rfl, Instr.checkKey]
    simp only [Sem.run_bind, run_underlying hu, Result.andThen_ok]
    simp only [Std.Legacy.Range.forIn_eq_forIn_range', Std.Legacy.Range.size, Nat.sub_zero, Nat.add_one_sub_one, Nat.div_one]
    have hall : ∀ j ∈ List.range' 0 m, j < us.size := by
      intro j hj
      have := List.mem_range'_1.1 hj
      omega
    generalize List.range' 0 m = is at hall
    induction is with
    | nil => simp
    | cons j is ih =>
      have hlt : j < us.size := hall j (by simp)
      have hsz : (sizeOf e).run P w = .ok i.size w := by simp [sizeOf, typeInfo, hi]
      have s1 : (part e us (j * i.size)).run P w = .ok us[j] w := by simp [part, isAgg, run_underlying he, hi1, Array.getElem?_eq_getElem hlt]
      have s2 : (Instr.checkKey em (n + 1) e us[j]).run P w = .ok () w := run_checkKey he (.inl ⟨k, rfl, rfl⟩) em n _
      simp only [List.forIn_cons, Sem.run_bind, hsz, Result.andThen_ok, s1, s2, Sem.run_pure]
      exact ih fun y hy => hall y (by simp [hy])

/-- Keys that are of several whole numbers are compared as the machine compares them. -/
theorem equalM_rel {sq : Nat → Bool} (hsq : ∀ t, sq t = true → P.stoodInHeld t = false ∧ P.eqGuardType P.depth t = false) {t kd : Nat} (h : keyKindM P.underlying P.info? sq t = some kd) (h3 : 3 ≤ kd) {a b : BV} {u v : Value} (ha : VR base X a u) (hb : VR base X b v) {r : Bool} (hr : keyEqM kd a b = some r) :
    (Op.equal t u v).run P w = .ok r w ∧ (r = true → v = u) := by
  have hag : ∃ xs ys, a = .agg xs ∧ b = .agg ys ∧ xs.length + 3 = kd ∧ ys.length + 3 = kd ∧ intsEq xs ys = some r := by
    unfold keyEqM at hr
    split at hr
    · rename_i xs ys
      split at hr
      · rename_i hc; exact ⟨xs, ys, rfl, rfl, hc.1, hc.2, hr⟩
      · cases hr
    · rcases keyEq_elim hr with ⟨_, _, _, _, _, _, e⟩ | ⟨_, _, _, _, _, e⟩ | ⟨_, _, _, _, _, e⟩ <;> omega
  obtain ⟨xs, ys, rfl, rfl, hl1, hl2, hi⟩ := hag
  obtain ⟨us, rfl, hx⟩ := ha
  obtain ⟨vs, rfl, hy⟩ := hb
  refine ⟨?_, fun e => ?_⟩
  · rcases keyKindM_elim h with ⟨d, h1, h2⟩ | ⟨fs, hu, hs, hf, hkd⟩ | ⟨m, e, k, i, hu, he, hin, hi1, hkd⟩
    · have := kind_lt h2; omega
    · have hfs : P.fieldsOf t = fs := by simp [Program.fieldsOf, hu]
      have g := run_equalIn_struct (P := P) w 9999 t us vs (by rw [hfs]; exact hu) (hsq t hs).1
      rw [hfs, fields_ints (d := 9998) fs.toList 0 xs ys us vs r hf (by simpa using hx) (by simpa using hy) (by simp; omega) hi] at g
      exact g
    · have hc : P.cellsOf e = 1 := by simp [Program.cellsOf, hin, hi1]
      have g := run_equalIn_array (P := P) (w := w) 9999 us vs hu hin
      rw [List.range_eq_range', items_ints (d := 9998) he hc m 0 xs ys us vs r (by simpa using hx) (by simpa using hy) (by omega) hi] at g
      exact g
  · have := (ints_get (d := 0) hx hy hi).1 e
    rw [Array.toList_inj.1 this]

theorem findKey_rel {sq : Nat → Bool} (hsq : ∀ t, sq t = true → P.stoodInHeld t = false ∧ P.eqGuardType P.depth t = false) {t kd : Nat} (hkd : keyKindM P.underlying P.info? sq t = some kd) {kb : BV} {kv : Value} (hk : VR base X kb kv) (ms : List (BV × BV)) (es : List MapEntry) (r : Option BV) (hE : ER base X ms es) (h : mapGet kd ms kb = some r) :
    (r = none ∧ (Instr.findKey t kv es).run P w = .ok none w) ∨ (∃ v j x, r = some v ∧ (Instr.findKey t kv es).run P w = .ok (some (j, x)) w ∧ VR base X v x) := by
  by_cases h3 : 3 ≤ kd
  · have hask : ∀ (ms : List (BV × BV)) (es : List MapEntry) (i : Nat), ER base X ms es → mapGet kd ms kb = some r →
        (r = none ∧ (Instr.findAsking t kv es i).run P w = .ok none w) ∨ (∃ v j x, r = some v ∧ (Instr.findAsking t kv es i).run P w = .ok (some (j, x)) w ∧ VR base X v x) := by
      intro ms
      induction ms with
      | nil => intro es i he h; cases he; simp [mapGet] at h; exact .inl ⟨h.symm, by simp [Instr.findAsking]⟩
      | cons p ms ih =>
        obtain ⟨k', v'⟩ := p
        intro es i he h
        obtain ⟨e, es', rfl, h1, h2, h3'⟩ := he
        unfold mapGet at h
        split at h
        · rename_i hq
          obtain ⟨s1, s2⟩ := equalM_rel (w := w) hsq hkd h3 hk h1 hq
          simp at h
          subst h
          exact .inr ⟨v', i, e.val, rfl, by simp [Instr.findAsking, s1], h2⟩
        · rename_i hq
          obtain ⟨s1, s2⟩ := equalM_rel (w := w) hsq hkd h3 hk h1 hq
          rcases ih es' (i + 1) h3' h with ⟨g1, g2⟩ | ⟨v, j, x, g1, g2, g3⟩
          · exact .inl ⟨g1, by simp [Instr.findAsking, s1, g2]⟩
          · exact .inr ⟨v, j, x, g1, by simp [Instr.findAsking, s1, g2], g3⟩
        · cases h
    have hnow : ∀ d, P.underlying t = some d → es ≠ [] → Instr.findNow d kv es 0 = none := by
      intro d hd hne
      cases es with
      | nil => exact absurd rfl hne
      | cons e es =>
        have : Instr.sameNow d kv e.key = none := by
          rcases keyKindM_elim hkd with ⟨d', h1, h2⟩ | ⟨fs, hu, _, _, _⟩ | ⟨m, e', k, i, hu, _, _, _, _⟩
          · have := kind_lt h2; omega
          · rw [hu] at hd; cases hd; rfl
          · rw [hu] at hd; cases hd; rfl
        simp [Instr.findNow, this]
    obtain ⟨d, hd⟩ : ∃ d, P.underlying t = some d := by
      rcases keyKindM_elim hkd with ⟨d', h1, _⟩ | ⟨fs, hu, _⟩ | ⟨m, e', k, i, hu, _⟩
      · exact ⟨_, h1⟩
      · exact ⟨_, hu⟩
      · exact ⟨_, hu⟩
    by_cases hne : es = []
    · subst hne
      have : ms = [] := by
        cases ms with
        | nil => rfl
        | cons p ms => obtain ⟨e, es', e1, _⟩ := hE; cases e1
      subst this
      simp [mapGet] at h
      exact .inl ⟨h.symm, by simp [Instr.findKey, run_underlying hd, Instr.findNow]⟩
    · have g := hask ms es 0 hE h
      simpa [Instr.findKey, run_underlying hd, hnow d hd hne] using g
  · rcases keyKindM_elim hkd with ⟨d, h1, h2⟩ | ⟨fs, _, _, _, e⟩ | ⟨m, _, _, _, _, _, _, _, e⟩
    · rcases findNow_rel h2 hk ms es 0 r hE h with ⟨g1, g2⟩ | ⟨v, j, x, g1, g2, g3⟩
      · exact .inl ⟨g1, by simp [Instr.findKey, run_underlying h1, g2]⟩
      · exact .inr ⟨v, j, x, g1, by simp [Instr.findKey, run_underlying h1, g2], g3⟩
    · omega
    · omega

theorem sameBits_ints : ∀ {xs ys : List BV} {us : List Value}, VRL base X xs us → intsEq xs ys = some true → (us.zip us).all (fun (x, y) => Instr.sameBits 9999 x y) = true
  | [], _, us, h, _ => by cases h; rfl
  | x :: xs, [], _, _, h => by simp [intsEq] at h
  | x :: xs, y :: ys, us, hx, h => by
    obtain ⟨u, us', rfl, hu, hx'⟩ := hx
    unfold intsEq at h
    split at h
    · rename_i e; cases e
    · rename_i k a xs0 k' b ys0 e1 e2
      cases e1; cases e2
      split at h
      · split at h
        · have hu : u = .int k a := hu
          subst hu
          simp only [List.zip_cons_cons, List.all_cons, sameBits_ints hx' h, Bool.and_true]
          simp [Instr.sameBits]
        · cases h
      · cases h
    · cases h
theorem sameBits_key {kd : Nat} {a b : BV} {u : Value} (ha : VR base X a u) (h : keyEqM kd a b = some true) : Instr.sameBits 10000 u u = true := by
  unfold keyEqM at h
  split at h
  · rename_i xs ys
    split at h
    · obtain ⟨us, rfl, hx⟩ := ha
      have := sameBits_ints hx h
      rw [show (10000 : Nat) = 9999 + 1 from rfl]
      simp only [Instr.sameBits, beq_self_eq_true, Bool.true_and]
      exact this
    · cases h
  · rcases keyEq_elim h with ⟨k1, x, y, rfl, _⟩ | ⟨x, y, rfl, _⟩ | ⟨x, y, rfl, _⟩
    · have ha : u = .int k1 x := ha
      simp [ha, Instr.sameBits]
    · have ha : u = .string x := ha
      simp [ha, Instr.sameBits, bytes_beq_self]
    · have ha : u = .bool x := ha
      simp [ha, Instr.sameBits]

theorem setKey_rel {sq : Nat → Bool} (hsq : ∀ t, sq t = true → P.stoodInHeld t = false ∧ P.eqGuardType P.depth t = false) {t kd : Nat} (hkd : keyKindM P.underlying P.info? sq t = some kd) {kb vb : BV} {kv vv : Value} (hk : VR base X kb kv) (hv : VR base X vb vv) :
    ∀ (ms : List (BV × BV)) (es : List MapEntry) (ms' : List (BV × BV)), ER base X ms es → mapSet kd ms kb vb = some ms' →
    ((Instr.findKey t kv es).run P w = .ok none w ∧ ∀ n, ER base X ms' (es ++ [⟨kv, vv, n⟩])) ∨
    (∃ j e, (Instr.findKey t kv es).run P w = .ok (some (j, e.val)) w ∧ es[j]? = some e ∧ e.key = kv ∧ ER base X ms' (es.modify j fun e => { e with key := kv, val := vv }) ∧ ∃ kb', keyEqM kd kb kb' = some true) := by
  by_cases h3 : 3 ≤ kd
  · have hask : ∀ (ms : List (BV × BV)) (es : List MapEntry) (i : Nat) (ms' : List (BV × BV)), ER base X ms es → mapSet kd ms kb vb = some ms' →
        ((Instr.findAsking t kv es i).run P w = .ok none w ∧ ∀ n, ER base X ms' (es ++ [⟨kv, vv, n⟩])) ∨
        (∃ j e, (Instr.findAsking t kv es i).run P w = .ok (some (i + j, e.val)) w ∧ es[j]? = some e ∧ e.key = kv ∧ ER base X ms' (es.modify j fun e => { e with key := kv, val := vv }) ∧ ∃ kb', keyEqM kd kb kb' = some true) := by
      intro ms
      induction ms with
      | nil =>
        intro es i ms' he h
        cases he
        simp [mapSet] at h
        subst h
        exact .inl ⟨by simp [Instr.findAsking], fun n => ⟨_, [], rfl, hk, hv, rfl⟩⟩
      | cons p ms ih =>
        obtain ⟨k', v'⟩ := p
        intro es i ms' he h
        obtain ⟨e, es', rfl, h1, h2, h3'⟩ := he
        unfold mapSet at h
        split at h
        · rename_i hq
          obtain ⟨s1, s2⟩ := equalM_rel (w := w) hsq hkd h3 hk h1 hq
          simp at h
          subst h
          exact .inr ⟨0, e, by simp [Instr.findAsking, s1], rfl, s2 rfl, ⟨_, es', rfl, hk, hv, h3'⟩, _, hq⟩
        · rename_i hq
          obtain ⟨s1, s2⟩ := equalM_rel (w := w) hsq hkd h3 hk h1 hq
          cases hm : mapSet kd ms kb vb with
          | none => simp [hm] at h
          | some ms'' =>
            simp [hm] at h
            subst h
            rcases ih es' (i + 1) ms'' h3' hm with ⟨g1, g2⟩ | ⟨j, x, g1, g2, g3, g4, g5⟩
            · exact .inl ⟨by simp [Instr.findAsking, s1, g1], fun n => ⟨e, _, rfl, h1, h2, g2 n⟩⟩
            · exact .inr ⟨j + 1, x, by simp [Instr.findAsking, s1, g1]; omega, by simpa using g2, g3, ⟨e, _, rfl, h1, h2, g4⟩, g5⟩
        · cases h
    intro ms es ms' he h
    obtain ⟨d, hd⟩ : ∃ d, P.underlying t = some d := by
      rcases keyKindM_elim hkd with ⟨d', h1, _⟩ | ⟨fs, hu, _⟩ | ⟨m, e', k, i, hu, _⟩
      · exact ⟨_, h1⟩
      · exact ⟨_, hu⟩
      · exact ⟨_, hu⟩
    cases es with
    | nil =>
      have : ms = [] := by
        cases ms with
        | nil => rfl
        | cons p ms => obtain ⟨e, es', e1, _⟩ := he; cases e1
      subst this
      simp [mapSet] at h
      subst h
      exact .inl ⟨by simp [Instr.findKey, run_underlying hd, Instr.findNow], fun n => ⟨_, [], rfl, hk, hv, rfl⟩⟩
    | cons e0 es0 =>
      have hnow : Instr.findNow d kv (e0 :: es0) 0 = none := by
        have : Instr.sameNow d kv e0.key = none := by
          rcases keyKindM_elim hkd with ⟨d', h1, h2⟩ | ⟨fs, hu, _, _, _⟩ | ⟨m, e', k, i, hu, _, _, _, _⟩
          · have := kind_lt h2; omega
          · rw [hu] at hd; cases hd; rfl
          · rw [hu] at hd; cases hd; rfl
        simp [Instr.findNow, this]
      have g := hask ms (e0 :: es0) 0 ms' he h
      simpa only [Instr.findKey, Sem.run_bind, run_underlying hd, Result.andThen_ok, hnow, Nat.zero_add] using g
  · rcases keyKindM_elim hkd with ⟨d, h1, h2⟩ | ⟨fs, _, _, _, e⟩ | ⟨m, _, _, _, _, _, _, _, e⟩
    · intro ms es ms' he h
      rcases mapSet_rel h2 hk hv ms es 0 ms' he h with ⟨g1, g2⟩ | ⟨j, e, g1, g2, g3, g4, g5⟩
      · exact .inl ⟨by simp [Instr.findKey, run_underlying h1, g1], g2⟩
      · exact .inr ⟨j, e, by simp [Instr.findKey, run_underlying h1, g1], g2, g3, g4, g5⟩
    · omega
    · omega

theorem bytesB_rel : ∀ {cs : List BV} {vs : List Value} {xs : List Int}, VRL base X cs vs → bytesB cs = some xs → vs = xs.map (Value.int .u8)
  | [], _, _, rfl, h => by simp [bytesB] at h; subst h; rfl
  | c :: cs, _, xs, ⟨v, r, rfl, k, l⟩, h => by
    unfold bytesB at h
    split at h
    · rename_i e; cases e
    · rename_i n r' e
      cases e
      cases hq : bytesB cs with
      | none => rw [hq] at h; cases h
      | some ys =>
        rw [hq] at h
        simp at h
        subst h
        simp only [VR] at k
        rw [k, bytesB_rel l hq]
        rfl
    · cases h

theorem does_b2s {s d e : TypeId} {x : Operand} {y : Opd} (ho : o.op = .convert s d x) (hs : P.underlying s = some (.slice e)) (hd : P.underlying d = some .string) (he : P.underlying e = some (.int .u8)) (hy : opd x = some y)
    (hr : HR P base w0 X H w) (hρ : OR base X σ ρ) {nb : Nat} {v : BV} {H1 : BH} (h : op1 base nb σ H (.b2s e y) = some (v, H1)) : Does P base w0 X w o ρ v H1 := by
  have g1 := hρ x y hy
  simp only [op1] at h
  split at h
  · rename_i e1
    rw [e1] at g1
    simp only [VR] at g1
    simp at h
    obtain ⟨rfl, rfl⟩ := h
    refine .plain hr (v' := .string ByteArray.empty) ?_ rfl
    simp [execOp, ho, g1, run_convert_bytes_nil w s e hs he 0 0 d hd]
  · rename_i b i n e1
    rw [e1] at g1
    obtain ⟨r, cap, hX, e2, _⟩ := g1
    split at h
    · rename_i t cs hrow
      split at h
      · rename_i hcnd
        cases hq : bytesB ((cs.drop i).take n) with
        | none => rw [hq] at h; cases h
        | some xs =>
          rw [hq] at h
          simp at h
          obtain ⟨rfl, rfl⟩ := h
          obtain ⟨r', vs, hX', hvl, hcell, hrel⟩ := hr.cells hrow hcnd.2
          rw [hX] at hX'
          cases hX'
          have hvs := bytesB_rel hrel hq
          subst hvs
          simp at hvl
          refine .plain hr (v' := .string (strOfNums xs)) ?_ rfl
          have := run_convert_bytes_arg (P := P) w s e hs he r.blk i n cap xs hvl (fun j hj => by
            refine hcell j _ ?_
            simp [List.getElem?_eq_getElem (show j < xs.length by omega)]) d hd
          simp [execOp, ho, e2, this]
      · cases h
    · cases h
  · cases h

theorem does_look {sq : Nat → Bool} (hsq : ∀ t, sq t = true → P.stoodInHeld t = false ∧ P.eqGuardType P.depth t = false) {t kt e kd : Nat} {i : TypeInfo} {z : Value} {okk : Bool} {x k : Operand} {x' k' : Opd} (ho : o.op = .lookup t x k okk) (hu : P.underlying t = some (.map kt e)) (hkd : keyKindM P.underlying P.info? sq kt = some kd) (hi : P.info? e = some i) (hz : i.zero = some z)
    (hx : opd x = some x') (hk : opd k = some k') (hr : HR P base w0 X H w) (hρ : OR base X σ ρ) {nb : Nat} {v : BV} {H1 : BH} (h : op1 base nb σ H (.look kd okk (toB z) x' k') = some (v, H1)) : Does P base w0 X w o ρ v H1 := by
  have g1 := hρ x x' hx
  have g2 := hρ k k' hk
  simp only [op1] at h
  split at h
  · rename_i b e1
    rw [e1] at g1
    obtain ⟨r, hX, e2⟩ := g1
    split at h
    · rename_i ms hms
      have hrow := hr.row b
      rw [hms] at hrow
      obtain ⟨r', es, clk, hX', hh, hER, _⟩ := hrow
      rw [hX] at hX'
      cases hX'
      have hg : (getObj r.blk).run P w = .ok (.map es clk) w := by simp [getObj, Sem.run, hh]
      split at h
      rotate_left
      · cases h
      rename_i hkok
      cases hm : mapGet kd ms (σ k') with
      | none => rw [hm] at h; cases h
      | some q =>
        rw [hm] at h
        simp at h
        obtain ⟨rfl, rfl⟩ := h
        have hck := run_checkKeyM (P := P) (w := w) hkd es.isEmpty 9998 g2 hkok
        rcases findKey_rel (w := w) hsq hkd g2 ms es.toList q hER hm with ⟨rfl, g⟩ | ⟨u, j, xv, rfl, g, gv⟩
        · refine .plain hr (v' := if okk then .tuple #[z, .bool false] else z) ?_ ?_
          · simp [execOp, ho, e2, Instr.lookup, run_underlying hu, hg, hck, g, zeroValue, typeInfo, hi, hz]
          · cases okk
            · exact VR_toB z
            · exact ⟨_, rfl, _, _, rfl, VR_toB z, _, _, rfl, rfl, rfl⟩
        · refine .plain hr (v' := if okk then .tuple #[xv, .bool true] else xv) ?_ ?_
          · simp [execOp, ho, e2, Instr.lookup, run_underlying hu, hg, hck, g]
          · cases okk
            · exact gv
            · exact ⟨_, rfl, _, _, rfl, gv, _, _, rfl, rfl, rfl⟩
    · cases h
  · cases h

theorem does_mset {sq : Nat → Bool} (hsq : ∀ t, sq t = true → P.stoodInHeld t = false ∧ P.eqGuardType P.depth t = false) {t kt e kd : Nat} {x k y : Operand} {x' k' y' : Opd} (ho : o.op = .mapUpdate t x k y ∨ o.op = .insert t x k y) (hu : P.underlying t = some (.map kt e)) (hkd : keyKindM P.underlying P.info? sq kt = some kd)
    (hx : opd x = some x') (hk : opd k = some k') (hy : opd y = some y') (hr : HR P base w0 X H w) (hρ : OR base X σ ρ) {nb : Nat} {v : BV} {H1 : BH} (h : op1 base nb σ H (.mset kd x' k' y') = some (v, H1)) : Does P base w0 X w o ρ v H1 := by
  have g1 := hρ x x' hx
  have g2 := hρ k k' hk
  have g3 := hρ y y' hy
  simp only [op1] at h
  split at h
  · rename_i b e1
    rw [e1] at g1
    obtain ⟨r, hX, e2⟩ := g1
    split at h
    · rename_i ms hms
      split at h
      · rename_i hbase0
        obtain ⟨hbase, hkok⟩ := hbase0
        have hrow := hr.row b
        rw [hms] at hrow
        obtain ⟨r', es, clk, hX', hh, hER, hlow⟩ := hrow
        rw [hX] at hX'
        cases hX'
        have hg : (getObj r.blk).run P w = .ok (.map es clk) w := by simp [getObj, Sem.run, hh]
        have hlt := (Array.getElem?_eq_some_iff.1 hh).1
        cases hm : mapSet kd ms (σ k') (σ y') with
        | none => rw [hm] at h; cases h
        | some ms' =>
          rw [hm] at h
          simp at h
          obtain ⟨rfl, rfl⟩ := h
          have hck := run_checkKeyM (P := P) (w := w) hkd false 9998 g2 hkok
          have fin : ∀ (es' : Array MapEntry) (clk' : Nat), (Instr.mapUpdate t (ρ x) (ρ k) (ρ y)).run P w = .ok () { w with heap := w.heap.setIfInBounds r.blk (.map es' clk') } → ER base X ms' es'.toList → Does P base w0 X w o ρ (.tup []) (H.set b (.mp ms')) := by
            intro es' clk' hrun hER'
            refine ⟨.skip, _, X, undef, ?_, .inr ⟨rfl, rfl⟩, Tie.le_refl X, ⟨#[], rfl, rfl⟩, hr.write (w' := { w with heap := w.heap.setIfInBounds r.blk (.map es' clk') }) (by rw [hms]; rfl) hX
              (ext_block hr.ext rfl rfl rfl (by simp) fun j hj => ?_) (fun j _ hj => ?_) rfl ⟨r, es', clk', hX, ?_, hER', hlow⟩⟩
            · rcases ho with ho | ho <;> simp [execOp, ho, hrun]
            · have := hlow hbase
              simp [Array.getElem?_setIfInBounds, show r.blk ≠ j by omega]
            · simp [Array.getElem?_setIfInBounds, Ne.symm hj]
            · simp [hlt]
          have hset : ∀ ob, (setObj r.blk ob).run P w = .ok () { w with heap := w.heap.setIfInBounds r.blk ob } := by
            intro ob
            simp [setObj, Sem.run, hh]
          rcases setKey_rel (w := w) hsq hkd g2 g3 ms es.toList ms' hER hm with ⟨f1, f2⟩ | ⟨j, en, f1, f2, f3, f4, kb', f5⟩
          · refine fin (es.push ⟨ρ k, ρ y, clk⟩) (clk + 1) ?_ (by simpa using f2 clk)
            simp [Instr.mapUpdate, e2, run_underlying hu, hg, hck, f1, hset]
          · have hj : es[j]? = some en := by simpa using f2
            refine fin (es.modify j fun e => { e with key := ρ k, val := ρ y }) clk ?_ (by simpa using f4)
            have hsame : Instr.sameBits 10000 (ρ k) (ρ k) = true := sameBits_key g2 f5
            simp [Instr.mapUpdate, e2, run_underlying hu, hg, hck, f1, hset, hj, f3, Instr.keyThatStays, hsame]
      · cases h
    · cases h
  · cases h

end
end Go.B
