/-
What the machine B's operations do, the model's do: appends.
-/
import Derived.Test.YtkgjipjkffjlhaaDoorB10
namespace Go.B
set_option linter.unusedVariables false
set_option linter.unusedSimpArgs false

section
variable {P : Program} {base : Nat} {w0 w : World} {X : Tie} {H : BH} {o : Oper} {ρ : Operand → Value} {σ : Opd → BV}

/-- A new row in a block that was not there. -/
theorem HR.make' {nb : Nat} {w' : World} {s : BSt} {r : Row} (h : HR P base w0 X H w) (hf : H.row nb = .fresh) (hr : w.heap.size ≤ r.blk) (hx : w0.Extends w') (hk : ∀ k, k < w.heap.size → w'.heap[k]? = w.heap[k]?)
    (hs : RR P base w0.heap.size (X.put nb r) nb w' s) : HR P base w0 (X.put nb r) (H.set nb s) w' where
  row := fun b => by
    rw [BH.row_set]
    split
    · rename_i e; subst e; exact hs
    · rename_i e
      refine (h.row b).stay (Tie.le_put r (h.fresh_none hf)) (fun e' => ?_) fun hl q hq => ?_
      · simp [Tie.put, e, h.fresh_none e']
      · obtain ⟨r', hx', hlt⟩ := (h.row b).lives hl
        rw [hq] at hx'
        cases hx'
        exact hk _ hlt
  inj := fun b c p q hb hc hp hq hpq => by
    rw [BH.row_set] at hb hc
    by_cases eb : b = nb <;> by_cases ec : c = nb
    · rw [eb, ec]
    · simp only [Tie.put, eb, ec, if_true, if_false] at hp hq hc
      cases hp
      obtain ⟨q', hx', hlt⟩ := (h.row c).lives hc
      rw [hq] at hx'
      cases hx'
      omega
    · simp only [Tie.put, eb, ec, if_true, if_false] at hp hq hb
      cases hq
      obtain ⟨q', hx', hlt⟩ := (h.row b).lives hb
      rw [hp] at hx'
      cases hx'
      omega
    · simp only [Tie.put, eb, ec, if_false] at hp hq hb hc
      exact h.inj b c p q hb hc hp hq hpq
  ext := hx

/-- A row that is looked at no more. -/
theorem HR.kill {b : Nat} {r : Row} (h : HR P base w0 X H w) (hb : X b = some r) : HR P base w0 X (H.set b .dead) w where
  row := fun c => by
    rw [BH.row_set]
    split
    · rename_i e; subst e; exact ⟨r, hb⟩
    · exact h.row c
  inj := fun c d p q hc hd hp hq hpq => by
    rw [BH.row_set] at hc hd
    split at hc
    · simp [BSt.live] at hc
    · split at hd
      · simp [BSt.live] at hd
      · exact h.inj c d p q hc hd hp hq hpq
  ext := h.ext

/-- What is appended. -/
theorem arg_rel {y : Opd} {x : Operand} {sz : Nat} {new : List BV} (hr : HR P base w0 X H w) (h : VR base X (σ y) (ρ x)) (hc : H.cells sz (σ y) = some new) :
    ∃ a m c vs, ρ x = .slice a m c ∧ (a = none → m = 0) ∧ vs.length = m * sz ∧ VRL base X new vs ∧ (∀ a', a = some a' → ∀ j u, vs[j]? = some u → w.cell? (a'.add j) = some u) := by
  unfold BH.cells at hc
  split at hc
  · rename_i e
    rw [e] at h
    have h : ρ x = .slice none 0 0 := h
    simp at hc
    subst hc
    exact ⟨none, 0, 0, [], h, fun _ => rfl, by simp, rfl, fun a' e => by cases e⟩
  · rename_i e
    rw [e] at h
    obtain ⟨a, cap, h, _⟩ := h
    simp at hc
    subst hc
    exact ⟨a, 0, cap, [], h, fun _ => rfl, by simp, rfl, fun a' e j u hj => by simp at hj⟩
  · rename_i b i n e
    rw [e] at h
    obtain ⟨r, cap, hX, h, _⟩ := h
    split at hc
    · rename_i ty cs hcs
      split at hc
      · rename_i hle
        simp at hc
        subst hc
        obtain ⟨r', vs, hX', hl, hcell, hk⟩ := hr.cells hcs hle
        rw [hX] at hX'
        cases hX'
        refine ⟨_, n, cap, vs, h, fun e => (by cases e), hl, hk, fun a' e j u hj => ?_⟩
        cases e
        have : (⟨r.blk, i, none⟩ : Addr).add j = ⟨r.blk, i + j, none⟩ := by unfold Addr.add; split <;> simp_all
        rw [this]
        exact hcell j u hj
      · cases hc
    · cases hc
  · cases hc

theorem oneCells {new : List BV} {vs : List Value} (hk : VRL base X new vs) (h1 : new.all BV.one = true) : ∀ u ∈ vs, u.oneCell' = true := by
  intro u hu
  obtain ⟨i, hi⟩ := List.getElem?_of_mem hu
  have hlt : i < new.length := by
    rw [hk.len]
    exact (List.getElem?_eq_some_iff.1 hi).1
  obtain ⟨v, hv, kv⟩ := hk.get i _ (List.getElem?_eq_getElem hlt)
  rw [hi] at hv
  cases hv
  exact (kv.one ((List.all_eq_true.1 h1) _ (List.getElem_mem hlt))).1

theorem run_append_room (t ty e : TypeId) (i : TypeInfo) (ht : P.underlying t = some (.slice e)) (hi : P.info? e = some i) (b n cap : Nat) (cur : Array Value) (hh : w.heap[b]? = some (.cells cur e (0, 0)))
    (a : Option Addr) (m c : Nat) (ha : a = none → m = 0) (vs : List Value) (hl : vs.length = m * i.size) (hc : ∀ a', a = some a' → ∀ j u, vs[j]? = some u → w.cell? (a'.add j) = some u) (h1 : ∀ u ∈ vs, u.oneCell' = true)
    (hroom : n + m ≤ cap) (hfit : (n + m) * i.size ≤ cur.size) :
    (Builtin.append_ #[t, t] ty #[.slice (some ⟨b, 0, none⟩) n cap, .slice a m c]).run P w = .ok (.slice (some ⟨b, 0, none⟩) (n + m) cap)
      (w.setRow b (cur.toList.take (n * i.size) ++ vs ++ cur.toList.drop (n * i.size + m * i.size)).toArray) := by
  have hfc : (Builtin.firstCells i.size m (.slice a m c)).run P w = .ok vs.toArray w := by
    cases a with
    | none =>
      obtain rfl := ha rfl
      have : vs = [] := List.eq_nil_of_length_eq_zero (by simpa using hl)
      subst this
      simp [Builtin.firstCells]
    | some a' => exact run_firstCells_some (P := P) w i.size m a' m c vs hl (hc a' rfl)
  have hst := run_storeCells_at (P := P) b (n * i.size) e vs 0 cur w hh (by rw [hl]; rw [Nat.add_mul] at hfit; omega) h1
  simp only [Nat.add_zero, hl] at hst
  have hadd : (⟨b, 0, none⟩ : Addr).add (n * i.size) = ⟨b, n * i.size, none⟩ := by unfold Addr.add; split <;> simp_all
  simp [Builtin.append_, run_underlying ht, sizeOf, typeInfo, hi, Builtin.lenOf, hroom, hfc, hadd, hst]

theorem does_app {t e nb : Nat} {i : TypeInfo} {z : Value} {c : _root_.Go.Call} {x y : Operand} {x' y' : Opd} (ho : o.op = .call c) (hc : c.callee = .builtin .append) (hat : c.argTypes[0]? = some t ∧ c.argTypes[1]? = some t) (hargs : c.args.toList = [x, y])
    (hu : P.underlying t = some (.slice e)) (hi : P.info? e = some i) (hz : i.zero = some z) (hzs : z.cells.size = i.size) (hx : opd x = some x') (hy : opd y = some y') (hr : HR P base w0 X H w) (hρ : OR base X σ ρ)
    (htys : c.argTypes = #[t, t]) {v : BV} {H1 : BH} (h : op1 base nb σ H (.app e i.size i.bytes x' y') = some (v, H1)) : Does P base w0 X w o ρ v H1 := by
  have g1 := hρ x x' hx
  have g2 := hρ y y' hy
  have ha : c.args.map ρ = #[ρ x, ρ y] := by
    apply Array.toList_inj.1
    rw [Array.toList_map, hargs]
    rfl
  have hexec : ∀ v' w', (Builtin.append_ #[t, t] o.type #[ρ x, ρ y]).run P w = .ok v' w' → (execOp ρ o).run P w = .ok (.value v') w' := by
    intro v' w' h2
    simp [execOp, ho, resolve, hc, ha, invoke, builtin, htys, h2]
  have hcell : P.cellsOf e = i.size := by simp [Program.cellsOf, hi]
  simp only [op1] at h
  split at h
  · rename_i e1 e2
    split at h
    · rename_i hsz
      simp at h
      obtain ⟨rfl, rfl⟩ := h
      rw [e1] at g1
      have g1 : ρ x = .slice none 0 0 := g1
      obtain ⟨a, m, cc, vs, b1, b2, b3, b4, b5⟩ := arg_rel hr g2 e2
      have hvs : vs = [] := List.eq_nil_of_length_eq_zero b4.len.symm
      have hm : m = 0 := by
        subst hvs
        have h0 : m * i.size = 0 := by rw [← b3]; rfl
        rcases Nat.mul_eq_zero.1 h0 with h | h
        · exact h
        · omega
      subst hm
      refine .plain hr (v' := .slice none 0 0) (hexec _ _ ?_) rfl
      rw [g1, b1]
      have hfc : (Builtin.firstCells i.size 0 (.slice a 0 cc)).run P w = .ok #[] w := by
        cases a with
        | none => simp [Builtin.firstCells]
        | some a' => exact run_firstCells_some (P := P) w i.size 0 a' 0 cc [] (by simp) (fun j u hj => by simp at hj)
      simp [Builtin.append_, run_underlying hu, sizeOf, typeInfo, hi, Builtin.lenOf, hfc]
    · cases h
  · rename_i new hne e1 e2
    split at h
    · rename_i hcnd
      obtain ⟨c1, c2, c3, c4⟩ := hcnd
      cases hm : H.make base nb (.arr e new) with
      | none => rw [hm] at h; cases h
      | some K =>
        rw [hm] at h
        simp at h
        obtain ⟨rfl, rfl⟩ := h
        obtain ⟨hf, hb, rfl⟩ := make_elim hm
        rw [e1] at g1
        have g1 : ρ x = .slice none 0 0 := g1
        obtain ⟨a, m, cc, vs, b1, b2, b3, b4, b5⟩ := arg_rel hr g2 e2
        have hlen := b4.len
        have hnl : new.length ≠ 0 := fun h0 => hne (List.eq_nil_of_length_eq_zero h0) 
        have hmpos : m ≠ 0 := by
          rintro rfl
          simp at b3
          rw [b3] at hlen
          exact hnl (by simpa using hlen)
        obtain ⟨a', rfl⟩ : ∃ a', a = some a' := by
          cases a with
          | none => exact absurd (b2 rfl) hmpos
          | some a' => exact ⟨a', rfl⟩
        have hdiv : new.length / i.size = m := by rw [hlen, b3]; exact Nat.mul_div_cancel _ c2
        have hml : m ≤ m * i.size := Nat.le_mul_of_pos_right _ c2
        have hby : m * i.bytes ≤ 35184372088832 := by
          rw [hlen, b3] at c3
          have : (m * i.bytes) * i.size ≤ 35184372088832 * i.size := by
            calc (m * i.bytes) * i.size = m * i.size * i.bytes := by rw [Nat.mul_right_comm]
              _ ≤ _ := c3
          exact Nat.le_of_mul_le_mul_right this c2
        obtain ⟨v', w', hrun, hown, hgrow, hnil⟩ := run_append_own (P := P) w w.heap.size t o.type e i z i.size i.bytes hu hi hz rfl rfl hzs c2 (.slice none 0 0) 0 [] (World.ownsRow_nil w _ e i.size) a' m cc vs b3 (b5 a' rfl) (oneCells b4 c1)
          (by simp only [maxLen]; omega) (by rw [Nat.zero_add]; omega) (Nat.le_refl _)
        rcases hown.2 with ⟨rfl, h0⟩ | ⟨g, cap, cur, rfl, hg1, hg2, hg3, hg4, hg5, hg6⟩
        · omega
        · have hle := Tie.le_put (X := X) (b := nb) ⟨g, P.cellsOf e, cur.size⟩ (hr.fresh_none hf)
          have hgb : ∀ k, k < w.heap.size → w'.heap[k]? = w.heap[k]? := fun k hk => hgrow.block k hk (by simp [Value.ownBlock])
          refine ⟨_, w', X.put nb ⟨g, P.cellsOf e, cur.size⟩, .slice (some ⟨g, 0, none⟩) (0 + m) cap, hexec _ _ (by rw [g1, b1]; exact hrun), .inl rfl, hle, ⟨_, cap, Tie.put_self _ _ _, by rw [hdiv, Nat.zero_add], by omega, fun _ _ => ⟨by simp [hcell, hg5], hg4⟩⟩,
            hr.make' hf hg1 (ext_block hr.ext hgrow.os hgrow.tape hgrow.output hgrow.size fun k hk => hgb k (Nat.lt_of_lt_of_le hk hr.ext.size)) hgb ?_⟩
          refine ⟨_, cur, (0, 0), Tie.put_self _ _ _, hg2, rfl, rfl, fun j d hd => ?_, fun _ => ⟨Nat.le_trans hr.ext.size hg1, rfl⟩⟩
          obtain ⟨u, hu, ku⟩ := b4.get j d hd
          refine ⟨u, ?_, ku.mono hle⟩
          have hj : j < vs.length := (List.getElem?_eq_some_iff.1 hu).1
          rw [List.nil_append] at hg6
          rw [← hg6, List.getElem?_take_of_lt (by rw [b3] at hj; rw [Nat.zero_add]; exact hj)] at hu
          simpa using hu
    · cases h
  · rename_i b i0 n new e1 e2
    split at h
    · rename_i ty' cs hcs
      split at h
      · rename_i hcnd
        obtain ⟨d1, d2, rfl, rfl, d5, c1, c2, c3, c4⟩ := hcnd
        cases hm : H.make base nb (.arr ty' (cs ++ new)) with
        | none => rw [hm] at h; cases h
        | some K =>
          rw [hm] at h
          simp at h
          obtain ⟨rfl, rfl⟩ := h
          obtain ⟨hf, hb, rfl⟩ := make_elim hm
          rw [e1] at g1
          obtain ⟨r, cap, hX, g1, hnc, hown⟩ := g1
          obtain ⟨q1, q2⟩ := hown d1 rfl
          obtain ⟨a, m, cc, vs, b1, b2, b3, b4, b5⟩ := arg_rel hr g2 e2
          have hrow := hr.row b
          rw [hcs] at hrow
          obtain ⟨r', cur, fz, hX', hh, k1, k2, k3, k4⟩ := hrow
          rw [hX] at hX'
          cases hX'
          obtain ⟨klow, rfl⟩ := k4 d1
          have hlen := b4.len
          have hdiv : new.length / i.size = m := by rw [hlen, b3]; exact Nat.mul_div_cancel _ c2
          have hml : n + m ≤ (n + m) * i.size := Nat.le_mul_of_pos_right _ c2
          have hsum : n * i.size + new.length = (n + m) * i.size := by rw [hlen, b3, Nat.add_mul]
          have hby : (n + m) * i.bytes ≤ 35184372088832 := by
            rw [hsum] at c3
            have : ((n + m) * i.bytes) * i.size ≤ 35184372088832 * i.size := by
              calc ((n + m) * i.bytes) * i.size = (n + m) * i.size * i.bytes := by rw [Nat.mul_right_comm]
                _ ≤ _ := c3
            exact Nat.le_of_mul_le_mul_right this c2
          have hcs0 : cs.length ≤ cur.size := by
            by_cases h0 : cs.length = 0
            · omega
            · obtain ⟨v, hv, _⟩ := k3 (cs.length - 1) _ (List.getElem?_eq_getElem (by omega))
              have := (Array.getElem?_eq_some_iff.1 hv).1
              omega
          by_cases hroom : n + m ≤ cap
          · have hfit : (n + m) * i.size ≤ cur.size := by
              rw [k1, ← q1, k2, hcell]
              exact Nat.mul_le_mul_right _ hroom
            have hrun := run_append_room (P := P) (w := w) t o.type ty' i hu hi r.blk n cap cur hh a m cc b2 vs b3 b5 (oneCells b4 c1) hroom hfit
            have hle := Tie.le_put (X := X) (b := nb) r (hr.fresh_none hf)
            have hlive : (H.row b).live = true := by rw [hcs]; rfl
            refine ⟨_, _, X.put nb r, .slice (some ⟨r.blk, 0, none⟩) (n + m) cap, hexec _ _ (by rw [g1, b1]; exact hrun), .inl rfl, hle, ⟨r, cap, Tie.put_self _ _ _, by rw [hdiv], by rw [hdiv]; exact hroom, fun _ _ => ⟨q1, q2⟩⟩, ?_⟩
            refine ⟨fun d => ?_, fun d d' p q hd hd' hp hq hpq => ?_, hr.ext.setRow r.blk _ klow⟩
            · rw [BH.row_set]
              split
              · rename_i e; subst e
                exact ⟨r, hle _ _ hX⟩
              · rename_i e
                rw [BH.row_set]
                split
                · rename_i e'; subst e'
                  refine ⟨r, _, (0, 0), Tie.put_self _ _ _, setRow_heap w r.blk cur _ ty' (0, 0) hh, ?_, k2, fun j d hd => ?_, fun _ => ⟨klow, rfl⟩⟩
                  · simp
                    omega
                  · have ht : (cur.toList.take (n * i.size)).length = n * i.size := by simp; omega
                    simp only [List.getElem?_toArray, List.append_assoc]
                    by_cases hj : j < n * i.size
                    · rw [List.getElem?_append_left (by omega)] at hd
                      obtain ⟨v, hv, kv⟩ := k3 j d hd
                      refine ⟨v, ?_, kv.mono hle⟩
                      rw [List.getElem?_append_left (by omega), List.getElem?_take_of_lt hj]
                      simpa using hv
                    · rw [List.getElem?_append_right (by omega), ← d5] at hd
                      obtain ⟨v, hv, kv⟩ := b4.get _ d hd
                      refine ⟨v, ?_, kv.mono hle⟩
                      rw [List.getElem?_append_right (by omega), ht, List.getElem?_append_left (by exact (List.getElem?_eq_some_iff.1 hv).1)]
                      exact hv
                · rename_i e'
                  refine (hr.row d).stay hle (fun e'' => by simp [Tie.put, e', hr.fresh_none e'']) fun hl q hq => ?_
                  refine setRow_other _ _ _ _ fun e'' => e (hr.inj d b q r hl hlive hq hX e'')
            · rw [BH.row_set] at hd hd'
              split at hd
              · simp [BSt.live] at hd
              · rename_i e
                split at hd'
                · simp [BSt.live] at hd'
                · rename_i e'
                  rw [BH.row_set] at hd hd'
                  by_cases f1 : d = nb <;> by_cases f2 : d' = nb
                  · rw [f1, f2]
                  · simp only [f2, if_false] at hd'
                    simp only [Tie.put, f1, f2, if_true, if_false] at hp hq
                    cases hp
                    exact absurd (hr.inj d' b q r hd' hlive hq hX hpq.symm) e'
                  · simp only [f1, if_false] at hd
                    simp only [Tie.put, f1, f2, if_true, if_false] at hp hq
                    cases hq
                    exact absurd (hr.inj d b p r hd hlive hp hX hpq) e
                  · simp only [f1, f2, if_false] at hd hd'
                    simp only [Tie.put, f1, f2, if_false] at hp hq
                    exact hr.inj d d' p q hd hd' hp hq hpq
          · have hmpos : m ≠ 0 := by omega
            obtain ⟨a', rfl⟩ : ∃ a', a = some a' := by
              cases a with
              | none => exact absurd (b2 rfl) hmpos
              | some a' => exact ⟨a', rfl⟩
            have holds : ∀ j u, (cur.toList.take (n * i.size))[j]? = some u → w.cell? ((⟨r.blk, 0, none⟩ : Addr).add j) = some u := by
              intro j u hj
              have hlt : j < n * i.size := by
                have := (List.getElem?_eq_some_iff.1 hj).1
                simp at this
                omega
              rw [List.getElem?_take_of_lt hlt] at hj
              have : (⟨r.blk, 0, none⟩ : Addr).add j = ⟨r.blk, j, none⟩ := by unfold Addr.add; split <;> simp_all
              rw [this]
              simp [World.cell?, hh]
              simpa using hj
            obtain ⟨v', w', hrun, hown', hgrow⟩ := run_append_arg_grows (P := P) w t o.type ty' i z i.size i.bytes hu hi hz rfl rfl hzs c2 ⟨r.blk, 0, none⟩ n cap (cur.toList.take (n * i.size)) (by simp; omega) holds a' m cc vs b3 (b5 a' rfl)
              (by omega) (by simp only [maxLen]; omega) (by omega)
            rcases hown'.2 with ⟨rfl, h0⟩ | ⟨g, cap', cur', rfl, hg1, hg2, hg3, hg4, hg5, hg6⟩
            · omega
            · have hle := Tie.le_put (X := X) (b := nb) ⟨g, P.cellsOf ty', cur'.size⟩ (hr.fresh_none hf)
              have hgb : ∀ k, k < w.heap.size → w'.heap[k]? = w.heap[k]? := fun k hk => hgrow.block k hk (by simp)
              refine ⟨_, w', X.put nb ⟨g, P.cellsOf ty', cur'.size⟩, .slice (some ⟨g, 0, none⟩) (n + m) cap', hexec _ _ (by rw [g1, b1]; exact hrun), .inl rfl, hle, ⟨_, cap', Tie.put_self _ _ _, by rw [hdiv], by rw [hdiv]; exact hg3, fun _ _ => ⟨by simp [hcell, hg5], hg4⟩⟩,
                (hr.make' hf hg1 (ext_block hr.ext hgrow.os hgrow.tape hgrow.output hgrow.size fun k hk => hgb k (Nat.lt_of_lt_of_le hk hr.ext.size)) hgb ?_).kill (hle _ _ hX)⟩
              refine ⟨_, cur', (0, 0), Tie.put_self _ _ _, hg2, rfl, rfl, fun j d hd => ?_, fun _ => ⟨Nat.le_trans hr.ext.size hg1, rfl⟩⟩
              have hall : VRL base X (cs ++ new) (cur.toList.take (n * i.size) ++ vs) := by
                refine VRL.append (VRL.of (by simp; omega) fun j d hd => ?_) b4
                have hlt : j < cs.length := (List.getElem?_eq_some_iff.1 hd).1
                obtain ⟨v, hv, kv⟩ := k3 j d hd
                refine ⟨v, ?_, kv⟩
                rw [List.getElem?_take_of_lt (by omega)]
                simpa using hv
              obtain ⟨u, hu, ku⟩ := hall.get j d hd
              refine ⟨u, ?_, ku.mono hle⟩
              have hj : j < (cur.toList.take (n * i.size) ++ vs).length := (List.getElem?_eq_some_iff.1 hu).1
              rw [hown'.1] at hj
              rw [← hg6, List.getElem?_take_of_lt hj] at hu
              simpa using hu
      · cases h
    · cases h
  · cases h

end
end Go.B
