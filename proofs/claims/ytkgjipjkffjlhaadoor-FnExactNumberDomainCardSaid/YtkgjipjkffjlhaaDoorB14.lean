/-
The machine B's operations, out of order: frames and swaps.
-/
import Derived.Test.YtkgjipjkffjlhaaDoorB13
namespace Go.B
set_option linter.unusedVariables false
set_option linter.unusedSimpArgs false

theorem ty_ne_fresh {s : BSt} {t : Nat} (h : s.ty = some t) : s ≠ .fresh := by rintro rfl; cases h

/-- What writes leaves every row of another type as it was. -/
theorem op_write {base nb : Nat} {σ : Opd → BV} {H H1 : BH} {op : BOp} {v : BV} (hc : op.cls = 3) (h : op1 base nb σ H op = some (v, H1)) {q : Nat} (hq : op.rt = some q) :
    ∀ b t, (H.row b).ty = some t → t ≠ q → H1.row b = H.row b := by
  intro b t hb ht
  cases op with
  | store rt n a x =>
    simp only [BOp.rt] at hq
    subst hq
    simp only [op1] at h
    split at h
    · rename_i b' i e
      split at h
      · rename_i ty cs e2
        split at h
        · rename_i hcnd
          simp at h
          obtain ⟨_, rfl⟩ := h
          refine BH.row_set_ne _ _ ?_
          rintro rfl
          rw [e2] at hb
          have h1 := hcnd.1
          simp [rtOk] at h1
          cases hb
          exact ht h1.symm
        · cases h
      · cases h
    · cases h
  | mset kd m k x =>
    simp only [BOp.rt, Option.some.injEq] at hq
    subst hq
    simp only [op1] at h
    split at h
    · rename_i b' e
      split at h
      · rename_i es e2
        split at h
        · cases hm : mapSet kd es (σ k) (σ x) with
          | none => rw [hm] at h; cases h
          | some es' =>
            rw [hm] at h
            simp at h
            obtain ⟨_, rfl⟩ := h
            refine BH.row_set_ne _ _ ?_
            rintro rfl
            rw [e2] at hb
            cases hb
            exact ht rfl
        · cases h
      · cases h
    · cases h
  | app ty sz by_ x y =>
    simp only [BOp.rt, Option.some.injEq] at hq
    subst hq
    simp only [op1] at h
    split at h
    · split at h
      · simp at h
        rw [h.2]
      · cases h
    · rename_i new hne e1 e2
      split at h
      · obtain ⟨K, hm, e⟩ : ∃ K, H.make base nb (.arr ty new) = some K ∧ K = H1 := by
          cases hm : H.make base nb (.arr ty new) with
          | none => rw [hm] at h; cases h
          | some K => rw [hm] at h; simp at h; exact ⟨K, rfl, h.2⟩
        subst e
        obtain ⟨g1, g2, rfl⟩ := make_elim hm
        refine BH.row_set_ne _ _ ?_
        rintro rfl
        exact ty_ne_fresh hb g1
      · cases h
    · rename_i b' i n new e1 e2
      split at h
      · rename_i ty' cs e3
        split at h
        · rename_i hcnd
          obtain ⟨d1, d2, rfl, _⟩ := hcnd
          cases hm : H.make base nb (.arr ty' (cs ++ new)) with
          | none => rw [hm] at h; cases h
          | some K =>
            rw [hm] at h
            simp at h
            obtain ⟨_, rfl⟩ := h
            obtain ⟨g1, g2, rfl⟩ := make_elim hm
            rw [BH.row_set_ne, BH.row_set_ne]
            · rintro rfl
              exact ty_ne_fresh hb g1
            · rintro rfl
              rw [e3] at hb
              cases hb
              exact ht rfl
        · cases h
      · cases h
    · cases h
  | len kd x =>
    match kd, hc with
    | 0, hc => simp [BOp.cls] at hc
    | 1, hc => simp [BOp.cls] at hc
    | 2, hc => simp [BOp.cls] at hc
    | n + 3, hc => simp [BOp.cls] at hc
  | _ => simp [BOp.cls] at hc

theorem cells_frame {H : BH} {nb : Nat} {s : BSt} (hf : H.row nb = .fresh) {sz : Nat} {v : BV} {cs : List BV} (h : H.cells sz v = some cs) : (H.set nb s).cells sz v = some cs := by
  unfold BH.cells at h ⊢
  split at h
  · exact h
  · exact h
  · rename_i b i n
    have : b ≠ nb := by
      rintro rfl
      rw [hf] at h
      cases h
    rw [BH.row_set_ne _ _ this]
    exact h
  · cases h

/-- A row that nobody has had yet makes no difference. -/
theorem op_frame {base nb' nb : Nat} {σ : Opd → BV} {H H1 : BH} {op : BOp} {v : BV} (h : op1 base nb' σ H op = some (v, H1)) (hf : H1.row nb = .fresh) :
    H.row nb = .fresh ∧ ∀ s, op1 base nb' σ (H.set nb s) op = some (v, H1.set nb s) := by
  have hcls : op.cls = 0 ∨ op.cls = 1 ∨ op.cls = 2 ∨ op.cls = 3 ∨ op.cls = 4 := by
    unfold BOp.cls
    split <;> simp
  rcases hcls with hc | hc | hc | hc | hc
  · obtain ⟨rfl, hK⟩ := op_pure hc h
    exact ⟨hf, fun s => hK _ _⟩
  · obtain ⟨rfl, hK⟩ := op_read hc h
    refine ⟨hf, fun s => hK _ _ fun b t hb _ => BH.row_set_ne _ _ ?_⟩
    rintro rfl
    exact ty_ne_fresh hb hf
  · obtain ⟨s', q1, q2, rfl, q4⟩ := op_make hc h
    have hne : nb ≠ nb' := by
      rintro rfl
      rw [BH.row_set_eq] at hf
      exact q1 hf
    rw [BH.row_set_ne _ _ hne] at hf
    refine ⟨hf, fun s => ?_⟩
    rw [q4 _ (by rw [BH.row_set_ne _ _ (Ne.symm hne)]; exact q2), BH.set_comm _ _ _ (Ne.symm hne)]
  · cases op with
    | store rt n a x =>
      simp only [op1] at h ⊢
      split at h
      · rename_i b i e
        split at h
        · rename_i ty cs e2
          split at h
          · rename_i hcnd
            simp at h
            obtain ⟨rfl, rfl⟩ := h
            have hne : nb ≠ b := by
              rintro rfl
              rw [BH.row_set_eq] at hf
              cases hf
            rw [BH.row_set_ne _ _ hne] at hf
            refine ⟨hf, fun s => ?_⟩
            rw [BH.row_set_ne _ _ (Ne.symm hne), e2]
            simp only [hcnd, and_self, if_true]
            rw [List.append_assoc, BH.set_comm _ _ _ hne]
          · cases h
        · cases h
      · cases h
    | mset kd m k x =>
      simp only [op1] at h ⊢
      split at h
      · rename_i b e
        split at h
        · rename_i es e2
          split at h
          · rename_i hb
            cases hm : mapSet kd es (σ k) (σ x) with
            | none => rw [hm] at h; cases h
            | some es' =>
              rw [hm] at h
              simp at h
              obtain ⟨rfl, rfl⟩ := h
              have hne : nb ≠ b := by
                rintro rfl
                rw [BH.row_set_eq] at hf
                cases hf
              rw [BH.row_set_ne _ _ hne] at hf
              refine ⟨hf, fun s => ?_⟩
              rw [BH.row_set_ne _ _ (Ne.symm hne), e2]
              simp only [hb, true_and, if_true, hm, and_self]
              rw [Option.map_some, BH.set_comm _ _ _ hne]
          · cases h
        · cases h
      · cases h
    | app ty sz by_ x y =>
      simp only [op1] at h ⊢
      split at h
      · rename_i e1 e2
        split at h
        · rename_i hsz
          simp at h
          obtain ⟨rfl, rfl⟩ := h
          refine ⟨hf, fun s => ?_⟩
          rw [e1, cells_frame hf e2]
          simp only [hsz, if_true]
        · cases h
      · rename_i new hne e1 e2
        split at h
        · rename_i hcnd
          cases hm : H.make base nb' (.arr ty new) with
          | none => rw [hm] at h; cases h
          | some K =>
            rw [hm] at h
            simp at h
            obtain ⟨rfl, rfl⟩ := h
            obtain ⟨g1, g2, rfl⟩ := make_elim hm
            have hn : nb ≠ nb' := by
              rintro rfl
              rw [BH.row_set_eq] at hf
              cases hf
            rw [BH.row_set_ne _ _ hn] at hf
            refine ⟨hf, fun s => ?_⟩
            rw [e1, cells_frame hf e2]
            have g1' : (H.set nb s).row nb' = .fresh := by rw [BH.row_set_ne _ _ (Ne.symm hn)]; exact g1
            cases new with
            | nil => exact absurd rfl hne
            | cons c cs =>
              simp only [hcnd, and_self, if_true, make_of g1' g2]
              rw [Option.map_some, BH.set_comm _ _ _ hn]
        · cases h
      · rename_i b i n new e1 e2
        split at h
        · rename_i ty' cs e3
          split at h
          · rename_i hcnd
            cases hm : H.make base nb' (.arr ty (cs ++ new)) with
            | none => rw [hm] at h; cases h
            | some K =>
              rw [hm] at h
              simp at h
              obtain ⟨rfl, rfl⟩ := h
              obtain ⟨g1, g2, rfl⟩ := make_elim hm
              have hn2 : nb ≠ b := by
                rintro rfl
                rw [BH.row_set_eq] at hf
                cases hf
              rw [BH.row_set_ne _ _ hn2] at hf
              have hn : nb ≠ nb' := by
                rintro rfl
                rw [BH.row_set_eq] at hf
                cases hf
              rw [BH.row_set_ne _ _ hn] at hf
              refine ⟨hf, fun s => ?_⟩
              rw [e1, cells_frame hf e2]
              have g1' : (H.set nb s).row nb' = .fresh := by rw [BH.row_set_ne _ _ (Ne.symm hn)]; exact g1
              simp only []
              rw [BH.row_set_ne _ _ (Ne.symm hn2), e3]
              simp only []
              rw [if_pos hcnd, make_of g1' g2, Option.map_some, BH.set_comm _ _ _ hn, BH.set_comm _ _ _ hn2]
          · cases h
        · cases h
      · cases h
    | len kd x =>
      match kd, hc with
      | 0, hc => simp [BOp.cls] at hc
      | 1, hc => simp [BOp.cls] at hc
      | 2, hc => simp [BOp.cls] at hc
      | n + 3, hc => simp [BOp.cls] at hc
    | _ => simp [BOp.cls] at hc
  · cases op with
    | call f xs => simp [op1] at h
    | len kd x =>
      match kd, hc with
      | 0, hc => simp [BOp.cls] at hc
      | 1, hc => simp [BOp.cls] at hc
      | 2, hc => simp [BOp.cls] at hc
      | n + 3, hc => simp [BOp.cls] at hc
    | _ => simp [BOp.cls] at hc

/-- Calls that a row that nobody has had yet makes no difference to. -/
def Framed (C : CRel) : Prop := ∀ f args H v H1 nb, C f args H v H1 → H1.row nb = .fresh → H.row nb = .fresh ∧ ∀ s, C f args (H.set nb s) v (H1.set nb s)

theorem keepsTys_frame {H H1 : BH} {tys : List Nat} {nb : Nat} {s : BSt} (h : H.KeepsTys tys H1) : (H.set nb s).KeepsTys tys (H1.set nb s) := by
  intro b t hb ht
  by_cases e : b = nb
  · subst e; rw [BH.row_set_eq, BH.row_set_eq]
  · rw [BH.row_set_ne _ _ e] at hb ⊢
    rw [BH.row_set_ne _ _ e]
    exact h b t hb ht

theorem Eff.frame {base : Nat} {C : CRel} (hC : Framed C) {o : BOper} {e : Env} {H H1 : BH} {v : BV} {nb : Nat} (h : Eff base C o e H v H1) (hf : H1.row nb = .fresh) :
    H.row nb = .fresh ∧ ∀ s, Eff base C o e (H.set nb s) v (H1.set nb s) := by
  cases h with
  | skip hw => exact ⟨hf, fun s => .skip hw⟩
  | op hw ho =>
    obtain ⟨g1, g2⟩ := op_frame ho hf
    exact ⟨g1, fun s => .op hw (g2 s)⟩
  | call hw ho hg hc hk =>
    obtain ⟨g1, g2⟩ := hC _ _ _ _ _ nb hc hf
    exact ⟨g1, fun s => .call hw ho hg (g2 s) (keepsTys_frame hk)⟩

theorem ExO.frame {base : Nat} {C : CRel} (hC : Framed C) {nb : Nat} : ∀ {l : List BOper} {e e' : Env} {H H' : BH}, ExO base C l e H e' H' → H'.row nb = .fresh → H.row nb = .fresh ∧ ∀ s, ExO base C l e (H.set nb s) e' (H'.set nb s)
  | [], e, e', H, H', h, hf => by
    cases h
    exact ⟨hf, fun s => .nil⟩
  | o :: r, e, e', H, H', h, hf => by
    obtain ⟨v, H1, h1, h2⟩ := exO_cons.1 h
    obtain ⟨g1, g2⟩ := ExO.frame hC h2 hf
    obtain ⟨k1, k2⟩ := h1.frame hC g1
    exact ⟨k1, fun s => exO_cons.2 ⟨v, _, k2 s, g2 s⟩⟩

theorem ExC.frame {base : Nat} {C : CRel} (hC : Framed C) {nb : Nat} {c : BCode} {e e' : Env} {H H' : BH} {x : BExit} (h : ExC base C c e H x e' H') : H'.row nb = .fresh → H.row nb = .fresh ∧ ∀ s, ExC base C c e (H.set nb s) x e' (H'.set nb s) := by
  induction h with
  | skip => exact fun hf => ⟨hf, fun s => .skip⟩
  | region hr => exact fun hf => let ⟨g1, g2⟩ := hr.frame hC hf; ⟨g1, fun s => .region (g2 s)⟩
  | seq _ _ ih1 ih2 => exact fun hf => let ⟨g1, g2⟩ := ih2 hf; let ⟨k1, k2⟩ := ih1 g1; ⟨k1, fun s => .seq (k2 s) (g2 s)⟩
  | seqx _ hx ih => exact fun hf => let ⟨g1, g2⟩ := ih hf; ⟨g1, fun s => .seqx (g2 s) hx⟩
  | thn hc _ ih => exact fun hf => let ⟨g1, g2⟩ := ih hf; ⟨g1, fun s => .thn hc (g2 s)⟩
  | els hc _ ih => exact fun hf => let ⟨g1, g2⟩ := ih hf; ⟨g1, fun s => .els hc (g2 s)⟩
  | block _ ih => exact fun hf => let ⟨g1, g2⟩ := ih hf; ⟨g1, fun s => .block (g2 s)⟩
  | loopn _ _ ih1 ih2 => exact fun hf => let ⟨g1, g2⟩ := ih2 hf; let ⟨k1, k2⟩ := ih1 g1; ⟨k1, fun s => .loopn (k2 s) (g2 s)⟩
  | loopx _ hx ih => exact fun hf => let ⟨g1, g2⟩ := ih hf; ⟨g1, fun s => .loopx (g2 s) hx⟩
  | exit => exact fun hf => ⟨hf, fun s => .exit⟩
  | ret => exact fun hf => ⟨hf, fun s => .ret⟩

theorem BRes.frame {e : Env} {H : BH} {nb : Nat} (hf : H.row nb = .fresh) {r : BRes} {v : BV} (h : r.val e H = some v) (s : BSt) : r.val e (H.set nb s) = some v := by
  cases r with
  | tmp t => exact h
  | cell t n =>
    simp only [BRes.val] at h ⊢
    split at h
    · rename_i b i hb
      have : b ≠ nb := by
        rintro rfl
        rw [hf] at h
        cases h
      rw [BH.row_set_ne _ _ this]
      exact h
    · cases h
theorem resVals_frame {e : Env} {H : BH} {nb : Nat} (hf : H.row nb = .fresh) (s : BSt) : ∀ {rs : List BRes} {vs : List BV}, resVals e H rs = some vs → resVals e (H.set nb s) rs = some vs
  | [], vs, h => h
  | r :: rs, vs, h => by
    unfold resVals at h ⊢
    cases hr : r.val e H with
    | none => rw [hr] at h; cases h
    | some v =>
      rw [hr] at h
      rw [BRes.frame hf hr s]
      cases hrs : resVals e H rs with
      | none => rw [hrs] at h; cases h
      | some us =>
        rw [hrs] at h
        rw [resVals_frame hf s hrs]
        exact h

theorem CallN.framed {Γ : Ctx} (hext : Framed Γ.ext) : ∀ n, Framed (CallN Γ n)
  | 0 => fun _ _ _ _ _ _ h => h.elim
  | n + 1 => by
    intro f args H v H1 nb h hf
    rcases h with ⟨fn, hfn, x, e', hx, hxx, hr⟩ | h
    · obtain ⟨g1, g2⟩ := hx.frame (CallN.framed hext n) hf
      refine ⟨g1, fun s => .inl ⟨fn, hfn, x, e', g2 s, hxx, ?_⟩⟩
      unfold resOf at hr ⊢
      cases hrs : resVals e' H1 fn.results with
      | none => rw [hrs] at hr; cases hr
      | some us =>
        rw [hrs] at hr
        rw [resVals_frame hf s hrs]
        exact hr
    · obtain ⟨g1, g2⟩ := hext _ _ _ _ _ _ h hf
      exact ⟨g1, fun s => .inr (g2 s)⟩

theorem clsOk_elim {x y : BOper} (h : clsOk x y = true) : x.op.cls = 0 ∨ y.op.cls = 0 ∨ (x.op.cls = 1 ∧ y.op.cls = 1) ∨ (x.op.cls = 1 ∧ y.op.cls = 2) ∨ (x.op.cls = 1 ∧ y.op.cls = 3 ∧ apart x.op.rt y.op.rt = true) ∨
    (x.op.cls = 1 ∧ y.op.cls = 4 ∧ kept x.op.rt y.keep = true) ∨ (x.op.cls = 2 ∧ y.op.cls = 2) ∨ (x.op.cls = 3 ∧ y.op.cls = 2) ∨ (x.op.cls = 4 ∧ y.op.cls = 2) := by
  unfold clsOk at h
  split at h <;> simp_all

theorem op_no_call {base nb : Nat} {σ : Opd → BV} {H H1 : BH} {op : BOp} {v : BV} (h : op1 base nb σ H op = some (v, H1)) : op.cls ≠ 4 := by
  intro hc
  cases op with
  | call f xs => simp [op1] at h
  | len kd x =>
    match kd, hc with
    | 0, hc => simp [BOp.cls] at hc
    | 1, hc => simp [BOp.cls] at hc
    | 2, hc => simp [BOp.cls] at hc
    | n + 3, hc => simp [BOp.cls] at hc
  | _ => simp [BOp.cls] at hc

/-- Two neighbours change places. -/
theorem Eff.swap {base : Nat} {C : CRel} (hC : Framed C) {x y : BOper} {e : Env} {H H1 H2 : BH} {u v : BV} (hx : Eff base C x e H u H1) (hy : Eff base C y (e.puto x.dst u) H1 v H2) (hs : swapOk x y = true) :
    ∃ H1', Eff base C y e H v H1' ∧ Eff base C x (e.puto y.dst v) H1' u H2 ∧ (e.puto x.dst u).puto y.dst v = (e.puto y.dst v).puto x.dst u := by
  unfold swapOk at hs
  simp only [Bool.and_eq_true, Bool.not_eq_true', List.any_eq_false] at hs
  obtain ⟨⟨hd1, hd2⟩, hcl⟩ := hs
  have look_names : ∀ (o : BOper) (t : Nat), t ∈ o.looks → t ∈ o.names := by
    intro o t ht
    simp only [BOper.looks, BOper.names, List.mem_append] at ht ⊢
    rcases ht with ht | ht
    · exact .inl (.inr ht)
    · exact .inr ht
  have env : ∀ (o : BOper) (d : Option Nat) (w : BV) (e : Env), (∀ t ∈ d.toList, ¬ o.names.contains t = true) → ∀ t ∈ o.looks, (e.puto d w) t = e t := by
    intro o d w e hd t ht
    cases d with
    | none => rfl
    | some n =>
      have hne : t ≠ n := by
        rintro rfl
        exact hd t (by simp) (by simpa using look_names o t ht)
      simp [Env.puto, Env.put, hne]
  have hy0 : Eff base C y e H1 v H2 := hy.congr (env y x.dst u e hd1)
  have hput : (e.puto x.dst u).puto y.dst v = (e.puto y.dst v).puto x.dst u := by
    cases hxd : x.dst with
    | none => rfl
    | some a =>
      cases hyd : y.dst with
      | none => rfl
      | some b =>
        have hne : a ≠ b := by
          rintro rfl
          exact hd1 a (by simp [hxd]) (by simp [BOper.names, hyd])
        funext t
        simp only [Env.puto, Env.put]
        split <;> split <;> simp_all
  have key : ∃ H1', Eff base C y e H v H1' ∧ Eff base C x e H1' u H2 := by
    cases hx with
    | skip hw => exact ⟨H2, hy0, .skip hw⟩
    | @op nbx _ _ hwx hox =>
      have hx4 : x.op.cls ≠ 4 := op_no_call hox
      cases hy0 with
      | skip hw => exact ⟨H, .skip hw, .op hwx hox⟩
      | @op nby _ _ hwy hoy =>
        have hy4 : y.op.cls ≠ 4 := op_no_call hoy
        rcases clsOk_elim hcl with h0 | h0 | ⟨h0, h1⟩ | ⟨h0, h1⟩ | ⟨h0, h1, ha⟩ | ⟨h0, h1, ha⟩ | ⟨h0, h1⟩ | ⟨h0, h1⟩ | ⟨h0, h1⟩
        · obtain ⟨rfl, hK⟩ := op_pure h0 hox
          exact ⟨H2, .op hwy hoy, .op hwx (hK nbx H2)⟩
        · obtain ⟨rfl, hK⟩ := op_pure h0 hoy
          exact ⟨H, .op hwy (hK nby H), .op hwx hox⟩
        · obtain ⟨rfl, hK⟩ := op_read h0 hox
          obtain ⟨rfl, hK2⟩ := op_read h1 hoy
          exact ⟨_, .op hwy hoy, .op hwx hox⟩
        · obtain ⟨rfl, hK⟩ := op_read h0 hox
          obtain ⟨s, q1, q2, rfl, q4⟩ := op_make h1 hoy
          refine ⟨_, .op hwy hoy, .op hwx (hK nbx _ fun b t hb _ => BH.row_set_ne _ _ ?_)⟩
          rintro rfl
          exact ty_ne_fresh hb q2
        · obtain ⟨rfl, hK⟩ := op_read h0 hox
          unfold apart at ha
          split at ha
          · rename_i a c hxa hyc
            refine ⟨_, .op hwy hoy, .op hwx (hK nbx _ fun b t hb hq => op_write h1 hoy hyc b t hb ?_)⟩
            rw [← hq a hxa]
            simpa using ha
          · cases ha
        · exact absurd h1 hy4
        · obtain ⟨s, q1, q2, rfl, q4⟩ := op_make h0 hox
          obtain ⟨s', q1', q2', rfl, q4'⟩ := op_make h1 hoy
          have hne : nby ≠ nbx := by
            rintro rfl
            rw [BH.row_set_eq] at q2'
            exact q1 q2'
          rw [BH.row_set_ne _ _ hne] at q2'
          refine ⟨H.set nby s', .op hwy (q4' H q2'), .op (nb := nbx) hwx ?_⟩
          rw [q4 _ (by rw [BH.row_set_ne _ _ (Ne.symm hne)]; exact q2), BH.set_comm _ _ _ hne]
        · obtain ⟨s', q1', q2', rfl, q4'⟩ := op_make h1 hoy
          obtain ⟨g1, g2⟩ := op_frame hox q2'
          exact ⟨H.set nby s', .op hwy (q4' H g1), .op hwx (g2 s')⟩
        · exact absurd h0 hx4
      | @call f xs g caps _ _ hwy hoy hg hc hk =>
        have h4 : y.op.cls = 4 := by rw [hoy]; rfl
        rcases clsOk_elim hcl with h0 | h0 | ⟨h0, h1⟩ | ⟨h0, h1⟩ | ⟨h0, h1, ha⟩ | ⟨h0, h1, ha⟩ | ⟨h0, h1⟩ | ⟨h0, h1⟩ | ⟨h0, h1⟩
        · obtain ⟨rfl, hK⟩ := op_pure h0 hox
          exact ⟨H2, .call hwy hoy hg hc hk, .op hwx (hK nbx H2)⟩
        · omega
        · omega
        · omega
        · omega
        · obtain ⟨rfl, hK⟩ := op_read h0 hox
          refine ⟨H2, .call hwy hoy hg hc hk, .op hwx (hK nbx H2 fun b t hb hq => hk b t hb ?_)⟩
          unfold kept at ha
          split at ha
          · rename_i a hxa
            rw [← hq a hxa]
            simpa using ha
          · cases ha
        · omega
        · omega
        · omega
    | @call f xs g caps _ _ hwx hox hg hc hk =>
      have h4 : x.op.cls = 4 := by rw [hox]; rfl
      cases hy0 with
      | skip hw => exact ⟨H, .skip hw, .call hwx hox hg hc hk⟩
      | @op nby _ _ hwy hoy =>
        have hy4 : y.op.cls ≠ 4 := op_no_call hoy
        rcases clsOk_elim hcl with h0 | h0 | ⟨h0, h1⟩ | ⟨h0, h1⟩ | ⟨h0, h1, ha⟩ | ⟨h0, h1, ha⟩ | ⟨h0, h1⟩ | ⟨h0, h1⟩ | ⟨h0, h1⟩
        · omega
        · obtain ⟨rfl, hK⟩ := op_pure h0 hoy
          exact ⟨H, .op hwy (hK nby H), .call hwx hox hg hc hk⟩
        · omega
        · omega
        · omega
        · omega
        · omega
        · omega
        · obtain ⟨s', q1', q2', rfl, q4'⟩ := op_make h1 hoy
          obtain ⟨g1, g2⟩ := hC _ _ _ _ _ nby hc q2'
          exact ⟨H.set nby s', .op hwy (q4' H g1), .call hwx hox hg (g2 s') (keepsTys_frame hk)⟩
      | call hwy hoy hg' hc' hk' =>
        have h4' : y.op.cls = 4 := by rw [hoy]; rfl
        rcases clsOk_elim hcl with h0 | h0 | ⟨h0, h1⟩ | ⟨h0, h1⟩ | ⟨h0, h1, ha⟩ | ⟨h0, h1, ha⟩ | ⟨h0, h1⟩ | ⟨h0, h1⟩ | ⟨h0, h1⟩ <;> omega
  obtain ⟨H1', k1, k2⟩ := key
  exact ⟨H1', k1, k2.congr fun t ht => (env x y.dst v e hd2 t ht).symm, hput⟩

end Go.B
