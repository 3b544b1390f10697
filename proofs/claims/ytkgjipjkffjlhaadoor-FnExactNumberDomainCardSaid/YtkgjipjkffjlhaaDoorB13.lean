/-
The machine B's operations, out of order.
-/
import Derived.Test.YtkgjipjkffjlhaaDoorB12
namespace Go.B
set_option linter.unusedVariables false
set_option linter.unusedSimpArgs false

def BOper.looks (o : BOper) : List Nat := tmpsOf o.op.reads ++ (match o.guard with | some (t, _) => [t] | none => [])

theorem ev_congr {e e' : Env} {l : List Opd} (h : ∀ t ∈ tmpsOf l, e t = e' t) : ∀ x ∈ l, x.ev e = x.ev e' := by
  intro x hx
  cases x with
  | c v => rfl
  | t n =>
    refine h n ?_
    unfold tmpsOf
    exact List.mem_filterMap.2 ⟨_, hx, rfl⟩

theorem bound_congr {σ σ' : Opd → BV} {d : Nat} {x : Option Opd} (h : ∀ y, x = some y → σ y = σ' y) : boundB σ d x = boundB σ' d x := by
  cases x with
  | none => rfl
  | some y => simp [boundB, h y rfl]

theorem op1_congr {base nb : Nat} {σ σ' : Opd → BV} {H : BH} {op : BOp} (h : ∀ x ∈ op.reads, σ x = σ' x) : op1 base nb σ H op = op1 base nb σ' H op := by
  cases op with
  | build z ps =>
    have : (ps.map fun (o, n, x) => (o, n, σ x)) = ps.map fun (o, n, x) => (o, n, σ' x) := by
      refine List.map_congr_left fun p hp => ?_
      show (p.1, p.2.1, σ p.2.2) = (p.1, p.2.1, σ' p.2.2)
      rw [h p.2.2 (by simp only [BOp.reads]; exact List.mem_map.2 ⟨p, hp, rfl⟩)]
    simp only [op1, this]
  | mk ty n z ps =>
    have : (ps.map fun (o, n, x) => (o, n, σ x)) = ps.map fun (o, n, x) => (o, n, σ' x) := by
      refine List.map_congr_left fun p hp => ?_
      show (p.1, p.2.1, σ p.2.2) = (p.1, p.2.1, σ' p.2.2)
      rw [h p.2.2 (by simp only [BOp.reads]; exact List.mem_map.2 ⟨p, hp, rfl⟩)]
    simp only [op1, this]
  | mkfn f caps =>
    have : caps.map σ = caps.map σ' := List.map_congr_left fun x hx => h x hx
    simp only [op1, this]
  | slice sz x lo hi =>
    have h1 := h x (by simp [BOp.reads])
    have h2 : ∀ d, boundB σ d lo = boundB σ' d lo := fun d => bound_congr fun y hy => h y (by subst hy; simp [BOp.reads])
    have h3 : ∀ d, boundB σ d hi = boundB σ' d hi := fun d => bound_congr fun y hy => h y (by subst hy; simp [BOp.reads])
    simp only [op1, h1, h2, h3]
  | sslice x lo hi =>
    have h1 := h x (by simp [BOp.reads])
    have h2 : ∀ d, boundB σ d lo = boundB σ' d lo := fun d => bound_congr fun y hy => h y (by subst hy; simp [BOp.reads])
    have h3 : ∀ d, boundB σ d hi = boundB σ' d hi := fun d => bound_congr fun y hy => h y (by subst hy; simp [BOp.reads])
    simp only [op1, h1, h2, h3]
  | call f xs => rfl
  | new ty z => rfl
  | mkmap => rfl
  | _ =>
    simp only [BOp.reads, List.mem_cons, List.not_mem_nil, or_false, forall_eq_or_imp, forall_eq] at h
    simp only [op1, h]

/-- What one operation yields, and what it leaves of memory. -/
inductive Eff (base : Nat) (C : CRel) (o : BOper) (e : Env) (H : BH) : BV → BH → Prop where
  | skip : wantB e o.guard = some false → Eff base C o e H (.tup []) H
  | op {nb : Nat} {v : BV} {H1 : BH} : wantB e o.guard = some true → op1 base nb (·.ev e) H o.op = some (v, H1) → Eff base C o e H v H1
  | call {f : Opd} {xs : List Opd} {g : Nat} {caps : List BV} {v : BV} {H1 : BH} : wantB e o.guard = some true → o.op = .call f xs → f.ev e = .fn g caps → C g (xs.map (·.ev e) ++ caps) H v H1 →
      H.KeepsTys o.keep H1 → Eff base C o e H v H1

theorem exO_cons {base : Nat} {C : CRel} {o : BOper} {r : List BOper} {e e' : Env} {H H' : BH} : ExO base C (o :: r) e H e' H' ↔ ∃ v H1, Eff base C o e H v H1 ∧ ExO base C r (e.puto o.dst v) H1 e' H' := by
  constructor
  · intro h
    cases h with
    | skip hw hr => exact ⟨_, _, .skip hw, hr⟩
    | op hw ho hr => exact ⟨_, _, .op hw ho, hr⟩
    | call hw ho hf hc hk hr => exact ⟨_, _, .call hw ho hf hc hk, hr⟩
  · rintro ⟨v, H1, h, hr⟩
    cases h with
    | skip hw => exact .skip hw hr
    | op hw ho => exact .op hw ho hr
    | call hw ho hf hc hk => exact .call hw ho hf hc hk hr

theorem want_congr {e e' : Env} {g : Option (Nat × Bool)} (h : ∀ t b, g = some (t, b) → e t = e' t) : wantB e g = wantB e' g := by
  cases g with
  | none => rfl
  | some p => obtain ⟨t, b⟩ := p; simp [wantB, h t b rfl]

theorem Eff.congr {base : Nat} {C : CRel} {o : BOper} {e e' : Env} {H H1 : BH} {v : BV} (h : ∀ t ∈ o.looks, e t = e' t) (k : Eff base C o e H v H1) : Eff base C o e' H v H1 := by
  have hw : wantB e o.guard = wantB e' o.guard := want_congr fun t b hg => h t (by simp [BOper.looks, hg])
  have hr : ∀ x ∈ o.op.reads, x.ev e = x.ev e' := ev_congr fun t ht => h t (by simp [BOper.looks, ht])
  cases k with
  | skip k => exact .skip (hw ▸ k)
  | op k k2 => exact .op (hw ▸ k) (by rw [← op1_congr hr]; exact k2)
  | @call f xs g caps v H1 k ho hf hc hk =>
    rw [ho] at hr
    refine .call (f := f) (xs := xs) (g := g) (caps := caps) (hw ▸ k) ho ?_ ?_ hk
    · rw [← hr f (by simp [BOp.reads])]; exact hf
    · have : xs.map (·.ev e') = xs.map (·.ev e) := List.map_congr_left fun x hx => (hr x (by simp [BOp.reads, hx])).symm
      rw [this]
      exact hc

theorem op_pure_eq {base : Nat} {σ : Opd → BV} {op : BOp} (hc : op.cls = 0) (nb nb' : Nat) (H K : BH) : op1 base nb σ H op = (op1 base nb' σ K op).map fun p => (p.1, H) := by
  have hm : ∀ {α : Type} (r : Option α) (f : α → BV), r.map (fun a => (f a, H)) = (r.map (fun a => (f a, K))).map fun p => (p.1, H) := by
    intro α r f
    cases r <;> rfl
  cases op
  case len kd x =>
    match kd, hc with
    | 0, _ => cases hx : σ x <;> simp only [op1, hx] <;> rfl
    | 1, _ => cases hx : σ x <;> simp only [op1, hx] <;> rfl
    | 2, hc => simp [BOp.cls] at hc
    | n + 3, _ => rfl
  all_goals simp [BOp.cls] at hc
  all_goals simp only [op1]
  all_goals first
    | rfl
    | exact hm _ _
    | ((repeat' split) <;> first | rfl | exact hm _ _)

theorem op_pure {base nb : Nat} {σ : Opd → BV} {H H1 : BH} {op : BOp} {v : BV} (hc : op.cls = 0) (h : op1 base nb σ H op = some (v, H1)) : H1 = H ∧ ∀ nb K, op1 base nb σ K op = some (v, K) := by
  have h2 := op_pure_eq (base := base) (σ := σ) hc nb nb H H
  rw [h] at h2
  simp at h2
  refine ⟨h2, fun nb' K => ?_⟩
  rw [op_pure_eq hc nb' nb K H, h]
  rfl

/-- What reads. -/
theorem op_read {base nb : Nat} {σ : Opd → BV} {H H1 : BH} {op : BOp} {v : BV} (hc : op.cls = 1) (h : op1 base nb σ H op = some (v, H1)) :
    H1 = H ∧ ∀ nb K, (∀ b t, (H.row b).ty = some t → (∀ q, op.rt = some q → q = t) → K.row b = H.row b) → op1 base nb σ K op = some (v, K) := by
  cases op with
  | load rt n a =>
    simp only [op1] at h ⊢
    cases ha : σ a with
    | ptr b i =>
      simp only [ha] at h ⊢
      cases hb : H.row b with
      | arr ty cs =>
        simp only [hb] at h
        split at h
        · rename_i hcnd
          cases hq : asm n ((cs.drop i).take (n.getD 1)) with
          | none => rw [hq] at h; cases h
          | some q =>
            rw [hq] at h
            simp at h
            refine ⟨h.2.symm, fun nb K hK => ?_⟩
            have : K.row b = H.row b := hK b ty (by rw [hb]; rfl) fun q e => by
              simp only [BOp.rt] at e
              subst e
              simpa [rtOk] using hcnd.1
            rw [this, hb]
            simp only [hcnd, if_true, and_self, hq]
            simp [h.1]
        · cases h
      | _ => simp only [hb] at h; cases h
    | _ => simp only [ha] at h; cases h
  | b2s ty x =>
    simp only [op1] at h ⊢
    cases ha : σ x with
    | nils =>
      simp only [ha] at h ⊢
      simp at h
      exact ⟨h.2.symm, fun nb K _ => by simp [h.1]⟩
    | sl b i n =>
      simp only [ha] at h ⊢
      cases hb : H.row b with
      | arr t cs =>
        simp only [hb] at h
        split at h
        · rename_i hcnd
          cases hq : bytesB ((cs.drop i).take n) with
          | none => rw [hq] at h; cases h
          | some q =>
            rw [hq] at h
            simp at h
            refine ⟨h.2.symm, fun nb K hK => ?_⟩
            have : K.row b = H.row b := hK b t (by rw [hb]; rfl) fun q e => by
              simp only [BOp.rt, Option.some.injEq] at e
              rw [← e, hcnd.1]
            rw [this, hb]
            simp only [hcnd, if_true, and_self, hq]
            simp [h.1]
        · cases h
      | _ => simp only [hb] at h; cases h
    | _ => simp only [ha] at h; cases h
  | look kd okk z m k =>
    simp only [op1] at h ⊢
    cases ha : σ m with
    | mp b =>
      simp only [ha] at h ⊢
      cases hb : H.row b with
      | mp es =>
        simp only [hb] at h
        split at h
        rotate_left
        · cases h
        rename_i hok
        cases hq : mapGet kd es (σ k) with
        | none => rw [hq] at h; cases h
        | some q =>
          rw [hq] at h
          simp at h
          refine ⟨h.2.symm, fun nb K hK => ?_⟩
          have : K.row b = H.row b := hK b mapTy (by rw [hb]; rfl) fun q e => by
            simp only [BOp.rt, Option.some.injEq] at e
            exact e.symm
          rw [this, hb]
          simp [hq, h.1, hok]
      | _ => simp only [hb] at h; cases h
    | _ => simp only [ha] at h; cases h
  | len kd x =>
    match kd, hc with
    | 2, _ =>
      cases ha : σ x with
      | nilm =>
        simp only [op1, ha] at h ⊢
        simp at h
        exact ⟨h.2.symm, fun nb K _ => by simp [h.1]⟩
      | mp b =>
        simp only [op1, ha] at h ⊢
        cases hb : H.row b with
        | mp es =>
          simp only [hb] at h
          simp at h
          refine ⟨h.2.symm, fun nb K hK => ?_⟩
          have : K.row b = H.row b := hK b mapTy (by rw [hb]; rfl) fun q e => by
            simp only [BOp.rt, Option.some.injEq] at e
            exact e.symm
          rw [this, hb]
          simp [h.1]
        | _ => simp only [hb] at h; cases h
      | _ => simp only [op1, ha] at h; cases h
    | 0, hc => simp [BOp.cls] at hc
    | 1, hc => simp [BOp.cls] at hc
    | n + 3, hc => simp [BOp.cls] at hc
  | _ => simp [BOp.cls] at hc

theorem make_some {base nb : Nat} {H K : BH} {s : BSt} {f : BH → BV × BH} {v : BV} (hf : ∀ K, f K = (v, K)) (h : (H.make base nb s).map f = some (v, K)) : H.row nb = .fresh ∧ base ≤ nb ∧ K = H.set nb s := by
  cases hm : H.make base nb s with
  | none => rw [hm] at h; cases h
  | some L =>
    rw [hm] at h
    simp [hf] at h
    obtain ⟨h1, h2, rfl⟩ := make_elim hm
    exact ⟨h1, h2, h.symm⟩
theorem make_of {base nb : Nat} {H : BH} {s : BSt} (h1 : H.row nb = .fresh) (h2 : base ≤ nb) : H.make base nb s = some (H.set nb s) := by
  simp [BH.make, h1, h2]

/-- What makes a row. -/
theorem op_make {base nb : Nat} {σ : Opd → BV} {H H1 : BH} {op : BOp} {v : BV} (hc : op.cls = 2) (h : op1 base nb σ H op = some (v, H1)) :
    ∃ s, s ≠ .fresh ∧ H.row nb = .fresh ∧ H1 = H.set nb s ∧ ∀ K : BH, K.row nb = .fresh → op1 base nb σ K op = some (v, K.set nb s) := by
  have fin : ∀ {s : BSt} {u : BV} , s ≠ .fresh → (H.make base nb s).map (fun K => (u, K)) = some (v, H1) → ∃ s', s' ≠ .fresh ∧ H.row nb = .fresh ∧ H1 = H.set nb s' ∧ ∀ K : BH, K.row nb = .fresh → (K.make base nb s).map (fun K => (u, K)) = some (v, K.set nb s') := by
    intro s u hs hh
    cases hm : H.make base nb s with
    | none => rw [hm] at hh; cases hh
    | some L =>
      rw [hm] at hh
      simp at hh
      obtain ⟨rfl, rfl⟩ := hh
      obtain ⟨h1, h2, rfl⟩ := make_elim hm
      exact ⟨s, hs, h1, rfl, fun K hK => by rw [make_of hK h2]; rfl⟩
  cases op with
  | new ty z => exact fin (by simp) h
  | box ty x =>
    simp only [op1] at h ⊢
    split at h
    · rename_i h1
      obtain ⟨s, q1, q2, q3, q4⟩ := fin (by simp) h
      exact ⟨s, q1, q2, q3, fun K hK => by simp only [h1, if_true]; exact q4 K hK⟩
    · cases h
  | mk ty n z ps =>
    simp only [op1] at h ⊢
    split at h
    · rename_i cs h1
      exact fin (by simp) h
    · cases h
  | mkmap => exact fin (by simp) h
  | mksl ty by_ z l c =>
    simp only [op1] at h ⊢
    split at h
    · rename_i k n k' c e1 e2
      split at h
      · rename_i h1
        obtain ⟨s, q1, q2, q3, q4⟩ := fin (by simp) h
        exact ⟨s, q1, q2, q3, fun K hK => by rw [if_pos h1]; exact q4 K hK⟩
      · cases h
    · cases h
  | len kd x =>
    match kd, hc with
    | 0, hc => simp [BOp.cls] at hc
    | 1, hc => simp [BOp.cls] at hc
    | 2, hc => simp [BOp.cls] at hc
    | n + 3, hc => simp [BOp.cls] at hc
  | _ => simp [BOp.cls] at hc

end Go.B
