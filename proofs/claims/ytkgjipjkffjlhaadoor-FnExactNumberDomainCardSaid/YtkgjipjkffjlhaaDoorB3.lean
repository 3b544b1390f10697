/-
How the machine B goes through code, and how that is shown.
-/
import Derived.Test.YtkgjipjkffjlhaaDoorB2
namespace Go.B
set_option linter.unusedVariables false
set_option linter.unusedSimpArgs false

abbrev CRel := Nat → List BV → BH → BV → BH → Prop

structure Ctx where
  base : Nat
  fn : Nat → Option BFun
  ext : CRel

def argEnv (args : List BV) : Env := fun t => args.getD t (.tup [])

def wantB (e : Env) : Option (Nat × Bool) → Option Bool
  | none => some true
  | some (t, b) => match e t with
    | .bool c => some (c == b)
    | .tup [] => some false
    | _ => none

def BExit.outOf (id : Nat) : BExit → BExit
  | .exit i => if i = id then .normal else .exit i
  | x => x

inductive ExO (base : Nat) (C : CRel) : List BOper → Env → BH → Env → BH → Prop where
  | nil {e : Env} {H : BH} : ExO base C [] e H e H
  | skip {o : BOper} {r : List BOper} {e e' : Env} {H H' : BH} : wantB e o.guard = some false → ExO base C r (e.puto o.dst (.tup [])) H e' H' → ExO base C (o :: r) e H e' H'
  | op {o : BOper} {r : List BOper} {e e' : Env} {H H1 H' : BH} {nb : Nat} {v : BV} : wantB e o.guard = some true → op1 base nb (·.ev e) H o.op = some (v, H1) →
      ExO base C r (e.puto o.dst v) H1 e' H' → ExO base C (o :: r) e H e' H'
  | call {o : BOper} {r : List BOper} {e e' : Env} {H H1 H' : BH} {f : Opd} {xs : List Opd} {g : Nat} {caps : List BV} {v : BV} : wantB e o.guard = some true → o.op = .call f xs →
      f.ev e = .fn g caps → C g (xs.map (·.ev e) ++ caps) H v H1 → H.KeepsTys o.keep H1 → ExO base C r (e.puto o.dst v) H1 e' H' → ExO base C (o :: r) e H e' H'

inductive ExC (base : Nat) (C : CRel) : BCode → Env → BH → BExit → Env → BH → Prop where
  | skip {e : Env} {H : BH} : ExC base C .skip e H .normal e H
  | region {ops : List BOper} {e e' : Env} {H H' : BH} : ExO base C ops e H e' H' → ExC base C (.region ops) e H .normal e' H'
  | seq {a b : BCode} {x : BExit} {e e1 e2 : Env} {H H1 H2 : BH} : ExC base C a e H .normal e1 H1 → ExC base C b e1 H1 x e2 H2 → ExC base C (.seq a b) e H x e2 H2
  | seqx {a b : BCode} {x : BExit} {e e1 : Env} {H H1 : BH} : ExC base C a e H x e1 H1 → x ≠ .normal → ExC base C (.seq a b) e H x e1 H1
  | thn {c : Opd} {a b : BCode} {x : BExit} {e e1 : Env} {H H1 : BH} : c.ev e = .bool true → ExC base C a e H x e1 H1 → ExC base C (.cond c a b) e H x e1 H1
  | els {c : Opd} {a b : BCode} {x : BExit} {e e1 : Env} {H H1 : BH} : c.ev e = .bool false → ExC base C b e H x e1 H1 → ExC base C (.cond c a b) e H x e1 H1
  | block {id : Nat} {b : BCode} {x : BExit} {e e1 : Env} {H H1 : BH} : ExC base C b e H x e1 H1 → ExC base C (.block id b) e H (x.outOf id) e1 H1
  | loopn {b : BCode} {x : BExit} {e e1 e2 : Env} {H H1 H2 : BH} : ExC base C b e H .normal e1 H1 → ExC base C (.loop b) e1 H1 x e2 H2 → ExC base C (.loop b) e H x e2 H2
  | loopx {b : BCode} {x : BExit} {e e1 : Env} {H H1 : BH} : ExC base C b e H x e1 H1 → x ≠ .normal → ExC base C (.loop b) e H x e1 H1
  | exit {id : Nat} {e : Env} {H : BH} : ExC base C (.exit id) e H (.exit id) e H
  | ret {e : Env} {H : BH} : ExC base C .ret e H .ret e H

def BRes.val (e : Env) (H : BH) : BRes → Option BV
  | .tmp t => some (e t)
  | .cell t n => match e t with
    | .ptr b o => match H.row b with
      | .arr _ cs => if o + n.getD 1 ≤ cs.length then asm n ((cs.drop o).take (n.getD 1)) else none
      | _ => none
    | _ => none
def resVals (e : Env) (H : BH) : List BRes → Option (List BV)
  | [] => some []
  | r :: rs => match r.val e H with
    | some v => (resVals e H rs).map (v :: ·)
    | none => none
def oneOf : List BV → BV
  | [v] => v
  | vs => .tup vs
def resOf (rs : List BRes) (e : Env) (H : BH) : Option BV := (resVals e H rs).map oneOf

def CallN (Γ : Ctx) : Nat → CRel
  | 0 => fun _ _ _ _ _ => False
  | n + 1 => fun f args H v H' => (∃ fn, Γ.fn f = some fn ∧ ∃ x e', ExC Γ.base (CallN Γ n) fn.body (argEnv args) H x e' H' ∧ (x = .normal ∨ x = .ret) ∧ resOf fn.results e' H' = some v) ∨
      Γ.ext f args H v H'
def Runs (Γ : Ctx) : CRel := fun f args H v H' => ∃ n, CallN Γ n f args H v H'

theorem ExO.mono {base : Nat} {C D : CRel} (h : ∀ f args H v H', C f args H v H' → D f args H v H') {l : List BOper} {e e' : Env} {H H' : BH}
    (x : ExO base C l e H e' H') : ExO base D l e H e' H' := by
  induction x with
  | nil => exact .nil
  | skip hw _ ih => exact .skip hw ih
  | op hw ho _ ih => exact .op hw ho ih
  | call hw ho hf hc hk _ ih => exact .call hw ho hf (h _ _ _ _ _ hc) hk ih
theorem ExC.mono {base : Nat} {C D : CRel} (h : ∀ f args H v H', C f args H v H' → D f args H v H') {c : BCode} {e e' : Env} {H H' : BH} {x : BExit}
    (k : ExC base C c e H x e' H') : ExC base D c e H x e' H' := by
  induction k with
  | skip => exact .skip
  | region hr => exact .region (hr.mono h)
  | seq _ _ ih1 ih2 => exact .seq ih1 ih2
  | seqx _ hx ih => exact .seqx ih hx
  | thn hc _ ih => exact .thn hc ih
  | els hc _ ih => exact .els hc ih
  | block _ ih => exact .block ih
  | loopn _ _ ih1 ih2 => exact .loopn ih1 ih2
  | loopx _ hx ih => exact .loopx ih hx
  | exit => exact .exit
  | ret => exact .ret

theorem CallN.succ {Γ : Ctx} : ∀ (n : Nat) (f : Nat) (args : List BV) (H : BH) (v : BV) (H' : BH), CallN Γ n f args H v H' → CallN Γ (n + 1) f args H v H'
  | 0, _, _, _, _, _, h => h.elim
  | n + 1, f, args, H, v, H', h => by
    rcases h with ⟨fn, hf, x, e', hx, hr⟩ | h
    · exact .inl ⟨fn, hf, x, e', hx.mono (CallN.succ n), hr⟩
    · exact .inr h
theorem CallN.le {Γ : Ctx} {n m : Nat} (h : n ≤ m) (f : Nat) (args : List BV) (H : BH) (v : BV) (H' : BH) (c : CallN Γ n f args H v H') : CallN Γ m f args H v H' := by
  induction h with
  | refl => exact c
  | step _ ih => exact CallN.succ _ _ _ _ _ _ ih

theorem ExO.at {Γ : Ctx} {base : Nat} {l : List BOper} {e e' : Env} {H H' : BH} (x : ExO base (Runs Γ) l e H e' H') : ∃ n, ExO base (CallN Γ n) l e H e' H' := by
  induction x with
  | nil => exact ⟨0, .nil⟩
  | skip hw _ ih => obtain ⟨n, h⟩ := ih; exact ⟨n, .skip hw h⟩
  | op hw ho _ ih => obtain ⟨n, h⟩ := ih; exact ⟨n, .op hw ho h⟩
  | call hw ho hf hc hk _ ih =>
    obtain ⟨n, h⟩ := ih
    obtain ⟨m, c⟩ := hc
    exact ⟨max n m, .call hw ho hf (CallN.le (Nat.le_max_right n m) _ _ _ _ _ c) hk (h.mono (CallN.le (Nat.le_max_left n m)))⟩
theorem ExC.at {Γ : Ctx} {base : Nat} {c : BCode} {e e' : Env} {H H' : BH} {x : BExit} (k : ExC base (Runs Γ) c e H x e' H') : ∃ n, ExC base (CallN Γ n) c e H x e' H' := by
  induction k with
  | skip => exact ⟨0, .skip⟩
  | region hr => obtain ⟨n, h⟩ := hr.at; exact ⟨n, .region h⟩
  | seq _ _ ih1 ih2 =>
    obtain ⟨n, h⟩ := ih1; obtain ⟨m, k⟩ := ih2
    exact ⟨max n m, .seq (h.mono (CallN.le (Nat.le_max_left n m))) (k.mono (CallN.le (Nat.le_max_right n m)))⟩
  | seqx _ hx ih => obtain ⟨n, h⟩ := ih; exact ⟨n, .seqx h hx⟩
  | thn hc _ ih => obtain ⟨n, h⟩ := ih; exact ⟨n, .thn hc h⟩
  | els hc _ ih => obtain ⟨n, h⟩ := ih; exact ⟨n, .els hc h⟩
  | block _ ih => obtain ⟨n, h⟩ := ih; exact ⟨n, .block h⟩
  | loopn _ _ ih1 ih2 =>
    obtain ⟨n, h⟩ := ih1; obtain ⟨m, k⟩ := ih2
    exact ⟨max n m, .loopn (h.mono (CallN.le (Nat.le_max_left n m))) (k.mono (CallN.le (Nat.le_max_right n m)))⟩
  | loopx _ hx ih => obtain ⟨n, h⟩ := ih; exact ⟨n, .loopx h hx⟩
  | exit => exact ⟨0, .exit⟩
  | ret => exact ⟨0, .ret⟩

/-! ### what has to be shown -/
def BOp.makes : BOp → Bool
  | .new _ _ | .box _ _ | .mk _ _ _ _ | .mkmap | .mksl _ _ _ _ _ | .app _ _ _ _ _ => true
  | _ => false

def after (r : Option (BV × BH)) (dst : Option Nat) (K : Env → BH → Prop) (e : Env) : Prop := match r with
  | some (v, H1) => K (e.puto dst v) H1
  | none => False

def wpStep (base : Nat) (C : CRel) (o : BOper) (K : Env → BH → Prop) (e : Env) (H : BH) : Prop := match o.op with
  | .call f xs => match f.ev e with
    | .fn g caps => ∃ v H1, C g (xs.map (·.ev e) ++ caps) H v H1 ∧ H.KeepsTys o.keep H1 ∧ K (e.puto o.dst v) H1
    | _ => False
  | op => if op.makes then ∀ nb, base ≤ nb → H.row nb = .fresh → after (op1 base nb (·.ev e) H op) o.dst K e else after (op1 base 0 (·.ev e) H op) o.dst K e

def wpO (base : Nat) (C : CRel) : List BOper → (Env → BH → Prop) → Env → BH → Prop
  | [], Q, e, H => Q e H
  | o :: r, Q, e, H => match wantB e o.guard with
    | some true => wpStep base C o (wpO base C r Q) e H
    | some false => wpO base C r Q (e.puto o.dst (.tup [])) H
    | none => False

theorem after_elim {r : Option (BV × BH)} {dst : Option Nat} {K : Env → BH → Prop} {e : Env} (h : after r dst K e) : ∃ v H1, r = some (v, H1) ∧ K (e.puto dst v) H1 := by
  cases r with
  | none => exact h.elim
  | some p => exact ⟨p.1, p.2, rfl, h⟩

theorem wpStep_elim {base : Nat} {C : CRel} {o : BOper} {K : Env → BH → Prop} {e : Env} {H : BH} (h : wpStep base C o K e H) :
    (∃ nb v H1, op1 base nb (·.ev e) H o.op = some (v, H1) ∧ K (e.puto o.dst v) H1) ∨
    (∃ f xs g caps v H1, o.op = .call f xs ∧ f.ev e = .fn g caps ∧ C g (xs.map (·.ev e) ++ caps) H v H1 ∧ H.KeepsTys o.keep H1 ∧ K (e.puto o.dst v) H1) := by
  unfold wpStep at h
  split at h
  · rename_i f xs ho
    split at h
    · rename_i g caps hf
      obtain ⟨v, H1, hc, hk, hK⟩ := h
      exact .inr ⟨f, xs, g, caps, v, H1, ho, hf, hc, hk, hK⟩
    · exact h.elim
  · split at h
    · obtain ⟨nb, hb, hn⟩ := H.exists_fresh base
      obtain ⟨v, H1, ho, hK⟩ := after_elim (h nb hb hn)
      exact .inl ⟨nb, v, H1, ho, hK⟩
    · obtain ⟨v, H1, ho, hK⟩ := after_elim h
      exact .inl ⟨0, v, H1, ho, hK⟩

theorem wpO_elim {base : Nat} {C : CRel} {Q : Env → BH → Prop} : ∀ {l : List BOper} {e : Env} {H : BH}, wpO base C l Q e H → ∃ e' H', ExO base C l e H e' H' ∧ Q e' H'
  | [], e, H, h => ⟨e, H, .nil, h⟩
  | o :: r, e, H, h => by
    unfold wpO at h
    split at h
    · rename_i hw
      rcases wpStep_elim h with ⟨nb, v, H1, ho, hK⟩ | ⟨f, xs, g, caps, v, H1, ho, hf, hc, hk, hK⟩
      · obtain ⟨e', H', hx, hQ⟩ := wpO_elim hK
        exact ⟨e', H', .op hw ho hx, hQ⟩
      · obtain ⟨e', H', hx, hQ⟩ := wpO_elim hK
        exact ⟨e', H', .call hw ho hf hc hk hx, hQ⟩
    · rename_i hw
      obtain ⟨e', H', hx, hQ⟩ := wpO_elim h
      exact ⟨e', H', .skip hw hx, hQ⟩
    · exact h.elim

abbrev Post := BExit → Env → BH → Prop
def Post.then (K : Env → BH → Prop) (Q : Post) : Post
  | .normal, e, H => K e H
  | x, e, H => Q x e H
def Post.inBlock (id : Nat) (Q : Post) : Post := fun x e H => Q (x.outOf id) e H

def wpC (base : Nat) (C : CRel) : BCode → Post → Env → BH → Prop
  | .skip, Q, e, H => Q .normal e H
  | .region ops, Q, e, H => wpO base C ops (Q .normal) e H
  | .seq a b, Q, e, H => wpC base C a (Post.then (wpC base C b Q) Q) e H
  | .cond c a b, Q, e, H => match c.ev e with
    | .bool true => wpC base C a Q e H
    | .bool false => wpC base C b Q e H
    | _ => False
  | .block id b, Q, e, H => wpC base C b (Post.inBlock id Q) e H
  | .loop b, Q, e, H => ∃ x e' H', ExC base C (.loop b) e H x e' H' ∧ Q x e' H'
  | .exit id, Q, e, H => Q (.exit id) e H
  | .ret, Q, e, H => Q .ret e H

theorem wpC_elim {base : Nat} {C : CRel} : ∀ {c : BCode} {Q : Post} {e : Env} {H : BH}, wpC base C c Q e H → ∃ x e' H', ExC base C c e H x e' H' ∧ Q x e' H'
  | .skip, Q, e, H, h => ⟨_, _, _, .skip, h⟩
  | .region ops, Q, e, H, h => let ⟨e', H', hx, hQ⟩ := wpO_elim h; ⟨_, _, _, .region hx, hQ⟩
  | .seq a b, Q, e, H, h => by
    obtain ⟨x, e1, H1, hx, hQ⟩ := wpC_elim (c := a) h
    cases x with
    | normal =>
      obtain ⟨x, e2, H2, hy, hQ⟩ := wpC_elim (c := b) hQ
      exact ⟨x, e2, H2, .seq hx hy, hQ⟩
    | exit i => exact ⟨_, e1, H1, .seqx hx (by simp), hQ⟩
    | ret => exact ⟨_, e1, H1, .seqx hx (by simp), hQ⟩
  | .cond c a b, Q, e, H, h => by
    unfold wpC at h
    split at h
    · rename_i hc
      obtain ⟨x, e1, H1, hx, hQ⟩ := wpC_elim (c := a) h
      exact ⟨x, e1, H1, .thn hc hx, hQ⟩
    · rename_i hc
      obtain ⟨x, e1, H1, hx, hQ⟩ := wpC_elim (c := b) h
      exact ⟨x, e1, H1, .els hc hx, hQ⟩
    · exact h.elim
  | .block id b, Q, e, H, h => by
    obtain ⟨x, e1, H1, hx, hQ⟩ := wpC_elim (c := b) h
    exact ⟨_, e1, H1, .block hx, hQ⟩
  | .loop b, Q, e, H, h => h
  | .exit id, Q, e, H, h => ⟨_, _, _, .exit, h⟩
  | .ret, Q, e, H, h => ⟨_, _, _, .ret, h⟩

theorem after_mono {r : Option (BV × BH)} {dst : Option Nat} {K K' : Env → BH → Prop} (hk : ∀ e H, K e H → K' e H) {e : Env} (h : after r dst K e) : after r dst K' e := by
  cases r with
  | none => exact h.elim
  | some p => exact hk _ _ h
theorem wpStep_mono {base : Nat} {C : CRel} {o : BOper} {K K' : Env → BH → Prop} (hk : ∀ e H, K e H → K' e H) {e : Env} {H : BH} (h : wpStep base C o K e H) : wpStep base C o K' e H := by
  unfold wpStep at *
  cases o with
  | mk dst op g kp =>
    cases op with
    | call f xs =>
      dsimp only at h ⊢
      cases hf : f.ev e <;> simp only [hf] at h ⊢
      obtain ⟨v, H1, hc, hk1, hK⟩ := h
      exact ⟨v, H1, hc, hk1, hk _ _ hK⟩
    | _ =>
      simp only [BOp.makes, Bool.false_eq_true, if_false, if_true] at h ⊢
      first
        | exact after_mono hk h
        | exact fun nb hb hn => after_mono hk (h nb hb hn)
theorem wpO_mono {base : Nat} {C : CRel} {Q Q' : Env → BH → Prop} (hq : ∀ e H, Q e H → Q' e H) : ∀ {l : List BOper} {e : Env} {H : BH}, wpO base C l Q e H → wpO base C l Q' e H
  | [], e, H, h => hq _ _ h
  | o :: r, e, H, h => by
    unfold wpO at h ⊢
    cases hw : wantB e o.guard with
    | none => rw [hw] at h; exact h.elim
    | some t =>
      cases t
      · rw [hw] at h; exact wpO_mono hq h
      · rw [hw] at h; exact wpStep_mono (fun _ _ => wpO_mono hq) h

theorem wpC_mono {base : Nat} {C : CRel} : ∀ {c : BCode} {Q Q' : Post} {e : Env} {H : BH}, (∀ x e H, Q x e H → Q' x e H) → wpC base C c Q e H → wpC base C c Q' e H
  | .skip, _, _, _, _, hq, h => hq _ _ _ h
  | .region ops, _, _, _, _, hq, h => wpO_mono (hq _) h
  | .seq a b, Q, Q', _, _, hq, h => wpC_mono (c := a) (fun x e H hx => by
      cases x with
      | normal => exact wpC_mono (c := b) hq hx
      | exit i => exact hq _ _ _ hx
      | ret => exact hq _ _ _ hx) h
  | .cond c a b, _, _, e, _, hq, h => by
    unfold wpC at h ⊢
    cases hc : c.ev e with
    | bool t =>
      cases t
      · rw [hc] at h; exact wpC_mono (c := b) hq h
      · rw [hc] at h; exact wpC_mono (c := a) hq h
    | _ => rw [hc] at h; exact h.elim
  | .block id b, _, _, _, _, hq, h => wpC_mono (c := b) (fun x e H hx => hq _ _ _ hx) h
  | .loop b, _, _, _, _, hq, ⟨x, e', H', h, hx⟩ => ⟨x, e', H', h, hq _ _ _ hx⟩
  | .exit id, _, _, _, _, hq, h => hq _ _ _ h
  | .ret, _, _, _, _, hq, h => hq _ _ _ h

/-- A loop: what holds before each round, and what gets less with each. -/
theorem wpC_loop {base : Nat} {C : CRel} {b : BCode} {Q : Post} {e : Env} {H : BH} (I : Env → BH → Prop) (μ : Env → BH → Nat) (h0 : I e H)
    (round : ∀ e H, I e H → wpC base C b (Post.then (fun e' H' => I e' H' ∧ μ e' H' < μ e H) Q) e H) : wpC base C (.loop b) Q e H := by
  show ∃ x e' H', ExC base C (.loop b) e H x e' H' ∧ Q x e' H'
  have key : ∀ n e H, μ e H = n → I e H → ∃ x e' H', ExC base C (.loop b) e H x e' H' ∧ Q x e' H' := by
    intro n
    induction n using Nat.strongRecOn with
    | _ n ih =>
      intro e H hn hI
      obtain ⟨x, e1, H1, hx, hQ⟩ := wpC_elim (round e H hI)
      cases x with
      | normal =>
        obtain ⟨hI1, hlt⟩ := hQ
        obtain ⟨x, e2, H2, hy, hQ⟩ := ih _ (hn ▸ hlt) e1 H1 rfl hI1
        exact ⟨x, e2, H2, .loopn hx hy, hQ⟩
      | exit i => exact ⟨_, e1, H1, .loopx hx (by simp), hQ⟩
      | ret => exact ⟨_, e1, H1, .loopx hx (by simp), hQ⟩
  exact key _ e H rfl h0

/-- A function does what its body does. -/
theorem call_of_wp {Γ : Ctx} {f : Nat} {fn : BFun} {args : List BV} {H : BH} {R : BV → BH → Prop} (hf : Γ.fn f = some fn)
    (h : wpC Γ.base (Runs Γ) fn.body (fun x e' H' => (x = .normal ∨ x = .ret) ∧ ∃ v, resOf fn.results e' H' = some v ∧ R v H') (argEnv args) H) :
    ∃ v H', Runs Γ f args H v H' ∧ R v H' := by
  obtain ⟨x, e', H', hx, hxx, v, hv, hR⟩ := wpC_elim h
  obtain ⟨n, hx⟩ := hx.at
  exact ⟨v, H', ⟨n + 1, .inl ⟨fn, hf, x, e', hx, hxx, hv⟩⟩, hR⟩

end Go.B
