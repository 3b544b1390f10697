/-
Code and calls: what the machine B does, the model does.
-/
import Derived.Test.YtkgjipjkffjlhaaDoorB17
namespace Go.B
set_option linter.unusedVariables false
set_option linter.unusedSimpArgs false

def BExit.real : BExit → Exit
  | .normal => .normal
  | .exit i => .exit i
  | .ret => .ret

/-- Going round a loop. -/
def LoopAt (P : Program) (c : Code) (Q : Exit → Act → World → Prop) (a : Act) (w : World) : Prop :=
  ∀ (b : Frame) (k : List Item) (cs : List Frame), ∃ e a' w', Q e a' w' ∧ Arrives P (lone (b.at a (.code c :: .inLoop c :: k)) cs w) b k cs e a' w'

theorem loopAt_wp {P : Program} {c : Code} {Q : Exit → Act → World → Prop} {a : Act} {w : World} (h : LoopAt P c Q a w) : (Code.loop c).wp P Q a w := by
  intro b k cs
  obtain ⟨e, a', w', hq, harr⟩ := h b k cs
  exact ⟨e, a', w', hq, .of_steps (.one step_loop) harr⟩

theorem loopAt_round {P : Program} {c : Code} {Q : Exit → Act → World → Prop} {a : Act} {w : World} (h : c.wp P (Exit.then (LoopAt P c Q) Q) a w) : LoopAt P c Q a w := by
  intro b k cs
  obtain ⟨e, a₁, w₁, hq, harr⟩ := h b (.inLoop c :: k) cs
  cases e with
  | normal =>
    obtain ⟨e₂, a₂, w₂, hq₂, harr₂⟩ := hq b k cs
    exact ⟨e₂, a₂, w₂, hq₂, .of_steps (Steps.trans harr (.one step_inLoop)) harr₂⟩
  | exit id => exact ⟨_, a₁, w₁, hq, .pass (x := .inLoop c) rfl (fun _ _ => .inl (by simp)) harr⟩
  | goto l => exact ⟨_, a₁, w₁, hq, .pass (x := .inLoop c) rfl (fun _ _ => .inl (by simp)) harr⟩
  | ret => exact ⟨_, a₁, w₁, hq, .pass (x := .inLoop c) rfl (fun _ _ => .inl (by simp)) harr⟩
  | panic ch => exact ⟨_, a₁, w₁, hq, .pass (x := .inLoop c) rfl (fun _ _ => .inl (by simp)) harr⟩
  | outgrown => exact ⟨_, a₁, w₁, hq, .pass (x := .inLoop c) rfl (fun _ _ => .inl (by simp)) harr⟩

/-- The code's weakest precondition; a loop's from inside. -/
def wpAt (P : Program) : Code → (Exit → Act → World → Prop) → Act → World → Prop
  | .loop c, Q, a, w => LoopAt P c Q a w
  | c, Q, a, w => c.wp P Q a w
theorem wpAt_wp {P : Program} {c : Code} {Q : Exit → Act → World → Prop} {a : Act} {w : World} (h : wpAt P c Q a w) : c.wp P Q a w := by
  cases c <;> first
    | exact loopAt_wp h
    | exact h

section
variable {P : Program} {base : Nat} {w0 : World} {N : Nat} {sq : Nat → Bool}

theorem HR.drew {X : Tie} {H : BH} {w : World} (h : HR P base w0 X H w) : HR P base w0 X H { w with drawn := w.drawn + 1 } :=
  h.grow ⟨h.ext.os, h.ext.tape, h.ext.output, h.ext.size, h.ext.cell, h.ext.frozen, h.ext.block⟩ fun _ _ => rfl

theorem code_sound {LO : Prop} (hm : P.follows .mixedOrders = true) (hsq : ∀ t, sq t = true → P.stoodInHeld t = false ∧ P.eqGuardType P.depth t = false) {C : CRel} (hC : Sound P base w0 LO C) (hFr : Framed C) {c : BCode} {e e' : Env} {H H' : BH} {x : BExit}
    (hx : ExC base C c e H x e' H') : ∀ (code : Code), comp P.underlying P.info? sq N code = some c → ∀ {Q : Exit → Act → World → Prop} (_ : LO → LetsOut Q) {X : Tie} {a : Act} {w : World}, AR base X N e a → HR P base w0 X H w →
      (∀ X' a' w', X.le X' → AR base X' N e' a' → HR P base w0 X' H' w' → Q x.real a' w') → wpAt P code Q a w := by
  induction hx with
  | skip =>
    intro code hc Q hQ X a w ha hr hK
    cases code <;> simp [comp, Option.bind_eq_some_iff] at hc
    exact wp_skip (hK X a w (Tie.le_refl X) ha hr)
  | exit =>
    intro code hc Q hQ X a w ha hr hK
    cases code <;> simp [comp, Option.bind_eq_some_iff] at hc
    subst hc
    exact wp_exit (hK X a w (Tie.le_refl X) ha hr)
  | ret =>
    intro code hc Q hQ X a w ha hr hK
    cases code <;> simp [comp, Option.bind_eq_some_iff] at hc
    exact wp_ret (hK X a w (Tie.le_refl X) ha hr)
  | @region ops e e' H H' hx =>
    intro code hc Q hQ X a w ha hr hK
    cases code <;> simp [comp, Option.bind_eq_some_iff] at hc
    rename_i id rops draw
    unfold compRegion at hc
    cases draw with
    | false =>
      simp only [Bool.false_eq_true, if_false] at hc
      exact wp_region (wpOps_of hsq hC hQ _ _ (fitsL_of hc) hx ha hr hK)
    | true =>
      simp only [if_true] at hc
      obtain ⟨ms, R, ord, h1, h2, h3, h4, h5⟩ := compDraw_elim hc
      exact wp_region_any hm (wpAny_of hsq hC hFr hQ h1 h2 rops.size ord ops _ h4 h3 h5 hx ha hr.drew hK)
  | seq _ _ ih1 ih2 =>
    intro code hc Q hQ X a w ha hr hK
    cases code <;> simp [comp, Option.bind_eq_some_iff] at hc
    obtain ⟨hca, hcb⟩ := hc
    refine wp_seq (wpAt_wp (ih1 _ hca (Q := Exit.then (Code.wp P _ Q) Q) (fun h => hQ h) ha hr fun X' a' w' hle ha' hr' => ?_))
    exact wpAt_wp (ih2 _ hcb hQ ha' hr' fun X'' a'' w'' hle' => hK X'' a'' w'' (Tie.le_trans hle hle'))
  | @seqx _ _ x _ _ _ _ _ hne ih =>
    intro code hc Q hQ X a w ha hr hK
    cases code <;> simp [comp, Option.bind_eq_some_iff] at hc
    obtain ⟨hca, hcb⟩ := hc
    refine wp_seq (wpAt_wp (ih _ hca (Q := Exit.then (Code.wp P _ Q) Q) (fun h => hQ h) ha hr fun X' a' w' hle ha' hr' => ?_))
    have := hK X' a' w' hle ha' hr'
    cases x with
    | normal => exact absurd rfl hne
    | exit i => exact this
    | ret => exact this
  | thn hcc _ ih =>
    intro code hc Q hQ X a w ha hr hK
    cases code <;> simp [comp, Option.bind_eq_some_iff] at hc
    obtain ⟨o, ho, ca, hca, cb, hcb, rfl, rfl, rfl⟩ := hc
    have := ha.opd _ _ ho
    simp only [hcc] at this
    exact wp_cond_true this (wpAt_wp (ih _ hca hQ ha hr hK))
  | els hcc _ ih =>
    intro code hc Q hQ X a w ha hr hK
    cases code <;> simp [comp, Option.bind_eq_some_iff] at hc
    obtain ⟨o, ho, ca, hca, cb, hcb, rfl, rfl, rfl⟩ := hc
    have := ha.opd _ _ ho
    simp only [hcc] at this
    exact wp_cond_false this (wpAt_wp (ih _ hcb hQ ha hr hK))
  | @block id b x _ _ _ _ _ ih =>
    intro code hc Q hQ X a w ha hr hK
    cases code <;> simp [comp, Option.bind_eq_some_iff] at hc
    obtain ⟨hcb, rfl⟩ := hc
    refine wp_block (wpAt_wp (ih _ hcb (Q := Exit.inBlock _ Q) (fun h => hQ h) ha hr fun X' a' w' hle ha' hr' => ?_))
    have := hK X' a' w' hle ha' hr'
    cases x with
    | normal => exact this
    | exit i =>
      simp only [BExit.real, Exit.inBlock]
      simp only [BExit.outOf] at this
      split at this
      · rename_i h; rw [if_pos h]; exact this
      · rename_i h; rw [if_neg h]; exact this
    | ret => exact this
  | loopn _ _ ih1 ih2 =>
    intro code hc Q hQ X a w ha hr hK
    cases code <;> simp [comp, Option.bind_eq_some_iff] at hc
    rename_i body
    refine loopAt_round (wpAt_wp (ih1 _ hc (Q := Exit.then (LoopAt P _ Q) Q) (fun h => hQ h) ha hr fun X' a' w' hle ha' hr' => ?_))
    exact ih2 (.loop body) (by simp [comp, hc]) hQ ha' hr' fun X'' a'' w'' hle' => hK X'' a'' w'' (Tie.le_trans hle hle')
  | @loopx _ x _ _ _ _ _ hne ih =>
    intro code hc Q hQ X a w ha hr hK
    cases code <;> simp [comp, Option.bind_eq_some_iff] at hc
    refine loopAt_round (wpAt_wp (ih _ hc (Q := Exit.then (LoopAt P _ Q) Q) (fun h => hQ h) ha hr fun X' a' w' hle ha' hr' => ?_))
    have := hK X' a' w' hle ha' hr'
    cases x with
    | normal => exact absurd rfl hne
    | exit i => exact this
    | ret => exact this

theorem res_rel {e : Env} {X : Tie} {H : BH} {a : Act} {w : World} (ha : AR base X N e a) (hr : HR P base w0 X H w) : ∀ (rs : List ResultVar) (bs : List BRes) (vs : List BV),
    rs.mapM (fun | .tmp t => some (BRes.tmp t) | .cell a t => do some (BRes.cell a (← shapeOf P.underlying P.info? t))) = some bs → resVals e H bs = some vs →
    ∃ us, (rs.mapM (m := Sem) fun | .tmp t => pure (a.tmps.getD t undef) | .cell b t => do loadVar t (← asAddr (a.tmps.getD b undef))).run P w = .ok us w ∧ VRL base X vs us
  | [], bs, vs, hb, hv => by
    simp at hb
    subst hb
    simp [resVals] at hv
    subst hv
    exact ⟨[], rfl, rfl⟩
  | r :: rs, bs, vs, hb, hv => by
    simp only [List.mapM_cons, Option.bind_eq_bind, Option.pure_def, Option.bind_eq_some_iff] at hb
    obtain ⟨b, hb1, bs', hbs, e1⟩ := hb
    simp at e1
    subst e1
    unfold resVals at hv
    cases hbv : b.val e H with
    | none => rw [hbv] at hv; cases hv
    | some v =>
      rw [hbv] at hv
      cases hrs : resVals e H bs' with
      | none => rw [hrs] at hv; cases hv
      | some vs' =>
        rw [hrs] at hv
        simp at hv
        subst hv
        obtain ⟨us, h1, h2⟩ := res_rel ha hr rs bs' vs' hbs hrs
        cases r with
        | tmp t =>
          simp at hb1
          subst hb1
          simp only [BRes.val, Option.some.injEq] at hbv
          subst hbv
          refine ⟨a.tmps.getD t undef :: us, ?_, _, _, rfl, ha.tmps t, h2⟩
          simp only [List.mapM_cons, Sem.run_bind, Sem.run_pure, Result.andThen_ok, h1]
        | cell b t =>
          simp [Option.bind_eq_some_iff] at hb1
          obtain ⟨sh, hsh, rfl⟩ := hb1
          simp only [BRes.val] at hbv
          split at hbv
          · rename_i bb i hbb
            split at hbv
            · rename_i ty cs hcs
              split at hbv
              · rename_i hle
                obtain ⟨r, v', hX, hrun, kv⟩ := run_loadVar_rel hr hcs hsh hle hbv
                have htm := ha.tmps b
                rw [hbb] at htm
                obtain ⟨r', hX', htm⟩ := htm
                rw [hX] at hX'
                cases hX'
                refine ⟨v' :: us, ?_, _, _, rfl, kv, h2⟩
                have hasa : (asAddr (a.tmps.getD b undef)).run P w = .ok ⟨r.blk, i, none⟩ w := by rw [htm]; rfl
                simp only [List.mapM_cons, Sem.run_bind, hasa, Sem.run_pure, Result.andThen_ok, hrun, h1]
              · cases hbv
            · cases hbv
          · cases hbv

/-- The machine's functions are the program's. -/
def Linked (P : Program) (sq : Nat → Bool) (Γ : Ctx) : Prop := ∀ f bfn, Γ.fn f = some bfn → ∃ fn, P.funcs[f]? = some fn ∧ compFun P.underlying P.info? sq fn = some bfn ∧ (fn.name == "runtime.NumGoroutine") = false

theorem calls_sound {LO : Prop} {Γ : Ctx} (hm : P.follows .mixedOrders = true) (hsq : ∀ t, sq t = true → P.stoodInHeld t = false ∧ P.eqGuardType P.depth t = false) (hl : Linked P sq Γ) (hext : Sound P Γ.base w0 LO Γ.ext) (hfr : Framed Γ.ext) :
    ∀ n, Sound P Γ.base w0 LO (CallN Γ n)
  | 0 => fun _ _ _ _ _ h => h.elim
  | n + 1 => by
    intro f args H v H1 h
    rcases h with ⟨bfn, hf, x, e', hx, hxx, hres⟩ | h
    · obtain ⟨fn, hfn, hcomp, hname⟩ := hl f bfn hf
      unfold compFun at hcomp
      simp only [Option.bind_eq_bind, Option.bind_eq_some_iff] at hcomp
      obtain ⟨c, hbody, bc, hbc, rs, hrs, e1⟩ := hcomp
      simp at e1
      subst e1
      refine ⟨fun args w => ?_, fun X w args' hargs hr => ?_⟩
      · have hne : ¬ fn.name = "runtime.NumGoroutine" := by simpa using hname
        simp [callFunc, hfn, hne, hbody]
      · refine calls_of_wp hfn hbody (wpAt_wp (code_sound (N := fn.ntmps) hm hsq (calls_sound hm hsq hl hext hfr n) (CallN.framed hfr n) hx c hbc (Q := bodyPost P fn (CallPost P Γ.base w0 X v H1 LO)) ?_ ?_ hr ?_))
        · intro hlo
          exact ⟨⟨#[], []⟩, w, hlo⟩
        · refine ⟨fun t => ?_, ?_, rfl⟩
          · simp only [argEnv]
            have hlen : args.length = args'.size := by simpa using hargs.len
            by_cases ht : t < args.length
            · obtain ⟨u, hu, ku⟩ := hargs.get t _ (List.getElem?_eq_getElem ht)
              have hu' : args'[t]? = some u := by simpa using hu
              have h1 : args.getD t (.tup []) = args[t] := by simp [List.getD_eq_getElem?_getD, ht]
              have h2 : (args' ++ Array.replicate (fn.ntmps - args'.size) undef).getD t undef = u := by
                rw [Array.getD_eq_getD_getElem?, Array.getElem?_append_left (by omega), hu']
                rfl
              rw [h1, h2]
              exact ku
            · have h1 : args.getD t (.tup []) = .tup [] := by simp [List.getD_eq_getElem?_getD, List.getElem?_eq_none (Nat.le_of_not_lt ht)]
              have h2 : (args' ++ Array.replicate (fn.ntmps - args'.size) undef).getD t undef = undef := by
                rw [Array.getD_eq_getD_getElem?, Array.getElem?_append_right (by omega)]
                by_cases hq : t - args'.size < fn.ntmps - args'.size
                · simp [hq]
                · simp [hq]
              rw [h1, h2]
              exact ⟨#[], rfl, rfl⟩
          · simp
            omega
        · intro X' a' w' hle ha' hr'
          have hfin : a'.defers = [] ∧ ∃ v', (results fn a'.tmps).run P w' = .ok v' w' ∧ CallPost P Γ.base w0 X v H1 LO (.returned v') w' := by
            refine ⟨ha'.defers, ?_⟩
            unfold resOf at hres
            cases hvs : resVals e' H1 rs with
            | none => rw [hvs] at hres; cases hres
            | some vs =>
              rw [hvs] at hres
              simp at hres
              subst hres
              obtain ⟨us, h1, h2⟩ := res_rel ha' hr' fn.results.toList rs vs hrs hvs
              have hlen := h2.len
              have hrun : ((fn.results.mapM (m := Sem) fun | .tmp t => pure (a'.tmps.getD t undef) | .cell b t => do loadVar t (← asAddr (a'.tmps.getD b undef)))).run P w' = .ok us.toArray w' := by
                rw [Array.mapM_eq_mapM_toList, Sem.run_map, h1]
                rfl
              refine ⟨if h : us.toArray.size = 1 then us.toArray[0] else .tuple us.toArray, ?_, X', hle, ?_, hr'⟩
              · unfold results
                rw [Sem.run_bind]
                exact (congrArg (fun r => Result.andThen r fun (a : Array Value) w' => (pure (if h : a.size = 1 then a[0] else Value.tuple a) : Sem Value).run P w') hrun)
              · match vs, us, h2, hlen with
                | [], [], _, _ => exact ⟨#[], rfl, rfl⟩
                | [c], [u], h2, _ =>
                  obtain ⟨_, _, e2, k, _⟩ := h2
                  cases e2
                  exact k
                | c :: c2 :: cs, u :: u2 :: us, h2, _ => 
                  have : ¬ (u :: u2 :: us).toArray.size = 1 := by simp
                  rw [dif_neg this]
                  exact ⟨_, rfl, h2⟩
          rcases hxx with rfl | rfl
          · exact hfin
          · exact hfin
    · exact hext _ _ _ _ _ h

theorem call_sound {LO : Prop} {Γ : Ctx} (hm : P.follows .mixedOrders = true) (hsq : ∀ t, sq t = true → P.stoodInHeld t = false ∧ P.eqGuardType P.depth t = false) (hl : Linked P sq Γ) (hext : Sound P Γ.base w0 LO Γ.ext) (hfr : Framed Γ.ext) :
    Sound P Γ.base w0 LO (Runs Γ) := fun f args H v H1 ⟨n, h⟩ => calls_sound hm hsq hl hext hfr n f args H v H1 h

end
end Go.B
