/-
Texts of our own, put together: B15, B16, B17, B18, B19, B20, B21, B22, B25, B26, B27, B28, B29, B30.
-/
import Derived.Test.YtbnmhbmhafbmiaaGreatDoorK1
import Derived.Orders
import Derived.Sort.Grow
import Derived.Deep.Draws
import Derived.Lib.AppendIntMem
import Derived.Lib.ItoaNum
import Derived.Sort.Row
import Derived.Shelf.Spec.SlicesInsertGrow
section
namespace Go.B
set_option linter.unusedVariables false
set_option linter.unusedSimpArgs false

structure AR (base : Nat) (X : Tie) (N : Nat) (e : Env) (a : Act) : Prop where
  tmps : ∀ t,VR base X (e t) (a.tmps.getD t undef)
  size : N≤a.tmps.size
  defers : a.defers = []

section
variable {P : Program} {base : Nat} {w0 w : World} {X : Tie} {H : BH} {N : Nat} {e : Env} {a : Act}

theorem AR.mono {Y : Tie} (h : AR base X N e a) (hle : X.le Y) : AR base Y N e a:=⟨fun t => (h.tmps t).mono hle,h.size,h.defers⟩

theorem AR.opd (h : AR base X N e a) : OR base X (·.ev e) a.eval:=by
  intro x y hy
  cases x with
  | tmp t =>
    simp [Go.B.opd] at hy
    subst hy
    exact h.tmps t
  | const v =>
    simp [Go.B.opd] at hy
    subst hy
    exact VR_toB v
  | func f =>
    simp [Go.B.opd] at hy
    subst hy
    exact ⟨#[],rfl,rfl⟩
  | global g => simp [Go.B.opd] at hy

theorem AR.put (h : AR base X N e a) {dst : Option Nat} {v : BV} {v' : Value} (hd : ∀ d,dst = some d→d < N) (hv : VR base X v v') : AR base X N (e.puto dst v) (a.put dst v'):=by
  cases dst with
  | none => exact h
  | some d =>
    have hlt : d < a.tmps.size:=Nat.lt_of_lt_of_le (hd d rfl) h.size
    refine ⟨fun t => ?_,by simp [Act.put,h.size],h.defers⟩
    simp only [Env.puto,Env.put,Act.put]
    by_cases ht : t = d
    · subst ht
      simp [hlt,hv]
    · simp only [ht,if_false]
      have:=h.tmps t
      simpa [Array.getElem?_setIfInBounds,Ne.symm ht] using this

def CallPost (P : Program) (base : Nat) (w0 : World) (X : Tie) (v : BV) (H1 : BH) (LO : Prop) : Ending→World→Prop
  | .returned v',w' => ∃ X',X.le X'∧VR base X' v v'∧HR P base w0 X' H1 w'
  | .outgrown,_ => LO
  | .panicked _,_ => False

def Enters (P : Program) (f : Nat) : Prop:=∀ args w,(callFunc f args).run P w = .ok (.enter f args) w

def Sound (P : Program) (base : Nat) (w0 : World) (LO : Prop) (C : CRel) : Prop :=
  ∀ f args H v H1,C f args H v H1→Enters P f∧∀ X w args',VRL base X args args'.toList→HR P base w0 X H w→Calls P f args' w (CallPost P base w0 X v H1 LO)

structure Fits (P : Program) (sq : Nat→Bool) (N : Nat) (ops : Array Oper) (o : Oper) (b : BOper) : Prop where
  op : compOpS P.underlying P.info? sq o.op = b.op.bare
  dst : b.dst = o.dst
  lt : ∀ d,b.dst = some d→d < N
  guard : (o.guard = none∧b.guard = none)∨∃ j c oj d,o.guard = some (j,c)∧b.guard = some (d,c)∧ops[j]? = some oj∧oj.dst = some d

theorem wanted_rel {sq : Nat→Bool} {ops : Array Oper} {o : Oper} {b : BOper} (hf : Fits P sq N ops o b) (ha : AR base X N e a) {t : Bool} (hw : wantB e b.guard = some t) : Region.wanted o (yielded ops a.tmps) = t:=by
  rcases hf.guard with ⟨h1,h2⟩ | ⟨j,c,oj,d,h1,h2,h3,h4⟩
  · rw [h2] at hw
    simp [wantB] at hw
    subst hw
    simp [Region.wanted,h1]
  · rw [h2] at hw
    have hd:=ha.tmps d
    simp only [wantB] at hw
    simp only [Region.wanted,h1,yielded,h3,Option.bind_some,h4]
    split at hw
    · rename_i u hu
      simp at hw
      subst hw
      rw [hu] at hd
      have hd : a.tmps.getD d undef = .bool u:=hd
      have : a.tmps[d]? = some (.bool u):=by
        cases hq : a.tmps[d]? with
        | none => simp [Array.getD_eq_getD_getElem?,hq,undef] at hd
        | some v => simp [Array.getD_eq_getD_getElem?,hq] at hd; rw [hd]
      rw [this]
      cases u <;> cases c <;> rfl
    · rename_i hu
      simp at hw
      subst hw
      rw [hu] at hd
      obtain ⟨cs',hd,hk⟩:=hd
      have hk : cs'.toList = []:=hk
      have : cs' = #[]:=by
        apply Array.toList_inj.1
        rw [hk]
      subst this
      cases hq : a.tmps[d]? with
      | none => rfl
      | some v =>
        simp [Array.getD_eq_getD_getElem?,hq] at hd
        subst hd
        rfl
    · cases hw

theorem mapM_opd {σ : Opd→BV} {ρ : Operand→Value} (hρ : OR base X σ ρ) : ∀ {l : List Operand} {ys : List Opd},l.mapM opd = some ys→VRL base X (ys.map σ) (l.map ρ)
  | [],ys,h => by simp at h; subst h; rfl
  | x::l,ys,h => by
    simp only [List.mapM_cons,Option.bind_eq_bind,Option.pure_def,Option.bind_eq_some_iff] at h
    obtain ⟨y,hy,zs,hzs,e⟩:=h
    simp at e
    subst e
    exact ⟨ρ x,l.map ρ,rfl,hρ x y hy,mapM_opd hρ hzs⟩

theorem compOp_call {u : Nat→Option TypeDesc} {inf : Nat→Option TypeInfo} {sq : Nat→Bool} {op : Op} {f : Opd} {xs : List Opd} (h : compOp u inf sq op = some (.call f xs)) :
    ∃ c f',op = .call c∧c.callee = .value f'∧opd f' = some f∧c.args.toList.mapM opd = some xs:=by
  cases op with
  | call c =>
    simp only [compOp,compCall,Option.bind_eq_bind,Option.bind_eq_some_iff] at h
    obtain ⟨args,hargs,hop⟩:=h
    split at hop
    · rename_i f' hcal
      simp [Option.bind_eq_some_iff] at hop
      obtain ⟨f2,hf2,e1,e2⟩:=hop
      exact ⟨c,f',rfl,hcal,by rw [hf2,e1],by rw [hargs,e2]⟩
    · split at hop
      · split at hop <;> simp at hop
      · cases hop
    · split at hop
      · split at hop
        · simp only [Option.bind_eq_some_iff] at hop
          obtain ⟨i,hi,z,hz,hop⟩:=hop
          split at hop <;> simp at hop
        · cases hop
      · cases hop
    · split at hop
      · simp at hop
      · simp at hop
      · cases hop
    · cases hop
  | unOp op t x => cases op <;> simp [compOp,Option.bind_eq_some_iff] at h
  | makeFunc fn a b => cases fn <;> simp [compOp,Option.bind_eq_some_iff] at h
  | makeMap t r =>
    cases r <;> simp only [compOp] at h
    · split at h <;> simp at h
    · cases h
  | slice t x lo hi mx =>
    cases mx <;> simp only [compOp] at h
    · simp only [Option.bind_eq_bind,Option.bind_eq_some_iff] at h
      obtain ⟨_,_,_,_,h⟩:=h
      split at h <;> simp [Option.bind_eq_some_iff] at h
    · cases h
  | lookup t x k okk =>
    simp only [compOp] at h
    split at h
    · simp only [Option.bind_eq_bind,Option.bind_eq_some_iff] at h
      obtain ⟨_,_,h⟩:=h
      split at h <;> simp [Option.bind_eq_some_iff] at h
    · cases h
  | _ =>
    simp only [compOp] at h
    first
      | (simp [Option.bind_eq_some_iff] at h; done)
      | ((repeat' split at h) <;> first | (cases h; done) | (simp [Option.bind_eq_some_iff] at h; done))

theorem wpOp_of {LO : Prop} {sq : Nat→Bool} (hsq : ∀ t,sq t = true→P.stoodInHeld t = false∧P.eqGuardType P.depth t = false) {ops : Array Oper} {C : CRel} (hC : Sound P base w0 LO C) {i : Nat} {o : Oper} {b : BOper} (hi : ops[i]? = some o)
    (hf : Fits P sq N ops o b) {v : BV} {H1 : BH} (hx : Eff base C b e H v H1) (ha : AR base X N e a) (hr : HR P base w0 X H w) {Q : Exit→Act→World→Prop} (hQ : LO→LetsOut Q) {K : Act→World→Prop}
    (hK : ∀ X' a' w',X.le X'→AR base X' N (e.puto b.dst v) a'→HR P base w0 X' H1 w'→K a' w') : wpOp P ops Q i K a w:=by
  unfold wpOp
  rw [hi]
  simp only []
  cases hx with
  | skip hw =>
    have:=wanted_rel hf ha hw
    simp only [this]
    rw [← hf.dst]
    exact hK X _ w (Tie.le_refl X) (ha.put hf.lt ⟨#[],rfl,rfl⟩) hr
  | op hw ho =>
    have:=wanted_rel hf ha hw
    simp only [this,if_true]
    refine .inl ?_
    have hop : compOp P.underlying P.info? sq o.op = some b.op.bare:=by
      cases hq : compOp P.underlying P.info? sq o.op with
      | some q => have:=hf.op; rw [compOpS,hq] at this; exact congrArg some this
      | none =>
        have h1:=hf.op
        rw [compOpS,hq] at h1
        have h2:=op1_bare ho
        rw [← h1] at h2
        cases h2
    obtain ⟨nx,w',X',v',h1,h2,h3,h4,h5⟩:=op_does hop hsq (fun v => rfl) hr ha.opd (op1_bare ho)
    unfold Oper.wp
    rw [h1]
    rcases h2 with rfl | ⟨rfl,rfl⟩
    · simp only [Oper.upon]
      rw [← hf.dst]
      exact hK X' _ w' h3 ((ha.mono h3).put hf.lt h4) h5
    · simp only [Oper.upon]
      rw [← hf.dst]
      exact hK X' _ w' h3 ((ha.mono h3).put hf.lt h4) h5
  | @call f xs g caps _ _ hw ho hg hc hk =>
    have:=wanted_rel hf ha hw
    simp only [this,if_true]
    refine .inl ?_
    have hop : compOp P.underlying P.info? sq o.op = some (.call f xs):=by
      have h1:=hf.op
      rw [ho] at h1
      cases hq : compOp P.underlying P.info? sq o.op with
      | some q => rw [compOpS,hq] at h1; exact congrArg some h1
      | none => rw [compOpS,hq] at h1; cases h1
    obtain ⟨c,f',hoo,hcal,hf',hxs⟩:=compOp_call hop
    have hρ:=ha.opd
    have hfv:=hρ f' f hf'
    simp only [hg] at hfv
    obtain ⟨cs',hfv,hcs⟩:=hfv
    obtain ⟨hent,hcalls⟩:=hC _ _ _ _ _ hc
    have hargs : VRL base X (xs.map (·.ev e)++caps) (c.args.map a.eval++cs').toList:=by
      rw [Array.toList_append,Array.toList_map]
      exact (mapM_opd hρ hxs).append hcs
    have hrun : (execOp a.eval o).run P w = .ok (.enter g (c.args.map a.eval++cs')) w:=by
      simp [execOp,hoo,resolve,hcal,Deferred.ofValue,hfv,invoke,hent (c.args.map a.eval++cs') w]
    unfold Oper.wp
    rw [hrun]
    simp only [Oper.upon]
    refine Calls.mono (hcalls X w _ hargs hr) fun en w' hen => ?_
    cases en with
    | returned v' =>
      obtain ⟨X',h3,h4,h5⟩:=hen
      simp only []
      rw [← hf.dst]
      exact hK X' _ w' h3 ((ha.mono h3).put hf.lt h4) h5
    | panicked ch => exact hen.elim
    | outgrown => exact hQ hen

def FitsL (P : Program) (sq : Nat→Bool) (N : Nat) (ops : Array Oper) : List Nat→List BOper→Prop
  | [],l => l = []
  | i::is,l => ∃ b r o,l = b::r∧ops[i]? = some o∧Fits P sq N ops o b∧FitsL P sq N ops is r

theorem wpOps_of {LO : Prop} {sq : Nat→Bool} (hsq : ∀ t,sq t = true→P.stoodInHeld t = false∧P.eqGuardType P.depth t = false) {ops : Array Oper} {C : CRel} (hC : Sound P base w0 LO C) {Q : Exit→Act→World→Prop} (hQ : LO→LetsOut Q) :
    ∀ (is : List Nat) (l : List BOper),FitsL P sq N ops is l→∀ {X : Tie} {e e' : Env} {H H' : BH} {a : Act} {w : World},ExO base C l e H e' H'→AR base X N e a→HR P base w0 X H w →
      (∀ X' a' w',X.le X'→AR base X' N e' a'→HR P base w0 X' H' w'→Q .normal a' w')→wpOps P ops Q is a w
  | [],l,hfl,X,e,e',H,H',a,w,hx,ha,hr,hK => by
    obtain rfl:=hfl
    cases hx
    exact hK X a w (Tie.le_refl X) ha hr
  | i::is,l,hfl,X,e,e',H,H',a,w,hx,ha,hr,hK => by
    obtain ⟨b,r,o,rfl,hi,hf,hfr⟩:=hfl
    obtain ⟨v,H1,h1,h2⟩:=exO_cons.1 hx
    rw [wpOps_cons]
    refine wpOp_of hsq hC hi hf h1 ha hr hQ fun X' a' w' hle ha' hr' => ?_
    exact wpOps_of hsq hC hQ is r hfr h2 ha' hr' fun X'' a'' w'' hle' => hK X'' a'' w'' (Tie.le_trans hle hle')

theorem exO_front {C : CRel} (hC : Framed C) {b : BOper} {post : List BOper} : ∀ {pre : List BOper} {e e' : Env} {H H' : BH},ExO base C (pre++b::post) e H e' H'→(∀ x∈pre,swapOk x b = true) →
    ∃ v H1,Eff base C b e H v H1∧ExO base C (pre++post) (e.puto b.dst v) H1 e' H'
  | [],e,e',H,H',hx,_ => exO_cons.1 hx
  | x::pre,e,e',H,H',hx,hs => by
    obtain ⟨u,H1,h1,h2⟩:=exO_cons.1 hx
    obtain ⟨v,H2,h3,h4⟩:=exO_front hC h2 fun y hy => hs y (List.mem_cons_of_mem _ hy)
    obtain ⟨H1',k1,k2,k3⟩:=h1.swap hC h3 (hs x List.mem_cons_self)
    refine ⟨v,H1',k1,exO_cons.2 ⟨u,H2,k2,?_⟩⟩
    rw [← k3]
    exact h4

structure Ready (deps : List (List Nat)) (R : List Nat) (ms : List BOper) (listed : Array Bool) (n : Nat) (rem : List Nat) : Prop where
  lt : ∀ i∈rem,i < n
  nodup : rem.Nodup
  isl : ∀ i,i < n→(listed.getD i true = false↔i∈rem)
  size : listed.size = n
  closed : ∀ i,i < n→i ∉ rem→∀ p,p < n→bit (R.getD i 0) p = true→p ∉ rem
  topo : rem.Pairwise fun i j => j ∉ deps.getD i []
  self : ∀ i∈rem,i ∉ deps.getD i []
  bound : ∀ i∈rem,∀ d∈deps.getD i [],d < n
  pairs : rem.Pairwise fun i j => bit (R.getD j 0) i = true∨∃ x y,ms[i]? = some x∧ms[j]? = some y∧swapOk x y = true

theorem ordered_append {bs : List BOper} : ∀ {p q : List Nat} {l : List BOper},ordered bs (p++q) = some l→∃ l1 l2,ordered bs p = some l1∧ordered bs q = some l2∧l = l1++l2
  | [],q,l,h => ⟨[],l,rfl,h,rfl⟩
  | i::p,q,l,h => by
    simp only [List.cons_append,ordered] at h
    cases hb : bs[i]? with
    | none => rw [hb] at h; cases h
    | some b =>
      rw [hb] at h
      cases hr : ordered bs (p++q) with
      | none => rw [hr] at h; cases h
      | some l' =>
        rw [hr] at h
        simp at h
        subst h
        obtain ⟨l1,l2,h1,h2,rfl⟩:=ordered_append hr
        exact ⟨b::l1,l2,by simp [ordered,hb,h1],h2,rfl⟩
theorem ordered_append_of {bs : List BOper} : ∀ {p q : List Nat} {l1 l2 : List BOper},ordered bs p = some l1→ordered bs q = some l2→ordered bs (p++q) = some (l1++l2)
  | [],q,l1,l2,h1,h2 => by simp [ordered] at h1; subst h1; exact h2
  | i::p,q,l1,l2,h1,h2 => by
    simp only [ordered] at h1
    cases hb : bs[i]? with
    | none => rw [hb] at h1; cases h1
    | some b =>
      rw [hb] at h1
      cases hr : ordered bs p with
      | none => rw [hr] at h1; cases h1
      | some l' =>
        rw [hr] at h1
        simp at h1
        subst h1
        simp [ordered,hb,ordered_append_of hr h2]
theorem ordered_mem {bs : List BOper} : ∀ {p : List Nat} {l : List BOper},ordered bs p = some l→∀ b∈l,∃ i∈p,bs[i]? = some b
  | [],l,h,b,hb => by simp [ordered] at h; subst h; cases hb
  | i::p,l,h,b,hb => by
    simp only [ordered] at h
    cases hbi : bs[i]? with
    | none => rw [hbi] at h; cases h
    | some c =>
      rw [hbi] at h
      cases hr : ordered bs p with
      | none => rw [hr] at h; cases h
      | some l' =>
        rw [hr] at h
        simp at h
        subst h
        rcases List.mem_cons.1 hb with rfl | hb
        · exact ⟨i,List.mem_cons_self,hbi⟩
        · obtain ⟨j,hj,hj2⟩:=ordered_mem hr b hb
          exact ⟨j,List.mem_cons_of_mem _ hj,hj2⟩

end
end Go.B
end

section
namespace Go.B
set_option linter.unusedVariables false
set_option linter.unusedSimpArgs false
section
variable {P : Program} {base : Nat} {w0 w : World} {X : Tie} {H : BH} {N : Nat} {e : Env} {a : Act}

theorem certOk_elim {deps : List (List Nat)} {R : List Nat} (h : certOk deps R = true) {i p : Nat} (hi : i < deps.length) (hp : p < deps.length) (hb : bit (R.getD i 0) p = true) :
    p∈deps.getD i []∨∃ m∈deps.getD i [],bit (R.getD m 0) p = true:=by
  unfold certOk at h
  rw [List.all_eq_true] at h
  have h1:=h i (List.mem_range.2 hi)
  rw [List.all_eq_true] at h1
  have h2:=h1 p (List.mem_range.2 hp)
  simp only [hb,Bool.not_true,Bool.false_or,Bool.or_eq_true,List.contains_eq_mem,decide_eq_true_eq,List.any_eq_true] at h2
  exact h2

theorem deps_get {ops : Array Oper} {i : Nat} {o : Oper} (h : ops[i]? = some o) : (ops.toList.map depsOf).getD i [] = depsOf o:=by
  simp [List.getD_eq_getElem?_getD,h]

theorem mem_depsOf {o : Oper} {d : Nat} : d∈depsOf o↔∃ e∈o.after,Region.binds .any e = true∧e.on = d:=by
  simp [depsOf,and_assoc]

theorem getD_set_self {l : Array Bool} {i : Nat} (h : i < l.size) (d : Bool) : (l.setIfInBounds i true).getD i d = true:=by
  simp [h]

theorem wpAny_of {LO : Prop} {sq : Nat→Bool} (hsq : ∀ t,sq t = true→P.stoodInHeld t = false∧P.eqGuardType P.depth t = false) {ops : Array Oper} {C : CRel} (hC : Sound P base w0 LO C) (hFr : Framed C) {Q : Exit→Act→World→Prop} (hQ : LO→LetsOut Q)
    {ms : List BOper} {R : List Nat} (hms : ∀ (i : Nat) (b : BOper),ms[i]? = some b→∃ o,ops[i]? = some o∧Fits P sq N ops o b) (hcert : certOk (ops.toList.map depsOf) R = true) :
    ∀ (fuel : Nat) (rem : List Nat) (l : List BOper) (listed : Array Bool),rem.length = fuel→ordered ms rem = some l→Ready (ops.toList.map depsOf) R ms listed ops.size rem →
    ∀ {X : Tie} {e e' : Env} {H H' : BH} {a : Act} {w : World},ExO base C l e H e' H'→AR base X N e a→HR P base w0 X H w →
      (∀ X' a' w',X.le X'→AR base X' N e' a'→HR P base w0 X' H' w'→Q .normal a' w')→wpAny P .any ops Q fuel listed a w:=by
  intro fuel
  induction fuel with
  | zero =>
    intro rem l listed hlen hord hg X e e' H H' a w hx ha hr hK
    have : rem = []:=List.eq_nil_of_length_eq_zero hlen
    subst this
    simp [ordered] at hord
    subst hord
    cases hx
    refine ⟨?_,hK X a w (Tie.le_refl X) ha hr⟩
    cases hq : Region.ready .any ops listed with
    | nil => rfl
    | cons j js =>
      exfalso
      have hj : j∈Region.ready .any ops listed:=by rw [hq]; exact List.mem_cons_self
      obtain ⟨h1,o,ho,_⟩:=mem_ready.1 hj
      have hlt:=(Array.getElem?_eq_some_iff.1 ho).1
      exact absurd ((hg.isl j hlt).1 h1) (by simp)
  | succ fuel ih =>
    intro rem l listed hlen hord hg X e e' H H' a w hx ha hr hK
    have onlisted : ∀ d,listed.getD d false = true→d < ops.size∧d ∉ rem:=by
      intro d hd
      have hlt : d < listed.size:=by
        rcases Nat.lt_or_ge d listed.size with h | h
        · exact h
        · simp [Array.getElem?_eq_none h] at hd
      rw [hg.size] at hlt
      refine ⟨hlt,fun hm => ?_⟩
      have:=(hg.isl d hlt).2 hm
      have hlt2 : d < listed.size:=by rw [hg.size]; exact hlt
      simp [hlt2] at this hd
      rw [this] at hd
      cases hd
    have listedon : ∀ d,d < ops.size→d ∉ rem→listed.getD d false = true:=by
      intro d hd hm
      have h1 : ¬ listed.getD d true = false:=fun h => hm ((hg.isl d hd).1 h)
      have hlt2 : d < listed.size:=by rw [hg.size]; exact hd
      simp [hlt2] at h1 ⊢
      exact h1
    refine ⟨fun hnil => ?_,fun i hi => ?_⟩
    · exfalso
      cases rem with
      | nil => simp at hlen
      | cons i0 r =>
        have hlt:=hg.lt i0 List.mem_cons_self
        have hin : i0∈Region.ready .any ops listed:=by
          refine mem_ready.2 ⟨(hg.isl i0 hlt).2 List.mem_cons_self,ops[i0],Array.getElem?_eq_getElem hlt,fun ed hed hb => ?_⟩
          have hd : ed.on∈(ops.toList.map depsOf).getD i0 []:=by
            rw [deps_get (Array.getElem?_eq_getElem hlt)]
            exact mem_depsOf.2 ⟨ed,hed,hb,rfl⟩
          refine listedon _ (hg.bound i0 List.mem_cons_self _ hd) fun hm => ?_
          rcases List.mem_cons.1 hm with h | h
          · rw [h] at hd
            exact hg.self i0 List.mem_cons_self hd
          · exact (List.pairwise_cons.1 hg.topo).1 _ h hd
        rw [hnil] at hin
        cases hin
    · obtain ⟨h1,o,ho,hed⟩:=mem_ready.1 hi
      have hlt:=(Array.getElem?_eq_some_iff.1 ho).1
      have hmem:=(hg.isl i hlt).1 h1
      have hdl : (ops.toList.map depsOf).length = ops.size:=by simp
      obtain ⟨pre,post,rfl⟩:=List.append_of_mem hmem
      have hdeps : ∀ d∈(ops.toList.map depsOf).getD i [],d < ops.size∧d ∉ pre++i::post:=by
        intro d hd
        rw [deps_get ho] at hd
        obtain ⟨ed,q1,q2,rfl⟩:=mem_depsOf.1 hd
        exact onlisted _ (hed ed q1 q2)
      have hbit : ∀ p,p < ops.size→bit (R.getD i 0) p = true→p ∉ pre++i::post:=by
        intro p hp hb
        rcases certOk_elim hcert (by rw [hdl]; exact hlt) (by rw [hdl]; exact hp) hb with h | ⟨m,hm,hb2⟩
        · exact (hdeps p h).2
        · obtain ⟨k1,k2⟩:=hdeps m hm
          exact hg.closed m k1 k2 p hp hb2
      obtain ⟨l1,l2,o1,o2,rfl⟩:=ordered_append hord
      simp only [ordered] at o2
      cases hb : ms[i]? with
      | none => rw [hb] at o2; cases o2
      | some b =>
        rw [hb] at o2
        cases hpo : ordered ms post with
        | none => rw [hpo] at o2; cases o2
        | some lpost =>
          rw [hpo] at o2
          simp at o2
          subst o2
          have hpw:=hg.pairs
          rw [List.pairwise_append] at hpw
          have hsw : ∀ x∈l1,swapOk x b = true:=by
            intro x hx
            obtain ⟨p,hp,hpx⟩:=ordered_mem o1 x hx
            rcases hpw.2.2 p hp i List.mem_cons_self with h | ⟨x',y',g1,g2,g3⟩
            · exact absurd (List.mem_append_left _ hp) (hbit p (hg.lt p (List.mem_append_left _ hp)) h)
            · rw [hpx] at g1
              rw [hb] at g2
              cases g1; cases g2
              exact g3
          obtain ⟨v,H1,k1,k2⟩:=exO_front hFr hx hsw
          obtain ⟨o',ho',hf⟩:=hms i b hb
          rw [ho] at ho'
          cases ho'
          have hsub : (pre++post).Sublist (pre++i::post):=List.Sublist.append_left (List.sublist_cons_self i post) pre
          have hnd:=hg.nodup
          have hni : i ∉ pre++post:=by
            have : (i::(pre++post)).Nodup:=(List.perm_middle.nodup_iff).1 hnd
            exact (List.nodup_cons.1 this).1
          have hmemiff : ∀ j,j≠i→(j∈pre++post↔j∈pre++i::post):=by
            intro j hj
            simp [hj]
          refine wpOp_of hsq hC ho hf k1 ha hr hQ fun X' a' w' hle ha' hr' => ?_
          refine ih (pre++post) (l1++lpost) _ ?_ (ordered_append_of o1 hpo) ?_ k2 ha' hr' fun X'' a'' w'' hle' => hK X'' a'' w'' (Tie.le_trans hle hle')
          · simp at hlen ⊢
            omega
          · refine ⟨fun j hj => hg.lt j (hsub.subset hj),hsub.nodup hnd,fun j hj => ?_,by simp [hg.size],fun j hj hjm p hp hbp => ?_,hg.topo.sublist hsub,fun j hj => hg.self j (hsub.subset hj),fun j hj => hg.bound j (hsub.subset hj),hg.pairs.sublist hsub⟩
            · by_cases hji : j = i
              · subst hji
                rw [getD_set_self (by rw [hg.size]; exact hlt)]
                simp only [Bool.true_eq_false,false_iff]
                exact hni
              · rw [getD_set_ne true (Ne.symm hji),hmemiff j hji]
                exact hg.isl j hj
            · by_cases hji : j = i
              · subst hji
                exact fun h => hbit p hp hbp (hsub.subset h)
              · exact fun h => hg.closed j hj (fun h' => hjm ((hmemiff j hji).2 h')) p hp hbp (hsub.subset h)

end
end Go.B
end

section
namespace Go.B
set_option linter.unusedVariables false
set_option linter.unusedSimpArgs false

theorem compOp_bare {u : Nat→Option TypeDesc} {inf : Nat→Option TypeInfo} {sq : Nat→Bool} {op : Op} {b : BOp} (h : compOp u inf sq op = some b) : b.bare = b:=by
  cases op with
  | call c =>
    simp only [compOp,compCall,Option.bind_eq_bind,Option.bind_eq_some_iff] at h
    obtain ⟨args,hargs,hop⟩:=h
    split at hop
    · simp [Option.bind_eq_some_iff] at hop
      obtain ⟨f2,hf2,rfl⟩:=hop
      rfl
    · split at hop
      · split at hop <;> simp at hop <;> subst hop <;> rfl
      · cases hop
    · split at hop
      · split at hop
        · simp only [Option.bind_eq_some_iff] at hop
          obtain ⟨i,hi,z,hz,hop⟩:=hop
          split at hop <;> simp at hop
          subst hop
          rfl
        · cases hop
      · cases hop
    · split at hop
      · simp at hop
        subst hop
        rfl
      · simp at hop
        subst hop
        rfl
      · cases hop
    · cases hop
  | unOp op t x => cases op <;> simp [compOp,Option.bind_eq_some_iff] at h <;> (obtain ⟨_,_,rfl⟩:=h; rfl)
  | makeFunc fn a b => cases fn <;> simp [compOp,Option.bind_eq_some_iff] at h; (obtain ⟨_,_,_,rfl⟩:=h; rfl)
  | makeMap t r =>
    cases r <;> simp only [compOp] at h
    · split at h <;> simp at h
      subst h
      rfl
    · cases h
  | slice t x lo hi mx =>
    cases mx <;> simp only [compOp] at h
    · simp only [Option.bind_eq_bind,Option.bind_eq_some_iff] at h
      obtain ⟨_,_,_,_,h⟩:=h
      split at h <;> simp [Option.bind_eq_some_iff] at h
      · obtain ⟨_,_,_,_,rfl⟩:=h; rfl
      · obtain ⟨_,_,rfl⟩:=h; rfl
    · cases h
  | lookup t x k okk =>
    simp only [compOp] at h
    split at h
    · simp only [Option.bind_eq_bind,Option.bind_eq_some_iff] at h
      obtain ⟨_,_,h⟩:=h
      split at h <;> simp [Option.bind_eq_some_iff] at h
      obtain ⟨_,_,_,_,_,_,rfl⟩:=h; rfl
    · cases h
  | _ =>
    simp only [compOp] at h
    first
      | (cases h; done)
      | (simp [Option.bind_eq_some_iff] at h
         first
           | (obtain ⟨_,_,rfl⟩:=h; rfl)
           | (obtain ⟨_,_,_,_,rfl⟩:=h; rfl)
           | (obtain ⟨_,_,_,_,_,_,rfl⟩:=h; rfl))
      | ((repeat' split at h) <;> first
          | (cases h; done)
          | (simp [Option.bind_eq_some_iff] at h
             first
               | (obtain ⟨_,_,rfl⟩:=h; rfl)
               | (obtain ⟨_,_,_,_,rfl⟩:=h; rfl)
               | (obtain ⟨_,_,_,_,_,rfl⟩:=h; rfl)
               | (obtain ⟨_,_,_,_,_,_,rfl⟩:=h; rfl)
               | (obtain ⟨_,_,_,_,⟨_,_⟩,rfl⟩:=h; rfl)
               | (obtain ⟨_,_,_,_,_,_,_,rfl⟩:=h; rfl)
               | (obtain ⟨_,_,_,_,_,_,_,_,rfl⟩:=h; rfl)
               | (obtain ⟨_,_,_,_,_,_,_,_,_,rfl⟩:=h; rfl)))

section
variable {P : Program} {sq : Nat→Bool} {N : Nat} {ops : Array Oper}

theorem compOper_fits {o : Oper} {b : BOper} (h : compOper P.underlying P.info? sq N ops o = some b) : Fits P sq N ops o b:=by
  unfold compOper at h
  simp only [Option.bind_eq_bind,Option.bind_eq_some_iff] at h
  obtain ⟨g,hg,h⟩:=h
  have hop : (compOpS P.underlying P.info? sq o.op).bare = compOpS P.underlying P.info? sq o.op:=by
    unfold compOpS
    cases hq : compOp P.underlying P.info? sq o.op with
    | some q => exact compOp_bare hq
    | none => rfl
  generalize hopp : compOpS P.underlying P.info? sq o.op = op at hop h
  have hgd : ∀ dst kp,(o.guard = none∧(⟨dst,op,g,kp⟩ : BOper).guard = none)∨∃ j c oj d,o.guard = some (j,c)∧(⟨dst,op,g,kp⟩ : BOper).guard = some (d,c)∧ops[j]? = some oj∧oj.dst = some d:=by
    intro dst kp
    cases hog : o.guard with
    | none =>
      simp [hog,guardOf] at hg
      exact .inl ⟨rfl,hg.symm⟩
    | some p =>
      obtain ⟨j,c⟩:=p
      simp [hog,guardOf,Option.bind_eq_some_iff] at hg
      obtain ⟨oj,hoj,d,hd,rfl⟩:=hg
      exact .inr ⟨j,c,oj,d,rfl,rfl,hoj,hd⟩
  split at h
  · rename_i d hd
    split at h
    · rename_i hlt
      simp at h
      subst h
      exact ⟨by rw [hopp]; exact hop.symm,rfl,fun d' hd' => by rw [hd] at hd'; cases hd'; exact hlt,hgd _ _⟩
    · cases h
  · rename_i hd
    simp at h
    subst h
    exact ⟨by rw [hopp]; exact hop.symm,hd.symm,fun d' hd' => (by cases hd'),hgd _ _⟩

theorem compOpers_get : ∀ {l : List Oper} {bs : List BOper},compOpers P.underlying P.info? sq N ops l = some bs→bs.length = l.length∧∀ (i : Nat) (b : BOper),bs[i]? = some b→∃ o,l[i]? = some o∧Fits P sq N ops o b
  | [],bs,h => by
    simp [compOpers] at h
    subst h
    exact ⟨rfl,fun i b hb => by simp at hb⟩
  | o::l,bs,h => by
    unfold compOpers at h
    cases ho : compOper P.underlying P.info? sq N ops o with
    | none => rw [ho] at h; cases h
    | some b0 =>
      rw [ho] at h
      cases hl : compOpers P.underlying P.info? sq N ops l with
      | none => rw [hl] at h; cases h
      | some bs' =>
        rw [hl] at h
        simp at h
        subst h
        obtain ⟨h1,h2⟩:=compOpers_get hl
        refine ⟨by simp [h1],fun i b hb => ?_⟩
        cases i with
        | zero => simp at hb; subst hb; exact ⟨o,rfl,compOper_fits ho⟩
        | succ i => simpa using h2 i b (by simpa using hb)

theorem Fits.same {o : Oper} {b c : BOper} (h : Fits P sq N ops o b) (h1 : c.op.bare = b.op.bare) (h2 : c.dst = b.dst) (h3 : c.guard = b.guard) : Fits P sq N ops o c :=
  ⟨by rw [h1]; exact h.op,by rw [h2]; exact h.dst,by rw [h2]; exact h.lt,by rw [h3]; exact h.guard⟩

theorem withRt_same {u : Nat→Option TypeDesc} {os : List Oper} {o : Oper} {b : BOper} : (withRt u os o b).op.bare = b.op.bare∧(withRt u os o b).dst = b.dst∧(withRt u os o b).guard = b.guard:=by
  unfold withRt
  split
  · rename_i e; refine ⟨?_,rfl,rfl⟩; rw [e]; rfl
  · rename_i e; refine ⟨?_,rfl,rfl⟩; rw [e]; rfl
  · exact ⟨rfl,rfl,rfl⟩

theorem markKeep_get {bs : List BOper} {R : List Nat} (hl : bs.length = ops.size) : (markKeep P.underlying ops.toList bs R).length = ops.size ∧
    ∀ (i : Nat) (c : BOper),(markKeep P.underlying ops.toList bs R)[i]? = some c→∃ b,bs[i]? = some b∧c.op.bare = b.op.bare∧c.dst = b.dst∧c.guard = b.guard:=by
  unfold markKeep
  simp only []
  refine ⟨by simp [hl],fun i c hc => ?_⟩
  rw [List.getElem?_map] at hc
  simp only [Option.map_eq_some_iff] at hc
  obtain ⟨⟨b1,i1⟩,hb1,rfl⟩:=hc
  rw [List.getElem?_zipIdx,List.getElem?_map] at hb1
  simp only [Option.map_eq_some_iff] at hb1
  obtain ⟨b2,⟨⟨⟨b,o⟩,i2⟩,hb3,rfl⟩,e⟩:=hb1
  rw [List.getElem?_zipIdx] at hb3
  simp only [Option.map_eq_some_iff] at hb3
  obtain ⟨⟨b',o'⟩,hz,e2⟩:=hb3
  simp only [Prod.mk.injEq] at e e2
  obtain ⟨rfl,rfl⟩:=e
  obtain ⟨⟨rfl,rfl⟩,rfl⟩:=e2
  rw [List.getElem?_zip_eq_some] at hz
  refine ⟨b',hz.1,?_⟩
  simp only []
  split <;> split <;> first
    | exact withRt_same
    | exact ⟨rfl,rfl,rfl⟩

theorem topoOk_elim {deps : List (List Nat)} : ∀ {ord done : List Nat},topoOk deps done ord = true→ord.Nodup→(∀ x∈done,x ∉ ord) →
    ord.Pairwise (fun i j => j ∉ deps.getD i [])∧∀ i∈ord,i ∉ deps.getD i []∧∀ d∈deps.getD i [],d∈done∨d∈ord
  | [],_,_,_,_ => ⟨List.Pairwise.nil,fun i hi => by cases hi⟩
  | i::r,done,h,hnd,hdis => by
    simp only [topoOk,Bool.and_eq_true,List.all_eq_true,List.contains_eq_mem,decide_eq_true_eq] at h
    obtain ⟨h1,h2⟩:=h
    obtain ⟨n1,n2⟩:=List.nodup_cons.1 hnd
    obtain ⟨g1,g2⟩:=topoOk_elim h2 n2 (by
      intro x hx
      rcases List.mem_cons.1 hx with rfl | hx
      · exact n1
      · exact fun hm => hdis x hx (List.mem_cons_of_mem _ hm))
    refine ⟨List.pairwise_cons.2 ⟨fun j hj hd => hdis j (h1 j hd) (List.mem_cons_of_mem _ hj),g1⟩,fun k hk => ?_⟩
    rcases List.mem_cons.1 hk with rfl | hk
    · exact ⟨fun hd => hdis k (h1 k hd) List.mem_cons_self,fun d hd => .inl (h1 d hd)⟩
    · obtain ⟨k1,k2⟩:=g2 k hk
      refine ⟨k1,fun d hd => ?_⟩
      rcases k2 d hd with h | h
      · rcases List.mem_cons.1 h with rfl | h
        · exact .inr List.mem_cons_self
        · exact .inl h
      · exact .inr (List.mem_cons_of_mem _ h)

theorem pairsOk_elim {bs : List BOper} {R : List Nat} : ∀ {ord : List Nat},pairsOk bs R ord = true→ord.Pairwise fun i j => bit (R.getD j 0) i = true∨∃ x y,bs[i]? = some x∧bs[j]? = some y∧swapOk x y = true
  | [],_ => List.Pairwise.nil
  | i::r,h => by
    simp only [pairsOk,Bool.and_eq_true,List.all_eq_true,Bool.or_eq_true] at h
    refine List.pairwise_cons.2 ⟨fun j hj => ?_,pairsOk_elim h.2⟩
    rcases h.1 j hj with h | h
    · exact .inl h
    · refine .inr ?_
      split at h
      · rename_i x y hx hy
        exact ⟨x,y,hx,hy,h⟩
      · cases h

theorem compDraw_elim {l : List BOper} (h : compDraw P.underlying P.info? sq N ops = some l) : ∃ ms R ord,(∀ (i : Nat) (b : BOper),ms[i]? = some b→∃ o,ops[i]? = some o∧Fits P sq N ops o b)∧certOk (ops.toList.map depsOf) R = true ∧
    ordered ms ord = some l∧ord.length = ops.size∧Ready (ops.toList.map depsOf) R ms (Array.replicate ops.size false) ops.size ord:=by
  unfold compDraw at h
  simp only [Option.bind_eq_bind,Option.bind_eq_some_iff] at h
  obtain ⟨bs,hbs,h⟩:=h
  obtain ⟨hl,hget⟩:=compOpers_get hbs
  have hl' : bs.length = ops.size:=by simpa using hl
  obtain ⟨ml,mget⟩:=markKeep_get (P:=P) (R:=(Region.before ops).toList) hl'
  generalize pickOrder (markKeep P.underlying ops.toList bs (Region.before ops).toList) (Region.before ops).toList (markKeep P.underlying ops.toList bs (Region.before ops).toList).length 0 [] = ord at h
  split at h
  · rename_i hchk
    simp only [Bool.and_eq_true,permOk,decide_eq_true_eq,List.all_eq_true,List.contains_eq_mem,List.mem_range] at hchk
    obtain ⟨⟨⟨⟨⟨⟨p1,p2⟩,p3⟩,p4⟩,c1⟩,c2⟩,c3⟩:=hchk
    rw [ml] at p2 p3 p4
    refine ⟨_,_,_,fun i c hc => ?_,c1,h,p2,?_⟩
    · obtain ⟨b,hb,q1,q2,q3⟩:=mget i c hc
      obtain ⟨o,ho,hf⟩:=hget i b hb
      exact ⟨o,by simpa using ho,hf.same q1 q2 q3⟩
    · obtain ⟨t1,t2⟩:=topoOk_elim c2 p1 (by simp)
      refine ⟨p3,p1,fun i hi => ?_,by simp,fun i hi hni => absurd (p4 i hi) hni,t1,fun i hi => (t2 i hi).1,fun i hi d hd => ?_,pairsOk_elim c3⟩
      · simp [hi,p4 i hi]
      · rcases (t2 i hi).2 d hd with h | h
        · cases h
        · exact p3 d h
  · cases h

theorem fitsL_of {l : List BOper} (h : compOpers P.underlying P.info? sq N ops ops.toList = some l) : FitsL P sq N ops (List.range ops.size) l:=by
  obtain ⟨hl,hget⟩:=compOpers_get h
  have key : ∀ (n k : Nat) (l' : List BOper),l'.length = n→(∀ (i : Nat) (b : BOper),l'[i]? = some b→∃ o,ops[k + i]? = some o∧Fits P sq N ops o b)→FitsL P sq N ops (List.range' k n) l':=by
    intro n
    induction n with
    | zero => intro k l' hl' _; exact List.eq_nil_of_length_eq_zero hl'
    | succ n ih =>
      intro k l' hl' hg
      cases l' with
      | nil => simp at hl'
      | cons b r =>
        obtain ⟨o,ho,hf⟩:=hg 0 b rfl
        refine ⟨b,r,o,rfl,by simpa using ho,hf,ih (k + 1) r (by simpa using hl') fun i c hc => ?_⟩
        obtain ⟨o',ho',hf'⟩:=hg (i + 1) c (by simpa using hc)
        exact ⟨o',by rw [← ho']; congr 1; omega,hf'⟩
  rw [List.range_eq_range']
  exact key ops.size 0 l (by simpa using hl) fun i b hb => by
    obtain ⟨o,ho,hf⟩:=hget i b hb
    exact ⟨o,by simpa using ho,hf⟩

end
end Go.B
end

section
namespace Go.B
set_option linter.unusedVariables false
set_option linter.unusedSimpArgs false

def BExit.real : BExit→Exit
  | .normal => .normal
  | .exit i => .exit i
  | .ret => .ret

def LoopAt (P : Program) (c : Code) (Q : Exit→Act→World→Prop) (a : Act) (w : World) : Prop :=
  ∀ (b : Frame) (k : List Item) (cs : List Frame),∃ e a' w',Q e a' w'∧Arrives P (lone (b.at a (.code c::.inLoop c::k)) cs w) b k cs e a' w'

theorem loopAt_wp {P : Program} {c : Code} {Q : Exit→Act→World→Prop} {a : Act} {w : World} (h : LoopAt P c Q a w) : (Code.loop c).wp P Q a w:=by
  intro b k cs
  obtain ⟨e,a',w',hq,harr⟩:=h b k cs
  exact ⟨e,a',w',hq,.of_steps (.one step_loop) harr⟩

theorem loopAt_round {P : Program} {c : Code} {Q : Exit→Act→World→Prop} {a : Act} {w : World} (h : c.wp P (Exit.then (LoopAt P c Q) Q) a w) : LoopAt P c Q a w:=by
  intro b k cs
  obtain ⟨e,a₁,w₁,hq,harr⟩:=h b (.inLoop c::k) cs
  cases e with
  | normal =>
    obtain ⟨e₂,a₂,w₂,hq₂,harr₂⟩:=hq b k cs
    exact ⟨e₂,a₂,w₂,hq₂,.of_steps (Steps.trans harr (.one step_inLoop)) harr₂⟩
  | exit id => exact ⟨_,a₁,w₁,hq,.pass (x:=.inLoop c) rfl (fun _ _ => .inl (by simp)) harr⟩
  | goto l => exact ⟨_,a₁,w₁,hq,.pass (x:=.inLoop c) rfl (fun _ _ => .inl (by simp)) harr⟩
  | ret => exact ⟨_,a₁,w₁,hq,.pass (x:=.inLoop c) rfl (fun _ _ => .inl (by simp)) harr⟩
  | panic ch => exact ⟨_,a₁,w₁,hq,.pass (x:=.inLoop c) rfl (fun _ _ => .inl (by simp)) harr⟩
  | outgrown => exact ⟨_,a₁,w₁,hq,.pass (x:=.inLoop c) rfl (fun _ _ => .inl (by simp)) harr⟩

def wpAt (P : Program) : Code→(Exit→Act→World→Prop)→Act→World→Prop
  | .loop c,Q,a,w => LoopAt P c Q a w
  | c,Q,a,w => c.wp P Q a w
theorem wpAt_wp {P : Program} {c : Code} {Q : Exit→Act→World→Prop} {a : Act} {w : World} (h : wpAt P c Q a w) : c.wp P Q a w:=by
  cases c <;> first
    | exact loopAt_wp h
    | exact h

section
variable {P : Program} {base : Nat} {w0 : World} {N : Nat} {sq : Nat→Bool}

theorem HR.drew {X : Tie} {H : BH} {w : World} (h : HR P base w0 X H w) : HR P base w0 X H { w with drawn:=w.drawn + 1 } :=
  h.grow ⟨h.ext.os,h.ext.tape,h.ext.output,h.ext.size,h.ext.cell,h.ext.frozen,h.ext.block⟩ fun _ _ => rfl

theorem code_sound {LO : Prop} (hm : P.follows .mixedOrders = true) (hsq : ∀ t,sq t = true→P.stoodInHeld t = false∧P.eqGuardType P.depth t = false) {C : CRel} (hC : Sound P base w0 LO C) (hFr : Framed C) {c : BCode} {e e' : Env} {H H' : BH} {x : BExit}
    (hx : ExC base C c e H x e' H') : ∀ (code : Code),comp P.underlying P.info? sq N code = some c→∀ {Q : Exit→Act→World→Prop} (_ : LO→LetsOut Q) {X : Tie} {a : Act} {w : World},AR base X N e a→HR P base w0 X H w →
      (∀ X' a' w',X.le X'→AR base X' N e' a'→HR P base w0 X' H' w'→Q x.real a' w')→wpAt P code Q a w:=by
  induction hx with
  | skip =>
    intro code hc Q hQ X a w ha hr hK
    cases code <;> simp [comp,Option.bind_eq_some_iff] at hc
    exact wp_skip (hK X a w (Tie.le_refl X) ha hr)
  | exit =>
    intro code hc Q hQ X a w ha hr hK
    cases code <;> simp [comp,Option.bind_eq_some_iff] at hc
    subst hc
    exact wp_exit (hK X a w (Tie.le_refl X) ha hr)
  | ret =>
    intro code hc Q hQ X a w ha hr hK
    cases code <;> simp [comp,Option.bind_eq_some_iff] at hc
    exact wp_ret (hK X a w (Tie.le_refl X) ha hr)
  | @region ops e e' H H' hx =>
    intro code hc Q hQ X a w ha hr hK
    cases code <;> simp [comp,Option.bind_eq_some_iff] at hc
    rename_i id rops draw
    unfold compRegion at hc
    cases draw with
    | false =>
      simp only [Bool.false_eq_true,if_false] at hc
      exact wp_region (wpOps_of hsq hC hQ _ _ (fitsL_of hc) hx ha hr hK)
    | true =>
      simp only [if_true] at hc
      obtain ⟨ms,R,ord,h1,h2,h3,h4,h5⟩:=compDraw_elim hc
      exact wp_region_any hm (wpAny_of hsq hC hFr hQ h1 h2 rops.size ord ops _ h4 h3 h5 hx ha hr.drew hK)
  | seq _ _ ih1 ih2 =>
    intro code hc Q hQ X a w ha hr hK
    cases code <;> simp [comp,Option.bind_eq_some_iff] at hc
    obtain ⟨hca,hcb⟩:=hc
    refine wp_seq (wpAt_wp (ih1 _ hca (Q:=Exit.then (Code.wp P _ Q) Q) (fun h => hQ h) ha hr fun X' a' w' hle ha' hr' => ?_))
    exact wpAt_wp (ih2 _ hcb hQ ha' hr' fun X'' a'' w'' hle' => hK X'' a'' w'' (Tie.le_trans hle hle'))
  | @seqx _ _ x _ _ _ _ _ hne ih =>
    intro code hc Q hQ X a w ha hr hK
    cases code <;> simp [comp,Option.bind_eq_some_iff] at hc
    obtain ⟨hca,hcb⟩:=hc
    refine wp_seq (wpAt_wp (ih _ hca (Q:=Exit.then (Code.wp P _ Q) Q) (fun h => hQ h) ha hr fun X' a' w' hle ha' hr' => ?_))
    have:=hK X' a' w' hle ha' hr'
    cases x with
    | normal => exact absurd rfl hne
    | exit i => exact this
    | ret => exact this
  | thn hcc _ ih =>
    intro code hc Q hQ X a w ha hr hK
    cases code <;> simp [comp,Option.bind_eq_some_iff] at hc
    obtain ⟨o,ho,ca,hca,cb,hcb,rfl,rfl,rfl⟩:=hc
    have:=ha.opd _ _ ho
    simp only [hcc] at this
    exact wp_cond_true this (wpAt_wp (ih _ hca hQ ha hr hK))
  | els hcc _ ih =>
    intro code hc Q hQ X a w ha hr hK
    cases code <;> simp [comp,Option.bind_eq_some_iff] at hc
    obtain ⟨o,ho,ca,hca,cb,hcb,rfl,rfl,rfl⟩:=hc
    have:=ha.opd _ _ ho
    simp only [hcc] at this
    exact wp_cond_false this (wpAt_wp (ih _ hcb hQ ha hr hK))
  | @block id b x _ _ _ _ _ ih =>
    intro code hc Q hQ X a w ha hr hK
    cases code <;> simp [comp,Option.bind_eq_some_iff] at hc
    obtain ⟨hcb,rfl⟩:=hc
    refine wp_block (wpAt_wp (ih _ hcb (Q:=Exit.inBlock _ Q) (fun h => hQ h) ha hr fun X' a' w' hle ha' hr' => ?_))
    have:=hK X' a' w' hle ha' hr'
    cases x with
    | normal => exact this
    | exit i =>
      simp only [BExit.real,Exit.inBlock]
      simp only [BExit.outOf] at this
      split at this
      · rename_i h; rw [if_pos h]; exact this
      · rename_i h; rw [if_neg h]; exact this
    | ret => exact this
  | loopn _ _ ih1 ih2 =>
    intro code hc Q hQ X a w ha hr hK
    cases code <;> simp [comp,Option.bind_eq_some_iff] at hc
    rename_i body
    refine loopAt_round (wpAt_wp (ih1 _ hc (Q:=Exit.then (LoopAt P _ Q) Q) (fun h => hQ h) ha hr fun X' a' w' hle ha' hr' => ?_))
    exact ih2 (.loop body) (by simp [comp,hc]) hQ ha' hr' fun X'' a'' w'' hle' => hK X'' a'' w'' (Tie.le_trans hle hle')
  | @loopx _ x _ _ _ _ _ hne ih =>
    intro code hc Q hQ X a w ha hr hK
    cases code <;> simp [comp,Option.bind_eq_some_iff] at hc
    refine loopAt_round (wpAt_wp (ih _ hc (Q:=Exit.then (LoopAt P _ Q) Q) (fun h => hQ h) ha hr fun X' a' w' hle ha' hr' => ?_))
    have:=hK X' a' w' hle ha' hr'
    cases x with
    | normal => exact absurd rfl hne
    | exit i => exact this
    | ret => exact this

theorem res_rel {e : Env} {X : Tie} {H : BH} {a : Act} {w : World} (ha : AR base X N e a) (hr : HR P base w0 X H w) : ∀ (rs : List ResultVar) (bs : List BRes) (vs : List BV),
    rs.mapM (fun | .tmp t => some (BRes.tmp t) | .cell a t => do some (BRes.cell a (← shapeOf P.underlying P.info? t))) = some bs→resVals e H bs = some vs →
    ∃ us,(rs.mapM (m:=Sem) fun | .tmp t => pure (a.tmps.getD t undef) | .cell b t => do loadVar t (← asAddr (a.tmps.getD b undef))).run P w = .ok us w∧VRL base X vs us
  | [],bs,vs,hb,hv => by
    simp at hb
    subst hb
    simp [resVals] at hv
    subst hv
    exact ⟨[],rfl,rfl⟩
  | r::rs,bs,vs,hb,hv => by
    simp only [List.mapM_cons,Option.bind_eq_bind,Option.pure_def,Option.bind_eq_some_iff] at hb
    obtain ⟨b,hb1,bs',hbs,e1⟩:=hb
    simp at e1
    subst e1
    unfold resVals at hv
    cases hbv : b.val e H with
    | none => rw [hbv] at hv; cases hv
    | some v =>
      rw [hbv] at hv
      cases hrs : resVals e H bs' with
      | none => rw [hrs] at hv; cases hv
      | some vs' =>
        rw [hrs] at hv
        simp at hv
        subst hv
        obtain ⟨us,h1,h2⟩:=res_rel ha hr rs bs' vs' hbs hrs
        cases r with
        | tmp t =>
          simp at hb1
          subst hb1
          simp only [BRes.val,Option.some.injEq] at hbv
          subst hbv
          refine ⟨a.tmps.getD t undef::us,?_,_,_,rfl,ha.tmps t,h2⟩
          simp only [List.mapM_cons,Sem.run_bind,Sem.run_pure,Result.andThen_ok,h1]
        | cell b t =>
          simp [Option.bind_eq_some_iff] at hb1
          obtain ⟨sh,hsh,rfl⟩:=hb1
          simp only [BRes.val] at hbv
          split at hbv
          · rename_i bb i hbb
            split at hbv
            · rename_i ty cs hcs
              split at hbv
              · rename_i hle
                obtain ⟨r,v',hX,hrun,kv⟩:=run_loadVar_rel hr hcs hsh hle hbv
                have htm:=ha.tmps b
                rw [hbb] at htm
                obtain ⟨r',hX',htm⟩:=htm
                rw [hX] at hX'
                cases hX'
                refine ⟨v'::us,?_,_,_,rfl,kv,h2⟩
                have hasa : (asAddr (a.tmps.getD b undef)).run P w = .ok ⟨r.blk,i,none⟩ w:=by rw [htm]; rfl
                simp only [List.mapM_cons,Sem.run_bind,hasa,Sem.run_pure,Result.andThen_ok,hrun,h1]
              · cases hbv
            · cases hbv
          · cases hbv

def Linked (P : Program) (sq : Nat→Bool) (Γ : Ctx) : Prop:=∀ f bfn,Γ.fn f = some bfn→∃ fn,P.funcs[f]? = some fn∧compFun P.underlying P.info? sq fn = some bfn∧(fn.name == "runtime.NumGoroutine") = false

theorem calls_sound {LO : Prop} {Γ : Ctx} (hm : P.follows .mixedOrders = true) (hsq : ∀ t,sq t = true→P.stoodInHeld t = false∧P.eqGuardType P.depth t = false) (hl : Linked P sq Γ) (hext : Sound P Γ.base w0 LO Γ.ext) (hfr : Framed Γ.ext) :
    ∀ n,Sound P Γ.base w0 LO (CallN Γ n)
  | 0 => fun _ _ _ _ _ h => h.elim
  | n + 1 => by
    intro f args H v H1 h
    rcases h with ⟨bfn,hf,x,e',hx,hxx,hres⟩ | h
    · obtain ⟨fn,hfn,hcomp,hname⟩:=hl f bfn hf
      unfold compFun at hcomp
      simp only [Option.bind_eq_bind,Option.bind_eq_some_iff] at hcomp
      obtain ⟨c,hbody,bc,hbc,rs,hrs,e1⟩:=hcomp
      simp at e1
      subst e1
      refine ⟨fun args w => ?_,fun X w args' hargs hr => ?_⟩
      · have hne : ¬ fn.name = "runtime.NumGoroutine":=by simpa using hname
        simp [callFunc,hfn,hne,hbody]
      · refine calls_of_wp hfn hbody (wpAt_wp (code_sound (N:=fn.ntmps) hm hsq (calls_sound hm hsq hl hext hfr n) (CallN.framed hfr n) hx c hbc (Q:=bodyPost P fn (CallPost P Γ.base w0 X v H1 LO)) ?_ ?_ hr ?_))
        · intro hlo
          exact ⟨⟨#[],[]⟩,w,hlo⟩
        · refine ⟨fun t => ?_,?_,rfl⟩
          · simp only [argEnv]
            have hlen : args.length = args'.size:=by simpa using hargs.len
            by_cases ht : t < args.length
            · obtain ⟨u,hu,ku⟩:=hargs.get t _ (List.getElem?_eq_getElem ht)
              have hu' : args'[t]? = some u:=by simpa using hu
              have h1 : args.getD t (.tup []) = args[t]:=by simp [List.getD_eq_getElem?_getD,ht]
              have h2 : (args'++Array.replicate (fn.ntmps - args'.size) undef).getD t undef = u:=by
                rw [Array.getD_eq_getD_getElem?,Array.getElem?_append_left (by omega),hu']
                rfl
              rw [h1,h2]
              exact ku
            · have h1 : args.getD t (.tup []) = .tup []:=by simp [List.getD_eq_getElem?_getD,List.getElem?_eq_none (Nat.le_of_not_lt ht)]
              have h2 : (args'++Array.replicate (fn.ntmps - args'.size) undef).getD t undef = undef:=by
                rw [Array.getD_eq_getD_getElem?,Array.getElem?_append_right (by omega)]
                by_cases hq : t - args'.size < fn.ntmps - args'.size
                · simp [hq]
                · simp [hq]
              rw [h1,h2]
              exact ⟨#[],rfl,rfl⟩
          · simp
            omega
        · intro X' a' w' hle ha' hr'
          have hfin : a'.defers = []∧∃ v',(results fn a'.tmps).run P w' = .ok v' w'∧CallPost P Γ.base w0 X v H1 LO (.returned v') w':=by
            refine ⟨ha'.defers,?_⟩
            unfold resOf at hres
            cases hvs : resVals e' H1 rs with
            | none => rw [hvs] at hres; cases hres
            | some vs =>
              rw [hvs] at hres
              simp at hres
              subst hres
              obtain ⟨us,h1,h2⟩:=res_rel ha' hr' fn.results.toList rs vs hrs hvs
              have hlen:=h2.len
              have hrun : ((fn.results.mapM (m:=Sem) fun | .tmp t => pure (a'.tmps.getD t undef) | .cell b t => do loadVar t (← asAddr (a'.tmps.getD b undef)))).run P w' = .ok us.toArray w':=by
                rw [Array.mapM_eq_mapM_toList,Sem.run_map,h1]
                rfl
              refine ⟨if h : us.toArray.size = 1 then us.toArray[0] else .tuple us.toArray,?_,X',hle,?_,hr'⟩
              · unfold results
                rw [Sem.run_bind]
                exact (congrArg (fun r => Result.andThen r fun (a : Array Value) w' => (pure (if h : a.size = 1 then a[0] else Value.tuple a) : Sem Value).run P w') hrun)
              · match vs,us,h2,hlen with
                | [],[],_,_ => exact ⟨#[],rfl,rfl⟩
                | [c],[u],h2,_ =>
                  obtain ⟨_,_,e2,k,_⟩:=h2
                  cases e2
                  exact k
                | c::c2::cs,u::u2::us,h2,_ => 
                  have : ¬ (u::u2::us).toArray.size = 1:=by simp
                  rw [dif_neg this]
                  exact ⟨_,rfl,h2⟩
          rcases hxx with rfl | rfl
          · exact hfin
          · exact hfin
    · exact hext _ _ _ _ _ h

theorem call_sound {LO : Prop} {Γ : Ctx} (hm : P.follows .mixedOrders = true) (hsq : ∀ t,sq t = true→P.stoodInHeld t = false∧P.eqGuardType P.depth t = false) (hl : Linked P sq Γ) (hext : Sound P Γ.base w0 LO Γ.ext) (hfr : Framed Γ.ext) :
    Sound P Γ.base w0 LO (Runs Γ):=fun f args H v H1 ⟨n,h⟩ => calls_sound hm hsq hl hext hfr n f args H v H1 h

end
end Go.B
end

section
namespace Go.B
set_option linter.unusedVariables false
set_option linter.unusedSimpArgs false

/-! ### slices, read -/
def BV.isSl : BV→Bool
  | .nils | .sle | .sl _ _ _ => true
  | _ => false
def BV.slen : BV→Nat
  | .sl _ _ n => n
  | _ => 0
def BV.sat (v : BV) (i sz : Nat) : BV:=match v with
  | .sl b o _ => .ptr b (o + i * sz)
  | _ => .any
def BH.rd (H : BH) (rt : Option Nat) (n : Option Nat) (p : BV) : Option BV:=match p with
  | .ptr b o => match H.row b with
    | .arr ty cs => if rtOk rt ty = true∧o + n.getD 1≤cs.length then asm n ((cs.drop o).take (n.getD 1)) else none
    | _ => none
  | _ => none

section
variable {base nb : Nat} {σ : Opd→BV} {H : BH}
theorem op1_mov {x : Opd} : op1 base nb σ H (.mov x) = some (σ x,H):=rfl
theorem op1_pick {c a b : Opd} : op1 base nb σ H (.pick c a b) = match σ c with | .bool true => some (σ a,H) | .bool false => some (σ b,H) | _ => none:=rfl
theorem op1_new {ty : Nat} {z : List BV} : op1 base nb σ H (.new ty z) = (H.make base nb (.arr ty z)).map fun K => (.ptr nb 0,K):=rfl
theorem op1_box {ty : Nat} {x : Opd} : op1 base nb σ H (.box ty x) = if (σ x).cells.all BV.one = true then (H.make base nb (.arr ty (σ x).cells)).map fun K => (.ptr nb 0,K) else none:=rfl
theorem op1_load {rt n : Option Nat} {a : Opd} : op1 base nb σ H (.load rt n a) = (H.rd rt n (σ a)).map (·,H):=by
  cases ha : σ a <;> simp only [op1,BH.rd,ha] <;> try rfl
  rename_i b o
  cases hb : H.row b <;> simp only [] <;> try rfl
  split <;> rfl
theorem op1_nilck {x : Opd} : op1 base nb σ H (.nilck x) = match σ x with | .ptr b o => some (.ptr b o,H) | .fn f cs => some (.fn f cs,H) | _ => none:=rfl
theorem op1_bin {op : BinOp} {x y : Opd} : op1 base nb σ H (.bin op x y) = (pureBin op (σ x) (σ y)).map (·,H):=rfl
theorem op1_beq {neg : Bool} {x y : Opd} : op1 base nb σ H (.beq neg x y) = match σ x,σ y with | .bool a,.bool b => some (.bool (if neg then !(a == b) else a == b),H) | _,_ => none:=rfl
theorem op1_not {x : Opd} : op1 base nb σ H (.not x) = match σ x with | .bool b => some (.bool (!b),H) | _ => none:=rfl
theorem op1_neg {x : Opd} : op1 base nb σ H (.neg x) = match σ x with | .int k n => some (.int k (k.wrap (0 - n)),H) | _ => none:=rfl
theorem op1_conv {k : IntKind} {x : Opd} : op1 base nb σ H (.conv k x) = match σ x with | .int _ n => some (.int k (k.wrap n),H) | _ => none:=rfl
theorem op1_lea {off : Nat} {x : Opd} : op1 base nb σ H (.lea off x) = match σ x with | .ptr b o => some (.ptr b (o + off),H) | _ => none:=rfl
theorem op1_fld {off : Nat} {n : Option Nat} {x : Opd} : op1 base nb σ H (.fld off n x) = match σ x with | .agg cs => if off + n.getD 1≤cs.length then (asm n ((cs.drop off).take (n.getD 1))).map (·,H) else none | _ => none:=rfl
theorem op1_len0 {x : Opd} : op1 base nb σ H (.len 0 x) = match σ x with | .str s => some (.int .i64 s.size,H) | _ => none:=by
  cases h : σ x <;> simp only [op1,h]
theorem op1_len1 {x : Opd} : op1 base nb σ H (.len 1 x) = if (σ x).isSl = true then some (.int .i64 (σ x).slen,H) else none:=by
  cases h : σ x <;> simp [op1,h,BV.isSl,BV.slen]
theorem op1_idx {sz : Nat} {x i : Opd} : op1 base nb σ H (.idx sz x i) = match σ i with
    | .int _ j => if (σ x).isSl = true∧0≤j∧j < (σ x).slen then some ((σ x).sat j.toNat sz,H) else none
    | _ => none:=by
  cases h : σ x <;> cases h2 : σ i <;> simp [op1,h,h2,BV.isSl,BV.slen,BV.sat]
  all_goals (intro h3 h4; omega)
theorem op1_idxs {x i : Opd} : op1 base nb σ H (.idxs x i) = match σ x,σ i with | .str s,.int _ j => if 0≤j then (s[j.toNat]?).map fun b => (.int .u8 b.toNat,H) else none | _,_ => none:=rfl
theorem op1_ext {i : Nat} {x : Opd} : op1 base nb σ H (.ext i x) = match σ x with | .tup vs => vs[i]?.map (·,H) | _ => none:=rfl
theorem op1_build {z : List BV} {ps : List (Nat × Nat × Opd)} : op1 base nb σ H (.build z ps) = match fillB z (ps.map fun (o,n,x) => (o,n,σ x)) with | some cs => some (.agg cs,H) | none => none:=rfl
theorem op1_mk {ty n : Nat} {z : List BV} {ps : List (Nat × Nat × Opd)} : op1 base nb σ H (.mk ty n z ps) = match fillB z (ps.map fun (o,n,x) => (o,n,σ x)) with
    | some cs => (H.make base nb (.arr ty cs)).map fun K => (.sl nb 0 n,K) | none => none:=rfl
theorem op1_mksl {ty bytes : Nat} {zero : List BV} {len cap : Opd} : op1 base nb σ H (.mksl ty bytes zero len cap) = match σ len,σ cap with
    | .int _ n,.int _ c => if 0≤n∧n≤c∧(bytes : Int) * c≤140737488355328∧c≤140737488355328 then
        (H.make base nb (.arr ty (List.flatten (List.replicate n.toNat zero)))).map fun K => (.sl nb 0 n.toNat,K) else none
    | _,_ => none:=rfl
theorem op1_isnil {neg : Bool} {x : Opd} : op1 base nb σ H (.isnil neg x) = match σ x with | .nils => some (.bool (!neg),H) | .sl _ _ _ => some (.bool neg,H) | _ => none:=rfl
theorem op1_eqs {neg : Bool} {fs : List (Nat × Nat)} {x y : Opd} : op1 base nb σ H (.eqs neg fs x y) = match σ x,σ y with
    | .agg xs,.agg ys => (eqFieldsB xs ys fs).map fun b => (.bool (if neg then !b else b),H) | _,_ => none:=rfl
end

section
variable {base : Nat} {C : CRel} {Q : Post} {e : Env} {H : BH}
theorem wpC_skip : wpC base C .skip Q e H = Q .normal e H:=rfl
theorem wpC_region {ops : List BOper} : wpC base C (.region ops) Q e H = wpO base C ops (Q .normal) e H:=rfl
theorem wpC_seq {a b : BCode} : wpC base C (.seq a b) Q e H = wpC base C a (Post.then (wpC base C b Q) Q) e H:=rfl
theorem wpC_block {id : Nat} {b : BCode} : wpC base C (.block id b) Q e H = wpC base C b (Post.inBlock id Q) e H:=rfl
theorem wpC_exit {id : Nat} : wpC base C (.exit id) Q e H = Q (.exit id) e H:=rfl
theorem wpC_ret : wpC base C .ret Q e H = Q .ret e H:=rfl
end

/-! ### step by step: nothing is opened before it is known -/
abbrev CallS (C : CRel) (g : Nat) (args : List BV) (k : List Nat) (d : Option Nat) (K : Env→BH→Prop) (e : Env) (H : BH) : Prop :=
  ∃ v H1,C g args H v H1∧H.KeepsTys k H1∧K (e.puto d v) H1
section
variable {base : Nat} {C : CRel} {e : Env} {H : BH} {K : Env→BH→Prop} {Q : Env→BH→Prop} {d : Option Nat} {g : Option (Nat × Bool)} {kp : List Nat}
theorem after_some {v : BV} {H1 : BH} : after (some (v,H1)) d K e = K (e.puto d v) H1:=Eq.trans rfl rfl
theorem wpS_mov {x : Opd} : wpStep base C ⟨d,.mov x,g,kp⟩ K e H = after (op1 base 0 (·.ev e) H (.mov x)) d K e:=rfl
theorem wpS_pick {c a b : Opd} : wpStep base C ⟨d,.pick c a b,g,kp⟩ K e H = after (op1 base 0 (·.ev e) H (.pick c a b)) d K e:=rfl
theorem wpS_build {z : List BV} {ps : List (Nat × Nat × Opd)} : wpStep base C ⟨d,.build z ps,g,kp⟩ K e H = after (op1 base 0 (·.ev e) H (.build z ps)) d K e:=rfl
theorem wpS_load {rt n : Option Nat} {a : Opd} : wpStep base C ⟨d,.load rt n a,g,kp⟩ K e H = after (op1 base 0 (·.ev e) H (.load rt n a)) d K e:=rfl
theorem wpS_store {rt : Option Nat} {n : Nat} {a v : Opd} : wpStep base C ⟨d,.store rt n a v,g,kp⟩ K e H = after (op1 base 0 (·.ev e) H (.store rt n a v)) d K e:=rfl
theorem wpS_nilck {x : Opd} : wpStep base C ⟨d,.nilck x,g,kp⟩ K e H = after (op1 base 0 (·.ev e) H (.nilck x)) d K e:=rfl
theorem wpS_bin {op : BinOp} {x y : Opd} : wpStep base C ⟨d,.bin op x y,g,kp⟩ K e H = after (op1 base 0 (·.ev e) H (.bin op x y)) d K e:=rfl
theorem wpS_beq {neg : Bool} {x y : Opd} : wpStep base C ⟨d,.beq neg x y,g,kp⟩ K e H = after (op1 base 0 (·.ev e) H (.beq neg x y)) d K e:=rfl
theorem wpS_isnil {neg : Bool} {x : Opd} : wpStep base C ⟨d,.isnil neg x,g,kp⟩ K e H = after (op1 base 0 (·.ev e) H (.isnil neg x)) d K e:=rfl
theorem wpS_eqs {neg : Bool} {fs : List (Nat × Nat)} {x y : Opd} : wpStep base C ⟨d,.eqs neg fs x y,g,kp⟩ K e H = after (op1 base 0 (·.ev e) H (.eqs neg fs x y)) d K e:=rfl
theorem wpS_not {x : Opd} : wpStep base C ⟨d,.not x,g,kp⟩ K e H = after (op1 base 0 (·.ev e) H (.not x)) d K e:=rfl
theorem wpS_neg {x : Opd} : wpStep base C ⟨d,.neg x,g,kp⟩ K e H = after (op1 base 0 (·.ev e) H (.neg x)) d K e:=rfl
theorem wpS_conv {k : IntKind} {x : Opd} : wpStep base C ⟨d,.conv k x,g,kp⟩ K e H = after (op1 base 0 (·.ev e) H (.conv k x)) d K e:=rfl
theorem wpS_lea {o : Nat} {x : Opd} : wpStep base C ⟨d,.lea o x,g,kp⟩ K e H = after (op1 base 0 (·.ev e) H (.lea o x)) d K e:=rfl
theorem wpS_fld {o : Nat} {n : Option Nat} {x : Opd} : wpStep base C ⟨d,.fld o n x,g,kp⟩ K e H = after (op1 base 0 (·.ev e) H (.fld o n x)) d K e:=rfl
theorem wpS_idx {sz : Nat} {x i : Opd} : wpStep base C ⟨d,.idx sz x i,g,kp⟩ K e H = after (op1 base 0 (·.ev e) H (.idx sz x i)) d K e:=rfl
theorem wpS_idxs {x i : Opd} : wpStep base C ⟨d,.idxs x i,g,kp⟩ K e H = after (op1 base 0 (·.ev e) H (.idxs x i)) d K e:=rfl
theorem wpS_slice {sz : Nat} {x : Opd} {lo hi : Option Opd} : wpStep base C ⟨d,.slice sz x lo hi,g,kp⟩ K e H = after (op1 base 0 (·.ev e) H (.slice sz x lo hi)) d K e:=rfl
theorem wpS_sslice {x : Opd} {lo hi : Option Opd} : wpStep base C ⟨d,.sslice x lo hi,g,kp⟩ K e H = after (op1 base 0 (·.ev e) H (.sslice x lo hi)) d K e:=rfl
theorem wpS_mkfn {f : Nat} {cs : List Opd} : wpStep base C ⟨d,.mkfn f cs,g,kp⟩ K e H = after (op1 base 0 (·.ev e) H (.mkfn f cs)) d K e:=rfl
theorem wpS_mset {kd : Nat} {m k v : Opd} : wpStep base C ⟨d,.mset kd m k v,g,kp⟩ K e H = after (op1 base 0 (·.ev e) H (.mset kd m k v)) d K e:=rfl
theorem wpS_look {kd : Nat} {ok : Bool} {z : BV} {m k : Opd} : wpStep base C ⟨d,.look kd ok z m k,g,kp⟩ K e H = after (op1 base 0 (·.ev e) H (.look kd ok z m k)) d K e:=rfl
theorem wpS_ext {i : Nat} {x : Opd} : wpStep base C ⟨d,.ext i x,g,kp⟩ K e H = after (op1 base 0 (·.ev e) H (.ext i x)) d K e:=rfl
theorem wpS_len {kd : Nat} {x : Opd} : wpStep base C ⟨d,.len kd x,g,kp⟩ K e H = after (op1 base 0 (·.ev e) H (.len kd x)) d K e:=rfl
theorem wpS_new {ty : Nat} {z : List BV} : wpStep base C ⟨d,.new ty z,g,kp⟩ K e H = ∀ nb,base≤nb→H.row nb = .fresh→after (op1 base nb (·.ev e) H (.new ty z)) d K e:=rfl
theorem wpS_box {ty : Nat} {x : Opd} : wpStep base C ⟨d,.box ty x,g,kp⟩ K e H = ∀ nb,base≤nb→H.row nb = .fresh→after (op1 base nb (·.ev e) H (.box ty x)) d K e:=rfl
theorem wpS_mk {ty n : Nat} {z : List BV} {ps : List (Nat × Nat × Opd)} : wpStep base C ⟨d,.mk ty n z ps,g,kp⟩ K e H = ∀ nb,base≤nb→H.row nb = .fresh→after (op1 base nb (·.ev e) H (.mk ty n z ps)) d K e:=rfl
theorem wpS_mkmap  : wpStep base C ⟨d,.mkmap,g,kp⟩ K e H = ∀ nb,base≤nb→H.row nb = .fresh→after (op1 base nb (·.ev e) H (.mkmap)) d K e:=rfl
theorem wpS_mksl {ty bytes : Nat} {zero : List BV} {len cap : Opd} : wpStep base C ⟨d,.mksl ty bytes zero len cap,g,kp⟩ K e H = ∀ nb,base≤nb→H.row nb = .fresh→after (op1 base nb (·.ev e) H (.mksl ty bytes zero len cap)) d K e:=rfl
theorem wpS_app {ty sz bytes : Nat} {x y : Opd} : wpStep base C ⟨d,.app ty sz bytes x y,g,kp⟩ K e H = ∀ nb,base≤nb→H.row nb = .fresh→after (op1 base nb (·.ev e) H (.app ty sz bytes x y)) d K e:=rfl
theorem wpS_fn {n : Nat} {caps : List BV} {xs : List Opd} : wpStep base C ⟨d,.call (.c (.fn n caps)) xs,g,kp⟩ K e H = CallS C n (xs.map (·.ev e)++caps) kp d K e H:=rfl
theorem wpS_call {f : Opd} {xs : List Opd} {n : Nat} {caps : List BV} (h : f.ev e = .fn n caps) : wpStep base C ⟨d,.call f xs,g,kp⟩ K e H = CallS C n (xs.map (·.ev e)++caps) kp d K e H:=by
  unfold wpStep
  simp only [h]
theorem wpO_nil : wpO base C [] Q e H = Q e H:=rfl
variable {op : BOp} {r : List BOper} {t : Nat}
theorem wpO_n : wpO base C (⟨d,op,none,kp⟩::r) Q e H = wpStep base C ⟨d,op,none,kp⟩ (wpO base C r Q) e H:=by
  have h : wpO base C (⟨d,op,none,kp⟩::r) Q e H = wpStep base C ⟨d,op,none,kp⟩ (wpO base C r Q) e H:=rfl
  exact h.trans (Eq.symm (Eq.symm rfl))
theorem wpO_tt (h : e t = .bool true) : wpO base C (⟨d,op,some (t,true),kp⟩::r) Q e H = wpStep base C ⟨d,op,some (t,true),kp⟩ (wpO base C r Q) e H:=by
  simp [wpO,wantB,h]
theorem wpO_ff (h : e t = .bool false) : wpO base C (⟨d,op,some (t,false),kp⟩::r) Q e H = wpStep base C ⟨d,op,some (t,false),kp⟩ (wpO base C r Q) e H:=by
  simp [wpO,wantB,h]
theorem wpO_tf (h : e t = .bool false) : wpO base C (⟨d,op,some (t,true),kp⟩::r) Q e H = wpO base C r Q (e.puto d (.tup [])) H:=by
  simp [wpO,wantB,h]
theorem wpO_ft (h : e t = .bool true) : wpO base C (⟨d,op,some (t,false),kp⟩::r) Q e H = wpO base C r Q (e.puto d (.tup [])) H:=by
  simp [wpO,wantB,h]
theorem wpO_u {b : Bool} (h : e t = .tup []) : wpO base C (⟨d,op,some (t,b),kp⟩::r) Q e H = wpO base C r Q (e.puto d (.tup [])) H:=by
  simp [wpO,wantB,h]
theorem wpC_true {c : Opd} {a b : BCode} {Q : Post} (h : c.ev e = .bool true) : wpC base C (.cond c a b) Q e H = wpC base C a Q e H:=by
  rw [wpC,h]
theorem wpC_false {c : Opd} {a b : BCode} {Q : Post} (h : c.ev e = .bool false) : wpC base C (.cond c a b) Q e H = wpC base C b Q e H:=by
  rw [wpC,h]
end

theorem put_eq {e : Env} {t : Nat} {v : BV} : (e.put t v) t = v:=by simp [Env.put]
theorem put_ne {e : Env} {s t : Nat} {v : BV} (h : s≠t) : (e.put t v) s = e s:=by simp [Env.put,h]
theorem puto_some {e : Env} {t : Nat} {v : BV} : e.puto (some t) v = e.put t v:=by unfold Env.puto; rfl
theorem puto_none {e : Env} {v : BV} : e.puto none v = e:=by unfold Env.puto; rfl

theorem runs_of {Γ : Ctx} {f : Nat} {fn : BFun} {args : List BV} {H : BH} {v : BV} {H' : BH} (hf : Γ.fn f = some fn)
    (h : wpC Γ.base (Runs Γ) fn.body (fun x e' K => (x = .normal∨x = .ret)∧resOf fn.results e' K = some v∧K = H') (argEnv args) H) : Runs Γ f args H v H':=by
  obtain ⟨u,K,h1,rfl,rfl⟩:=call_of_wp (R:=fun u K => u = v∧K = H') hf (wpC_mono (fun x e K ⟨a,b,c⟩ => ⟨a,_,b,rfl,c⟩) h)
  exact h1

theorem wpC_count {base : Nat} {C : CRel} {b : BCode} {Q : Post} (n : Nat) (I : Nat→Env→BH→Prop) {i0 : Nat} {e : Env} {H : BH} (h0 : I i0 e H) (hi : i0≤n)
    (round : ∀ i e H,i≤n→I i e H→wpC base C b (Post.then (fun e' H' => i < n∧I (i + 1) e' H') Q) e H) : wpC base C (.loop b) Q e H:=by
  show ∃ x e' H',ExC base C (.loop b) e H x e' H'∧Q x e' H'
  have key : ∀ k i e H,n - i = k→i≤n→I i e H→∃ x e' H',ExC base C (.loop b) e H x e' H'∧Q x e' H':=by
    intro k
    induction k with
    | zero =>
      intro i e H hk hle hI
      obtain ⟨x,e1,H1,hx,hQ⟩:=wpC_elim (round i e H hle hI)
      cases x with
      | normal => have:=hQ.1; omega
      | exit j => exact ⟨_,e1,H1,.loopx hx (by simp),hQ⟩
      | ret => exact ⟨_,e1,H1,.loopx hx (by simp),hQ⟩
    | succ k ih =>
      intro i e H hk hle hI
      obtain ⟨x,e1,H1,hx,hQ⟩:=wpC_elim (round i e H hle hI)
      cases x with
      | normal =>
        obtain ⟨hlt,hI1⟩:=hQ
        obtain ⟨x,e2,H2,hy,hQ⟩:=ih (i + 1) e1 H1 (by omega) (by omega) hI1
        exact ⟨x,e2,H2,.loopn hx hy,hQ⟩
      | exit j => exact ⟨_,e1,H1,.loopx hx (by simp),hQ⟩
      | ret => exact ⟨_,e1,H1,.loopx hx (by simp),hQ⟩
  exact key _ i0 e H rfl hi h0

theorem one_int {k : IntKind} {n : Int} : BV.one (.int k n) = true:=rfl
theorem cells_int {k : IntKind} {n : Int} : BV.cells (.int k n) = [(.int k n)]:=rfl
theorem one_bool {b : Bool} : BV.one (.bool b) = true:=rfl
theorem cells_bool {b : Bool} : BV.cells (.bool b) = [(.bool b)]:=rfl
theorem one_str {s : ByteArray} : BV.one (.str s) = true:=rfl
theorem cells_str {s : ByteArray} : BV.cells (.str s) = [(.str s)]:=rfl
theorem one_nilp  : BV.one .nilp = true:=rfl
theorem cells_nilp  : BV.cells .nilp = [.nilp]:=rfl
theorem one_ptr {b o : Nat} : BV.one (.ptr b o) = true:=rfl
theorem cells_ptr {b o : Nat} : BV.cells (.ptr b o) = [(.ptr b o)]:=rfl
theorem one_nils  : BV.one .nils = true:=rfl
theorem cells_nils  : BV.cells .nils = [.nils]:=rfl
theorem one_sl {b o n : Nat} : BV.one (.sl b o n) = true:=rfl
theorem cells_sl {b o n : Nat} : BV.cells (.sl b o n) = [(.sl b o n)]:=rfl
theorem one_sle  : BV.one .sle = true:=rfl
theorem cells_sle  : BV.cells .sle = [.sle]:=rfl
theorem one_nilm  : BV.one .nilm = true:=rfl
theorem cells_nilm  : BV.cells .nilm = [.nilm]:=rfl
theorem one_mp {b : Nat} : BV.one (.mp b) = true:=rfl
theorem cells_mp {b : Nat} : BV.cells (.mp b) = [(.mp b)]:=rfl
theorem one_nilf  : BV.one .nilf = true:=rfl
theorem cells_nilf  : BV.cells .nilf = [.nilf]:=rfl
theorem one_fn {f : Nat} {cs : List BV} : BV.one (.fn f cs) = true:=rfl
theorem cells_fn {f : Nat} {cs : List BV} : BV.cells (.fn f cs) = [(.fn f cs)]:=rfl
theorem one_nili  : BV.one .nili = true:=rfl
theorem cells_nili  : BV.cells .nili = [.nili]:=rfl
theorem cells_agg {cs : List BV} : BV.cells (.agg cs) = cs:=rfl
theorem cells_one {v : BV} (h : v.one = true) : v.cells = [v]:=by
  cases v <;> first | rfl | (cases h)
theorem one_of_isSl {v : BV} (h : v.isSl = true) : v.one = true:=by
  cases v <;> first | rfl | (cases h)

theorem isSl_sl {b o n : Nat} : BV.isSl (.sl b o n) = true:=rfl
theorem slen_sl {b o n : Nat} : BV.slen (.sl b o n) = n:=rfl
theorem sat_sl {b o n i sz : Nat} : BV.sat (.sl b o n) i sz = .ptr b (o + i * sz):=rfl

theorem w64 {n : Int} (h1 : -9223372036854775808≤n) (h2 : n≤9223372036854775807) : IntKind.i64.wrap n = n:=by
  rw [IntKind.wrap_i64]
  omega

/-! ### slices, as lists of elements -/
structure Sls (H : BH) (ty sz : Nat) (v : BV) (xs : List (List BV)) : Prop where
  isSl : v.isSl = true
  len : v.slen = xs.length
  get : ∀ (i : Nat) (x : List BV),xs[i]? = some x→∃ b o cs,v.sat i sz = .ptr b o∧H.row b = .arr ty cs∧o + sz≤cs.length∧(cs.drop o).take sz = x

theorem Sls.rd {H : BH} {ty sz : Nat} {v : BV} {xs : List (List BV)} (h : Sls H ty sz v xs) {i : Nat} {x : List BV} (hi : xs[i]? = some x) {rt : Option Nat} (hrt : rtOk rt ty = true) : H.rd rt (some sz) (v.sat i sz) = some (.agg x):=by
  obtain ⟨b,o,cs,h1,h2,h3,h4⟩:=h.get i x hi
  simp [BH.rd,h1,h2,hrt,h3,asm,h4]
theorem Sls.rd1 {H : BH} {ty : Nat} {v : BV} {xs : List (List BV)} (h : Sls H ty 1 v xs) {i : Nat} {c : BV} (hi : xs[i]? = some [c]) {rt : Option Nat} (hrt : rtOk rt ty = true) : H.rd rt none (v.sat i 1) = some c:=by
  obtain ⟨b,o,cs,h1,h2,h3,h4⟩:=h.get i _ hi
  simp [BH.rd,h1,h2,hrt,h3,asm,h4]
def BV.row? : BV→Option Nat
  | .sl b _ _ => some b
  | .ptr b _ => some b
  | _ => none
theorem Sls.stay {H K : BH} {ty sz : Nat} {v : BV} {xs : List (List BV)} (h : Sls H ty sz v xs) (hk : ∀ b,v.row? = some b→K.row b = H.row b) : Sls K ty sz v xs:=by
  refine ⟨h.isSl,h.len,fun i x hi => ?_⟩
  obtain ⟨b,o,cs,h1,h2,h3,h4⟩:=h.get i x hi
  refine ⟨b,o,cs,h1,?_,h3,h4⟩
  rw [hk b ?_]
  · exact h2
  · unfold BV.sat at h1
    split at h1
    · cases h1; rfl
    · cases h1

theorem Sls.keeps {H K : BH} {ty sz : Nat} {v : BV} {xs : List (List BV)} (h : Sls H ty sz v xs) (hk : H.Keeps K) : Sls K ty sz v xs:=by
  refine ⟨h.isSl,h.len,fun i x hi => ?_⟩
  obtain ⟨b,o,cs,h1,h2,h3,h4⟩:=h.get i x hi
  exact ⟨b,o,cs,h1,by rw [hk b (by rw [h2]; simp)]; exact h2,h3,h4⟩
theorem Sls.fld {H : BH} {ty sz : Nat} {v : BV} {xs : List (List BV)} (h : Sls H ty sz v xs) {i : Nat} {x : List BV} (hi : xs[i]? = some x) :
    ∃ b o,v.sat i sz = .ptr b o∧∀ (k : Nat) (c : BV),x[k]? = some c→H.rd none none (.ptr b (o + k)) = some c:=by
  obtain ⟨b,o,cs,h1,h2,h3,h4⟩:=h.get i x hi
  refine ⟨b,o,h1,fun k c hk => ?_⟩
  have hlt : k < x.length:=(List.getElem?_eq_some_iff.1 hk).1
  have hx : x.length≤sz:=by rw [← h4]; simp; omega
  rw [← h4,List.getElem?_take_of_lt (by omega),List.getElem?_drop] at hk
  have hlt2 : o + k < cs.length:=by omega
  have : (cs.drop (o + k)).head? = some c:=by rw [List.head?_drop]; exact hk
  simp [BH.rd,h2,rtOk,show o + k + 1≤cs.length by omega,asm,List.head?_take,this]

theorem rd_keeps {H K : BH} (hk : H.Keeps K) {rt n : Option Nat} {p v : BV} (h : H.rd rt n p = some v) : K.rd rt n p = some v:=by
  unfold BH.rd at h ⊢
  split at h
  · rename_i b o
    split at h
    · rename_i ty cs hb
      rw [hk b (by rw [hb]; simp),hb]
      exact h
    · cases h
  · cases h
theorem BH.Keeps.set {H K : BH} (hk : H.Keeps K) {nb : Nat} (hf : H.row nb = .fresh) (s : BSt) : H.Keeps (K.set nb s):=fun b hb => by
  rw [BH.row_set_ne _ _ (by rintro rfl; exact hb hf)]
  exact hk b hb
theorem BH.Keeps.fresh {H K : BH} (hk : H.Keeps K) {b : Nat} (h : K.row b = .fresh) : H.row b = .fresh:=by
  cases hb : H.row b with
  | fresh => rfl
  | _ => have:=hk b (by rw [hb]; simp); rw [h,hb] at this; cases this

theorem flatten_len {sz : Nat} : ∀ {xs : List (List BV)},(∀ x∈xs,x.length = sz)→xs.flatten.length = xs.length * sz
  | [],_ => by simp
  | x::xs,h => by
    rw [List.flatten_cons,List.length_append,h x List.mem_cons_self,flatten_len fun y hy => h y (List.mem_cons_of_mem _ hy),List.length_cons,Nat.succ_mul,Nat.add_comm]
theorem flatten_chunk {sz : Nat} : ∀ {xs : List (List BV)},(∀ x∈xs,x.length = sz)→∀ {i : Nat} {x : List BV},xs[i]? = some x→(xs.flatten.drop (i * sz)).take sz = x∧i * sz + sz≤xs.flatten.length
  | [],_,i,x,h => by simp at h
  | y::xs,hl,0,x,h => by
    simp at h
    subst h
    have:=hl y List.mem_cons_self
    subst this
    simp
  | y::xs,hl,i + 1,x,h => by
    have hy:=hl y List.mem_cons_self
    obtain ⟨h1,h2⟩:=flatten_chunk (fun z hz => hl z (List.mem_cons_of_mem _ hz)) (i:=i) (x:=x) (by simpa using h)
    have e : (i + 1) * sz = y.length + i * sz:=by rw [Nat.succ_mul,hy,Nat.add_comm]
    refine ⟨?_,?_⟩
    · rw [List.flatten_cons,e,List.drop_append]
      simp
      rw [List.drop_eq_nil_of_le (by omega)]
      simpa using h1
    · rw [List.flatten_cons,List.length_append,e]
      omega
structure OwnS (base : Nat) (H : BH) (ty sz : Nat) (v : BV) (xs : List (List BV)) (b : Nat) : Prop where
  val : v = .sl b 0 xs.length
  row : H.row b = .arr ty xs.flatten
  own : base≤b
  all : ∀ x∈xs,x.length = sz
theorem OwnS.sls {base : Nat} {H : BH} {ty sz : Nat} {v : BV} {xs : List (List BV)} {b : Nat} (h : OwnS base H ty sz v xs b) : Sls H ty sz v xs:=by
  obtain ⟨rfl,h2,h3,h4⟩:=h
  refine ⟨rfl,rfl,fun i x hi => ?_⟩
  obtain ⟨c1,c2⟩:=flatten_chunk h4 hi
  exact ⟨b,0 + i * sz,_,rfl,h2,by omega,by rw [Nat.zero_add]; exact c1⟩
theorem OwnS.isSl {base : Nat} {H : BH} {ty sz : Nat} {v : BV} {xs : List (List BV)} {b : Nat} (h : OwnS base H ty sz v xs b) : v.isSl = true:=by rw [h.val]; rfl
theorem OwnS.stay {base : Nat} {H K : BH} {ty sz : Nat} {v : BV} {xs : List (List BV)} {b : Nat} (h : OwnS base H ty sz v xs b) (hk : K.row b = H.row b) : OwnS base K ty sz v xs b :=
  ⟨h.val,by rw [hk]; exact h.row,h.own,h.all⟩
theorem OwnS.keeps {base : Nat} {H K : BH} {ty sz : Nat} {v : BV} {xs : List (List BV)} {b : Nat} (h : OwnS base H ty sz v xs b) (hk : H.Keeps K) : OwnS base K ty sz v xs b :=
  h.stay (hk b (by rw [h.row]; simp))

def Gives (Γ : Ctx) (f : Nat) (args : List BV) (H : BH) (v : BV) : Prop:=∃ H',Runs Γ f args H v H'∧H.Keeps H'
theorem gives_of {Γ : Ctx} {f : Nat} {fn : BFun} {args : List BV} {H : BH} {v : BV} (hf : Γ.fn f = some fn)
    (h : wpC Γ.base (Runs Γ) fn.body (fun x e' K => (x = .normal∨x = .ret)∧resOf fn.results e' K = some v∧H.Keeps K) (argEnv args) H) : Gives Γ f args H v:=by
  obtain ⟨u,K,h1,rfl,h2⟩:=call_of_wp (R:=fun u K => u = v∧H.Keeps K) hf (wpC_mono (fun x e K ⟨a,b,c⟩ => ⟨a,_,b,rfl,c⟩) h)
  exact ⟨K,h1,h2⟩
theorem Runs.gives {Γ : Ctx} {f : Nat} {args : List BV} {H : BH} {v : BV} (h : Runs Γ f args H v H) : Gives Γ f args H v:=⟨H,h,BH.Keeps.refl H⟩

end Go.B
end

section
namespace Go.B
set_option linter.unusedVariables false
set_option linter.unusedSimpArgs false

def cellsB (w : World) (b : Nat) : Bool:=match w.heap[b]? with
  | some (.cells _ _ _) => true
  | _ => false
def absV (w : World) : Value→BV
  | .slice none n c => if n = 0∧c = 0 then .nils else .any
  | .slice (some a) n c => if n = 0 then .sle else if a.spot = none∧n≤c∧cellsB w a.block = true then .sl a.block a.off n else .any
  | .pointer (some a) => if a.spot = none∧cellsB w a.block = true then .ptr a.block a.off else .any
  | v => toB1 v
def tie0 (P : Program) (w : World) : Tie:=fun b => match w.heap[b]? with
  | some (.cells c e _) => some ⟨b,P.cellsOf e,c.size⟩
  | _ => none
def heap0 (w : World) : BH where
  row:=fun b => match w.heap[b]? with
    | some (.cells c e _) => .arr e (c.toList.map (absV w))
    | _ => .fresh
  fin:=⟨w.heap.size,fun b hb => by rw [Array.getElem?_eq_none hb]⟩

theorem cellsB_elim {w : World} {b : Nat} (h : cellsB w b = true) : ∃ c e f,w.heap[b]? = some (.cells c e f)∧b < w.heap.size:=by
  unfold cellsB at h
  split at h
  · rename_i c e f hh
    exact ⟨c,e,f,hh,(Array.getElem?_eq_some_iff.1 hh).1⟩
  · cases h

theorem VR_absV (P : Program) (w : World) (v : Value) : VR w.heap.size (tie0 P w) (absV w v) v:=by
  unfold absV
  split
  · split
    · rename_i h
      rw [h.1,h.2]
      rfl
    · exact trivial
  · rename_i a n c
    split
    · rename_i h
      subst h
      exact ⟨some a,c,rfl,by simp⟩
    · split
      · rename_i h
        obtain ⟨cc,e,f,hh,hlt⟩:=cellsB_elim h.2.2
        refine ⟨⟨a.block,P.cellsOf e,cc.size⟩,c,by simp [tie0,hh],?_,h.2.1,fun hb => by omega⟩
        obtain ⟨b,o,s⟩:=a
        have hs : s = none:=h.1
        subst hs
        rfl
      · exact trivial
  · rename_i a
    split
    · rename_i h
      obtain ⟨cc,e,f,hh,hlt⟩:=cellsB_elim h.2
      refine ⟨⟨a.block,P.cellsOf e,cc.size⟩,by simp [tie0,hh],?_⟩
      obtain ⟨b,o,s⟩:=a
      have hs : s = none:=h.1
      subst hs
      rfl
    · exact trivial
  · exact VR_toB1 v

theorem HR.start (P : Program) (w : World) : HR P w.heap.size w (tie0 P w) (heap0 w) w where
  row:=fun b => by
    simp only [heap0]
    cases hh : w.heap[b]? with
    | none => simp [RR,tie0,hh]
    | some o =>
      cases o with
      | cells c e f =>
        have hlt:=(Array.getElem?_eq_some_iff.1 hh).1
        refine ⟨⟨b,P.cellsOf e,c.size⟩,c,f,by simp [tie0,hh],hh,rfl,rfl,fun i d hd => ?_,fun hb => by omega⟩
        rw [List.getElem?_map] at hd
        simp only [Option.map_eq_some_iff,Array.getElem?_toList] at hd
        obtain ⟨v,hv,rfl⟩:=hd
        exact ⟨v,hv,VR_absV P w v⟩
      | _ => simp [RR,tie0,hh]
  inj:=fun b c r s hb hc hr hs hrs => by
    have : ∀ {b r},tie0 P w b = some r→r.blk = b:=by
      intro b r h
      unfold tie0 at h
      split at h
      · cases h; rfl
      · cases h
    rw [← this hr,← this hs,hrs]
  ext:=World.Extends.refl w

theorem Sls.start {w : World} {a : Addr} {n c sz : Nat} {xs : List (List Value)} (hlen : xs.length = n) (hc : n≤c) (hsz : 0 < sz) (hall : ∀ x∈xs,x.length = sz)
    (hcell : ∀ (i : Nat) (x : List Value),xs[i]? = some x→∀ (j : Nat) (v : Value),x[j]? = some v→w.cell? (a.add (i * sz + j)) = some v) :
    ∃ ty,Sls (heap0 w) ty sz (absV w (.slice (some a) n c)) (xs.map (·.map (absV w))):=by
  cases n with
  | zero =>
    have : xs = []:=List.eq_nil_of_length_eq_zero hlen
    subst this
    exact ⟨0,rfl,rfl,fun i x hi => by simp at hi⟩
  | succ n =>
    obtain ⟨x0,xr,rfl⟩ : ∃ x0 xr,xs = x0::xr:=by
      cases xs with
      | nil => simp at hlen
      | cons x xr => exact ⟨x,xr,rfl⟩
    have hx0 : 0 < x0.length:=by rw [hall x0 List.mem_cons_self]; exact hsz
    have h0:=hcell 0 x0 rfl 0 _ (List.getElem?_eq_getElem hx0)
    have hadd0 : a.add (0 * sz + 0) = a:=by simp [Addr.add]
    rw [hadd0] at h0
    have hspot : a.spot = none:=by
      unfold World.cell? at h0
      split at h0
      · split at h0
        · cases h0
        · rename_i h; simpa using h
      · cases h0
    obtain ⟨b,o,sp⟩:=a
    have hsp : sp = none:=hspot
    subst hsp
    have hblk : cellsB w b = true:=by
      unfold World.cell? at h0
      unfold cellsB
      split at h0
      · rename_i hh; simp only at hh; rw [hh]
      · cases h0
    obtain ⟨cc,e,f,hh,hlt⟩:=cellsB_elim hblk
    have hval : absV w (.slice (some ⟨b,o,none⟩) (n + 1) c) = .sl b o (n + 1):=by simp [absV,hc,hblk]
    rw [hval]
    have hrow : (heap0 w).row b = .arr e (cc.toList.map (absV w)):=by simp [heap0,hh]
    refine ⟨e,rfl,by simp [BV.slen,← hlen],fun i x hi => ?_⟩
    rw [List.getElem?_map] at hi
    simp only [Option.map_eq_some_iff] at hi
    obtain ⟨y,hy,rfl⟩:=hi
    have hyl:=hall y (List.mem_of_getElem? hy)
    have hat : ∀ j v,y[j]? = some v→cc[o + (i * sz + j)]? = some v:=by
      intro j v hv
      have:=hcell i y hy j v hv
      have hadd : (⟨b,o,none⟩ : Addr).add (i * sz + j) = ⟨b,o + (i * sz + j),none⟩:=by unfold Addr.add; split <;> simp_all
      rw [hadd] at this
      simpa [World.cell?,hh] using this
    have hlast : o + (i * sz + (sz - 1)) < cc.size:=by
      have:=hat (sz - 1) _ (List.getElem?_eq_getElem (by omega))
      exact (Array.getElem?_eq_some_iff.1 this).1
    refine ⟨b,o + i * sz,_,rfl,hrow,by simp; omega,?_⟩
    apply List.ext_getElem?
    intro j
    by_cases hj : j < sz
    · rw [List.getElem?_take_of_lt hj,List.getElem?_drop,List.getElem?_map,List.getElem?_map]
      have h1:=hat j _ (List.getElem?_eq_getElem (by omega))
      rw [Array.getElem?_toList,show o + i * sz + j = o + (i * sz + j) by omega,h1,List.getElem?_eq_getElem (by omega)]
    · rw [List.getElem?_eq_none (by simp; omega),List.getElem?_eq_none (by simp; omega)]

end Go.B
end

section
namespace Go.B
set_option linter.unusedVariables false
set_option linter.unusedSimpArgs false

def OwnN (base : Nat) (H : BH) (ty sz : Nat) (v : BV) (xs : List (List BV)) : Option Nat→Prop
  | none => v = .nils∧xs = []
  | some b => OwnS base H ty sz v xs b
def Fr (H : BH) (bo : Option Nat) : Prop:=∀ b,bo = some b→H.row b = .fresh

section
variable {base : Nat} {H K : BH} {ty sz : Nat} {v : BV} {xs : List (List BV)} {bo : Option Nat}
theorem Fr.none : Fr H none:=fun _ h => by cases h
theorem Fr.some {b : Nat} (h : H.row b = .fresh) : Fr H (some b):=fun c e => by cases e; exact h
theorem OwnN.sls (h : OwnN base H ty sz v xs bo) : Sls H ty sz v xs:=by
  cases bo with
  | none => obtain ⟨rfl,rfl⟩:=h; exact ⟨rfl,rfl,fun i x hi => by simp at hi⟩
  | some b => exact OwnS.sls h
theorem OwnN.stay (h : OwnN base H ty sz v xs bo) (hk : ∀ b,bo = some b→K.row b = H.row b) : OwnN base K ty sz v xs bo:=by
  cases bo with
  | none => exact h
  | some b => exact OwnS.stay h (hk b rfl)
theorem OwnN.keeps (h : OwnN base H ty sz v xs bo) (hk : H.Keeps K) : OwnN base K ty sz v xs bo:=by
  cases bo with
  | none => exact h
  | some b => exact OwnS.keeps h hk
theorem OwnN.isSl (h : OwnN base H ty sz v xs bo) : v.isSl = true:=h.sls.isSl
theorem OwnN.one (h : OwnN base H ty sz v xs bo) : v.one = true:=one_of_isSl h.isSl
theorem OwnN.len (h : OwnN base H ty sz v xs bo) : v.slen = xs.length:=h.sls.len
theorem OwnN.live (h : OwnN base H ty sz v xs bo) {b : Nat} (hb : bo = some b) : H.row b = .arr ty xs.flatten:=by
  subst hb
  exact OwnS.row h
theorem OwnN.cells (h : OwnN base H ty sz v xs bo) : H.cells sz v = some xs.flatten:=by
  cases bo with
  | none => obtain ⟨rfl,rfl⟩:=h; rfl
  | some b =>
    obtain ⟨rfl,h2,h3,h4⟩:=h
    have:=flatten_len h4
    simp only [BH.cells,h2,Nat.zero_add,← this,Nat.le_refl,if_true,List.drop_zero,List.take_length]

theorem app_own {K : BH} {nb bytes : Nat} {σ : Opd→BV} {x y : Opd} {new : List (List BV)} (hk : H.Keeps K) (hb : Fr H bo) (own : OwnN base K ty sz (σ x) xs bo) (hc : K.cells sz (σ y) = some new.flatten)
    (hl : ∀ z∈new,z.length = sz) (h1 : ∀ z∈new,∀ c∈z,c.one = true) (hsz : 0 < sz) (hsm : (xs.length + new.length) * sz≤35184372088832) (hsm2 : (xs.length + new.length) * bytes≤35184372088832)
    (hn : K.row nb = .fresh) (hnb : base≤nb) :
    ∃ v' K' bo',op1 base nb σ K (.app ty sz bytes x y) = some (v',K')∧OwnN base K' ty sz v' (xs++new) bo'∧H.Keeps K'∧Fr H bo'∧(∀ c,bo≠some c→K.row c≠.fresh→K'.row c = K.row c)∧(∀ c,bo' = some c→K.row c = .fresh):=by
  have hnl : new.flatten.length = new.length * sz:=flatten_len hl
  have hall : new.flatten.all BV.one = true:=by
    rw [List.all_eq_true]
    intro c hcc
    obtain ⟨z,hz,hcz⟩:=List.mem_flatten.1 hcc
    exact h1 z hz c hcz
  have hmul : (xs.length + new.length) * sz = xs.length * sz + new.length * sz:=Nat.add_mul _ _ _
  have hby : (xs.length * sz + new.length * sz) * bytes≤35184372088832 * sz:=by
    rw [← hmul,Nat.mul_assoc,Nat.mul_comm sz bytes,← Nat.mul_assoc]
    exact Nat.mul_le_mul_right _ hsm2
  cases bo with
  | none =>
    obtain ⟨e1,rfl⟩:=own
    cases new with
    | nil =>
      refine ⟨.nils,K,none,?_,⟨rfl,rfl⟩,hk,Fr.none,fun _ _ _ => rfl,fun _ h => by cases h⟩
      simp only [op1,e1,hc]
      simp [hsz]
    | cons z zs =>
      have hne : ∃ c cs,(z::zs).flatten = c::cs:=by
        cases h : (z::zs).flatten with
        | nil =>
          have hp : 0 < (z::zs).length * sz:=Nat.mul_pos (by simp) hsz
          rw [h] at hnl
          simp only [List.length_nil] at hnl
          omega
        | cons c cs => exact ⟨c,cs,rfl⟩
      obtain ⟨c,cs,hcs⟩:=hne
      refine ⟨.sl nb 0 (z::zs).length,K.set nb (.arr ty (z::zs).flatten),some nb,?_,⟨by simp,by simp [BH.row_set_eq],hnb,by simpa using hl⟩,hk.set (hk.fresh hn) _,Fr.some (hk.fresh hn),fun c' _ hc' => ?_,fun c' e => by cases e; exact hn⟩
      · simp only [op1,e1,hc]
        rw [hcs]
        rw [hcs] at hnl hall
        have hdiv : (c::cs).length / sz = (z::zs).length:=by rw [hnl]; exact Nat.mul_div_cancel _ hsz
        simp only [List.length_nil,Nat.zero_mul,Nat.zero_add] at hby hsm hsm2
        simp only [hall,hsz,hnl,hby,hsm,and_self,if_true,make_of hn hnb]
        rw [← hnl,hdiv]
        rfl
      · exact BH.row_set_ne _ _ (by rintro rfl; exact hc' hn)
  | some b =>
    obtain ⟨e1,hrow,hbb,hxl⟩:=own
    have hfl:=flatten_len hxl
    have hbn : b≠nb:=by
      rintro rfl
      rw [hrow] at hn
      cases hn
    have hbf : H.row b = .fresh:=hb b rfl
    refine ⟨.sl nb 0 (xs++new).length,(K.set nb (.arr ty (xs++new).flatten)).set b .dead,some nb,?_,⟨rfl,?_,hnb,?_⟩,(hk.set (hk.fresh hn) _).set hbf _,Fr.some (hk.fresh hn),fun c' h1 hc' => ?_,fun c' e => by cases e; exact hn⟩
    · simp only [op1,e1,hc]
      have hdiv : new.flatten.length / sz = new.length:=by rw [hnl]; exact Nat.mul_div_cancel _ hsz
      have hmk : K.make base nb (.arr ty (xs.flatten++new.flatten)) = some (K.set nb (.arr ty (xs.flatten++new.flatten))):=make_of hn hnb
      cases hnf : new.flatten with
      | nil =>
        simp only [hrow]
        rw [← hnf,if_pos ⟨hbb,hbn,trivial,trivial,hfl.symm,hall,hsz,by rw [hnl]; exact hby,by rw [hnl]; omega⟩,hmk,hdiv]
        simp
      | cons c cs =>
        simp only [hrow]
        rw [← hnf,if_pos ⟨hbb,hbn,trivial,trivial,hfl.symm,hall,hsz,by rw [hnl]; exact hby,by rw [hnl]; omega⟩,hmk,hdiv]
        simp
    · rw [BH.row_set_ne _ _ (Ne.symm hbn),BH.row_set_eq]
    · intro z hz
      rcases List.mem_append.1 hz with h | h
      · exact hxl z h
      · exact hl z h
    · rw [BH.row_set_ne _ _ (by rintro rfl; exact h1 rfl),BH.row_set_ne _ _ (by rintro rfl; exact hc' hn)]

theorem take_set {cs : List BV} {o : Nat} {u : BV} (h : o < cs.length) : cs.take o++u::cs.drop (o + 1) = cs.set o u:=by
  rw [List.set_eq_take_append_cons_drop,if_pos h]
theorem flatten_set1 {sz : Nat} {u : BV} : ∀ {xs : List (List BV)},(∀ x∈xs,x.length = sz)→∀ {i j : Nat} (h : i < xs.length),j < sz→xs.flatten.set (i * sz + j) u = (xs.set i (xs[i].set j u)).flatten
  | [],_,i,j,h,_ => by simp at h
  | x::xs,hl,0,j,h,hj => by
    have:=hl x List.mem_cons_self
    simp only [Nat.zero_mul,Nat.zero_add,List.flatten_cons,List.set_cons_zero,List.getElem_cons_zero]
    rw [List.set_append_left _ _ (by omega)]
  | x::xs,hl,i + 1,j,h,hj => by
    have hx:=hl x List.mem_cons_self
    have ih:=flatten_set1 (u:=u) (fun z hz => hl z (List.mem_cons_of_mem _ hz)) (i:=i) (by simpa using h) hj
    have e : (i + 1) * sz + j = x.length + (i * sz + j):=by rw [Nat.succ_mul,hx]; omega
    rw [List.set_cons_succ,List.flatten_cons,List.flatten_cons,e,List.getElem_cons_succ,← ih,List.set_append_right _ _ (by omega)]
    simp
end

/-! ### writing -/
def BH.wr (base : Nat) (H : BH) (rt : Option Nat) (n : Nat) (p v : BV) : Option BH:=match p with
  | .ptr b o => match H.row b with
    | .arr ty cs => if rtOk rt ty = true∧base≤b∧v.cells.length = n∧o + n≤cs.length∧v.cells.all BV.one = true then some (H.set b (.arr ty (cs.take o++v.cells++cs.drop (o + n)))) else none
    | _ => none
  | _ => none
section
variable {base nb : Nat} {σ : Opd→BV} {H K : BH} {C : CRel} {e : Env} {Kn : Env→BH→Prop} {d : Option Nat} {g : Option (Nat × Bool)} {kp : List Nat}
theorem op1_stw {rt : Option Nat} {n : Nat} {a v : Opd} : op1 base nb σ H (.store rt n a v) = (H.wr base rt n (σ a) (σ v)).map fun K => (.tup [],K):=by
  cases ha : σ a <;> simp only [op1,BH.wr,ha] <;> try rfl
  rename_i b o
  cases hb : H.row b <;> simp only [] <;> try rfl
  split <;> rfl
theorem op1_b2s {ty : Nat} {x : Opd} : op1 base nb σ H (.b2s ty x) = match σ x with
    | .nils => some (.str ByteArray.empty,H)
    | .sl b o n => match H.row b with
      | .arr t cs => if t = ty∧o + n≤cs.length then (bytesB ((cs.drop o).take n)).map fun xs => (.str (strB xs),H) else none
      | _ => none
    | _ => none:=rfl
theorem wpS_b2s {ty : Nat} {x : Opd} : wpStep base C ⟨d,.b2s ty x,g,kp⟩ Kn e H = after (op1 base 0 (·.ev e) H (.b2s ty x)) d Kn e:=rfl
theorem op1_imax {x y : Opd} : op1 base nb σ H (.imax x y) = match σ x,σ y with
    | .int k a,.int k' b => if k = k' then some (.int k (if b > a then b else a),H) else none
    | _,_ => none:=rfl
theorem wpS_imax {x y : Opd} : wpStep base C ⟨d,.imax x y,g,kp⟩ Kn e H = after (op1 base 0 (·.ev e) H (.imax x y)) d Kn e:=rfl
theorem op1_imin {x y : Opd} : op1 base nb σ H (.imin x y) = match σ x,σ y with
    | .int k a,.int k' b => if k = k' then some (.int k (if b < a then b else a),H) else none
    | _,_ => none:=rfl
theorem wpS_imin {x y : Opd} : wpStep base C ⟨d,.imin x y,g,kp⟩ Kn e H = after (op1 base 0 (·.ev e) H (.imin x y)) d Kn e:=rfl
theorem op1_i2s {x : Opd} : op1 base nb σ H (.i2s x) = match σ x with
    | .int _ n => some (.str (Utf8.encode n),H)
    | _ => none:=rfl
theorem wpS_i2s {x : Opd} : wpStep base C ⟨d,.i2s x,g,kp⟩ Kn e H = after (op1 base 0 (·.ev e) H (.i2s x)) d Kn e:=rfl
theorem op1_idxa {n sz : Nat} {x i : Opd} : op1 base nb σ H (.idxa n sz x i) = match σ x,σ i with
    | .ptr b o,.int _ j => if 0≤j∧j < n then some (.ptr b (o + j.toNat * sz),H) else none
    | _,_ => none:=rfl
theorem wpS_idxa {n sz : Nat} {x i : Opd} : wpStep base C ⟨d,.idxa n sz x i,g,kp⟩ Kn e H = after (op1 base 0 (·.ev e) H (.idxa n sz x i)) d Kn e:=rfl
theorem op1_sslice {x : Opd} {lo hi : Option Opd} : op1 base nb σ H (.sslice x lo hi) = match σ x with
    | .str s => match boundB σ 0 lo,boundB σ s.size hi with
      | some l,some h => if l≤h∧h≤s.size then some (.str (s.extract l h),H) else none
      | _,_ => none
    | _ => none:=rfl
theorem bound_none {n : Nat} : boundB σ n none = some n:=rfl
theorem bound_some {n : Nat} {x : Opd} : boundB σ n (some x) = natOf (σ x):=rfl
theorem nat_of {k : IntKind} {n : Int} : natOf (.int k n) = if 0≤n then some n.toNat else none:=rfl
theorem wr_row {ty b o n : Nat} {cs : List BV} {v : BV} {rt : Option Nat} (hr : H.row b = .arr ty cs) (h0 : rtOk rt ty = true) (h1 : base≤b) (h2 : v.cells.length = n) (h3 : o + n≤cs.length) (h4 : v.cells.all BV.one = true) :
    H.wr base rt n (.ptr b o) v = some (H.set b (.arr ty (cs.take o++v.cells++cs.drop (o + n)))):=by
  simp only [BH.wr,hr]
  rw [if_pos ⟨h0,h1,h2,h3,h4⟩]
theorem OwnN.wr {ty sz i j : Nat} {v u : BV} {xs : List (List BV)} {bo : Option Nat} (own : OwnN base K ty sz v xs bo) (hi : i < xs.length) (hj : j < sz) (hu : u.one = true) {rt : Option Nat} (hrt : rtOk rt ty = true) :
    ∃ b K',bo = some b∧v.sat i sz = .ptr b (i * sz)∧K.wr base rt 1 (.ptr b (i * sz + j)) u = some K'∧OwnN base K' ty sz v (xs.set i (xs[i].set j u)) bo∧(∀ c,bo≠some c→K'.row c = K.row c):=by
  cases bo with
  | none =>
    obtain ⟨_,rfl⟩:=own
    simp at hi
  | some b =>
    obtain ⟨rfl,hrow,hb,hl⟩:=own
    have hfl:=flatten_len hl
    have hlt : i * sz + sz≤xs.length * sz:=by rw [← Nat.succ_mul]; exact Nat.mul_le_mul_right _ hi
    have hw:=wr_row (base:=base) (o:=i * sz + j) (v:=u) (n:=1) (rt:=rt) hrow hrt hb (by rw [cells_one hu]; rfl) (by omega) (by rw [cells_one hu]; simp [hu])
    rw [cells_one hu,List.append_assoc,List.singleton_append,take_set (by omega),flatten_set1 hl hi hj] at hw
    refine ⟨b,_,rfl,by rw [sat_sl,Nat.zero_add],hw,⟨by simp,BH.row_set_eq _ _ _,hb,?_⟩,fun c hc => BH.row_set_ne _ _ (by rintro rfl; exact hc rfl)⟩
    intro x hx
    rcases List.mem_or_eq_of_mem_set hx with h | h
    · exact hl x h
    · rw [h,List.length_set]
      exact hl _ (List.getElem_mem hi)
end

section
variable {f : Nat→List BV} {xs : List (List BV)} {i : Nat}
end
theorem val_tmp {e : Env} {H : BH} {t : Nat} : BRes.val e H (.tmp t) = some (e t):=rfl
theorem val_cell {e : Env} {H : BH} {t : Nat} {n : Option Nat} : BRes.val e H (.cell t n) = H.rd none n (e t):=by
  cases h : e t <;> simp only [BRes.val,BH.rd,h]
  rename_i b o
  cases hb : H.row b <;> simp [rtOk]
end Go.B
end

section
namespace Go.B
set_option linter.unusedVariables false
section
variable {base : Nat}
def BH.appd (base nb : Nat) (H : BH) (ty sz bytes : Nat) (vx vy : BV) : Option (BV × BH):=op1 base nb (fun o => match o with | .t 0 => vx | _ => vy) H (.app ty sz bytes (.t 0) (.t 1))
theorem op1_app {nb : Nat} {σ : Opd→BV} {H : BH} {ty sz bytes : Nat} {x y : Opd} : op1 base nb σ H (.app ty sz bytes x y) = H.appd base nb ty sz bytes (σ x) (σ y):=rfl
theorem appd_own {H K : BH} {ty sz bytes nb : Nat} {vx vy : BV} {xs new : List (List BV)} {bo : Option Nat} (hk : H.Keeps K) (hb : Fr H bo) (own : OwnN base K ty sz vx xs bo) (hc : K.cells sz vy = some new.flatten)
    (hl : ∀ z∈new,z.length = sz) (h1 : ∀ z∈new,∀ c∈z,c.one = true) (hsz : 0 < sz) (hsm : (xs.length + new.length) * sz≤35184372088832) (hsm2 : (xs.length + new.length) * bytes≤35184372088832)
    (hn : K.row nb = .fresh) (hnb : base≤nb) :
    ∃ v' K' bo',K.appd base nb ty sz bytes vx vy = some (v',K')∧OwnN base K' ty sz v' (xs++new) bo'∧H.Keeps K'∧Fr H bo'∧(∀ c,bo≠some c→K.row c≠.fresh→K'.row c = K.row c)∧(∀ c,bo' = some c→K.row c = .fresh) :=
  app_own (σ:=fun o => match o with | .t 0 => vx | _ => vy) (x:=.t 0) (y:=.t 1) hk hb own hc hl h1 hsz hsm hsm2 hn hnb
theorem mk_cells {K : BH} {n1 ty sz n : Nat} {cs : List BV} (h : cs.length = n * sz) : (K.set n1 (.arr ty cs)).cells sz (.sl n1 0 n) = some cs:=by
  simp only [BH.cells,BH.row_set_eq,Nat.zero_add,← h,Nat.le_refl,if_true,List.drop_zero,List.take_length]
end
end Go.B
end

section
namespace Go.B
set_option linter.unusedVariables false
set_option linter.unusedSimpArgs false

/-! ### what code writes -/
def BCode.writes : BCode→List Nat
  | .region ops => ops.filterMap (·.dst)
  | .seq a b => a.writes++b.writes
  | .cond _ a b => a.writes++b.writes
  | .block _ b => b.writes
  | .loop b => b.writes
  | _ => []
theorem puto_ne {e : Env} {d : Option Nat} {v : BV} {t : Nat} (h : d≠some t) : (e.puto d v) t = e t:=by
  cases d with
  | none => rfl
  | some d => exact put_ne (fun hh => h (by rw [hh]))
theorem dst_tail {o : BOper} {r : List BOper} {t : Nat} (h : t ∉ (o::r).filterMap (·.dst)) : o.dst≠some t∧t ∉ r.filterMap (·.dst):=by
  refine ⟨fun e => h ?_,fun e => h ?_⟩
  · simp [List.filterMap_cons,e]
  · rw [List.filterMap_cons]
    cases ho : o.dst with
    | none => exact e
    | some d => exact List.mem_cons_of_mem _ e
theorem ExO.leaves {base : Nat} {C : CRel} {l : List BOper} {e e' : Env} {H H' : BH} (x : ExO base C l e H e' H') {t : Nat} (ht : t ∉ l.filterMap (·.dst)) : e' t = e t:=by
  induction x with
  | nil => rfl
  | skip hw _ ih => rw [ih (dst_tail ht).2,puto_ne (dst_tail ht).1]
  | op hw ho _ ih => rw [ih (dst_tail ht).2,puto_ne (dst_tail ht).1]
  | call hw ho hf hc hk _ ih => rw [ih (dst_tail ht).2,puto_ne (dst_tail ht).1]
theorem ExC.leaves {base : Nat} {C : CRel} {c : BCode} {e e' : Env} {H H' : BH} {x : BExit} (k : ExC base C c e H x e' H') {t : Nat} (ht : t ∉ c.writes) : e' t = e t:=by
  induction k with
  | skip => rfl
  | region hr => exact hr.leaves ht
  | seq _ _ ih1 ih2 =>
    simp only [BCode.writes,List.mem_append,not_or] at ht
    rw [ih2 ht.2,ih1 ht.1]
  | seqx _ hx ih =>
    simp only [BCode.writes,List.mem_append,not_or] at ht
    exact ih ht.1
  | thn hc _ ih =>
    simp only [BCode.writes,List.mem_append,not_or] at ht
    exact ih ht.1
  | els hc _ ih =>
    simp only [BCode.writes,List.mem_append,not_or] at ht
    exact ih ht.2
  | block _ ih => exact ih ht
  | loopn _ _ ih1 ih2 => rw [ih2 ht,ih1 ht]
  | loopx _ hx ih => exact ih ht
  | exit => rfl
  | ret => rfl

def Has (e : Env) : List (Nat × BV)→Prop
  | [] => True
  | p::r => e p.1 = p.2∧Has e r
theorem Has.frame {e e' : Env} {W : List Nat} (h : ∀ t,t ∉ W→e' t = e t) : ∀ {kp : List (Nat × BV)},kp.all (fun p => !(W.contains p.1)) = true→Has e kp→Has e' kp
  | [],_,_ => trivial
  | p::r,hW,hk => by
    simp only [List.all_cons,Bool.and_eq_true,Bool.not_eq_true'] at hW
    refine ⟨?_,Has.frame h hW.2 hk.2⟩
    rw [h p.1 (by intro hm; simp at hW; exact hW.1 hm)]
    exact hk.1
theorem wpC_countK {base : Nat} {C : CRel} {b : BCode} {Q : Post} (n : Nat) (kp : List (Nat × BV)) (I : Nat→Env→BH→Prop) {i0 : Nat} {e : Env} {H : BH} (hW : kp.all (fun p => !(b.writes.contains p.1)) = true)
    (hk : Has e kp) (h0 : I i0 e H) (hi : i0≤n)
    (round : ∀ i e H,i≤n→Has e kp→I i e H→wpC base C b (Post.then (fun e' H' => i < n∧I (i + 1) e' H') Q) e H) : wpC base C (.loop b) Q e H:=by
  show ∃ x e' H',ExC base C (.loop b) e H x e' H'∧Q x e' H'
  have key : ∀ k i e H,n - i = k→i≤n→Has e kp→I i e H→∃ x e' H',ExC base C (.loop b) e H x e' H'∧Q x e' H':=by
    intro k
    induction k with
    | zero =>
      intro i e H hk hle hh hI
      obtain ⟨x,e1,H1,hx,hQ⟩:=wpC_elim (round i e H hle hh hI)
      cases x with
      | normal => have:=hQ.1; omega
      | exit j => exact ⟨_,e1,H1,.loopx hx (by simp),hQ⟩
      | ret => exact ⟨_,e1,H1,.loopx hx (by simp),hQ⟩
    | succ k ih =>
      intro i e H hk hle hh hI
      obtain ⟨x,e1,H1,hx,hQ⟩:=wpC_elim (round i e H hle hh hI)
      cases x with
      | normal =>
        obtain ⟨hlt,hI1⟩:=hQ
        obtain ⟨x,e2,H2,hy,hQ⟩:=ih (i + 1) e1 H1 (by omega) (by omega) (Has.frame (fun t ht => hx.leaves ht) hW hh) hI1
        exact ⟨x,e2,H2,.loopn hx hy,hQ⟩
      | exit j => exact ⟨_,e1,H1,.loopx hx (by simp),hQ⟩
      | ret => exact ⟨_,e1,H1,.loopx hx (by simp),hQ⟩
  exact key _ i0 e H rfl hi hk h0
/-! ### rows of one's own -/
structure Own (base : Nat) (H K : BH) (L : List (Option Nat × BSt)) : Prop where
  keeps : H.Keeps K
  row : ∀ p∈L,∀ b,p.1 = some b→K.row b = p.2∧base≤b∧H.row b = .fresh∧p.2≠.fresh
  nodup : (L.filterMap (·.1)).Nodup
section
variable {base : Nat} {H K K' : BH} {L : List (Option Nat × BSt)}
theorem Own.start : Own base H H []:=⟨BH.Keeps.refl H,fun _ h => by simp at h,by simp⟩
theorem Own.of (k : H.Keeps K) : Own base H K []:=⟨k,fun _ h => by simp at h,by simp⟩
theorem Own.mem_of {b : Nat} (h : b∈L.filterMap (·.1)) : ∃ s,(some b,s)∈L:=by
  obtain ⟨⟨p1,p2⟩,hp,h1⟩:=List.mem_filterMap.1 h
  simp only at h1
  subst h1
  exact ⟨_,hp⟩
theorem Own.new (o : Own base H K L) {n : Nat} (f : K.row n = .fresh) (hb : base≤n) {s : BSt} (hs : s≠.fresh:=by simp) : Own base H (K.set n s) ((some n,s)::L):=by
  have hne : n ∉ L.filterMap (·.1):=fun h => by
    obtain ⟨t,ht⟩:=Own.mem_of h
    obtain ⟨h1,_,_,h4⟩:=o.row _ ht n rfl
    rw [f] at h1
    exact h4 h1.symm
  refine ⟨o.keeps.set (o.keeps.fresh f) s,fun p hp b hpb => ?_,?_⟩
  · rcases List.mem_cons.1 hp with rfl | hp'
    · cases hpb
      exact ⟨BH.row_set_eq _ _ _,hb,o.keeps.fresh f,hs⟩
    · obtain ⟨h1,h2,h3,h4⟩:=o.row p hp' b hpb
      refine ⟨?_,h2,h3,h4⟩
      rw [BH.row_set_ne _ _ ?_]
      · exact h1
      · intro hbn
        exact hne (hbn ▸ List.mem_filterMap.2 ⟨p,hp',hpb⟩)
  · simpa using ⟨by simpa using hne,o.nodup⟩
theorem Own.nil (o : Own base H K L) (s : BSt) : Own base H K ((none,s)::L):=⟨o.keeps,fun p hp b hpb => by
    rcases List.mem_cons.1 hp with rfl | hp
    · cases hpb
    · exact o.row p hp b hpb,by simpa using o.nodup⟩
theorem Own.call (o : Own base H K L) (k : K.Keeps K') : Own base H K' L:=⟨o.keeps.trans k,fun p hp b hpb => by
    obtain ⟨h1,h2,h3,h4⟩:=o.row p hp b hpb
    exact ⟨by rw [k b (by rw [h1]; exact h4),h1],h2,h3,h4⟩,o.nodup⟩
theorem Own.got (o : Own base H K L) (k : K.Keeps K') {bo : Option Nat} {s : BSt} (h : ∀ b,bo = some b→K'.row b = s∧base≤b∧K.row b = .fresh∧s≠.fresh) : Own base H K' ((bo,s)::L):=by
  have o':=o.call k
  refine ⟨o'.keeps,fun p hp b hpb => ?_,?_⟩
  · rcases List.mem_cons.1 hp with rfl | hp
    · obtain ⟨h1,h2,h3,h4⟩:=h b hpb
      exact ⟨h1,h2,o.keeps.fresh h3,h4⟩
    · exact o'.row p hp b hpb
  · cases bo with
    | none => simpa using o.nodup
    | some b =>
      have hne : b ∉ L.filterMap (·.1):=fun hm => by
        obtain ⟨t,ht⟩:=Own.mem_of hm
        obtain ⟨h1,_,_,h4⟩:=o.row _ ht b rfl
        rw [(h b rfl).2.2.1] at h1
        exact h4 h1.symm
      simpa using ⟨by simpa using hne,o.nodup⟩
theorem Own.sub (o : Own base H K L) {M : List (Option Nat × BSt)} (h : M.Sublist L) : Own base H K M :=
  ⟨o.keeps,fun p hp => o.row p (h.subset hp),o.nodup.sublist (h.filterMap _)⟩
theorem Own.tail (o : Own base H K L) : Own base H K L.tail:=o.sub (List.tail_sublist L)
theorem Own.drop (o : Own base H K L) (n : Nat) : Own base H K (L.drop n):=o.sub (List.drop_sublist n L)
theorem Own.perm (o : Own base H K L) {M : List (Option Nat × BSt)} (h : M.Perm L) : Own base H K M :=
  ⟨o.keeps,fun p hp => o.row p (h.subset hp),(h.filterMap _).nodup_iff.2 o.nodup⟩
theorem Own.at (o : Own base H K L) (i : Nat) {b : Nat} {s : BSt} (h : L[i]? = some (some b,s)) : K.row b = s:=(o.row _ (List.mem_of_getElem? h) b rfl).1
theorem Own.fr (o : Own base H K L) (i : Nat) {b : Nat} {s : BSt} (h : L[i]? = some (some b,s)) : H.row b = .fresh:=(o.row _ (List.mem_of_getElem? h) b rfl).2.2.1
theorem nodup_ne {α β : Type} (f : α→Option β) : ∀ {L : List α},(L.filterMap f).Nodup→∀ {i j : Nat} {x y : α},L[i]? = some x→L[j]? = some y→i≠j→∀ {b : β},f x = some b→f y≠some b
  | [],_,i,j,x,y,hi,_,_,b,_ => by simp at hi
  | z::L,h,0,0,x,y,hi,hj,hij,b,hx => absurd rfl hij
  | z::L,h,0,j + 1,x,y,hi,hj,hij,b,hx => by
    simp only [List.getElem?_cons_zero,Option.some.injEq] at hi
    subst hi
    simp only [List.getElem?_cons_succ] at hj
    intro hy
    rw [List.filterMap_cons,hx] at h
    simp only [List.nodup_cons] at h
    exact h.1 (List.mem_filterMap.2 ⟨y,List.mem_of_getElem? hj,hy⟩)
  | z::L,h,i + 1,0,x,y,hi,hj,hij,b,hx => by
    simp only [List.getElem?_cons_zero,Option.some.injEq] at hj
    subst hj
    simp only [List.getElem?_cons_succ] at hi
    intro hy
    rw [List.filterMap_cons,hy] at h
    simp only [List.nodup_cons] at h
    exact h.1 (List.mem_filterMap.2 ⟨x,List.mem_of_getElem? hi,hx⟩)
  | z::L,h,i + 1,j + 1,x,y,hi,hj,hij,b,hx => by
    simp only [List.getElem?_cons_succ] at hi hj
    refine nodup_ne f (L:=L) ?_ hi hj (by omega) hx
    rw [List.filterMap_cons] at h
    split at h
    · exact h
    · exact (List.nodup_cons.1 h).2
theorem Own.move (o : Own base H K L) {i : Nat} {bo bo' : Option Nat} {s s' : BSt} (h : L[i]? = some (bo,s)) (hk : H.Keeps K') (hst : ∀ c,bo≠some c→K.row c≠.fresh→K'.row c = K.row c)
    (hn : ∀ b,bo' = some b→K'.row b = s'∧base≤b∧H.row b = .fresh∧s'≠.fresh∧(bo = some b∨K.row b = .fresh)) : Own base H K' (L.set i (bo',s')):=by
  have hil : i < L.length:=(List.getElem?_eq_some_iff.1 h).1
  have get : ∀ j p,(L.set i (bo',s'))[j]? = some p→(j = i∧p = (bo',s'))∨(j≠i∧L[j]? = some p):=by
    intro j p hp
    rw [List.getElem?_set] at hp
    split at hp
    · rename_i hij
      first
        | (rw [if_pos hil] at hp; exact .inl ⟨hij.symm,by cases hp; rfl⟩)
        | exact .inl ⟨hij.symm,by cases hp; rfl⟩
    · rename_i hij
      exact .inr ⟨fun e => hij e.symm,hp⟩
  have other : ∀ j p b,j≠i→L[j]? = some p→p.1 = some b→bo≠some b:=by
    intro j p b hji hj hp hb
    exact nodup_ne (·.1) o.nodup hj h hji hp hb
  refine ⟨hk,fun p hp b hpb => ?_,?_⟩
  · obtain ⟨j,hj⟩:=List.getElem?_of_mem hp
    rcases get j p hj with ⟨rfl,rfl⟩ | ⟨hji,hj'⟩
    · obtain ⟨h1,h2,h3,h4,_⟩:=hn b hpb
      exact ⟨h1,h2,h3,h4⟩
    · obtain ⟨h1,h2,h3,h4⟩:=o.row p (List.mem_of_getElem? hj') b hpb
      exact ⟨by rw [hst b (other j p b hji hj' hpb) (by rw [h1]; exact h4),h1],h2,h3,h4⟩
  · -- the numbers stay apart
    have hnd:=o.nodup
    cases hb' : bo' with
    | none =>
      have : (L.set i (none,s')).filterMap (·.1) = (L.eraseIdx i).filterMap (·.1):=by
        rw [List.set_eq_take_append_cons_drop,if_pos hil,List.eraseIdx_eq_take_drop_succ]
        simp [List.filterMap_append]
      rw [this]
      exact hnd.sublist ((List.eraseIdx_sublist _ _).filterMap _)
    | some b =>
      obtain ⟨_,_,_,_,h5⟩:=hn b hb'
      have e1 : (L.set i (some b,s')).filterMap (·.1) = (L.take i).filterMap (·.1)++b::(L.drop (i + 1)).filterMap (·.1):=by
        rw [List.set_eq_take_append_cons_drop,if_pos hil]
        simp [List.filterMap_append]
      have e2 : ((L.take i++L.drop (i + 1)).filterMap (·.1)).Nodup:=by
        refine hnd.sublist (List.Sublist.filterMap _ ?_)
        rw [← List.eraseIdx_eq_take_drop_succ]
        exact List.eraseIdx_sublist _ _
      rw [List.filterMap_append] at e2
      rw [e1]
      have hmem : ∀ c,c∈(L.take i).filterMap (·.1)++(L.drop (i + 1)).filterMap (·.1)→c≠b:=by
        intro c hc
        rintro rfl
        rw [← List.filterMap_append,← List.eraseIdx_eq_take_drop_succ] at hc
        obtain ⟨⟨p1,p2⟩,hp,hp1⟩:=List.mem_filterMap.1 hc
        obtain ⟨j,hj⟩:=List.getElem?_of_mem hp
        rw [List.getElem?_eraseIdx] at hj
        simp only at hp1
        subst hp1
        obtain ⟨k,hki,hk⟩ : ∃ k,k≠i∧L[k]? = some (some c,p2):=by
          split at hj
          · exact ⟨j,by omega,hj⟩
          · exact ⟨j + 1,by omega,hj⟩
        rcases h5 with h5 | h5
        · exact other k _ c hki hk rfl h5
        · obtain ⟨h1,_,_,h4⟩:=o.row _ (List.mem_of_getElem? hk) c rfl
          rw [h5] at h1
          exact h4 h1.symm
      rw [List.nodup_append] at e2 ⊢
      refine ⟨e2.1,?_,?_⟩
      · rw [List.nodup_cons]
        exact ⟨fun hc => hmem b (List.mem_append_right _ hc) rfl,e2.2.1⟩
      · intro c hc d hd
        rcases List.mem_cons.1 hd with rfl | hd
        · exact hmem c (List.mem_append_left _ hc)
        · exact e2.2.2 c hc d hd
theorem Own.upd (o : Own base H K L) (i : Nat) {b : Nat} {s s' : BSt} (h : L[i]? = some (some b,s)) (hs : s'≠.fresh:=by simp) : Own base H (K.set b s') (L.set i (some b,s')):=by
  obtain ⟨h1,h2,h3,h4⟩:=o.row _ (List.mem_of_getElem? h) b rfl
  refine o.move h (o.keeps.set h3 _) (fun c hc hf => BH.row_set_ne _ _ (by rintro rfl; exact hc rfl)) fun b' hb' => ?_
  cases hb'
  exact ⟨BH.row_set_eq _ _ _,h2,h3,hs,.inl rfl⟩
end

/-! ### slices whose elements are single cells -/
abbrev one1 (c : BV) : List BV:=[c]
theorem flat1 (cs : List BV) : (cs.map one1).flatten = cs:=by
  induction cs with
  | nil => rfl
  | cons c cs ih => simp [one1] at ih ⊢; exact ih
def Vec (bo : Option Nat) (v : BV) (n : Nat) : Prop:=match bo with
  | none => v = .nils∧n = 0
  | some b => v = .sl b 0 n
theorem Vec.isSl {bo : Option Nat} {v : BV} {n : Nat} (h : Vec bo v n) : v.isSl = true:=by
  cases bo with
  | none => rw [h.1]; rfl
  | some b => rw [show v = .sl b 0 n from h]; rfl
theorem Vec.len {bo : Option Nat} {v : BV} {n : Nat} (h : Vec bo v n) : v.slen = n:=by
  cases bo with
  | none => rw [h.1,h.2]; rfl
  | some b => rw [show v = .sl b 0 n from h]; rfl
theorem Vec.one {bo : Option Nat} {v : BV} {n : Nat} (h : Vec bo v n) : v.one = true:=one_of_isSl h.isSl
theorem Vec.none : Vec .none .nils 0:=⟨rfl,rfl⟩
section
variable {base : Nat} {H K : BH} {L : List (Option Nat × BSt)} {i ty : Nat} {bo : Option Nat} {v : BV} {cs : List BV}
theorem Own.ownN (o : Own base H K L) (i : Nat) (h : L[i]? = some (bo,.arr ty cs)) (hv : Vec bo v cs.length) : OwnN base K ty 1 v (cs.map one1) bo:=by
  cases bo with
  | none => exact ⟨hv.1,by rw [List.eq_nil_of_length_eq_zero hv.2]; rfl⟩
  | some b =>
    obtain ⟨h1,h2,_,_⟩:=o.row _ (List.mem_of_getElem? h) b rfl
    have hv' : v = .sl b 0 cs.length:=hv
    exact ⟨by rw [List.length_map]; exact hv',by rw [flat1]; exact h1,h2,by intro x hx; obtain ⟨c,_,rfl⟩:=List.mem_map.1 hx; rfl⟩
theorem Own.sls (o : Own base H K L) (i : Nat) (h : L[i]? = some (bo,.arr ty cs)) (hv : Vec bo v cs.length) : Sls K ty 1 v (cs.map one1):=(o.ownN i h hv).sls
theorem OwnN.vec (h : OwnN base K ty 1 v (cs.map one1) bo) : Vec bo v cs.length:=by
  cases bo with
  | none => exact ⟨h.1,by simpa using h.2⟩
  | some b =>
    have:=OwnS.val h
    rw [List.length_map] at this
    exact this
theorem Own.app (o : Own base H K L) (i : Nat) (h : L[i]? = some (bo,.arr ty cs)) (hv : Vec bo v cs.length) {vy : BV} {new : List BV} {bytes nb : Nat} (hc : K.cells 1 vy = some new) (h1 : ∀ c∈new,c.one = true)
    (hsm : cs.length + new.length≤35184372088832) (hsm2 : (cs.length + new.length) * bytes≤35184372088832) (hn : K.row nb = .fresh) (hnb : base≤nb) :
    ∃ v' K' bo',K.appd base nb ty 1 bytes v vy = some (v',K')∧Own base H K' (L.set i (bo',.arr ty (cs++new)))∧Vec bo' v' (cs++new).length:=by
  have hfr : Fr H bo:=fun b hb => (o.row _ (List.mem_of_getElem? h) b hb).2.2.1
  obtain ⟨v',K',bo',a1,a2,a3,a4,a5,a6⟩:=appd_own (base:=base) (bytes:=bytes) (nb:=nb) o.keeps hfr (o.ownN i h hv) (new:=new.map one1) (by rw [flat1]; exact hc)
    (by intro z hz; obtain ⟨c,_,rfl⟩:=List.mem_map.1 hz; rfl) (by intro z hz c hcz; obtain ⟨d,hd,rfl⟩:=List.mem_map.1 hz; simp [one1] at hcz; subst hcz; exact h1 _ hd) (by omega) (by simpa using hsm) (by simpa using hsm2) hn hnb
  rw [← List.map_append] at a2
  refine ⟨v',K',bo',a1,o.move h a3 a5 fun b hb => ⟨?_,?_,a4 b hb,by simp,.inr (a6 b hb)⟩,a2.vec⟩
  · have:=a2.live hb
    rw [flat1] at this
    exact this
  · subst hb
    exact OwnS.own a2
theorem Own.push (o : Own base H K L) (i : Nat) (h : L[i]? = some (bo,.arr ty cs)) (hv : Vec bo v cs.length) {x : BV} {bytes n1 nb : Nat} (hx : x.one = true)
    (hsm : cs.length + 1≤35184372088832) (hsm2 : (cs.length + 1) * bytes≤35184372088832) (f1 : K.row n1 = .fresh) (b1 : base≤n1) (hn : (K.set n1 (.arr ty [x])).row nb = .fresh) (hnb : base≤nb) :
    ∃ v' K' b',(K.set n1 (.arr ty [x])).appd base nb ty 1 bytes v (.sl n1 0 1) = some (v',K')∧Own base H K' (L.set i (some b',.arr ty (cs++[x])))∧Vec (some b') v' (cs.length + 1):=by
  have o1:=o.new f1 b1 (s:=.arr ty [x])
  obtain ⟨v',K',bo',a1,a2,a3⟩:=o1.app (i + 1) (by simpa using h) hv (vy:=.sl n1 0 1) (new:=[x]) (bytes:=bytes) (nb:=nb) (mk_cells (sz:=1) rfl) (by simp [hx]) (by simpa using hsm) (by simpa using hsm2) hn hnb
  cases bo' with
  | none => have:=a3.2; simp at this
  | some b' => exact ⟨v',K',b',a1,by simpa using a2.tail,by simpa using a3⟩
theorem Own.wr (o : Own base H K L) (i : Nat) (h : L[i]? = some (bo,.arr ty cs)) (hv : Vec bo v cs.length) {j : Nat} (hj : j < cs.length) {u : BV} (hu : u.one = true) {rt : Option Nat} (hrt : rtOk rt ty = true) :
    ∃ K',K.wr base rt 1 (v.sat j 1) u = some K'∧Own base H K' (L.set i (bo,.arr ty (cs.set j u))):=by
  cases bo with
  | none => have:=hv.2; omega
  | some b =>
    obtain ⟨h1,h2,h3,h4⟩:=o.row _ (List.mem_of_getElem? h) b rfl
    have hv' : v = .sl b 0 cs.length:=hv
    subst hv'
    rw [sat_sl,Nat.zero_add,Nat.mul_one,wr_row (v:=u) (n:=1) h1 hrt h2 (by rw [cells_one hu]; rfl) (by omega) (by rw [cells_one hu]; simp [hu]),cells_one hu,List.append_assoc,List.singleton_append,take_set hj]
    exact ⟨_,rfl,o.upd i h⟩
theorem Own.put (o : Own base H K L) (i : Nat) {b : Nat} (h : L[i]? = some (some b,.arr ty cs)) {j : Nat} (hj : j < cs.length) {u : BV} (hu : u.one = true) {rt : Option Nat} (hrt : rtOk rt ty = true) :
    ∃ K',K.wr base rt 1 (.ptr b j) u = some K'∧Own base H K' (L.set i (some b,.arr ty (cs.set j u))):=by
  obtain ⟨K',h1,h2⟩:=o.wr i h (v:=.sl b 0 cs.length) rfl hj hu hrt
  rw [sat_sl,Nat.zero_add,Nat.mul_one] at h1
  exact ⟨K',h1,h2⟩
theorem Own.putAll (o : Own base H K L) (i : Nat) {b : Nat} (h : L[i]? = some (some b,.arr ty cs)) {n : Nat} {ds : List BV} (hn : ds.length = n) (hl : cs.length = n) (hu : ds.all BV.one = true) {rt : Option Nat} (hrt : rtOk rt ty = true) :
    ∃ K',K.wr base rt n (.ptr b 0) (.agg ds) = some K'∧Own base H K' (L.set i (some b,.arr ty ds)):=by
  obtain ⟨h1,h2,h3,h4⟩:=o.row _ (List.mem_of_getElem? h) b rfl
  rw [wr_row (v:=.agg ds) (n:=n) h1 hrt h2 (by rw [cells_agg]; exact hn) (by omega) (by rw [cells_agg]; exact hu),cells_agg]
  simp only [List.take_zero,List.nil_append,Nat.zero_add]
  rw [List.drop_eq_nil_of_le (by omega),List.append_nil]
  exact ⟨_,rfl,o.upd i h⟩
theorem rd_ptr {b j : Nat} {c : BV} (h : K.row b = .arr ty cs) {rt : Option Nat} (hrt : rtOk rt ty = true) (hj : cs[j]? = some c) : K.rd rt none (.ptr b j) = some c:=by
  have hlt : j < cs.length:=(List.getElem?_eq_some_iff.1 hj).1
  have : (cs.drop j).head? = some c:=by rw [List.head?_drop]; exact hj
  simp [BH.rd,h,hrt,show j + 1≤cs.length by omega,asm,List.head?_take,this]
theorem rd_all {b n : Nat} (h : K.row b = .arr ty cs) (hl : cs.length = n) {rt : Option Nat} (hrt : rtOk rt ty = true) : K.rd rt (some n) (.ptr b 0) = some (.agg cs):=by
  simp [BH.rd,h,hrt,hl,asm]
  rw [← hl,List.take_length]
end

/-! ### calls as steps -/
def FnDoes (Γ : Ctx) (f : Nat) (args : List BV) (H : BH) (P : BV→BH→Prop) : Prop:=∃ v K,Runs Γ f args H v K∧H.Keeps K∧P v K
theorem FnDoes.of {Γ : Ctx} {f : Nat} {fn : BFun} {args : List BV} {H : BH} {P : BV→BH→Prop} (hf : Γ.fn f = some fn)
    (h : wpC Γ.base (Runs Γ) fn.body (fun x e' K => (x = .normal∨x = .ret)∧∃ v,resOf fn.results e' K = some v∧H.Keeps K∧P v K) (argEnv args) H) : FnDoes Γ f args H P :=
  call_of_wp (R:=fun v K => H.Keeps K∧P v K) hf h
theorem FnDoes.step {Γ : Ctx} {f : Nat} {args : List BV} {H : BH} {P : BV→BH→Prop} (h : FnDoes Γ f args H P) {d : Option Nat} {e : Env} {Kn : Env→BH→Prop} {k : List Nat}
    (hk : ∀ v K,H.Keeps K→P v K→Kn (e.puto d v) K) : CallS (Runs Γ) f args k d Kn e H:=by
  obtain ⟨v,K,h1,h2,h3⟩:=h
  exact ⟨v,K,h1,h2.tys k,hk v K h2 h3⟩
theorem FnDoes.mono {Γ : Ctx} {f : Nat} {args : List BV} {H : BH} {P Q : BV→BH→Prop} (h : FnDoes Γ f args H P) (hq : ∀ v K,H.Keeps K→P v K→Q v K) : FnDoes Γ f args H Q:=by
  obtain ⟨v,K,h1,h2,h3⟩:=h
  exact ⟨v,K,h1,h2,hq v K h2 h3⟩
theorem FnDoes.val {Γ : Ctx} {f : Nat} {args : List BV} {H : BH} {v : BV} (h : FnDoes Γ f args H fun u _ => u = v) : Gives Γ f args H v:=by
  obtain ⟨u,K,h1,h2,rfl⟩:=h
  exact ⟨K,h1,h2⟩
end Go.B
end

section
namespace Go.B
set_option linter.unusedVariables false
set_option linter.unusedSimpArgs false

def BH.mlook (H : BH) (kd : Nat) (ok : Bool) (zero vm vk : BV) : Option BV:=match vm with
  | .mp b => match H.row b with
    | .mp es => if keyOk kd vk = true then (mapGet kd es vk).map fun r => if ok then .tup [r.getD zero,.bool r.isSome] else r.getD zero else none
    | _ => none
  | _ => none
def BH.msetv (base : Nat) (H : BH) (kd : Nat) (vm vk vv : BV) : Option BH:=match vm with
  | .mp b => match H.row b with
    | .mp es => if base≤b∧keyOk kd vk = true then (mapSet kd es vk vv).map fun es' => H.set b (.mp es') else none
    | _ => none
  | _ => none
def BH.mlen (H : BH) (vm : BV) : Option BV:=match vm with
  | .nilm => some (.int .i64 0)
  | .mp b => match H.row b with
    | .mp es => some (.int .i64 es.length)
    | _ => none
  | _ => none
section
variable {base nb : Nat} {σ : Opd→BV} {H : BH}
theorem op1_mkfn {f : Nat} {caps : List Opd} : op1 base nb σ H (.mkfn f caps) = some (.fn f (caps.map σ),H):=rfl
theorem op1_mkmap : op1 base nb σ H .mkmap = (H.make base nb (.mp [])).map fun K => (.mp nb,K):=rfl
theorem op1_mset {kd : Nat} {m k v : Opd} : op1 base nb σ H (.mset kd m k v) = (H.msetv base kd (σ m) (σ k) (σ v)).map fun K => (.tup [],K):=by
  cases ha : σ m <;> simp only [op1,BH.msetv,ha] <;> try rfl
  rename_i b
  cases hb : H.row b <;> simp only [] <;> try rfl
  split
  · rw [Option.map_map]
    rfl
  · rfl
theorem op1_look {kd : Nat} {ok : Bool} {z : BV} {m k : Opd} : op1 base nb σ H (.look kd ok z m k) = (H.mlook kd ok z (σ m) (σ k)).map (·,H):=by
  cases ha : σ m <;> simp only [op1,BH.mlook,ha] <;> try rfl
  rename_i b
  cases hb : H.row b <;> simp only [] <;> try rfl
  split
  · rw [Option.map_map]
    rfl
  · rfl
theorem op1_len2 {x : Opd} : op1 base nb σ H (.len 2 x) = (H.mlen (σ x)).map (·,H):=by
  cases ha : σ x <;> simp only [op1,BH.mlen,ha] <;> try rfl
  rename_i b
  cases hb : H.row b <;> simp only [] <;> rfl
end

/-! ### keys that are numbered -/
def numEs {α : Type} (enc : α→BV) (ks : List α) (n : Nat) : List (BV × BV):=match ks with
  | [] => []
  | k::r => (enc k,.int .i64 (n : Int))::numEs enc r (n + 1)
theorem numEs_len {α : Type} {enc : α→BV} : ∀ (ks : List α) (n : Nat),(numEs enc ks n).length = ks.length
  | [],_ => rfl
  | k::r,n => by simp [numEs,numEs_len r]
theorem numEs_append {α : Type} {enc : α→BV} : ∀ (ks : List α) (k : α) (n : Nat),numEs enc (ks++[k]) n = numEs enc ks n++[(enc k,.int .i64 ((n + ks.length : Nat) : Int))]
  | [],k,n => by simp [numEs]
  | j::r,k,n => by
    rw [List.cons_append,numEs,numEs_append r k (n + 1),numEs,List.cons_append,List.length_cons,show n + 1 + r.length = n + (r.length + 1) by omega]
section
variable {α : Type} [DecidableEq α] {enc : α→BV} {kd : Nat}
theorem numEs_get (he : ∀ k l,keyEqM kd (enc k) (enc l) = some (decide (k = l))) : ∀ (ks : List α) (k : α) (n : Nat),mapGet kd (numEs enc ks n) (enc k) = some (if k∈ks then some (.int .i64 ((n + ks.idxOf k : Nat) : Int)) else none)
  | [],k,n => rfl
  | j::r,k,n => by
    rw [numEs,mapGet,he k j]
    by_cases h : k = j
    · subst h
      simp
    · have h1 : (j == k) = false:=by simpa using fun e => h e.symm
      simp only [h,decide_false,List.mem_cons,false_or,List.idxOf_cons,h1]
      rw [numEs_get he r k (n + 1),show n + 1 + r.idxOf k = n + (r.idxOf k + 1) by omega]
      rfl
theorem numEs_set (he : ∀ k l,keyEqM kd (enc k) (enc l) = some (decide (k = l))) : ∀ (ks : List α) (k : α) (n : Nat) (v : BV),k ∉ ks→mapSet kd (numEs enc ks n) (enc k) v = some (numEs enc ks n++[(enc k,v)])
  | [],k,n,v,_ => rfl
  | j::r,k,n,v,h => by
    rw [List.mem_cons,not_or] at h
    rw [numEs,mapSet,he k j]
    simp only [h.1,decide_false]
    rw [numEs_set he r k (n + 1) v h.2]
    rfl
end
theorem Own.mlen {base : Nat} {H K : BH} {L : List (Option Nat × BSt)} {α : Type} {enc : α→BV} {ks : List α} {b : Nat} (o : Own base H K L) (i : Nat) (h : L[i]? = some (some b,.mp (numEs enc ks 0))) : K.mlen (.mp b) = some (.int .i64 (ks.length : Nat)):=by
  have hr:=o.at i h
  simp only [BH.mlen,hr,numEs_len]
section
variable {base : Nat} {H K : BH} {L : List (Option Nat × BSt)} {α : Type} [DecidableEq α] {enc : α→BV} {kd : Nat} {ks : List α} {b : Nat}
theorem Own.look (o : Own base H K L) (i : Nat) (h : L[i]? = some (some b,.mp (numEs enc ks 0))) (he : ∀ k l,keyEqM kd (enc k) (enc l) = some (decide (k = l))) (hk : ∀ k,keyOk kd (enc k) = true) (k : α) :
    K.mlook kd true (.int .i64 0) (.mp b) (enc k) = some (.tup [if k∈ks then .int .i64 (ks.idxOf k : Nat) else .int .i64 0,.bool (decide (k∈ks))]):=by
  have hr:=o.at i h
  simp only [BH.mlook,hr,hk,if_true,numEs_get he]
  by_cases hm : k∈ks <;> simp [hm]
theorem Own.mset (o : Own base H K L) (i : Nat) (h : L[i]? = some (some b,.mp (numEs enc ks 0))) (he : ∀ k l,keyEqM kd (enc k) (enc l) = some (decide (k = l))) (hk : ∀ k,keyOk kd (enc k) = true) {k : α} (hn : k ∉ ks) :
    ∃ K',K.msetv base kd (.mp b) (enc k) (.int .i64 (ks.length : Nat)) = some K'∧Own base H K' (L.set i (some b,.mp (numEs enc (ks++[k]) 0))):=by
  obtain ⟨h1,h2,h3,h4⟩:=o.row _ (List.mem_of_getElem? h) b rfl
  refine ⟨_,?_,o.upd i h (s':=.mp (numEs enc (ks++[k]) 0))⟩
  simp only [BH.msetv,h1,h2,hk,and_self,if_true,numEs_set he ks k 0 _ hn,Option.map_some,numEs_append,Nat.zero_add]
end
section
variable {K : Env→BH→Prop} {Q : Post} {e : Env} {H : BH} {i : Nat} {x : BExit}
theorem pthen_n : Post.then K Q .normal e H = K e H:=Eq.trans rfl rfl
theorem pthen_x : Post.then K Q (.exit i) e H = Q (.exit i) e H:=Eq.trans rfl rfl
theorem pthen_r : Post.then K Q .ret e H = Q .ret e H:=Eq.trans rfl rfl
theorem pin : Post.inBlock i Q x e H = Q (x.outOf i) e H:=Eq.trans rfl rfl
end
/-! ### code in parts -/
def BCode.hd : Nat→BCode→BCode
  | 0,_ => .skip
  | n + 1,.seq a b => .seq a (b.hd n)
  | _ + 1,c => c
def BCode.tl : Nat→BCode→BCode
  | 0,c => c
  | n + 1,.seq _ b => b.tl n
  | _ + 1,_ => .skip
theorem wpC_part {base : Nat} {C : CRel} {Q : Post} (n : Nat) (I : Env→BH→Prop) : ∀ {c : BCode} {e : Env} {H : BH},wpC base C (c.hd n) (Post.then I Q) e H→(∀ e' H',I e' H'→wpC base C (c.tl n) Q e' H')→wpC base C c Q e H:=by
  induction n with
  | zero => intro c e H h k; exact k _ _ h
  | succ n ih =>
    intro c e H h k
    cases c with
    | seq a b =>
      refine wpC_mono (c:=a) (fun x e H hx => ?_) h
      cases x with
      | normal => exact ih hx k
      | exit i => exact hx
      | ret => exact hx
    | _ =>
      refine wpC_mono (fun x e H hx => ?_) h
      cases x with
      | normal => exact k _ _ hx
      | exit i => exact hx
      | ret => exact hx

/-! ### lists whose elements have several cells -/
section
variable {base : Nat} {H K : BH} {L : List (Option Nat × BSt)} {ty sz : Nat} {bo : Option Nat} {v : BV} {xs : List (List BV)}
theorem Own.ownZ (o : Own base H K L) (i : Nat) (h : L[i]? = some (bo,.arr ty xs.flatten)) (hv : Vec bo v xs.length) (hl : ∀ x∈xs,x.length = sz) : OwnN base K ty sz v xs bo:=by
  cases bo with
  | none => exact ⟨hv.1,List.eq_nil_of_length_eq_zero hv.2⟩
  | some b =>
    obtain ⟨h1,h2,_,_⟩:=o.row _ (List.mem_of_getElem? h) b rfl
    exact ⟨hv,h1,h2,hl⟩
theorem OwnN.vecZ (h : OwnN base K ty sz v xs bo) : Vec bo v xs.length:=by
  cases bo with
  | none => exact ⟨h.1,by rw [h.2]; rfl⟩
  | some b => exact OwnS.val h
theorem Own.pushZ (o : Own base H K L) (i : Nat) (h : L[i]? = some (bo,.arr ty xs.flatten)) (hv : Vec bo v xs.length) (hl : ∀ x∈xs,x.length = sz) {x : List BV} {bytes n1 nb : Nat} (hx : x.length = sz) (h1 : ∀ c∈x,c.one = true) (hsz : 0 < sz)
    (hsm : (xs.length + 1) * sz≤35184372088832) (hsm2 : (xs.length + 1) * bytes≤35184372088832) (f1 : K.row n1 = .fresh) (b1 : base≤n1) (hn : (K.set n1 (.arr ty x)).row nb = .fresh) (hnb : base≤nb) :
    ∃ v' K' b',(K.set n1 (.arr ty x)).appd base nb ty sz bytes v (.sl n1 0 1) = some (v',K')∧Own base H K' (L.set i (some b',.arr ty (xs++[x]).flatten))∧Vec (some b') v' (xs.length + 1):=by
  have o1:=o.new f1 b1 (s:=.arr ty x)
  have hfr : Fr H bo:=fun b hb => (o.row _ (List.mem_of_getElem? h) b hb).2.2.1
  obtain ⟨v',K',bo',a1,a2,a3,a4,a5,a6⟩:=appd_own (base:=base) (bytes:=bytes) (nb:=nb) o1.keeps hfr (o1.ownZ (i + 1) (by simpa using h) hv hl) (vy:=.sl n1 0 1) (new:=[x]) (by simpa using mk_cells (K:=K) (n1:=n1) (ty:=ty) (sz:=sz) (n:=1) (by simpa using hx))
    (by simpa using hx) (by simpa using h1) hsz (by simpa using hsm) (by simpa using hsm2) hn hnb
  cases bo' with
  | none => have:=a2.2; simp at this
  | some b' =>
    have o2:=o1.move (i:=i + 1) (by simpa using h) a3 a5 (bo':=some b') (s':=.arr ty (xs++[x]).flatten) fun b hb => by
      cases hb
      exact ⟨OwnS.row a2,OwnS.own a2,a4 b' rfl,by simp,.inr (a6 b' rfl)⟩
    exact ⟨v',K',b',a1,by simpa using o2.tail,by simpa using a2.vecZ⟩
end
end Go.B
end

section
namespace Go.B
set_option linter.unusedVariables false
theorem grow_block {w : World} {k : Nat} {os : Array Obj} {i : Nat} {o : Obj} (h : w.heap[i]? = some o) : (Sort.grow (w.drewN k) os).heap[i]? = some o:=by
  have hlt : i < w.heap.size:=(Array.getElem?_eq_some_iff.1 h).1
  show (w.heap++os)[i]? = some o
  rw [Array.getElem?_append_left hlt,h]
theorem grow_ext (w : World) (k : Nat) (os : Array Obj) : w.Extends (Sort.grow (w.drewN k) os):=by
  have hb : ∀ i : Nat,i < w.heap.size→(Sort.grow (w.drewN k) os).heap[i]? = w.heap[i]?:=fun i hi => by
    show (w.heap++os)[i]? = _
    rw [Array.getElem?_append_left hi]
  refine ⟨rfl,rfl,rfl,?_,fun a ha => ?_,fun a ha => ?_,hb⟩
  · show w.heap.size≤(w.heap++os).size
    simp
  · unfold World.cell?
    rw [hb _ ha]
  · unfold World.frozen?
    rw [hb _ ha]
theorem HR.grown {P : Program} {base : Nat} {w0 w : World} {X : Tie} {H : BH} (h : HR P base w0 X H w) (k : Nat) (os : Array Obj) : HR P base w0 X H (Sort.grow (w.drewN k) os) where
  row:=fun b => by
    have hb:=h.row b
    cases hr : H.row b with
    | arr ty cs =>
      rw [hr] at hb
      obtain ⟨r,cur,fz,h1,h2,h3⟩:=hb
      exact ⟨r,cur,fz,h1,grow_block h2,h3⟩
    | mp es =>
      rw [hr] at hb
      obtain ⟨r,es',clk,h1,h2,h3⟩:=hb
      exact ⟨r,es',clk,h1,grow_block h2,h3⟩
    | dead => rw [hr] at hb; exact hb
    | fresh => rw [hr] at hb; exact hb
  inj:=h.inj
  ext:=h.ext.trans (grow_ext w k os)
def itoaB (f : Nat) : CRel:=fun g args H v H' => g = f∧∃ n : Nat,n≤4611686018427387904∧args = [.int .i64 (n : Int)]∧v = .str ⟨(Lib.decDigits n).toArray⟩∧H' = H
theorem itoaB_framed (f : Nat) : Framed (itoaB f):=by
  rintro g args H v H1 nb ⟨rfl,n,hn,rfl,rfl,rfl⟩ hf
  exact ⟨hf,fun s => ⟨rfl,n,hn,rfl,rfl,rfl⟩⟩
theorem itoaB_sound {P : Program} {base f : Nat} {w0 : World} {LO : Prop} (he : Enters P f) (htab : Lib.TabIs P w0 "internal/strconv.uint64pow10" .u64 Lib.pow10Tab)
    (hc : ∀ (n : Int),-9223372036854775808≤n→n≤9223372036854775807→∀ w,Lib.TabIs P w "internal/strconv.uint64pow10" .u64 Lib.pow10Tab →
      Calls P f #[.int .i64 n] w fun e w' => e = .returned (.string ⟨(Lib.itoa n).toArray⟩)∧∃ k os,w' = Sort.grow (w.drewN k) os) : Sound P base w0 LO (itoaB f):=by
  rintro g args H v H1 ⟨rfl,n,hn,rfl,rfl,rfl⟩
  refine ⟨he,fun X w args' ha hr => ?_⟩
  have hbel : RowKit.Below w0.heap.size w0 w:=⟨hr.ext.os,hr.ext.tape,hr.ext.output,hr.ext.size,hr.ext.block⟩
  obtain ⟨v1,r1,e1,hv1,hr1⟩:=ha
  have hr1 : r1 = []:=hr1
  have hv1 : v1 = .int .i64 (n : Int):=hv1
  subst hr1
  subst hv1
  have ea : args' = #[.int .i64 (n : Int)]:=by
    apply Array.toList_inj.1
    exact e1
  subst ea
  refine Calls.mono (hc n (by omega) (by omega) w (Lib.tabBelow_of_tabIs htab w hbel)) ?_
  rintro e w' ⟨rfl,k,os,rfl⟩
  refine ⟨X,Tie.le_refl X,?_,hr.grown k os⟩
  have hi : Lib.itoa (n : Int) = Lib.decDigits n:=by
    unfold Lib.itoa
    rw [if_neg (by omega)]
    simp
  rw [hi]
  rfl
end Go.B
end

section
namespace Go.B
set_option linter.unusedVariables false
def orC (A B : CRel) : CRel:=fun g args H v H' => A g args H v H'∨B g args H v H'
theorem orC_framed {A B : CRel} (ha : Framed A) (hb : Framed B) : Framed (orC A B):=by
  rintro g args H v H1 nb (h | h) hf
  · obtain ⟨h1,h2⟩:=ha g args H v H1 nb h hf
    exact ⟨h1,fun s => Or.inl (h2 s)⟩
  · obtain ⟨h1,h2⟩:=hb g args H v H1 nb h hf
    exact ⟨h1,fun s => Or.inr (h2 s)⟩
theorem orC_sound {P : Program} {base : Nat} {w0 : World} {LO : Prop} {A B : CRel} (ha : Sound P base w0 LO A) (hb : Sound P base w0 LO B) : Sound P base w0 LO (orC A B):=by
  rintro g args H v H1 (h | h)
  · exact ha g args H v H1 h
  · exact hb g args H v H1 h
def delB (base f ty : Nat) : CRel:=fun g args H v H' => g = f∧∃ (b i j : Nat) (zs : List Int),base≤b∧i≤j∧j≤zs.length∧zs.length≤4611686018427387904∧H.row b = .arr ty (zs.map (BV.int .i64)) ∧
  args = [.sl b 0 zs.length,.int .i64 i,.int .i64 j]∧v = .sl b 0 (zs.length - (j - i))∧H' = H.set b (.arr ty ((zs.take i++zs.drop j++List.replicate (j - i) 0).map (BV.int .i64)))
theorem delB_framed (base f ty : Nat) : Framed (delB base f ty):=by
  rintro g args H v H1 nb ⟨rfl,b,i,j,zs,hb,hij,hj,hn,hr,rfl,rfl,rfl⟩ hf
  have hne : nb≠b:=by
    rintro rfl
    rw [BH.row_set_eq] at hf
    cases hf
  rw [BH.row_set_ne _ _ hne] at hf
  refine ⟨hf,fun s => ⟨rfl,b,i,j,zs,hb,hij,hj,hn,?_,rfl,rfl,?_⟩⟩
  · rw [BH.row_set_ne _ _ (Ne.symm hne)]
    exact hr
  · rw [BH.set_comm _ _ _ (Ne.symm hne)]
theorem putRow_other {w : World} {q blk : Nat} {d : Array Int} {k : Nat} (h : k≠blk) : (Sort.putRow (Value.int .i64) (Sort.ahead w q) blk 0 d).heap[k]? = w.heap[k]?:=by
  show (w.heap.modify blk _)[k]? = _
  rw [Array.getElem?_modify,if_neg (Ne.symm h)]
theorem putRow_ext {w0 w : World} {q blk : Nat} {d : Array Int} (h : w0.Extends w) (hlow : w0.heap.size≤blk) : w0.Extends (Sort.putRow (Value.int .i64) (Sort.ahead w q) blk 0 d):=by
  have hb : ∀ i : Nat,i < w0.heap.size→(Sort.putRow (Value.int .i64) (Sort.ahead w q) blk 0 d).heap[i]? = w0.heap[i]?:=fun i hi => by
    rw [putRow_other (by omega),h.block i hi]
  refine ⟨h.os,h.tape,h.output,?_,fun a ha => ?_,fun a ha => ?_,hb⟩
  · show w0.heap.size≤(w.heap.modify blk _).size
    rw [Array.size_modify]
    exact h.size
  · unfold World.cell?
    rw [hb _ ha]
  · unfold World.frozen?
    rw [hb _ ha]
theorem delB_sound {P : Program} {base f ty : Nat} {w0 : World} {LO : Prop} (he : Enters P f) (hsz : P.cellsOf ty = 1)
    (hc : ∀ (blk off cap i j : Nat) (zs : List Int) (w : World),Sort.Holds (Value.int .i64) w blk off zs.toArray→zs.length≤cap→cap≤9223372036854775807→i≤j→j≤zs.length →
      Calls P f #[.slice (some ⟨blk,off,none⟩) zs.length cap,.int .i64 i,.int .i64 j] w fun e w' => e = .returned (.slice (some ⟨blk,off,none⟩) (zs.length - (j - i)) cap)∧∃ q,w' = Sort.putRow (Value.int .i64) (Sort.ahead w q) blk off (zs.take i++zs.drop j++List.replicate (j - i) 0).toArray) :
    Sound P base w0 LO (delB base f ty):=by
  rintro g args H v H1 ⟨rfl,b,i,j,zs,hb,hij,hj,hn,hrow,rfl,rfl,rfl⟩
  refine ⟨he,fun X w args' ha hr => ?_⟩
  obtain ⟨v1,r1,e1,⟨r,cap,hx,rfl,hcap,hroom⟩,ha⟩:=ha
  obtain ⟨v2,r2,rfl,rfl,ha⟩:=ha
  obtain ⟨v3,r3,rfl,rfl,ha⟩:=ha
  have ha : r3 = []:=ha
  subst ha
  have ea : args' = #[.slice (some ⟨r.blk,0,none⟩) zs.length cap,.int .i64 i,.int .i64 j]:=by
    apply Array.toList_inj.1
    exact e1
  subst ea
  obtain ⟨hroom,hmax⟩:=hroom hb rfl
  have hrw:=hr.row b
  rw [hrow] at hrw
  obtain ⟨r',cur,fz,hx',hh,g1,g2,g3,g4⟩:=hrw
  rw [hx] at hx'
  cases hx'
  obtain ⟨glow,rfl⟩:=g4 hb
  have hle : zs.length≤cur.size:=by
    rw [hsz] at g2
    rw [g1,← hroom,g2]
    omega
  have hH : Sort.Holds (Value.int .i64) w r.blk 0 zs.toArray:=fun k hk => by
    have hk : k < zs.length:=by simpa using hk
    obtain ⟨u,hu,ku⟩:=g3 k (.int .i64 zs[k]) (by rw [List.getElem?_map,List.getElem?_eq_getElem hk]; rfl)
    have ku : u = .int .i64 zs[k]:=ku
    subst ku
    refine ⟨?_,?_⟩
    · simp [World.cell?,hh,hu,hk]
    · simp [World.frozen?,hh]
  refine Calls.mono (hc r.blk 0 cap i j zs w hH hcap (by simpa [maxLen] using hmax) hij hj) ?_
  rintro e w' ⟨rfl,q,rfl⟩
  refine ⟨X,Tie.le_refl X,⟨r,cap,hx,rfl,by omega,fun _ _ => ⟨hroom,hmax⟩⟩,?_⟩
  refine hr.write (by rw [hrow]; rfl) hx (putRow_ext hr.ext glow) (fun k _ hk => putRow_other hk) rfl ?_
  refine ⟨r,Sort.putCells (Value.int .i64) 0 (zs.take i++zs.drop j++List.replicate (j - i) 0).toArray cur,(0,0),hx,?_,?_,g2,?_,fun _ => ⟨glow,rfl⟩⟩
  · show (w.heap.modify r.blk _)[r.blk]? = _
    rw [Array.getElem?_modify,if_pos rfl,hh]
    rfl
  · simp [Sort.putCells,g1]
  · intro k c hk
    obtain ⟨hlt,hkv⟩:=List.getElem?_eq_some_iff.1 hk
    rw [List.length_map] at hlt
    rw [List.getElem_map] at hkv
    subst hkv
    have hl2 : (zs.take i++zs.drop j++List.replicate (j - i) (0 : Int)).length = zs.length:=by simp; omega
    obtain ⟨L,hL⟩ : ∃ L,L = zs.take i++zs.drop j++List.replicate (j - i) (0 : Int):=⟨_,rfl⟩
    rw [← hL] at hl2
    simp only [← hL] at hlt ⊢
    refine ⟨.int .i64 L[k],?_,rfl⟩
    have hkc : k < cur.size:=by omega
    simp [Sort.putCells,hkc,hlt]
end Go.B
end

section
namespace Go.B
set_option linter.unusedVariables false
def insB (base f ty : Nat) : CRel:=fun g args H v H' => g = f∧∃ (b vb nb i : Nat) (zs : List Int) (x : Int),base≤b∧base≤vb∧base≤nb∧H.row nb = .fresh∧b≠vb∧0 < zs.length∧i≤zs.length∧zs.length≤1000000 ∧
  H.row b = .arr ty (zs.map (BV.int .i64))∧H.row vb = .arr ty [.int .i64 x] ∧
  args = [.sl b 0 zs.length,.int .i64 i,.sl vb 0 1]∧v = .sl nb 0 (zs.length + 1)∧H' = (H.set nb (.arr ty ((zs.take i++x::zs.drop i).map (BV.int .i64)))).set b .dead
theorem insB_framed (base f ty : Nat) : Framed (insB base f ty):=by
  rintro g args H v H1 n ⟨rfl,b,vb,nb,i,zs,x,hb,hvb,hnb,hfr,hne,h0,hi,hn,hr,hrv,rfl,rfl,rfl⟩ hf
  have n1 : n≠b:=by
    rintro rfl
    rw [BH.row_set_eq] at hf
    cases hf
  rw [BH.row_set_ne _ _ n1] at hf
  have n2 : n≠nb:=by
    rintro rfl
    rw [BH.row_set_eq] at hf
    cases hf
  rw [BH.row_set_ne _ _ n2] at hf
  have n3 : n≠vb:=by
    rintro rfl
    rw [hrv] at hf
    cases hf
  refine ⟨hf,fun s => ⟨rfl,b,vb,nb,i,zs,x,hb,hvb,hnb,?_,hne,h0,hi,hn,?_,?_,rfl,rfl,?_⟩⟩
  · rw [BH.row_set_ne _ _ (Ne.symm n2)]
    exact hfr
  · rw [BH.row_set_ne _ _ (Ne.symm n1)]
    exact hr
  · rw [BH.row_set_ne _ _ (Ne.symm n3)]
    exact hrv
  · rw [BH.set_comm _ _ _ (Ne.symm n1),BH.set_comm _ _ _ (Ne.symm n2)]
def InsDoes (P : Program) (f ty : Nat) : Prop:=∀ (blk vblk cap vc i : Nat) (zs : List Int) (x : Int) (cur cv : Array Value) (w : World),w.heap[blk]? = some (.cells cur ty (0,0))→(∀ (k : Nat) (hk : k < zs.length),cur[k]? = some (.int .i64 zs[k])) →
  cur.size = cap→zs.length≤cap→cap≤maxLen→w.heap[vblk]? = some (.cells cv ty (0,0))→cv[0]? = some (.int .i64 x)→blk≠vblk→0 < zs.length→i≤zs.length→zs.length≤1000000 →
  Calls P f #[.slice (some ⟨blk,0,none⟩) zs.length cap,.int .i64 i,.slice (some ⟨vblk,0,none⟩) 1 vc] w fun e w' => ∃ (nblk ncap : Nat) (ncur : Array Value),e = .returned (.slice (some ⟨nblk,0,none⟩) (zs.length + 1) ncap)∧(nblk = blk∨w.heap.size≤nblk) ∧
    w'.heap[nblk]? = some (.cells ncur ty (0,0))∧ncur.size = ncap∧ncap≤maxLen∧zs.length + 1≤ncap∧(∀ (k : Nat) (c : Int),(zs.take i++x::zs.drop i)[k]? = some c→ncur[k]? = some (.int .i64 c)) ∧
    (∀ k,k < w.heap.size→k≠blk→w'.heap[k]? = w.heap[k]?)∧w.heap.size≤w'.heap.size∧w'.os = w.os∧w'.tape = w.tape∧w'.output = w.output
theorem insB_sound {P : Program} {base f ty : Nat} {w0 : World} {LO : Prop} (he : Enters P f) (hsz : P.cellsOf ty = 1) (hc : InsDoes P f ty) : Sound P base w0 LO (insB base f ty):=by
  rintro g args H v H1 ⟨rfl,b,vb,nb,i,zs,x,hb,hvb,hnb,hfr,hne,h0,hi,hn,hrow,hrv,rfl,rfl,rfl⟩
  refine ⟨he,fun X w args' ha hr => ?_⟩
  obtain ⟨v1,r1,e1,⟨r,cap,hx,rfl,hcap,hroom⟩,ha⟩:=ha
  obtain ⟨v2,r2,rfl,rfl,ha⟩:=ha
  obtain ⟨v3,r3,rfl,⟨q,vc,hxq,rfl,hvc,hvroom⟩,ha⟩:=ha
  have ha : r3 = []:=ha
  subst ha
  have ea : args' = #[.slice (some ⟨r.blk,0,none⟩) zs.length cap,.int .i64 i,.slice (some ⟨q.blk,0,none⟩) 1 vc]:=by
    apply Array.toList_inj.1
    exact e1
  subst ea
  obtain ⟨hroom,hmax⟩:=hroom hb rfl
  have hrw:=hr.row b
  rw [hrow] at hrw
  obtain ⟨r',cur,fz,hx',hh,g1,g2,g3,g4⟩:=hrw
  rw [hx] at hx'
  cases hx'
  obtain ⟨glow,rfl⟩:=g4 hb
  have hrw2:=hr.row vb
  rw [hrv] at hrw2
  obtain ⟨q',cv,fz',hx',hh',p1,p2,p3,p4⟩:=hrw2
  rw [hxq] at hx'
  cases hx'
  obtain ⟨plow,rfl⟩:=p4 hvb
  rw [hsz] at g2 p2
  have hcs : cur.size = cap:=by
    rw [g1,← hroom,g2,Nat.mul_one]
  have hlive : (H.row b).live = true:=by rw [hrow]; rfl
  have hlv : (H.row vb).live = true:=by rw [hrv]; rfl
  have hbb : r.blk≠q.blk:=fun e => hne (hr.inj b vb r q hlive hlv hx hxq e)
  have hcv : cv[0]? = some (.int .i64 x):=by
    obtain ⟨u,hu,ku⟩:=p3 0 (.int .i64 x) rfl
    have ku : u = .int .i64 x:=ku
    subst ku
    exact hu
  refine Calls.mono (hc r.blk q.blk cap vc i zs x cur cv w hh (fun k hk => ?_) hcs hcap hmax hh' hcv hbb h0 hi hn) ?_
  · obtain ⟨u,hu,ku⟩:=g3 k (.int .i64 zs[k]) (by rw [List.getElem?_map,List.getElem?_eq_getElem hk]; rfl)
    have ku : u = .int .i64 zs[k]:=ku
    subst ku
    exact hu
  rintro e w' ⟨nblk,ncap,ncur,rfl,hnb',hnh,hns,hnm,hnl,hnc,hold,hsize,hos,htp,hout⟩
  have hle:=Tie.le_put (X:=X) (b:=nb) ⟨nblk,1,ncap⟩ (hr.fresh_none hfr)
  have hnbb : nb≠b:=by
    rintro rfl
    rw [hrow] at hfr
    cases hfr
  have hlow : w0.heap.size≤nblk:=by
    rcases hnb' with rfl | h
    · exact glow
    · exact Nat.le_trans hr.ext.size h
  have hother : ∀ d,d≠b→∀ p,(H.row d).live = true→X d = some p→w'.heap[p.blk]? = w.heap[p.blk]?∧p.blk≠nblk:=fun d hd p hl hp => by
    obtain ⟨p',hp',hlt⟩:=(hr.row d).lives hl
    rw [hp] at hp'
    cases hp'
    have hpb : p.blk≠r.blk:=fun e => hd (hr.inj d b p r hl hlive hp hx e)
    refine ⟨hold _ hlt hpb,?_⟩
    rcases hnb' with rfl | h
    · exact hpb
    · omega
  refine ⟨X.put nb ⟨nblk,1,ncap⟩,hle,⟨_,ncap,Tie.put_self _ _ _,rfl,hnl,fun _ _ => ⟨Nat.mul_one _,hnm⟩⟩,⟨fun d => ?_,fun d d' p p' hd hd' hp hp' hpq => ?_,?_⟩⟩
  · rw [BH.row_set]
    split
    · rename_i e; subst e
      exact ⟨r,hle _ _ hx⟩
    · rename_i e
      rw [BH.row_set]
      split
      · rename_i e'; subst e'
        refine ⟨⟨nblk,1,ncap⟩,ncur,(0,0),Tie.put_self _ _ _,hnh,hns,hsz.symm,fun k c hk => ?_,fun _ => ⟨hlow,rfl⟩⟩
        rw [List.getElem?_map] at hk
        cases hz : (zs.take i++x::zs.drop i)[k]? with
        | none => rw [hz] at hk; cases hk
        | some z =>
          rw [hz] at hk
          simp only [Option.map_some,Option.some.injEq] at hk
          subst hk
          exact ⟨_,hnc k z hz,rfl⟩
      · rename_i e'
        exact (hr.row d).stay hle (fun e'' => by simp [Tie.put,e',hr.fresh_none e'']) fun hl p hp => (hother d e p hl hp).1
  · rw [BH.row_set] at hd hd'
    split at hd
    · simp [BSt.live] at hd
    rename_i e
    split at hd'
    · simp [BSt.live] at hd'
    rename_i e'
    rw [BH.row_set] at hd hd'
    by_cases f1 : d = nb <;> by_cases f2 : d' = nb
    · rw [f1,f2]
    · simp only [Tie.put,f1,f2,if_true,if_false] at hp hp' hd'
      cases hp
      exact absurd hpq.symm (hother d' e' p' hd' hp').2
    · simp only [Tie.put,f1,f2,if_true,if_false] at hp hp' hd
      cases hp'
      exact absurd hpq (hother d e p hd hp).2
    · simp only [Tie.put,f1,f2,if_false] at hp hp' hd hd'
      exact hr.inj d d' p p' hd hd' hp hp' hpq
  · exact ext_block hr.ext hos htp hout hsize fun k hk => hold k (Nat.lt_of_lt_of_le hk hr.ext.size) (by omega)
end Go.B
end

section
namespace Go.B
set_option linter.unusedVariables false
theorem setCells_spec (b : Nat) (ty : TypeId) (fz : Nat × Nat) : ∀ (vs : List Value) (o : Nat) (w : World) (cur : Array Value),w.heap[b]? = some (.cells cur ty fz) →
    ∃ cur',(w.setCells b o vs).heap[b]? = some (.cells cur' ty fz)∧cur'.size = cur.size∧(∀ k : Nat,k < o∨o + vs.length≤k→cur'[k]? = cur[k]?)∧(∀ (j : Nat) (v : Value),vs[j]? = some v→o + j < cur.size→cur'[o + j]? = some v) ∧
      (∀ k : Nat,k≠b→(w.setCells b o vs).heap[k]? = w.heap[k]?)∧(w.setCells b o vs).heap.size = w.heap.size∧(w.setCells b o vs).os = w.os∧(w.setCells b o vs).tape = w.tape∧(w.setCells b o vs).output = w.output
  | [],o,w,cur,h => ⟨cur,h,rfl,fun _ _ => rfl,fun j v hj => by simp at hj,fun _ _ => rfl,rfl,rfl,rfl,rfl⟩
  | v::r,o,w,cur,h => by
    have h1 : (w.setCell ⟨b,o,none⟩ v).heap[b]? = some (.cells (cur.setIfInBounds o v) ty fz):=by
      simp [World.setCell,Array.getElem?_modify,h]
    obtain ⟨cur',p1,p2,p3,p4,p5,p6,p7,p8,p9⟩:=setCells_spec b ty fz r (o + 1) _ _ h1
    refine ⟨cur',p1,by rw [p2]; simp,fun k hk => ?_,fun j u hj hlt => ?_,fun k hk => ?_,?_,p7,p8,p9⟩
    · rw [p3 k (by simp only [List.length_cons] at hk; omega)]
      rw [Array.getElem?_setIfInBounds_ne (by simp only [List.length_cons] at hk; omega)]
    · cases j with
      | zero =>
        simp at hj
        subst hj
        rw [Nat.add_zero] at hlt ⊢
        rw [p3 o (by omega)]
        simp [hlt]
      | succ j =>
        have:=p4 j u (by simpa using hj) (by simp; omega)
        rw [show o + (j + 1) = o + 1 + j by omega]
        exact this
    · show ((w.setCell ⟨b,o,none⟩ v).setCells b (o + 1) r).heap[k]? = _
      rw [p5 k hk]
      simp [World.setCell,Array.getElem?_modify,Ne.symm hk]
    · show ((w.setCell ⟨b,o,none⟩ v).setCells b (o + 1) r).heap.size = _
      rw [p6]
      simp [World.setCell]
theorem insDoes_of {P : Program} {ρ : Shelf.Ren} (L : Go.Proofs.Lays2.n21 P ρ) : InsDoes P (ρ.f 21) (ρ.t 3):=by
  intro blk vblk cap vc i zs x cur cv w hh hz hcs hle hmax hv hcv hne h0 hi hn
  have hcell : ∀ k,w.cell? ⟨blk,k,none⟩ = cur[k]?:=fun k => by simp [World.cell?,hh]
  have hvcell : ∀ k,w.cell? ⟨vblk,k,none⟩ = cv[k]?:=fun k => by simp [World.cell?,hv]
  have hcsv : ∀ (j : Nat) (v : Value),(zs.map (Value.int .i64))[j]? = some v→w.cell? ⟨blk,0 + j,none⟩ = some v:=fun j v hj => by
    rw [Nat.zero_add,hcell]
    rw [List.getElem?_map] at hj
    cases hjz : zs[j]? with
    | none => rw [hjz] at hj; cases hj
    | some z =>
      rw [hjz] at hj
      obtain ⟨hlt,he⟩:=List.getElem?_eq_some_iff.1 hjz
      rw [hz j hlt,he]
      exact hj
  have hvs : ∀ (j : Nat) (v : Value),[Value.int .i64 x][j]? = some v→w.cell? ⟨vblk,0 + j,none⟩ = some v:=fun j v hj => by
    cases j with
    | zero => rw [hvcell]; simp at hj; subst hj; exact hcv
    | succ j => simp at hj
  have h1c : ∀ v∈zs.map (Value.int .i64),v.oneCell' = true:=fun v hv => by
    obtain ⟨z,_,rfl⟩:=List.mem_map.1 hv
    rfl
  have h1v : ∀ v∈[Value.int .i64 x],v.oneCell' = true:=fun v hv => by
    simp at hv
    subst hv
    rfl
  have hml : maxLen = 9223372036854775807:=rfl
  have hlen : (zs.map (Value.int .i64)).length = zs.length:=List.length_map _
  -- what stands in the cells
  have hins : ∀ (ncur : Array Value),(∀ k : Nat,k < i→ncur[k]? = (zs.map (Value.int .i64))[k]?)→ncur[i]? = some (.int .i64 x)→(∀ j : Nat,∀ v,((zs.map (Value.int .i64)).drop i)[j]? = some v→ncur[i + 1 + j]? = some v) →
      ∀ (k : Nat) (c : Int),(zs.take i++x::zs.drop i)[k]? = some c→ncur[k]? = some (.int .i64 c):=fun ncur g1 g2 g3 k c hk => by
    have htl : (zs.take i).length = i:=by rw [List.length_take]; omega
    by_cases hki : k < i
    · rw [List.getElem?_append_left (by omega),List.getElem?_take_of_lt hki] at hk
      rw [g1 k hki,List.getElem?_map,hk]
      rfl
    · rw [List.getElem?_append_right (by omega),htl] at hk
      obtain ⟨d,rfl⟩ : ∃ d,k = i + d:=⟨k - i,by omega⟩
      rw [Nat.add_sub_cancel_left] at hk
      cases d with
      | zero =>
        simp at hk
        subst hk
        exact g2
      | succ d =>
        have:=g3 d (.int .i64 c) (by rw [← List.map_drop,List.getElem?_map]; simp at hk; simp [hk])
        rw [show i + (d + 1) = i + 1 + d by omega]
        exact this
  by_cases hroom : zs.length + 1≤cap
  · by_cases hin : i < zs.length
    · have hsa : w.shape? vblk = some (ρ.t 3,cv.size):=by simp [World.shape?,hv]
      have hsb : w.shape? blk = some (ρ.t 3,cur.size):=by simp [World.shape?,hh]
      refine Calls.mono (Go.Proofs.Any2.slices_Insert_int_shift L blk 0 zs.length cap i vblk 0 1 vc (zs.map (Value.int .i64)) [.int .i64 x] w hin (by omega) hroom (by omega) (Ne.symm hne) hlen rfl hcsv
        (fun j hj => by rw [Nat.zero_add,hcell]; simp; omega) (fun j hj => by simp [World.frozen?,hh]) hvs h1c h1v (ρ.t 3) (ρ.t 3) cv.size cur.size hsa hsb (by omega) (by simp [World.frozen?,hv]) (by simp [World.frozen?,hv])) ?_
      rintro e w' ⟨rfl,rfl⟩
      obtain ⟨c1,p1,p2,p3,p4,p5,p6,p7,p8,p9⟩:=setCells_spec blk (ρ.t 3) (0,0) ((zs.map (Value.int .i64)).drop i) (0 + (i + 1)) w.drew cur hh
      obtain ⟨c2,q1,q2,q3,q4,q5,q6,q7,q8,q9⟩:=setCells_spec blk (ρ.t 3) (0,0) [.int .i64 x] (0 + i) _ c1 p1
      refine ⟨blk,cap,c2,rfl,.inl rfl,q1,by omega,hmax,hroom,hins c2 (fun k hk => ?_) ?_ (fun j v hj => ?_),fun k hk hkb => ?_,?_,q7.trans p7,q8.trans p8,q9.trans p9⟩
      · rw [q3 k (by omega),p3 k (by omega),← hcell,List.getElem?_eq_getElem (by omega)]
        have:=hcsv k _ (List.getElem?_eq_getElem (by omega))
        rw [Nat.zero_add] at this
        exact this
      · have:=q4 0 _ rfl (by omega)
        simpa using this
      · have hlt : j < ((zs.map (Value.int .i64)).drop i).length:=(List.getElem?_eq_some_iff.1 hj).1
        rw [List.length_drop,hlen] at hlt
        have:=p4 j v hj (by omega)
        rw [q3 _ (by simp)]
        rw [show i + 1 + j = 0 + (i + 1) + j by omega]
        exact this
      · rw [q5 k hkb,p5 k hkb]
        rfl
      · rw [q6,p6]
        exact Nat.le_refl _
    · have hie : i = zs.length:=by omega
      subst hie
      refine Calls.mono (Go.Proofs.Any2.slices_Insert_int_end_room L blk 0 zs.length cap vblk 0 1 vc [.int .i64 x] w (by omega) hroom (by omega) rfl
        (fun j hj => by rw [hcell]; simp; omega) (fun j hj => by simp [World.frozen?,hh]) hvs h1v) ?_
      rintro e w' ⟨rfl,rfl⟩
      obtain ⟨c1,p1,p2,p3,p4,p5,p6,p7,p8,p9⟩:=setCells_spec blk (ρ.t 3) (0,0) [.int .i64 x] (0 + zs.length) w cur hh
      refine ⟨blk,cap,c1,rfl,.inl rfl,p1,by omega,hmax,hroom,hins c1 (fun k hk => ?_) ?_ (fun j v hj => ?_),fun k hk hkb => p5 k hkb,by rw [p6]; exact Nat.le_refl _,p7,p8,p9⟩
      · rw [p3 k (by omega),← hcell,List.getElem?_eq_getElem (by omega)]
        have:=hcsv k _ (List.getElem?_eq_getElem (by omega))
        rw [Nat.zero_add] at this
        exact this
      · have:=p4 0 _ rfl (by omega)
        simpa using this
      · have hlt : j < ((zs.map (Value.int .i64)).drop zs.length).length:=(List.getElem?_eq_some_iff.1 hj).1
        rw [List.length_drop,hlen] at hlt
        omega
  · have hcap : cap = zs.length:=by omega
    have hGm:=grownCap_le_maxLen w (zs.length + 1) cap (ρ.t 3) (by omega)
    have hGg:=grownCap_ge w (zs.length + 1) cap (ρ.t 3)
    obtain ⟨G,hG⟩ : ∃ G,G = grownCap w (zs.length + 1) cap (ρ.t 3):=⟨_,rfl⟩
    rw [← hG] at hGm hGg
    have hz1 : (Value.int .i64 0).cells = #[.int .i64 0]:=rfl
    by_cases hin : i < zs.length
    · refine Calls.mono (Go.Proofs.Any2.slices_Insert_int_grow L blk 0 zs.length cap i vblk 0 1 vc (zs.map (Value.int .i64)) [.int .i64 x] w hin (by omega) hle (by omega) (by omega) hlen rfl hcsv hvs h1c h1v) ?_
      rw [← hG]
      rintro e w' ⟨rfl,rfl⟩
      obtain ⟨ROW,hROW⟩ : ∃ ROW : Array Value,ROW = ((zs.map (Value.int .i64)).take i).toArray++Builtin.zeroCells (Value.int .i64 0).cells (zs.length + 1 - i)++Builtin.zeroCells (Value.int .i64 0).cells (G - (zs.length + 1)):=⟨_,rfl⟩
      rw [← hROW]
      have hRs : ROW.size = G:=by
        rw [hROW]
        simp [Builtin.zeroCells,Value.cells]
        omega
      have hRi : ∀ k : Nat,k < i→ROW[k]? = (zs.map (Value.int .i64))[k]?:=fun k hk => by
        have htl : ((zs.map (Value.int .i64)).take i).length = i:=by rw [List.length_take,hlen]; omega
        rw [hROW,Array.getElem?_append_left (by simp; omega),Array.getElem?_append_left (by simp; omega)]
        rw [List.getElem?_toArray,List.getElem?_take_of_lt hk]
      have hW : (w.alloc (.cells ROW (ρ.t 3))).drew.heap[w.heap.size]? = some (.cells ROW (ρ.t 3) (0,0)):=by
        show (w.heap.push _)[w.heap.size]? = _
        simp
      obtain ⟨c1,p1,p2,p3,p4,p5,p6,p7,p8,p9⟩:=setCells_spec w.heap.size (ρ.t 3) (0,0) [.int .i64 x] i (w.alloc (.cells ROW (ρ.t 3))).drew ROW hW
      obtain ⟨c2,q1,q2,q3,q4,q5,q6,q7,q8,q9⟩:=setCells_spec w.heap.size (ρ.t 3) (0,0) ((zs.map (Value.int .i64)).drop i) (i + 1) ((w.alloc (.cells ROW (ρ.t 3))).drew.setCells w.heap.size i [.int .i64 x]).drew c1 p1
      refine ⟨w.heap.size,G,c2,rfl,.inr (Nat.le_refl _),q1,by omega,hGm,hGg,hins c2 (fun k hk => ?_) ?_ (fun j v hj => ?_),fun k hk hkb => ?_,?_,q7.trans p7,q8.trans p8,q9.trans p9⟩
      · rw [q3 k (by omega),p3 k (by omega),hRi k hk]
      · have:=p4 0 _ rfl (by omega)
        rw [q3 i (by omega)]
        simpa using this
      · have hlt : j < ((zs.map (Value.int .i64)).drop i).length:=(List.getElem?_eq_some_iff.1 hj).1
        rw [List.length_drop,hlen] at hlt
        exact q4 j v hj (by omega)
      · rw [q5 k (by omega)]
        show ((w.alloc (.cells ROW (ρ.t 3))).drew.setCells w.heap.size i [.int .i64 x]).heap[k]? = _
        rw [p5 k (by omega)]
        exact heap_alloc_old w _ hk
      · rw [q6]
        show w.heap.size≤((w.alloc (.cells ROW (ρ.t 3))).drew.setCells w.heap.size i [.int .i64 x]).heap.size
        rw [p6]
        show w.heap.size≤(w.heap.push _).size
        simp
    · have hie : i = zs.length:=by omega
      subst hie
      refine Calls.mono (Go.Proofs.Any2.slices_Insert_int_end_grow L (some ⟨blk,0,none⟩) zs.length cap vblk 0 1 vc (zs.map (Value.int .i64)) [.int .i64 x] w (by omega) hle (by omega) (by omega) hlen rfl (fun e => by cases e)
        (fun a ha j v hj => by
          cases ha
          have : (⟨blk,0,none⟩ : Addr).add j = ⟨blk,0 + j,none⟩:=by unfold Addr.add; split <;> simp_all
          rw [this]
          exact hcsv j v hj) hvs h1v) ?_
      rw [← hG]
      rintro e w' ⟨rfl,rfl⟩
      obtain ⟨ROW,hROW⟩ : ∃ ROW : Array Value,ROW = (zs.map (Value.int .i64)++[Value.int .i64 x]).toArray++Builtin.zeroCells (Value.int .i64 0).cells (G - (zs.length + 1)):=⟨_,rfl⟩
      rw [← hROW]
      have hRs : ROW.size = G:=by
        rw [hROW]
        simp [Builtin.zeroCells,Value.cells]
        omega
      have hW : (w.drew.alloc (.cells ROW (ρ.t 3))).heap[w.heap.size]? = some (.cells ROW (ρ.t 3) (0,0)):=by
        show (w.heap.push _)[w.heap.size]? = _
        simp
      have hRk : ∀ k : Nat,k < zs.length + 1→ROW[k]? = (zs.map (Value.int .i64)++[Value.int .i64 x])[k]?:=fun k hk => by
        rw [hROW,Array.getElem?_append_left (by simp; omega),List.getElem?_toArray]
      refine ⟨w.heap.size,G,ROW,rfl,.inr (Nat.le_refl _),hW,hRs,hGm,hGg,hins ROW (fun k hk => ?_) ?_ (fun j v hj => ?_),fun k hk hkb => ?_,?_,rfl,rfl,rfl⟩
      · rw [hRk k (by omega),List.getElem?_append_left (by omega)]
      · rw [hRk _ (by omega),List.getElem?_append_right (by omega),hlen,Nat.sub_self]
        rfl
      · have hlt : j < ((zs.map (Value.int .i64)).drop zs.length).length:=(List.getElem?_eq_some_iff.1 hj).1
        rw [List.length_drop,hlen] at hlt
        omega
      · exact heap_alloc_old w.drew _ hk
      · show w.heap.size≤(w.heap.push _).size
        simp
end Go.B
end
