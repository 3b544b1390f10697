/-
For all arguments the law FnExactNumberSet returns true; the arguments read as they did. The card: what the program lays for the library's tables is tied to its text.
-/
import Derived.Test.YtcnkhkmapgbodaaDoorQ6
import Derived.Test.YtcnkhkmapgbodaaDoorRows
import Derived.Test.YtcnkhkmapgbodaaDoorCards
import Derived.Test.YtcnkhkmapgbodaaDoorTie
import Derived.WalkKit
import Derived.ProofKit
import Derived.OpenShut
import Derived.ShutString
import Derived.ChangeOld
import Derived.Below
import Derived.SizedLaws
import Derived.Carry
import Derived.LaidLaws
import Derived.LaidHandle
import Derived.SevenTiedAt
import Derived.LaidSub
import Derived.Lib.LaidTab
import Derived.Test.YtcnkhkmapgbodaaDoorChecked
namespace Go.Proofs.YtcnkhkmapgbodaaDoor.fnExactNumberSet
open Go.ChangeShapes Go.WideShapes Go.ChangeAt Go.RowKit
open Go.Proofs.YtcnkhkmapgbodaaDoor.W Go.B
open Go.ChangeMaps (open_string shut_string)
set_option linter.unusedVariables false
theorem own : ownKnob Tryd.prog.godebug = none := by kernel_rfl

theorem tab {W : World} (h : laidMetH Tryd.prog Rows.fnExactNumberSetRow.laid W) : Lib.TabIs Tryd.prog W "internal/strconv.uint64pow10" .u64 Lib.pow10Tab := by
  have h1 := laidMetH.filter (fun x => x.1 == "internal/strconv.uint64pow10") h
  have e : Rows.fnExactNumberSetRow.laid.filter (fun x => x.1 == "internal/strconv.uint64pow10") = [("internal/strconv.uint64pow10", Lib.tabData .u64 Lib.pow10Tab)] := by kernel_rfl
  rw [e] at h1
  have h2 := (laidMetH_iff.1 h1).1
  have e2 : ([("internal/strconv.uint64pow10", Lib.tabData .u64 Lib.pow10Tab)] : List (String × DataW Unit)).filter (fun x => x.2.handleName?.isNone) = [("internal/strconv.uint64pow10", Lib.tabData .u64 Lib.pow10Tab)] := by kernel_rfl
  rw [e2] at h2
  exact Lib.tabIs_of_head (g := 0) (t := 162) (e := 155) (n := 20) (by kernel_rfl) (by kernel_rfl) (by kernel_rfl) (by kernel_rfl) (by kernel_rfl) (by kernel_rfl) h2

theorem walk {W : World} (hL : laidMetH Tryd.prog Rows.fnExactNumberSetRow.laid W) {x0 : Value} {ns0 : List Int} {tl0 : Nat} (hu0 : Rd (heap0 W) tl0 (absV W x0) (ns0.map encI)) (hn0 : ns0.length ≤ 9223372036854775807) :
    Calls Tryd.prog 6 #[x0] W fun e W' => e = .returned (.bool true) ∧ Below W.heap.size W W' := by
  obtain ⟨v, H', hr, _, rfl⟩ := law_NumberSet (base := W.heap.size) ns0 (absV W x0) (heap0 W) hu0 hn0
  have hs := call_sound (LO := False) (w0 := W) (Γ := gam W.heap.size) (P := Tryd.prog) (sq := sq) (by kernel_rfl) sqOk (_root_.Go.Proofs.YtcnkhkmapgbodaaDoor.W.linked _) (tryd_ext (tab hL)) (itoaB_framed 118) _ _ _ _ _ hr
  have hargs : VRL W.heap.size (tie0 Tryd.prog W) [absV W x0] (#[x0] : Array Value).toList :=
    ⟨_, _, rfl, VR_absV _ W x0, rfl⟩
  refine Calls.mono (hs.2 _ W _ hargs (HR.start Tryd.prog W)) fun e W' he => ?_
  cases e with
  | returned v' =>
    obtain ⟨X', _, hv, hr'⟩ := he
    have hv : v' = .bool true := hv
    subst hv
    exact ⟨rfl, hr'.ext.os, hr'.ext.tape, hr'.ext.output, hr'.ext.size, hr'.ext.block⟩
  | panicked c => exact he.elim
  | outgrown => exact he.elim

noncomputable def put (h : Array Obj) (g : Nat) (cs : Array Value) : Array Obj := h.modify g fun
    | .cells _ t frozen => .cells cs t frozen
    | o => o
noncomputable def bytesOf {H : Type} : DataW H → List Value
  | .agg xs => go xs
  | .lit (.int k n) => [.int k n]
  | _ => []
where go : List (DataW H) → List Value
  | [] => []
  | x :: r => bytesOf x ++ go r
noncomputable def laidWorld (os : Os) : World :=
  let w0 := World.holding Tryd.prog os ⟨#[], #[], []⟩
  { w0 with heap := put (put (put (put (put w0.heap 1 (bytesOf Rows.laid_unicode_utf8_first).toArray) 2 (bytesOf (Rows.laid_unicode_utf8_acceptRanges (H := Unit))).toArray) 0 (bytesOf (Rows.laid_internal_strconv_uint64pow10 (H := Unit))).toArray) 4 (bytesOf (Rows.laid_math_bits_deBruijn32tab (H := Unit))).toArray) 5 (bytesOf (Rows.laid_math_bits_deBruijn64tab (H := Unit))).toArray }
theorem laid_met (os : Os) (args : Array Value) : laidMetH Tryd.prog Rows.fnExactNumberSetRow.laid ((laidWorld os).forCall (fun _ _ => 0) ⟨#[], args, []⟩).memory :=
  laidMetH_of_parts (laidMet_of_run' 8 (by kernel_rfl) (by kernel_rfl)) (by kernel_rfl)

set_option maxRecDepth 100000 in
theorem lifted (os : Os) (started : os.Started) (H : Type) (enc : TypeId × Value → H) :
    ReturnsInHanded {} Tryd.checked os 6 .any (fun w args => (Rows.fnExactNumberSetSpec.pre enc Tryd.prog Tryd.f6 Rows.fnExactNumberSetRow.domain false w args ∧ laidMetH Tryd.prog Rows.fnExactNumberSetRow.laid w) ∧ sizedMet enc Tryd.prog Tryd.f6 (OpenSpec.ofChange Rows.fnExactNumberSetSpec) false w args)
      (Rows.fnExactNumberSetSpec.post enc Tryd.prog Tryd.f6 false true false false) := by
  refine returnsInHanded_of_change_and (C := Tryd.checked) (X := fun w _ => laidMetH Tryd.prog Rows.fnExactNumberSetRow.laid w) (fun _ _ _ hh h => h.of_heap hh) own started (by kernel_rfl) Tryd.func6
    (ChangeSpec.witness_at (enc := enc) (C := Tryd.checked) (os := os) (X := fun w _ => laidMetH Tryd.prog Rows.fnExactNumberSetRow.laid w) false (laidWorld os) #[.slice none 0 0] 8 rfl (by kernel_rfl) (by kernel_rfl) (by kernel_rfl) (by kernel_rfl) (by kernel_rfl) (laid_met os _)) ?_
  intro W base args ds gs before hval0 hW hcnd _ hL _
  have hval : ∀ (j : Nat) t v, Tryd.f6.params[j]? = some t → args[j]? = some v → Value.okWide Tryd.prog W .any base t v := hval0
  have hW' := hW
  obtain ⟨p, q, hA0, hV, rfl, hfz, hnd⟩ := hW
  have hA : DataW.TrodAll enc Tryd.prog W 0 (fun _ => true) true Tryd.f6.params.toList args.toList ds p := hA0
  rw [Tryd.params6] at hA hval
  obtain ⟨v0, vs0, d0, ds0, p0, q0, hargs, rfl, rfl, h0, r0⟩ := trodAll_cons hA
  obtain ⟨rfl, rfl, rfl⟩ := trodAll_nil r0
  obtain rfl : args = #[v0] := by cases args; simp_all
  obtain ⟨rfl, rfl⟩ := trodVars_none hV
  have g0 := h0
  obtain ⟨ns0, tl0, hu0, hn0⟩ := open_list (hval 0 37 v0 rfl rfl) h0
  refine (walk hL hu0 hn0).mono fun e W' ⟨he, bel⟩ => ?_
  subst he
  exact ⟨_, rfl, _, _, _, [], _, [], hW', trodAll_mk1 (shut_bool u4 _), (trodAll_cons_mk (Below.trod (by kernel_rfl) (by kernel_rfl) (of_decide_eq_true (by kernel_rfl)) g0 bel (fun x hx => by obtain ⟨f, hf⟩ := g0; exact DataW.trod_lt f 37 _ _ hf x hx)) trodAll_mk0), rfl, bel.frame _, fun h => by cases h⟩
theorem over : Rows.fnExactNumberSetRow.holds Tryd.pinned (OpenSpec.ofChange Rows.fnExactNumberSetSpec) :=
  OpenClaim.holds_of_wide 6 Tryd.f6 rfl rfl rfl rfl rfl rfl rfl ⟨rfl, rfl, rfl, rfl, rfl⟩ rfl rfl rfl rfl rfl (by kernel_rfl) Tryd.func6 (by kernel_rfl)
    (of_decide_eq_true (by kernel_rfl)) (by unfold Func.isWrapper; first | (rw [if_pos (by decide +kernel)]; kernel_rfl) | (rw [if_neg (by decide +kernel)]; exact ⟨rfl, rfl⟩))
    (fun os started H enc _ => lifted os started H enc)
theorem carded : Rows.FnExactNumberSetCardSaid :=
  Claim7.holds_tied_plain_at .later [] [.data, .data, .data, .data, .pinned] true (true, "de25840f9e0307ec432536c99bcdbfa083d2bb9c0ed360cb0543523ed952a2cc") false
    over (fun _ h => by cases h) (by kernel_rfl) (fun _ h => by cases h) fnExactNumberSet_row_tie rfl ⟨rfl, rfl⟩ (by kernel_rfl) rfl
    (fun f fn hf hfn => by
      obtain rfl : f = 6 := Option.some.inj ((show Tryd.prog.funcNamed "loop.example/g01168/laws.FnExactNumberSet" = some 6 by kernel_rfl).symm.trans hf) |>.symm
      obtain rfl : fn = Tryd.f6 := (Option.some.inj (Tryd.func6.symm.trans hfn)).symm
      exact ⟨by kernel_rfl, fun j t ht => by
        rw [Tryd.params6] at ht
        have hm : t ∈ [37] := by simpa using Array.mem_of_getElem? ht
        have hall : ([37].all fun u => !Tryd.prog.wantsStandIn u) = true := by kernel_rfl
        exact (show Tryd.prog.wantsStandIn t = false by simpa using List.all_eq_true.1 hall t hm)⟩)
    (by kernel_rfl)
end Go.Proofs.YtcnkhkmapgbodaaDoor.fnExactNumberSet
namespace Go.Proofs.YtcnkhkmapgbodaaDoor
/-- The card, under a short name, for the claim. -/
theorem fnExactNumberSet_holds : Rows.FnExactNumberSetCardSaid := fnExactNumberSet.carded
#print axioms fnExactNumberSet_holds
end Go.Proofs.YtcnkhkmapgbodaaDoor
