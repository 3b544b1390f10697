/-
The law FnExactNumberDomain returns true. The card.
-/
import Derived.Test.YtkgjipjkffjlhaaDoorRows
import Derived.Test.YtkgjipjkffjlhaaDoorCards
import Derived.Test.YtkgjipjkffjlhaaDoorTie
import Derived.Test.YtkgjipjkffjlhaaDoorB24
import Derived.Test.YtkgjipjkffjlhaaDoorIr
import Derived.WalkKit
import Derived.ProofKit
import Derived.OpenShut
import Derived.ShutString
import Derived.ChangeOld
import Derived.Below
import Derived.SizedLaws
import Derived.Carry
import Derived.LaidLaws
import Derived.LaidHandle
import Derived.SevenTiedAt
namespace Go.Proofs.YtkgjipjkffjlhaaDoor.fnExactNumberDomain
open Go.ChangeShapes Go.WideShapes Go.ChangeAt Go.RowKit
open Go.Proofs.YtkgjipjkffjlhaaDoor.W Go.B
set_option linter.unusedVariables false
theorem own : ownKnob Tryd.prog.godebug = none := by kernel_rfl

set_option maxRecDepth 100000 in
/-- What the machine comes to. -/
theorem comes : ((evF (gam 0).fn 1000 40 3 [] EH.none).map (fun r => match r.1 with | .bool c => c == true | _ => false)) = some true := by kernel_rfl

theorem walk {W : World} : Calls Tryd.prog 3 #[] W fun e W' => e = .returned (.bool true) ∧ Below W.heap.size W W' := by
  obtain ⟨H', hr⟩ := runs_ev (Γ := gam 0) rfl comes
  have hs := call_sound (LO := False) (w0 := W) (Γ := gam 0) (P := Tryd.prog) (sq := sq) (by kernel_rfl) sqOk (_root_.Go.Proofs.YtkgjipjkffjlhaaDoor.W.linked _) (fun _ _ _ _ _ h => h.elim) (fun _ _ _ _ _ _ h => h.elim) _ _ _ _ _ hr
  have hargs : VRL 0 Tie.none [] (#[] : Array Value).toList := rfl
  refine Calls.mono (hs.2 _ W _ hargs (HR.none Tryd.prog W)) fun e W' he => ?_
  cases e with
  | returned v' =>
    obtain ⟨X', _, hv, hr'⟩ := he
    have hv : v' = .bool true := hv
    subst hv
    exact ⟨rfl, hr'.ext.os, hr'.ext.tape, hr'.ext.output, hr'.ext.size, hr'.ext.block⟩
  | panicked c => exact he.elim
  | outgrown => exact he.elim

noncomputable def put (h : Array Obj) (g : Nat) (cs : Array Value) : Array Obj := h.modify g fun
    | .cells _ t frozen => .cells cs t frozen
    | o => o
noncomputable def bytesOf {H : Type} : DataW H → List Value
  | .agg xs => go xs
  | .lit (.int k n) => [.int k n]
  | _ => []
where go : List (DataW H) → List Value
  | [] => []
  | x :: r => bytesOf x ++ go r
noncomputable def laidWorld (os : Os) : World :=
  let w0 := World.holding Tryd.prog os ⟨#[], #[], []⟩
  { w0 with heap := put (put (put w0.heap 0 (bytesOf (Rows.laid_internal_strconv_uint64pow10 (H := Unit))).toArray) 1 (bytesOf (Rows.laid_math_bits_deBruijn32tab (H := Unit))).toArray) 2 (bytesOf (Rows.laid_math_bits_deBruijn64tab (H := Unit))).toArray }
theorem laid_met (os : Os) (args : Array Value) : laidMetH Tryd.prog Rows.fnExactNumberDomainRow.laid ((laidWorld os).forCall (fun _ _ => 0) ⟨#[], args, []⟩).memory :=
  laidMetH_of_parts (laidMet_of_run' 8 (by kernel_rfl) (by kernel_rfl)) (by kernel_rfl)

set_option maxRecDepth 100000 in
theorem lifted (os : Os) (started : os.Started) (H : Type) (enc : TypeId × Value → H) :
    ReturnsInHanded {} Tryd.checked os 3 .any (fun w args => (Rows.fnExactNumberDomainSpec.pre enc Tryd.prog Tryd.f3 Rows.fnExactNumberDomainRow.domain false w args ∧ laidMetH Tryd.prog Rows.fnExactNumberDomainRow.laid w) ∧ sizedMet enc Tryd.prog Tryd.f3 (OpenSpec.ofChange Rows.fnExactNumberDomainSpec) false w args)
      (Rows.fnExactNumberDomainSpec.post enc Tryd.prog Tryd.f3 false true false false) := by
  refine returnsInHanded_of_change_and (C := Tryd.checked) (X := fun w _ => laidMetH Tryd.prog Rows.fnExactNumberDomainRow.laid w) (fun _ _ _ hh h => h.of_heap hh) own started (by kernel_rfl) Tryd.func3
    (ChangeSpec.witness_at (enc := enc) (C := Tryd.checked) (os := os) (X := fun w _ => laidMetH Tryd.prog Rows.fnExactNumberDomainRow.laid w) false (laidWorld os) #[] 8 rfl (by kernel_rfl) (by kernel_rfl) (by kernel_rfl) (by kernel_rfl) (by kernel_rfl) (laid_met os _)) ?_
  intro W base args ds gs before hval0 hW hcnd _ hL _
  have hW' := hW
  obtain ⟨p, q, hA0, hV, rfl, hfz, hnd⟩ := hW
  have hA : DataW.TrodAll enc Tryd.prog W 0 (fun _ => true) true Tryd.f3.params.toList args.toList ds p := hA0
  rw [Tryd.params3] at hA
  obtain ⟨h1, rfl, rfl⟩ := trodAll_nil hA
  obtain rfl : args = #[] := by cases args; simp_all
  obtain ⟨rfl, rfl⟩ := trodVars_none hV
  refine walk.mono fun e W' ⟨he, bel⟩ => ?_
  subst he
  refine ⟨_, rfl, _, _, _, [], [], [], hW', ?_, ?_, ?_, bel.frame _, fun h => by cases h⟩
  · exact trodAll_mk1 (shut_bool Tryd.underlying4 _)
  · exact trodAll_mk0
  · rfl
theorem over : Rows.fnExactNumberDomainRow.holds Tryd.pinned (OpenSpec.ofChange Rows.fnExactNumberDomainSpec) :=
  OpenClaim.holds_of_wide 3 Tryd.f3 rfl rfl rfl rfl rfl rfl rfl ⟨rfl, rfl, rfl, rfl, rfl⟩ rfl rfl rfl rfl rfl (by kernel_rfl) Tryd.func3 (by kernel_rfl)
    (of_decide_eq_true (by kernel_rfl)) (by unfold Func.isWrapper; first | (rw [if_pos (by decide +kernel)]; kernel_rfl) | (rw [if_neg (by decide +kernel)]; exact ⟨rfl, rfl⟩))
    (fun os started H enc _ => lifted os started H enc)
theorem carded : Rows.FnExactNumberDomainCardSaid :=
  Claim7.holds_tied_plain_at .later [] [.data, .data, .data] true (true, "be2145987024c3ddd3bfaf1e15e77cf9b3f0698a7ebc9208e83bf6dddf9b3083") false
    over (fun _ h => by cases h) (by kernel_rfl) (fun _ h => by cases h) fnExactNumberDomain_row_tie rfl ⟨rfl, rfl⟩ (by kernel_rfl) rfl
    (fun f fn hf hfn => by
      obtain rfl : f = 3 := Option.some.inj ((show Tryd.prog.funcNamed "loop.example/g01168/laws.FnExactNumberDomain" = some 3 by kernel_rfl).symm.trans hf) |>.symm
      obtain rfl : fn = Tryd.f3 := (Option.some.inj (Tryd.func3.symm.trans hfn)).symm
      exact ⟨by kernel_rfl, fun j t ht => by
        rw [Tryd.params3] at ht
        simp at ht⟩)
    (by kernel_rfl)
end Go.Proofs.YtkgjipjkffjlhaaDoor.fnExactNumberDomain
namespace Go.Proofs.YtkgjipjkffjlhaaDoor
/-- The card, under a short name, for the claim. -/
theorem fnExactNumberDomain_holds : Rows.FnExactNumberDomainCardSaid := fnExactNumberDomain.carded
#print axioms fnExactNumberDomain_holds
end Go.Proofs.YtkgjipjkffjlhaaDoor
