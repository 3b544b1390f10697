/-
For all arguments the law FnExactArithmetic returns true; the arguments read as they did. The card: what the program lays for the library's tables is tied to its text.
-/
import Derived.Test.YtbnmhbmhafbmiaaGreatDoorK7
import Derived.Test.YtbnmhbmhafbmiaaGreatDoorRows
import Derived.Test.YtbnmhbmhafbmiaaGreatDoorCards
import Derived.Test.YtbnmhbmhafbmiaaGreatDoorTie
import Derived.WalkKit
import Derived.ProofKit
import Derived.OpenShut
import Derived.ShutString
import Derived.ChangeOld
import Derived.Below
import Derived.SizedLaws
import Derived.Carry
import Derived.LaidLaws
import Derived.LaidHandle
import Derived.SevenTiedAt
import Derived.LaidSub
import Derived.Lib.LaidTab
import Derived.Test.YtbnmhbmhafbmiaaGreatDoorChecked
namespace Go.Proofs.YtbnmhbmhafbmiaaGreatDoor.fnExactArithmetic
open Go.ChangeShapes Go.WideShapes Go.ChangeAt Go.RowKit
open Go.Proofs.YtbnmhbmhafbmiaaGreatDoor.W Go.B
open Go.ChangeMaps (open_string shut_string)
set_option linter.unusedVariables false
theorem own : ownKnob Tryz.prog.godebug = none := by kernel_rfl

theorem tab {W : World} (h : laidMetH Tryz.prog Rows.fnExactArithmeticRow.laid W) : Lib.TabIs Tryz.prog W "internal/strconv.uint64pow10" .u64 Lib.pow10Tab := by
  have h1 := laidMetH.filter (fun x => x.1 == "internal/strconv.uint64pow10") h
  have e : Rows.fnExactArithmeticRow.laid.filter (fun x => x.1 == "internal/strconv.uint64pow10") = [("internal/strconv.uint64pow10", Lib.tabData .u64 Lib.pow10Tab)] := by kernel_rfl
  rw [e] at h1
  have h2 := (laidMetH_iff.1 h1).1
  have e2 : ([("internal/strconv.uint64pow10", Lib.tabData .u64 Lib.pow10Tab)] : List (String × DataW Unit)).filter (fun x => x.2.handleName?.isNone) = [("internal/strconv.uint64pow10", Lib.tabData .u64 Lib.pow10Tab)] := by kernel_rfl
  rw [e2] at h2
  exact Lib.tabIs_of_head (g := 3) (t := 239) (e := 204) (n := 20) (by kernel_rfl) (by kernel_rfl) (by kernel_rfl) (by kernel_rfl) (by kernel_rfl) (by kernel_rfl) h2

theorem walk {W : World} (hL : laidMetH Tryz.prog Rows.fnExactArithmeticRow.laid W) :
    Calls Tryz.prog 3 #[] W fun e W' => e = .returned (.bool true) ∧ Below W.heap.size W W' := by
  obtain ⟨v, H', hr, _, rfl⟩ := law_Arithmetic (base := W.heap.size) (heap0 W)
  have hs := call_sound (LO := False) (w0 := W) (Γ := gam W.heap.size) (P := Tryz.prog) (sq := sq) (by kernel_rfl) sqOk (_root_.Go.Proofs.YtbnmhbmhafbmiaaGreatDoor.W.linked _) (tryz_ext (tab hL)) tryz_framed _ _ _ _ _ hr
  have hargs : VRL W.heap.size (tie0 Tryz.prog W) [] (#[] : Array Value).toList :=
    rfl
  refine Calls.mono (hs.2 _ W _ hargs (HR.start Tryz.prog W)) fun e W' he => ?_
  cases e with
  | returned v' =>
    obtain ⟨X', _, hv, hr'⟩ := he
    have hv : v' = .bool true := hv
    subst hv
    exact ⟨rfl, hr'.ext.os, hr'.ext.tape, hr'.ext.output, hr'.ext.size, hr'.ext.block⟩
  | panicked c => exact he.elim
  | outgrown => exact he.elim

noncomputable def put (h : Array Obj) (g : Nat) (cs : Array Value) : Array Obj := h.modify g fun
    | .cells _ t frozen => .cells cs t frozen
    | o => o
noncomputable def bytesOf {H : Type} : DataW H → List Value
  | .agg xs => go xs
  | .lit (.int k n) => [.int k n]
  | _ => []
where go : List (DataW H) → List Value
  | [] => []
  | x :: r => bytesOf x ++ go r
noncomputable def laidWorld (os : Os) : World :=
  let w0 := World.holding Tryz.prog os ⟨#[], #[], []⟩
  { w0 with heap := put (put (put w0.heap 3 (bytesOf (Rows.laid_internal_strconv_uint64pow10 (H := Unit))).toArray) 4 (bytesOf (Rows.laid_math_bits_deBruijn32tab (H := Unit))).toArray) 5 (bytesOf (Rows.laid_math_bits_deBruijn64tab (H := Unit))).toArray }
theorem laid_met (os : Os) (args : Array Value) : laidMetH Tryz.prog Rows.fnExactArithmeticRow.laid ((laidWorld os).forCall (fun _ _ => 0) ⟨#[], args, []⟩).memory :=
  laidMetH_of_parts (laidMet_of_run' 8 (by kernel_rfl) (by kernel_rfl)) (by kernel_rfl)

set_option maxRecDepth 100000 in
theorem lifted (os : Os) (started : os.Started) (H : Type) (enc : TypeId × Value → H) :
    ReturnsInHanded {} Tryz.checked os 3 .any (fun w args => (Rows.fnExactArithmeticSpec.pre enc Tryz.prog Tryz.f3 Rows.fnExactArithmeticRow.domain false w args ∧ laidMetH Tryz.prog Rows.fnExactArithmeticRow.laid w) ∧ sizedMet enc Tryz.prog Tryz.f3 (OpenSpec.ofChange Rows.fnExactArithmeticSpec) false w args)
      (Rows.fnExactArithmeticSpec.post enc Tryz.prog Tryz.f3 false true false false) := by
  refine returnsInHanded_of_change_and (C := Tryz.checked) (X := fun w _ => laidMetH Tryz.prog Rows.fnExactArithmeticRow.laid w) (fun _ _ _ hh h => h.of_heap hh) own started (by kernel_rfl) Tryz.func3
    (ChangeSpec.witness_at (enc := enc) (C := Tryz.checked) (os := os) (X := fun w _ => laidMetH Tryz.prog Rows.fnExactArithmeticRow.laid w) false (laidWorld os) #[] 8 rfl (by kernel_rfl) (by kernel_rfl) (by kernel_rfl) (by kernel_rfl) (by kernel_rfl) (laid_met os _)) ?_
  intro W base args ds gs before hval0 hW hcnd _ hL _
  have hval : ∀ (j : Nat) t v, Tryz.f3.params[j]? = some t → args[j]? = some v → Value.okWide Tryz.prog W .any base t v := hval0
  have hW' := hW
  obtain ⟨p, q, hA0, hV, rfl, hfz, hnd⟩ := hW
  have hA : DataW.TrodAll enc Tryz.prog W 0 (fun _ => true) true Tryz.f3.params.toList args.toList ds p := hA0
  rw [Tryz.params3] at hA hval
  obtain ⟨h1, rfl, rfl⟩ := trodAll_nil hA
  obtain rfl : args = #[] := by cases args; simp_all
  obtain ⟨rfl, rfl⟩ := trodVars_none hV
  refine (walk hL ).mono fun e W' ⟨he, bel⟩ => ?_
  subst he
  exact ⟨_, rfl, _, _, _, [], _, [], hW', trodAll_mk1 (shut_bool u4 _), trodAll_mk0, rfl, bel.frame _, fun h => by cases h⟩
theorem over : Rows.fnExactArithmeticRow.holds Tryz.pinned (OpenSpec.ofChange Rows.fnExactArithmeticSpec) :=
  OpenClaim.holds_of_wide 3 Tryz.f3 rfl rfl rfl rfl rfl rfl rfl ⟨rfl, rfl, rfl, rfl, rfl⟩ rfl rfl rfl rfl rfl (by kernel_rfl) Tryz.func3 (by kernel_rfl)
    (of_decide_eq_true (by kernel_rfl)) (by unfold Func.isWrapper; first | (rw [if_pos (by decide +kernel)]; kernel_rfl) | (rw [if_neg (by decide +kernel)]; exact ⟨rfl, rfl⟩))
    (fun os started H enc _ => lifted os started H enc)
theorem carded : Rows.FnExactArithmeticCardSaid :=
  Claim7.holds_tied_plain_at .later [] [.data, .data, .data] true (true, "f4e18735d45aaa8667c18ed17d2c1c399444c1e4c6b817886e452d0708ae8ab5") false
    over (fun _ h => by cases h) (by kernel_rfl) (fun _ h => by cases h) fnExactArithmetic_row_tie rfl ⟨rfl, rfl⟩ (by kernel_rfl) rfl
    (fun f fn hf hfn => by
      obtain rfl : f = 3 := Option.some.inj ((show Tryz.prog.funcNamed "loop.example/g01168/laws.FnExactArithmetic" = some 3 by kernel_rfl).symm.trans hf) |>.symm
      obtain rfl : fn = Tryz.f3 := (Option.some.inj (Tryz.func3.symm.trans hfn)).symm
      exact ⟨by kernel_rfl, fun j t ht => by
        rw [Tryz.params3] at ht
        simp at ht⟩)
    (by kernel_rfl)
end Go.Proofs.YtbnmhbmhafbmiaaGreatDoor.fnExactArithmetic
namespace Go.Proofs.YtbnmhbmhafbmiaaGreatDoor
/-- The card, under a short name, for the claim. -/
theorem fnExactArithmetic_holds : Rows.FnExactArithmeticCardSaid := fnExactArithmetic.carded
#print axioms fnExactArithmetic_holds
end Go.Proofs.YtbnmhbmhafbmiaaGreatDoor
