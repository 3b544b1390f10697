/-
For every string the law FnExactWordNumber returns true; the argument reads as it did. The card.
-/
import Derived.Test.YtkmlmkbpdldjgaaDoorRows
import Derived.Test.YtkmlmkbpdldjgaaDoorCards
import Derived.Test.YtkmlmkbpdldjgaaDoorTie
import Derived.Test.YtkmlmkbpdldjgaaDoorW3
import Derived.Test.YtkmlmkbpdldjgaaDoorB20
import Derived.WalkKit
import Derived.ProofKit
import Derived.OpenShut
import Derived.ShutString
import Derived.ChangeOld
import Derived.Below
import Derived.SizedLaws
import Derived.Carry
import Derived.LaidLaws
import Derived.LaidHandle
import Derived.SevenTiedAt
namespace Go.Proofs.YtkmlmkbpdldjgaaDoor.fnExactWordNumber
open Go.ChangeShapes Go.WideShapes Go.ChangeAt Go.RowKit
open Go.Proofs.YtkmlmkbpdldjgaaDoor.W Go.B
open Go.ChangeMaps (open_string shut_string)
set_option linter.unusedVariables false
theorem own : ownKnob Tryd.prog.godebug = none := by kernel_rfl

theorem walk {W : World} {s : ByteArray} (hs : s.size ≤ 9223372036854775807) :
    Calls Tryd.prog 3 #[.string s] W fun e W' => e = .returned (.bool true) ∧ Below W.heap.size W W' := by
  obtain ⟨H', hr, _⟩ := c3 (base := W.heap.size) s (heap0 W) hs
  have hs := call_sound (LO := False) (w0 := W) (Γ := gam W.heap.size) (P := Tryd.prog) (sq := sq) (by kernel_rfl) sqOk (_root_.Go.Proofs.YtkmlmkbpdldjgaaDoor.W.linked _) (fun _ _ _ _ _ h => h.elim) (fun _ _ _ _ _ _ h => h.elim) _ _ _ _ _ hr
  have hargs : VRL W.heap.size (tie0 Tryd.prog W) [.str s] (#[Value.string s] : Array Value).toList := ⟨_, _, rfl, VR_absV _ W (.string s), rfl⟩
  refine Calls.mono (hs.2 _ W _ hargs (HR.start Tryd.prog W)) fun e W' he => ?_
  cases e with
  | returned v' =>
    obtain ⟨X', _, hv, hr'⟩ := he
    have hv : v' = .bool true := hv
    subst hv
    exact ⟨rfl, hr'.ext.os, hr'.ext.tape, hr'.ext.output, hr'.ext.size, hr'.ext.block⟩
  | panicked c => exact he.elim
  | outgrown => exact he.elim

noncomputable def put (h : Array Obj) (g : Nat) (cs : Array Value) : Array Obj := h.modify g fun
    | .cells _ t frozen => .cells cs t frozen
    | o => o
noncomputable def bytesOf {H : Type} : DataW H → List Value
  | .agg xs => go xs
  | .lit (.int k n) => [.int k n]
  | _ => []
where go : List (DataW H) → List Value
  | [] => []
  | x :: r => bytesOf x ++ go r
noncomputable def laidWorld (os : Os) : World :=
  let w0 := World.holding Tryd.prog os ⟨#[], #[], []⟩
  { w0 with heap := put (put w0.heap 1 (bytesOf (Rows.laid_unicode_utf8_acceptRanges (H := Unit))).toArray) 0 (bytesOf Rows.laid_unicode_utf8_first).toArray }
theorem laid_met (os : Os) (args : Array Value) : laidMetH Tryd.prog Rows.fnExactWordNumberRow.laid ((laidWorld os).forCall (fun _ _ => 0) ⟨#[], args, []⟩).memory :=
  laidMetH_of_parts (laidMet_of_run' 8 (by kernel_rfl) (by kernel_rfl)) (by kernel_rfl)

set_option maxRecDepth 100000 in
theorem lifted (os : Os) (started : os.Started) (H : Type) (enc : TypeId × Value → H) :
    ReturnsInHanded {} Tryd.checked os 3 .any (fun w args => (Rows.fnExactWordNumberSpec.pre enc Tryd.prog Tryd.f3 Rows.fnExactWordNumberRow.domain false w args ∧ laidMetH Tryd.prog Rows.fnExactWordNumberRow.laid w) ∧ sizedMet enc Tryd.prog Tryd.f3 (OpenSpec.ofChange Rows.fnExactWordNumberSpec) false w args)
      (Rows.fnExactWordNumberSpec.post enc Tryd.prog Tryd.f3 false true false false) := by
  refine returnsInHanded_of_change_and (C := Tryd.checked) (X := fun w _ => laidMetH Tryd.prog Rows.fnExactWordNumberRow.laid w) (fun _ _ _ hh h => h.of_heap hh) own started (by kernel_rfl) Tryd.func3
    (ChangeSpec.witness_at (enc := enc) (C := Tryd.checked) (os := os) (X := fun w _ => laidMetH Tryd.prog Rows.fnExactWordNumberRow.laid w) false (laidWorld os) #[.string ⟨#[]⟩] 8 rfl (by kernel_rfl) (by kernel_rfl) (by kernel_rfl) (by kernel_rfl) (by kernel_rfl) (laid_met os _)) ?_
  intro W base args ds gs before hval0 hW hcnd _ hL _
  have hval : ∀ (j : Nat) t v, Tryd.f3.params[j]? = some t → args[j]? = some v → Value.okWide Tryd.prog W .any base t v := hval0
  have hW' := hW
  obtain ⟨p, q, hA0, hV, rfl, hfz, hnd⟩ := hW
  have hA : DataW.TrodAll enc Tryd.prog W 0 (fun _ => true) true Tryd.f3.params.toList args.toList ds p := hA0
  rw [Tryd.params3] at hA hval
  obtain ⟨v0, d0, rfl, rfl, h0⟩ := trodAll_one hA
  obtain ⟨rfl, rfl⟩ := trodVars_none hV
  obtain ⟨s, rfl, rfl, rfl, ws⟩ := open_string Tryd.underlying9 (hval 0 9 v0 rfl rfl) h0
  refine (walk (by unfold maxLen at ws; omega)).mono fun e W' ⟨he, bel⟩ => ?_
  subst he
  refine ⟨_, rfl, _, _, _, [], [], [], hW', ?_, ?_, ?_, bel.frame _, fun h => by cases h⟩
  · exact trodAll_mk1 (shut_bool Tryd.underlying4 _)
  · exact trodAll_mk1 (shut_string Tryd.underlying9 ws)
  · rfl
theorem over : Rows.fnExactWordNumberRow.holds Tryd.pinned (OpenSpec.ofChange Rows.fnExactWordNumberSpec) :=
  OpenClaim.holds_of_wide 3 Tryd.f3 rfl rfl rfl rfl rfl rfl rfl ⟨rfl, rfl, rfl, rfl, rfl⟩ rfl rfl rfl rfl rfl (by kernel_rfl) Tryd.func3 (by kernel_rfl)
    (of_decide_eq_true (by kernel_rfl)) (by unfold Func.isWrapper; first | (rw [if_pos (by decide +kernel)]; kernel_rfl) | (rw [if_neg (by decide +kernel)]; exact ⟨rfl, rfl⟩))
    (fun os started H enc _ => lifted os started H enc)
theorem carded : Rows.FnExactWordNumberCardSaid :=
  Claim7.holds_tied_plain_at .later [] [.data, .pinned] true (true, "e8e8a5ae5cb5009db3ade32bfe6a71a8b916c422845ce4db6c9abb637ec8a410") false
    over (fun _ h => by cases h) (by kernel_rfl) (fun _ h => by cases h) fnExactWordNumber_row_tie rfl ⟨rfl, rfl⟩ (by kernel_rfl) rfl
    (fun f fn hf hfn => by
      obtain rfl : f = 3 := Option.some.inj ((show Tryd.prog.funcNamed "loop.example/g01168/laws.FnExactWordNumber" = some 3 by kernel_rfl).symm.trans hf) |>.symm
      obtain rfl : fn = Tryd.f3 := (Option.some.inj (Tryd.func3.symm.trans hfn)).symm
      exact ⟨by kernel_rfl, fun j t ht => by
        rw [Tryd.params3] at ht
        have hm : t ∈ [9] := by simpa using Array.mem_of_getElem? ht
        have hall : ([9].all fun u => !Tryd.prog.wantsStandIn u) = true := by kernel_rfl
        exact (show Tryd.prog.wantsStandIn t = false by simpa using List.all_eq_true.1 hall t hm)⟩)
    (by kernel_rfl)
end Go.Proofs.YtkmlmkbpdldjgaaDoor.fnExactWordNumber
namespace Go.Proofs.YtkmlmkbpdldjgaaDoor
/-- The card, under a short name, for the claim. -/
theorem fnExactWordNumber_holds : Rows.FnExactWordNumberCardSaid := fnExactWordNumber.carded
#print axioms fnExactWordNumber_holds
end Go.Proofs.YtkmlmkbpdldjgaaDoor
