/-
For all arguments the law FnExactGreatestNumber returns true; the arguments read as they did. The card: what the program lays for the library's tables is tied to its text.
-/
import Derived.Test.YtbnmhbmhafbmiaaGreatDoorK6
import Derived.Test.YtbnmhbmhafbmiaaGreatDoorRows
import Derived.Test.YtbnmhbmhafbmiaaGreatDoorCards
import Derived.Test.YtbnmhbmhafbmiaaGreatDoorTie
import Derived.WalkKit
import Derived.ProofKit
import Derived.OpenShut
import Derived.ShutString
import Derived.ChangeOld
import Derived.Below
import Derived.SizedLaws
import Derived.Carry
import Derived.LaidLaws
import Derived.LaidHandle
import Derived.SevenTiedAt
import Derived.LaidSub
import Derived.Lib.LaidTab
import Derived.Test.YtbnmhbmhafbmiaaGreatDoorChecked
namespace Go.Proofs.YtbnmhbmhafbmiaaGreatDoor.fnExactGreatestNumber
open Go.ChangeShapes Go.WideShapes Go.ChangeAt Go.RowKit
open Go.Proofs.YtbnmhbmhafbmiaaGreatDoor.W Go.B
open Go.ChangeMaps (open_string shut_string)
set_option linter.unusedVariables false
theorem own : ownKnob Tryz.prog.godebug = none := by kernel_rfl

theorem tab {W : World} (h : laidMetH Tryz.prog Rows.fnExactGreatestNumberRow.laid W) : Lib.TabIs Tryz.prog W "internal/strconv.uint64pow10" .u64 Lib.pow10Tab := by
  have h1 := laidMetH.filter (fun x => x.1 == "internal/strconv.uint64pow10") h
  have e : Rows.fnExactGreatestNumberRow.laid.filter (fun x => x.1 == "internal/strconv.uint64pow10") = [("internal/strconv.uint64pow10", Lib.tabData .u64 Lib.pow10Tab)] := by kernel_rfl
  rw [e] at h1
  have h2 := (laidMetH_iff.1 h1).1
  have e2 : ([("internal/strconv.uint64pow10", Lib.tabData .u64 Lib.pow10Tab)] : List (String × DataW Unit)).filter (fun x => x.2.handleName?.isNone) = [("internal/strconv.uint64pow10", Lib.tabData .u64 Lib.pow10Tab)] := by kernel_rfl
  rw [e2] at h2
  exact Lib.tabIs_of_head (g := 3) (t := 239) (e := 204) (n := 20) (by kernel_rfl) (by kernel_rfl) (by kernel_rfl) (by kernel_rfl) (by kernel_rfl) (by kernel_rfl) h2

theorem walk {W : World} (hL : laidMetH Tryz.prog Rows.fnExactGreatestNumberRow.laid W) {T0 S0 : Int} {x0 y0 : Value} {bs0 : List Bool} {rows0 : List (List Int)} {tb0 tw0 : Nat} (hu0 : Rd (heap0 W) tb0 (absV W x0) (bs0.map encB)) (hv0 : RdQ (heap0 W) tw0 (absV W y0) _root_.Go.Proofs.YtbnmhbmhafbmiaaGreatDoor.W.encI rows0)
    (hn0 : bs0.length ≤ 9223372036854775807) (hm0 : rows0.length ≤ 9223372036854775807) (hr0 : ∀ xs ∈ rows0, xs.length ≤ 9223372036854775807) :
    Calls Tryz.prog 8 #[.agg #[.int .i64 T0, .int .i64 S0, x0, y0]] W fun e W' => e = .returned (.bool true) ∧ Below W.heap.size W W' := by
  obtain ⟨v, H', hr, _, rfl⟩ := law_GreatestNumber (base := W.heap.size) T0 S0 bs0 rows0 (.agg [.int .i64 T0, .int .i64 S0, absV W x0, absV W y0]) (heap0 W) ⟨_, _, _, _, rfl, hu0, hv0⟩ hn0 hm0 hr0
  have hs := call_sound (LO := False) (w0 := W) (Γ := gam W.heap.size) (P := Tryz.prog) (sq := sq) (by kernel_rfl) sqOk (_root_.Go.Proofs.YtbnmhbmhafbmiaaGreatDoor.W.linked _) (tryz_ext (tab hL)) tryz_framed _ _ _ _ _ hr
  have hargs : VRL W.heap.size (tie0 Tryz.prog W) [.agg [.int .i64 T0, .int .i64 S0, absV W x0, absV W y0]] (#[.agg #[.int .i64 T0, .int .i64 S0, x0, y0]] : Array Value).toList :=
    ⟨_, _, rfl, ⟨_, rfl, _, _, rfl, rfl, _, _, rfl, rfl, _, _, rfl, VR_absV _ W x0, _, _, rfl, VR_absV _ W y0, rfl⟩, rfl⟩
  refine Calls.mono (hs.2 _ W _ hargs (HR.start Tryz.prog W)) fun e W' he => ?_
  cases e with
  | returned v' =>
    obtain ⟨X', _, hv, hr'⟩ := he
    have hv : v' = .bool true := hv
    subst hv
    exact ⟨rfl, hr'.ext.os, hr'.ext.tape, hr'.ext.output, hr'.ext.size, hr'.ext.block⟩
  | panicked c => exact he.elim
  | outgrown => exact he.elim

noncomputable def put (h : Array Obj) (g : Nat) (cs : Array Value) : Array Obj := h.modify g fun
    | .cells _ t frozen => .cells cs t frozen
    | o => o
noncomputable def bytesOf {H : Type} : DataW H → List Value
  | .agg xs => go xs
  | .lit (.int k n) => [.int k n]
  | _ => []
where go : List (DataW H) → List Value
  | [] => []
  | x :: r => bytesOf x ++ go r
noncomputable def laidWorld (os : Os) : World :=
  let w0 := World.holding Tryz.prog os ⟨#[], #[], []⟩
  { w0 with heap := put (put (put w0.heap 3 (bytesOf (Rows.laid_internal_strconv_uint64pow10 (H := Unit))).toArray) 4 (bytesOf (Rows.laid_math_bits_deBruijn32tab (H := Unit))).toArray) 5 (bytesOf (Rows.laid_math_bits_deBruijn64tab (H := Unit))).toArray }
theorem laid_met (os : Os) (args : Array Value) : laidMetH Tryz.prog Rows.fnExactGreatestNumberRow.laid ((laidWorld os).forCall (fun _ _ => 0) ⟨#[], args, []⟩).memory :=
  laidMetH_of_parts (laidMet_of_run' 8 (by kernel_rfl) (by kernel_rfl)) (by kernel_rfl)

set_option maxRecDepth 100000 in
theorem lifted (os : Os) (started : os.Started) (H : Type) (enc : TypeId × Value → H) :
    ReturnsInHanded {} Tryz.checked os 8 .any (fun w args => (Rows.fnExactGreatestNumberSpec.pre enc Tryz.prog Tryz.f8 Rows.fnExactGreatestNumberRow.domain false w args ∧ laidMetH Tryz.prog Rows.fnExactGreatestNumberRow.laid w) ∧ sizedMet enc Tryz.prog Tryz.f8 (OpenSpec.ofChange Rows.fnExactGreatestNumberSpec) false w args)
      (Rows.fnExactGreatestNumberSpec.post enc Tryz.prog Tryz.f8 false true false false) := by
  refine returnsInHanded_of_change_and (C := Tryz.checked) (X := fun w _ => laidMetH Tryz.prog Rows.fnExactGreatestNumberRow.laid w) (fun _ _ _ hh h => h.of_heap hh) own started (by kernel_rfl) Tryz.func8
    (ChangeSpec.witness_at (enc := enc) (C := Tryz.checked) (os := os) (X := fun w _ => laidMetH Tryz.prog Rows.fnExactGreatestNumberRow.laid w) false (laidWorld os) #[.agg #[.int .i64 0, .int .i64 0, .slice none 0 0, .slice none 0 0]] 8 rfl (by kernel_rfl) (by kernel_rfl) (by kernel_rfl) (by kernel_rfl) (by kernel_rfl) (laid_met os _)) ?_
  intro W base args ds gs before hval0 hW hcnd _ hL _
  have hval : ∀ (j : Nat) t v, Tryz.f8.params[j]? = some t → args[j]? = some v → Value.okWide Tryz.prog W .any base t v := hval0
  have hW' := hW
  obtain ⟨p, q, hA0, hV, rfl, hfz, hnd⟩ := hW
  have hA : DataW.TrodAll enc Tryz.prog W 0 (fun _ => true) true Tryz.f8.params.toList args.toList ds p := hA0
  rw [Tryz.params8] at hA hval
  obtain ⟨v0, vs0, d0, ds0, p0, q0, hargs, rfl, rfl, h0, r0⟩ := trodAll_cons hA
  obtain ⟨rfl, rfl, rfl⟩ := trodAll_nil r0
  obtain rfl : args = #[v0] := by cases args; simp_all
  obtain ⟨rfl, rfl⟩ := trodVars_none hV
  have g0 := h0
  obtain ⟨w0_0, w1_0, w2_0, w3_0, y0_0, y1_0, y2_0, y3_0, n_0, rfl, rfl, rfl, k0_0, k1_0, k2_0, k3_0⟩ := Joins.open_agg4 u25 (by kernel_rfl) (by kernel_rfl) (hval 0 49 v0 rfl rfl) h0
  obtain ⟨T0, e0_0, _, _⟩ := DataW.trod_int u2 k0_0
  simp at e0_0
  subst e0_0
  obtain ⟨S0, e1_0, _, _⟩ := DataW.trod_int u2 k1_0
  simp at e1_0
  subst e1_0
  obtain ⟨bs0, tb0, hu0, hn0⟩ := open_flags k2_0
  obtain ⟨rows0, tw0, hv0, hm0, hr0⟩ := open_rows k3_0
  refine (walk hL hu0 hv0 hn0 hm0 hr0).mono fun e W' ⟨he, bel⟩ => ?_
  subst he
  exact ⟨_, rfl, _, _, _, [], _, [], hW', trodAll_mk1 (shut_bool u4 _), (trodAll_cons_mk (Below.trod (by kernel_rfl) (by kernel_rfl) (of_decide_eq_true (by kernel_rfl)) g0 bel (fun x hx => by obtain ⟨f, hf⟩ := g0; exact DataW.trod_lt f 49 _ _ hf x hx)) trodAll_mk0), rfl, bel.frame _, fun h => by cases h⟩
theorem over : Rows.fnExactGreatestNumberRow.holds Tryz.pinned (OpenSpec.ofChange Rows.fnExactGreatestNumberSpec) :=
  OpenClaim.holds_of_wide 8 Tryz.f8 rfl rfl rfl rfl rfl rfl rfl ⟨rfl, rfl, rfl, rfl, rfl⟩ rfl rfl rfl rfl rfl (by kernel_rfl) Tryz.func8 (by kernel_rfl)
    (of_decide_eq_true (by kernel_rfl)) (by unfold Func.isWrapper; first | (rw [if_pos (by decide +kernel)]; kernel_rfl) | (rw [if_neg (by decide +kernel)]; exact ⟨rfl, rfl⟩))
    (fun os started H enc _ => lifted os started H enc)
theorem carded : Rows.FnExactGreatestNumberCardSaid :=
  Claim7.holds_tied_plain_at .later [] [.data, .data, .data] true (true, "f4e18735d45aaa8667c18ed17d2c1c399444c1e4c6b817886e452d0708ae8ab5") false
    over (fun _ h => by cases h) (by kernel_rfl) (fun _ h => by cases h) fnExactGreatestNumber_row_tie rfl ⟨rfl, rfl⟩ (by kernel_rfl) rfl
    (fun f fn hf hfn => by
      obtain rfl : f = 8 := Option.some.inj ((show Tryz.prog.funcNamed "loop.example/g01168/laws.FnExactGreatestNumber" = some 8 by kernel_rfl).symm.trans hf) |>.symm
      obtain rfl : fn = Tryz.f8 := (Option.some.inj (Tryz.func8.symm.trans hfn)).symm
      exact ⟨by kernel_rfl, fun j t ht => by
        rw [Tryz.params8] at ht
        have hm : t ∈ [49] := by simpa using Array.mem_of_getElem? ht
        have hall : ([49].all fun u => !Tryz.prog.wantsStandIn u) = true := by kernel_rfl
        exact (show Tryz.prog.wantsStandIn t = false by simpa using List.all_eq_true.1 hall t hm)⟩)
    (by kernel_rfl)
end Go.Proofs.YtbnmhbmhafbmiaaGreatDoor.fnExactGreatestNumber
namespace Go.Proofs.YtbnmhbmhafbmiaaGreatDoor
/-- The card, under a short name, for the claim. -/
theorem fnExactGreatestNumber_holds : Rows.FnExactGreatestNumberCardSaid := fnExactGreatestNumber.carded
#print axioms fnExactGreatestNumber_holds
end Go.Proofs.YtbnmhbmhafbmiaaGreatDoor
