/-
For all arguments the law FnExactPeriodOf returns true; the arguments read as they did. The card: what the program lays for the library's tables is tied to its text.
-/
import Derived.Test.YtbnmhbmhafbmiaaGreatDoorK8
import Derived.Test.YtbnmhbmhafbmiaaGreatDoorRows
import Derived.Test.YtbnmhbmhafbmiaaGreatDoorCards
import Derived.Test.YtbnmhbmhafbmiaaGreatDoorTie
import Derived.WalkKit
import Derived.ProofKit
import Derived.OpenShut
import Derived.ShutString
import Derived.ChangeOld
import Derived.Below
import Derived.SizedLaws
import Derived.Carry
import Derived.LaidLaws
import Derived.LaidHandle
import Derived.SevenTiedAt
import Derived.LaidSub
import Derived.Lib.LaidTab
import Derived.Test.YtbnmhbmhafbmiaaGreatDoorChecked
namespace Go.Proofs.YtbnmhbmhafbmiaaGreatDoor.fnExactPeriodOf
open Go.ChangeShapes Go.WideShapes Go.ChangeAt Go.RowKit
open Go.Proofs.YtbnmhbmhafbmiaaGreatDoor.W Go.B
open Go.ChangeMaps (open_string shut_string)
set_option linter.unusedVariables false
theorem own : ownKnob Tryz.prog.godebug = none := by kernel_rfl

theorem tab {W : World} (h : laidMetH Tryz.prog Rows.fnExactPeriodOfRow.laid W) : Lib.TabIs Tryz.prog W "internal/strconv.uint64pow10" .u64 Lib.pow10Tab := by
  have h1 := laidMetH.filter (fun x => x.1 == "internal/strconv.uint64pow10") h
  have e : Rows.fnExactPeriodOfRow.laid.filter (fun x => x.1 == "internal/strconv.uint64pow10") = [("internal/strconv.uint64pow10", Lib.tabData .u64 Lib.pow10Tab)] := by kernel_rfl
  rw [e] at h1
  have h2 := (laidMetH_iff.1 h1).1
  have e2 : ([("internal/strconv.uint64pow10", Lib.tabData .u64 Lib.pow10Tab)] : List (String × DataW Unit)).filter (fun x => x.2.handleName?.isNone) = [("internal/strconv.uint64pow10", Lib.tabData .u64 Lib.pow10Tab)] := by kernel_rfl
  rw [e2] at h2
  exact Lib.tabIs_of_head (g := 3) (t := 239) (e := 204) (n := 20) (by kernel_rfl) (by kernel_rfl) (by kernel_rfl) (by kernel_rfl) (by kernel_rfl) (by kernel_rfl) h2

theorem walk {W : World} (hL : laidMetH Tryz.prog Rows.fnExactPeriodOfRow.laid W) {T0 S0 : Int} {x0 y0 : Value} {bs0 : List Bool} {rows0 : List (List Int)} {tb0 tw0 : Nat} (hu0 : Rd (vD W) tb0 (yG W x0) (bs0.map aK)) (hv0 : RdQ (vD W) tw0 (yG W y0) _root_.Go.Proofs.YtbnmhbmhafbmiaaGreatDoor.W.encI rows0)
    (hn0 : bs0.length ≤ 9223372036854775807) (hm0 : rows0.length ≤ 9223372036854775807) (hr0 : ∀ xs ∈ rows0, xs.length ≤ 9223372036854775807) {n1 : Int} :
    Calls Tryz.prog 9 #[.agg #[.int .i64 T0, .int .i64 S0, x0, y0], .int .i64 n1] W fun e W' => e = .returned (.bool true) ∧ Below W.heap.size W W' := by
  obtain ⟨v, H', hr, _, rfl⟩ := aJ1 (aA := W.heap.size) T0 S0 bs0 rows0 n1 (.agg [.int .i64 T0, .int .i64 S0, yG W x0, yG W y0]) (vD W) ⟨_, _, _, _, rfl, hu0, hv0⟩ hn0 hm0 hr0
  have hs := zZ (LO := False) (w0 := W) (Γ := gam W.heap.size) (P := Tryz.prog) (sq := sq) (by kernel_rfl) sqOk (_root_.Go.Proofs.YtbnmhbmhafbmiaaGreatDoor.W.linked _) (tryz_ext (tab hL)) aM7 _ _ _ _ _ hr
  have hargs : VRL W.heap.size (tie0 Tryz.prog W) [.agg [.int .i64 T0, .int .i64 S0, yG W x0, yG W y0], .int .i64 n1] (#[.agg #[.int .i64 T0, .int .i64 S0, x0, y0], .int .i64 n1] : Array Value).toList :=
    ⟨_, _, rfl, ⟨_, rfl, _, _, rfl, rfl, _, _, rfl, rfl, _, _, rfl, aR9 _ W x0, _, _, rfl, aR9 _ W y0, rfl⟩, ⟨_, _, rfl, rfl, rfl⟩⟩
  refine Calls.mono (hs.2 _ W _ hargs (HR.start Tryz.prog W)) fun e W' he => ?_
  cases e with
  | returned v' =>
    obtain ⟨X', _, hv, hr'⟩ := he
    have hv : v' = .bool true := hv
    subst hv
    exact ⟨rfl, hr'.ext.os, hr'.ext.tape, hr'.ext.output, hr'.ext.size, hr'.ext.block⟩
  | panicked c => exact he.elim
  | outgrown => exact he.elim

noncomputable def put (h : Array Obj) (g : Nat) (cs : Array Value) : Array Obj := h.modify g fun
    | .cells _ t frozen => .cells cs t frozen
    | o => o
noncomputable def bytesOf {H : Type} : DataW H → List Value
  | .agg xs => go xs
  | .lit (.int k n) => [.int k n]
  | _ => []
where go : List (DataW H) → List Value
  | [] => []
  | x :: r => bytesOf x ++ go r
noncomputable def laidWorld (os : Os) : World :=
  let w0 := World.holding Tryz.prog os ⟨#[], #[], []⟩
  { w0 with heap := put (put (put w0.heap 3 (bytesOf (Rows.laid_internal_strconv_uint64pow10 (H := Unit))).toArray) 4 (bytesOf (Rows.laid_math_bits_deBruijn32tab (H := Unit))).toArray) 5 (bytesOf (Rows.laid_math_bits_deBruijn64tab (H := Unit))).toArray }
theorem laid_met (os : Os) (args : Array Value) : laidMetH Tryz.prog Rows.fnExactPeriodOfRow.laid ((laidWorld os).forCall (fun _ _ => 0) ⟨#[], args, []⟩).memory :=
  laidMetH_of_parts (laidMet_of_run' 8 (by kernel_rfl) (by kernel_rfl)) (by kernel_rfl)

set_option maxRecDepth 100000 in
theorem lifted (os : Os) (started : os.Started) (H : Type) (enc : TypeId × Value → H) :
    ReturnsInHanded {} Tryz.checked os 9 .any (fun w args => (Rows.fnExactPeriodOfSpec.pre enc Tryz.prog Tryz.f9 Rows.fnExactPeriodOfRow.domain false w args ∧ laidMetH Tryz.prog Rows.fnExactPeriodOfRow.laid w) ∧ sizedMet enc Tryz.prog Tryz.f9 (OpenSpec.ofChange Rows.fnExactPeriodOfSpec) false w args)
      (Rows.fnExactPeriodOfSpec.post enc Tryz.prog Tryz.f9 false true false false) := by
  refine returnsInHanded_of_change_and (C := Tryz.checked) (X := fun w _ => laidMetH Tryz.prog Rows.fnExactPeriodOfRow.laid w) (fun _ _ _ hh h => h.of_heap hh) own started (by kernel_rfl) Tryz.func9
    (ChangeSpec.witness_at (enc := enc) (C := Tryz.checked) (os := os) (X := fun w _ => laidMetH Tryz.prog Rows.fnExactPeriodOfRow.laid w) false (laidWorld os) #[.agg #[.int .i64 0, .int .i64 0, .slice none 0 0, .slice none 0 0], .int .i64 0] 8 rfl (by kernel_rfl) (by kernel_rfl) (by kernel_rfl) (by kernel_rfl) (by kernel_rfl) (laid_met os _)) ?_
  intro W aA args ds gs before hval0 hW hcnd _ hL _
  have hval : ∀ (j : Nat) t v, Tryz.f9.params[j]? = some t → args[j]? = some v → Value.okWide Tryz.prog W .any aA t v := hval0
  have hW' := hW
  obtain ⟨p, q, hA0, hV, rfl, hfz, hnd⟩ := hW
  have hA : DataW.TrodAll enc Tryz.prog W 0 (fun _ => true) true Tryz.f9.params.toList args.toList ds p := hA0
  rw [Tryz.params9] at hA hval
  obtain ⟨v0, vs0, d0, ds0, p0, q0, hargs, rfl, rfl, h0, r0⟩ := trodAll_cons hA
  obtain ⟨v1, vs1, d1, ds1, p1, q1, rfl, rfl, rfl, h1, r1⟩ := trodAll_cons r0
  obtain ⟨rfl, rfl, rfl⟩ := trodAll_nil r1
  obtain rfl : args = #[v0, v1] := by cases args; simp_all
  obtain ⟨rfl, rfl⟩ := trodVars_none hV
  have g0 := h0
  have g1 := h1
  obtain ⟨w0_0, w1_0, w2_0, w3_0, y0_0, y1_0, y2_0, y3_0, n_0, rfl, rfl, rfl, k0_0, k1_0, k2_0, k3_0⟩ := Joins.open_agg4 u25 (by kernel_rfl) (by kernel_rfl) (hval 0 49 v0 rfl rfl) h0
  obtain ⟨T0, e0_0, _, _⟩ := DataW.trod_int u2 k0_0
  simp at e0_0
  subst e0_0
  obtain ⟨S0, e1_0, _, _⟩ := DataW.trod_int u2 k1_0
  simp at e1_0
  subst e1_0
  obtain ⟨bs0, tb0, hu0, hn0⟩ := bA5 k2_0
  obtain ⟨rows0, tw0, hv0, hm0, hr0⟩ := open_rows k3_0
  obtain ⟨n1, rfl, rfl, rfl, wf1⟩ := Go.ChangeShapes.open_int u2 (hval 1 2 v1 rfl rfl) h1
  refine (walk hL hu0 hv0 hn0 hm0 hr0).mono fun e W' ⟨he, bel⟩ => ?_
  subst he
  exact ⟨_, rfl, _, _, _, [], _, [], hW', trodAll_mk1 (shut_bool u4 _), (trodAll_cons_mk (Below.trod (by kernel_rfl) (by kernel_rfl) (of_decide_eq_true (by kernel_rfl)) g0 bel (fun x hx => by obtain ⟨f, hf⟩ := g0; exact DataW.trod_lt f 49 _ _ hf x hx)) (trodAll_cons_mk (Below.trod (by kernel_rfl) (by kernel_rfl) (of_decide_eq_true (by kernel_rfl)) g1 bel (fun x hx => by obtain ⟨f, hf⟩ := g1; exact DataW.trod_lt f 2 _ _ hf x hx)) trodAll_mk0)), rfl, bel.frame _, fun h => by cases h⟩
theorem over : Rows.fnExactPeriodOfRow.holds Tryz.pinned (OpenSpec.ofChange Rows.fnExactPeriodOfSpec) :=
  OpenClaim.holds_of_wide 9 Tryz.f9 rfl rfl rfl rfl rfl rfl rfl ⟨rfl, rfl, rfl, rfl, rfl⟩ rfl rfl rfl rfl rfl (by kernel_rfl) Tryz.func9 (by kernel_rfl)
    (of_decide_eq_true (by kernel_rfl)) (by unfold Func.isWrapper; first | (rw [if_pos (by decide +kernel)]; kernel_rfl) | (rw [if_neg (by decide +kernel)]; exact ⟨rfl, rfl⟩))
    (fun os started H enc _ => lifted os started H enc)
theorem carded : Rows.FnExactPeriodOfCardSaid :=
  Claim7.holds_tied_plain_at .later [] [.data, .data, .data] true (true, "f4e18735d45aaa8667c18ed17d2c1c399444c1e4c6b817886e452d0708ae8ab5") false
    over (fun _ h => by cases h) (by kernel_rfl) (fun _ h => by cases h) fnExactPeriodOf_row_tie rfl ⟨rfl, rfl⟩ (by kernel_rfl) rfl
    (fun f fn hf hfn => by
      obtain rfl : f = 9 := Option.some.inj ((show Tryz.prog.funcNamed "loop.example/g01168/laws.FnExactPeriodOf" = some 9 by kernel_rfl).symm.trans hf) |>.symm
      obtain rfl : fn = Tryz.f9 := (Option.some.inj (Tryz.func9.symm.trans hfn)).symm
      exact ⟨by kernel_rfl, fun j t ht => by
        rw [Tryz.params9] at ht
        have hm : t ∈ [49, 2] := by simpa using Array.mem_of_getElem? ht
        have hall : ([49, 2].all fun u => !Tryz.prog.wantsStandIn u) = true := by kernel_rfl
        exact (show Tryz.prog.wantsStandIn t = false by simpa using List.all_eq_true.1 hall t hm)⟩)
    (by kernel_rfl)
end Go.Proofs.YtbnmhbmhafbmiaaGreatDoor.fnExactPeriodOf
namespace Go.Proofs.YtbnmhbmhafbmiaaGreatDoor
/-- The card, under a short name, for the claim. -/
theorem fnExactPeriodOf_holds : Rows.FnExactPeriodOfCardSaid := fnExactPeriodOf.carded
#print axioms fnExactPeriodOf_holds
end Go.Proofs.YtbnmhbmhafbmiaaGreatDoor
