/-
For every transducer the law FnExactIsBalanced returns true; the argument reads as it did.
-/
import Derived.Test.YtkmlmkbpdldjgaaRows
import Derived.Test.YtkmlmkbpdldjgaaW9
import Derived.Test.YtkmlmkbpdldjgaaW35
import Derived.WalkKit
import Derived.ProofKit
import Derived.OpenShut
import Derived.ShutString
import Derived.ChangeOld
import Derived.Below
import Derived.SizedLaws
import Derived.Carry
namespace Go.Proofs.Ytkmlmkbpdldjgaa.fnExactIsBalanced
set_option linter.unusedSimpArgs false
open Go.ChangeShapes Go.WideShapes Go.ChangeAt Go.RowKit
open Go.Proofs.Ytkmlmkbpdldjgaa.W Go.B
set_option linter.unusedVariables false
theorem own : ownKnob Try.prog.godebug = none := by kernel_rfl
def fs29 : Array Field := #[⟨"Start", 2, 0, false, "", "", 0⟩, ⟨"Accept", 26, 1, false, "", "", 8⟩, ⟨"Edges", 27, 2, false, "", "", 32⟩]
theorem u29 : Try.prog.underlying 29 = some (.struct fs29) := by kernel_rfl

theorem walk {W : World} {s : Int} {x y : Value} {bs : List Bool} {es : List E4} {ty tz : Nat} (hu : Sls (heap0 W) tz 1 (absV W x) (bs.map encB)) (hv : Sls (heap0 W) ty 4 (absV W y) (es.map E4.enc))
    (hn : bs.length ≤ 9223372036854775807) (hn' : es.length ≤ 9223372036854775807) (hz : ∀ e ∈ es, e.i.size ≤ 9223372036854775807 ∧ e.o.size ≤ 9223372036854775807) :
    Calls Try.prog 11 #[.agg #[.int .i64 s, x, y]] W fun e W' => e = .returned (.bool true) ∧ Below W.heap.size W W' := by
  obtain ⟨H', hr, _⟩ := c11 (base := W.heap.size) s bs es (absV W x) (absV W y) (heap0 W) hu hv hn hn' hz
  have hs := call_sound (LO := False) (w0 := W) (Γ := gam W.heap.size) (P := Try.prog) (sq := sq) (by kernel_rfl) sqOk (_root_.Go.Proofs.Ytkmlmkbpdldjgaa.W.linked _) (fun _ _ _ _ _ h => h.elim) (fun _ _ _ _ _ _ h => h.elim) _ _ _ _ _ hr
  have hargs : VRL W.heap.size (tie0 Try.prog W) [.agg [.int .i64 s, absV W x, absV W y]] (#[Value.agg #[.int .i64 s, x, y]] : Array Value).toList :=
    ⟨_, _, rfl, ⟨_, rfl, _, _, rfl, rfl, _, _, rfl, VR_absV _ W x, _, _, rfl, VR_absV _ W y, rfl⟩, rfl⟩
  refine Calls.mono (hs.2 _ W _ hargs (HR.start Try.prog W)) fun e W' he => ?_
  cases e with
  | returned v' =>
    obtain ⟨X', _, hv, hr'⟩ := he
    have hv : v' = .bool true := hv
    subst hv
    exact ⟨rfl, hr'.ext.os, hr'.ext.tape, hr'.ext.output, hr'.ext.size, hr'.ext.block⟩
  | panicked c => exact he.elim
  | outgrown => exact he.elim

set_option maxRecDepth 100000 in
theorem lifted (os : Os) (started : os.Started) (H : Type) (enc : TypeId × Value → H) :
    ReturnsInHanded {} Try.checked os 11 .any (Rows.fnExactIsBalancedSpec.pre6 enc Try.prog Try.f11 Rows.fnExactIsBalancedRow.domain false) (Rows.fnExactIsBalancedSpec.post enc Try.prog Try.f11 false true false false) := by
  refine returnsInHanded_of_change_sized (C := Try.checked) own started (by kernel_rfl) Try.func11
    (ChangeSpec.witness6 (enc := enc) (C := Try.checked) false ⟨#[], #[.agg #[.int .i64 0, .slice none 0 0, .slice none 0 0]], []⟩ 8 (by kernel_rfl) (by kernel_rfl) (by kernel_rfl) (by kernel_rfl)) ?_
  intro W base args ds gs before hval0 hW hcnd hsz0 _
  have hval : ∀ (j : Nat) t v, Try.f11.params[j]? = some t → args[j]? = some v → Value.okWide Try.prog W .any base t v := hval0
  have hW' := hW
  obtain ⟨p, q, hA0, hV, rfl, hfz, hnd⟩ := hW
  have hA : DataW.TrodAll enc Try.prog W 0 (fun _ => true) true Try.f11.params.toList args.toList ds p := hA0
  rw [Try.params11] at hA hval
  obtain ⟨v0, vs0, d0, ds0, p0, q0, hargs, rfl, rfl, h0, r0⟩ := trodAll_cons hA
  obtain ⟨rfl, rfl, rfl⟩ := trodAll_nil r0
  obtain rfl : args = #[v0] := by cases args; simp_all
  obtain ⟨rfl, rfl⟩ := trodVars_none hV
  have h0' := h0
  obtain ⟨w0, w1, w2, y0, y1, y2, n, rfl, rfl, rfl, k0, k1, k2⟩ := Joins.open_agg3 u29 (by kernel_rfl) (by kernel_rfl) (hval 0 29 v0 rfl rfl) h0
  obtain ⟨s, e0, _, _⟩ := DataW.trod_int u2 k0
  simp at e0
  subst e0
  obtain ⟨bs, tz, hu, hn⟩ := open_flags k1
  obtain ⟨es, ty, hv, hn', hz⟩ := open_edges k2
  refine (walk hu hv hn hn' hz).mono fun e W' ⟨he, bel⟩ => ?_
  subst he
  exact ⟨_, rfl, _, _, _, [], _, [], hW', trodAll_mk1 (shut_bool u4 _), (trodAll_cons_mk (Below.trod (by kernel_rfl) (by kernel_rfl) (of_decide_eq_true (by kernel_rfl)) h0' bel (fun x hx => by obtain ⟨f, hf⟩ := h0'; exact DataW.trod_lt f 29 _ _ hf x hx)) trodAll_mk0), rfl, bel.frame _, fun h => by cases h⟩
theorem over : Rows.fnExactIsBalancedRow.holds Try.pinned (OpenSpec.ofChange Rows.fnExactIsBalancedSpec) :=
  OpenClaim.holds_of_wide 11 Try.f11 rfl rfl rfl rfl rfl rfl rfl ⟨rfl, rfl, rfl, rfl, rfl⟩ rfl rfl rfl rfl rfl (by kernel_rfl) Try.func11 (by kernel_rfl)
    (of_decide_eq_true (by kernel_rfl)) (by unfold Func.isWrapper; first | (rw [if_pos (by decide +kernel)]; kernel_rfl) | (rw [if_neg (by decide +kernel)]; exact ⟨rfl, rfl⟩))
    (fun os started H enc _ => lifted os started H enc)
theorem proved : Rows.FnExactIsBalancedSaid := over
end Go.Proofs.Ytkmlmkbpdldjgaa.fnExactIsBalanced
namespace Go.Proofs.Ytkmlmkbpdldjgaa
/-- The row, under a short name, for the claim. -/
theorem fnExactIsBalanced_holds : Rows.FnExactIsBalancedSaid := fnExactIsBalanced.proved
#print axioms fnExactIsBalanced_holds
end Go.Proofs.Ytkmlmkbpdldjgaa
