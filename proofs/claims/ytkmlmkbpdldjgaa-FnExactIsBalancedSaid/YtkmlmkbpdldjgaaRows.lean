/-
  No cell of these rows narrows 'for every input' (looked for: loops, veiled, ifaces, maps, wideKeys, modest, calm, conditions, laid).
  DERIVED. THE GIVEN ROWS OF THIS SEAT. 11 by the template 'for every input the law returns true; each argument reads behind the call as it read before'; 0 by the template 'total and deterministic' (their statements: YtkmlmkbpdldjgaaTotals.lean).
  GIVEN WITH THE SEED: the statements are not yours to turn. If you find one false, say at which input.
  Laid BY PROGRAM, IN A SANDBOX (cutbox-rows.mjs): the forced cells as the released guide's own fill.sh prints them over the translation 119239bec66bb19c… (all of the seat's roots in one cut). By AI agents, Wed Nov 11 2026. No macro, syntax, notation, axiom, sorry.
-/
import Derived.Test.YtkmlmkbpdldjgaaChecked
import GoSem.Claim
import GoSem.ClaimJoined
import GoSem.ClaimMapViews
import Derived.JoinedTies
import Derived.KernelRfl
namespace Go.Proofs.Ytkmlmkbpdldjgaa
/- THE CELL 'sum', in the pinned program and in every row, IS THE sha256 OF THE DUMP (.gsa) THAT YtkmlmkbpdldjgaaProg.lean LOADS. Nothing in Lean hashes anything: it is a label: what it is worth is what the hold of that sum in a sandbox is worth. -/
noncomputable def Try.pinned : Pinned := { name := "ytkmlmkbpdldjgaa", sum := "119239bec66bb19ca0ba4e61f0dd60815280d41d62467efeb72da2e30a21d834", checked := Try.checked }
namespace Rows
def none {H : Type} : Left H := { results := [], args := [] }

/-- 'laws.FnExactPropertyText': WHATEVER THE INPUT: true; the input reads as it did. -/
def fnExactPropertyTextSpec : ChangeSpec := { name := "fnExactPropertyText", fn := fun _ => fun
  | [d] => { results := [.lit (.bool true)], args := [d] }
  | _ => none }
def fnExactPropertyTextRow : OpenClaim := { program := "ytkmlmkbpdldjgaa", sum := "119239bec66bb19ca0ba4e61f0dd60815280d41d62467efeb72da2e30a21d834", func := "loop.example/g01168/laws.FnExactPropertyText", spec := "fnExactPropertyText", apart := false }
def FnExactPropertyTextSaid : Prop := fnExactPropertyTextRow.holds Try.pinned (OpenSpec.ofChange fnExactPropertyTextSpec)

/-- ITS FALSE NEIGHBOUR: 'it returns false'. Refute it at one input. -/
def fnExactPropertyTextWrong : ChangeSpec := { name := "fnExactPropertyText", fn := fun _ => fun
  | [d] => { results := [.lit (.bool false)], args := [d] }
  | _ => none }
def FnExactPropertyTextWrongFalsely : Prop := fnExactPropertyTextRow.holds Try.pinned (OpenSpec.ofChange fnExactPropertyTextWrong)

/-- 'laws.FnExactNumberWord': WHATEVER THE INPUT: true; the input reads as it did. -/
def fnExactNumberWordSpec : ChangeSpec := { name := "fnExactNumberWord", fn := fun _ => fun
  | [d] => { results := [.lit (.bool true)], args := [d] }
  | _ => none }
def fnExactNumberWordRow : OpenClaim := { program := "ytkmlmkbpdldjgaa", sum := "119239bec66bb19ca0ba4e61f0dd60815280d41d62467efeb72da2e30a21d834", func := "loop.example/g01168/laws.FnExactNumberWord", spec := "fnExactNumberWord", apart := false }
def FnExactNumberWordSaid : Prop := fnExactNumberWordRow.holds Try.pinned (OpenSpec.ofChange fnExactNumberWordSpec)

/-- ITS FALSE NEIGHBOUR: 'it returns false'. Refute it at one input. -/
def fnExactNumberWordWrong : ChangeSpec := { name := "fnExactNumberWord", fn := fun _ => fun
  | [d] => { results := [.lit (.bool false)], args := [d] }
  | _ => none }
def FnExactNumberWordWrongFalsely : Prop := fnExactNumberWordRow.holds Try.pinned (OpenSpec.ofChange fnExactNumberWordWrong)

/-- 'laws.FnExactValidTransducer': WHATEVER THE INPUT: true; the input reads as it did. -/
def fnExactValidTransducerSpec : ChangeSpec := { name := "fnExactValidTransducer", fn := fun _ => fun
  | [d] => { results := [.lit (.bool true)], args := [d] }
  | _ => none }
def fnExactValidTransducerRow : OpenClaim := { program := "ytkmlmkbpdldjgaa", sum := "119239bec66bb19ca0ba4e61f0dd60815280d41d62467efeb72da2e30a21d834", func := "loop.example/g01168/laws.FnExactValidTransducer", spec := "fnExactValidTransducer", apart := false }
def FnExactValidTransducerSaid : Prop := fnExactValidTransducerRow.holds Try.pinned (OpenSpec.ofChange fnExactValidTransducerSpec)

/-- ITS FALSE NEIGHBOUR: 'it returns false'. Refute it at one input. -/
def fnExactValidTransducerWrong : ChangeSpec := { name := "fnExactValidTransducer", fn := fun _ => fun
  | [d] => { results := [.lit (.bool false)], args := [d] }
  | _ => none }
def FnExactValidTransducerWrongFalsely : Prop := fnExactValidTransducerRow.holds Try.pinned (OpenSpec.ofChange fnExactValidTransducerWrong)

/-- 'laws.FnExactSameTransducer': WHATEVER THE INPUT: true; the input reads as it did. -/
def fnExactSameTransducerSpec : ChangeSpec := { name := "fnExactSameTransducer", fn := fun _ => fun
  | [d1, d2] => { results := [.lit (.bool true)], args := [d1, d2] }
  | _ => none }
def fnExactSameTransducerRow : OpenClaim := { program := "ytkmlmkbpdldjgaa", sum := "119239bec66bb19ca0ba4e61f0dd60815280d41d62467efeb72da2e30a21d834", func := "loop.example/g01168/laws.FnExactSameTransducer", spec := "fnExactSameTransducer", apart := false }
def FnExactSameTransducerSaid : Prop := fnExactSameTransducerRow.holds Try.pinned (OpenSpec.ofChange fnExactSameTransducerSpec)

/-- ITS FALSE NEIGHBOUR: 'it returns false'. Refute it at one input. -/
def fnExactSameTransducerWrong : ChangeSpec := { name := "fnExactSameTransducer", fn := fun _ => fun
  | [d1, d2] => { results := [.lit (.bool false)], args := [d1, d2] }
  | _ => none }
def FnExactSameTransducerWrongFalsely : Prop := fnExactSameTransducerRow.holds Try.pinned (OpenSpec.ofChange fnExactSameTransducerWrong)

/-- 'laws.FnExactTurnTransducer': WHATEVER THE INPUT: true; the input reads as it did. -/
def fnExactTurnTransducerSpec : ChangeSpec := { name := "fnExactTurnTransducer", fn := fun _ => fun
  | [d] => { results := [.lit (.bool true)], args := [d] }
  | _ => none }
def fnExactTurnTransducerRow : OpenClaim := { program := "ytkmlmkbpdldjgaa", sum := "119239bec66bb19ca0ba4e61f0dd60815280d41d62467efeb72da2e30a21d834", func := "loop.example/g01168/laws.FnExactTurnTransducer", spec := "fnExactTurnTransducer", apart := false }
def FnExactTurnTransducerSaid : Prop := fnExactTurnTransducerRow.holds Try.pinned (OpenSpec.ofChange fnExactTurnTransducerSpec)

/-- ITS FALSE NEIGHBOUR: 'it returns false'. Refute it at one input. -/
def fnExactTurnTransducerWrong : ChangeSpec := { name := "fnExactTurnTransducer", fn := fun _ => fun
  | [d] => { results := [.lit (.bool false)], args := [d] }
  | _ => none }
def FnExactTurnTransducerWrongFalsely : Prop := fnExactTurnTransducerRow.holds Try.pinned (OpenSpec.ofChange fnExactTurnTransducerWrong)

/-- 'laws.FnExactEitherTransducer': WHATEVER THE INPUT: true; the input reads as it did. -/
def fnExactEitherTransducerSpec : ChangeSpec := { name := "fnExactEitherTransducer", fn := fun _ => fun
  | [d1, d2] => { results := [.lit (.bool true)], args := [d1, d2] }
  | _ => none }
def fnExactEitherTransducerRow : OpenClaim := { program := "ytkmlmkbpdldjgaa", sum := "119239bec66bb19ca0ba4e61f0dd60815280d41d62467efeb72da2e30a21d834", func := "loop.example/g01168/laws.FnExactEitherTransducer", spec := "fnExactEitherTransducer", apart := false }
def FnExactEitherTransducerSaid : Prop := fnExactEitherTransducerRow.holds Try.pinned (OpenSpec.ofChange fnExactEitherTransducerSpec)

/-- ITS FALSE NEIGHBOUR: 'it returns false'. Refute it at one input. -/
def fnExactEitherTransducerWrong : ChangeSpec := { name := "fnExactEitherTransducer", fn := fun _ => fun
  | [d1, d2] => { results := [.lit (.bool false)], args := [d1, d2] }
  | _ => none }
def FnExactEitherTransducerWrongFalsely : Prop := fnExactEitherTransducerRow.holds Try.pinned (OpenSpec.ofChange fnExactEitherTransducerWrong)

/-- 'laws.FnExactRepeatTransducer': WHATEVER THE INPUT: true; the input reads as it did. -/
def fnExactRepeatTransducerSpec : ChangeSpec := { name := "fnExactRepeatTransducer", fn := fun _ => fun
  | [d] => { results := [.lit (.bool true)], args := [d] }
  | _ => none }
def fnExactRepeatTransducerRow : OpenClaim := { program := "ytkmlmkbpdldjgaa", sum := "119239bec66bb19ca0ba4e61f0dd60815280d41d62467efeb72da2e30a21d834", func := "loop.example/g01168/laws.FnExactRepeatTransducer", spec := "fnExactRepeatTransducer", apart := false }
def FnExactRepeatTransducerSaid : Prop := fnExactRepeatTransducerRow.holds Try.pinned (OpenSpec.ofChange fnExactRepeatTransducerSpec)

/-- ITS FALSE NEIGHBOUR: 'it returns false'. Refute it at one input. -/
def fnExactRepeatTransducerWrong : ChangeSpec := { name := "fnExactRepeatTransducer", fn := fun _ => fun
  | [d] => { results := [.lit (.bool false)], args := [d] }
  | _ => none }
def FnExactRepeatTransducerWrongFalsely : Prop := fnExactRepeatTransducerRow.holds Try.pinned (OpenSpec.ofChange fnExactRepeatTransducerWrong)

/-- 'laws.FnExactBehindTransducer': WHATEVER THE INPUT: true; the input reads as it did. -/
def fnExactBehindTransducerSpec : ChangeSpec := { name := "fnExactBehindTransducer", fn := fun _ => fun
  | [d1, d2] => { results := [.lit (.bool true)], args := [d1, d2] }
  | _ => none }
def fnExactBehindTransducerRow : OpenClaim := { program := "ytkmlmkbpdldjgaa", sum := "119239bec66bb19ca0ba4e61f0dd60815280d41d62467efeb72da2e30a21d834", func := "loop.example/g01168/laws.FnExactBehindTransducer", spec := "fnExactBehindTransducer", apart := false }
def FnExactBehindTransducerSaid : Prop := fnExactBehindTransducerRow.holds Try.pinned (OpenSpec.ofChange fnExactBehindTransducerSpec)

/-- ITS FALSE NEIGHBOUR: 'it returns false'. Refute it at one input. -/
def fnExactBehindTransducerWrong : ChangeSpec := { name := "fnExactBehindTransducer", fn := fun _ => fun
  | [d1, d2] => { results := [.lit (.bool false)], args := [d1, d2] }
  | _ => none }
def FnExactBehindTransducerWrongFalsely : Prop := fnExactBehindTransducerRow.holds Try.pinned (OpenSpec.ofChange fnExactBehindTransducerWrong)

/-- 'laws.FnExactIsBalanced': WHATEVER THE INPUT: true; the input reads as it did. -/
def fnExactIsBalancedSpec : ChangeSpec := { name := "fnExactIsBalanced", fn := fun _ => fun
  | [d] => { results := [.lit (.bool true)], args := [d] }
  | _ => none }
def fnExactIsBalancedRow : OpenClaim := { program := "ytkmlmkbpdldjgaa", sum := "119239bec66bb19ca0ba4e61f0dd60815280d41d62467efeb72da2e30a21d834", func := "loop.example/g01168/laws.FnExactIsBalanced", spec := "fnExactIsBalanced", apart := false }
def FnExactIsBalancedSaid : Prop := fnExactIsBalancedRow.holds Try.pinned (OpenSpec.ofChange fnExactIsBalancedSpec)

/-- ITS FALSE NEIGHBOUR: 'it returns false'. Refute it at one input. -/
def fnExactIsBalancedWrong : ChangeSpec := { name := "fnExactIsBalanced", fn := fun _ => fun
  | [d] => { results := [.lit (.bool false)], args := [d] }
  | _ => none }
def FnExactIsBalancedWrongFalsely : Prop := fnExactIsBalancedRow.holds Try.pinned (OpenSpec.ofChange fnExactIsBalancedWrong)

/-- 'laws.FnExactTrimTransducer': WHATEVER THE INPUT: true; the input reads as it did. -/
def fnExactTrimTransducerSpec : ChangeSpec := { name := "fnExactTrimTransducer", fn := fun _ => fun
  | [d] => { results := [.lit (.bool true)], args := [d] }
  | _ => none }
def fnExactTrimTransducerRow : OpenClaim := { program := "ytkmlmkbpdldjgaa", sum := "119239bec66bb19ca0ba4e61f0dd60815280d41d62467efeb72da2e30a21d834", func := "loop.example/g01168/laws.FnExactTrimTransducer", spec := "fnExactTrimTransducer", apart := false }
def FnExactTrimTransducerSaid : Prop := fnExactTrimTransducerRow.holds Try.pinned (OpenSpec.ofChange fnExactTrimTransducerSpec)

/-- ITS FALSE NEIGHBOUR: 'it returns false'. Refute it at one input. -/
def fnExactTrimTransducerWrong : ChangeSpec := { name := "fnExactTrimTransducer", fn := fun _ => fun
  | [d] => { results := [.lit (.bool false)], args := [d] }
  | _ => none }
def FnExactTrimTransducerWrongFalsely : Prop := fnExactTrimTransducerRow.holds Try.pinned (OpenSpec.ofChange fnExactTrimTransducerWrong)

/-- 'laws.FnExactChainTransducers': WHATEVER THE INPUT: true; the input reads as it did. -/
def fnExactChainTransducersSpec : ChangeSpec := { name := "fnExactChainTransducers", fn := fun _ => fun
  | [d1, d2] => { results := [.lit (.bool true)], args := [d1, d2] }
  | _ => none }
def fnExactChainTransducersRow : OpenClaim := { program := "ytkmlmkbpdldjgaa", sum := "119239bec66bb19ca0ba4e61f0dd60815280d41d62467efeb72da2e30a21d834", func := "loop.example/g01168/laws.FnExactChainTransducers", spec := "fnExactChainTransducers", apart := false }
def FnExactChainTransducersSaid : Prop := fnExactChainTransducersRow.holds Try.pinned (OpenSpec.ofChange fnExactChainTransducersSpec)

/-- ITS FALSE NEIGHBOUR: 'it returns false'. Refute it at one input. -/
def fnExactChainTransducersWrong : ChangeSpec := { name := "fnExactChainTransducers", fn := fun _ => fun
  | [d1, d2] => { results := [.lit (.bool false)], args := [d1, d2] }
  | _ => none }
def FnExactChainTransducersWrongFalsely : Prop := fnExactChainTransducersRow.holds Try.pinned (OpenSpec.ofChange fnExactChainTransducersWrong)

/- THE SECOND FORM. 'bulk': how many values and letters a reading holds, each counted each time it is reached (what is shared counts as often as it is met; a slice's spare places count too). A statement '..UptoSaid' is the law's where the arguments, and the package variables that the reading takes, are together of bulk at most 1048576: NARROWER than '..Said'. Prove '..Said' where nothing that the law and all that it calls make is longer than what came in: it says more and counts as full. Else prove '..UptoSaid'. A law counts once. -/
mutual
def uptoBulk {H : Type} : DataW H → Nat
  | .lit (.string bytes) => bytes.length + 1
  | .lit _ => 1
  | .nil => 1
  | .ptr d => uptoBulk d + 1
  | .slice elems spare => uptoBulkAll elems + uptoBulkAll spare + 1
  | .agg parts => uptoBulkAll parts + 1
  | .iface _ d => uptoBulk d + 1
  | .map entries => uptoBulkEntries entries + 1
  | .held _ => 1
def uptoBulkAll {H : Type} : List (DataW H) → Nat
  | [] => 0
  | d :: r => uptoBulk d + uptoBulkAll r
def uptoBulkEntries {H : Type} : List (Lit × DataW H) → Nat
  | [] => 0
  | x :: r => uptoBulkEntry x + uptoBulkEntries r
def uptoBulkEntry {H : Type} : Lit × DataW H → Nat
  | (.string bytes, d) => bytes.length + uptoBulk d + 1
  | (_, d) => uptoBulk d + 1
 end
def uptoSmall : (H : Type) → List (DataW H) → Bool := fun _ ds => decide (uptoBulkAll ds ≤ 1048576)
def OpenSpec.upto (s : _root_.Go.ChangeSpec) : _root_.Go.OpenSpec := { _root_.Go.OpenSpec.ofChange s with cond := some uptoSmall }

/-- 'laws.FnExactPropertyText', WHERE WHAT IT READS IS OF BULK AT MOST 1048576: true; the input reads as it did. -/
def fnExactPropertyTextUptoRow : OpenClaim := { program := "ytkmlmkbpdldjgaa", sum := "119239bec66bb19ca0ba4e61f0dd60815280d41d62467efeb72da2e30a21d834", func := "loop.example/g01168/laws.FnExactPropertyText", spec := "fnExactPropertyText", apart := false, narrowed := true }
def FnExactPropertyTextUptoSaid : Prop := fnExactPropertyTextUptoRow.holds Try.pinned (OpenSpec.upto fnExactPropertyTextSpec)

/-- 'laws.FnExactNumberWord', WHERE WHAT IT READS IS OF BULK AT MOST 1048576: true; the input reads as it did. -/
def fnExactNumberWordUptoRow : OpenClaim := { program := "ytkmlmkbpdldjgaa", sum := "119239bec66bb19ca0ba4e61f0dd60815280d41d62467efeb72da2e30a21d834", func := "loop.example/g01168/laws.FnExactNumberWord", spec := "fnExactNumberWord", apart := false, narrowed := true }
def FnExactNumberWordUptoSaid : Prop := fnExactNumberWordUptoRow.holds Try.pinned (OpenSpec.upto fnExactNumberWordSpec)

/-- 'laws.FnExactValidTransducer', WHERE WHAT IT READS IS OF BULK AT MOST 1048576: true; the input reads as it did. -/
def fnExactValidTransducerUptoRow : OpenClaim := { program := "ytkmlmkbpdldjgaa", sum := "119239bec66bb19ca0ba4e61f0dd60815280d41d62467efeb72da2e30a21d834", func := "loop.example/g01168/laws.FnExactValidTransducer", spec := "fnExactValidTransducer", apart := false, narrowed := true }
def FnExactValidTransducerUptoSaid : Prop := fnExactValidTransducerUptoRow.holds Try.pinned (OpenSpec.upto fnExactValidTransducerSpec)

/-- 'laws.FnExactSameTransducer', WHERE WHAT IT READS IS OF BULK AT MOST 1048576: true; the input reads as it did. -/
def fnExactSameTransducerUptoRow : OpenClaim := { program := "ytkmlmkbpdldjgaa", sum := "119239bec66bb19ca0ba4e61f0dd60815280d41d62467efeb72da2e30a21d834", func := "loop.example/g01168/laws.FnExactSameTransducer", spec := "fnExactSameTransducer", apart := false, narrowed := true }
def FnExactSameTransducerUptoSaid : Prop := fnExactSameTransducerUptoRow.holds Try.pinned (OpenSpec.upto fnExactSameTransducerSpec)

/-- 'laws.FnExactTurnTransducer', WHERE WHAT IT READS IS OF BULK AT MOST 1048576: true; the input reads as it did. -/
def fnExactTurnTransducerUptoRow : OpenClaim := { program := "ytkmlmkbpdldjgaa", sum := "119239bec66bb19ca0ba4e61f0dd60815280d41d62467efeb72da2e30a21d834", func := "loop.example/g01168/laws.FnExactTurnTransducer", spec := "fnExactTurnTransducer", apart := false, narrowed := true }
def FnExactTurnTransducerUptoSaid : Prop := fnExactTurnTransducerUptoRow.holds Try.pinned (OpenSpec.upto fnExactTurnTransducerSpec)

/-- 'laws.FnExactEitherTransducer', WHERE WHAT IT READS IS OF BULK AT MOST 1048576: true; the input reads as it did. -/
def fnExactEitherTransducerUptoRow : OpenClaim := { program := "ytkmlmkbpdldjgaa", sum := "119239bec66bb19ca0ba4e61f0dd60815280d41d62467efeb72da2e30a21d834", func := "loop.example/g01168/laws.FnExactEitherTransducer", spec := "fnExactEitherTransducer", apart := false, narrowed := true }
def FnExactEitherTransducerUptoSaid : Prop := fnExactEitherTransducerUptoRow.holds Try.pinned (OpenSpec.upto fnExactEitherTransducerSpec)

/-- 'laws.FnExactRepeatTransducer', WHERE WHAT IT READS IS OF BULK AT MOST 1048576: true; the input reads as it did. -/
def fnExactRepeatTransducerUptoRow : OpenClaim := { program := "ytkmlmkbpdldjgaa", sum := "119239bec66bb19ca0ba4e61f0dd60815280d41d62467efeb72da2e30a21d834", func := "loop.example/g01168/laws.FnExactRepeatTransducer", spec := "fnExactRepeatTransducer", apart := false, narrowed := true }
def FnExactRepeatTransducerUptoSaid : Prop := fnExactRepeatTransducerUptoRow.holds Try.pinned (OpenSpec.upto fnExactRepeatTransducerSpec)

/-- 'laws.FnExactBehindTransducer', WHERE WHAT IT READS IS OF BULK AT MOST 1048576: true; the input reads as it did. -/
def fnExactBehindTransducerUptoRow : OpenClaim := { program := "ytkmlmkbpdldjgaa", sum := "119239bec66bb19ca0ba4e61f0dd60815280d41d62467efeb72da2e30a21d834", func := "loop.example/g01168/laws.FnExactBehindTransducer", spec := "fnExactBehindTransducer", apart := false, narrowed := true }
def FnExactBehindTransducerUptoSaid : Prop := fnExactBehindTransducerUptoRow.holds Try.pinned (OpenSpec.upto fnExactBehindTransducerSpec)

/-- 'laws.FnExactIsBalanced', WHERE WHAT IT READS IS OF BULK AT MOST 1048576: true; the input reads as it did. -/
def fnExactIsBalancedUptoRow : OpenClaim := { program := "ytkmlmkbpdldjgaa", sum := "119239bec66bb19ca0ba4e61f0dd60815280d41d62467efeb72da2e30a21d834", func := "loop.example/g01168/laws.FnExactIsBalanced", spec := "fnExactIsBalanced", apart := false, narrowed := true }
def FnExactIsBalancedUptoSaid : Prop := fnExactIsBalancedUptoRow.holds Try.pinned (OpenSpec.upto fnExactIsBalancedSpec)

/-- 'laws.FnExactTrimTransducer', WHERE WHAT IT READS IS OF BULK AT MOST 1048576: true; the input reads as it did. -/
def fnExactTrimTransducerUptoRow : OpenClaim := { program := "ytkmlmkbpdldjgaa", sum := "119239bec66bb19ca0ba4e61f0dd60815280d41d62467efeb72da2e30a21d834", func := "loop.example/g01168/laws.FnExactTrimTransducer", spec := "fnExactTrimTransducer", apart := false, narrowed := true }
def FnExactTrimTransducerUptoSaid : Prop := fnExactTrimTransducerUptoRow.holds Try.pinned (OpenSpec.upto fnExactTrimTransducerSpec)

/-- 'laws.FnExactChainTransducers', WHERE WHAT IT READS IS OF BULK AT MOST 1048576: true; the input reads as it did. -/
def fnExactChainTransducersUptoRow : OpenClaim := { program := "ytkmlmkbpdldjgaa", sum := "119239bec66bb19ca0ba4e61f0dd60815280d41d62467efeb72da2e30a21d834", func := "loop.example/g01168/laws.FnExactChainTransducers", spec := "fnExactChainTransducers", apart := false, narrowed := true }
def FnExactChainTransducersUptoSaid : Prop := fnExactChainTransducersUptoRow.holds Try.pinned (OpenSpec.upto fnExactChainTransducersSpec)

end Rows
end Go.Proofs.Ytkmlmkbpdldjgaa
