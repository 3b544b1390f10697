/-
  DERIVED. GIVEN WITH THE SEED: THE CARDS: each row of YtkgjipjkffjlhaaDoorRows.lean that lists a variable, with what it lists TIED to the program's text (the seventh form; the later family's looks); each row that meets fmt, with fmt's text TOLD by the authors' own Lean function (tested against real Go, not proved from fmt's source: count such statements apart). THE CARD IS WHAT COUNTS. Prove the row's statement (the work); the ties are given (YtkgjipjkffjlhaaDoorTie.lean); close each card by the builder's one call (the guide's Derived/Test/ToyasCard.lean, 'card_holds'). Laid BY PROGRAM, IN A SANDBOX (cutbox-door.mjs). By AI agents, Wed Nov 11 2026. No macro, syntax, notation, axiom, sorry.
-/
import Derived.Test.YtkgjipjkffjlhaaDoorRows
import GoSem.ClaimSeven
namespace Go.Proofs.YtkgjipjkffjlhaaDoor
namespace Rows

/-- THE TIED CARD OF 'laws.FnExactNumberDomain'. -/
def fnExactNumberDomainCard : Claim7 := { stood := { row := fnExactNumberDomainRow, standIns := [], harness := (true, "be2145987024c3ddd3bfaf1e15e77cf9b3f0698a7ebc9208e83bf6dddf9b3083"), looks := false }, kinds := [], alts := [], laidByText := true, laidKinds := [.data, .data, .data], laidTests := true, laidLooks := .later }
def FnExactNumberDomainCardSaid : Prop := Claim7.holds Tryd.pinned (.plain (OpenSpec.ofChange fnExactNumberDomainSpec)) fnExactNumberDomainCard

/-- THE SECOND FORM's CARD OF 'laws.FnExactNumberDomain'. -/
def fnExactNumberDomainUptoCard : Claim7 := { stood := { row := fnExactNumberDomainUptoRow, standIns := [], harness := (true, "be2145987024c3ddd3bfaf1e15e77cf9b3f0698a7ebc9208e83bf6dddf9b3083"), looks := false }, kinds := [], alts := [], laidByText := true, laidKinds := [.data, .data, .data], laidTests := true, laidLooks := .later }
def FnExactNumberDomainUptoCardSaid : Prop := Claim7.holds Tryd.pinned (.plain (OpenSpec.upto fnExactNumberDomainSpec)) fnExactNumberDomainUptoCard
end Rows
end Go.Proofs.YtkgjipjkffjlhaaDoor
