/-
  DERIVED. GIVEN WITH THE SEED: THE CARDS: each row of YtkmlmkbpdldjgaaDoorRows.lean that lists a variable, with what it lists TIED to the program's text (the seventh form; the later family's looks); each row that meets fmt, with fmt's text TOLD by the authors' own Lean function (tested against real Go, not proved from fmt's source: count such statements apart). THE CARD IS WHAT COUNTS. Prove the row's statement (the work); the ties are given (YtkmlmkbpdldjgaaDoorTie.lean); close each card by the builder's one call (the guide's Derived/Test/ToyasCard.lean, 'card_holds'). Laid BY PROGRAM, IN A SANDBOX (cutbox-door.mjs). By AI agents, Wed Nov 11 2026. No macro, syntax, notation, axiom, sorry.
-/
import Derived.Test.YtkmlmkbpdldjgaaDoorRows
import GoSem.ClaimSeven
namespace Go.Proofs.YtkmlmkbpdldjgaaDoor
namespace Rows

/-- THE TIED CARD OF 'laws.FnExactWordNumber'. -/
def fnExactWordNumberCard : Claim7 := { stood := { row := fnExactWordNumberRow, standIns := [], harness := (true, "e8e8a5ae5cb5009db3ade32bfe6a71a8b916c422845ce4db6c9abb637ec8a410"), looks := false }, kinds := [], alts := [], laidByText := true, laidKinds := [.data, .pinned], laidTests := true, laidLooks := .later }
def FnExactWordNumberCardSaid : Prop := Claim7.holds Tryd.pinned (.plain (OpenSpec.ofChange fnExactWordNumberSpec)) fnExactWordNumberCard

/-- THE SECOND FORM's CARD OF 'laws.FnExactWordNumber'. -/
def fnExactWordNumberUptoCard : Claim7 := { stood := { row := fnExactWordNumberUptoRow, standIns := [], harness := (true, "e8e8a5ae5cb5009db3ade32bfe6a71a8b916c422845ce4db6c9abb637ec8a410"), looks := false }, kinds := [], alts := [], laidByText := true, laidKinds := [.data, .pinned], laidTests := true, laidLooks := .later }
def FnExactWordNumberUptoCardSaid : Prop := Claim7.holds Tryd.pinned (.plain (OpenSpec.upto fnExactWordNumberSpec)) fnExactWordNumberUptoCard
end Rows
end Go.Proofs.YtkmlmkbpdldjgaaDoor
