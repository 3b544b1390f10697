/-
  DERIVED. GIVEN WITH THE SEED: THE CARDS: each row of YtcnkhkmapgbodaaDoorRows.lean that lists a variable, with what it lists TIED to the program's text (the seventh form; the later family's looks); each row that meets fmt, with fmt's text TOLD by the authors' own Lean function (tested against real Go, not proved from fmt's source: count such statements apart). THE CARD IS WHAT COUNTS. Prove the row's statement (the work); the ties are given (YtcnkhkmapgbodaaDoorTie.lean); close each card by the builder's one call (the guide's Derived/Test/ToyasCard.lean, 'card_holds'). Laid BY PROGRAM, IN A SANDBOX (cutbox-door.mjs). By AI agents, Wed Nov 11 2026. No macro, syntax, notation, axiom, sorry.
-/
import Derived.Test.YtcnkhkmapgbodaaDoorRows
import GoSem.ClaimSeven
namespace Go.Proofs.YtcnkhkmapgbodaaDoor
namespace Rows

/-- THE TIED CARD OF 'laws.FnExactIsNumberSet'. -/
def fnExactIsNumberSetCard : Claim7 := { stood := { row := fnExactIsNumberSetRow, standIns := [], harness := (true, "de25840f9e0307ec432536c99bcdbfa083d2bb9c0ed360cb0543523ed952a2cc"), looks := false }, kinds := [], alts := [], laidByText := true, laidKinds := [.data, .data, .data], laidTests := true, laidLooks := .later }
def FnExactIsNumberSetCardSaid : Prop := Claim7.holds Tryd.pinned (.plain (OpenSpec.ofChange fnExactIsNumberSetSpec)) fnExactIsNumberSetCard

/-- THE TIED CARD OF 'laws.FnExactCountBelow'. -/
def fnExactCountBelowCard : Claim7 := { stood := { row := fnExactCountBelowRow, standIns := [], harness := (true, "de25840f9e0307ec432536c99bcdbfa083d2bb9c0ed360cb0543523ed952a2cc"), looks := false }, kinds := [], alts := [], laidByText := true, laidKinds := [.data, .data, .data], laidTests := true, laidLooks := .later }
def FnExactCountBelowCardSaid : Prop := Claim7.holds Tryd.pinned (.plain (OpenSpec.ofChange fnExactCountBelowSpec)) fnExactCountBelowCard

/-- THE TIED CARD OF 'laws.FnExactLeastNumber'. -/
def fnExactLeastNumberCard : Claim7 := { stood := { row := fnExactLeastNumberRow, standIns := [], harness := (true, "de25840f9e0307ec432536c99bcdbfa083d2bb9c0ed360cb0543523ed952a2cc"), looks := false }, kinds := [], alts := [], laidByText := true, laidKinds := [.data, .data, .data], laidTests := true, laidLooks := .later }
def FnExactLeastNumberCardSaid : Prop := Claim7.holds Tryd.pinned (.plain (OpenSpec.ofChange fnExactLeastNumberSpec)) fnExactLeastNumberCard

/-- THE TIED CARD OF 'laws.FnExactNumberSet'. -/
def fnExactNumberSetCard : Claim7 := { stood := { row := fnExactNumberSetRow, standIns := [], harness := (true, "de25840f9e0307ec432536c99bcdbfa083d2bb9c0ed360cb0543523ed952a2cc"), looks := false }, kinds := [], alts := [], laidByText := true, laidKinds := [.data, .data, .data, .data, .pinned], laidTests := true, laidLooks := .later }
def FnExactNumberSetCardSaid : Prop := Claim7.holds Tryd.pinned (.plain (OpenSpec.ofChange fnExactNumberSetSpec)) fnExactNumberSetCard

/-- THE SECOND FORM's CARD OF 'laws.FnExactIsNumberSet'. -/
def fnExactIsNumberSetUptoCard : Claim7 := { stood := { row := fnExactIsNumberSetUptoRow, standIns := [], harness := (true, "de25840f9e0307ec432536c99bcdbfa083d2bb9c0ed360cb0543523ed952a2cc"), looks := false }, kinds := [], alts := [], laidByText := true, laidKinds := [.data, .data, .data], laidTests := true, laidLooks := .later }
def FnExactIsNumberSetUptoCardSaid : Prop := Claim7.holds Tryd.pinned (.plain (OpenSpec.upto fnExactIsNumberSetSpec)) fnExactIsNumberSetUptoCard

/-- THE SECOND FORM's CARD OF 'laws.FnExactCountBelow'. -/
def fnExactCountBelowUptoCard : Claim7 := { stood := { row := fnExactCountBelowUptoRow, standIns := [], harness := (true, "de25840f9e0307ec432536c99bcdbfa083d2bb9c0ed360cb0543523ed952a2cc"), looks := false }, kinds := [], alts := [], laidByText := true, laidKinds := [.data, .data, .data], laidTests := true, laidLooks := .later }
def FnExactCountBelowUptoCardSaid : Prop := Claim7.holds Tryd.pinned (.plain (OpenSpec.upto fnExactCountBelowSpec)) fnExactCountBelowUptoCard

/-- THE SECOND FORM's CARD OF 'laws.FnExactLeastNumber'. -/
def fnExactLeastNumberUptoCard : Claim7 := { stood := { row := fnExactLeastNumberUptoRow, standIns := [], harness := (true, "de25840f9e0307ec432536c99bcdbfa083d2bb9c0ed360cb0543523ed952a2cc"), looks := false }, kinds := [], alts := [], laidByText := true, laidKinds := [.data, .data, .data], laidTests := true, laidLooks := .later }
def FnExactLeastNumberUptoCardSaid : Prop := Claim7.holds Tryd.pinned (.plain (OpenSpec.upto fnExactLeastNumberSpec)) fnExactLeastNumberUptoCard

/-- THE SECOND FORM's CARD OF 'laws.FnExactNumberSet'. -/
def fnExactNumberSetUptoCard : Claim7 := { stood := { row := fnExactNumberSetUptoRow, standIns := [], harness := (true, "de25840f9e0307ec432536c99bcdbfa083d2bb9c0ed360cb0543523ed952a2cc"), looks := false }, kinds := [], alts := [], laidByText := true, laidKinds := [.data, .data, .data, .data, .pinned], laidTests := true, laidLooks := .later }
def FnExactNumberSetUptoCardSaid : Prop := Claim7.holds Tryd.pinned (.plain (OpenSpec.upto fnExactNumberSetSpec)) fnExactNumberSetUptoCard
end Rows
end Go.Proofs.YtcnkhkmapgbodaaDoor
