/-
  DERIVED. GIVEN WITH THE SEED: THE CARDS: each row of YtbnmhbmhafbmiaaGreatDoorRows.lean that lists a variable, with what it lists TIED to the program's text (the seventh form; the later family's looks); each row that meets fmt, with fmt's text TOLD by the authors' own Lean function (tested against real Go, not proved from fmt's source: count such statements apart). THE CARD IS WHAT COUNTS. Prove the row's statement (the work); the ties are given (YtbnmhbmhafbmiaaGreatDoorTie.lean); close each card by the builder's one call (the guide's Derived/Test/ToyasCard.lean, 'card_holds'). Laid BY PROGRAM, IN A SANDBOX (cutbox-door.mjs). By AI agents, Wed Nov 11 2026. No macro, syntax, notation, axiom, sorry.
-/
import Derived.Test.YtbnmhbmhafbmiaaGreatDoorRows
import GoSem.ClaimSeven
namespace Go.Proofs.YtbnmhbmhafbmiaaGreatDoor
namespace Rows

/-- THE TIED CARD OF 'laws.FnExactArithmetic'. -/
def fnExactArithmeticCard : Claim7 := { stood := { row := fnExactArithmeticRow, standIns := [], harness := (true, "f4e18735d45aaa8667c18ed17d2c1c399444c1e4c6b817886e452d0708ae8ab5"), looks := false }, kinds := [], alts := [], laidByText := true, laidKinds := [.data, .data, .data], laidTests := true, laidLooks := .later }
def FnExactArithmeticCardSaid : Prop := Claim7.holds Tryz.pinned (.plain (OpenSpec.ofChange fnExactArithmeticSpec)) fnExactArithmeticCard

/-- THE TIED CARD OF 'laws.FnLinear'. -/
def fnLinearCard : Claim7 := { stood := { row := fnLinearRow, standIns := [], harness := (true, "f4e18735d45aaa8667c18ed17d2c1c399444c1e4c6b817886e452d0708ae8ab5"), looks := false }, kinds := [], alts := [], laidByText := true, laidKinds := [.data, .data, .data, .data, .pinned], laidTests := true, laidLooks := .later }
def FnLinearCardSaid : Prop := Claim7.holds Tryz.pinned (.plain (OpenSpec.ofChange fnLinearSpec)) fnLinearCard

/-- THE TIED CARD OF 'laws.FnNumbers'. -/
def fnNumbersCard : Claim7 := { stood := { row := fnNumbersRow, standIns := [], harness := (true, "f4e18735d45aaa8667c18ed17d2c1c399444c1e4c6b817886e452d0708ae8ab5"), looks := false }, kinds := [], alts := [], laidByText := true, laidKinds := [.data, .data, .data, .data, .pinned], laidTests := true, laidLooks := .later }
def FnNumbersCardSaid : Prop := Claim7.holds Tryz.pinned (.plain (OpenSpec.ofChange fnNumbersSpec)) fnNumbersCard

/-- THE TIED CARD OF 'laws.FnExactShiftSet'. -/
def fnExactShiftSetCard : Claim7 := { stood := { row := fnExactShiftSetRow, standIns := [], harness := (true, "f4e18735d45aaa8667c18ed17d2c1c399444c1e4c6b817886e452d0708ae8ab5"), looks := false }, kinds := [], alts := [], laidByText := true, laidKinds := [.data, .data, .data], laidTests := true, laidLooks := .later }
def FnExactShiftSetCardSaid : Prop := Claim7.holds Tryz.pinned (.plain (OpenSpec.ofChange fnExactShiftSetSpec)) fnExactShiftSetCard

/-- THE TIED CARD OF 'laws.FnExactIsPeriodic'. -/
def fnExactIsPeriodicCard : Claim7 := { stood := { row := fnExactIsPeriodicRow, standIns := [], harness := (true, "f4e18735d45aaa8667c18ed17d2c1c399444c1e4c6b817886e452d0708ae8ab5"), looks := false }, kinds := [], alts := [], laidByText := true, laidKinds := [.data, .data, .data], laidTests := true, laidLooks := .later }
def FnExactIsPeriodicCardSaid : Prop := Claim7.holds Tryz.pinned (.plain (OpenSpec.ofChange fnExactIsPeriodicSpec)) fnExactIsPeriodicCard

/-- THE TIED CARD OF 'laws.FnExactGreatestNumber'. -/
def fnExactGreatestNumberCard : Claim7 := { stood := { row := fnExactGreatestNumberRow, standIns := [], harness := (true, "f4e18735d45aaa8667c18ed17d2c1c399444c1e4c6b817886e452d0708ae8ab5"), looks := false }, kinds := [], alts := [], laidByText := true, laidKinds := [.data, .data, .data], laidTests := true, laidLooks := .later }
def FnExactGreatestNumberCardSaid : Prop := Claim7.holds Tryz.pinned (.plain (OpenSpec.ofChange fnExactGreatestNumberSpec)) fnExactGreatestNumberCard

/-- THE TIED CARD OF 'laws.FnExactPeriodOf'. -/
def fnExactPeriodOfCard : Claim7 := { stood := { row := fnExactPeriodOfRow, standIns := [], harness := (true, "f4e18735d45aaa8667c18ed17d2c1c399444c1e4c6b817886e452d0708ae8ab5"), looks := false }, kinds := [], alts := [], laidByText := true, laidKinds := [.data, .data, .data], laidTests := true, laidLooks := .later }
def FnExactPeriodOfCardSaid : Prop := Claim7.holds Tryz.pinned (.plain (OpenSpec.ofChange fnExactPeriodOfSpec)) fnExactPeriodOfCard

/-- THE SECOND FORM's CARD OF 'laws.FnExactArithmetic'. -/
def fnExactArithmeticUptoCard : Claim7 := { stood := { row := fnExactArithmeticUptoRow, standIns := [], harness := (true, "f4e18735d45aaa8667c18ed17d2c1c399444c1e4c6b817886e452d0708ae8ab5"), looks := false }, kinds := [], alts := [], laidByText := true, laidKinds := [.data, .data, .data], laidTests := true, laidLooks := .later }
def FnExactArithmeticUptoCardSaid : Prop := Claim7.holds Tryz.pinned (.plain (OpenSpec.upto fnExactArithmeticSpec)) fnExactArithmeticUptoCard

/-- THE SECOND FORM's CARD OF 'laws.FnLinear'. -/
def fnLinearUptoCard : Claim7 := { stood := { row := fnLinearUptoRow, standIns := [], harness := (true, "f4e18735d45aaa8667c18ed17d2c1c399444c1e4c6b817886e452d0708ae8ab5"), looks := false }, kinds := [], alts := [], laidByText := true, laidKinds := [.data, .data, .data, .data, .pinned], laidTests := true, laidLooks := .later }
def FnLinearUptoCardSaid : Prop := Claim7.holds Tryz.pinned (.plain (OpenSpec.upto fnLinearSpec)) fnLinearUptoCard

/-- THE SECOND FORM's CARD OF 'laws.FnNumbers'. -/
def fnNumbersUptoCard : Claim7 := { stood := { row := fnNumbersUptoRow, standIns := [], harness := (true, "f4e18735d45aaa8667c18ed17d2c1c399444c1e4c6b817886e452d0708ae8ab5"), looks := false }, kinds := [], alts := [], laidByText := true, laidKinds := [.data, .data, .data, .data, .pinned], laidTests := true, laidLooks := .later }
def FnNumbersUptoCardSaid : Prop := Claim7.holds Tryz.pinned (.plain (OpenSpec.upto fnNumbersSpec)) fnNumbersUptoCard

/-- THE SECOND FORM's CARD OF 'laws.FnExactShiftSet'. -/
def fnExactShiftSetUptoCard : Claim7 := { stood := { row := fnExactShiftSetUptoRow, standIns := [], harness := (true, "f4e18735d45aaa8667c18ed17d2c1c399444c1e4c6b817886e452d0708ae8ab5"), looks := false }, kinds := [], alts := [], laidByText := true, laidKinds := [.data, .data, .data], laidTests := true, laidLooks := .later }
def FnExactShiftSetUptoCardSaid : Prop := Claim7.holds Tryz.pinned (.plain (OpenSpec.upto fnExactShiftSetSpec)) fnExactShiftSetUptoCard

/-- THE SECOND FORM's CARD OF 'laws.FnExactIsPeriodic'. -/
def fnExactIsPeriodicUptoCard : Claim7 := { stood := { row := fnExactIsPeriodicUptoRow, standIns := [], harness := (true, "f4e18735d45aaa8667c18ed17d2c1c399444c1e4c6b817886e452d0708ae8ab5"), looks := false }, kinds := [], alts := [], laidByText := true, laidKinds := [.data, .data, .data], laidTests := true, laidLooks := .later }
def FnExactIsPeriodicUptoCardSaid : Prop := Claim7.holds Tryz.pinned (.plain (OpenSpec.upto fnExactIsPeriodicSpec)) fnExactIsPeriodicUptoCard

/-- THE SECOND FORM's CARD OF 'laws.FnExactGreatestNumber'. -/
def fnExactGreatestNumberUptoCard : Claim7 := { stood := { row := fnExactGreatestNumberUptoRow, standIns := [], harness := (true, "f4e18735d45aaa8667c18ed17d2c1c399444c1e4c6b817886e452d0708ae8ab5"), looks := false }, kinds := [], alts := [], laidByText := true, laidKinds := [.data, .data, .data], laidTests := true, laidLooks := .later }
def FnExactGreatestNumberUptoCardSaid : Prop := Claim7.holds Tryz.pinned (.plain (OpenSpec.upto fnExactGreatestNumberSpec)) fnExactGreatestNumberUptoCard

/-- THE SECOND FORM's CARD OF 'laws.FnExactPeriodOf'. -/
def fnExactPeriodOfUptoCard : Claim7 := { stood := { row := fnExactPeriodOfUptoRow, standIns := [], harness := (true, "f4e18735d45aaa8667c18ed17d2c1c399444c1e4c6b817886e452d0708ae8ab5"), looks := false }, kinds := [], alts := [], laidByText := true, laidKinds := [.data, .data, .data], laidTests := true, laidLooks := .later }
def FnExactPeriodOfUptoCardSaid : Prop := Claim7.holds Tryz.pinned (.plain (OpenSpec.upto fnExactPeriodOfSpec)) fnExactPeriodOfUptoCard
end Rows
end Go.Proofs.YtbnmhbmhafbmiaaGreatDoor
