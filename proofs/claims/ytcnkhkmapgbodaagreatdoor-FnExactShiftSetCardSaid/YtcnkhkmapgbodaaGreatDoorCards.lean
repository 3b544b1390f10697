/-
  DERIVED. GIVEN WITH THE SEED: THE CARDS: each row of YtcnkhkmapgbodaaGreatDoorRows.lean that lists a variable, with what it lists TIED to the program's text (the seventh form; the later family's looks); each row that meets fmt, with fmt's text TOLD by the authors' own Lean function (tested against real Go, not proved from fmt's source: count such statements apart). THE CARD IS WHAT COUNTS. Prove the row's statement (the work); the ties are given (YtcnkhkmapgbodaaGreatDoorTie.lean); close each card by the builder's one call (the guide's Derived/Test/ToyasCard.lean, 'card_holds'). Laid BY PROGRAM, IN A SANDBOX (cutbox-door.mjs). By AI agents, Wed Nov 11 2026. No macro, syntax, notation, axiom, sorry.
-/
import Derived.Test.YtcnkhkmapgbodaaGreatDoorRows
import GoSem.ClaimSeven
namespace Go.Proofs.YtcnkhkmapgbodaaGreatDoor
namespace Rows

/-- THE TIED CARD OF 'laws.FnExactGreatestNumber'. -/
def fnExactGreatestNumberCard : Claim7 := { stood := { row := fnExactGreatestNumberRow, standIns := [], harness := (true, "81db891e0219f9cb255a18e0a862d5dbd87b91247013b16bdabee8a70432b11e"), looks := false }, kinds := [], alts := [], laidByText := true, laidKinds := [.data, .data, .data], laidTests := true, laidLooks := .later }
def FnExactGreatestNumberCardSaid : Prop := Claim7.holds Tryz.pinned (.plain (OpenSpec.ofChange fnExactGreatestNumberSpec)) fnExactGreatestNumberCard

/-- THE TIED CARD OF 'laws.FnExactSumOfSets'. -/
def fnExactSumOfSetsCard : Claim7 := { stood := { row := fnExactSumOfSetsRow, standIns := [], harness := (true, "81db891e0219f9cb255a18e0a862d5dbd87b91247013b16bdabee8a70432b11e"), looks := false }, kinds := [], alts := [], laidByText := true, laidKinds := [.data, .data, .data], laidTests := true, laidLooks := .later }
def FnExactSumOfSetsCardSaid : Prop := Claim7.holds Tryz.pinned (.plain (OpenSpec.ofChange fnExactSumOfSetsSpec)) fnExactSumOfSetsCard

/-- THE TIED CARD OF 'laws.FnExactShiftSet'. -/
def fnExactShiftSetCard : Claim7 := { stood := { row := fnExactShiftSetRow, standIns := [], harness := (true, "81db891e0219f9cb255a18e0a862d5dbd87b91247013b16bdabee8a70432b11e"), looks := false }, kinds := [], alts := [], laidByText := true, laidKinds := [.data, .data, .data], laidTests := true, laidLooks := .later }
def FnExactShiftSetCardSaid : Prop := Claim7.holds Tryz.pinned (.plain (OpenSpec.ofChange fnExactShiftSetSpec)) fnExactShiftSetCard

/-- THE TIED CARD OF 'laws.FnExactIsPeriodic'. -/
def fnExactIsPeriodicCard : Claim7 := { stood := { row := fnExactIsPeriodicRow, standIns := [], harness := (true, "81db891e0219f9cb255a18e0a862d5dbd87b91247013b16bdabee8a70432b11e"), looks := false }, kinds := [], alts := [], laidByText := true, laidKinds := [.data, .data, .data], laidTests := true, laidLooks := .later }
def FnExactIsPeriodicCardSaid : Prop := Claim7.holds Tryz.pinned (.plain (OpenSpec.ofChange fnExactIsPeriodicSpec)) fnExactIsPeriodicCard

/-- THE TIED CARD OF 'laws.FnExactPeriodOf'. -/
def fnExactPeriodOfCard : Claim7 := { stood := { row := fnExactPeriodOfRow, standIns := [], harness := (true, "81db891e0219f9cb255a18e0a862d5dbd87b91247013b16bdabee8a70432b11e"), looks := false }, kinds := [], alts := [], laidByText := true, laidKinds := [.data, .data, .data], laidTests := true, laidLooks := .later }
def FnExactPeriodOfCardSaid : Prop := Claim7.holds Tryz.pinned (.plain (OpenSpec.ofChange fnExactPeriodOfSpec)) fnExactPeriodOfCard

/-- THE TIED CARD OF 'laws.FnExactRestSet'. -/
def fnExactRestSetCard : Claim7 := { stood := { row := fnExactRestSetRow, standIns := [], harness := (true, "81db891e0219f9cb255a18e0a862d5dbd87b91247013b16bdabee8a70432b11e"), looks := false }, kinds := [], alts := [], laidByText := true, laidKinds := [.data, .data, .data], laidTests := true, laidLooks := .later }
def FnExactRestSetCardSaid : Prop := Claim7.holds Tryz.pinned (.plain (OpenSpec.ofChange fnExactRestSetSpec)) fnExactRestSetCard

/-- THE TIED CARD OF 'laws.FnExactAddRelation'. -/
def fnExactAddRelationCard : Claim7 := { stood := { row := fnExactAddRelationRow, standIns := [], harness := (true, "81db891e0219f9cb255a18e0a862d5dbd87b91247013b16bdabee8a70432b11e"), looks := false }, kinds := [], alts := [], laidByText := true, laidKinds := [.data, .data, .data], laidTests := true, laidLooks := .later }
def FnExactAddRelationCardSaid : Prop := Claim7.holds Tryz.pinned (.plain (OpenSpec.ofChange fnExactAddRelationSpec)) fnExactAddRelationCard

/-- THE TIED CARD OF 'laws.FnExactLessNumbers'. -/
def fnExactLessNumbersCard : Claim7 := { stood := { row := fnExactLessNumbersRow, standIns := [], harness := (true, "81db891e0219f9cb255a18e0a862d5dbd87b91247013b16bdabee8a70432b11e"), looks := false }, kinds := [], alts := [], laidByText := true, laidKinds := [.data, .data, .data], laidTests := true, laidLooks := .later }
def FnExactLessNumbersCardSaid : Prop := Claim7.holds Tryz.pinned (.plain (OpenSpec.ofChange fnExactLessNumbersSpec)) fnExactLessNumbersCard

/-- THE SECOND FORM's CARD OF 'laws.FnExactGreatestNumber'. -/
def fnExactGreatestNumberUptoCard : Claim7 := { stood := { row := fnExactGreatestNumberUptoRow, standIns := [], harness := (true, "81db891e0219f9cb255a18e0a862d5dbd87b91247013b16bdabee8a70432b11e"), looks := false }, kinds := [], alts := [], laidByText := true, laidKinds := [.data, .data, .data], laidTests := true, laidLooks := .later }
def FnExactGreatestNumberUptoCardSaid : Prop := Claim7.holds Tryz.pinned (.plain (OpenSpec.upto fnExactGreatestNumberSpec)) fnExactGreatestNumberUptoCard

/-- THE SECOND FORM's CARD OF 'laws.FnExactSumOfSets'. -/
def fnExactSumOfSetsUptoCard : Claim7 := { stood := { row := fnExactSumOfSetsUptoRow, standIns := [], harness := (true, "81db891e0219f9cb255a18e0a862d5dbd87b91247013b16bdabee8a70432b11e"), looks := false }, kinds := [], alts := [], laidByText := true, laidKinds := [.data, .data, .data], laidTests := true, laidLooks := .later }
def FnExactSumOfSetsUptoCardSaid : Prop := Claim7.holds Tryz.pinned (.plain (OpenSpec.upto fnExactSumOfSetsSpec)) fnExactSumOfSetsUptoCard

/-- THE SECOND FORM's CARD OF 'laws.FnExactShiftSet'. -/
def fnExactShiftSetUptoCard : Claim7 := { stood := { row := fnExactShiftSetUptoRow, standIns := [], harness := (true, "81db891e0219f9cb255a18e0a862d5dbd87b91247013b16bdabee8a70432b11e"), looks := false }, kinds := [], alts := [], laidByText := true, laidKinds := [.data, .data, .data], laidTests := true, laidLooks := .later }
def FnExactShiftSetUptoCardSaid : Prop := Claim7.holds Tryz.pinned (.plain (OpenSpec.upto fnExactShiftSetSpec)) fnExactShiftSetUptoCard

/-- THE SECOND FORM's CARD OF 'laws.FnExactIsPeriodic'. -/
def fnExactIsPeriodicUptoCard : Claim7 := { stood := { row := fnExactIsPeriodicUptoRow, standIns := [], harness := (true, "81db891e0219f9cb255a18e0a862d5dbd87b91247013b16bdabee8a70432b11e"), looks := false }, kinds := [], alts := [], laidByText := true, laidKinds := [.data, .data, .data], laidTests := true, laidLooks := .later }
def FnExactIsPeriodicUptoCardSaid : Prop := Claim7.holds Tryz.pinned (.plain (OpenSpec.upto fnExactIsPeriodicSpec)) fnExactIsPeriodicUptoCard

/-- THE SECOND FORM's CARD OF 'laws.FnExactPeriodOf'. -/
def fnExactPeriodOfUptoCard : Claim7 := { stood := { row := fnExactPeriodOfUptoRow, standIns := [], harness := (true, "81db891e0219f9cb255a18e0a862d5dbd87b91247013b16bdabee8a70432b11e"), looks := false }, kinds := [], alts := [], laidByText := true, laidKinds := [.data, .data, .data], laidTests := true, laidLooks := .later }
def FnExactPeriodOfUptoCardSaid : Prop := Claim7.holds Tryz.pinned (.plain (OpenSpec.upto fnExactPeriodOfSpec)) fnExactPeriodOfUptoCard

/-- THE SECOND FORM's CARD OF 'laws.FnExactRestSet'. -/
def fnExactRestSetUptoCard : Claim7 := { stood := { row := fnExactRestSetUptoRow, standIns := [], harness := (true, "81db891e0219f9cb255a18e0a862d5dbd87b91247013b16bdabee8a70432b11e"), looks := false }, kinds := [], alts := [], laidByText := true, laidKinds := [.data, .data, .data], laidTests := true, laidLooks := .later }
def FnExactRestSetUptoCardSaid : Prop := Claim7.holds Tryz.pinned (.plain (OpenSpec.upto fnExactRestSetSpec)) fnExactRestSetUptoCard

/-- THE SECOND FORM's CARD OF 'laws.FnExactAddRelation'. -/
def fnExactAddRelationUptoCard : Claim7 := { stood := { row := fnExactAddRelationUptoRow, standIns := [], harness := (true, "81db891e0219f9cb255a18e0a862d5dbd87b91247013b16bdabee8a70432b11e"), looks := false }, kinds := [], alts := [], laidByText := true, laidKinds := [.data, .data, .data], laidTests := true, laidLooks := .later }
def FnExactAddRelationUptoCardSaid : Prop := Claim7.holds Tryz.pinned (.plain (OpenSpec.upto fnExactAddRelationSpec)) fnExactAddRelationUptoCard

/-- THE SECOND FORM's CARD OF 'laws.FnExactLessNumbers'. -/
def fnExactLessNumbersUptoCard : Claim7 := { stood := { row := fnExactLessNumbersUptoRow, standIns := [], harness := (true, "81db891e0219f9cb255a18e0a862d5dbd87b91247013b16bdabee8a70432b11e"), looks := false }, kinds := [], alts := [], laidByText := true, laidKinds := [.data, .data, .data], laidTests := true, laidLooks := .later }
def FnExactLessNumbersUptoCardSaid : Prop := Claim7.holds Tryz.pinned (.plain (OpenSpec.upto fnExactLessNumbersSpec)) fnExactLessNumbersUptoCard
end Rows
end Go.Proofs.YtcnkhkmapgbodaaGreatDoor
