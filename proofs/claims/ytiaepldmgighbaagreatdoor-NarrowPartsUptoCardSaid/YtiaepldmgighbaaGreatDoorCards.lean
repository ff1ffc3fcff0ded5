/-
  DERIVED. GIVEN WITH THE SEED: THE CARDS: each row of YtiaepldmgighbaaGreatDoorRows.lean that lists a variable, with what it lists TIED to the program's text (the seventh form; the later family's looks); each row that meets fmt, with fmt's text TOLD by the authors' own Lean function (tested against real Go, not proved from fmt's source: count such statements apart). THE CARD IS WHAT COUNTS. Prove the row's statement (the work); the ties are given (YtiaepldmgighbaaGreatDoorTie.lean); close each card by the builder's one call (the guide's Derived/Test/ToyasCard.lean, 'card_holds'). Laid BY PROGRAM, IN A SANDBOX (cutbox-door.mjs). By AI agents, Wed Nov 11 2026. No macro, syntax, notation, axiom, sorry.
-/
import Derived.Test.YtiaepldmgighbaaGreatDoorRows
import GoSem.ClaimSeven
namespace Go.Proofs.YtiaepldmgighbaaGreatDoor
namespace Rows

/-- THE TIED CARD OF 'shucklaw9.RelateOfNothing'. -/
def relateOfNothingCard : Claim7 := { stood := { row := relateOfNothingRow, standIns := [], harness := (true, "638fbb66f51bec77a8498dbfc8d47d2d9eac1c18138397ff72868d152753c68d"), looks := false }, kinds := [], alts := [], laidByText := true, laidKinds := [.data, .data, .data], laidTests := true, laidLooks := .later }
def RelateOfNothingCardSaid : Prop := Claim7.holds Tryz.pinned (.plain (OpenSpec.ofChange relateOfNothingSpec)) relateOfNothingCard

/-- THE TIED CARD OF 'shucklaw9.RelateSelf'. -/
def relateSelfCard : Claim7 := { stood := { row := relateSelfRow, standIns := [], harness := (true, "638fbb66f51bec77a8498dbfc8d47d2d9eac1c18138397ff72868d152753c68d"), looks := false }, kinds := [], alts := [], laidByText := true, laidKinds := [.data, .data, .data], laidTests := true, laidLooks := .later }
def RelateSelfCardSaid : Prop := Claim7.holds Tryz.pinned (.plain (OpenSpec.ofChange relateSelfSpec)) relateSelfCard

/-- THE TIED CARD OF 'shucklaw9.RelateUnions'. -/
def relateUnionsCard : Claim7 := { stood := { row := relateUnionsRow, standIns := [], harness := (true, "638fbb66f51bec77a8498dbfc8d47d2d9eac1c18138397ff72868d152753c68d"), looks := false }, kinds := [], alts := [], laidByText := true, laidKinds := [.data, .data, .data], laidTests := true, laidLooks := .later }
def RelateUnionsCardSaid : Prop := Claim7.holds Tryz.pinned (.plain (OpenSpec.ofChange relateUnionsSpec)) relateUnionsCard

/-- THE TIED CARD OF 'shucklaw9.RelateArrays'. -/
def relateArraysCard : Claim7 := { stood := { row := relateArraysRow, standIns := [], harness := (true, "638fbb66f51bec77a8498dbfc8d47d2d9eac1c18138397ff72868d152753c68d"), looks := false }, kinds := [], alts := [], laidByText := true, laidKinds := [.data, .data, .data], laidTests := true, laidLooks := .later }
def RelateArraysCardSaid : Prop := Claim7.holds Tryz.pinned (.plain (OpenSpec.ofChange relateArraysSpec)) relateArraysCard

/-- THE TIED CARD OF 'shucklaw9.RelateObjects'. -/
def relateObjectsCard : Claim7 := { stood := { row := relateObjectsRow, standIns := [], harness := (true, "638fbb66f51bec77a8498dbfc8d47d2d9eac1c18138397ff72868d152753c68d"), looks := false }, kinds := [], alts := [], laidByText := true, laidKinds := [.data, .data, .data], laidTests := true, laidLooks := .later }
def RelateObjectsCardSaid : Prop := Claim7.holds Tryz.pinned (.plain (OpenSpec.ofChange relateObjectsSpec)) relateObjectsCard

/-- THE TIED CARD OF 'shucklaw9.RelateFuncs'. -/
def relateFuncsCard : Claim7 := { stood := { row := relateFuncsRow, standIns := [], harness := (true, "638fbb66f51bec77a8498dbfc8d47d2d9eac1c18138397ff72868d152753c68d"), looks := false }, kinds := [], alts := [], laidByText := true, laidKinds := [.data, .data, .data], laidTests := true, laidLooks := .later }
def RelateFuncsCardSaid : Prop := Claim7.holds Tryz.pinned (.plain (OpenSpec.ofChange relateFuncsSpec)) relateFuncsCard

/-- THE TIED CARD OF 'shucklaw10.NarrowTwice'. -/
def narrowTwiceCard : Claim7 := { stood := { row := narrowTwiceRow, standIns := [], harness := (true, "638fbb66f51bec77a8498dbfc8d47d2d9eac1c18138397ff72868d152753c68d"), looks := false }, kinds := [], alts := [], laidByText := true, laidKinds := [.data, .data, .data], laidTests := true, laidLooks := .later }
def NarrowTwiceCardSaid : Prop := Claim7.holds Tryz.pinned (.plain (OpenSpec.ofChange narrowTwiceSpec)) narrowTwiceCard

/-- THE TIED CARD OF 'shucklaw9.RelateAnswers'. -/
def relateAnswersCard : Claim7 := { stood := { row := relateAnswersRow, standIns := [], harness := (true, "638fbb66f51bec77a8498dbfc8d47d2d9eac1c18138397ff72868d152753c68d"), looks := false }, kinds := [], alts := [], laidByText := true, laidKinds := [.data, .data, .data], laidTests := true, laidLooks := .later }
def RelateAnswersCardSaid : Prop := Claim7.holds Tryz.pinned (.plain (OpenSpec.ofChange relateAnswersSpec)) relateAnswersCard

/-- THE TIED CARD OF 'shucklaw9.RelatePairs'. -/
def relatePairsCard : Claim7 := { stood := { row := relatePairsRow, standIns := [], harness := (true, "638fbb66f51bec77a8498dbfc8d47d2d9eac1c18138397ff72868d152753c68d"), looks := false }, kinds := [], alts := [], laidByText := true, laidKinds := [.data, .data, .data], laidTests := true, laidLooks := .later }
def RelatePairsCardSaid : Prop := Claim7.holds Tryz.pinned (.plain (OpenSpec.ofChange relatePairsSpec)) relatePairsCard

/-- THE TIED CARD OF 'shucklaw10.NarrowParts'. -/
def narrowPartsCard : Claim7 := { stood := { row := narrowPartsRow, standIns := [], harness := (true, "638fbb66f51bec77a8498dbfc8d47d2d9eac1c18138397ff72868d152753c68d"), looks := false }, kinds := [], alts := [], laidByText := true, laidKinds := [.data, .data, .data], laidTests := true, laidLooks := .later }
def NarrowPartsCardSaid : Prop := Claim7.holds Tryz.pinned (.plain (OpenSpec.ofChange narrowPartsSpec)) narrowPartsCard

/-- THE TIED CARD OF 'shucklaw10.NarrowKeeps'. -/
def narrowKeepsCard : Claim7 := { stood := { row := narrowKeepsRow, standIns := [], harness := (true, "638fbb66f51bec77a8498dbfc8d47d2d9eac1c18138397ff72868d152753c68d"), looks := false }, kinds := [], alts := [], laidByText := true, laidKinds := [.data, .data, .data], laidTests := true, laidLooks := .later }
def NarrowKeepsCardSaid : Prop := Claim7.holds Tryz.pinned (.plain (OpenSpec.ofChange narrowKeepsSpec)) narrowKeepsCard

/-- THE TIED CARD OF 'shucklaw10.NarrowOfNothing'. -/
def narrowOfNothingCard : Claim7 := { stood := { row := narrowOfNothingRow, standIns := [], harness := (true, "638fbb66f51bec77a8498dbfc8d47d2d9eac1c18138397ff72868d152753c68d"), looks := false }, kinds := [], alts := [], laidByText := true, laidKinds := [.data, .data, .data], laidTests := true, laidLooks := .later }
def NarrowOfNothingCardSaid : Prop := Claim7.holds Tryz.pinned (.plain (OpenSpec.ofChange narrowOfNothingSpec)) narrowOfNothingCard

/-- THE TIED CARD OF 'shucklaw10.NarrowAssigned'. -/
def narrowAssignedCard : Claim7 := { stood := { row := narrowAssignedRow, standIns := [], harness := (true, "638fbb66f51bec77a8498dbfc8d47d2d9eac1c18138397ff72868d152753c68d"), looks := false }, kinds := [], alts := [], laidByText := true, laidKinds := [.data, .data, .data], laidTests := true, laidLooks := .later }
def NarrowAssignedCardSaid : Prop := Claim7.holds Tryz.pinned (.plain (OpenSpec.ofChange narrowAssignedSpec)) narrowAssignedCard

/-- THE SECOND FORM's CARD OF 'shucklaw9.RelateOfNothing'. -/
def relateOfNothingUptoCard : Claim7 := { stood := { row := relateOfNothingUptoRow, standIns := [], harness := (true, "638fbb66f51bec77a8498dbfc8d47d2d9eac1c18138397ff72868d152753c68d"), looks := false }, kinds := [], alts := [], laidByText := true, laidKinds := [.data, .data, .data], laidTests := true, laidLooks := .later }
def RelateOfNothingUptoCardSaid : Prop := Claim7.holds Tryz.pinned (.plain (OpenSpec.upto relateOfNothingSpec)) relateOfNothingUptoCard

/-- THE SECOND FORM's CARD OF 'shucklaw9.RelateSelf'. -/
def relateSelfUptoCard : Claim7 := { stood := { row := relateSelfUptoRow, standIns := [], harness := (true, "638fbb66f51bec77a8498dbfc8d47d2d9eac1c18138397ff72868d152753c68d"), looks := false }, kinds := [], alts := [], laidByText := true, laidKinds := [.data, .data, .data], laidTests := true, laidLooks := .later }
def RelateSelfUptoCardSaid : Prop := Claim7.holds Tryz.pinned (.plain (OpenSpec.upto relateSelfSpec)) relateSelfUptoCard

/-- THE SECOND FORM's CARD OF 'shucklaw9.RelateUnions'. -/
def relateUnionsUptoCard : Claim7 := { stood := { row := relateUnionsUptoRow, standIns := [], harness := (true, "638fbb66f51bec77a8498dbfc8d47d2d9eac1c18138397ff72868d152753c68d"), looks := false }, kinds := [], alts := [], laidByText := true, laidKinds := [.data, .data, .data], laidTests := true, laidLooks := .later }
def RelateUnionsUptoCardSaid : Prop := Claim7.holds Tryz.pinned (.plain (OpenSpec.upto relateUnionsSpec)) relateUnionsUptoCard

/-- THE SECOND FORM's CARD OF 'shucklaw9.RelateArrays'. -/
def relateArraysUptoCard : Claim7 := { stood := { row := relateArraysUptoRow, standIns := [], harness := (true, "638fbb66f51bec77a8498dbfc8d47d2d9eac1c18138397ff72868d152753c68d"), looks := false }, kinds := [], alts := [], laidByText := true, laidKinds := [.data, .data, .data], laidTests := true, laidLooks := .later }
def RelateArraysUptoCardSaid : Prop := Claim7.holds Tryz.pinned (.plain (OpenSpec.upto relateArraysSpec)) relateArraysUptoCard

/-- THE SECOND FORM's CARD OF 'shucklaw9.RelateObjects'. -/
def relateObjectsUptoCard : Claim7 := { stood := { row := relateObjectsUptoRow, standIns := [], harness := (true, "638fbb66f51bec77a8498dbfc8d47d2d9eac1c18138397ff72868d152753c68d"), looks := false }, kinds := [], alts := [], laidByText := true, laidKinds := [.data, .data, .data], laidTests := true, laidLooks := .later }
def RelateObjectsUptoCardSaid : Prop := Claim7.holds Tryz.pinned (.plain (OpenSpec.upto relateObjectsSpec)) relateObjectsUptoCard

/-- THE SECOND FORM's CARD OF 'shucklaw9.RelateFuncs'. -/
def relateFuncsUptoCard : Claim7 := { stood := { row := relateFuncsUptoRow, standIns := [], harness := (true, "638fbb66f51bec77a8498dbfc8d47d2d9eac1c18138397ff72868d152753c68d"), looks := false }, kinds := [], alts := [], laidByText := true, laidKinds := [.data, .data, .data], laidTests := true, laidLooks := .later }
def RelateFuncsUptoCardSaid : Prop := Claim7.holds Tryz.pinned (.plain (OpenSpec.upto relateFuncsSpec)) relateFuncsUptoCard

/-- THE SECOND FORM's CARD OF 'shucklaw10.NarrowTwice'. -/
def narrowTwiceUptoCard : Claim7 := { stood := { row := narrowTwiceUptoRow, standIns := [], harness := (true, "638fbb66f51bec77a8498dbfc8d47d2d9eac1c18138397ff72868d152753c68d"), looks := false }, kinds := [], alts := [], laidByText := true, laidKinds := [.data, .data, .data], laidTests := true, laidLooks := .later }
def NarrowTwiceUptoCardSaid : Prop := Claim7.holds Tryz.pinned (.plain (OpenSpec.upto narrowTwiceSpec)) narrowTwiceUptoCard

/-- THE SECOND FORM's CARD OF 'shucklaw9.RelateAnswers'. -/
def relateAnswersUptoCard : Claim7 := { stood := { row := relateAnswersUptoRow, standIns := [], harness := (true, "638fbb66f51bec77a8498dbfc8d47d2d9eac1c18138397ff72868d152753c68d"), looks := false }, kinds := [], alts := [], laidByText := true, laidKinds := [.data, .data, .data], laidTests := true, laidLooks := .later }
def RelateAnswersUptoCardSaid : Prop := Claim7.holds Tryz.pinned (.plain (OpenSpec.upto relateAnswersSpec)) relateAnswersUptoCard

/-- THE SECOND FORM's CARD OF 'shucklaw9.RelatePairs'. -/
def relatePairsUptoCard : Claim7 := { stood := { row := relatePairsUptoRow, standIns := [], harness := (true, "638fbb66f51bec77a8498dbfc8d47d2d9eac1c18138397ff72868d152753c68d"), looks := false }, kinds := [], alts := [], laidByText := true, laidKinds := [.data, .data, .data], laidTests := true, laidLooks := .later }
def RelatePairsUptoCardSaid : Prop := Claim7.holds Tryz.pinned (.plain (OpenSpec.upto relatePairsSpec)) relatePairsUptoCard

/-- THE SECOND FORM's CARD OF 'shucklaw10.NarrowParts'. -/
def narrowPartsUptoCard : Claim7 := { stood := { row := narrowPartsUptoRow, standIns := [], harness := (true, "638fbb66f51bec77a8498dbfc8d47d2d9eac1c18138397ff72868d152753c68d"), looks := false }, kinds := [], alts := [], laidByText := true, laidKinds := [.data, .data, .data], laidTests := true, laidLooks := .later }
def NarrowPartsUptoCardSaid : Prop := Claim7.holds Tryz.pinned (.plain (OpenSpec.upto narrowPartsSpec)) narrowPartsUptoCard

/-- THE SECOND FORM's CARD OF 'shucklaw10.NarrowKeeps'. -/
def narrowKeepsUptoCard : Claim7 := { stood := { row := narrowKeepsUptoRow, standIns := [], harness := (true, "638fbb66f51bec77a8498dbfc8d47d2d9eac1c18138397ff72868d152753c68d"), looks := false }, kinds := [], alts := [], laidByText := true, laidKinds := [.data, .data, .data], laidTests := true, laidLooks := .later }
def NarrowKeepsUptoCardSaid : Prop := Claim7.holds Tryz.pinned (.plain (OpenSpec.upto narrowKeepsSpec)) narrowKeepsUptoCard

/-- THE SECOND FORM's CARD OF 'shucklaw10.NarrowOfNothing'. -/
def narrowOfNothingUptoCard : Claim7 := { stood := { row := narrowOfNothingUptoRow, standIns := [], harness := (true, "638fbb66f51bec77a8498dbfc8d47d2d9eac1c18138397ff72868d152753c68d"), looks := false }, kinds := [], alts := [], laidByText := true, laidKinds := [.data, .data, .data], laidTests := true, laidLooks := .later }
def NarrowOfNothingUptoCardSaid : Prop := Claim7.holds Tryz.pinned (.plain (OpenSpec.upto narrowOfNothingSpec)) narrowOfNothingUptoCard

/-- THE SECOND FORM's CARD OF 'shucklaw10.NarrowAssigned'. -/
def narrowAssignedUptoCard : Claim7 := { stood := { row := narrowAssignedUptoRow, standIns := [], harness := (true, "638fbb66f51bec77a8498dbfc8d47d2d9eac1c18138397ff72868d152753c68d"), looks := false }, kinds := [], alts := [], laidByText := true, laidKinds := [.data, .data, .data], laidTests := true, laidLooks := .later }
def NarrowAssignedUptoCardSaid : Prop := Claim7.holds Tryz.pinned (.plain (OpenSpec.upto narrowAssignedSpec)) narrowAssignedUptoCard
end Rows
end Go.Proofs.YtiaepldmgighbaaGreatDoor
