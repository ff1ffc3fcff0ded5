/-
  DERIVED. GIVEN WITH THE SEED: THE CARDS: each row of YtbghpkoimbmijaaGreatDoorRows.lean that lists a variable, with what it lists TIED to the program's text (the seventh form; the later family's looks); each row that meets fmt, with fmt's text TOLD by the authors' own Lean function (tested against real Go, not proved from fmt's source: count such statements apart). THE CARD IS WHAT COUNTS. Prove the row's statement (the work); the ties are given (YtbghpkoimbmijaaGreatDoorTie.lean); close each card by the builder's one call (the guide's Derived/Test/ToyasCard.lean, 'card_holds'). Laid BY PROGRAM, IN A SANDBOX (cutbox-door.mjs). By AI agents, Wed Nov 11 2026. No macro, syntax, notation, axiom, sorry.
-/
import Derived.Test.YtbghpkoimbmijaaGreatDoorRows
import GoSem.ClaimSeven
namespace Go.Proofs.YtbghpkoimbmijaaGreatDoor
namespace Rows

/-- THE TIED CARD OF 'shucklaw8.KindsSame'. -/
def kindsSameCard : Claim7 := { stood := { row := kindsSameRow, standIns := [], harness := (true, "cd52a2357ec9cc24d49eed46c8dbdbe85309423c0cb8ba95620bed5c8f0060ef"), looks := false }, kinds := [], alts := [], laidByText := true, laidKinds := [.data, .data, .data], laidTests := true, laidLooks := .later }
def KindsSameCardSaid : Prop := Claim7.holds Tryz.pinned (.plain (OpenSpec.ofChange kindsSameSpec)) kindsSameCard

/-- THE TIED CARD OF 'shucklaw8.KindsOfNothing'. -/
def kindsOfNothingCard : Claim7 := { stood := { row := kindsOfNothingRow, standIns := [], harness := (true, "cd52a2357ec9cc24d49eed46c8dbdbe85309423c0cb8ba95620bed5c8f0060ef"), looks := false }, kinds := [], alts := [], laidByText := true, laidKinds := [.data, .data, .data], laidTests := true, laidLooks := .later }
def KindsOfNothingCardSaid : Prop := Claim7.holds Tryz.pinned (.plain (OpenSpec.ofChange kindsOfNothingSpec)) kindsOfNothingCard

/-- THE SECOND FORM's CARD OF 'shucklaw8.KindsSame'. -/
def kindsSameUptoCard : Claim7 := { stood := { row := kindsSameUptoRow, standIns := [], harness := (true, "cd52a2357ec9cc24d49eed46c8dbdbe85309423c0cb8ba95620bed5c8f0060ef"), looks := false }, kinds := [], alts := [], laidByText := true, laidKinds := [.data, .data, .data], laidTests := true, laidLooks := .later }
def KindsSameUptoCardSaid : Prop := Claim7.holds Tryz.pinned (.plain (OpenSpec.upto kindsSameSpec)) kindsSameUptoCard

/-- THE SECOND FORM's CARD OF 'shucklaw8.KindsOfNothing'. -/
def kindsOfNothingUptoCard : Claim7 := { stood := { row := kindsOfNothingUptoRow, standIns := [], harness := (true, "cd52a2357ec9cc24d49eed46c8dbdbe85309423c0cb8ba95620bed5c8f0060ef"), looks := false }, kinds := [], alts := [], laidByText := true, laidKinds := [.data, .data, .data], laidTests := true, laidLooks := .later }
def KindsOfNothingUptoCardSaid : Prop := Claim7.holds Tryz.pinned (.plain (OpenSpec.upto kindsOfNothingSpec)) kindsOfNothingUptoCard
end Rows
end Go.Proofs.YtbghpkoimbmijaaGreatDoor
