/-
  DERIVED. GIVEN WITH THE SEED: THE CARDS: each row of YtbghpkoimbmijaaDoorRows.lean that lists a variable, with what it lists TIED to the program's text (the seventh form; the later family's looks); each row that meets fmt, with fmt's text TOLD by the authors' own Lean function (tested against real Go, not proved from fmt's source: count such statements apart). THE CARD IS WHAT COUNTS. Prove the row's statement (the work); the ties are given (YtbghpkoimbmijaaDoorTie.lean); close each card by the builder's one call (the guide's Derived/Test/ToyasCard.lean, 'card_holds'). Laid BY PROGRAM, IN A SANDBOX (cutbox-door.mjs). By AI agents, Wed Nov 11 2026. No macro, syntax, notation, axiom, sorry.
-/
import Derived.Test.YtbghpkoimbmijaaDoorRows
import GoSem.ClaimSeven
namespace Go.Proofs.YtbghpkoimbmijaaDoor
namespace Rows

/-- THE TIED CARD OF 'shucklaw8.KindsUnions'. -/
def kindsUnionsCard : Claim7 := { stood := { row := kindsUnionsRow, standIns := [], harness := (true, "bbbc2aee2e8ddcb5beea0dcaaf6c0a8c97f71b685c71edae048c68e325423c48"), looks := false }, kinds := [], alts := [], laidByText := true, laidKinds := [.data, .data, .data], laidTests := true, laidLooks := .later }
def KindsUnionsCardSaid : Prop := Claim7.holds Tryd.pinned (.plain (OpenSpec.ofChange kindsUnionsSpec)) kindsUnionsCard

/-- THE SECOND FORM's CARD OF 'shucklaw8.KindsUnions'. -/
def kindsUnionsUptoCard : Claim7 := { stood := { row := kindsUnionsUptoRow, standIns := [], harness := (true, "bbbc2aee2e8ddcb5beea0dcaaf6c0a8c97f71b685c71edae048c68e325423c48"), looks := false }, kinds := [], alts := [], laidByText := true, laidKinds := [.data, .data, .data], laidTests := true, laidLooks := .later }
def KindsUnionsUptoCardSaid : Prop := Claim7.holds Tryd.pinned (.plain (OpenSpec.upto kindsUnionsSpec)) kindsUnionsUptoCard
end Rows
end Go.Proofs.YtbghpkoimbmijaaDoor
