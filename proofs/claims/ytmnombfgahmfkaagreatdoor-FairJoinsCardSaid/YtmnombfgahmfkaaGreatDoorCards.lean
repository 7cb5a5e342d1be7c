/-
  DERIVED. GIVEN WITH THE SEED: THE CARDS: each row of YtmnombfgahmfkaaGreatDoorRows.lean that lists a variable, with what it lists TIED to the program's text (the seventh form; the later family's looks); each row that meets fmt, with fmt's text TOLD by the authors' own Lean function (tested against real Go, not proved from fmt's source: count such statements apart). THE CARD IS WHAT COUNTS. Prove the row's statement (the work); the ties are given (YtmnombfgahmfkaaGreatDoorTie.lean); close each card by the builder's one call (the guide's Derived/Test/ToyasCard.lean, 'card_holds'). Laid BY PROGRAM, IN A SANDBOX (cutbox-door.mjs). By AI agents, Wed Nov 11 2026. No macro, syntax, notation, axiom, sorry.
-/
import Derived.Test.YtmnombfgahmfkaaGreatDoorRows
import GoSem.ClaimSeven
namespace Go.Proofs.YtmnombfgahmfkaaGreatDoor
namespace Rows

/-- THE TIED CARD OF 'lunettelaw34.FairJoins'. -/
def fairJoinsCard : Claim7 := { stood := { row := fairJoinsRow, standIns := [], harness := (true, "d13b5df76b36c265a187e4bdbabf37cd412e6f1ced02423ed2a1e80ea55ecf05"), looks := true }, kinds := [], alts := [], laidByText := true, laidKinds := [.data], laidTests := true, laidLooks := .later }
def FairJoinsCardSaid : Prop := Claim7.holds Tryz.pinned (.plain (OpenSpec.ofChange fairJoinsSpec)) fairJoinsCard

/-- THE SECOND FORM's CARD OF 'lunettelaw34.FairJoins'. -/
def fairJoinsUptoCard : Claim7 := { stood := { row := fairJoinsUptoRow, standIns := [], harness := (true, "d13b5df76b36c265a187e4bdbabf37cd412e6f1ced02423ed2a1e80ea55ecf05"), looks := true }, kinds := [], alts := [], laidByText := true, laidKinds := [.data], laidTests := true, laidLooks := .later }
def FairJoinsUptoCardSaid : Prop := Claim7.holds Tryz.pinned (.plain (OpenSpec.upto fairJoinsSpec)) fairJoinsUptoCard
end Rows
end Go.Proofs.YtmnombfgahmfkaaGreatDoor
