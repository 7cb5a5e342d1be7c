/-
  DERIVED. GIVEN WITH THE SEED: THE CARDS: each row of YtpcnolkdnmolgaaGreatDoorRows.lean that lists a variable, with what it lists TIED to the program's text (the seventh form; the later family's looks); each row that meets fmt, with fmt's text TOLD by the authors' own Lean function (tested against real Go, not proved from fmt's source: count such statements apart). THE CARD IS WHAT COUNTS. Prove the row's statement (the work); the ties are given (YtpcnolkdnmolgaaGreatDoorTie.lean); close each card by the builder's one call (the guide's Derived/Test/ToyasCard.lean, 'card_holds'). Laid BY PROGRAM, IN A SANDBOX (cutbox-door.mjs). By AI agents, Wed Nov 11 2026. No macro, syntax, notation, axiom, sorry.
-/
import Derived.Test.YtpcnolkdnmolgaaGreatDoorRows
import GoSem.ClaimSeven
namespace Go.Proofs.YtpcnolkdnmolgaaGreatDoor
namespace Rows

/-- THE TIED CARD OF 'lunettelaw21.ModelApart'. -/
def modelApartCard : Claim7 := { stood := { row := modelApartRow, standIns := [], harness := (true, "d8fdc54d2614fafde8e3eb3b616f864b29116823de6716fb277973a530914792"), looks := true }, kinds := [], alts := [], laidByText := true, laidKinds := [.data], laidTests := true, laidLooks := .later }
def ModelApartCardSaid : Prop := Claim7.holds Tryz.pinned (.plain (OpenSpec.ofChange modelApartSpec)) modelApartCard

/-- THE TIED CARD OF 'lunettelaw21.ModelHolds'. -/
def modelHoldsCard : Claim7 := { stood := { row := modelHoldsRow, standIns := [], harness := (true, "d8fdc54d2614fafde8e3eb3b616f864b29116823de6716fb277973a530914792"), looks := true }, kinds := [], alts := [], laidByText := true, laidKinds := [.data], laidTests := true, laidLooks := .later }
def ModelHoldsCardSaid : Prop := Claim7.holds Tryz.pinned (.plain (OpenSpec.ofChange modelHoldsSpec)) modelHoldsCard

/-- THE TIED CARD OF 'lunettelaw21.ModelBack'. -/
def modelBackCard : Claim7 := { stood := { row := modelBackRow, standIns := [], harness := (true, "d8fdc54d2614fafde8e3eb3b616f864b29116823de6716fb277973a530914792"), looks := true }, kinds := [], alts := [], laidByText := true, laidKinds := [.data], laidTests := true, laidLooks := .later }
def ModelBackCardSaid : Prop := Claim7.holds Tryz.pinned (.plain (OpenSpec.ofChange modelBackSpec)) modelBackCard

/-- THE TIED CARD OF 'lunettelaw31.LinearStrict'. -/
def linearStrictCard : Claim7 := { stood := { row := linearStrictRow, standIns := [], harness := (true, "d8fdc54d2614fafde8e3eb3b616f864b29116823de6716fb277973a530914792"), looks := true }, kinds := [], alts := [], laidByText := true, laidKinds := [.data], laidTests := true, laidLooks := .later }
def LinearStrictCardSaid : Prop := Claim7.holds Tryz.pinned (.plain (OpenSpec.ofChange linearStrictSpec)) linearStrictCard

/-- THE TIED CARD OF 'lunettelaw31.LinearTells'. -/
def linearTellsCard : Claim7 := { stood := { row := linearTellsRow, standIns := [], harness := (true, "d8fdc54d2614fafde8e3eb3b616f864b29116823de6716fb277973a530914792"), looks := true }, kinds := [], alts := [], laidByText := true, laidKinds := [.data], laidTests := true, laidLooks := .later }
def LinearTellsCardSaid : Prop := Claim7.holds Tryz.pinned (.plain (OpenSpec.ofChange linearTellsSpec)) linearTellsCard

/-- THE SECOND FORM's CARD OF 'lunettelaw21.ModelApart'. -/
def modelApartUptoCard : Claim7 := { stood := { row := modelApartUptoRow, standIns := [], harness := (true, "d8fdc54d2614fafde8e3eb3b616f864b29116823de6716fb277973a530914792"), looks := true }, kinds := [], alts := [], laidByText := true, laidKinds := [.data], laidTests := true, laidLooks := .later }
def ModelApartUptoCardSaid : Prop := Claim7.holds Tryz.pinned (.plain (OpenSpec.upto modelApartSpec)) modelApartUptoCard

/-- THE SECOND FORM's CARD OF 'lunettelaw21.ModelHolds'. -/
def modelHoldsUptoCard : Claim7 := { stood := { row := modelHoldsUptoRow, standIns := [], harness := (true, "d8fdc54d2614fafde8e3eb3b616f864b29116823de6716fb277973a530914792"), looks := true }, kinds := [], alts := [], laidByText := true, laidKinds := [.data], laidTests := true, laidLooks := .later }
def ModelHoldsUptoCardSaid : Prop := Claim7.holds Tryz.pinned (.plain (OpenSpec.upto modelHoldsSpec)) modelHoldsUptoCard

/-- THE SECOND FORM's CARD OF 'lunettelaw21.ModelBack'. -/
def modelBackUptoCard : Claim7 := { stood := { row := modelBackUptoRow, standIns := [], harness := (true, "d8fdc54d2614fafde8e3eb3b616f864b29116823de6716fb277973a530914792"), looks := true }, kinds := [], alts := [], laidByText := true, laidKinds := [.data], laidTests := true, laidLooks := .later }
def ModelBackUptoCardSaid : Prop := Claim7.holds Tryz.pinned (.plain (OpenSpec.upto modelBackSpec)) modelBackUptoCard

/-- THE SECOND FORM's CARD OF 'lunettelaw31.LinearStrict'. -/
def linearStrictUptoCard : Claim7 := { stood := { row := linearStrictUptoRow, standIns := [], harness := (true, "d8fdc54d2614fafde8e3eb3b616f864b29116823de6716fb277973a530914792"), looks := true }, kinds := [], alts := [], laidByText := true, laidKinds := [.data], laidTests := true, laidLooks := .later }
def LinearStrictUptoCardSaid : Prop := Claim7.holds Tryz.pinned (.plain (OpenSpec.upto linearStrictSpec)) linearStrictUptoCard

/-- THE SECOND FORM's CARD OF 'lunettelaw31.LinearTells'. -/
def linearTellsUptoCard : Claim7 := { stood := { row := linearTellsUptoRow, standIns := [], harness := (true, "d8fdc54d2614fafde8e3eb3b616f864b29116823de6716fb277973a530914792"), looks := true }, kinds := [], alts := [], laidByText := true, laidKinds := [.data], laidTests := true, laidLooks := .later }
def LinearTellsUptoCardSaid : Prop := Claim7.holds Tryz.pinned (.plain (OpenSpec.upto linearTellsSpec)) linearTellsUptoCard
end Rows
end Go.Proofs.YtpcnolkdnmolgaaGreatDoor
