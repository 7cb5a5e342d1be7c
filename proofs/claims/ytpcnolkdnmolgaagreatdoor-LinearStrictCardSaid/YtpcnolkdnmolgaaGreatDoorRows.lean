/-
  NARROWER THAN 'FOR EVERY INPUT', by the rows' own cells (each row's printed sentence says how): ModelApart: laid · ModelHolds: laid · ModelBack: laid · LinearStrict: laid · LinearTells: laid.
  DERIVED. THE GIVEN ROWS OF THIS SEAT. 5 by the template 'for every input the law returns true; each argument reads behind the call as it read before'; 0 by the template 'total and deterministic' (their statements: YtpcnolkdnmolgaaGreatDoorTotals.lean).
  GIVEN WITH THE SEED: the statements are not yours to turn. If you find one false, say at which input.
  Laid BY PROGRAM, IN A SANDBOX (cutbox-rows.mjs): the forced cells as the released guide's own fill.sh prints them over the translation ea0e6e43b0c25cee… (all of the seat's roots in one cut). By AI agents, Wed Nov 11 2026. No macro, syntax, notation, axiom, sorry.
-/
import Derived.Test.YtpcnolkdnmolgaaGreatDoorChecked
import GoSem.Claim
import GoSem.ClaimJoined
import GoSem.ClaimMapViews
import Derived.JoinedTies
import Derived.KernelRfl
namespace Go.Proofs.YtpcnolkdnmolgaaGreatDoor
/- THE CELL 'sum', in the pinned program and in every row, IS THE sha256 OF THE DUMP (.gsa) THAT YtpcnolkdnmolgaaGreatDoorProg.lean LOADS. Nothing in Lean hashes anything: it is a label: what it is worth is what the hold of that sum in a sandbox is worth. -/
noncomputable def Tryz.pinned : Pinned := { name := "ytpcnolkdnmolgaagreatdoor", sum := "ea0e6e43b0c25cee13fa175c751d4106b664e20a5e3832a37bfada9af62d9eeb", checked := Tryz.checked }
namespace Rows
def none {H : Type} : Left H := { results := [], args := [] }

/- WHAT THE LISTED PACKAGE-LEVEL VARIABLES READ AS WHEN THE CALL BEGINS. Each datum BY PROGRAM (the guide's laid-datum.mjs) off the statement by which the dump's own 'gosem.cut.vars' lays the variable. In a bare row this is a premise. The card (YtpcnolkdnmolgaaGreatDoorCards.lean) ties it to the program's text. -/
def laid_lunette_call_kinds {H : Type} : DataW H := .agg [.agg [.lit (.string []), .lit (.int .i64 0)], .agg [.lit (.string [111, 112, 101, 110]), .lit (.int .i64 1)], .agg [.lit (.string [99, 114, 101, 97, 116, 101]), .lit (.int .i64 65)], .agg [.lit (.string [114, 101, 97, 100]), .lit (.int .i64 12)], .agg [.lit (.string [119, 114, 105, 116, 101]), .lit (.int .i64 44)], .agg [.lit (.string [116, 114, 117, 110, 99]), .lit (.int .i64 20)], .agg [.lit (.string [108, 105, 110, 107]), .lit (.int .i64 131)], .agg [.lit (.string [117, 110, 108, 105, 110, 107]), .lit (.int .i64 65)], .agg [.lit (.string [114, 101, 110, 97, 109, 101]), .lit (.int .i64 195)], .agg [.lit (.string [109, 107, 100, 105, 114]), .lit (.int .i64 65)], .agg [.lit (.string [114, 109, 100, 105, 114]), .lit (.int .i64 65)], .agg [.lit (.string [108, 105, 115, 116]), .lit (.int .i64 1)], .agg [.lit (.string [115, 116, 97, 116]), .lit (.int .i64 1)], .agg [.lit (.string [99, 108, 111, 115, 101]), .lit (.int .i64 4)], .agg [.lit (.string [102, 115, 121, 110, 99]), .lit (.int .i64 4)], .agg [.lit (.string [115, 121, 110, 99]), .lit (.int .i64 0)]]

/-- 'lunettelaw21.ModelApart': WHATEVER THE INPUT: true; the input reads as it did. -/
def modelApartSpec : ChangeSpec := { name := "modelApart", fn := fun _ => fun
  | [d] => { results := [.lit (.bool true)], args := [d] }
  | _ => none }
def modelApartRow : OpenClaim := { program := "ytpcnolkdnmolgaagreatdoor", sum := "ea0e6e43b0c25cee13fa175c751d4106b664e20a5e3832a37bfada9af62d9eeb", func := "lunette/lunettelaw21.ModelApart", spec := "modelApart", inPlace := ["internal/bytealg.IndexByteString", "internal/bytealg.IndexString", "maps.clone"], unfollowed := true, recurses := true, named := ["lunette/call.kinds", "internal/bytealg.MaxLen"], apart := false, laid := [("lunette/call.kinds", laid_lunette_call_kinds)] }
def ModelApartSaid : Prop := modelApartRow.holds Tryz.pinned (OpenSpec.ofChange modelApartSpec)

/-- ITS FALSE NEIGHBOUR: 'it returns false'. Refute it at one input. -/
def modelApartWrong : ChangeSpec := { name := "modelApart", fn := fun _ => fun
  | [d] => { results := [.lit (.bool false)], args := [d] }
  | _ => none }
def ModelApartWrongFalsely : Prop := modelApartRow.holds Tryz.pinned (OpenSpec.ofChange modelApartWrong)

/-- 'lunettelaw21.ModelHolds': WHATEVER THE INPUT: true; the input reads as it did. -/
def modelHoldsSpec : ChangeSpec := { name := "modelHolds", fn := fun _ => fun
  | [d1, d2, d3] => { results := [.lit (.bool true)], args := [d1, d2, d3] }
  | _ => none }
def modelHoldsRow : OpenClaim := { program := "ytpcnolkdnmolgaagreatdoor", sum := "ea0e6e43b0c25cee13fa175c751d4106b664e20a5e3832a37bfada9af62d9eeb", func := "lunette/lunettelaw21.ModelHolds", spec := "modelHolds", inPlace := ["internal/bytealg.IndexByteString", "internal/bytealg.IndexString", "maps.clone"], unfollowed := true, recurses := true, named := ["lunette/call.kinds", "internal/bytealg.MaxLen"], apart := false, laid := [("lunette/call.kinds", laid_lunette_call_kinds)] }
def ModelHoldsSaid : Prop := modelHoldsRow.holds Tryz.pinned (OpenSpec.ofChange modelHoldsSpec)

/-- ITS FALSE NEIGHBOUR: 'it returns false'. Refute it at one input. -/
def modelHoldsWrong : ChangeSpec := { name := "modelHolds", fn := fun _ => fun
  | [d1, d2, d3] => { results := [.lit (.bool false)], args := [d1, d2, d3] }
  | _ => none }
def ModelHoldsWrongFalsely : Prop := modelHoldsRow.holds Tryz.pinned (OpenSpec.ofChange modelHoldsWrong)

/-- 'lunettelaw21.ModelBack': WHATEVER THE INPUT: true; the input reads as it did. -/
def modelBackSpec : ChangeSpec := { name := "modelBack", fn := fun _ => fun
  | [d1, d2, d3] => { results := [.lit (.bool true)], args := [d1, d2, d3] }
  | _ => none }
def modelBackRow : OpenClaim := { program := "ytpcnolkdnmolgaagreatdoor", sum := "ea0e6e43b0c25cee13fa175c751d4106b664e20a5e3832a37bfada9af62d9eeb", func := "lunette/lunettelaw21.ModelBack", spec := "modelBack", inPlace := ["internal/bytealg.IndexByteString", "internal/bytealg.IndexString", "maps.clone"], unfollowed := true, recurses := true, named := ["lunette/call.kinds", "internal/bytealg.MaxLen"], apart := false, laid := [("lunette/call.kinds", laid_lunette_call_kinds)] }
def ModelBackSaid : Prop := modelBackRow.holds Tryz.pinned (OpenSpec.ofChange modelBackSpec)

/-- ITS FALSE NEIGHBOUR: 'it returns false'. Refute it at one input. -/
def modelBackWrong : ChangeSpec := { name := "modelBack", fn := fun _ => fun
  | [d1, d2, d3] => { results := [.lit (.bool false)], args := [d1, d2, d3] }
  | _ => none }
def ModelBackWrongFalsely : Prop := modelBackRow.holds Tryz.pinned (OpenSpec.ofChange modelBackWrong)

/-- 'lunettelaw31.LinearStrict': WHATEVER THE INPUT: true; the input reads as it did. -/
def linearStrictSpec : ChangeSpec := { name := "linearStrict", fn := fun _ => fun
  | [d1, d2, d3, d4, d5, d6] => { results := [.lit (.bool true)], args := [d1, d2, d3, d4, d5, d6] }
  | _ => none }
def linearStrictRow : OpenClaim := { program := "ytpcnolkdnmolgaagreatdoor", sum := "ea0e6e43b0c25cee13fa175c751d4106b664e20a5e3832a37bfada9af62d9eeb", func := "lunette/lunettelaw31.LinearStrict", spec := "linearStrict", inPlace := ["internal/bytealg.IndexByteString", "internal/bytealg.IndexString"], unfollowed := true, recurses := true, named := ["lunette/call.kinds", "internal/bytealg.MaxLen"], apart := false, laid := [("lunette/call.kinds", laid_lunette_call_kinds)] }
def LinearStrictSaid : Prop := linearStrictRow.holds Tryz.pinned (OpenSpec.ofChange linearStrictSpec)

/-- ITS FALSE NEIGHBOUR: 'it returns false'. Refute it at one input. -/
def linearStrictWrong : ChangeSpec := { name := "linearStrict", fn := fun _ => fun
  | [d1, d2, d3, d4, d5, d6] => { results := [.lit (.bool false)], args := [d1, d2, d3, d4, d5, d6] }
  | _ => none }
def LinearStrictWrongFalsely : Prop := linearStrictRow.holds Tryz.pinned (OpenSpec.ofChange linearStrictWrong)

/-- 'lunettelaw31.LinearTells': WHATEVER THE INPUT: true; the input reads as it did. -/
def linearTellsSpec : ChangeSpec := { name := "linearTells", fn := fun _ => fun
  | [d1, d2, d3, d4, d5] => { results := [.lit (.bool true)], args := [d1, d2, d3, d4, d5] }
  | _ => none }
def linearTellsRow : OpenClaim := { program := "ytpcnolkdnmolgaagreatdoor", sum := "ea0e6e43b0c25cee13fa175c751d4106b664e20a5e3832a37bfada9af62d9eeb", func := "lunette/lunettelaw31.LinearTells", spec := "linearTells", inPlace := ["internal/bytealg.IndexByteString", "internal/bytealg.IndexString", "maps.clone"], unfollowed := true, recurses := true, named := ["lunette/call.kinds", "internal/bytealg.MaxLen"], apart := false, laid := [("lunette/call.kinds", laid_lunette_call_kinds)] }
def LinearTellsSaid : Prop := linearTellsRow.holds Tryz.pinned (OpenSpec.ofChange linearTellsSpec)

/-- ITS FALSE NEIGHBOUR: 'it returns false'. Refute it at one input. -/
def linearTellsWrong : ChangeSpec := { name := "linearTells", fn := fun _ => fun
  | [d1, d2, d3, d4, d5] => { results := [.lit (.bool false)], args := [d1, d2, d3, d4, d5] }
  | _ => none }
def LinearTellsWrongFalsely : Prop := linearTellsRow.holds Tryz.pinned (OpenSpec.ofChange linearTellsWrong)

/- THE SECOND FORM. 'bulk': how many values and letters a reading holds, each counted each time it is reached (what is shared counts as often as it is met; a slice's spare places count too). A statement '..UptoSaid' is the law's where the arguments, and the package variables that the reading takes, are together of bulk at most 1048576: NARROWER than '..Said'. Prove '..Said' where nothing that the law and all that it calls make is longer than what came in: it says more and counts as full. Else prove '..UptoSaid'. A law counts once. -/
mutual
def uptoBulk {H : Type} : DataW H → Nat
  | .lit (.string bytes) => bytes.length + 1
  | .lit _ => 1
  | .nil => 1
  | .ptr d => uptoBulk d + 1
  | .slice elems spare => uptoBulkAll elems + uptoBulkAll spare + 1
  | .agg parts => uptoBulkAll parts + 1
  | .iface _ d => uptoBulk d + 1
  | .map entries => uptoBulkEntries entries + 1
  | .held _ => 1
def uptoBulkAll {H : Type} : List (DataW H) → Nat
  | [] => 0
  | d :: r => uptoBulk d + uptoBulkAll r
def uptoBulkEntries {H : Type} : List (Lit × DataW H) → Nat
  | [] => 0
  | x :: r => uptoBulkEntry x + uptoBulkEntries r
def uptoBulkEntry {H : Type} : Lit × DataW H → Nat
  | (.string bytes, d) => bytes.length + uptoBulk d + 1
  | (_, d) => uptoBulk d + 1
 end
def uptoSmall : (H : Type) → List (DataW H) → Bool := fun _ ds => decide (uptoBulkAll ds ≤ 1048576)
def OpenSpec.upto (s : _root_.Go.ChangeSpec) : _root_.Go.OpenSpec := { _root_.Go.OpenSpec.ofChange s with cond := some uptoSmall }

/-- 'lunettelaw21.ModelApart', WHERE WHAT IT READS IS OF BULK AT MOST 1048576: true; the input reads as it did. -/
def modelApartUptoRow : OpenClaim := { program := "ytpcnolkdnmolgaagreatdoor", sum := "ea0e6e43b0c25cee13fa175c751d4106b664e20a5e3832a37bfada9af62d9eeb", func := "lunette/lunettelaw21.ModelApart", spec := "modelApart", inPlace := ["internal/bytealg.IndexByteString", "internal/bytealg.IndexString", "maps.clone"], unfollowed := true, recurses := true, named := ["lunette/call.kinds", "internal/bytealg.MaxLen"], apart := false, laid := [("lunette/call.kinds", laid_lunette_call_kinds)], narrowed := true }
def ModelApartUptoSaid : Prop := modelApartUptoRow.holds Tryz.pinned (OpenSpec.upto modelApartSpec)

/-- 'lunettelaw21.ModelHolds', WHERE WHAT IT READS IS OF BULK AT MOST 1048576: true; the input reads as it did. -/
def modelHoldsUptoRow : OpenClaim := { program := "ytpcnolkdnmolgaagreatdoor", sum := "ea0e6e43b0c25cee13fa175c751d4106b664e20a5e3832a37bfada9af62d9eeb", func := "lunette/lunettelaw21.ModelHolds", spec := "modelHolds", inPlace := ["internal/bytealg.IndexByteString", "internal/bytealg.IndexString", "maps.clone"], unfollowed := true, recurses := true, named := ["lunette/call.kinds", "internal/bytealg.MaxLen"], apart := false, laid := [("lunette/call.kinds", laid_lunette_call_kinds)], narrowed := true }
def ModelHoldsUptoSaid : Prop := modelHoldsUptoRow.holds Tryz.pinned (OpenSpec.upto modelHoldsSpec)

/-- 'lunettelaw21.ModelBack', WHERE WHAT IT READS IS OF BULK AT MOST 1048576: true; the input reads as it did. -/
def modelBackUptoRow : OpenClaim := { program := "ytpcnolkdnmolgaagreatdoor", sum := "ea0e6e43b0c25cee13fa175c751d4106b664e20a5e3832a37bfada9af62d9eeb", func := "lunette/lunettelaw21.ModelBack", spec := "modelBack", inPlace := ["internal/bytealg.IndexByteString", "internal/bytealg.IndexString", "maps.clone"], unfollowed := true, recurses := true, named := ["lunette/call.kinds", "internal/bytealg.MaxLen"], apart := false, laid := [("lunette/call.kinds", laid_lunette_call_kinds)], narrowed := true }
def ModelBackUptoSaid : Prop := modelBackUptoRow.holds Tryz.pinned (OpenSpec.upto modelBackSpec)

/-- 'lunettelaw31.LinearStrict', WHERE WHAT IT READS IS OF BULK AT MOST 1048576: true; the input reads as it did. -/
def linearStrictUptoRow : OpenClaim := { program := "ytpcnolkdnmolgaagreatdoor", sum := "ea0e6e43b0c25cee13fa175c751d4106b664e20a5e3832a37bfada9af62d9eeb", func := "lunette/lunettelaw31.LinearStrict", spec := "linearStrict", inPlace := ["internal/bytealg.IndexByteString", "internal/bytealg.IndexString"], unfollowed := true, recurses := true, named := ["lunette/call.kinds", "internal/bytealg.MaxLen"], apart := false, laid := [("lunette/call.kinds", laid_lunette_call_kinds)], narrowed := true }
def LinearStrictUptoSaid : Prop := linearStrictUptoRow.holds Tryz.pinned (OpenSpec.upto linearStrictSpec)

/-- 'lunettelaw31.LinearTells', WHERE WHAT IT READS IS OF BULK AT MOST 1048576: true; the input reads as it did. -/
def linearTellsUptoRow : OpenClaim := { program := "ytpcnolkdnmolgaagreatdoor", sum := "ea0e6e43b0c25cee13fa175c751d4106b664e20a5e3832a37bfada9af62d9eeb", func := "lunette/lunettelaw31.LinearTells", spec := "linearTells", inPlace := ["internal/bytealg.IndexByteString", "internal/bytealg.IndexString", "maps.clone"], unfollowed := true, recurses := true, named := ["lunette/call.kinds", "internal/bytealg.MaxLen"], apart := false, laid := [("lunette/call.kinds", laid_lunette_call_kinds)], narrowed := true }
def LinearTellsUptoSaid : Prop := linearTellsUptoRow.holds Tryz.pinned (OpenSpec.upto linearTellsSpec)

end Rows
end Go.Proofs.YtpcnolkdnmolgaaGreatDoor
