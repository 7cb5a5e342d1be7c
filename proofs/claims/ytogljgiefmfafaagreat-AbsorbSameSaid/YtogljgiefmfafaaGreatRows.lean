/-
  No cell of these rows narrows 'for every input' (looked for: loops, veiled, ifaces, maps, wideKeys, modest, calm, conditions, laid).
  DERIVED. THE GIVEN ROWS OF THIS SEAT. 4 by the template 'for every input the law returns true; each argument reads behind the call as it read before'; 0 by the template 'total and deterministic' (their statements: YtogljgiefmfafaaGreatTotals.lean).
  GIVEN WITH THE SEED: the statements are not yours to turn. If you find one false, say at which input.
  Laid BY PROGRAM, IN A SANDBOX (cutbox-rows.mjs): the forced cells as the released guide's own fill.sh prints them over the translation e74fa7dc6e5b35a0… (all of the seat's roots in one cut). By AI agents, Wed Nov 11 2026. No macro, syntax, notation, axiom, sorry.
-/
import Derived.Test.YtogljgiefmfafaaGreatChecked
import GoSem.Claim
import GoSem.ClaimJoined
import GoSem.ClaimMapViews
import Derived.JoinedTies
import Derived.KernelRfl
namespace Go.Proofs.YtogljgiefmfafaaGreat
/- THE CELL 'sum', in the pinned program and in every row, IS THE sha256 OF THE DUMP (.gsa) THAT YtogljgiefmfafaaGreatProg.lean LOADS. Nothing in Lean hashes anything: it is a label: what it is worth is what the hold of that sum in a sandbox is worth. -/
noncomputable def Tryz.pinned : Pinned := { name := "ytogljgiefmfafaagreat", sum := "e74fa7dc6e5b35a0a08f50a83e7b62f2be58d84c1ad63baae7a3c00f9d78a86d", checked := Tryz.checked }
namespace Rows
def none {H : Type} : Left H := { results := [], args := [] }

/-- 'lunettelaw24.AbsorbSame': WHATEVER THE INPUT: true; the input reads as it did. -/
def absorbSameSpec : ChangeSpec := { name := "absorbSame", fn := fun _ => fun
  | [d1, d2] => { results := [.lit (.bool true)], args := [d1, d2] }
  | _ => none }
def absorbSameRow : OpenClaim := { program := "ytogljgiefmfafaagreat", sum := "e74fa7dc6e5b35a0a08f50a83e7b62f2be58d84c1ad63baae7a3c00f9d78a86d", func := "lunette/lunettelaw24.AbsorbSame", spec := "absorbSame", unfollowed := true, recurses := true, plainKeys := false, apart := false }
def AbsorbSameSaid : Prop := absorbSameRow.holds Tryz.pinned (OpenSpec.ofChange absorbSameSpec)

/-- ITS FALSE NEIGHBOUR: 'it returns false'. Refute it at one input. -/
def absorbSameWrong : ChangeSpec := { name := "absorbSame", fn := fun _ => fun
  | [d1, d2] => { results := [.lit (.bool false)], args := [d1, d2] }
  | _ => none }
def AbsorbSameWrongFalsely : Prop := absorbSameRow.holds Tryz.pinned (OpenSpec.ofChange absorbSameWrong)

/-- 'lunettelaw25.ClosurePlays': WHATEVER THE INPUT: true; the input reads as it did. -/
def closurePlaysSpec : ChangeSpec := { name := "closurePlays", fn := fun _ => fun
  | [d1, d2, d3] => { results := [.lit (.bool true)], args := [d1, d2, d3] }
  | _ => none }
def closurePlaysRow : OpenClaim := { program := "ytogljgiefmfafaagreat", sum := "e74fa7dc6e5b35a0a08f50a83e7b62f2be58d84c1ad63baae7a3c00f9d78a86d", func := "lunette/lunettelaw25.ClosurePlays", spec := "closurePlays", unfollowed := true, recurses := true, plainKeys := false, apart := false }
def ClosurePlaysSaid : Prop := closurePlaysRow.holds Tryz.pinned (OpenSpec.ofChange closurePlaysSpec)

/-- ITS FALSE NEIGHBOUR: 'it returns false'. Refute it at one input. -/
def closurePlaysWrong : ChangeSpec := { name := "closurePlays", fn := fun _ => fun
  | [d1, d2, d3] => { results := [.lit (.bool false)], args := [d1, d2, d3] }
  | _ => none }
def ClosurePlaysWrongFalsely : Prop := closurePlaysRow.holds Tryz.pinned (OpenSpec.ofChange closurePlaysWrong)

/-- 'lunettelaw22.RecPlays': WHATEVER THE INPUT: true; the input reads as it did. -/
def recPlaysSpec : ChangeSpec := { name := "recPlays", fn := fun _ => fun
  | [d1, d2] => { results := [.lit (.bool true)], args := [d1, d2] }
  | _ => none }
def recPlaysRow : OpenClaim := { program := "ytogljgiefmfafaagreat", sum := "e74fa7dc6e5b35a0a08f50a83e7b62f2be58d84c1ad63baae7a3c00f9d78a86d", func := "lunette/lunettelaw22.RecPlays", spec := "recPlays", inPlace := ["internal/abi.NoEscape", "internal/bytealg.MakeNoZero"], unfollowed := true, recurses := true, plainKeys := false, apart := false }
def RecPlaysSaid : Prop := recPlaysRow.holds Tryz.pinned (OpenSpec.ofChange recPlaysSpec)

/-- ITS FALSE NEIGHBOUR: 'it returns false'. Refute it at one input. -/
def recPlaysWrong : ChangeSpec := { name := "recPlays", fn := fun _ => fun
  | [d1, d2] => { results := [.lit (.bool false)], args := [d1, d2] }
  | _ => none }
def RecPlaysWrongFalsely : Prop := recPlaysRow.holds Tryz.pinned (OpenSpec.ofChange recPlaysWrong)

/-- 'lunettelaw22.RecApart': WHATEVER THE INPUT: true; the input reads as it did. -/
def recApartSpec : ChangeSpec := { name := "recApart", fn := fun _ => fun
  | [d1, d2, d3, d4] => { results := [.lit (.bool true)], args := [d1, d2, d3, d4] }
  | _ => none }
def recApartRow : OpenClaim := { program := "ytogljgiefmfafaagreat", sum := "e74fa7dc6e5b35a0a08f50a83e7b62f2be58d84c1ad63baae7a3c00f9d78a86d", func := "lunette/lunettelaw22.RecApart", spec := "recApart", inPlace := ["internal/abi.NoEscape", "internal/bytealg.MakeNoZero", "maps.clone"], unfollowed := true, recurses := true, plainKeys := false, apart := false }
def RecApartSaid : Prop := recApartRow.holds Tryz.pinned (OpenSpec.ofChange recApartSpec)

/-- ITS FALSE NEIGHBOUR: 'it returns false'. Refute it at one input. -/
def recApartWrong : ChangeSpec := { name := "recApart", fn := fun _ => fun
  | [d1, d2, d3, d4] => { results := [.lit (.bool false)], args := [d1, d2, d3, d4] }
  | _ => none }
def RecApartWrongFalsely : Prop := recApartRow.holds Tryz.pinned (OpenSpec.ofChange recApartWrong)

/- THE SECOND FORM. 'bulk': how many values and letters a reading holds, each counted each time it is reached (what is shared counts as often as it is met; a slice's spare places count too). A statement '..UptoSaid' is the law's where the arguments, and the package variables that the reading takes, are together of bulk at most 1048576: NARROWER than '..Said'. Prove '..Said' where nothing that the law and all that it calls make is longer than what came in: it says more and counts as full. Else prove '..UptoSaid'. A law counts once. -/
mutual
def uptoBulk {H : Type} : DataW H → Nat
  | .lit (.string bytes) => bytes.length + 1
  | .lit _ => 1
  | .nil => 1
  | .ptr d => uptoBulk d + 1
  | .slice elems spare => uptoBulkAll elems + uptoBulkAll spare + 1
  | .agg parts => uptoBulkAll parts + 1
  | .iface _ d => uptoBulk d + 1
  | .map entries => uptoBulkEntries entries + 1
  | .held _ => 1
def uptoBulkAll {H : Type} : List (DataW H) → Nat
  | [] => 0
  | d :: r => uptoBulk d + uptoBulkAll r
def uptoBulkEntries {H : Type} : List (Lit × DataW H) → Nat
  | [] => 0
  | x :: r => uptoBulkEntry x + uptoBulkEntries r
def uptoBulkEntry {H : Type} : Lit × DataW H → Nat
  | (.string bytes, d) => bytes.length + uptoBulk d + 1
  | (_, d) => uptoBulk d + 1
 end
def uptoSmall : (H : Type) → List (DataW H) → Bool := fun _ ds => decide (uptoBulkAll ds ≤ 1048576)
def OpenSpec.upto (s : _root_.Go.ChangeSpec) : _root_.Go.OpenSpec := { _root_.Go.OpenSpec.ofChange s with cond := some uptoSmall }

/-- 'lunettelaw24.AbsorbSame', WHERE WHAT IT READS IS OF BULK AT MOST 1048576: true; the input reads as it did. -/
def absorbSameUptoRow : OpenClaim := { program := "ytogljgiefmfafaagreat", sum := "e74fa7dc6e5b35a0a08f50a83e7b62f2be58d84c1ad63baae7a3c00f9d78a86d", func := "lunette/lunettelaw24.AbsorbSame", spec := "absorbSame", unfollowed := true, recurses := true, plainKeys := false, apart := false, narrowed := true }
def AbsorbSameUptoSaid : Prop := absorbSameUptoRow.holds Tryz.pinned (OpenSpec.upto absorbSameSpec)

/-- 'lunettelaw25.ClosurePlays', WHERE WHAT IT READS IS OF BULK AT MOST 1048576: true; the input reads as it did. -/
def closurePlaysUptoRow : OpenClaim := { program := "ytogljgiefmfafaagreat", sum := "e74fa7dc6e5b35a0a08f50a83e7b62f2be58d84c1ad63baae7a3c00f9d78a86d", func := "lunette/lunettelaw25.ClosurePlays", spec := "closurePlays", unfollowed := true, recurses := true, plainKeys := false, apart := false, narrowed := true }
def ClosurePlaysUptoSaid : Prop := closurePlaysUptoRow.holds Tryz.pinned (OpenSpec.upto closurePlaysSpec)

/-- 'lunettelaw22.RecPlays', WHERE WHAT IT READS IS OF BULK AT MOST 1048576: true; the input reads as it did. -/
def recPlaysUptoRow : OpenClaim := { program := "ytogljgiefmfafaagreat", sum := "e74fa7dc6e5b35a0a08f50a83e7b62f2be58d84c1ad63baae7a3c00f9d78a86d", func := "lunette/lunettelaw22.RecPlays", spec := "recPlays", inPlace := ["internal/abi.NoEscape", "internal/bytealg.MakeNoZero"], unfollowed := true, recurses := true, plainKeys := false, apart := false, narrowed := true }
def RecPlaysUptoSaid : Prop := recPlaysUptoRow.holds Tryz.pinned (OpenSpec.upto recPlaysSpec)

/-- 'lunettelaw22.RecApart', WHERE WHAT IT READS IS OF BULK AT MOST 1048576: true; the input reads as it did. -/
def recApartUptoRow : OpenClaim := { program := "ytogljgiefmfafaagreat", sum := "e74fa7dc6e5b35a0a08f50a83e7b62f2be58d84c1ad63baae7a3c00f9d78a86d", func := "lunette/lunettelaw22.RecApart", spec := "recApart", inPlace := ["internal/abi.NoEscape", "internal/bytealg.MakeNoZero", "maps.clone"], unfollowed := true, recurses := true, plainKeys := false, apart := false, narrowed := true }
def RecApartUptoSaid : Prop := recApartUptoRow.holds Tryz.pinned (OpenSpec.upto recApartSpec)

end Rows
end Go.Proofs.YtogljgiefmfafaaGreat
