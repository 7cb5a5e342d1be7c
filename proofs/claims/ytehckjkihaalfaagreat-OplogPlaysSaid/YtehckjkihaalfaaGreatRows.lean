/-
  No cell of these rows narrows 'for every input' (looked for: loops, veiled, ifaces, maps, wideKeys, modest, calm, conditions, laid).
  DERIVED. THE GIVEN ROWS OF THIS SEAT. 7 by the template 'for every input the law returns true; each argument reads behind the call as it read before'; 0 by the template 'total and deterministic' (their statements: YtehckjkihaalfaaGreatTotals.lean).
  GIVEN WITH THE SEED: the statements are not yours to turn. If you find one false, say at which input.
  Laid BY PROGRAM, IN A SANDBOX (cutbox-rows.mjs): the forced cells as the released guide's own fill.sh prints them over the translation d5f23dbaf74c6ef0… (all of the seat's roots in one cut). By AI agents, Wed Nov 11 2026. No macro, syntax, notation, axiom, sorry.
-/
import Derived.Test.YtehckjkihaalfaaGreatChecked
import GoSem.Claim
import GoSem.ClaimJoined
import GoSem.ClaimMapViews
import Derived.JoinedTies
import Derived.KernelRfl
namespace Go.Proofs.YtehckjkihaalfaaGreat
/- THE CELL 'sum', in the pinned program and in every row, IS THE sha256 OF THE DUMP (.gsa) THAT YtehckjkihaalfaaGreatProg.lean LOADS. Nothing in Lean hashes anything: it is a label: what it is worth is what the hold of that sum in a sandbox is worth. -/
noncomputable def Tryz.pinned : Pinned := { name := "ytehckjkihaalfaagreat", sum := "d5f23dbaf74c6ef053bbaeb72bde7ca0cb5aa61e4a0bf113a3926cd45381c726", checked := Tryz.checked }
namespace Rows
def none {H : Type} : Left H := { results := [], args := [] }

/-- 'lunettelaw23.OplogTakes': WHATEVER THE INPUT: true; the input reads as it did. -/
def oplogTakesSpec : ChangeSpec := { name := "oplogTakes", fn := fun _ => fun
  | [d1, d2] => { results := [.lit (.bool true)], args := [d1, d2] }
  | _ => none }
def oplogTakesRow : OpenClaim := { program := "ytehckjkihaalfaagreat", sum := "d5f23dbaf74c6ef053bbaeb72bde7ca0cb5aa61e4a0bf113a3926cd45381c726", func := "lunette/lunettelaw23.OplogTakes", spec := "oplogTakes", unfollowed := true, recurses := true, apart := false }
def OplogTakesSaid : Prop := oplogTakesRow.holds Tryz.pinned (OpenSpec.ofChange oplogTakesSpec)

/-- ITS FALSE NEIGHBOUR: 'it returns false'. Refute it at one input. -/
def oplogTakesWrong : ChangeSpec := { name := "oplogTakes", fn := fun _ => fun
  | [d1, d2] => { results := [.lit (.bool false)], args := [d1, d2] }
  | _ => none }
def OplogTakesWrongFalsely : Prop := oplogTakesRow.holds Tryz.pinned (OpenSpec.ofChange oplogTakesWrong)

/-- 'lunettelaw23.OplogMerges': WHATEVER THE INPUT: true; the input reads as it did. -/
def oplogMergesSpec : ChangeSpec := { name := "oplogMerges", fn := fun _ => fun
  | [d1, d2] => { results := [.lit (.bool true)], args := [d1, d2] }
  | _ => none }
def oplogMergesRow : OpenClaim := { program := "ytehckjkihaalfaagreat", sum := "d5f23dbaf74c6ef053bbaeb72bde7ca0cb5aa61e4a0bf113a3926cd45381c726", func := "lunette/lunettelaw23.OplogMerges", spec := "oplogMerges", unfollowed := true, recurses := true, apart := false }
def OplogMergesSaid : Prop := oplogMergesRow.holds Tryz.pinned (OpenSpec.ofChange oplogMergesSpec)

/-- ITS FALSE NEIGHBOUR: 'it returns false'. Refute it at one input. -/
def oplogMergesWrong : ChangeSpec := { name := "oplogMerges", fn := fun _ => fun
  | [d1, d2] => { results := [.lit (.bool false)], args := [d1, d2] }
  | _ => none }
def OplogMergesWrongFalsely : Prop := oplogMergesRow.holds Tryz.pinned (OpenSpec.ofChange oplogMergesWrong)

/-- 'lunettelaw23.OplogPlays': WHATEVER THE INPUT: true; the input reads as it did. -/
def oplogPlaysSpec : ChangeSpec := { name := "oplogPlays", fn := fun _ => fun
  | [d1, d2, d3, d4, d5] => { results := [.lit (.bool true)], args := [d1, d2, d3, d4, d5] }
  | _ => none }
def oplogPlaysRow : OpenClaim := { program := "ytehckjkihaalfaagreat", sum := "d5f23dbaf74c6ef053bbaeb72bde7ca0cb5aa61e4a0bf113a3926cd45381c726", func := "lunette/lunettelaw23.OplogPlays", spec := "oplogPlays", unfollowed := true, recurses := true, apart := false }
def OplogPlaysSaid : Prop := oplogPlaysRow.holds Tryz.pinned (OpenSpec.ofChange oplogPlaysSpec)

/-- ITS FALSE NEIGHBOUR: 'it returns false'. Refute it at one input. -/
def oplogPlaysWrong : ChangeSpec := { name := "oplogPlays", fn := fun _ => fun
  | [d1, d2, d3, d4, d5] => { results := [.lit (.bool false)], args := [d1, d2, d3, d4, d5] }
  | _ => none }
def OplogPlaysWrongFalsely : Prop := oplogPlaysRow.holds Tryz.pinned (OpenSpec.ofChange oplogPlaysWrong)

/-- 'lunettelaw22.RecBack': WHATEVER THE INPUT: true; the input reads as it did. -/
def recBackSpec : ChangeSpec := { name := "recBack", fn := fun _ => fun
  | [d1, d2] => { results := [.lit (.bool true)], args := [d1, d2] }
  | _ => none }
def recBackRow : OpenClaim := { program := "ytehckjkihaalfaagreat", sum := "d5f23dbaf74c6ef053bbaeb72bde7ca0cb5aa61e4a0bf113a3926cd45381c726", func := "lunette/lunettelaw22.RecBack", spec := "recBack", inPlace := ["internal/abi.NoEscape", "internal/bytealg.MakeNoZero"], unfollowed := true, recurses := true, apart := false }
def RecBackSaid : Prop := recBackRow.holds Tryz.pinned (OpenSpec.ofChange recBackSpec)

/-- ITS FALSE NEIGHBOUR: 'it returns false'. Refute it at one input. -/
def recBackWrong : ChangeSpec := { name := "recBack", fn := fun _ => fun
  | [d1, d2] => { results := [.lit (.bool false)], args := [d1, d2] }
  | _ => none }
def RecBackWrongFalsely : Prop := recBackRow.holds Tryz.pinned (OpenSpec.ofChange recBackWrong)

/-- 'lunettelaw25.ClosureTells': WHATEVER THE INPUT: true; the input reads as it did. -/
def closureTellsSpec : ChangeSpec := { name := "closureTells", fn := fun _ => fun
  | [d1, d2, d3, d4] => { results := [.lit (.bool true)], args := [d1, d2, d3, d4] }
  | _ => none }
def closureTellsRow : OpenClaim := { program := "ytehckjkihaalfaagreat", sum := "d5f23dbaf74c6ef053bbaeb72bde7ca0cb5aa61e4a0bf113a3926cd45381c726", func := "lunette/lunettelaw25.ClosureTells", spec := "closureTells", unfollowed := true, recurses := true, apart := false }
def ClosureTellsSaid : Prop := closureTellsRow.holds Tryz.pinned (OpenSpec.ofChange closureTellsSpec)

/-- ITS FALSE NEIGHBOUR: 'it returns false'. Refute it at one input. -/
def closureTellsWrong : ChangeSpec := { name := "closureTells", fn := fun _ => fun
  | [d1, d2, d3, d4] => { results := [.lit (.bool false)], args := [d1, d2, d3, d4] }
  | _ => none }
def ClosureTellsWrongFalsely : Prop := closureTellsRow.holds Tryz.pinned (OpenSpec.ofChange closureTellsWrong)

/-- 'lunettelaw25.ClosureLeast': WHATEVER THE INPUT: true; the input reads as it did. -/
def closureLeastSpec : ChangeSpec := { name := "closureLeast", fn := fun _ => fun
  | [d1, d2] => { results := [.lit (.bool true)], args := [d1, d2] }
  | _ => none }
def closureLeastRow : OpenClaim := { program := "ytehckjkihaalfaagreat", sum := "d5f23dbaf74c6ef053bbaeb72bde7ca0cb5aa61e4a0bf113a3926cd45381c726", func := "lunette/lunettelaw25.ClosureLeast", spec := "closureLeast", unfollowed := true, recurses := true, apart := false }
def ClosureLeastSaid : Prop := closureLeastRow.holds Tryz.pinned (OpenSpec.ofChange closureLeastSpec)

/-- ITS FALSE NEIGHBOUR: 'it returns false'. Refute it at one input. -/
def closureLeastWrong : ChangeSpec := { name := "closureLeast", fn := fun _ => fun
  | [d1, d2] => { results := [.lit (.bool false)], args := [d1, d2] }
  | _ => none }
def ClosureLeastWrongFalsely : Prop := closureLeastRow.holds Tryz.pinned (OpenSpec.ofChange closureLeastWrong)

/-- 'lunettelaw25.ClosureMany': WHATEVER THE INPUT: true; the input reads as it did. -/
def closureManySpec : ChangeSpec := { name := "closureMany", fn := fun _ => fun
  | [d1, d2] => { results := [.lit (.bool true)], args := [d1, d2] }
  | _ => none }
def closureManyRow : OpenClaim := { program := "ytehckjkihaalfaagreat", sum := "d5f23dbaf74c6ef053bbaeb72bde7ca0cb5aa61e4a0bf113a3926cd45381c726", func := "lunette/lunettelaw25.ClosureMany", spec := "closureMany", unfollowed := true, recurses := true, apart := false }
def ClosureManySaid : Prop := closureManyRow.holds Tryz.pinned (OpenSpec.ofChange closureManySpec)

/-- ITS FALSE NEIGHBOUR: 'it returns false'. Refute it at one input. -/
def closureManyWrong : ChangeSpec := { name := "closureMany", fn := fun _ => fun
  | [d1, d2] => { results := [.lit (.bool false)], args := [d1, d2] }
  | _ => none }
def ClosureManyWrongFalsely : Prop := closureManyRow.holds Tryz.pinned (OpenSpec.ofChange closureManyWrong)

/- THE SECOND FORM. 'bulk': how many values and letters a reading holds, each counted each time it is reached (what is shared counts as often as it is met; a slice's spare places count too). A statement '..UptoSaid' is the law's where the arguments, and the package variables that the reading takes, are together of bulk at most 1048576: NARROWER than '..Said'. Prove '..Said' where nothing that the law and all that it calls make is longer than what came in: it says more and counts as full. Else prove '..UptoSaid'. A law counts once. -/
mutual
def uptoBulk {H : Type} : DataW H → Nat
  | .lit (.string bytes) => bytes.length + 1
  | .lit _ => 1
  | .nil => 1
  | .ptr d => uptoBulk d + 1
  | .slice elems spare => uptoBulkAll elems + uptoBulkAll spare + 1
  | .agg parts => uptoBulkAll parts + 1
  | .iface _ d => uptoBulk d + 1
  | .map entries => uptoBulkEntries entries + 1
  | .held _ => 1
def uptoBulkAll {H : Type} : List (DataW H) → Nat
  | [] => 0
  | d :: r => uptoBulk d + uptoBulkAll r
def uptoBulkEntries {H : Type} : List (Lit × DataW H) → Nat
  | [] => 0
  | x :: r => uptoBulkEntry x + uptoBulkEntries r
def uptoBulkEntry {H : Type} : Lit × DataW H → Nat
  | (.string bytes, d) => bytes.length + uptoBulk d + 1
  | (_, d) => uptoBulk d + 1
 end
def uptoSmall : (H : Type) → List (DataW H) → Bool := fun _ ds => decide (uptoBulkAll ds ≤ 1048576)
def OpenSpec.upto (s : _root_.Go.ChangeSpec) : _root_.Go.OpenSpec := { _root_.Go.OpenSpec.ofChange s with cond := some uptoSmall }

/-- 'lunettelaw23.OplogTakes', WHERE WHAT IT READS IS OF BULK AT MOST 1048576: true; the input reads as it did. -/
def oplogTakesUptoRow : OpenClaim := { program := "ytehckjkihaalfaagreat", sum := "d5f23dbaf74c6ef053bbaeb72bde7ca0cb5aa61e4a0bf113a3926cd45381c726", func := "lunette/lunettelaw23.OplogTakes", spec := "oplogTakes", unfollowed := true, recurses := true, apart := false, narrowed := true }
def OplogTakesUptoSaid : Prop := oplogTakesUptoRow.holds Tryz.pinned (OpenSpec.upto oplogTakesSpec)

/-- 'lunettelaw23.OplogMerges', WHERE WHAT IT READS IS OF BULK AT MOST 1048576: true; the input reads as it did. -/
def oplogMergesUptoRow : OpenClaim := { program := "ytehckjkihaalfaagreat", sum := "d5f23dbaf74c6ef053bbaeb72bde7ca0cb5aa61e4a0bf113a3926cd45381c726", func := "lunette/lunettelaw23.OplogMerges", spec := "oplogMerges", unfollowed := true, recurses := true, apart := false, narrowed := true }
def OplogMergesUptoSaid : Prop := oplogMergesUptoRow.holds Tryz.pinned (OpenSpec.upto oplogMergesSpec)

/-- 'lunettelaw23.OplogPlays', WHERE WHAT IT READS IS OF BULK AT MOST 1048576: true; the input reads as it did. -/
def oplogPlaysUptoRow : OpenClaim := { program := "ytehckjkihaalfaagreat", sum := "d5f23dbaf74c6ef053bbaeb72bde7ca0cb5aa61e4a0bf113a3926cd45381c726", func := "lunette/lunettelaw23.OplogPlays", spec := "oplogPlays", unfollowed := true, recurses := true, apart := false, narrowed := true }
def OplogPlaysUptoSaid : Prop := oplogPlaysUptoRow.holds Tryz.pinned (OpenSpec.upto oplogPlaysSpec)

/-- 'lunettelaw22.RecBack', WHERE WHAT IT READS IS OF BULK AT MOST 1048576: true; the input reads as it did. -/
def recBackUptoRow : OpenClaim := { program := "ytehckjkihaalfaagreat", sum := "d5f23dbaf74c6ef053bbaeb72bde7ca0cb5aa61e4a0bf113a3926cd45381c726", func := "lunette/lunettelaw22.RecBack", spec := "recBack", inPlace := ["internal/abi.NoEscape", "internal/bytealg.MakeNoZero"], unfollowed := true, recurses := true, apart := false, narrowed := true }
def RecBackUptoSaid : Prop := recBackUptoRow.holds Tryz.pinned (OpenSpec.upto recBackSpec)

/-- 'lunettelaw25.ClosureTells', WHERE WHAT IT READS IS OF BULK AT MOST 1048576: true; the input reads as it did. -/
def closureTellsUptoRow : OpenClaim := { program := "ytehckjkihaalfaagreat", sum := "d5f23dbaf74c6ef053bbaeb72bde7ca0cb5aa61e4a0bf113a3926cd45381c726", func := "lunette/lunettelaw25.ClosureTells", spec := "closureTells", unfollowed := true, recurses := true, apart := false, narrowed := true }
def ClosureTellsUptoSaid : Prop := closureTellsUptoRow.holds Tryz.pinned (OpenSpec.upto closureTellsSpec)

/-- 'lunettelaw25.ClosureLeast', WHERE WHAT IT READS IS OF BULK AT MOST 1048576: true; the input reads as it did. -/
def closureLeastUptoRow : OpenClaim := { program := "ytehckjkihaalfaagreat", sum := "d5f23dbaf74c6ef053bbaeb72bde7ca0cb5aa61e4a0bf113a3926cd45381c726", func := "lunette/lunettelaw25.ClosureLeast", spec := "closureLeast", unfollowed := true, recurses := true, apart := false, narrowed := true }
def ClosureLeastUptoSaid : Prop := closureLeastUptoRow.holds Tryz.pinned (OpenSpec.upto closureLeastSpec)

/-- 'lunettelaw25.ClosureMany', WHERE WHAT IT READS IS OF BULK AT MOST 1048576: true; the input reads as it did. -/
def closureManyUptoRow : OpenClaim := { program := "ytehckjkihaalfaagreat", sum := "d5f23dbaf74c6ef053bbaeb72bde7ca0cb5aa61e4a0bf113a3926cd45381c726", func := "lunette/lunettelaw25.ClosureMany", spec := "closureMany", unfollowed := true, recurses := true, apart := false, narrowed := true }
def ClosureManyUptoSaid : Prop := closureManyUptoRow.holds Tryz.pinned (OpenSpec.upto closureManySpec)

end Rows
end Go.Proofs.YtehckjkihaalfaaGreat
