/-
  NARROWER THAN 'FOR EVERY INPUT', by the rows' own cells (each row's printed sentence says how): FairJoins: laid.
  DERIVED. THE GIVEN ROWS OF THIS SEAT. 1 by the template 'for every input the law returns true; each argument reads behind the call as it read before'; 0 by the template 'total and deterministic' (their statements: YtmnombfgahmfkaaGreatDoorTotals.lean).
  GIVEN WITH THE SEED: the statements are not yours to turn. If you find one false, say at which input.
  Laid BY PROGRAM, IN A SANDBOX (cutbox-rows.mjs): the forced cells as the released guide's own fill.sh prints them over the translation 2685ac0587a45b2d… (all of the seat's roots in one cut). By AI agents, Wed Nov 11 2026. No macro, syntax, notation, axiom, sorry.
-/
import Derived.Test.YtmnombfgahmfkaaGreatDoorChecked
import GoSem.Claim
import GoSem.ClaimJoined
import GoSem.ClaimMapViews
import Derived.JoinedTies
import Derived.KernelRfl
namespace Go.Proofs.YtmnombfgahmfkaaGreatDoor
/- THE CELL 'sum', in the pinned program and in every row, IS THE sha256 OF THE DUMP (.gsa) THAT YtmnombfgahmfkaaGreatDoorProg.lean LOADS. Nothing in Lean hashes anything: it is a label: what it is worth is what the hold of that sum in a sandbox is worth. -/
noncomputable def Tryz.pinned : Pinned := { name := "ytmnombfgahmfkaagreatdoor", sum := "2685ac0587a45b2d2e479aa7e91ead17b60586abbdbfae3e4d9a2c38a1ad0f62", checked := Tryz.checked }
namespace Rows
def none {H : Type} : Left H := { results := [], args := [] }

/- WHAT THE LISTED PACKAGE-LEVEL VARIABLES READ AS WHEN THE CALL BEGINS. Each datum BY PROGRAM (the guide's laid-datum.mjs) off the statement by which the dump's own 'gosem.cut.vars' lays the variable. In a bare row this is a premise. The card (YtmnombfgahmfkaaGreatDoorCards.lean) ties it to the program's text. -/
def laid_lunette_call_kinds {H : Type} : DataW H := .agg [.agg [.lit (.string []), .lit (.int .i64 0)], .agg [.lit (.string [111, 112, 101, 110]), .lit (.int .i64 1)], .agg [.lit (.string [99, 114, 101, 97, 116, 101]), .lit (.int .i64 65)], .agg [.lit (.string [114, 101, 97, 100]), .lit (.int .i64 12)], .agg [.lit (.string [119, 114, 105, 116, 101]), .lit (.int .i64 44)], .agg [.lit (.string [116, 114, 117, 110, 99]), .lit (.int .i64 20)], .agg [.lit (.string [108, 105, 110, 107]), .lit (.int .i64 131)], .agg [.lit (.string [117, 110, 108, 105, 110, 107]), .lit (.int .i64 65)], .agg [.lit (.string [114, 101, 110, 97, 109, 101]), .lit (.int .i64 195)], .agg [.lit (.string [109, 107, 100, 105, 114]), .lit (.int .i64 65)], .agg [.lit (.string [114, 109, 100, 105, 114]), .lit (.int .i64 65)], .agg [.lit (.string [108, 105, 115, 116]), .lit (.int .i64 1)], .agg [.lit (.string [115, 116, 97, 116]), .lit (.int .i64 1)], .agg [.lit (.string [99, 108, 111, 115, 101]), .lit (.int .i64 4)], .agg [.lit (.string [102, 115, 121, 110, 99]), .lit (.int .i64 4)], .agg [.lit (.string [115, 121, 110, 99]), .lit (.int .i64 0)]]

/-- 'lunettelaw34.FairJoins': WHATEVER THE INPUT: true; the input reads as it did. -/
def fairJoinsSpec : ChangeSpec := { name := "fairJoins", fn := fun _ => fun
  | [d1, d2, d3, d4, d5, d6, d7] => { results := [.lit (.bool true)], args := [d1, d2, d3, d4, d5, d6, d7] }
  | _ => none }
def fairJoinsRow : OpenClaim := { program := "ytmnombfgahmfkaagreatdoor", sum := "2685ac0587a45b2d2e479aa7e91ead17b60586abbdbfae3e4d9a2c38a1ad0f62", func := "lunette/lunettelaw34.FairJoins", spec := "fairJoins", inPlace := ["maps.clone", "internal/bytealg.IndexByteString", "internal/bytealg.IndexString", "slices.overlaps[uint32]"], unfollowed := true, recurses := true, named := ["internal/bytealg.MaxLen", "lunette/call.kinds"], apart := false, laid := [("lunette/call.kinds", laid_lunette_call_kinds)] }
def FairJoinsSaid : Prop := fairJoinsRow.holds Tryz.pinned (OpenSpec.ofChange fairJoinsSpec)

/-- ITS FALSE NEIGHBOUR: 'it returns false'. Refute it at one input. -/
def fairJoinsWrong : ChangeSpec := { name := "fairJoins", fn := fun _ => fun
  | [d1, d2, d3, d4, d5, d6, d7] => { results := [.lit (.bool false)], args := [d1, d2, d3, d4, d5, d6, d7] }
  | _ => none }
def FairJoinsWrongFalsely : Prop := fairJoinsRow.holds Tryz.pinned (OpenSpec.ofChange fairJoinsWrong)

/- THE SECOND FORM. 'bulk': how many values and letters a reading holds, each counted each time it is reached (what is shared counts as often as it is met; a slice's spare places count too). A statement '..UptoSaid' is the law's where the arguments, and the package variables that the reading takes, are together of bulk at most 1048576: NARROWER than '..Said'. Prove '..Said' where nothing that the law and all that it calls make is longer than what came in: it says more and counts as full. Else prove '..UptoSaid'. A law counts once. -/
mutual
def uptoBulk {H : Type} : DataW H → Nat
  | .lit (.string bytes) => bytes.length + 1
  | .lit _ => 1
  | .nil => 1
  | .ptr d => uptoBulk d + 1
  | .slice elems spare => uptoBulkAll elems + uptoBulkAll spare + 1
  | .agg parts => uptoBulkAll parts + 1
  | .iface _ d => uptoBulk d + 1
  | .map entries => uptoBulkEntries entries + 1
  | .held _ => 1
def uptoBulkAll {H : Type} : List (DataW H) → Nat
  | [] => 0
  | d :: r => uptoBulk d + uptoBulkAll r
def uptoBulkEntries {H : Type} : List (Lit × DataW H) → Nat
  | [] => 0
  | x :: r => uptoBulkEntry x + uptoBulkEntries r
def uptoBulkEntry {H : Type} : Lit × DataW H → Nat
  | (.string bytes, d) => bytes.length + uptoBulk d + 1
  | (_, d) => uptoBulk d + 1
 end
def uptoSmall : (H : Type) → List (DataW H) → Bool := fun _ ds => decide (uptoBulkAll ds ≤ 1048576)
def OpenSpec.upto (s : _root_.Go.ChangeSpec) : _root_.Go.OpenSpec := { _root_.Go.OpenSpec.ofChange s with cond := some uptoSmall }

/-- 'lunettelaw34.FairJoins', WHERE WHAT IT READS IS OF BULK AT MOST 1048576: true; the input reads as it did. -/
def fairJoinsUptoRow : OpenClaim := { program := "ytmnombfgahmfkaagreatdoor", sum := "2685ac0587a45b2d2e479aa7e91ead17b60586abbdbfae3e4d9a2c38a1ad0f62", func := "lunette/lunettelaw34.FairJoins", spec := "fairJoins", inPlace := ["maps.clone", "internal/bytealg.IndexByteString", "internal/bytealg.IndexString", "slices.overlaps[uint32]"], unfollowed := true, recurses := true, named := ["internal/bytealg.MaxLen", "lunette/call.kinds"], apart := false, laid := [("lunette/call.kinds", laid_lunette_call_kinds)], narrowed := true }
def FairJoinsUptoSaid : Prop := fairJoinsUptoRow.holds Tryz.pinned (OpenSpec.upto fairJoinsSpec)

end Rows
end Go.Proofs.YtmnombfgahmfkaaGreatDoor
