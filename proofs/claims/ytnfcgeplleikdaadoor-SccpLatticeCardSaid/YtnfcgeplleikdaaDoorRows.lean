/-
  NARROWER THAN 'FOR EVERY INPUT', by the rows' own cells (each row's printed sentence says how): SccpMeets: laid · SccpLattice: laid.
  DERIVED. THE GIVEN ROWS OF THIS SEAT. 2 by the template 'for every input the law returns true; each argument reads behind the call as it read before'; 0 by the template 'total and deterministic' (their statements: YtnfcgeplleikdaaDoorTotals.lean).
  GIVEN WITH THE SEED: the statements are not yours to turn. If you find one false, say at which input.
  Laid BY PROGRAM, IN A SANDBOX (cutbox-rows.mjs): the forced cells as the released guide's own fill.sh prints them over the translation 5050c2841c9b0704… (all of the seat's roots in one cut). By AI agents, Wed Nov 11 2026. No macro, syntax, notation, axiom, sorry.
-/
import Derived.Test.YtnfcgeplleikdaaDoorChecked
import GoSem.Claim
import GoSem.ClaimJoined
import GoSem.ClaimMapViews
import Derived.JoinedTies
import Derived.KernelRfl
namespace Go.Proofs.YtnfcgeplleikdaaDoor
/- THE CELL 'sum', in the pinned program and in every row, IS THE sha256 OF THE DUMP (.gsa) THAT YtnfcgeplleikdaaDoorProg.lean LOADS. Nothing in Lean hashes anything: it is a label: what it is worth is what the hold of that sum in a sandbox is worth. -/
noncomputable def Tryd.pinned : Pinned := { name := "ytnfcgeplleikdaadoor", sum := "5050c2841c9b0704a8dc795fe5297f24daaf23f7a6d19d290266ab6e7064cb67", checked := Tryd.checked }
namespace Rows
def none {H : Type} : Left H := { results := [], args := [] }

/- WHAT THE LISTED PACKAGE-LEVEL VARIABLES READ AS WHEN THE CALL BEGINS. Each datum BY PROGRAM (the guide's laid-datum.mjs) off the statement by which the dump's own 'gosem.cut.vars' lays the variable. In a bare row this is a premise. The card (YtnfcgeplleikdaaDoorCards.lean) ties it to the program's text. -/
def laid_smithy_graph_forms {H : Type} : DataW H := .agg [.agg [.lit (.bool false), .lit (.bool false), .lit (.bool false), .lit (.bool false), .lit (.int .i64 0)], .agg [.lit (.bool true), .lit (.bool false), .lit (.bool false), .lit (.bool false), .lit (.int .i64 (-1))], .agg [.lit (.bool true), .lit (.bool false), .lit (.bool true), .lit (.bool false), .lit (.int .i64 0)], .agg [.lit (.bool true), .lit (.bool false), .lit (.bool false), .lit (.bool false), .lit (.int .i64 1)], .agg [.lit (.bool true), .lit (.bool true), .lit (.bool false), .lit (.bool false), .lit (.int .i64 (-1))], .agg [.lit (.bool true), .lit (.bool false), .lit (.bool false), .lit (.bool false), .lit (.int .i64 1)], .agg [.lit (.bool true), .lit (.bool false), .lit (.bool false), .lit (.bool true), .lit (.int .i64 1)], .agg [.lit (.bool false), .lit (.bool false), .lit (.bool false), .lit (.bool true), .lit (.int .i64 2)], .agg [.lit (.bool false), .lit (.bool false), .lit (.bool false), .lit (.bool true), .lit (.int .i64 0)], .agg [.lit (.bool true), .lit (.bool false), .lit (.bool false), .lit (.bool true), .lit (.int .i64 (-1))], .agg [.lit (.bool false), .lit (.bool false), .lit (.bool false), .lit (.bool false), .lit (.int .i64 1)]]
def laid_smithy_sccp_unseen {H : Type} : DataW H := .agg [.lit (.int .u8 0), .lit (.int .u64 0)]
def laid_smithy_sccp_varying {H : Type} : DataW H := .agg [.lit (.int .u8 2), .lit (.int .u64 0)]

/-- 'smithylaw14.SccpMeets': WHATEVER THE INPUT: true; the input reads as it did. -/
def sccpMeetsSpec : ChangeSpec := { name := "sccpMeets", fn := fun _ => fun
  | [d1, d2] => { results := [.lit (.bool true)], args := [d1, d2] }
  | _ => none }
def sccpMeetsRow : OpenClaim := { program := "ytnfcgeplleikdaadoor", sum := "5050c2841c9b0704a8dc795fe5297f24daaf23f7a6d19d290266ab6e7064cb67", func := "smithy/smithylaw14.SccpMeets", spec := "sccpMeets", inPlace := ["math.Float64frombits", "math.archTrunc", "math.Float64bits"], unfollowed := true, recurses := true, named := ["smithy/sccp.varying", "smithy/graph.forms", "smithy/sccp.unseen"], apart := false, laid := [("smithy/graph.forms", laid_smithy_graph_forms), ("smithy/sccp.unseen", laid_smithy_sccp_unseen), ("smithy/sccp.varying", laid_smithy_sccp_varying)] }
def SccpMeetsSaid : Prop := sccpMeetsRow.holds Tryd.pinned (OpenSpec.ofChange sccpMeetsSpec)

/-- ITS FALSE NEIGHBOUR: 'it returns false'. Refute it at one input. -/
def sccpMeetsWrong : ChangeSpec := { name := "sccpMeets", fn := fun _ => fun
  | [d1, d2] => { results := [.lit (.bool false)], args := [d1, d2] }
  | _ => none }
def SccpMeetsWrongFalsely : Prop := sccpMeetsRow.holds Tryd.pinned (OpenSpec.ofChange sccpMeetsWrong)

/-- 'smithylaw14.SccpLattice': WHATEVER THE INPUT: true; the input reads as it did. -/
def sccpLatticeSpec : ChangeSpec := { name := "sccpLattice", fn := fun _ => fun
  | [d1, d2, d3] => { results := [.lit (.bool true)], args := [d1, d2, d3] }
  | _ => none }
def sccpLatticeRow : OpenClaim := { program := "ytnfcgeplleikdaadoor", sum := "5050c2841c9b0704a8dc795fe5297f24daaf23f7a6d19d290266ab6e7064cb67", func := "smithy/smithylaw14.SccpLattice", spec := "sccpLattice", inPlace := ["math.Float64frombits", "math.archTrunc", "math.Float64bits"], unfollowed := true, recurses := true, named := ["smithy/sccp.varying", "smithy/graph.forms", "smithy/sccp.unseen"], apart := false, laid := [("smithy/graph.forms", laid_smithy_graph_forms), ("smithy/sccp.unseen", laid_smithy_sccp_unseen), ("smithy/sccp.varying", laid_smithy_sccp_varying)] }
def SccpLatticeSaid : Prop := sccpLatticeRow.holds Tryd.pinned (OpenSpec.ofChange sccpLatticeSpec)

/-- ITS FALSE NEIGHBOUR: 'it returns false'. Refute it at one input. -/
def sccpLatticeWrong : ChangeSpec := { name := "sccpLattice", fn := fun _ => fun
  | [d1, d2, d3] => { results := [.lit (.bool false)], args := [d1, d2, d3] }
  | _ => none }
def SccpLatticeWrongFalsely : Prop := sccpLatticeRow.holds Tryd.pinned (OpenSpec.ofChange sccpLatticeWrong)

/- THE SECOND FORM. 'bulk': how many values and letters a reading holds, each counted each time it is reached (what is shared counts as often as it is met; a slice's spare places count too). A statement '..UptoSaid' is the law's where the arguments, and the package variables that the reading takes, are together of bulk at most 1048576: NARROWER than '..Said'. Prove '..Said' where nothing that the law and all that it calls make is longer than what came in: it says more and counts as full. Else prove '..UptoSaid'. A law counts once. -/
mutual
def uptoBulk {H : Type} : DataW H → Nat
  | .lit (.string bytes) => bytes.length + 1
  | .lit _ => 1
  | .nil => 1
  | .ptr d => uptoBulk d + 1
  | .slice elems spare => uptoBulkAll elems + uptoBulkAll spare + 1
  | .agg parts => uptoBulkAll parts + 1
  | .iface _ d => uptoBulk d + 1
  | .map entries => uptoBulkEntries entries + 1
  | .held _ => 1
def uptoBulkAll {H : Type} : List (DataW H) → Nat
  | [] => 0
  | d :: r => uptoBulk d + uptoBulkAll r
def uptoBulkEntries {H : Type} : List (Lit × DataW H) → Nat
  | [] => 0
  | x :: r => uptoBulkEntry x + uptoBulkEntries r
def uptoBulkEntry {H : Type} : Lit × DataW H → Nat
  | (.string bytes, d) => bytes.length + uptoBulk d + 1
  | (_, d) => uptoBulk d + 1
 end
def uptoSmall : (H : Type) → List (DataW H) → Bool := fun _ ds => decide (uptoBulkAll ds ≤ 1048576)
def OpenSpec.upto (s : _root_.Go.ChangeSpec) : _root_.Go.OpenSpec := { _root_.Go.OpenSpec.ofChange s with cond := some uptoSmall }

/-- 'smithylaw14.SccpMeets', WHERE WHAT IT READS IS OF BULK AT MOST 1048576: true; the input reads as it did. -/
def sccpMeetsUptoRow : OpenClaim := { program := "ytnfcgeplleikdaadoor", sum := "5050c2841c9b0704a8dc795fe5297f24daaf23f7a6d19d290266ab6e7064cb67", func := "smithy/smithylaw14.SccpMeets", spec := "sccpMeets", inPlace := ["math.Float64frombits", "math.archTrunc", "math.Float64bits"], unfollowed := true, recurses := true, named := ["smithy/sccp.varying", "smithy/graph.forms", "smithy/sccp.unseen"], apart := false, laid := [("smithy/graph.forms", laid_smithy_graph_forms), ("smithy/sccp.unseen", laid_smithy_sccp_unseen), ("smithy/sccp.varying", laid_smithy_sccp_varying)], narrowed := true }
def SccpMeetsUptoSaid : Prop := sccpMeetsUptoRow.holds Tryd.pinned (OpenSpec.upto sccpMeetsSpec)

/-- 'smithylaw14.SccpLattice', WHERE WHAT IT READS IS OF BULK AT MOST 1048576: true; the input reads as it did. -/
def sccpLatticeUptoRow : OpenClaim := { program := "ytnfcgeplleikdaadoor", sum := "5050c2841c9b0704a8dc795fe5297f24daaf23f7a6d19d290266ab6e7064cb67", func := "smithy/smithylaw14.SccpLattice", spec := "sccpLattice", inPlace := ["math.Float64frombits", "math.archTrunc", "math.Float64bits"], unfollowed := true, recurses := true, named := ["smithy/sccp.varying", "smithy/graph.forms", "smithy/sccp.unseen"], apart := false, laid := [("smithy/graph.forms", laid_smithy_graph_forms), ("smithy/sccp.unseen", laid_smithy_sccp_unseen), ("smithy/sccp.varying", laid_smithy_sccp_varying)], narrowed := true }
def SccpLatticeUptoSaid : Prop := sccpLatticeUptoRow.holds Tryd.pinned (OpenSpec.upto sccpLatticeSpec)

end Rows
end Go.Proofs.YtnfcgeplleikdaaDoor
