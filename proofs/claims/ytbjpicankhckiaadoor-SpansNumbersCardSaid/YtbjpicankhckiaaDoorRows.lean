/-
  NARROWER THAN 'FOR EVERY INPUT', by the rows' own cells (each row's printed sentence says how): SpansNumbers: laid · SpansOnce: laid.
  DERIVED. THE GIVEN ROWS OF THIS SEAT. 2 by the template 'for every input the law returns true; each argument reads behind the call as it read before'; 0 by the template 'total and deterministic' (their statements: YtbjpicankhckiaaDoorTotals.lean).
  GIVEN WITH THE SEED: the statements are not yours to turn. If you find one false, say at which input.
  Laid BY PROGRAM, IN A SANDBOX (cutbox-rows.mjs): the forced cells as the released guide's own fill.sh prints them over the translation 1f03acb783d83bbd… (all of the seat's roots in one cut). By AI agents, Wed Nov 11 2026. No macro, syntax, notation, axiom, sorry.
-/
import Derived.Test.YtbjpicankhckiaaDoorChecked
import GoSem.Claim
import GoSem.ClaimJoined
import GoSem.ClaimMapViews
import Derived.JoinedTies
import Derived.KernelRfl
namespace Go.Proofs.YtbjpicankhckiaaDoor
/- THE CELL 'sum', in the pinned program and in every row, IS THE sha256 OF THE DUMP (.gsa) THAT YtbjpicankhckiaaDoorProg.lean LOADS. Nothing in Lean hashes anything: it is a label: what it is worth is what the hold of that sum in a sandbox is worth. -/
noncomputable def Tryd.pinned : Pinned := { name := "ytbjpicankhckiaadoor", sum := "1f03acb783d83bbd4716ed327efdd362b7281b195b109546985b63908bbbdc10", checked := Tryd.checked }
namespace Rows
def none {H : Type} : Left H := { results := [], args := [] }

/- WHAT THE LISTED PACKAGE-LEVEL VARIABLES READ AS WHEN THE CALL BEGINS. Each datum BY PROGRAM (the guide's laid-datum.mjs) off the statement by which the dump's own 'gosem.cut.vars' lays the variable. In a bare row this is a premise. The card (YtbjpicankhckiaaDoorCards.lean) ties it to the program's text. -/
def laid_smithy_graph_forms {H : Type} : DataW H := .agg [.agg [.lit (.bool false), .lit (.bool false), .lit (.bool false), .lit (.bool false), .lit (.int .i64 0)], .agg [.lit (.bool true), .lit (.bool false), .lit (.bool false), .lit (.bool false), .lit (.int .i64 (-1))], .agg [.lit (.bool true), .lit (.bool false), .lit (.bool true), .lit (.bool false), .lit (.int .i64 0)], .agg [.lit (.bool true), .lit (.bool false), .lit (.bool false), .lit (.bool false), .lit (.int .i64 1)], .agg [.lit (.bool true), .lit (.bool true), .lit (.bool false), .lit (.bool false), .lit (.int .i64 (-1))], .agg [.lit (.bool true), .lit (.bool false), .lit (.bool false), .lit (.bool false), .lit (.int .i64 1)], .agg [.lit (.bool true), .lit (.bool false), .lit (.bool false), .lit (.bool true), .lit (.int .i64 1)], .agg [.lit (.bool false), .lit (.bool false), .lit (.bool false), .lit (.bool true), .lit (.int .i64 2)], .agg [.lit (.bool false), .lit (.bool false), .lit (.bool false), .lit (.bool true), .lit (.int .i64 0)], .agg [.lit (.bool true), .lit (.bool false), .lit (.bool false), .lit (.bool true), .lit (.int .i64 (-1))], .agg [.lit (.bool false), .lit (.bool false), .lit (.bool false), .lit (.bool false), .lit (.int .i64 1)]]

/-- 'smithylaw24.SpansNumbers': WHATEVER THE INPUT: true; the input reads as it did. -/
def spansNumbersSpec : ChangeSpec := { name := "spansNumbers", fn := fun _ => fun
  | [] => { results := [.lit (.bool true)], args := [] }
  | _ => none }
def spansNumbersRow : OpenClaim := { program := "ytbjpicankhckiaadoor", sum := "1f03acb783d83bbd4716ed327efdd362b7281b195b109546985b63908bbbdc10", func := "smithy/smithylaw24.SpansNumbers", spec := "spansNumbers", inPlace := ["math.Float64frombits"], unfollowed := true, recurses := true, named := ["smithy/graph.forms"], apart := false, laid := [("smithy/graph.forms", laid_smithy_graph_forms)] }
def SpansNumbersSaid : Prop := spansNumbersRow.holds Tryd.pinned (OpenSpec.ofChange spansNumbersSpec)

/-- ITS FALSE NEIGHBOUR: 'it returns false'. Refute it at one input. -/
def spansNumbersWrong : ChangeSpec := { name := "spansNumbers", fn := fun _ => fun
  | [] => { results := [.lit (.bool false)], args := [] }
  | _ => none }
def SpansNumbersWrongFalsely : Prop := spansNumbersRow.holds Tryd.pinned (OpenSpec.ofChange spansNumbersWrong)

/-- 'smithylaw24.SpansOnce': WHATEVER THE INPUT: true; the input reads as it did. -/
def spansOnceSpec : ChangeSpec := { name := "spansOnce", fn := fun _ => fun
  | [d] => { results := [.lit (.bool true)], args := [d] }
  | _ => none }
def spansOnceRow : OpenClaim := { program := "ytbjpicankhckiaadoor", sum := "1f03acb783d83bbd4716ed327efdd362b7281b195b109546985b63908bbbdc10", func := "smithy/smithylaw24.SpansOnce", spec := "spansOnce", inPlace := ["math.Float64frombits"], unfollowed := true, recurses := true, named := ["smithy/graph.forms"], apart := false, laid := [("smithy/graph.forms", laid_smithy_graph_forms)] }
def SpansOnceSaid : Prop := spansOnceRow.holds Tryd.pinned (OpenSpec.ofChange spansOnceSpec)

/-- ITS FALSE NEIGHBOUR: 'it returns false'. Refute it at one input. -/
def spansOnceWrong : ChangeSpec := { name := "spansOnce", fn := fun _ => fun
  | [d] => { results := [.lit (.bool false)], args := [d] }
  | _ => none }
def SpansOnceWrongFalsely : Prop := spansOnceRow.holds Tryd.pinned (OpenSpec.ofChange spansOnceWrong)

/- THE SECOND FORM. 'bulk': how many values and letters a reading holds, each counted each time it is reached (what is shared counts as often as it is met; a slice's spare places count too). A statement '..UptoSaid' is the law's where the arguments, and the package variables that the reading takes, are together of bulk at most 1048576: NARROWER than '..Said'. Prove '..Said' where nothing that the law and all that it calls make is longer than what came in: it says more and counts as full. Else prove '..UptoSaid'. A law counts once. -/
mutual
def uptoBulk {H : Type} : DataW H → Nat
  | .lit (.string bytes) => bytes.length + 1
  | .lit _ => 1
  | .nil => 1
  | .ptr d => uptoBulk d + 1
  | .slice elems spare => uptoBulkAll elems + uptoBulkAll spare + 1
  | .agg parts => uptoBulkAll parts + 1
  | .iface _ d => uptoBulk d + 1
  | .map entries => uptoBulkEntries entries + 1
  | .held _ => 1
def uptoBulkAll {H : Type} : List (DataW H) → Nat
  | [] => 0
  | d :: r => uptoBulk d + uptoBulkAll r
def uptoBulkEntries {H : Type} : List (Lit × DataW H) → Nat
  | [] => 0
  | x :: r => uptoBulkEntry x + uptoBulkEntries r
def uptoBulkEntry {H : Type} : Lit × DataW H → Nat
  | (.string bytes, d) => bytes.length + uptoBulk d + 1
  | (_, d) => uptoBulk d + 1
 end
def uptoSmall : (H : Type) → List (DataW H) → Bool := fun _ ds => decide (uptoBulkAll ds ≤ 1048576)
def OpenSpec.upto (s : _root_.Go.ChangeSpec) : _root_.Go.OpenSpec := { _root_.Go.OpenSpec.ofChange s with cond := some uptoSmall }

/-- 'smithylaw24.SpansNumbers', WHERE WHAT IT READS IS OF BULK AT MOST 1048576: true; the input reads as it did. -/
def spansNumbersUptoRow : OpenClaim := { program := "ytbjpicankhckiaadoor", sum := "1f03acb783d83bbd4716ed327efdd362b7281b195b109546985b63908bbbdc10", func := "smithy/smithylaw24.SpansNumbers", spec := "spansNumbers", inPlace := ["math.Float64frombits"], unfollowed := true, recurses := true, named := ["smithy/graph.forms"], apart := false, laid := [("smithy/graph.forms", laid_smithy_graph_forms)], narrowed := true }
def SpansNumbersUptoSaid : Prop := spansNumbersUptoRow.holds Tryd.pinned (OpenSpec.upto spansNumbersSpec)

/-- 'smithylaw24.SpansOnce', WHERE WHAT IT READS IS OF BULK AT MOST 1048576: true; the input reads as it did. -/
def spansOnceUptoRow : OpenClaim := { program := "ytbjpicankhckiaadoor", sum := "1f03acb783d83bbd4716ed327efdd362b7281b195b109546985b63908bbbdc10", func := "smithy/smithylaw24.SpansOnce", spec := "spansOnce", inPlace := ["math.Float64frombits"], unfollowed := true, recurses := true, named := ["smithy/graph.forms"], apart := false, laid := [("smithy/graph.forms", laid_smithy_graph_forms)], narrowed := true }
def SpansOnceUptoSaid : Prop := spansOnceUptoRow.holds Tryd.pinned (OpenSpec.upto spansOnceSpec)

end Rows
end Go.Proofs.YtbjpicankhckiaaDoor
