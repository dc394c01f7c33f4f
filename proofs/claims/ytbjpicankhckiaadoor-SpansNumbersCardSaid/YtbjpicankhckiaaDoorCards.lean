/-
  DERIVED. GIVEN WITH THE SEED: THE CARDS: each row of YtbjpicankhckiaaDoorRows.lean that lists a variable, with what it lists TIED to the program's text (the seventh form; the later family's looks); each row that meets fmt, with fmt's text TOLD by the authors' own Lean function (tested against real Go, not proved from fmt's source: count such statements apart). THE CARD IS WHAT COUNTS. Prove the row's statement (the work); the ties are given (YtbjpicankhckiaaDoorTie.lean); close each card by the builder's one call (the guide's Derived/Test/ToyasCard.lean, 'card_holds'). Laid BY PROGRAM, IN A SANDBOX (cutbox-door.mjs). By AI agents, Wed Nov 11 2026. No macro, syntax, notation, axiom, sorry.
-/
import Derived.Test.YtbjpicankhckiaaDoorRows
import GoSem.ClaimSeven
namespace Go.Proofs.YtbjpicankhckiaaDoor
namespace Rows

/-- THE TIED CARD OF 'smithylaw24.SpansNumbers'. -/
def spansNumbersCard : Claim7 := { stood := { row := spansNumbersRow, standIns := [], harness := (true, "4b28d7134423744db30cb8800c551524bc0475755be38229581621470faf9d87"), looks := false }, kinds := [], alts := [], laidByText := true, laidKinds := [.data], laidTests := true, laidLooks := .later }
def SpansNumbersCardSaid : Prop := Claim7.holds Tryd.pinned (.plain (OpenSpec.ofChange spansNumbersSpec)) spansNumbersCard

/-- THE TIED CARD OF 'smithylaw24.SpansOnce'. -/
def spansOnceCard : Claim7 := { stood := { row := spansOnceRow, standIns := [], harness := (true, "4b28d7134423744db30cb8800c551524bc0475755be38229581621470faf9d87"), looks := false }, kinds := [], alts := [], laidByText := true, laidKinds := [.data], laidTests := true, laidLooks := .later }
def SpansOnceCardSaid : Prop := Claim7.holds Tryd.pinned (.plain (OpenSpec.ofChange spansOnceSpec)) spansOnceCard

/-- THE SECOND FORM's CARD OF 'smithylaw24.SpansNumbers'. -/
def spansNumbersUptoCard : Claim7 := { stood := { row := spansNumbersUptoRow, standIns := [], harness := (true, "4b28d7134423744db30cb8800c551524bc0475755be38229581621470faf9d87"), looks := false }, kinds := [], alts := [], laidByText := true, laidKinds := [.data], laidTests := true, laidLooks := .later }
def SpansNumbersUptoCardSaid : Prop := Claim7.holds Tryd.pinned (.plain (OpenSpec.upto spansNumbersSpec)) spansNumbersUptoCard

/-- THE SECOND FORM's CARD OF 'smithylaw24.SpansOnce'. -/
def spansOnceUptoCard : Claim7 := { stood := { row := spansOnceUptoRow, standIns := [], harness := (true, "4b28d7134423744db30cb8800c551524bc0475755be38229581621470faf9d87"), looks := false }, kinds := [], alts := [], laidByText := true, laidKinds := [.data], laidTests := true, laidLooks := .later }
def SpansOnceUptoCardSaid : Prop := Claim7.holds Tryd.pinned (.plain (OpenSpec.upto spansOnceSpec)) spansOnceUptoCard
end Rows
end Go.Proofs.YtbjpicankhckiaaDoor
