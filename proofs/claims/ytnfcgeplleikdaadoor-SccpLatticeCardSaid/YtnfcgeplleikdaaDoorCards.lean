/-
  DERIVED. GIVEN WITH THE SEED: THE CARDS: each row of YtnfcgeplleikdaaDoorRows.lean that lists a variable, with what it lists TIED to the program's text (the seventh form; the later family's looks); each row that meets fmt, with fmt's text TOLD by the authors' own Lean function (tested against real Go, not proved from fmt's source: count such statements apart). THE CARD IS WHAT COUNTS. Prove the row's statement (the work); the ties are given (YtnfcgeplleikdaaDoorTie.lean); close each card by the builder's one call (the guide's Derived/Test/ToyasCard.lean, 'card_holds'). Laid BY PROGRAM, IN A SANDBOX (cutbox-door.mjs). By AI agents, Wed Nov 11 2026. No macro, syntax, notation, axiom, sorry.
-/
import Derived.Test.YtnfcgeplleikdaaDoorRows
import GoSem.ClaimSeven
namespace Go.Proofs.YtnfcgeplleikdaaDoor
namespace Rows

/-- THE TIED CARD OF 'smithylaw14.SccpMeets'. -/
def sccpMeetsCard : Claim7 := { stood := { row := sccpMeetsRow, standIns := [], harness := (true, "4f03133c718a603539e42d0ca5f54807160b5f9d7190f052bd4be66f863f7d0f"), looks := false }, kinds := [], alts := [], laidByText := true, laidKinds := [.data, .data, .data], laidTests := true, laidLooks := .later }
def SccpMeetsCardSaid : Prop := Claim7.holds Tryd.pinned (.plain (OpenSpec.ofChange sccpMeetsSpec)) sccpMeetsCard

/-- THE TIED CARD OF 'smithylaw14.SccpLattice'. -/
def sccpLatticeCard : Claim7 := { stood := { row := sccpLatticeRow, standIns := [], harness := (true, "4f03133c718a603539e42d0ca5f54807160b5f9d7190f052bd4be66f863f7d0f"), looks := false }, kinds := [], alts := [], laidByText := true, laidKinds := [.data, .data, .data], laidTests := true, laidLooks := .later }
def SccpLatticeCardSaid : Prop := Claim7.holds Tryd.pinned (.plain (OpenSpec.ofChange sccpLatticeSpec)) sccpLatticeCard

/-- THE SECOND FORM's CARD OF 'smithylaw14.SccpMeets'. -/
def sccpMeetsUptoCard : Claim7 := { stood := { row := sccpMeetsUptoRow, standIns := [], harness := (true, "4f03133c718a603539e42d0ca5f54807160b5f9d7190f052bd4be66f863f7d0f"), looks := false }, kinds := [], alts := [], laidByText := true, laidKinds := [.data, .data, .data], laidTests := true, laidLooks := .later }
def SccpMeetsUptoCardSaid : Prop := Claim7.holds Tryd.pinned (.plain (OpenSpec.upto sccpMeetsSpec)) sccpMeetsUptoCard

/-- THE SECOND FORM's CARD OF 'smithylaw14.SccpLattice'. -/
def sccpLatticeUptoCard : Claim7 := { stood := { row := sccpLatticeUptoRow, standIns := [], harness := (true, "4f03133c718a603539e42d0ca5f54807160b5f9d7190f052bd4be66f863f7d0f"), looks := false }, kinds := [], alts := [], laidByText := true, laidKinds := [.data, .data, .data], laidTests := true, laidLooks := .later }
def SccpLatticeUptoCardSaid : Prop := Claim7.holds Tryd.pinned (.plain (OpenSpec.upto sccpLatticeSpec)) sccpLatticeUptoCard
end Rows
end Go.Proofs.YtnfcgeplleikdaaDoor
