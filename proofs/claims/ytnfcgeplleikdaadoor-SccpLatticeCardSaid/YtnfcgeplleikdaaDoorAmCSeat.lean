/- What both laws' rows need of their seat: the environment is the program's; what the listed variables hold. -/
import Derived.Test.YtnfcgeplleikdaaDoorCards
import Derived.Test.YtnfcgeplleikdaaDoorTie
import Derived.Test.YtnfcgeplleikdaaDoorAmTop
import Derived.Test.YtnfcgeplleikdaaDoorAmCRows
import Derived.Test.YtnfcgeplleikdaaDoorAmCMeet
set_option maxRecDepth 100000
namespace Go.Proofs.YtnfcgeplleikdaaDoor
open Go Go.ChangeShapes Go.WideShapes Go.ChangeAt Go.RowKit Am

theorem own : ownKnob Tryd.prog.godebug = none := by kernel_rfl
def formTy : Ty := .cons .bool (.cons .bool (.cons .bool (.cons .bool (.cons (.int .i64) .nil))))
def formsTy : Ty := .cons formTy (.cons formTy (.cons formTy (.cons formTy (.cons formTy (.cons formTy (.cons formTy (.cons formTy (.cons formTy (.cons formTy (.cons formTy .nil))))))))))
def cellTy : Ty := .cons (.int .u8) (.cons (.int .u64) .nil)
theorem g0n : Tryd.prog.globalNamed "smithy/sccp.varying" = some 0 := by kernel_rfl
theorem g1n : Tryd.prog.globalNamed "smithy/sccp.unseen" = some 1 := by kernel_rfl
theorem g3n : Tryd.prog.globalNamed "smithy/graph.forms" = some 3 := by kernel_rfl
theorem g0t : (Tryd.prog.globals[0]?).map (·.type) = some 25 := by kernel_rfl
theorem g1t : (Tryd.prog.globals[1]?).map (·.type) = some 25 := by kernel_rfl
theorem g3t : (Tryd.prog.globals[3]?).map (·.type) = some 141 := by kernel_rfl
theorem formsOk : formsTy.okT Tryd.prog 141 = true := by kernel_rfl
theorem cellOk : cellTy.okT Tryd.prog 25 = true := by kernel_rfl
theorem formsIs : absD formsTy (Rows.laid_smithy_graph_forms (H := Unit)) = some Am.C.forms := by kernel_rfl
theorem unseenIs : absD cellTy (Rows.laid_smithy_sccp_unseen (H := Unit)) = some [.int .u8 0, .int .u64 0] := by kernel_rfl
theorem varyingIs : absD cellTy (Rows.laid_smithy_sccp_varying (H := Unit)) = some [.int .u8 2, .int .u64 0] := by kernel_rfl
theorem envOk : EnvOK Am.C.env Tryd.prog id (tabOf Tryd.prog id) := env_ok Am.C.rows (by kernel_rfl)
theorem globOk {W : World} (h : laidMetH Tryd.prog [("smithy/graph.forms", Rows.laid_smithy_graph_forms), ("smithy/sccp.unseen", Rows.laid_smithy_sccp_unseen), ("smithy/sccp.varying", Rows.laid_smithy_sccp_varying)] W) : GlobOK Am.C.env id (fun c => W.heap[c]?) := fun g cells hg => by
  obtain ⟨ps, hl, _⟩ := h
  by_cases e0 : g = 0
  · subst e0
    obtain rfl := Option.some.inj (show some [V.int .u8 2, V.int .u64 0] = some cells from hg)
    exact glob_at g0n g0t cellOk varyingIs 2 rfl hl
  by_cases e1 : g = 1
  · subst e1
    obtain rfl := Option.some.inj (show some [V.int .u8 0, V.int .u64 0] = some cells from hg)
    exact glob_at g1n g1t cellOk unseenIs 1 rfl hl
  by_cases e3 : g = 3
  · subst e3
    obtain rfl := Option.some.inj (show some Am.C.forms = some cells from hg)
    exact glob_at g3n g3t formsOk formsIs 0 rfl hl
  exfalso
  have : Am.C.glob g = some cells := hg
  unfold Am.C.glob at this
  split at this
  · exact e3 rfl
  · exact e0 rfl
  · exact e1 rfl
  · cases this
theorem laidOut : laidOutB Tryd.prog = true := by kernel_rfl
theorem mapsRow : mapsRowed Tryd.prog = true := by kernel_rfl
theorem slicesFull : ((List.range Tryd.prog.types.size).all fun t => match Tryd.prog.underlying t with | some (.slice e) => decide (0 < Tryd.prog.cellsOf e) | _ => true) = true := by kernel_rfl
theorem arg_cell {H : Type} {enc : TypeId × Value → H} {W : World} {base : Nat} {sp : Nat → Bool} {held : Bool} {v : Value} {d : DataW H} {ps : List MemPlace} {r : Reach} {b0 : Nat} (hval : Value.okWide Tryd.prog W r b0 25 v) (hd : DataW.Trod enc Tryd.prog W base sp held 25 v d ps) :
    ∃ k b : Int, 0 ≤ k ∧ VR id (fun c => W.heap[c]?) noE (Am.C.cell k b) v := by
  obtain ⟨x, hw, _, hv⟩ := arg_struct cellOk Tryd.underlying25 hval hd
  exact ⟨x.1, x.2.1, hw.1.1, hv⟩
def lay (g : Nat) (cs : Array Value) (h : Array Obj) : Array Obj := h.modify g fun
  | .cells _ t frozen => .cells cs t frozen
  | o => o
def formsC : Array Value := #[.bool false, .bool false, .bool false, .bool false, .int .i64 (0), .bool true, .bool false, .bool false, .bool false, .int .i64 (-1), .bool true, .bool false, .bool true, .bool false, .int .i64 (0), .bool true, .bool false, .bool false, .bool false, .int .i64 (1), .bool true, .bool true, .bool false, .bool false, .int .i64 (-1), .bool true, .bool false, .bool false, .bool false, .int .i64 (1), .bool true, .bool false, .bool false, .bool true, .int .i64 (1), .bool false, .bool false, .bool false, .bool true, .int .i64 (2), .bool false, .bool false, .bool false, .bool true, .int .i64 (0), .bool true, .bool false, .bool false, .bool true, .int .i64 (-1), .bool false, .bool false, .bool false, .bool false, .int .i64 (1)]
noncomputable def laidWorld (os : Os) : World :=
  { World.holding Tryd.prog os ⟨#[], #[], []⟩ with heap := lay 1 #[.int .u8 0, .int .u64 0] (lay 0 #[.int .u8 2, .int .u64 0] (lay 3 formsC (World.holding Tryd.prog os ⟨#[], #[], []⟩).heap)) }
end Go.Proofs.YtnfcgeplleikdaaDoor
