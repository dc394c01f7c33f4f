/- SpansNumbers (a closed law) answers true in whatever memory it is called. No condition. -/
import Derived.Test.YtbjpicankhckiaaDoorCards
import Derived.Test.YtbjpicankhckiaaDoorTie
import Derived.Test.YtbjpicankhckiaaDoorAmTop
import Derived.Test.YtbjpicankhckiaaDoorAmSRows
import Derived.Test.YtbjpicankhckiaaDoorAmSMemo
set_option maxRecDepth 100000
namespace Go.Proofs.YtbjpicankhckiaaDoor.Numbers
open Go Go.ChangeShapes Go.WideShapes Go.ChangeAt Go.RowKit Am

theorem own : ownKnob Tryd.prog.godebug = none := by kernel_rfl
theorem gForms : Tryd.prog.globalNamed "smithy/graph.forms" = some 1 := by kernel_rfl
theorem gFormsType : (Tryd.prog.globals[1]?).map (·.type) = some 125 := by kernel_rfl
def formTy : Ty := .cons .bool (.cons .bool (.cons .bool (.cons .bool (.cons (.int .i64) .nil))))
def formsTy : Ty := .cons formTy (.cons formTy (.cons formTy (.cons formTy (.cons formTy (.cons formTy (.cons formTy (.cons formTy (.cons formTy (.cons formTy (.cons formTy .nil))))))))))
theorem formsOk : formsTy.okT Tryd.prog 125 = true := by kernel_rfl
theorem formsIs : absD formsTy (Rows.laid_smithy_graph_forms (H := Unit)) = some Am.S.forms := by kernel_rfl
theorem envOk : EnvOK Am.S.env Tryd.prog id (tabOf Tryd.prog id) := env_ok Am.S.rows (by kernel_rfl)
theorem globOk {W : World} (h : laidMetH Tryd.prog [("smithy/graph.forms", Rows.laid_smithy_graph_forms)] W) : GlobOK Am.S.env id (fun c => W.heap[c]?) := fun g cells hg => by
  have key := glob_of gForms gFormsType formsOk formsIs h
  by_cases e : g = 1
  · subst e
    obtain rfl : Am.S.forms = cells := Option.some.inj hg
    exact key
  · exfalso
    have : Am.S.glob g = some cells := hg
    unfold Am.S.glob at this
    split at this
    · exact e rfl
    · cases this
theorem codeOk : Am.S.env.fn 3 = some Am.S.c3 := by kernel_rfl
theorem ran : ∃ n h', callRaw Am.S.env (run Am.S.env n) 3 [] [] = some (.bool true, h') :=
  told_true Am.S.t26 (List.mem_cons_self (a := (([], V.bool true) : List V × V)) (l := Am.S.m25 3))

theorem contract (H : Type) (enc : TypeId × Value → H) (W : World) (args : Array Value) (ds gs : List (DataW H)) (before : List MemPlace)
    (hW : DataW.Whole enc Tryd.prog Tryd.f3.params.toList Rows.spansNumbersSpec.vars false W args.toList ds gs before) (hL : laidMetH Tryd.prog Rows.spansNumbersRow.laid W) :
    Calls Tryd.prog 3 args W fun e W' => ∃ v, e = .returned v ∧ Rows.spansNumbersSpec.post enc Tryd.prog Tryd.f3 false true false false W args v W' := by
  have hW' := hW
  obtain ⟨p, q, hA, hV, rfl, hfz, hnd⟩ := hW
  rw [Tryd.params3] at hA
  obtain ⟨rfl, rfl, rfl⟩ := trodAll_none hA
  obtain ⟨n, h', hr⟩ := ran
  refine (law_call envOk (f := 3) codeOk ⟨n, hr⟩ LR.nil (globOk hL)).mono fun e W' ⟨he, hs⟩ => ⟨_, he, ?_⟩
  exact law_post 4 hW' rfl rfl (by kernel_rfl) Tryd.underlying4 hs fun p hp _ _ => by
    rw [Tryd.params3] at hp ⊢
    obtain ⟨_, _, rfl⟩ := trodAll_none hp
    exact trodAll_mk0

noncomputable def laidWorld (os : Os) : World :=
  { World.holding Tryd.prog os ⟨#[], #[], []⟩ with heap := (World.holding Tryd.prog os ⟨#[], #[], []⟩).heap.modify 1 fun
      | .cells _ t frozen => .cells #[.bool false, .bool false, .bool false, .bool false, .int .i64 (0), .bool true, .bool false, .bool false, .bool false, .int .i64 (-1), .bool true, .bool false, .bool true, .bool false, .int .i64 (0), .bool true, .bool false, .bool false, .bool false, .int .i64 (1), .bool true, .bool true, .bool false, .bool false, .int .i64 (-1), .bool true, .bool false, .bool false, .bool false, .int .i64 (1), .bool true, .bool false, .bool false, .bool true, .int .i64 (1), .bool false, .bool false, .bool false, .bool true, .int .i64 (2), .bool false, .bool false, .bool false, .bool true, .int .i64 (0), .bool true, .bool false, .bool false, .bool true, .int .i64 (-1), .bool false, .bool false, .bool false, .bool false, .int .i64 (1)] t frozen
      | o => o }
theorem laid_met (os : Os) : laidMet Tryd.prog Rows.spansNumbersRow.laid ((laidWorld os).forCall (fun _ _ => 0) ⟨#[], #[], []⟩).memory :=
  laidMet_of_run' 8 (by kernel_rfl) (by kernel_rfl)
theorem reads (os : Os) {H : Type} (enc : TypeId × Value → H) : ∃ places, DataW.whole enc Tryd.prog ((laidWorld os).forCall (fun _ _ => 0) ⟨#[], #[], []⟩).memory Tryd.f3.params.toList Rows.spansNumbersSpec.vars false (#[] : Array Value).toList 8 = some ([], [], places) :=
  ⟨[], by kernel_rfl⟩
theorem lifted (os : Os) (started : os.Started) (H : Type) (enc : TypeId × Value → H) (F : Stop.Interp) :
    ReturnsInHanded {} Tryd.checked os 3 .any ((OpenSpec.ofChange Rows.spansNumbersSpec).preRow enc Tryd.prog Tryd.f3 Rows.spansNumbersRow.domain false Rows.spansNumbersRow.laid) (((OpenSpec.ofChange Rows.spansNumbersSpec).at F).post enc Tryd.prog Tryd.f3 false true false false) := by
  obtain ⟨places, hx⟩ := reads os enc
  refine returnsInHanded_of_row (C := Tryd.checked) (s := OpenSpec.ofChange Rows.spansNumbersSpec) own started (by kernel_rfl) Tryd.func3
    (witness_row_at (enc := enc) (C := Tryd.checked) false (laidWorld os) #[] rfl (by kernel_rfl) (by kernel_rfl) (by kernel_rfl)
      (OpenSpec.preRow_of_cond 8 hx (by kernel_rfl) (fun k hk => by cases hk) (by kernel_rfl) (laid_met os))) ?_
  intro W base args ds gs before hval hW _ _ _ hL _ _
  exact contract H enc W args ds gs before hW hL
theorem said : Rows.SpansNumbersSaid :=
  OpenClaim.holds_of_cond 3 Tryd.f3 rfl rfl rfl rfl rfl rfl rfl ⟨rfl, rfl, rfl, rfl, rfl⟩ rfl rfl rfl rfl rfl (by kernel_rfl) Tryd.func3 (by kernel_rfl)
    (of_decide_eq_true (by kernel_rfl)) (by unfold Func.isWrapper; first | (rw [if_pos (by decide +kernel)]; kernel_rfl) | (rw [if_neg (by decide +kernel)]; exact ⟨rfl, rfl⟩))
    (fun os started H enc _ F => by rw [OpenClaim.pre_eq_preRow]; exact lifted os started H enc F)
theorem plain (f : FuncId) (fn : Func) (hf : Tryd.pinned.checked.prog.funcNamed "smithy/smithylaw24.SpansNumbers" = some f) (hfn : Tryd.pinned.checked.prog.funcs[f]? = some fn) :
    false = Tryd.pinned.checked.prog.looks [] ∧ ∀ (j : Nat) t, fn.params[j]? = some t → Tryd.pinned.checked.prog.wantsStandIn t = false := by
  obtain rfl : f = 3 := Option.some.inj ((show Tryd.prog.funcNamed "smithy/smithylaw24.SpansNumbers" = some 3 by kernel_rfl).symm.trans hf) |>.symm
  obtain rfl : fn = Tryd.f3 := (Option.some.inj (Tryd.func3.symm.trans hfn)).symm
  refine ⟨by kernel_rfl, fun j t ht => ?_⟩
  rw [Tryd.params3] at ht
  simp at ht
theorem spansNumbers_card : Rows.SpansNumbersCardSaid :=
  Claim7.holds_tied_plain_at .later [] _ _ _ _ said (fun _ h => by cases h) (by kernel_rfl) (fun _ h => by cases h) spansNumbers_row_tie rfl ⟨rfl, rfl⟩ (by kernel_rfl) rfl plain (by kernel_rfl)
end Go.Proofs.YtbjpicankhckiaaDoor.Numbers
