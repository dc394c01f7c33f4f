/- SccpLattice: the law answers true, whatever the cells; the input reads as it did. No condition. -/
import Derived.Test.YtnfcgeplleikdaaDoorAmCSeat
import Derived.Test.YtnfcgeplleikdaaDoorAmCMeets
import Derived.Test.YtnfcgeplleikdaaDoorAmCLattice
set_option maxRecDepth 100000
namespace Go.Proofs.YtnfcgeplleikdaaDoor.sccpLattice
open Go Go.ChangeShapes Go.WideShapes Go.ChangeAt Go.RowKit Am
theorem contract (H : Type) (enc : TypeId × Value → H) (W : World) (base : Nat) (args : Array Value) (ds gs : List (DataW H)) (before : List MemPlace)
    (hval : ∀ (j : Nat) t v, Tryd.f4.params[j]? = some t → args[j]? = some v → Value.okWide Tryd.prog W .any base t v)
    (hW : DataW.Whole enc Tryd.prog Tryd.f4.params.toList Rows.sccpLatticeSpec.vars false W args.toList ds gs before) (hL : laidMetH Tryd.prog Rows.sccpLatticeRow.laid W) :
    Calls Tryd.prog 4 args W fun e W' => ∃ v, e = .returned v ∧ Rows.sccpLatticeSpec.post enc Tryd.prog Tryd.f4 false true false false W args v W' := by
  have hW' := hW
  obtain ⟨p, q, hA, hV, rfl, hfz, hnd⟩ := hW
  rw [Tryd.params4] at hA hval
  obtain ⟨v0, vs0, d0, ds0, p0, q0, hv0, rfl, rfl, t0, r0⟩ := trodAll_cons hA
  obtain ⟨v1, vs1, d1, ds1, p1, q1, hv1, rfl, rfl, t1, r1⟩ := trodAll_cons r0
  obtain ⟨v2, vs2, d2, ds2, p2, q2, hv2, rfl, rfl, t2, r2⟩ := trodAll_cons r1
  obtain ⟨rfl, rfl, rfl⟩ := trodAll_nil r2
  obtain rfl : args = #[v0, v1, v2] := by cases args; simp_all
  obtain ⟨k0, b0, w0, x0⟩ := arg_cell (hval 0 25 v0 rfl rfl) t0
  obtain ⟨k1, b1, w1, x1⟩ := arg_cell (hval 1 25 v1 rfl rfl) t1
  obtain ⟨k2, b2, w2, x2⟩ := arg_cell (hval 2 25 v2 rfl rfl) t2
  obtain ⟨h', hr⟩ := Am.C.SccpLattice_raw Am.C.awake (k0, b0) (k1, b1) (k2, b2) w0 w1 w2
  refine (law_callR envOk (f := 4) (show Am.C.env.fn 4 = some Am.C.c4 by kernel_rfl) hr (LR.cons x0 (LR.cons x1 (LR.cons x2 (LR.nil)))) (globOk hL)).mono fun e W' ⟨he, hs⟩ => ⟨_, he, ?_⟩
  exact law_post2 4 hW' rfl rfl (by kernel_rfl) Tryd.underlying4 hs laidOut mapsRow slicesFull (fun t ht => by
    rw [Tryd.params4] at ht
    have : t = 25 := by simpa using ht
    rw [this]
    exact of_decide_eq_true (by kernel_rfl))
theorem laid_met (os : Os) : laidMet Tryd.prog Rows.sccpLatticeRow.laid ((laidWorld os).forCall (fun _ _ => 0) ⟨#[], #[Value.agg #[.int .u8 0, .int .u64 0], Value.agg #[.int .u8 0, .int .u64 0], Value.agg #[.int .u8 0, .int .u64 0]], []⟩).memory :=
  laidMet_of_run' 8 (by kernel_rfl) (by kernel_rfl)
theorem reads (os : Os) {H : Type} (enc : TypeId × Value → H) : ∃ places, DataW.whole enc Tryd.prog ((laidWorld os).forCall (fun _ _ => 0) ⟨#[], #[Value.agg #[.int .u8 0, .int .u64 0], Value.agg #[.int .u8 0, .int .u64 0], Value.agg #[.int .u8 0, .int .u64 0]], []⟩).memory Tryd.f4.params.toList Rows.sccpLatticeSpec.vars false (#[Value.agg #[.int .u8 0, .int .u64 0], Value.agg #[.int .u8 0, .int .u64 0], Value.agg #[.int .u8 0, .int .u64 0]] : Array Value).toList 8 = some ([.agg [.lit (.int .u8 0), .lit (.int .u64 0)], .agg [.lit (.int .u8 0), .lit (.int .u64 0)], .agg [.lit (.int .u8 0), .lit (.int .u64 0)]], [], places) :=
  ⟨[], by kernel_rfl⟩
theorem lifted (os : Os) (started : os.Started) (H : Type) (enc : TypeId × Value → H) (F : Stop.Interp) :
    ReturnsInHanded {} Tryd.checked os 4 .any ((OpenSpec.ofChange Rows.sccpLatticeSpec).preRow enc Tryd.prog Tryd.f4 Rows.sccpLatticeRow.domain false Rows.sccpLatticeRow.laid) (((OpenSpec.ofChange Rows.sccpLatticeSpec).at F).post enc Tryd.prog Tryd.f4 false true false false) := by
  obtain ⟨places, hx⟩ := reads os enc
  refine returnsInHanded_of_row (C := Tryd.checked) (s := OpenSpec.ofChange Rows.sccpLatticeSpec) own started (by kernel_rfl) Tryd.func4
    (witness_row_at (enc := enc) (C := Tryd.checked) false (laidWorld os) #[Value.agg #[.int .u8 0, .int .u64 0], Value.agg #[.int .u8 0, .int .u64 0], Value.agg #[.int .u8 0, .int .u64 0]] rfl (by kernel_rfl) (by kernel_rfl) (by kernel_rfl)
      (OpenSpec.preRow_of_cond 8 hx (by kernel_rfl) (fun k hk => by cases hk) (by kernel_rfl) (laid_met os))) ?_
  intro W base args ds gs before hval hW _ _ _ hL _ _
  exact contract H enc W base args ds gs before hval hW hL
theorem said : Rows.SccpLatticeSaid :=
  OpenClaim.holds_of_cond 4 Tryd.f4 rfl rfl rfl rfl rfl rfl rfl ⟨rfl, rfl, rfl, rfl, rfl⟩ rfl rfl rfl rfl rfl (by kernel_rfl) Tryd.func4 (by kernel_rfl)
    (of_decide_eq_true (by kernel_rfl)) (by unfold Func.isWrapper; first | (rw [if_pos (by decide +kernel)]; kernel_rfl) | (rw [if_neg (by decide +kernel)]; exact ⟨rfl, rfl⟩))
    (fun os started H enc _ F => by rw [OpenClaim.pre_eq_preRow]; exact lifted os started H enc F)
theorem plain (f : FuncId) (fn : Func) (hf : Tryd.pinned.checked.prog.funcNamed "smithy/smithylaw14.SccpLattice" = some f) (hfn : Tryd.pinned.checked.prog.funcs[f]? = some fn) :
    false = Tryd.pinned.checked.prog.looks [] ∧ ∀ (j : Nat) t, fn.params[j]? = some t → Tryd.pinned.checked.prog.wantsStandIn t = false := by
  obtain rfl : f = 4 := Option.some.inj ((show Tryd.prog.funcNamed "smithy/smithylaw14.SccpLattice" = some 4 by kernel_rfl).symm.trans hf) |>.symm
  obtain rfl : fn = Tryd.f4 := (Option.some.inj (Tryd.func4.symm.trans hfn)).symm
  refine ⟨by kernel_rfl, fun j t ht => ?_⟩
  rw [Tryd.params4] at ht
  obtain rfl : t = 25 := by simpa using Array.mem_of_getElem? ht
  exact (show Tryd.prog.wantsStandIn 25 = false by kernel_rfl)
theorem card : Rows.SccpLatticeCardSaid :=
  Claim7.holds_tied_plain_at .later [] _ _ _ _ said (fun _ h => by cases h) (by kernel_rfl) (fun _ h => by cases h) sccpLattice_row_tie rfl ⟨rfl, rfl⟩ (by kernel_rfl) rfl plain (by kernel_rfl)
end Go.Proofs.YtnfcgeplleikdaaDoor.sccpLattice
