/- SccpMeets: the law's call answers true. -/
import Derived.Test.YtnfcgeplleikdaaDoorAmCMeet
import Derived.Test.YtnfcgeplleikdaaDoorAmTop
import Derived.Test.YtnfcgeplleikdaaDoorAmCMemo
set_option maxRecDepth 100000
namespace Am
theorem told_call {Γ : Env} {M : Memo} {f : Nat} {v : V} {h : Heap} (hm : Γ.mode f = .fresh) (hM : Tells Γ M) (hv : ([], v) ∈ M f) : callF Γ (R Γ) f [] h = some (v, h) := by
  obtain ⟨n, hn⟩ := hM
  obtain ⟨⟨u, h'⟩, h1, h2⟩ := hn f [] _ hv
  exact callF_pure hm rfl (callRaw_mono (run_R n) h1) h2
end Am
namespace Am.C
open Am
noncomputable section
attribute [local congr] bindV_congr thenN_congr obind_congr omap_congr fin_congr leave_congr gate_congr
theorem fnLM : env.fn 3 = some c3 := by kernel_rfl
theorem awake (h : Heap) : callF env (R env) 5 [] h = some (.bool true, h) :=
  told_call (by rfl) t26 (List.mem_cons_self (a := (([], V.bool true) : List V × V)) (l := m25 5))
theorem snap_cell {h : Heap} {n : Nat} {k b : Int} : snap h (n + 2) (cell k b) = some (cell k b) := rfl
theorem MeetF (ka ba kb bb : Int) (h : Heap) : callF env (R env) 6 [cell ka ba, cell kb bb] h = some (cell (meet (ka, ba) (kb, bb)).1 (meet (ka, ba) (kb, bb)).2, h) := by
  obtain ⟨h', e⟩ := Meet (ka, ba) (kb, bb)
  exact callF_pure (by rfl) rfl e rfl
theorem RMeetF (ka ba kb bb : Int) (ha : 0 ≤ ka) (hb : 0 ≤ kb) (h : Heap) : callF env (R env) 7 [cell ka ba, cell kb bb] h = some (cell (meet (ka, ba) (kb, bb)).1 (meet (ka, ba) (kb, bb)).2, h) := by
  obtain ⟨h', e⟩ := RMeet (ka, ba) (kb, bb) ha hb
  exact callF_pure (by rfl) rfl e rfl
theorem qLM : quietOps env c3_r1 = true := by kernel_rfl
theorem getC2' {x y : V} : getC (some 2) [x, y] 0 = some (.agg [x, y]) := by simp [getC]
theorem beq_self_int (a : Int) : (a == a) = true := by simp
theorem SccpMeets_raw (ka ba kb bb : Int) (ha : 0 ≤ ka) (hb : 0 ≤ kb) : ∃ h', callRaw env (R env) 3 [cell ka ba, cell kb bb] [] = some (.bool true, h') := by
  obtain ⟨tm, hl, ha, e⟩ := call_enter' (Γ := env) (ih := R env) fnLM [cell ka ba, cell kb bb] [] (by simp)
  have h0 := ha 0 (by simp); have h1 := ha 1 (by simp)
  rw [e]; clear ha e
  simp only [List.getElem?_cons_zero, List.getElem?_cons_succ] at h0 h1
  have e1 := MeetF ka ba kb bb
  have e2 := RMeetF ka ba kb bb ha hb
  simp only [cell] at h0 h1 e1 e2
  simp only [c3_r0, region_quiet qLM, R_skip, R_label, R_exit, R_goto, R_ret, R_seq, R_region, R_cond, R_block, region_plain, ops_cons, ops_gate, gate_tt, gate_tf, gate_ft, gate_ff, ops_nil, bindV_some, bindV_none, putT_some, putT_none, ev_t, ev_c, evs_nil, evs_cons, evp_nil, evp_cons, evq_nil, evq_cons, buildC_nil, buildC_cons, litC_nil, litC_cons, get_set, List.length_set, s_move, s_pick, s_new, s_box, s_build, s_lit, s_load, s_store, s_nilc, s_bin, s_eqa, s_eqb, s_un, s_conv, s_mkf, s_mkm, s_mks, s_slice, s_faddr, s_field, s_iaddr, s_index, s_look, s_mupd, s_mdel, s_len, s_app, s_ext, s_call, thenN_none, thenN_normal, thenN_exit, thenN_goto, thenN_ret, leave_none, leave_normal, leave_ret, leave_goto, leave_exit, condB_bool, fin_none, fin_normal, fin_ret, mapO_nil, mapO_cons, resOf_tmp, resOf_cell, oneOf_one, oneOf_two, oneOf_nil, pick_tt, pick_ff, lenV_nils, lenV_ps, lenV_psN, lenV_sl, natOf_nat, natOf_zero, natOf_one, natOf_2, natOf_3, natOf_4, natOf_5, natOf_6, natOf_7, natOf_8, natOf_9, bin_add, bin_sub, bin_mul, bin_eql, bin_neq, bin_lss, bin_leq, bin_gtr, bin_geq, un_not, iaddr_ps, iaddr_psN, iaddr_sl, iaddr_ptr, iaddr_pp, load_pp, load_ptr, getC_none, faddr_ptr, faddr_pp, field_agg, cells_agg, cells_int, cells_bool, cells_ps, cells_psN, cells_sl, cells_nils, Option.bind_some, Option.bind_none, Option.map_some, Option.map_none, reduceIte, Nat.reduceEqDiff, Nat.reduceLT, Nat.reduceAdd, reduceCtorEq, Bool.false_eq_true, Bool.not_true, Bool.not_false, Bool.and_self, Bool.true_and, Bool.and_true, Nat.reduceBEq, List.all_cons, List.all_nil, Nat.add_zero, Nat.zero_add, one_ne_zero_n, zero_ne_one_n, Nat.reduceLeDiff, and_self, setC, List.set_cons_zero, List.set_cons_succ, List.length_cons, List.length_nil, List.replicate_succ, List.replicate_zero, Graph.cells_len, Graph.cells_one, GBlk.cells_len, GBlk.cells_one, GIns.cells_len, GIns.cells_one, Graph.c1, Graph.c2, Graph.c3, Graph.c4, Graph.c5, GBlk.c0, GBlk.c1, GBlk.c2, GBlk.c3, GBlk.c4, GBlk.c5, GIns.c0, GIns.c1, GIns.c2, GIns.c3, GIns.c4, GIns.c5, len_ints, len_tys, len_inss, len_blks, len_arrs, at_ints, at_tys, at_inss, at_blks, at_arrs, load6, and_self, List.length_nil, List.nil_append, rowAt_zero, rowAt_one, rowAt_two, rowAt_succ, rowAt_last, List.getElem?_cons_zero, List.getElem?_cons_succ, List.length_cons, List.length_singleton, List.cons_append, store_ptr, Nat.le_refl, List.set_cons_succ, List.set_cons_zero, set_last, setC6, setC_one, List.all_cons, List.all_nil, Bool.and_true, V.one_int, Bool.and_self, List.length_nil, true_and, and_true, h0, h1, hl]
  simp only [c3_r1, R_skip, R_label, R_exit, R_goto, R_ret, R_seq, R_region, R_cond, R_block, region_plain, ops_cons, ops_gate, gate_tt, gate_tf, gate_ft, gate_ff, ops_nil, bindV_some, bindV_none, putT_some, putT_none, ev_t, ev_c, evs_nil, evs_cons, evp_nil, evp_cons, evq_nil, evq_cons, buildC_nil, buildC_cons, litC_nil, litC_cons, get_set, List.length_set, s_move, s_pick, s_new, s_box, s_build, s_lit, s_load, s_store, s_nilc, s_bin, s_eqa, s_eqb, s_un, s_conv, s_mkf, s_mkm, s_mks, s_slice, s_faddr, s_field, s_iaddr, s_index, s_look, s_mupd, s_mdel, s_len, s_app, s_ext, s_call, thenN_none, thenN_normal, thenN_exit, thenN_goto, thenN_ret, leave_none, leave_normal, leave_ret, leave_goto, leave_exit, condB_bool, fin_none, fin_normal, fin_ret, mapO_nil, mapO_cons, resOf_tmp, resOf_cell, oneOf_one, oneOf_two, oneOf_nil, pick_tt, pick_ff, lenV_nils, lenV_ps, lenV_psN, lenV_sl, natOf_nat, natOf_zero, natOf_one, natOf_2, natOf_3, natOf_4, natOf_5, natOf_6, natOf_7, natOf_8, natOf_9, bin_add, bin_sub, bin_mul, bin_eql, bin_neq, bin_lss, bin_leq, bin_gtr, bin_geq, un_not, iaddr_ps, iaddr_psN, iaddr_sl, iaddr_ptr, iaddr_pp, load_pp, load_ptr, getC_none, faddr_ptr, faddr_pp, field_agg, cells_agg, cells_int, cells_bool, cells_ps, cells_psN, cells_sl, cells_nils, Option.bind_some, Option.bind_none, Option.map_some, Option.map_none, reduceIte, Nat.reduceEqDiff, Nat.reduceLT, Nat.reduceAdd, reduceCtorEq, Bool.false_eq_true, Bool.not_true, Bool.not_false, Bool.and_self, Bool.true_and, Bool.and_true, Nat.reduceBEq, List.all_cons, List.all_nil, Nat.add_zero, Nat.zero_add, one_ne_zero_n, zero_ne_one_n, Nat.reduceLeDiff, and_self, setC, List.set_cons_zero, List.set_cons_succ, List.length_cons, List.length_nil, List.replicate_succ, List.replicate_zero, Graph.cells_len, Graph.cells_one, GBlk.cells_len, GBlk.cells_one, GIns.cells_len, GIns.cells_one, Graph.c1, Graph.c2, Graph.c3, Graph.c4, Graph.c5, GBlk.c0, GBlk.c1, GBlk.c2, GBlk.c3, GBlk.c4, GBlk.c5, GIns.c0, GIns.c1, GIns.c2, GIns.c3, GIns.c4, GIns.c5, len_ints, len_tys, len_inss, len_blks, len_arrs, at_ints, at_tys, at_inss, at_blks, at_arrs, load6, and_self, List.length_nil, List.nil_append, rowAt_zero, rowAt_one, rowAt_two, rowAt_succ, rowAt_last, List.getElem?_cons_zero, List.getElem?_cons_succ, List.length_cons, List.length_singleton, List.cons_append, store_ptr, Nat.le_refl, List.set_cons_succ, List.set_cons_zero, set_last, setC6, setC_one, List.all_cons, List.all_nil, Bool.and_true, V.one_int, Bool.and_self, List.length_nil, true_and, and_true, h0, h1, hl, awake, getC2', e1, e2, eqa2, beq_self_int]
  exact ⟨_, rfl⟩
end
end Am.C
