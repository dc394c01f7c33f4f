/- Contracts: the meet of two cells, by the program and by the document's answer. -/
import Derived.Test.YtnfcgeplleikdaaDoorAmGr
import Derived.Test.YtnfcgeplleikdaaDoorAmView2
import Derived.Test.YtnfcgeplleikdaaDoorAmCClosed
import Derived.KernelRfl
set_option maxRecDepth 100000
namespace Am.C
open Am
noncomputable section
attribute [local congr] bindV_congr thenN_congr obind_congr omap_congr fin_congr leave_congr gate_congr
def cell (k b : Int) : V := .agg [.int .u8 k, .int .u64 b]
def meet (a b : Int × Int) : Int × Int :=
  if a.1 ≥ 2 ∨ b.1 ≥ 2 then (2, 0) else if a.1 = 0 ∧ b.1 = 0 then (0, 0) else if a.1 = 0 then b else if b.1 = 0 ∨ a = b then a else (2, 0)
theorem fnMT : env.fn 6 = some c6 := by kernel_rfl
theorem fnRM : env.fn 7 = some c7 := by kernel_rfl
theorem g0 : env.glob 0 = some [.int .u8 2, .int .u64 0] := rfl
theorem g1 : env.glob 1 = some [.int .u8 0, .int .u64 0] := rfl
theorem getC2 {x y : V} : getC (some 2) [x, y] 0 = some (.agg [x, y]) := by simp [getC]
theorem setC2 {x y u v : V} : setC [x, y] 0 [u, v] = [u, v] := rfl
theorem keyOK2 {a b : Int} {k l : Go.IntKind} : keyOK ⟨[.i, .i], true⟩ (.agg [.int k a, .int l b]) = true := rfl
theorem eqa2 {a b c d : Int} : eqaV ⟨[.i, .i], true⟩ false (.agg [.int .u8 a, .int .u64 b]) (.agg [.int .u8 c, .int .u64 d]) = some (.bool (a == c && b == d)) := by simp [eqaV, keyOK2, eqL, eqS]
theorem Meet_1 (ka ba kb bb : Int) (x0 : ka ≥ 2) : ∃ h', callRaw env (R env) 6 [cell ka ba, cell kb bb] [] = some (cell 2 0, h') := by
  obtain ⟨tm, hl, ha, e⟩ := call_enter' (Γ := env) (ih := R env) fnMT [cell ka ba, cell kb bb] [] (by simp)
  have h0 := ha 0 (by simp); have h1 := ha 1 (by simp)
  rw [e]; clear ha e
  simp only [List.getElem?_cons_zero, List.getElem?_cons_succ] at h0 h1
  have y0 : decide (ka ≥ 2) = true := by simp; omega
  simp only [c6_r0, c6_r1, c6_r2, c6_r3, c6_r4, c6_r5, c6_r6, c6_r7, c6_r8, c6_r9, R_skip, R_ret, R_seq, R_region, R_cond, R_block, region_plain, ops_cons, ops_gate, gate_tf, ops_nil, bindV_some, putT_some, putT_none, ev_t, ev_c, get_set, List.length_set, s_move, s_pick, s_new, s_box, s_load, s_store, s_bin, s_faddr, thenN_normal, thenN_ret, leave_ret, condB_bool, fin_ret, mapO_nil, mapO_cons, resOf_cell, oneOf_one, pick_tt, bin_eql, bin_geq, load_pp, load_ptr, getC_none, faddr_ptr, cells_agg, Option.bind_some, Option.map_some, reduceIte, Nat.reduceEqDiff, Nat.reduceLT, Nat.reduceAdd, Nat.add_zero, Nat.zero_add, and_self, setC, List.set_cons_zero, List.set_cons_succ, List.length_cons, List.length_nil, and_self, List.length_nil, List.nil_append, rowAt_zero, rowAt_succ, List.getElem?_cons_zero, List.length_cons, List.cons_append, store_ptr, Nat.le_refl, List.set_cons_succ, List.set_cons_zero, List.all_cons, List.all_nil, V.one_int, Bool.and_self, List.length_nil, true_and, h0, h1, hl, cell, g0, ev_g, getC2, y0]
  exact ⟨_, rfl⟩
theorem Meet_2 (ka ba kb bb : Int) (x0 : ¬ ka ≥ 2) (x1 : kb ≥ 2) : ∃ h', callRaw env (R env) 6 [cell ka ba, cell kb bb] [] = some (cell 2 0, h') := by
  obtain ⟨tm, hl, ha, e⟩ := call_enter' (Γ := env) (ih := R env) fnMT [cell ka ba, cell kb bb] [] (by simp)
  have h0 := ha 0 (by simp); have h1 := ha 1 (by simp)
  rw [e]; clear ha e
  simp only [List.getElem?_cons_zero, List.getElem?_cons_succ] at h0 h1
  have y0 : decide (ka ≥ 2) = false := by simp; omega
  have y1 : decide (kb ≥ 2) = true := by simp; omega
  simp only [c6_r0, c6_r1, c6_r2, c6_r3, c6_r4, c6_r5, c6_r6, c6_r7, c6_r8, c6_r9, R_skip, R_ret, R_seq, R_region, R_cond, R_block, region_plain, ops_cons, ops_gate, gate_ff, ops_nil, bindV_some, putT_some, putT_none, ev_t, ev_c, get_set, List.length_set, s_move, s_pick, s_new, s_box, s_load, s_store, s_bin, s_faddr, thenN_normal, thenN_ret, leave_ret, condB_bool, fin_ret, mapO_nil, mapO_cons, resOf_cell, oneOf_one, pick_ff, bin_eql, bin_geq, load_pp, load_ptr, getC_none, faddr_ptr, cells_agg, Option.bind_some, Option.map_some, reduceIte, Nat.reduceEqDiff, Nat.reduceLT, Nat.reduceAdd, Nat.add_zero, Nat.zero_add, and_self, setC, List.set_cons_zero, List.set_cons_succ, List.length_cons, List.length_nil, and_self, List.length_nil, List.nil_append, rowAt_zero, rowAt_succ, List.getElem?_cons_zero, List.length_cons, List.cons_append, store_ptr, Nat.le_refl, List.set_cons_succ, List.set_cons_zero, List.all_cons, List.all_nil, V.one_int, Bool.and_self, List.length_nil, true_and, h0, h1, hl, cell, g0, ev_g, getC2, y0, y1]
  exact ⟨_, rfl⟩
theorem Meet_3 (ka ba kb bb : Int) (x0 : ka = 0) (x1 : kb = 0) : ∃ h', callRaw env (R env) 6 [cell ka ba, cell kb bb] [] = some (cell 0 0, h') := by
  obtain ⟨tm, hl, ha, e⟩ := call_enter' (Γ := env) (ih := R env) fnMT [cell ka ba, cell kb bb] [] (by simp)
  have h0 := ha 0 (by simp); have h1 := ha 1 (by simp)
  rw [e]; clear ha e
  simp only [List.getElem?_cons_zero, List.getElem?_cons_succ] at h0 h1
  have y0 : decide (ka ≥ 2) = false := by simp; omega
  have y1 : decide (kb ≥ 2) = false := by simp; omega
  have y2 : (ka == 0) = true := by simp; omega
  have y3 : (kb == 0) = true := by simp; omega
  simp only [c6_r0, c6_r1, c6_r2, c6_r3, c6_r4, c6_r5, c6_r6, c6_r7, c6_r8, c6_r9, R_skip, R_ret, R_seq, R_region, R_cond, R_block, region_plain, ops_cons, ops_gate, gate_tt, gate_tf, gate_ff, ops_nil, bindV_some, putT_some, putT_none, ev_t, ev_c, get_set, List.length_set, s_move, s_pick, s_new, s_box, s_load, s_store, s_bin, s_faddr, thenN_normal, thenN_ret, leave_ret, condB_bool, fin_ret, mapO_nil, mapO_cons, resOf_cell, oneOf_one, pick_tt, pick_ff, bin_eql, bin_geq, load_pp, load_ptr, getC_none, faddr_ptr, cells_agg, Option.bind_some, Option.map_some, reduceIte, Nat.reduceEqDiff, Nat.reduceLT, Nat.reduceAdd, Bool.false_eq_true, Nat.add_zero, Nat.zero_add, and_self, setC, List.set_cons_zero, List.set_cons_succ, List.length_cons, List.length_nil, and_self, List.length_nil, List.nil_append, rowAt_zero, rowAt_succ, List.getElem?_cons_zero, List.length_cons, List.cons_append, store_ptr, Nat.le_refl, List.set_cons_succ, List.set_cons_zero, List.all_cons, List.all_nil, V.one_int, Bool.and_self, List.length_nil, true_and, h0, h1, hl, cell, g0, g1, ev_g, getC2, y0, y1, y2, y3]
  exact ⟨_, rfl⟩
theorem Meet_4 (ka ba kb bb : Int) (x0 : ka = 0) (x1 : kb ≠ 0) (x2 : ¬ kb ≥ 2) : ∃ h', callRaw env (R env) 6 [cell ka ba, cell kb bb] [] = some (cell kb bb, h') := by
  obtain ⟨tm, hl, ha, e⟩ := call_enter' (Γ := env) (ih := R env) fnMT [cell ka ba, cell kb bb] [] (by simp)
  have h0 := ha 0 (by simp); have h1 := ha 1 (by simp)
  rw [e]; clear ha e
  simp only [List.getElem?_cons_zero, List.getElem?_cons_succ] at h0 h1
  have y0 : decide (ka ≥ 2) = false := by simp; omega
  have y1 : decide (kb ≥ 2) = false := by simp; omega
  have y2 : (ka == 0) = true := by simp; omega
  have y3 : (kb == 0) = false := by simp; omega
  simp only [c6_r0, c6_r1, c6_r2, c6_r3, c6_r4, c6_r5, c6_r6, c6_r7, c6_r8, c6_r9, R_skip, R_ret, R_seq, R_region, R_cond, R_block, region_plain, ops_cons, ops_gate, gate_tt, gate_ff, ops_nil, bindV_some, putT_some, putT_none, ev_t, ev_c, get_set, List.length_set, s_move, s_pick, s_new, s_box, s_load, s_store, s_bin, s_eqa, s_faddr, thenN_normal, thenN_ret, leave_ret, condB_bool, fin_ret, mapO_nil, mapO_cons, resOf_cell, oneOf_one, pick_tt, pick_ff, bin_eql, bin_geq, load_pp, load_ptr, getC_none, faddr_ptr, cells_agg, Option.bind_some, Option.map_some, reduceIte, Nat.reduceEqDiff, Nat.reduceLT, Nat.reduceAdd, Bool.false_eq_true, Nat.add_zero, Nat.zero_add, and_self, setC, List.set_cons_zero, List.set_cons_succ, List.length_cons, List.length_nil, and_self, List.length_nil, List.nil_append, rowAt_zero, rowAt_succ, List.getElem?_cons_zero, List.length_cons, List.cons_append, store_ptr, Nat.le_refl, List.set_cons_succ, List.set_cons_zero, List.all_cons, List.all_nil, V.one_int, Bool.and_self, List.length_nil, true_and, h0, h1, hl, cell, g0, g1, ev_g, getC2, eqa2, y0, y1, y2, y3]
  exact ⟨_, rfl⟩
theorem Meet_5 (ka ba kb bb : Int) (x0 : ¬ ka ≥ 2) (x1 : ka ≠ 0) (x2 : kb = 0) : ∃ h', callRaw env (R env) 6 [cell ka ba, cell kb bb] [] = some (cell ka ba, h') := by
  obtain ⟨tm, hl, ha, e⟩ := call_enter' (Γ := env) (ih := R env) fnMT [cell ka ba, cell kb bb] [] (by simp)
  have h0 := ha 0 (by simp); have h1 := ha 1 (by simp)
  rw [e]; clear ha e
  simp only [List.getElem?_cons_zero, List.getElem?_cons_succ] at h0 h1
  have y0 : decide (ka ≥ 2) = false := by simp; omega
  have y1 : decide (kb ≥ 2) = false := by simp; omega
  have y2 : (ka == 0) = false := by simp; omega
  have y3 : (kb == 0) = true := by simp; omega
  simp only [c6_r0, c6_r1, c6_r2, c6_r3, c6_r4, c6_r5, c6_r6, c6_r7, c6_r8, c6_r9, R_skip, R_ret, R_seq, R_region, R_cond, R_block, region_plain, ops_cons, ops_gate, gate_tf, gate_ft, gate_ff, ops_nil, bindV_some, putT_some, putT_none, ev_t, ev_c, get_set, List.length_set, s_move, s_pick, s_new, s_box, s_load, s_store, s_bin, s_faddr, thenN_normal, thenN_ret, leave_ret, condB_bool, fin_ret, mapO_nil, mapO_cons, resOf_cell, oneOf_one, pick_tt, pick_ff, bin_eql, bin_geq, load_pp, load_ptr, getC_none, faddr_ptr, cells_agg, Option.bind_some, Option.map_some, reduceIte, Nat.reduceEqDiff, Nat.reduceLT, Nat.reduceAdd, Bool.false_eq_true, Nat.add_zero, Nat.zero_add, and_self, setC, List.set_cons_zero, List.set_cons_succ, List.length_cons, List.length_nil, and_self, List.length_nil, List.nil_append, rowAt_zero, rowAt_succ, List.getElem?_cons_zero, List.length_cons, List.cons_append, store_ptr, Nat.le_refl, List.set_cons_succ, List.set_cons_zero, List.all_cons, List.all_nil, V.one_int, Bool.and_self, List.length_nil, true_and, h0, h1, hl, cell, g0, g1, ev_g, getC2, y0, y1, y2, y3]
  exact ⟨_, rfl⟩
theorem Meet_6 (ka ba kb bb : Int) (x0 : ¬ ka ≥ 2) (x1 : ¬ kb ≥ 2) (x2 : ka ≠ 0) (x3 : kb ≠ 0) (x4 : ka = kb ∧ ba = bb) : ∃ h', callRaw env (R env) 6 [cell ka ba, cell kb bb] [] = some (cell ka ba, h') := by
  obtain ⟨tm, hl, ha, e⟩ := call_enter' (Γ := env) (ih := R env) fnMT [cell ka ba, cell kb bb] [] (by simp)
  have h0 := ha 0 (by simp); have h1 := ha 1 (by simp)
  rw [e]; clear ha e
  simp only [List.getElem?_cons_zero, List.getElem?_cons_succ] at h0 h1
  have y0 : decide (ka ≥ 2) = false := by simp; omega
  have y1 : decide (kb ≥ 2) = false := by simp; omega
  have y2 : (ka == 0) = false := by simp; omega
  have y3 : (kb == 0) = false := by simp; omega
  have y4 : (ka == kb && ba == bb) = true := by simp; omega
  simp only [c6_r0, c6_r1, c6_r2, c6_r3, c6_r4, c6_r5, c6_r6, c6_r7, c6_r8, c6_r9, R_skip, R_ret, R_seq, R_region, R_cond, R_block, region_plain, ops_cons, ops_gate, gate_ft, gate_ff, ops_nil, bindV_some, putT_some, putT_none, ev_t, ev_c, get_set, List.length_set, s_move, s_pick, s_new, s_box, s_load, s_store, s_bin, s_eqa, s_faddr, thenN_normal, thenN_ret, leave_ret, condB_bool, fin_ret, mapO_nil, mapO_cons, resOf_cell, oneOf_one, pick_ff, bin_eql, bin_geq, load_pp, load_ptr, getC_none, faddr_ptr, cells_agg, Option.bind_some, Option.map_some, reduceIte, Nat.reduceEqDiff, Nat.reduceLT, Nat.reduceAdd, Bool.false_eq_true, Nat.add_zero, Nat.zero_add, and_self, setC, List.set_cons_zero, List.set_cons_succ, List.length_cons, List.length_nil, and_self, List.length_nil, List.nil_append, rowAt_zero, rowAt_succ, List.getElem?_cons_zero, List.length_cons, List.cons_append, store_ptr, Nat.le_refl, List.set_cons_succ, List.set_cons_zero, List.all_cons, List.all_nil, V.one_int, Bool.and_self, List.length_nil, true_and, h0, h1, hl, cell, g0, g1, ev_g, getC2, eqa2, y0, y1, y2, y3, y4]
  exact ⟨_, rfl⟩
theorem Meet_7 (ka ba kb bb : Int) (x0 : ¬ ka ≥ 2) (x1 : ¬ kb ≥ 2) (x2 : ka ≠ 0) (x3 : kb ≠ 0) (x4 : ¬ (ka = kb ∧ ba = bb)) : ∃ h', callRaw env (R env) 6 [cell ka ba, cell kb bb] [] = some (cell 2 0, h') := by
  obtain ⟨tm, hl, ha, e⟩ := call_enter' (Γ := env) (ih := R env) fnMT [cell ka ba, cell kb bb] [] (by simp)
  have h0 := ha 0 (by simp); have h1 := ha 1 (by simp)
  rw [e]; clear ha e
  simp only [List.getElem?_cons_zero, List.getElem?_cons_succ] at h0 h1
  have y0 : decide (ka ≥ 2) = false := by simp; omega
  have y1 : decide (kb ≥ 2) = false := by simp; omega
  have y2 : (ka == 0) = false := by simp; omega
  have y3 : (kb == 0) = false := by simp; omega
  have y4 : (ka == kb && ba == bb) = false := by simp; omega
  simp only [c6_r0, c6_r1, c6_r2, c6_r3, c6_r4, c6_r5, c6_r6, c6_r7, c6_r8, c6_r9, R_skip, R_ret, R_seq, R_region, R_cond, R_block, region_plain, ops_cons, ops_gate, gate_ft, gate_ff, ops_nil, bindV_some, putT_some, putT_none, ev_t, ev_c, get_set, List.length_set, s_move, s_pick, s_new, s_box, s_load, s_store, s_bin, s_eqa, s_faddr, thenN_normal, leave_normal, condB_bool, fin_ret, mapO_nil, mapO_cons, resOf_cell, oneOf_one, pick_ff, bin_eql, bin_geq, load_pp, load_ptr, getC_none, faddr_ptr, cells_agg, Option.bind_some, Option.map_some, reduceIte, Nat.reduceEqDiff, Nat.reduceLT, Nat.reduceAdd, Bool.false_eq_true, Nat.add_zero, Nat.zero_add, and_self, setC, List.set_cons_zero, List.set_cons_succ, List.length_cons, List.length_nil, and_self, List.length_nil, List.nil_append, rowAt_zero, rowAt_succ, List.getElem?_cons_zero, List.length_cons, List.cons_append, store_ptr, Nat.le_refl, List.set_cons_succ, List.set_cons_zero, List.all_cons, List.all_nil, V.one_int, Bool.and_self, List.length_nil, true_and, h0, h1, hl, cell, g0, g1, ev_g, getC2, eqa2, y0, y1, y2, y3, y4]
  exact ⟨_, rfl⟩
theorem RMeet_1 (ka ba kb bb : Int) (x0 : ka ≥ 2) : ∃ h', callRaw env (R env) 7 [cell ka ba, cell kb bb] [] = some (cell 2 0, h') := by
  obtain ⟨tm, hl, ha, e⟩ := call_enter' (Γ := env) (ih := R env) fnRM [cell ka ba, cell kb bb] [] (by simp)
  have h0 := ha 0 (by simp); have h1 := ha 1 (by simp)
  rw [e]; clear ha e
  simp only [List.getElem?_cons_zero, List.getElem?_cons_succ] at h0 h1
  have y0 : decide (ka > 1) = true := by simp; omega
  simp only [c7_r0, c7_r1, c7_r2, c7_r3, c7_r4, c7_r5, c7_r6, c7_r7, c7_r8, c7_r9, R_skip, R_ret, R_seq, R_region, R_cond, region_plain, ops_cons, ops_gate, gate_tf, ops_nil, bindV_some, putT_some, putT_none, ev_t, ev_c, evp_nil, evp_cons, buildC_nil, buildC_cons, get_set, List.length_set, s_move, s_pick, s_new, s_box, s_build, s_load, s_store, s_bin, s_faddr, thenN_normal, thenN_ret, condB_bool, fin_ret, mapO_nil, mapO_cons, resOf_cell, oneOf_one, pick_tt, bin_gtr, load_ptr, getC_none, faddr_ptr, cells_agg, cells_int, Option.bind_some, Option.map_some, reduceIte, Nat.reduceEqDiff, Nat.reduceLT, Nat.reduceAdd, Nat.add_zero, Nat.zero_add, Nat.reduceLeDiff, and_self, setC, List.set_cons_zero, List.set_cons_succ, List.length_cons, List.length_nil, and_self, List.length_nil, List.nil_append, rowAt_zero, rowAt_succ, List.getElem?_cons_zero, List.length_cons, List.cons_append, store_ptr, Nat.le_refl, List.set_cons_succ, List.set_cons_zero, List.all_cons, List.all_nil, V.one_int, Bool.and_self, List.length_nil, true_and, h0, h1, hl, cell, getC2, y0]
  exact ⟨_, rfl⟩
theorem RMeet_2 (ka ba kb bb : Int) (x0 : ¬ ka ≥ 2) (x1 : kb ≥ 2) : ∃ h', callRaw env (R env) 7 [cell ka ba, cell kb bb] [] = some (cell 2 0, h') := by
  obtain ⟨tm, hl, ha, e⟩ := call_enter' (Γ := env) (ih := R env) fnRM [cell ka ba, cell kb bb] [] (by simp)
  have h0 := ha 0 (by simp); have h1 := ha 1 (by simp)
  rw [e]; clear ha e
  simp only [List.getElem?_cons_zero, List.getElem?_cons_succ] at h0 h1
  have y0 : decide (ka > 1) = false := by simp; omega
  have y1 : decide (kb > 1) = true := by simp; omega
  simp only [c7_r0, c7_r1, c7_r2, c7_r3, c7_r4, c7_r5, c7_r6, c7_r7, c7_r8, c7_r9, R_skip, R_ret, R_seq, R_region, R_cond, region_plain, ops_cons, ops_gate, gate_ff, ops_nil, bindV_some, putT_some, putT_none, ev_t, ev_c, evp_nil, evp_cons, buildC_nil, buildC_cons, get_set, List.length_set, s_move, s_pick, s_new, s_box, s_build, s_load, s_store, s_bin, s_faddr, thenN_normal, thenN_ret, condB_bool, fin_ret, mapO_nil, mapO_cons, resOf_cell, oneOf_one, pick_ff, bin_gtr, load_ptr, getC_none, faddr_ptr, cells_agg, cells_int, Option.bind_some, Option.map_some, reduceIte, Nat.reduceEqDiff, Nat.reduceLT, Nat.reduceAdd, Nat.add_zero, Nat.zero_add, Nat.reduceLeDiff, and_self, setC, List.set_cons_zero, List.set_cons_succ, List.length_cons, List.length_nil, and_self, List.length_nil, List.nil_append, rowAt_zero, rowAt_succ, List.getElem?_cons_zero, List.length_cons, List.cons_append, store_ptr, Nat.le_refl, List.set_cons_succ, List.set_cons_zero, List.all_cons, List.all_nil, V.one_int, Bool.and_self, List.length_nil, true_and, h0, h1, hl, cell, getC2, y0, y1]
  exact ⟨_, rfl⟩
theorem RMeet_3 (ka ba kb bb : Int) (x0 : ka = 0) (x1 : kb = 0) : ∃ h', callRaw env (R env) 7 [cell ka ba, cell kb bb] [] = some (cell 0 0, h') := by
  obtain ⟨tm, hl, ha, e⟩ := call_enter' (Γ := env) (ih := R env) fnRM [cell ka ba, cell kb bb] [] (by simp)
  have h0 := ha 0 (by simp); have h1 := ha 1 (by simp)
  rw [e]; clear ha e
  simp only [List.getElem?_cons_zero, List.getElem?_cons_succ] at h0 h1
  have y0 : decide (ka > 1) = false := by simp; omega
  have y1 : decide (kb > 1) = false := by simp; omega
  have y2 : (ka == 0) = true := by simp; omega
  have y3 : (kb == 0) = true := by simp; omega
  simp only [c7_r0, c7_r1, c7_r2, c7_r3, c7_r4, c7_r5, c7_r6, c7_r7, c7_r8, c7_r9, R_skip, R_ret, R_seq, R_region, R_cond, region_plain, ops_cons, ops_gate, gate_tt, gate_ff, ops_nil, bindV_some, putT_some, putT_none, ev_t, ev_c, evp_nil, evp_cons, buildC_nil, buildC_cons, get_set, List.length_set, s_move, s_pick, s_new, s_box, s_build, s_load, s_store, s_bin, s_faddr, thenN_normal, thenN_ret, condB_bool, fin_ret, mapO_nil, mapO_cons, resOf_cell, oneOf_one, pick_tt, pick_ff, bin_eql, bin_gtr, load_ptr, getC_none, faddr_ptr, cells_agg, cells_int, Option.bind_some, Option.map_some, reduceIte, Nat.reduceEqDiff, Nat.reduceLT, Nat.reduceAdd, Bool.false_eq_true, Nat.add_zero, Nat.zero_add, Nat.reduceLeDiff, and_self, setC, List.set_cons_zero, List.set_cons_succ, List.length_cons, List.length_nil, and_self, List.length_nil, List.nil_append, rowAt_zero, rowAt_succ, List.getElem?_cons_zero, List.length_cons, List.cons_append, store_ptr, Nat.le_refl, List.set_cons_succ, List.set_cons_zero, List.all_cons, List.all_nil, V.one_int, Bool.and_self, List.length_nil, true_and, h0, h1, hl, cell, getC2, y0, y1, y2, y3]
  exact ⟨_, rfl⟩
theorem RMeet_4 (ka ba kb bb : Int) (x0 : ka = 0) (x1 : kb ≠ 0) (x2 : ¬ kb ≥ 2) : ∃ h', callRaw env (R env) 7 [cell ka ba, cell kb bb] [] = some (cell kb bb, h') := by
  obtain ⟨tm, hl, ha, e⟩ := call_enter' (Γ := env) (ih := R env) fnRM [cell ka ba, cell kb bb] [] (by simp)
  have h0 := ha 0 (by simp); have h1 := ha 1 (by simp)
  rw [e]; clear ha e
  simp only [List.getElem?_cons_zero, List.getElem?_cons_succ] at h0 h1
  have y0 : decide (ka > 1) = false := by simp; omega
  have y1 : decide (kb > 1) = false := by simp; omega
  have y2 : (ka == 0) = true := by simp; omega
  have y3 : (kb == 0) = false := by simp; omega
  simp only [c7_r0, c7_r1, c7_r2, c7_r3, c7_r4, c7_r5, c7_r6, c7_r7, c7_r8, c7_r9, R_skip, R_ret, R_seq, R_region, R_cond, region_plain, ops_cons, ops_gate, gate_tt, gate_ff, ops_nil, bindV_some, putT_some, putT_none, ev_t, ev_c, evp_nil, evp_cons, buildC_nil, buildC_cons, get_set, List.length_set, s_move, s_pick, s_new, s_box, s_build, s_load, s_store, s_bin, s_faddr, thenN_normal, thenN_ret, condB_bool, fin_ret, mapO_nil, mapO_cons, resOf_cell, oneOf_one, pick_tt, pick_ff, bin_eql, bin_gtr, load_ptr, getC_none, faddr_ptr, cells_agg, cells_int, Option.bind_some, Option.map_some, reduceIte, Nat.reduceEqDiff, Nat.reduceLT, Nat.reduceAdd, Bool.false_eq_true, Nat.add_zero, Nat.zero_add, Nat.reduceLeDiff, and_self, setC, List.set_cons_zero, List.set_cons_succ, List.length_cons, List.length_nil, and_self, List.length_nil, List.nil_append, rowAt_zero, rowAt_succ, List.getElem?_cons_zero, List.length_cons, List.cons_append, store_ptr, Nat.le_refl, List.set_cons_succ, List.set_cons_zero, List.all_cons, List.all_nil, V.one_int, Bool.and_self, List.length_nil, true_and, h0, h1, hl, cell, getC2, y0, y1, y2, y3]
  exact ⟨_, rfl⟩
theorem RMeet_5 (ka ba kb bb : Int) (x0 : ¬ ka ≥ 2) (x1 : ka ≠ 0) (x2 : kb = 0) : ∃ h', callRaw env (R env) 7 [cell ka ba, cell kb bb] [] = some (cell ka ba, h') := by
  obtain ⟨tm, hl, ha, e⟩ := call_enter' (Γ := env) (ih := R env) fnRM [cell ka ba, cell kb bb] [] (by simp)
  have h0 := ha 0 (by simp); have h1 := ha 1 (by simp)
  rw [e]; clear ha e
  simp only [List.getElem?_cons_zero, List.getElem?_cons_succ] at h0 h1
  have y0 : decide (ka > 1) = false := by simp; omega
  have y1 : decide (kb > 1) = false := by simp; omega
  have y2 : (ka == 0) = false := by simp; omega
  have y3 : (kb == 0) = true := by simp; omega
  simp only [c7_r0, c7_r1, c7_r2, c7_r3, c7_r4, c7_r5, c7_r6, c7_r7, c7_r8, c7_r9, R_skip, R_ret, R_seq, R_region, R_cond, region_plain, ops_cons, ops_gate, gate_tf, gate_ft, gate_ff, ops_nil, bindV_some, putT_some, putT_none, ev_t, ev_c, evp_nil, evp_cons, buildC_nil, buildC_cons, get_set, List.length_set, s_move, s_pick, s_new, s_box, s_build, s_load, s_store, s_bin, s_faddr, thenN_normal, thenN_ret, condB_bool, fin_ret, mapO_nil, mapO_cons, resOf_cell, oneOf_one, pick_tt, pick_ff, bin_eql, bin_gtr, load_ptr, getC_none, faddr_ptr, cells_agg, cells_int, Option.bind_some, Option.map_some, reduceIte, Nat.reduceEqDiff, Nat.reduceLT, Nat.reduceAdd, Bool.false_eq_true, Nat.add_zero, Nat.zero_add, Nat.reduceLeDiff, and_self, setC, List.set_cons_zero, List.set_cons_succ, List.length_cons, List.length_nil, and_self, List.length_nil, List.nil_append, rowAt_zero, rowAt_succ, List.getElem?_cons_zero, List.length_cons, List.cons_append, store_ptr, Nat.le_refl, List.set_cons_succ, List.set_cons_zero, List.all_cons, List.all_nil, V.one_int, Bool.and_self, List.length_nil, true_and, h0, h1, hl, cell, getC2, y0, y1, y2, y3]
  exact ⟨_, rfl⟩
theorem RMeet_6 (ka ba kb bb : Int) (x0 : ¬ ka ≥ 2) (x1 : ¬ kb ≥ 2) (x2 : ka ≠ 0) (x3 : kb ≠ 0) (x4 : ba = bb) : ∃ h', callRaw env (R env) 7 [cell ka ba, cell kb bb] [] = some (cell ka ba, h') := by
  obtain ⟨tm, hl, ha, e⟩ := call_enter' (Γ := env) (ih := R env) fnRM [cell ka ba, cell kb bb] [] (by simp)
  have h0 := ha 0 (by simp); have h1 := ha 1 (by simp)
  rw [e]; clear ha e
  simp only [List.getElem?_cons_zero, List.getElem?_cons_succ] at h0 h1
  have y0 : decide (ka > 1) = false := by simp; omega
  have y1 : decide (kb > 1) = false := by simp; omega
  have y2 : (ka == 0) = false := by simp; omega
  have y3 : (kb == 0) = false := by simp; omega
  have y4 : (ba == bb) = true := by simp; omega
  simp only [c7_r0, c7_r1, c7_r2, c7_r3, c7_r4, c7_r5, c7_r6, c7_r7, c7_r8, c7_r9, R_skip, R_ret, R_seq, R_region, R_cond, region_plain, ops_cons, ops_gate, gate_ft, gate_ff, ops_nil, bindV_some, putT_some, putT_none, ev_t, ev_c, evp_nil, evp_cons, buildC_nil, buildC_cons, get_set, List.length_set, s_move, s_pick, s_new, s_box, s_build, s_load, s_store, s_bin, s_faddr, thenN_normal, thenN_ret, condB_bool, fin_ret, mapO_nil, mapO_cons, resOf_cell, oneOf_one, pick_ff, bin_eql, bin_gtr, load_ptr, getC_none, faddr_ptr, cells_agg, cells_int, Option.bind_some, Option.map_some, reduceIte, Nat.reduceEqDiff, Nat.reduceLT, Nat.reduceAdd, Bool.false_eq_true, Nat.add_zero, Nat.zero_add, Nat.reduceLeDiff, and_self, setC, List.set_cons_zero, List.set_cons_succ, List.length_cons, List.length_nil, and_self, List.length_nil, List.nil_append, rowAt_zero, rowAt_succ, List.getElem?_cons_zero, List.getElem?_cons_succ, List.length_cons, List.cons_append, store_ptr, Nat.le_refl, List.set_cons_succ, List.set_cons_zero, List.all_cons, List.all_nil, V.one_int, Bool.and_self, List.length_nil, true_and, h0, h1, hl, cell, getC2, y0, y1, y2, y3, y4]
  exact ⟨_, rfl⟩
theorem RMeet_7 (ka ba kb bb : Int) (x0 : ¬ ka ≥ 2) (x1 : ¬ kb ≥ 2) (x2 : ka ≠ 0) (x3 : kb ≠ 0) (x4 : ba ≠ bb) : ∃ h', callRaw env (R env) 7 [cell ka ba, cell kb bb] [] = some (cell 2 0, h') := by
  obtain ⟨tm, hl, ha, e⟩ := call_enter' (Γ := env) (ih := R env) fnRM [cell ka ba, cell kb bb] [] (by simp)
  have h0 := ha 0 (by simp); have h1 := ha 1 (by simp)
  rw [e]; clear ha e
  simp only [List.getElem?_cons_zero, List.getElem?_cons_succ] at h0 h1
  have y0 : decide (ka > 1) = false := by simp; omega
  have y1 : decide (kb > 1) = false := by simp; omega
  have y2 : (ka == 0) = false := by simp; omega
  have y3 : (kb == 0) = false := by simp; omega
  have y4 : (ba == bb) = false := by simp; omega
  simp only [c7_r0, c7_r1, c7_r2, c7_r3, c7_r4, c7_r5, c7_r6, c7_r7, c7_r8, c7_r9, R_skip, R_ret, R_seq, R_region, R_cond, region_plain, ops_cons, ops_gate, gate_ft, gate_ff, ops_nil, bindV_some, putT_some, putT_none, ev_t, ev_c, evp_nil, evp_cons, buildC_nil, buildC_cons, get_set, List.length_set, s_move, s_pick, s_new, s_box, s_build, s_load, s_store, s_bin, s_faddr, thenN_normal, condB_bool, fin_ret, mapO_nil, mapO_cons, resOf_cell, oneOf_one, pick_ff, bin_eql, bin_gtr, load_ptr, getC_none, faddr_ptr, cells_agg, cells_int, Option.bind_some, Option.map_some, reduceIte, Nat.reduceEqDiff, Nat.reduceLT, Nat.reduceAdd, Bool.false_eq_true, Nat.add_zero, Nat.zero_add, Nat.reduceLeDiff, and_self, setC, List.set_cons_zero, List.set_cons_succ, List.length_cons, List.length_nil, and_self, List.length_nil, List.nil_append, rowAt_zero, rowAt_succ, List.getElem?_cons_zero, List.getElem?_cons_succ, List.length_cons, List.cons_append, store_ptr, Nat.le_refl, List.set_cons_succ, List.set_cons_zero, List.all_cons, List.all_nil, V.one_int, Bool.and_self, List.length_nil, true_and, h0, h1, hl, cell, getC2, y0, y1, y2, y3, y4]
  exact ⟨_, rfl⟩
theorem Meet (a b : Int × Int) : ∃ h', callRaw env (R env) 6 [cell a.1 a.2, cell b.1 b.2] [] = some (cell (meet a b).1 (meet a b).2, h') := by
  obtain ⟨ka, ba⟩ := a
  obtain ⟨kb, bb⟩ := b
  by_cases A1 : ka ≥ 2
  · rw [show meet (ka, ba) (kb, bb) = (2, 0) by simp [meet, A1]]; exact Meet_1 ka ba kb bb A1
  by_cases A2 : kb ≥ 2
  · rw [show meet (ka, ba) (kb, bb) = (2, 0) by simp [meet, A2]]; exact Meet_2 ka ba kb bb A1 A2
  by_cases Z1 : ka = 0
  · by_cases Z2 : kb = 0
    · rw [show meet (ka, ba) (kb, bb) = (0, 0) by simp [meet, Z1, Z2]]; exact Meet_3 ka ba kb bb Z1 Z2
    · rw [show meet (ka, ba) (kb, bb) = (kb, bb) by simp [meet, A2, Z1, Z2]]; exact Meet_4 ka ba kb bb Z1 Z2 A2
  by_cases Z2 : kb = 0
  · rw [show meet (ka, ba) (kb, bb) = (ka, ba) by simp [meet, A1, Z1, Z2]]; exact Meet_5 ka ba kb bb A1 Z1 Z2
  by_cases E : ka = kb ∧ ba = bb
  · rw [show meet (ka, ba) (kb, bb) = (ka, ba) by simp [meet, A2, Z2, E]]; exact Meet_6 ka ba kb bb A1 A2 Z1 Z2 E
  · rw [show meet (ka, ba) (kb, bb) = (2, 0) by simp [meet, A1, A2, Z1, Z2, E]]; exact Meet_7 ka ba kb bb A1 A2 Z1 Z2 E
theorem RMeet (a b : Int × Int) (ha : 0 ≤ a.1) (hb : 0 ≤ b.1) : ∃ h', callRaw env (R env) 7 [cell a.1 a.2, cell b.1 b.2] [] = some (cell (meet a b).1 (meet a b).2, h') := by
  obtain ⟨ka, ba⟩ := a
  obtain ⟨kb, bb⟩ := b
  dsimp only at ha hb
  by_cases A1 : ka ≥ 2
  · rw [show meet (ka, ba) (kb, bb) = (2, 0) by simp [meet, A1]]; exact RMeet_1 ka ba kb bb A1
  by_cases A2 : kb ≥ 2
  · rw [show meet (ka, ba) (kb, bb) = (2, 0) by simp [meet, A2]]; exact RMeet_2 ka ba kb bb A1 A2
  by_cases Z1 : ka = 0
  · by_cases Z2 : kb = 0
    · rw [show meet (ka, ba) (kb, bb) = (0, 0) by simp [meet, Z1, Z2]]; exact RMeet_3 ka ba kb bb Z1 Z2
    · rw [show meet (ka, ba) (kb, bb) = (kb, bb) by simp [meet, A2, Z1, Z2]]; exact RMeet_4 ka ba kb bb Z1 Z2 A2
  by_cases Z2 : kb = 0
  · rw [show meet (ka, ba) (kb, bb) = (ka, ba) by simp [meet, A1, Z1, Z2]]; exact RMeet_5 ka ba kb bb A1 Z1 Z2
  have hk : ka = kb := by omega
  by_cases E : ba = bb
  · rw [show meet (ka, ba) (kb, bb) = (ka, ba) by simp [meet, A2, Z2, E, hk]]; exact RMeet_6 ka ba kb bb A1 A2 Z1 Z2 E
  · rw [show meet (ka, ba) (kb, bb) = (2, 0) by simp [meet, A2, Z2, E, hk]]; exact RMeet_7 ka ba kb bb A1 A2 Z1 Z2 E
end
end Am.C
