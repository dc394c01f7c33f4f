/- SccpLattice: the law's call answers true. -/
import Derived.Test.YtnfcgeplleikdaaDoorAmCMeet
import Derived.Test.YtnfcgeplleikdaaDoorAmDyn
set_option maxRecDepth 100000
namespace Am.C
open Am
noncomputable section
attribute [local congr] bindV_congr thenN_congr obind_congr omap_congr fin_congr leave_congr gate_congr chk_congr
theorem fnLL : env.fn 4 = some c4 := by kernel_rfl
theorem MeetF' (ka ba kb bb : Int) (h : Heap) : callF env (R env) 6 [cell ka ba, cell kb bb] h = some (cell (meet (ka, ba) (kb, bb)).1 (meet (ka, ba) (kb, bb)).2, h) := by
  obtain ⟨h', e⟩ := Meet (ka, ba) (kb, bb)
  exact callF_pure (by rfl) rfl e rfl
/-- A cell as the law makes it. -/
def norm (a : Int × Int) : Int × Int := if a.1 = 1 then a else (if 2 < a.1 then 2 else a.1, 0)
def cc (a : Int × Int) : List V := [.int .u8 a.1, .int .u64 a.2]
theorem set_same {α : Type} {l : List α} {i : Nat} {x : α} (h : l[i]? = some x) : l.set i x = l := by
  apply List.ext_getElem?
  intro j
  rw [List.getElem?_set]
  split
  · rename_i e; subst e
    rw [if_pos (List.getElem?_eq_some_iff.1 h).1, h]
  · rfl
def got (i j : Nat) (a : Int × Int) : List V := if j < i then cc (norm a) else cc a

theorem body_no (els : List (List V)) (i : Nat) (x : Int × Int) (tm : List V) (A B C : List V) (hk : ¬ x.1 = 1) (hi : i < 3) (hx : els[i]? = some (cc x)) (h7 : tm[7]? = some (.sl 3 2 0 3 (some 3))) (h8 : tm[8]? = some (.int .i64 i)) (hl : tm.length = 104) :
    ∃ tm', R env c4_b5 ⟨tm, [.row 2 [A], .row 2 [B], .row 2 [C], .row 2 els]⟩ = some (.normal, ⟨tm', [.row 2 [A], .row 2 [B], .row 2 [C], .row 2 (els.set i (cc (norm x)))]⟩) ∧ tm'.length = 104 ∧ tm'[3]? = tm[3]? ∧ tm'[4]? = tm[4]? ∧ tm'[5]? = tm[5]? ∧ tm'[7]? = tm[7]? ∧ tm'[8]? = some (.int .i64 (i + 1 : Nat)) := by
  have hc : decide ((i : Int) < 3) = true := by simp; omega
  have hlen : i < els.length := (List.getElem?_eq_some_iff.1 hx).1
  have hn : (x.1 != 1) = true := by simp [hk]
  have hnx : cc (norm x) = [.int .u8 (if 2 < x.1 then 2 else x.1), .int .u64 0] := by simp [cc, norm, hk]
  rw [hnx]
  simp only [c4_b5, c4_r6, c4_r7, c4_r8, c4_r9, c4_r10, R_skip, R_exit, R_seq, R_region, R_cond, R_block, region_plain, ops_cons, ops_nil, bindV_some, putT_some, putT_none, ev_t, ev_c, List.length_set, s_move, s_load, s_store, s_bin, s_faddr, s_iaddr, s_mn, mn_int, thenN_normal, leave_normal, condB_bool, natOf_nat, bin_add, bin_neq, bin_lss, iaddr_sl, load_ptr, getC_none, faddr_ptr, cells_int, Option.bind_some, Option.map_some, reduceIte, Nat.reduceEqDiff, Nat.reduceLT, Nat.reduceAdd, Bool.and_self, List.all_cons, List.all_nil, Nat.add_zero, Nat.zero_add, Nat.reduceLeDiff, and_self, setC, List.set_cons_zero, List.set_cons_succ, List.length_cons, List.length_nil, and_self, List.length_nil, rowAt_zero, rowAt_succ, List.getElem?_cons_zero, List.length_cons, store_ptr, Nat.le_refl, List.set_cons_succ, List.set_cons_zero, List.all_cons, List.all_nil, V.one_int, Bool.and_self, List.length_nil, true_and, h7, h8, hl, hc, hx, hn, cc, hi, hlen, V.one_int, List.getElem?_set, wrap_succ (i := i) (by omega), List.set_set]
  refine ⟨_, rfl, ?_⟩
  simp only [get_set, List.length_set, reduceIte, Nat.reduceEqDiff, Nat.reduceLT, and_self, hl, h7]
theorem body_yes (els : List (List V)) (i : Nat) (x : Int × Int) (tm : List V) (A B C : List V) (hk : x.1 = 1) (hi : i < 3) (hx : els[i]? = some (cc x)) (h7 : tm[7]? = some (.sl 3 2 0 3 (some 3))) (h8 : tm[8]? = some (.int .i64 i)) (hl : tm.length = 104) :
    ∃ tm', R env c4_b5 ⟨tm, [.row 2 [A], .row 2 [B], .row 2 [C], .row 2 els]⟩ = some (.normal, ⟨tm', [.row 2 [A], .row 2 [B], .row 2 [C], .row 2 (els.set i (cc (norm x)))]⟩) ∧ tm'.length = 104 ∧ tm'[3]? = tm[3]? ∧ tm'[4]? = tm[4]? ∧ tm'[5]? = tm[5]? ∧ tm'[7]? = tm[7]? ∧ tm'[8]? = some (.int .i64 (i + 1 : Nat)) := by
  have hc : decide ((i : Int) < 3) = true := by simp; omega
  have hn : (x.1 != 1) = false := by simp [hk]
  have hnx : norm x = x := by simp [norm, hk]
  rw [hnx, set_same hx]
  simp only [c4_b5, c4_r6, c4_r7, c4_r10, R_skip, R_exit, R_seq, R_region, R_cond, R_block, region_plain, ops_cons, ops_nil, bindV_some, putT_some, ev_t, ev_c, get_set, List.length_set, s_move, s_load, s_bin, s_faddr, s_iaddr, thenN_normal, leave_normal, condB_bool, natOf_nat, bin_add, bin_neq, bin_lss, iaddr_sl, load_ptr, getC_none, faddr_ptr, Option.bind_some, Option.map_some, reduceIte, Nat.reduceEqDiff, Nat.reduceLT, Bool.false_eq_true, Nat.add_zero, Nat.zero_add, rowAt_zero, rowAt_succ, List.getElem?_cons_zero, h7, h8, hl, hc, hx, hn, cc, hi, wrap_succ (i := i) (by omega)]
  refine ⟨_, rfl, ?_⟩
  simp only [get_set, List.length_set, reduceIte, Nat.reduceEqDiff, Nat.reduceLT, and_self, hl, h7]
theorem body_end (tm : List V) (h : Heap) (h8 : tm[8]? = some (.int .i64 3)) (hl : tm.length = 104) : ∃ tm', R env c4_b5 ⟨tm, h⟩ = some (.exit 0, ⟨tm', h⟩) ∧ tm'.length = 104 ∧ tm'[3]? = tm[3]? ∧ tm'[4]? = tm[4]? ∧ tm'[5]? = tm[5]? ∧ tm'[7]? = tm[7]? := by
  have hc : decide ((3 : Int) < 3) = false := by simp
  simp only [c4_b5, c4_r6, R_skip, R_exit, R_seq, R_region, R_cond, region_plain, ops_cons, ops_nil, bindV_some, putT_some, ev_t, ev_c, get_set, List.length_set, s_move, s_bin, thenN_normal, thenN_exit, condB_bool, bin_lss, Option.bind_some, Option.map_some, reduceIte, Nat.reduceEqDiff, Nat.reduceLT, Bool.false_eq_true, h8, hl, hc]
  refine ⟨_, rfl, ?_⟩
  simp only [get_set, List.length_set, reduceIte, Nat.reduceEqDiff, Nat.reduceLT, and_self, hl]
theorem body (els : List (List V)) (i : Nat) (x : Int × Int) (tm : List V) (A B C : List V) (hi : i < 3) (hx : els[i]? = some (cc x)) (h7 : tm[7]? = some (.sl 3 2 0 3 (some 3))) (h8 : tm[8]? = some (.int .i64 i)) (hl : tm.length = 104) :
    ∃ tm', R env c4_b5 ⟨tm, [.row 2 [A], .row 2 [B], .row 2 [C], .row 2 els]⟩ = some (.normal, ⟨tm', [.row 2 [A], .row 2 [B], .row 2 [C], .row 2 (els.set i (cc (norm x)))]⟩) ∧ tm'.length = 104 ∧ tm'[3]? = tm[3]? ∧ tm'[4]? = tm[4]? ∧ tm'[5]? = tm[5]? ∧ tm'[7]? = tm[7]? ∧ tm'[8]? = some (.int .i64 (i + 1 : Nat)) := by
  by_cases hk : x.1 = 1
  · exact body_yes els i x tm A B C hk hi hx h7 h8 hl
  · exact body_no els i x tm A B C hk hi hx h7 h8 hl
/-- The three rounds. -/
theorem loopL (a b c : Int × Int) (tm : List V) (h3 : tm[3]? = some (.ptr 0 2 0 0)) (h4 : tm[4]? = some (.ptr 1 2 0 0)) (h5 : tm[5]? = some (.ptr 2 2 0 0)) (h7 : tm[7]? = some (.sl 3 2 0 3 (some 3))) (h8 : tm[8]? = some (.int .i64 0)) (hl : tm.length = 104) :
    ∃ tm', R env (.loop c4_b5) ⟨tm, [.row 2 [cc a], .row 2 [cc b], .row 2 [cc c], .row 2 [cc a, cc b, cc c]]⟩ = some (.exit 0, ⟨tm', [.row 2 [cc a], .row 2 [cc b], .row 2 [cc c], .row 2 [cc (norm a), cc (norm b), cc (norm c)]]⟩) ∧
      tm'.length = 104 ∧ tm'[3]? = some (.ptr 0 2 0 0) ∧ tm'[4]? = some (.ptr 1 2 0 0) ∧ tm'[5]? = some (.ptr 2 2 0 0) ∧ tm'[7]? = some (.sl 3 2 0 3 (some 3)) := by
  obtain ⟨t1, e1, l1, a3, a4, a5, a7, a8⟩ := body [cc a, cc b, cc c] 0 a tm (cc a) (cc b) (cc c) (by omega) rfl h7 h8 hl
  obtain ⟨t2, e2, l2, b3, b4, b5, b7, b8⟩ := body [cc (norm a), cc b, cc c] 1 b t1 (cc a) (cc b) (cc c) (by omega) rfl (a7.trans h7) a8 l1
  obtain ⟨t3, e3, l3, c3, c4, c5, c7, c8⟩ := body [cc (norm a), cc (norm b), cc c] 2 c t2 (cc a) (cc b) (cc c) (by omega) rfl (b7.trans (a7.trans h7)) b8 l2
  obtain ⟨t4, e4, l4, d3, d4, d5, d7⟩ := body_end t3 [.row 2 [cc a], .row 2 [cc b], .row 2 [cc c], .row 2 [cc (norm a), cc (norm b), cc (norm c)]] c8 l3
  refine ⟨t4, ?_, l4, d3.trans (c3.trans (b3.trans (a3.trans h3))), d4.trans (c4.trans (b4.trans (a4.trans h4))), d5.trans (c5.trans (b5.trans (a5.trans h5))), d7.trans (c7.trans (b7.trans (a7.trans h7)))⟩
  rw [R_loop, e1, thenN_normal]
  simp only [List.set_cons_zero]
  rw [R_loop, e2, thenN_normal]
  simp only [List.set_cons_zero, List.set_cons_succ]
  rw [R_loop, e3, thenN_normal]
  simp only [List.set_cons_zero, List.set_cons_succ]
  rw [R_loop, e4, thenN_exit]

/-- Cells as the law makes them. -/
def Norm (a : Int × Int) : Prop := a = (0, 0) ∨ a.1 = 1 ∨ a = (2, 0)
theorem norm_ok (a : Int × Int) (h : 0 ≤ a.1) : Norm (norm a) := by
  unfold Norm norm
  split
  · exact .inr (.inl ‹_›)
  · by_cases h2 : 2 < a.1
    · exact .inr (.inr (by simp [h2]))
    · rcases (show a.1 = 0 ∨ a.1 = 2 by omega) with e | e
      · exact .inl (by simp [e])
      · exact .inr (.inr (by simp [e]))
theorem meet_none (a : Int × Int) (h : Norm a) : meet (0, 0) a = a := by
  rcases h with rfl | h | rfl
  · rfl
  · simp [meet, h]
  · rfl
theorem meet_all (a : Int × Int) : meet (2, 0) a = (2, 0) := by simp [meet]
theorem meet_self (a : Int × Int) (h : Norm a) : meet a a = a := by
  rcases h with rfl | h | rfl
  · rfl
  · simp [meet, h]
  · rfl
theorem meet_comm (a b : Int × Int) (ha : Norm a) (hb : Norm b) : meet a b = meet b a := by
  rcases ha with rfl | ha | rfl
  · rw [meet_none b hb]
    rcases hb with rfl | hb | rfl
    · rfl
    · simp [meet, hb]
    · rfl
  · rcases hb with rfl | hb | rfl
    · simp [meet, ha]
    · by_cases e : a = b
      · subst e; rfl
      · simp [meet, ha, hb, e, Ne.symm e]
    · simp [meet, ha]
  · rw [meet_all]
    rcases hb with rfl | hb | rfl
    · rfl
    · simp [meet, hb]
    · rfl
theorem meet_norm (a b : Int × Int) (ha : Norm a) (hb : Norm b) : Norm (meet a b) := by
  rcases ha with rfl | ha | rfl
  · rw [meet_none b hb]; exact hb
  · rcases hb with rfl | hb | rfl
    · rw [meet_comm _ _ (.inr (.inl ha)) (.inl rfl), meet_none a (.inr (.inl ha))]; exact .inr (.inl ha)
    · by_cases e : a = b
      · subst e; rw [meet_self a (.inr (.inl ha))]; exact .inr (.inl ha)
      · right; right; simp [meet, ha, hb, e]
    · rw [meet_comm _ _ (.inr (.inl ha)) (.inr (.inr rfl)), meet_all]; exact .inr (.inr rfl)
  · rw [meet_all]; exact .inr (.inr rfl)
theorem meet_all' (a : Int × Int) (h : Norm a) : meet a (2, 0) = (2, 0) := by rw [meet_comm a _ h (.inr (.inr rfl)), meet_all]
theorem meet_none' (a : Int × Int) (h : Norm a) : meet a (0, 0) = a := by rw [meet_comm a _ h (.inl rfl), meet_none a h]
theorem meet_one (a b : Int × Int) (ha : a.1 = 1) (hb : b.1 = 1) : meet a b = if a = b then a else (2, 0) := by
  by_cases e : a = b
  · subst e; rw [if_pos rfl, meet_self a (.inr (.inl ha))]
  · rw [if_neg e]; simp [meet, ha, hb, e]
theorem meet_assoc (a b c : Int × Int) (ha : Norm a) (hb : Norm b) (hc : Norm c) : meet (meet a b) c = meet a (meet b c) := by
  rcases ha with rfl | ha' | rfl
  · rw [meet_none b hb, meet_none _ (meet_norm b c hb hc)]
  · have ha : Norm a := .inr (.inl ha')
    rcases hb with rfl | hb' | rfl
    · rw [meet_none' a ha, meet_none c hc]
    · have hb : Norm b := .inr (.inl hb')
      rcases hc with rfl | hc' | rfl
      · rw [meet_none' _ (meet_norm a b ha hb), meet_none' b hb]
      · have hc : Norm c := .inr (.inl hc')
        rw [meet_one a b ha' hb', meet_one b c hb' hc']
        by_cases e1 : a = b
        · by_cases e2 : b = c
          · subst e1; subst e2; simp [meet_self a ha]
          · subst e1; rw [if_pos rfl, if_neg e2, meet_one a c ha' hc', if_neg e2, meet_all' a ha]
        · by_cases e2 : b = c
          · subst e2; rw [if_neg e1, if_pos rfl, meet_all, meet_one a b ha' hb', if_neg e1]
          · rw [if_neg e1, if_neg e2, meet_all, meet_all' a ha]
      · rw [meet_all' _ (meet_norm a b ha hb), meet_all' b hb, meet_all' a ha]
    · rw [meet_all, meet_all' a ha, meet_all]
  · rw [meet_all, meet_all, meet_all]
theorem eq_pair {x y : Int × Int} (h : x = y) : (x.1 == y.1 && x.2 == y.2) = true := by subst h; simp
theorem pLL : plainOps env c4_r11 = true := by kernel_rfl
theorem qLL : quietOps env c4_r13 = true := by kernel_rfl
theorem getC2' {x y : V} : getC (some 2) [x, y] 0 = some (.agg [x, y]) := by simp [getC]
theorem SccpLattice_raw (aw : ∀ h, callF env (R env) 5 [] h = some (.bool true, h)) (a b c : Int × Int) (ha : 0 ≤ a.1) (hb : 0 ≤ b.1) (hc : 0 ≤ c.1) : ∃ h', callRaw env (R env) 4 [cell a.1 a.2, cell b.1 b.2, cell c.1 c.2] [] = some (.bool true, h') := by
  obtain ⟨tm, hl, ha, e⟩ := call_enter' (Γ := env) (ih := R env) fnLL [cell a.1 a.2, cell b.1 b.2, cell c.1 c.2] [] (by simp)
  have h0 := ha 0 (by simp); have h1 := ha 1 (by simp); have h2 := ha 2 (by simp)
  rw [e]; clear ha e
  simp only [List.getElem?_cons_zero, List.getElem?_cons_succ] at h0 h1 h2
  simp only [c4_r0, c4_r1, c4_r3, c4_r4, R_skip, R_ret, R_seq, R_region, R_cond, R_block, region_plain, ops_cons, ops_nil, bindV_some, putT_some, ev_t, ev_c, evs_nil, evq_nil, evq_cons, litC_nil, litC_cons, get_set, List.length_set, s_move, s_box, s_lit, s_load, s_un, s_call, thenN_normal, condB_bool, un_not, load_ptr, cells_agg, Option.bind_some, Option.map_some, reduceIte, Nat.reduceEqDiff, Nat.reduceLT, Nat.reduceAdd, Bool.false_eq_true, Bool.not_true, Bool.and_self, Nat.reduceBEq, List.all_cons, List.all_nil, Nat.zero_add, and_self, List.set_cons_zero, List.set_cons_succ, List.length_cons, List.length_nil, List.replicate_succ, List.replicate_zero, and_self, List.length_nil, List.nil_append, rowAt_zero, rowAt_succ, List.getElem?_cons_zero, List.length_cons, List.cons_append, List.set_cons_succ, List.set_cons_zero, List.all_cons, List.all_nil, V.one_int, Bool.and_self, List.length_nil, h0, h1, h2, hl, cell, aw, getC2']
  generalize hS : (List.set (List.set _ _ _) _ _ : List V) = tmS
  obtain ⟨tm', e, hl', h3, h4, h5, h7⟩ := loopL a b c tmS (by subst hS; simp only [get_set, List.length_set, reduceIte, Nat.reduceEqDiff, Nat.reduceLT, hl]) (by subst hS; simp only [get_set, List.length_set, reduceIte, Nat.reduceEqDiff, Nat.reduceLT, hl]) (by subst hS; simp only [get_set, List.length_set, reduceIte, Nat.reduceEqDiff, Nat.reduceLT, hl]) (by subst hS; simp only [get_set, List.length_set, reduceIte, Nat.reduceEqDiff, Nat.reduceLT, hl]) (by subst hS; simp only [get_set, List.length_set, reduceIte, Nat.reduceEqDiff, Nat.reduceLT, hl]) (by subst hS; simp only [List.length_set, hl])
  simp only [cc] at e
  rw [e]
  clear e hS h0 h1 h2 hl
  have hl := hl'
  have na := norm_ok a ha
  have nb := norm_ok b hb
  have nc := norm_ok c hc
  have M := MeetF'
  simp only [cell] at M
  generalize hA : norm a = A at na
  generalize hB : norm b = B at nb
  generalize hC : norm c = C at nc
  simp only [thenN_normal, leave_exit, reduceIte]
  generalize hD : runRegion env (R env) true c4_r11 _ = r
  obtain rfl := dyn_use hD pLL (by
    simp only [c4_r11, bindV_some, putT_some, putT_none, ev_t, ev_c, get_set, List.length_set, s_move, s_load, s_store, s_iaddr, natOf_zero, natOf_one, natOf_2, iaddr_sl, load_ptr, cells_agg, Option.bind_some, Option.map_some, reduceIte, Nat.reduceEqDiff, Nat.reduceLT, Nat.reduceAdd, Bool.not_true, Bool.not_false, Bool.and_self, Bool.and_true, Nat.reduceBEq, List.all_cons, List.all_nil, Nat.add_zero, Nat.zero_add, setC, List.set_cons_zero, List.set_cons_succ, List.length_cons, List.length_nil, List.length_nil, rowAt_zero, rowAt_succ, List.getElem?_cons_zero, List.getElem?_cons_succ, List.length_cons, store_ptr, Nat.le_refl, List.set_cons_succ, List.set_cons_zero, List.all_cons, List.all_nil, Bool.and_true, V.one_int, Bool.and_self, List.length_nil, true_and, runD_nil, d_move, d_iaddr, d_load, d_store, own1_ptr, chk_true, okR, List.all_cons, List.all_nil, List.contains_cons, List.contains_nil, Nat.reduceBEq, List.append_nil, Bool.or_false, Bool.or_true, Bool.and_true, Bool.and_false, Bool.not_true, Bool.not_false, Nat.sub_self, List.range'_zero, List.length_set, beq_self_eq_true, h3, h4, h5, h7, hl, getC2']
    rfl)
  have e1 := eq_pair (meet_comm A B na nb)
  have e2 := eq_pair (meet_assoc A B C na nb nc)
  have e3 := eq_pair (meet_self A na)
  have e4 := eq_pair (meet_none A na)
  have e5 := eq_pair (meet_all A)
  have e6 : meet A (meet A B) = meet A B := by rw [← meet_assoc A A B na na nb, meet_self A na]
  have e6 := eq_pair e6
  simp only [c4_r12, region_quiet qLL, ops_cons, ops_nil, bindV_some, putT_some, putT_none, ev_t, ev_c, evp_nil, evp_cons, buildC_nil, buildC_cons, get_set, List.length_set, s_new, s_build, s_store, thenN_normal, cells_agg, cells_int, Option.bind_some, Option.map_some, reduceIte, Nat.reduceEqDiff, Nat.reduceLT, Nat.reduceAdd, Bool.and_self, List.all_cons, List.all_nil, Nat.zero_add, Nat.reduceLeDiff, and_self, setC, List.set_cons_zero, List.set_cons_succ, List.length_cons, List.length_nil, and_self, List.length_nil, List.nil_append, rowAt_zero, rowAt_succ, List.getElem?_cons_zero, List.length_cons, List.cons_append, store_ptr, Nat.le_refl, List.set_cons_succ, List.set_cons_zero, List.all_cons, List.all_nil, V.one_int, Bool.and_self, List.length_nil, true_and, hl]
  simp only [c4_r13, ops_cons, ops_gate, gate_tt, ops_nil, bindV_some, putT_some, ev_t, ev_c, evs_nil, evs_cons, get_set, List.length_set, s_move, s_pick, s_load, s_eqa, s_call, thenN_normal, fin_ret, mapO_nil, mapO_cons, resOf_tmp, oneOf_one, pick_tt, load_ptr, Option.bind_some, Option.map_some, reduceIte, Nat.reduceEqDiff, Nat.reduceLT, rowAt_zero, rowAt_succ, List.getElem?_cons_zero, h3, h4, h5, hl, getC2', M, eqa2, e1, e2, e3, e4, e5, e6]
  exact ⟨_, rfl⟩
end
end Am.C
