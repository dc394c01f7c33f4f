/- SccpMeets: the law's call answers true. -/
import Derived.Test.YtnfcgeplleikdaaDoorAmCMeet
import Derived.Test.YtnfcgeplleikdaaDoorAmTop
import Derived.Test.YtnfcgeplleikdaaDoorAmCMemo
set_option maxRecDepth 100000
namespace Am
theorem told_call {Γ : Env} {M : Memo} {f : Nat} {v : V} {h : Heap} (hm : Γ.mode f = .fresh) (hM : Tells Γ M) (hv : ([], v) ∈ M f) : callF Γ (R Γ) f [] h = some (v, h) := by
  obtain ⟨n, hn⟩ := hM
  obtain ⟨⟨u, h'⟩, h1, h2⟩ := hn f [] _ hv
  exact callF_pure hm rfl (callRaw_mono (run_R n) h1) h2
end Am
namespace Am.C
open Am
noncomputable section
attribute [local congr] bindV_congr thenN_congr obind_congr omap_congr fin_congr leave_congr gate_congr
theorem fnLM : env.fn 3 = some c3 := by kernel_rfl
theorem awake (h : Heap) : callF env (R env) 5 [] h = some (.bool true, h) :=
  told_call (by rfl) t26 (List.mem_cons_self (a := (([], V.bool true) : List V × V)) (l := m25 5))
theorem snap_cell {h : Heap} {n : Nat} {k b : Int} : snap h (n + 2) (cell k b) = some (cell k b) := rfl
theorem MeetF (ka ba kb bb : Int) (h : Heap) : callF env (R env) 6 [cell ka ba, cell kb bb] h = some (cell (meet (ka, ba) (kb, bb)).1 (meet (ka, ba) (kb, bb)).2, h) := by
  obtain ⟨h', e⟩ := Meet (ka, ba) (kb, bb)
  exact callF_pure (by rfl) rfl e rfl
theorem RMeetF (ka ba kb bb : Int) (ha : 0 ≤ ka) (hb : 0 ≤ kb) (h : Heap) : callF env (R env) 7 [cell ka ba, cell kb bb] h = some (cell (meet (ka, ba) (kb, bb)).1 (meet (ka, ba) (kb, bb)).2, h) := by
  obtain ⟨h', e⟩ := RMeet (ka, ba) (kb, bb) ha hb
  exact callF_pure (by rfl) rfl e rfl
theorem qLM : quietOps env c3_r1 = true := by kernel_rfl
theorem getC2' {x y : V} : getC (some 2) [x, y] 0 = some (.agg [x, y]) := by simp [getC]
theorem beq_self_int (a : Int) : (a == a) = true := by simp
theorem SccpMeets_raw (ka ba kb bb : Int) (ha : 0 ≤ ka) (hb : 0 ≤ kb) : ∃ h', callRaw env (R env) 3 [cell ka ba, cell kb bb] [] = some (.bool true, h') := by
  obtain ⟨tm, hl, ha, e⟩ := call_enter' (Γ := env) (ih := R env) fnLM [cell ka ba, cell kb bb] [] (by simp)
  have h0 := ha 0 (by simp); have h1 := ha 1 (by simp)
  rw [e]; clear ha e
  simp only [List.getElem?_cons_zero, List.getElem?_cons_succ] at h0 h1
  have e1 := MeetF ka ba kb bb
  have e2 := RMeetF ka ba kb bb ha hb
  simp only [cell] at h0 h1 e1 e2
  simp only [c3_r0, region_quiet qLM, R_ret, R_seq, R_region, region_plain, ops_cons, ops_nil, bindV_some, putT_some, ev_t, ev_c, get_set, s_move, s_box, thenN_normal, cells_agg, Option.bind_some, Option.map_some, reduceIte, Nat.reduceEqDiff, Nat.reduceLT, Nat.reduceAdd, Bool.and_self, List.all_cons, List.all_nil, Nat.zero_add, and_self, List.length_cons, List.length_nil, and_self, List.length_nil, List.nil_append, List.length_cons, List.cons_append, List.all_cons, List.all_nil, V.one_int, Bool.and_self, List.length_nil, h0, h1, hl]
  simp only [c3_r1, ops_cons, ops_gate, gate_tt, ops_nil, bindV_some, putT_some, ev_t, ev_c, evs_nil, evs_cons, get_set, List.length_set, s_move, s_pick, s_load, s_eqa, s_call, thenN_normal, fin_ret, mapO_nil, mapO_cons, resOf_tmp, oneOf_one, pick_tt, load_ptr, Option.bind_some, Option.map_some, reduceIte, Nat.reduceEqDiff, Nat.reduceLT, Bool.and_self, rowAt_zero, rowAt_succ, List.getElem?_cons_zero, Bool.and_self, hl, awake, getC2', e1, e2, eqa2, beq_self_int]
  exact ⟨_, rfl⟩
end
end Am.C
