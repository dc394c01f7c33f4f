/- Towards contracts: how a call begins and ends, operations at values that are known. -/
import Derived.Test.YtnfcgeplleikdaaDoorAmEqn
namespace Am
open Go (IntKind BinOp UnOp)
noncomputable section
theorem bindV_congr {a a' : Option (V × Heap)} {k : V → Heap → Option St} (e : a = a') : bindV a k = bindV a' k := by rw [e]
theorem thenN_congr {a a' : Option (Ex × St)} {k : St → Option (Ex × St)} (e : a = a') : thenN a k = thenN a' k := by rw [e]
theorem obind_congr {α β : Type} {a a' : Option α} {k : α → Option β} (e : a = a') : Option.bind a k = Option.bind a' k := by rw [e]
theorem omap_congr {α β : Type} {a a' : Option α} {k : α → β} (e : a = a') : Option.map k a = Option.map k a' := by rw [e]
/-- An operation under a guard. -/
def gateB (o : Option V) (b : Bool) (p q : Option St) : Option St := match o with
  | some (.bool c) => if (c == b) = true then p else q
  | _ => q
theorem gate_congr {o o' : Option V} {b : Bool} {p q : Option St} (e : o = o') : gateB o b p q = gateB o' b p q := by rw [e]
theorem gate_tt {p q : Option St} : gateB (some (.bool true)) true p q = p := _root_.id rfl
theorem gate_tf {p q : Option St} : gateB (some (.bool true)) false p q = q := _root_.id rfl
theorem gate_ft {p q : Option St} : gateB (some (.bool false)) true p q = q := _root_.id rfl
theorem gate_ff {p q : Option St} : gateB (some (.bool false)) false p q = p := _root_.id rfl
theorem ops_gate {Γ : Env} {ih : Runs} {tm : List V} {h : Heap} {d : Option Nat} {o : Op} {anc : List Nat} {os : List Oper} {g : Nat} {b : Bool} : runOps Γ ih (⟨d, o, some (g, b), anc⟩ :: os) ⟨tm, h⟩ =
    gateB (tm[g]?) b (bindV (step1 Γ ih tm h none o) fun v h => runOps Γ ih os ⟨putT tm d v, h⟩) (runOps Γ ih os ⟨putT tm d undef, h⟩) := by
  rw [ops_if]
  have key : ∀ (x : Option V) (p q : Option St), (if (match x with | some (.bool c) => c == b | _ => false) = true then p else q) = gateB x b p q := fun x p q => by
    cases x with
    | none => rfl
    | some v => cases v <;> rfl
  exact key _ _ _
theorem pick_tt {a b : Option V} : pickV (.bool true) a b = a := _root_.id rfl
theorem pick_ff {a b : Option V} : pickV (.bool false) a b = b := _root_.id rfl
def fin (res : List Res) (r : Option (Ex × St)) : Option (V × Heap) := r.bind fun r => match r with
  | (.normal, s) => (mapO (resOf s) res).map fun vs => (oneOf vs, s.h)
  | (.ret, s) => (mapO (resOf s) res).map fun vs => (oneOf vs, s.h)
  | _ => none
section
variable {s : St} {res : List Res}
theorem fin_none : fin res none = none := _root_.id rfl
theorem fin_normal : fin res (some (.normal, s)) = (mapO (resOf s) res).map fun vs => (oneOf vs, s.h) := _root_.id rfl
theorem fin_ret : fin res (some (.ret, s)) = (mapO (resOf s) res).map fun vs => (oneOf vs, s.h) := _root_.id rfl
theorem fin_if {c : Prop} [Decidable c] {p q : Option (Ex × St)} : fin res (if c then p else q) = if c then fin res p else fin res q := by split <;> rfl
theorem fin_then {a : Option (Ex × St)} {k : St → Option (Ex × St)} {s : St} (e : a = some (.normal, s)) : fin res (thenN a k) = fin res (k s) := by rw [e]; rfl
end
theorem fin_congr {res : List Res} {a a' : Option (Ex × St)} (e : a = a') : fin res a = fin res a' := by rw [e]
theorem leave_congr {id : Nat} {a a' : Option (Ex × St)} (e : a = a') : leave id a = leave id a' := by rw [e]
theorem mapO_nil {α β : Type} {f : α → Option β} : mapO f [] = some [] := _root_.id rfl
theorem mapO_cons {α β : Type} {f : α → Option β} {x : α} {xs : List α} : mapO f (x :: xs) = (f x).bind fun y => (mapO f xs).map fun ys => y :: ys := _root_.id rfl
theorem resOf_tmp {s : St} {t : Nat} : resOf s (.tmp t) = s.tm[t]? := _root_.id rfl
theorem resOf_cell {s : St} {t : Nat} {ag : Option Nat} : resOf s (.cell t ag) = (s.tm[t]?).bind (loadV s.h ag) := _root_.id rfl
theorem oneOf_one {v : V} : oneOf [v] = v := _root_.id rfl
theorem oneOf_two {v u : V} {vs : List V} : oneOf (v :: u :: vs) = .tup (v :: u :: vs) := _root_.id rfl
theorem oneOf_nil : oneOf [] = .tup [] := _root_.id rfl

theorem call_enter {Γ : Env} {ih : Runs} {f nt : Nat} {res : List Res} {body : Cd} (hf : Γ.fn f = some (.code nt res body)) {args : List V} {h : Heap} (hn : args.length ≤ nt) :
    ∃ tm : List V, tm.length = nt ∧ (∀ i, i < args.length → tm[i]? = args[i]?) ∧ callRaw Γ ih f args h = fin res (ih body ⟨tm, h⟩) := by
  refine ⟨args ++ List.replicate (nt - args.length) undef, by simp; omega, fun i hi => by rw [List.getElem?_append_left hi], ?_⟩
  unfold callRaw
  rw [hf]
  rfl
theorem callF_heap {Γ : Env} {ih : Runs} {f : Nat} {args : List V} {h : Heap} (hm : Γ.mode f = .heap) : callF Γ ih f args h = callRaw Γ ih f args h := by unfold callF; rw [hm]

theorem one_ne_zero_n : ((1 : Nat) = 0) = False := by simp
theorem zero_ne_one_n : ((0 : Nat) = 1) = False := by simp
theorem evp_nil {Γ : Env} {tm : List V} : evp Γ tm [] = some [] := _root_.id rfl
theorem evp_cons {Γ : Env} {tm : List V} {a b : Nat} {x : Opd} {xs : List (Nat × Nat × Opd)} : evp Γ tm ((a, b, x) :: xs) = (x.ev Γ tm).bind fun v => (evp Γ tm xs).bind fun vs => some ((a, b, v) :: vs) := _root_.id rfl
theorem evq_nil {Γ : Env} {tm : List V} : evq Γ tm [] = some [] := _root_.id rfl
theorem evq_cons {Γ : Env} {tm : List V} {a : Nat} {x : Opd} {xs : List (Nat × Opd)} : evq Γ tm ((a, x) :: xs) = (x.ev Γ tm).bind fun v => (evq Γ tm xs).bind fun vs => some ((a, v) :: vs) := _root_.id rfl
theorem buildC_nil {z : List V} : buildC z [] = some z := _root_.id rfl
theorem buildC_cons {z : List V} {off size : Nat} {v : V} {r : List (Nat × Nat × V)} : buildC z ((off, size, v) :: r) = if v.cells.length = size ∧ off + size ≤ z.length then buildC (setC z off v.cells) r else none := _root_.id rfl
theorem litC_nil {z : Nat} {els : List (List V)} : litC z els [] = some els := _root_.id rfl
theorem litC_cons {z i : Nat} {v : V} {els : List (List V)} {r : List (Nat × V)} : litC z els ((i, v) :: r) = if v.cells.length = z ∧ i < els.length then litC z (els.set i v.cells) r else none := _root_.id rfl
/-! ### Operations at values -/
section
variable {h : Heap} {k : IntKind} {a b : Int}
theorem lenV_nils : lenV h .nils = some (.int .i64 0, h) := _root_.id rfl
theorem lenV_ps {z : Nat} {els : List (List V)} : lenV h (.ps z els) = some (.int .i64 els.length, h) := _root_.id rfl
theorem lenV_sl {b z off len : Nat} {cap : Option Nat} : lenV h (.sl b z off len cap) = some (.int .i64 len, h) := _root_.id rfl
theorem natOf_nat {n : Nat} : natOf (.int k (n : Int)) = some n := by simp [natOf]
theorem natOf_zero : natOf (.int k 0) = some 0 := by simp [natOf]
theorem natOf_2 : natOf (.int k 2) = some 2 := by simp [natOf]
theorem natOf_3 : natOf (.int k 3) = some 3 := by simp [natOf]
theorem natOf_4 : natOf (.int k 4) = some 4 := by simp [natOf]
theorem natOf_5 : natOf (.int k 5) = some 5 := by simp [natOf]
theorem natOf_6 : natOf (.int k 6) = some 6 := by simp [natOf]
theorem natOf_7 : natOf (.int k 7) = some 7 := by simp [natOf]
theorem natOf_8 : natOf (.int k 8) = some 8 := by simp [natOf]
theorem natOf_9 : natOf (.int k 9) = some 9 := by simp [natOf]
theorem natOf_one : natOf (.int k 1) = some 1 := by simp [natOf]
theorem bin_add : bin .add (.int k a) (.int k b) = some (.int k (k.wrap (a + b))) := by simp [bin, binI]
theorem bin_sub : bin .sub (.int k a) (.int k b) = some (.int k (k.wrap (a - b))) := by simp [bin, binI]
theorem bin_mul : bin .mul (.int k a) (.int k b) = some (.int k (k.wrap (a * b))) := by simp [bin, binI]
theorem bin_quo : bin .quo (.int k a) (.int k b) = if b = 0 then none else some (.int k (k.wrap (a.tdiv b))) := by simp [bin, binI]
theorem bin_rem : bin .rem (.int k a) (.int k b) = if b = 0 then none else some (.int k (a.tmod b)) := by simp [bin, binI]
theorem bin_eql : bin .eql (.int k a) (.int k b) = some (.bool (a == b)) := by simp [bin, binI]
theorem bin_neq : bin .neq (.int k a) (.int k b) = some (.bool (a != b)) := by simp [bin, binI]
theorem bin_lss : bin .lss (.int k a) (.int k b) = some (.bool (decide (a < b))) := by simp [bin, binI]
theorem bin_leq : bin .leq (.int k a) (.int k b) = some (.bool (decide (a ≤ b))) := by simp [bin, binI]
theorem bin_gtr : bin .gtr (.int k a) (.int k b) = some (.bool (decide (a > b))) := by simp [bin, binI]
theorem bin_geq : bin .geq (.int k a) (.int k b) = some (.bool (decide (a ≥ b))) := by simp [bin, binI]
theorem iaddr_ps {z i : Nat} {els : List (List V)} : iaddrV z none (.ps z els) i = (els[i]?).map fun e => .pp e 0 := by simp [iaddrV]
theorem iaddr_sl {b z i off len : Nat} {cap : Option Nat} : iaddrV z none (.sl b z off len cap) i = if i < len then some (.ptr b z (off + i) 0) else none := by simp [iaddrV]
theorem iaddr_ptr {b z z' i e o n : Nat} : iaddrV z (some n) (.ptr b z' e o) i = if i < n then some (.ptr b z' e (o + i * z)) else none := _root_.id rfl
theorem iaddr_pp {z i o n : Nat} {cs : List V} : iaddrV z (some n) (.pp cs o) i = if i < n then some (.pp cs (o + i * z)) else none := _root_.id rfl
theorem load_pp {ag : Option Nat} {cs : List V} {o : Nat} : loadV h ag (.pp cs o) = getC ag cs o := _root_.id rfl
theorem load_ptr {ag : Option Nat} {b z i o : Nat} : loadV h ag (.ptr b z i o) = (rowAt h b z).bind fun els => (els[i]?).bind fun e => getC ag e o := _root_.id rfl
theorem getC_none {e : List V} {o : Nat} : getC none e o = e[o]? := _root_.id rfl
theorem getC_some {e : List V} {o n : Nat} : getC (some n) e o = if o + n ≤ e.length then some (.agg ((e.drop o).take n)) else none := _root_.id rfl
theorem faddr_ptr {off b z i o : Nat} : faddrV off (.ptr b z i o) = some (.ptr b z i (o + off)) := _root_.id rfl
theorem faddr_pp {off o : Nat} {cs : List V} : faddrV off (.pp cs o) = some (.pp cs (o + off)) := _root_.id rfl
theorem field_agg {off : Nat} {ag : Option Nat} {cs : List V} : fieldV off ag (.agg cs) = getC ag cs off := _root_.id rfl
theorem cells_agg {cs : List V} : V.cells (.agg cs) = cs := _root_.id rfl
theorem cells_int : V.cells (.int k a) = [.int k a] := _root_.id rfl
theorem cells_bool {b : Bool} : V.cells (.bool b) = [.bool b] := _root_.id rfl
theorem cells_ps {z : Nat} {els : List (List V)} : V.cells (.ps z els) = [.ps z els] := _root_.id rfl
theorem cells_sl {b z off len : Nat} {cap : Option Nat} : V.cells (.sl b z off len cap) = [.sl b z off len cap] := _root_.id rfl
theorem cells_nils : V.cells .nils = [.nils] := _root_.id rfl
theorem rowAt_of {b z : Nat} {els : List (List V)} (e : h[b]? = some (.row z els)) : rowAt h b z = some els := by unfold rowAt; rw [e]; simp
theorem row_new {b z : Nat} {o : Ob} (hb : b = h.length) : (h ++ [o])[b]? = some o := by subst hb; simp
theorem row_old {b : Nat} {o : Ob} {l : Heap} (hb : h[b]? = some o) : (h ++ l)[b]? = some o := by
  rw [List.getElem?_append_left (List.getElem?_eq_some_iff.1 hb).1]; exact hb
theorem un_not {b : Bool} : un .not (.bool b) = some (.bool !b) := _root_.id rfl
theorem lenV_psN {z : Nat} {els : List (List V)} : lenV h (psN z els) = some (.int .i64 els.length, h) := by cases els <;> rfl
theorem iaddr_psN {z i : Nat} {els : List (List V)} : iaddrV z none (psN z els) i = (els[i]?).map fun e => .pp e 0 := by cases els <;> simp [psN, iaddrV]
theorem cells_psN {z : Nat} {els : List (List V)} : V.cells (psN z els) = [psN z els] := by cases els <;> rfl
theorem one_psN {z : Nat} {els : List (List V)} : V.one (psN z els) = true := by cases els <;> rfl
end
/-- Temporaries that are known. -/
def TM (tm : List V) (nt : Nat) : List (Nat × V) → Prop
  | [] => tm.length = nt
  | p :: l => tm[p.1]? = some p.2 ∧ TM tm nt l
theorem TM_nil {tm : List V} {nt : Nat} : TM tm nt [] ↔ tm.length = nt := Iff.rfl
theorem TM_cons {tm : List V} {nt i : Nat} {v : V} {l : List (Nat × V)} : TM tm nt ((i, v) :: l) ↔ tm[i]? = some v ∧ TM tm nt l := Iff.rfl
theorem call_enter' {Γ : Env} {ih : Runs} {f nt : Nat} {res : List Res} {body : Cd} (hf : Γ.fn f = some (.code nt res body)) (args : List V) (h : Heap) (hn : args.length ≤ nt) :
    ∃ tm : List V, tm.length = nt ∧ (∀ i, i < args.length → tm[i]? = args[i]?) ∧ callRaw Γ ih f args h = fin res (ih body ⟨tm, h⟩) := call_enter hf hn
/-- A loop, by what holds at each round and a count that goes down. -/
theorem loop_use {Γ : Env} {b : Cd} {s0 : St} {r : Option (Ex × St)} (hR : R Γ (.loop b) s0 = r) (I : Nat → St → Prop) (Q : Ex → St → Prop)
    (step : ∀ k s, I k s → (∃ s' k', k' < k ∧ R Γ b s = some (.normal, s') ∧ I k' s') ∨ (∃ ex s', ex ≠ .normal ∧ R Γ b s = some (ex, s') ∧ Q ex s')) (k0 : Nat) (hs : I k0 s0) :
    ∃ ex s', r = some (ex, s') ∧ Q ex s' := by
  subst hR
  have key : ∀ k s, I k s → ∃ ex s', R Γ (.loop b) s = some (ex, s') ∧ Q ex s' := by
    intro k
    induction k using Nat.strongRecOn with
    | _ k ih =>
      intro s hs
      rcases step k s hs with ⟨s', k', hk, e, hi⟩ | ⟨ex, s', hne, e, hq⟩
      · obtain ⟨ex, s2, e2, hq⟩ := ih k' hk s' hi
        exact ⟨ex, s2, by rw [R_loop, e, thenN_normal]; exact e2, hq⟩
      · refine ⟨ex, s', ?_, hq⟩
        rw [R_loop, e]
        cases ex with
        | normal => exact absurd rfl hne
        | _ => all_goals rfl
  exact key k0 s0 hs

/-! ### Calls alone -/
section
variable {Γ : Env} {h : Heap} {n : Nat}
theorem snap_int {k : IntKind} {a : Int} : snap h (n + 1) (.int k a) = some (.int k a) := _root_.id rfl
theorem snap_bl {b : Bool} : snap h (n + 1) (.bool b) = some (.bool b) := _root_.id rfl
theorem snap_str {b : ByteArray} : snap h (n + 1) (.str b) = some (.str b) := _root_.id rfl
theorem snap_ps {z : Nat} {els : List (List V)} : snap h (n + 1) (.ps z els) = some (.ps z els) := _root_.id rfl
theorem snap_psN {z : Nat} {els : List (List V)} : snap h (n + 1) (psN z els) = some (psN z els) := by cases els <;> rfl
theorem snap_nils : snap h (n + 1) .nils = some (psN 0 []) := _root_.id rfl
theorem snap_agg {cs : List V} : snap h (n + 1) (.agg cs) = (mapO (snap h n) cs).map .agg := _root_.id rfl
theorem snap_tup {cs : List V} : snap h (n + 1) (.tup cs) = (mapO (snap h n) cs).map .tup := _root_.id rfl
theorem snap_fn {f : Nat} {a c : List V} : snap h (n + 1) (.fn f a c) = (mapO (snap h n) a).bind fun a => (mapO (snap h n) c).map fun c => .fn f a c := _root_.id rfl
theorem snap_sl {b z off len : Nat} {cap : Option Nat} : snap h (n + 1) (.sl b z off len cap) = (rowAt h b z).bind fun els => if off + len ≤ els.length then (mapO (mapO (snap h n)) ((els.drop off).take len)).map (psN z) else none := _root_.id rfl
theorem mapO_all {α β : Type} {f : α → Option β} {g : α → β} : ∀ {l : List α}, (∀ x ∈ l, f x = some (g x)) → mapO f l = some (l.map g)
  | [], _ => rfl
  | x :: l, e => by rw [mapO, e x (by simp), Option.bind_some, mapO_all fun y hy => e y (by simp [hy])]; rfl
theorem callF_pure {f : Nat} {args args' : List V} {v v' : V} {h' : Heap} (hm : Γ.mode f = .fresh) (ha : mapO (snap [] deep) args = some args') (hx : callRaw Γ (R Γ) f args' [] = some (v, h')) (hv : snap h' deep v = some v') :
    callF Γ (R Γ) f args h = some (v', h) := by
  unfold callF
  rw [hm]
  dsimp only
  rw [ha]
  simp only [hx, Option.bind_some, hv, Option.map_some]
end
end
end Am
