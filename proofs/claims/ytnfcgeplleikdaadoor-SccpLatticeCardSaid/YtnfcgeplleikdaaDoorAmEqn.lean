/- The machine's equations, for rewriting. -/
import Derived.Test.YtnfcgeplleikdaaDoorAmLim
namespace Am
open Go (IntKind BinOp UnOp)
noncomputable section
def thenN (r : Option (Ex × St)) (k : St → Option (Ex × St)) : Option (Ex × St) := r.bind fun r => match r with
  | (.normal, s) => k s
  | r => some r
def leave (id : Nat) (r : Option (Ex × St)) : Option (Ex × St) := r.map fun r => match r with
  | (.exit i, s) => if i = id then (.normal, s) else (.exit i, s)
  | r => r
def condB {α : Type} (v : V) (p q : Option α) : Option α := match v with
  | .bool true => p
  | .bool false => q
  | _ => none
def jump (b : Cd) (ih : Runs) (r : Option (Ex × St)) : Option (Ex × St) := r.bind fun r => match r with
  | (.goto l, s) => match findL b l with
    | some rest => ih (.scope b rest) s
    | none => some (.goto l, s)
  | r => some r
section
variable {s : St} {k : St → Option (Ex × St)}
theorem thenN_none : thenN none k = none := _root_.id rfl
theorem thenN_normal : thenN (some (.normal, s)) k = k s := _root_.id rfl
theorem thenN_exit {i : Nat} : thenN (some (.exit i, s)) k = some (.exit i, s) := _root_.id rfl
theorem thenN_goto {i : Nat} : thenN (some (.goto i, s)) k = some (.goto i, s) := _root_.id rfl
theorem thenN_ret : thenN (some (.ret, s)) k = some (.ret, s) := _root_.id rfl
theorem leave_none {id : Nat} : leave id none = none := _root_.id rfl
theorem leave_normal {id : Nat} : leave id (some (.normal, s)) = some (.normal, s) := _root_.id rfl
theorem leave_ret {id : Nat} : leave id (some (.ret, s)) = some (.ret, s) := _root_.id rfl
theorem leave_goto {id i : Nat} : leave id (some (.goto i, s)) = some (.goto i, s) := _root_.id rfl
theorem leave_exit {id i : Nat} : leave id (some (.exit i, s)) = if i = id then some (.normal, s) else some (.exit i, s) := by
  unfold leave; simp only [Option.map_some]; split <;> rfl
theorem condB_bool {α : Type} {b : Bool} {p q : Option α} : condB (.bool b) p q = if b = true then p else q := by cases b <;> rfl
theorem thenN_if {c : Prop} [Decidable c] {p q : Option (Ex × St)} : thenN (if c then p else q) k = if c then thenN p k else thenN q k := by split <;> rfl
theorem leave_if {id : Nat} {c : Prop} [Decidable c] {p q : Option (Ex × St)} : leave id (if c then p else q) = if c then leave id p else leave id q := by split <;> rfl
end
section
variable {Γ : Env}
theorem R_skip (s : St) : R Γ .skip s = some (.normal, s) := R_eq _ _
theorem R_label (l : Nat) (s : St) : R Γ (.label l) s = some (.normal, s) := R_eq _ _
theorem R_exit (l : Nat) (s : St) : R Γ (.exit l) s = some (.exit l, s) := R_eq _ _
theorem R_goto (l : Nat) (s : St) : R Γ (.goto l) s = some (.goto l, s) := R_eq _ _
theorem R_ret (s : St) : R Γ .ret s = some (.ret, s) := R_eq _ _
theorem R_seq (a b : Cd) (s : St) : R Γ (.seq a b) s = thenN (R Γ a s) fun s => R Γ b s := R_eq _ _
theorem R_cond (c : Opd) (x y : Cd) (s : St) : R Γ (.cond c x y) s = (c.ev Γ s.tm).bind fun v => condB v (R Γ x s) (R Γ y s) := R_eq _ _
theorem R_block (id : Nat) (b : Cd) (s : St) : R Γ (.block id b) s = leave id (R Γ b s) := R_eq _ _
theorem R_loop (b : Cd) (s : St) : R Γ (.loop b) s = thenN (R Γ b s) fun s => R Γ (.loop b) s := R_eq _ _
theorem R_scope (b cur : Cd) (s : St) : R Γ (.scope b cur) s = jump b (R Γ) (R Γ cur s) := R_eq _ _
theorem R_region (d : Bool) (ops : List Oper) (s : St) : R Γ (.region d ops) s = (runRegion Γ (R Γ) d ops s).map fun s => (.normal, s) := R_eq _ _
theorem region_plain {ih : Runs} (ops : List Oper) (s : St) : runRegion Γ ih false ops s = runOps Γ ih ops s := _root_.id rfl
end

/-! ### Operations, with what they make of values -/
section
variable {Γ : Env} {ih : Runs} {tm : List V} {h : Heap} {slot : Option Nat}
def bindV (o : Option (V × Heap)) (k : V → Heap → Option St) : Option St := o.bind fun r => k r.1 r.2
theorem bindV_some {v : V} {h : Heap} {k : V → Heap → Option St} : bindV (some (v, h)) k = k v h := _root_.id rfl
theorem bindV_none {k : V → Heap → Option St} : bindV none k = none := _root_.id rfl
theorem ops_nil {s : St} : runOps Γ ih [] s = some s := _root_.id rfl
theorem ops_cons {d : Option Nat} {o : Op} {anc : List Nat} {os : List Oper} : runOps Γ ih (⟨d, o, none, anc⟩ :: os) ⟨tm, h⟩ = bindV (step1 Γ ih tm h none o) fun v h => runOps Γ ih os ⟨putT tm d v, h⟩ := _root_.id rfl
theorem ops_if {d : Option Nat} {o : Op} {anc : List Nat} {os : List Oper} {g : Nat} {b : Bool} : runOps Γ ih (⟨d, o, some (g, b), anc⟩ :: os) ⟨tm, h⟩ =
    if wants tm (some (g, b)) = true then bindV (step1 Γ ih tm h none o) fun v h => runOps Γ ih os ⟨putT tm d v, h⟩ else runOps Γ ih os ⟨putT tm d undef, h⟩ := _root_.id rfl
theorem wants_some {g : Nat} {b c : Bool} (hg : tm[g]? = some (.bool c)) : wants tm (some (g, b)) = (c == b) := by simp [wants, hg]
theorem putT_some {d : Nat} {v : V} : putT tm (some d) v = tm.set d v := _root_.id rfl
theorem putT_none {v : V} : putT tm none v = tm := _root_.id rfl
theorem ev_t {n : Nat} : Opd.ev Γ tm (.t n) = tm[n]? := _root_.id rfl
theorem ev_c {v : V} : Opd.ev Γ tm (.c v) = some v := _root_.id rfl
theorem ev_g {n : Nat} : Opd.ev Γ tm (.g n) = (Γ.glob n).map (.pp · 0) := _root_.id rfl
theorem evs_nil : evs Γ tm [] = some [] := _root_.id rfl
theorem evs_cons {x : Opd} {xs : List Opd} : evs Γ tm (x :: xs) = (x.ev Γ tm).bind fun v => (evs Γ tm xs).bind fun vs => some (v :: vs) := _root_.id rfl
theorem get_set {i j : Nat} {v : V} : (tm.set i v)[j]? = if i = j then (if i < tm.length then some v else none) else tm[j]? := List.getElem?_set

def o_len (h : Heap) (v : V) := lenV h v
theorem s_move {x : Opd} : step1 Γ ih tm h slot (.move x) = (x.ev Γ tm).map (·, h) := _root_.id rfl
def pickV (c : V) (a b : Option V) : Option V := match c with
  | .bool true => a
  | .bool false => b
  | _ => none
theorem pickV_bool {c : Bool} {a b : Option V} : pickV (.bool c) a b = if c = true then a else b := by cases c <;> rfl
theorem s_pick {c a b : Opd} : step1 Γ ih tm h slot (.pick c a b) = (c.ev Γ tm).bind fun c => (pickV c (a.ev Γ tm) (b.ev Γ tm)).map (·, h) := by
  rw [step1_noCall rfl]
  simp only [opx]
  cases c.ev Γ tm with
  | none => rfl
  | some c => cases c <;> first | rfl | (rename_i b; cases b <;> rfl)
theorem s_new {z : List V} : step1 Γ ih tm h none (.new z) = some (.ptr h.length z.length 0 0, h ++ [.row z.length [z]]) := _root_.id rfl
theorem s_box {z : Nat} {x : Opd} : step1 Γ ih tm h none (.box z x) = (x.ev Γ tm).bind fun v => if v.cells.length = z ∧ v.cells.all V.one = true then some (.ptr h.length z 0 0, h ++ [.row z [v.cells]]) else none := _root_.id rfl
theorem s_build {zero : List V} {ps : List (Nat × Nat × Opd)} : step1 Γ ih tm h slot (.build zero ps) = (evp Γ tm ps).bind fun ps => (buildC zero ps).map fun cs => (.agg cs, h) := _root_.id rfl
theorem s_lit {z n : Nat} {zero : List V} {ps : List (Nat × Opd)} : step1 Γ ih tm h none (.lit z zero n ps) = (evq Γ tm ps).bind fun ps => (litC z (List.replicate n zero) ps).bind fun els =>
      if els.all (fun e => e.length == z && e.all V.one) = true then some (.sl h.length z 0 n (some n), h ++ [.row z els]) else none := _root_.id rfl
theorem s_load {ag : Option Nat} {a : Opd} : step1 Γ ih tm h slot (.load ag a) = (a.ev Γ tm).bind fun a => (loadV h ag a).map (·, h) := _root_.id rfl
theorem s_store {z : Nat} {a x : Opd} : step1 Γ ih tm h slot (.store z a x) = (a.ev Γ tm).bind fun a => (x.ev Γ tm).bind fun x => (storeV h z a x).map (undef, ·) := _root_.id rfl
def nilcV (v : V) : Option V := match v with
  | .ptr .. => some v
  | .pp .. => some v
  | .fn .. => some v
  | _ => none
theorem s_nilc {x : Opd} : step1 Γ ih tm h slot (.nilc x) = (x.ev Γ tm).bind fun v => (nilcV v).map (·, h) := by
  rw [step1_noCall rfl]
  simp only [opx]
  cases x.ev Γ tm with
  | none => rfl
  | some c => cases c <;> rfl
theorem s_bin {o : BinOp} {x y : Opd} : step1 Γ ih tm h slot (.bin o x y) = (x.ev Γ tm).bind fun x => (y.ev Γ tm).bind fun y => (bin o x y).map (·, h) := _root_.id rfl
def eqaV (K : KS) (neg : Bool) (x y : V) : Option V := match x, y with
  | .agg a, .agg b => if keyOK K (.agg a) = true then (eqL a b).map fun r => .bool (if neg then !r else r) else none
  | _, _ => none
theorem s_eqa {K : KS} {neg : Bool} {x y : Opd} : step1 Γ ih tm h slot (.eqa K neg x y) = (x.ev Γ tm).bind fun x => (y.ev Γ tm).bind fun y => (eqaV K neg x y).map (·, h) := by
  rw [step1_noCall rfl]
  simp only [opx]
  cases x.ev Γ tm with
  | none => rfl
  | some x =>
    cases y.ev Γ tm with
    | none => rfl
    | some y =>
      simp only [Option.bind_some]
      cases x <;> first | rfl | (cases y <;> first | rfl | (simp only [eqaV]; split <;> simp [Option.map_map, Function.comp_def]))
def eqbV (neg : Bool) (x y : V) : Option V := match x, y with
  | .bool a, .bool b => some (.bool (if neg then !(a == b) else a == b))
  | _, _ => none
theorem s_eqb {neg : Bool} {x y : Opd} : step1 Γ ih tm h slot (.eqb neg x y) = (x.ev Γ tm).bind fun x => (y.ev Γ tm).bind fun y => (eqbV neg x y).map (·, h) := by
  rw [step1_noCall rfl]
  simp only [opx]
  cases x.ev Γ tm with
  | none => rfl
  | some x =>
    cases y.ev Γ tm with
    | none => rfl
    | some y => cases x <;> first | rfl | (cases y <;> rfl)
theorem s_un {o : UnOp} {x : Opd} : step1 Γ ih tm h slot (.un o x) = (x.ev Γ tm).bind fun x => (un o x).map (·, h) := _root_.id rfl
theorem s_conv {c : Cv} {x : Opd} : step1 Γ ih tm h slot (.conv c x) = (x.ev Γ tm).bind fun x => (cv h c x).map (·, h) := _root_.id rfl
theorem s_mkf {f : Nat} {a b : List Opd} : step1 Γ ih tm h slot (.mkf f a b) = (evs Γ tm a).bind fun a => (evs Γ tm b).map fun b => (.fn f a b, h) := _root_.id rfl
theorem s_mkm : step1 Γ ih tm h none .mkm = some (.mp h.length, h ++ [.map []]) := _root_.id rfl
theorem s_mks {z bytes : Nat} {zero : List V} {l c : Opd} : step1 Γ ih tm h none (.mks z bytes zero l c) = (l.ev Γ tm).bind fun l => (c.ev Γ tm).bind fun c => (natOf l).bind fun l => (natOf c).bind fun c =>
      if l ≤ c ∧ c * bytes ≤ 2 * room ∧ c < 2 ^ 62 ∧ zero.length = z then some (.sl h.length z 0 l (some c), h ++ [.row z (List.replicate c zero)]) else none := _root_.id rfl
theorem s_slice {z : Nat} {x : Opd} {lo hi : Option Opd} : step1 Γ ih tm h slot (.slice z x lo hi) = (x.ev Γ tm).bind fun x => (oNat Γ lo tm).bind fun lo => (oNat Γ hi tm).bind fun hi => (sliceV z x lo hi).map (·, h) := _root_.id rfl
def faddrV (off : Nat) (v : V) : Option V := match v with
  | .ptr b z i o => some (.ptr b z i (o + off))
  | .pp cs o => some (.pp cs (o + off))
  | _ => none
theorem s_faddr {off : Nat} {x : Opd} : step1 Γ ih tm h slot (.faddr off x) = (x.ev Γ tm).bind fun v => (faddrV off v).map (·, h) := by
  rw [step1_noCall rfl]
  simp only [opx]
  cases x.ev Γ tm with
  | none => rfl
  | some c => cases c <;> rfl
def fieldV (off : Nat) (ag : Option Nat) (v : V) : Option V := match v with
  | .agg cs => getC ag cs off
  | _ => none
theorem s_field {off : Nat} {ag : Option Nat} {x : Opd} : step1 Γ ih tm h slot (.field off ag x) = (x.ev Γ tm).bind fun v => (fieldV off ag v).map (·, h) := by
  rw [step1_noCall rfl]
  simp only [opx]
  cases x.ev Γ tm with
  | none => rfl
  | some c => cases c <;> rfl
theorem s_iaddr {z : Nat} {arr : Option Nat} {x i : Opd} : step1 Γ ih tm h slot (.iaddr z arr x i) = (x.ev Γ tm).bind fun x => (i.ev Γ tm).bind fun i => (natOf i).bind fun i => (iaddrV z arr x i).map (·, h) := _root_.id rfl
def indexV (z n : Nat) (ag : Option Nat) (v : V) (i : Nat) : Option V := match v with
  | .agg cs => if i < n then getC ag cs (i * z) else none
  | _ => none
theorem s_index {z n : Nat} {ag : Option Nat} {x i : Opd} : step1 Γ ih tm h slot (.index z n ag x i) = (x.ev Γ tm).bind fun x => (i.ev Γ tm).bind fun i => (natOf i).bind fun i => (indexV z n ag x i).map (·, h) := by
  rw [step1_noCall rfl]
  simp only [opx]
  cases x.ev Γ tm with
  | none => rfl
  | some x =>
    cases i.ev Γ tm with
    | none => rfl
    | some i =>
      simp only [Option.bind_some]
      cases natOf i with
      | none => rfl
      | some i => simp only [Option.bind_some]; cases x <;> first | rfl | (simp only [indexV]; split <;> simp)
theorem s_look {K : KS} {zero : V} {ok : Bool} {m k : Opd} : step1 Γ ih tm h slot (.look K zero ok m k) = (m.ev Γ tm).bind fun m => (k.ev Γ tm).bind fun k => if keyOK K k = true then (lookV h zero ok m k).map (·, h) else none := _root_.id rfl
theorem s_mupd {K : KS} {m k v : Opd} : step1 Γ ih tm h slot (.mupd K m k v) = (m.ev Γ tm).bind fun m => (k.ev Γ tm).bind fun k => (v.ev Γ tm).bind fun v => if keyOK K k = true then (mupdV h m k v).map (undef, ·) else none := _root_.id rfl
theorem s_mdel {K : KS} {m k : Opd} : step1 Γ ih tm h slot (.mdel K m k) = (m.ev Γ tm).bind fun m => (k.ev Γ tm).bind fun k => if keyOK K k = true then (mdelV h m k).map (undef, ·) else none := _root_.id rfl
theorem s_len {x : Opd} : step1 Γ ih tm h slot (.len x) = (x.ev Γ tm).bind fun x => lenV h x := _root_.id rfl
theorem s_app {z bytes : Nat} {s x : Opd} : step1 Γ ih tm h slot (.app z bytes s x) = (s.ev Γ tm).bind fun s => (x.ev Γ tm).bind fun x => appV h z bytes s x := _root_.id rfl
theorem s_ext {x : Opd} {i : Nat} : step1 Γ ih tm h slot (.ext x i) = (x.ev Γ tm).bind fun v => (match v with | .tup vs => vs[i]? | _ => none).map (·, h) := by
  rw [step1_noCall rfl]
  simp only [opx]
  cases x.ev Γ tm with
  | none => rfl
  | some c => cases c <;> rfl
theorem s_call {f : Nat} {args : List Opd} : step1 Γ ih tm h slot (.call f args) = (evs Γ tm args).bind fun a => callF Γ ih f a h := _root_.id rfl
end
end
end Am
