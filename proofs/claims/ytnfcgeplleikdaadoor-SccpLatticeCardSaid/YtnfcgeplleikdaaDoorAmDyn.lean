/- Regions that draw and write, for rewriting. -/
import Derived.Test.YtnfcgeplleikdaaDoorAmView2
namespace Am
open Go (IntKind BinOp UnOp)
noncomputable section
def okR (c : Nat) (T anc : List Nat) (r : Rc) : Bool := anc.contains r.idx || (!(r.c == 2 && c == 2) && ((r.c == 0 && c == 0) || r.T.all fun x => !T.contains x))
theorem okR_eq {c : Nat} {T anc : List Nat} {r : Rc} : okRc c T anc r = okR c T anc r := by
  have h1 : ∀ (l : List Nat) (x : Nat), l.any (Nat.beq x) = l.contains x := fun l x => by
    induction l with
    | nil => rfl
    | cons y l ih => rw [List.any_cons, List.contains_cons, ih, beq_nat]
  unfold okRc okR
  simp only [beq_nat, h1]
  rw [Bool.or_comm]
def chk (b : Bool) (p : Option St) : Option St := if b = true then p else none
theorem chk_true {p : Option St} : chk true p = p := _root_.id rfl
theorem chk_congr {b b' : Bool} {p : Option St} (e : b = b') : chk b p = chk b' p := by rw [e]
section
variable {Γ : Env} {ih : Runs} {tm : List V} {h : Heap} {d : Option Nat} {o : Op} {anc : List Nat} {os : List Oper} {i : Nat} {recs : List Rc} {s : St}
theorem runD_nil : runD Γ ih [] i recs s = some s := _root_.id rfl
/-- One that asks nothing. -/
theorem runD_none (h0 : o.cls Γ = 0) (hf : foot Γ tm h none o = some []) : runD Γ ih (⟨d, o, none, anc⟩ :: os) i recs ⟨tm, h⟩ = bindV (step1 Γ ih tm h none o) fun v _ => runD Γ ih os (i + 1) (⟨i, 0, []⟩ :: recs) ⟨putT tm d v, h⟩ := by
  have hall : recs.all (okRc 0 [] anc) = true := by
    rw [List.all_eq_true]
    intro r _
    unfold okRc
    simp only [List.any_nil, Bool.not_false, Bool.or_eq_true, Bool.and_eq_true]
    left
    refine ⟨?_, ?_⟩
    · cases Nat.beq r.c 2 <;> rfl
    · right; rw [List.all_eq_true]; intro _ _; rfl
  simp only [runD, wants, if_true, hf, Option.bind_some, h0, hall]
  rfl
theorem runD_ask (h0 : o.cls Γ = 0) : runD Γ ih (⟨d, o, none, anc⟩ :: os) i recs ⟨tm, h⟩ = (foot Γ tm h none o).bind fun T => bindV (step1 Γ ih tm h none o) fun v _ => chk (recs.all (okR 0 T anc)) (runD Γ ih os (i + 1) (⟨i, 0, T⟩ :: recs) ⟨putT tm d v, h⟩) := by
  have e : ∀ c T, okRc c T anc = okR c T anc := fun c T => funext fun r => okR_eq
  simp only [runD, wants, if_true, h0, e, chk]
  rfl
theorem runD_write (h0 : o.cls Γ = 2) : runD Γ ih (⟨d, o, none, anc⟩ :: os) i recs ⟨tm, h⟩ = (foot Γ tm h none o).bind fun T => bindV (step1 Γ ih tm h none o) fun v h' => chk (recs.all (okR 2 (T ++ List.range' h.length (h'.length - h.length)) anc)) (runD Γ ih os (i + 1) (⟨i, 2, T ++ List.range' h.length (h'.length - h.length)⟩ :: recs) ⟨putT tm d v, h'⟩) := by
  have e : ∀ c T, okRc c T anc = okR c T anc := fun c T => funext fun r => okR_eq
  simp only [runD, wants, if_true, h0, e, chk, if_neg (show ¬ (2 : Nat) = 0 by decide)]
  rfl
theorem d_move {x : Opd} : runD Γ ih (⟨d, .move x, none, anc⟩ :: os) i recs ⟨tm, h⟩ = bindV (step1 Γ ih tm h none (.move x)) fun v _ => runD Γ ih os (i + 1) (⟨i, 0, []⟩ :: recs) ⟨putT tm d v, h⟩ := runD_none rfl rfl
theorem d_pick {x y z : Opd} : runD Γ ih (⟨d, .pick x y z, none, anc⟩ :: os) i recs ⟨tm, h⟩ = bindV (step1 Γ ih tm h none (.pick x y z)) fun v _ => runD Γ ih os (i + 1) (⟨i, 0, []⟩ :: recs) ⟨putT tm d v, h⟩ := runD_none rfl rfl
theorem d_bin {x y : Opd} {b : BinOp} : runD Γ ih (⟨d, .bin b x y, none, anc⟩ :: os) i recs ⟨tm, h⟩ = bindV (step1 Γ ih tm h none (.bin b x y)) fun v _ => runD Γ ih os (i + 1) (⟨i, 0, []⟩ :: recs) ⟨putT tm d v, h⟩ := runD_none rfl rfl
theorem d_mn {x y : Opd} : runD Γ ih (⟨d, .mn x y, none, anc⟩ :: os) i recs ⟨tm, h⟩ = bindV (step1 Γ ih tm h none (.mn x y)) fun v _ => runD Γ ih os (i + 1) (⟨i, 0, []⟩ :: recs) ⟨putT tm d v, h⟩ := runD_none rfl rfl
theorem d_mx {x y : Opd} : runD Γ ih (⟨d, .mx x y, none, anc⟩ :: os) i recs ⟨tm, h⟩ = bindV (step1 Γ ih tm h none (.mx x y)) fun v _ => runD Γ ih os (i + 1) (⟨i, 0, []⟩ :: recs) ⟨putT tm d v, h⟩ := runD_none rfl rfl
theorem d_iaddr {z : Nat} {arr : Option Nat} {x y : Opd} : runD Γ ih (⟨d, .iaddr z arr x y, none, anc⟩ :: os) i recs ⟨tm, h⟩ = bindV (step1 Γ ih tm h none (.iaddr z arr x y)) fun v _ => runD Γ ih os (i + 1) (⟨i, 0, []⟩ :: recs) ⟨putT tm d v, h⟩ := runD_none rfl rfl
theorem d_faddr {off : Nat} {x : Opd} : runD Γ ih (⟨d, .faddr off x, none, anc⟩ :: os) i recs ⟨tm, h⟩ = bindV (step1 Γ ih tm h none (.faddr off x)) fun v _ => runD Γ ih os (i + 1) (⟨i, 0, []⟩ :: recs) ⟨putT tm d v, h⟩ := runD_none rfl rfl
theorem d_field {off : Nat} {ag : Option Nat} {x : Opd} : runD Γ ih (⟨d, .field off ag x, none, anc⟩ :: os) i recs ⟨tm, h⟩ = bindV (step1 Γ ih tm h none (.field off ag x)) fun v _ => runD Γ ih os (i + 1) (⟨i, 0, []⟩ :: recs) ⟨putT tm d v, h⟩ := runD_none rfl rfl
theorem d_len {x : Opd} : runD Γ ih (⟨d, .len x, none, anc⟩ :: os) i recs ⟨tm, h⟩ = bindV (step1 Γ ih tm h none (.len x)) fun v _ => runD Γ ih os (i + 1) (⟨i, 0, []⟩ :: recs) ⟨putT tm d v, h⟩ := runD_none rfl rfl
theorem d_ext {x : Opd} {n : Nat} : runD Γ ih (⟨d, .ext x n, none, anc⟩ :: os) i recs ⟨tm, h⟩ = bindV (step1 Γ ih tm h none (.ext x n)) fun v _ => runD Γ ih os (i + 1) (⟨i, 0, []⟩ :: recs) ⟨putT tm d v, h⟩ := runD_none rfl rfl
theorem d_load {ag : Option Nat} {x : Opd} : runD Γ ih (⟨d, .load ag x, none, anc⟩ :: os) i recs ⟨tm, h⟩ = ((x.ev Γ tm).map own1).bind fun T => bindV (step1 Γ ih tm h none (.load ag x)) fun v _ => chk (recs.all (okR 0 T anc)) (runD Γ ih os (i + 1) (⟨i, 0, T⟩ :: recs) ⟨putT tm d v, h⟩) := runD_ask rfl
theorem d_store {z : Nat} {x y : Opd} : runD Γ ih (⟨d, .store z x y, none, anc⟩ :: os) i recs ⟨tm, h⟩ = ((x.ev Γ tm).map own1).bind fun T => bindV (step1 Γ ih tm h none (.store z x y)) fun v h' => chk (recs.all (okR 2 (T ++ List.range' h.length (h'.length - h.length)) anc)) (runD Γ ih os (i + 1) (⟨i, 2, T ++ List.range' h.length (h'.length - h.length)⟩ :: recs) ⟨putT tm d v, h'⟩) := runD_write rfl
theorem own1_ptr {b z i o : Nat} : own1 (.ptr b z i o) = [b] := _root_.id rfl
theorem own1_pp {cs : List V} {o : Nat} : own1 (.pp cs o) = [] := _root_.id rfl
def mnV (x y : V) : Option V := match x, y with
  | .int k a, .int _ b => some (.int k (if b < a then b else a))
  | _, _ => none
def mxV (x y : V) : Option V := match x, y with
  | .int k a, .int _ b => some (.int k (if b > a then b else a))
  | _, _ => none
theorem s_mn {x y : Opd} {slot : Option Nat} : step1 Γ ih tm h slot (.mn x y) = (x.ev Γ tm).bind fun x => (y.ev Γ tm).bind fun y => (mnV x y).map (·, h) := by
  rw [step1_noCall rfl]
  simp only [opx]
  cases x.ev Γ tm with
  | none => rfl
  | some x =>
    cases y.ev Γ tm with
    | none => rfl
    | some y => cases x <;> cases y <;> rfl
theorem s_mx {x y : Opd} {slot : Option Nat} : step1 Γ ih tm h slot (.mx x y) = (x.ev Γ tm).bind fun x => (y.ev Γ tm).bind fun y => (mxV x y).map (·, h) := by
  rw [step1_noCall rfl]
  simp only [opx]
  cases x.ev Γ tm with
  | none => rfl
  | some x =>
    cases y.ev Γ tm with
    | none => rfl
    | some y => cases x <;> cases y <;> rfl
theorem mn_int {k l : IntKind} {a b : Int} : mnV (.int k a) (.int l b) = some (.int k (if b < a then b else a)) := _root_.id rfl
theorem mx_int {k l : IntKind} {a b : Int} : mxV (.int k a) (.int l b) = some (.int k (if b > a then b else a)) := _root_.id rfl
end
end
end Am
