/- The same machine, its states written out after each operation: for evaluation by the kernel. -/
import Derived.Test.YtnfcgeplleikdaaDoorAmEnv
namespace Am
noncomputable section
open Go (IntKind BinOp UnOp)

section
variable {α β : Type}
def forceN (n : Nat) (k : Nat → β) : β := match n with
  | 0 => k 0
  | m + 1 => k (Nat.succ m)
def forceI (n : Int) (k : Int → β) : β := match n with
  | .ofNat m => forceN m fun m => k (.ofNat m)
  | .negSucc m => forceN m fun m => k (.negSucc m)
def forceB (b : Bool) (k : Bool → β) : β := match b with
  | true => k true
  | false => k false
def forceL (l : List α) (k : List α → β) : β :=
  List.rec (motive := fun _ => (List α → β) → β) (fun k => k []) (fun x _ ih k => ih fun xs => k (x :: xs)) l k
def forceO (o : Option Nat) (k : Option Nat → β) : β := match o with
  | none => k none
  | some n => forceN n fun n => k (some n)
def force1 (v : V) (k : V → β) : β := match v with
  | .bool b => forceB b fun b => k (.bool b)
  | .int d n => forceI n fun n => k (.int d n)
  | .flt b => forceN b fun b => k (.flt b)
  | .sl b z off len cap => forceN b fun b => forceN off fun off => forceN len fun len => forceO cap fun cap => k (.sl b z off len cap)
  | .ptr b z i o => forceN b fun b => forceN i fun i => forceN o fun o => k (.ptr b z i o)
  | .mp b => forceN b fun b => k (.mp b)
  | .ps z els => forceL els fun els => k (.ps z els)
  | .pp c o => forceN o fun o => k (.pp c o)
  | v => k v
def forceVs (l : List V) (k : List V → β) : β := match l with
  | [] => k []
  | x :: xs => force1 x fun x => forceVs xs fun xs => k (x :: xs)
def forceV (v : V) (k : V → β) : β := match v with
  | .agg cs => forceVs cs fun cs => k (.agg cs)
  | .tup cs => forceVs cs fun cs => k (.tup cs)
  | v => force1 v k
def forceLL (l : List (List α)) (k : List (List α) → β) : β := match l with
  | [] => k []
  | x :: xs => forceL x fun x => forceLL xs fun xs => k (x :: xs)
def forceOb (o : Ob) (k : Ob → β) : β := match o with
  | .row z els => forceLL els fun els => k (.row z els)
  | .map es => forceL es fun es => k (.map es)
  | .gone => k .gone
def forceAt (h : Heap) (b : Nat) (k : Heap → β) : β := match h, b with
  | [], _ => k []
  | o :: h, 0 => forceOb o fun o => k (o :: h)
  | o :: h, b + 1 => forceAt h b fun h => k (o :: h)
def forceHs (h : Heap) (bs : List Nat) (k : Heap → β) : β := match bs with
  | [] => k h
  | b :: bs => forceAt h b fun h => forceHs h bs k
def putS (tm : List V) (d : Nat) (v : V) (k : List V → β) : β :=
  List.rec (motive := fun _ => Nat → (List V → β) → β) (fun _ k => k []) (fun x xs ih n k => Nat.rec (k (v :: xs)) (fun m _ => ih m (fun ys => k (x :: ys))) n) tm d k
def putTS (tm : List V) (d : Option Nat) (v : V) (k : List V → β) : β := match d with
  | none => k tm
  | some d => putS tm d v k

theorem forceN_eq (n : Nat) (k : Nat → β) : forceN n k = k n := by cases n <;> rfl
theorem forceI_eq (n : Int) (k : Int → β) : forceI n k = k n := by cases n <;> simp [forceI, forceN_eq]
theorem forceB_eq (n : Bool) (k : Bool → β) : forceB n k = k n := by cases n <;> rfl
theorem forceL_eq (l : List α) (k : List α → β) : forceL l k = k l := by
  induction l generalizing k with
  | nil => rfl
  | cons x xs ih => exact ih fun xs => k (x :: xs)
theorem forceO_eq (n : Option Nat) (k : Option Nat → β) : forceO n k = k n := by cases n <;> simp [forceO, forceN_eq]
theorem force1_eq (v : V) (k : V → β) : force1 v k = k v := by cases v <;> simp [force1, forceN_eq, forceI_eq, forceB_eq, forceL_eq, forceO_eq]
theorem forceVs_eq (l : List V) (k : List V → β) : forceVs l k = k l := by
  induction l generalizing k with
  | nil => rfl
  | cons x xs ih => rw [forceVs, force1_eq, ih]
theorem forceV_eq (v : V) (k : V → β) : forceV v k = k v := by cases v <;> simp [forceV, force1_eq, forceVs_eq]
theorem forceLL_eq (l : List (List α)) (k : List (List α) → β) : forceLL l k = k l := by
  induction l generalizing k with
  | nil => rfl
  | cons x xs ih => rw [forceLL, forceL_eq, ih]
theorem forceOb_eq (v : Ob) (k : Ob → β) : forceOb v k = k v := by cases v <;> simp [forceOb, forceL_eq, forceLL_eq]
theorem forceAt_eq (h : Heap) (b : Nat) (k : Heap → β) : forceAt h b k = k h := by
  induction h generalizing b k with
  | nil => rfl
  | cons x xs ih => cases b with
    | zero => rw [forceAt, forceOb_eq]
    | succ b => rw [forceAt, ih]
theorem forceHs_eq (h : Heap) (bs : List Nat) (k : Heap → β) : forceHs h bs k = k h := by
  induction bs generalizing h with
  | nil => rfl
  | cons x xs ih => rw [forceHs, forceAt_eq, ih]
theorem putS_eq (tm : List V) (d : Nat) (v : V) (k : List V → β) : putS tm d v k = k (tm.set d v) := by
  induction tm generalizing d k with
  | nil => rfl
  | cons x xs ih => cases d with
    | zero => rfl
    | succ d => exact ih d fun ys => k (x :: ys)
theorem putTS_eq (tm : List V) (d : Option Nat) (v : V) (k : List V → β) : putTS tm d v k = k (putT tm d v) := by cases d <;> simp [putTS, putT, putS_eq]
end

section
def nthS {α : Type} (l : List α) : Nat → Option α := List.rec (fun _ => none) (fun x _ ih n => Nat.rec (some x) (fun m _ => ih m) n) l
theorem nthS_eq {α : Type} : ∀ (l : List α) (n : Nat), nthS l n = l[n]?
  | [], n => by simp [nthS]
  | x :: l, 0 => rfl
  | x :: l, n + 1 => by rw [List.getElem?_cons_succ, ← nthS_eq l n]; rfl
def rowAtS (h : Heap) (b z : Nat) : Option (List (List V)) :=
  match nthS h b with
  | some (.row z' els) => bif Nat.beq z' z then some els else none
  | _ => none
theorem rowAtS_eq (h : Heap) (b z : Nat) : rowAtS h b z = rowAt h b z := by
  unfold rowAtS rowAt
  rw [nthS_eq]
  cases h[b]? with
  | none => rfl
  | some o =>
    cases o with
    | row z' els =>
      dsimp only
      by_cases e : z' = z
      · rw [if_pos e, e, Nat.beq_refl]; rfl
      · rw [if_neg e]
        have : Nat.beq z' z = false := by
          cases e2 : Nat.beq z' z with
          | false => rfl
          | true => exact absurd (Nat.eq_of_beq_eq_true e2) e
        rw [this]; rfl
    | _ => all_goals rfl
def loadVS (h : Heap) (ag : Option Nat) : V → Option V
  | .ptr b z i o => (rowAtS h b z).bind fun els => (nthS els i).bind fun e => getC ag e o
  | .pp cs o => getC ag cs o
  | _ => none
theorem loadVS_eq (h : Heap) (ag : Option Nat) (v : V) : loadVS h ag v = loadV h ag v := by cases v <;> simp only [loadVS, loadV, rowAtS_eq, nthS_eq]
def storeVS (h : Heap) (z : Nat) (a x : V) : Option Heap :=
  match a with
  | .ptr b z' i o => (rowAtS h b z').bind fun els => (nthS els i).bind fun e =>
    if x.cells.length = z ∧ x.cells.all V.one = true ∧ o + z ≤ e.length then some (h.set b (.row z' (els.set i (setC e o x.cells)))) else none
  | _ => none
theorem storeVS_eq (h : Heap) (z : Nat) (a x : V) : storeVS h z a x = storeV h z a x := by cases a <;> simp only [storeVS, storeV, rowAtS_eq, nthS_eq]
def binShl (k : IntKind) (a b : Int) : Option V := if b < 0 then none else some (.int k (k.wrap (a * 2 ^ (min b.toNat k.bits))))
def binShr (k : IntKind) (a b : Int) : Option V := if b < 0 then none else some (.int k (a.fdiv (2 ^ (min b.toNat k.bits))))
def binII (o : BinOp) (k : IntKind) (a : Int) (k' : IntKind) (b : Int) : Option V := match o with
  | .shl => binShl k a b
  | .shr => binShr k a b
  | o => if k = k' then binI o k a b else none
def binI2 (o : BinOp) (k : IntKind) (a : Int) (y : V) : Option V := match y with
  | .int k' b => binII o k a k' b
  | _ => none
def binS2 (o : BinOp) (a : ByteArray) (y : V) : Option V := match y with
  | .str b => binS o a b
  | _ => none
def binF2 (o : BinOp) (a : Nat) (y : V) : Option V := match y with
  | .flt b => binF o a b
  | _ => none
def binQ (o : BinOp) (x y : V) : Option V := match x with
  | .int k a => binI2 o k a y
  | .str a => binS2 o a y
  | .flt a => binF2 o a y
  | _ => none
theorem binQ_eq (o : BinOp) (x y : V) : binQ o x y = bin o x y := by
  cases x <;> cases y <;> first | rfl | (cases o <;> rfl)
variable (Γ : Env)
def evS (tm : List V) : Opd → Option V
  | .t n => nthS tm n
  | .c v => some v
  | .g n => (Γ.glob n).map (.pp · 0)
theorem evS_eq (tm : List V) (x : Opd) : evS Γ tm x = x.ev Γ tm := by cases x <;> simp [evS, Opd.ev, nthS_eq]
def evsS (tm : List V) (l : List Opd) : Option (List V) := List.rec (some []) (fun x _ r => (evS Γ tm x).bind fun v => r.bind fun vs => some (v :: vs)) l
theorem evsS_eq (tm : List V) : ∀ l, evsS Γ tm l = evs Γ tm l
  | [] => rfl
  | x :: l => by rw [evs, ← evsS_eq tm l, ← evS_eq]; rfl
def evpS (tm : List V) (l : List (Nat × Nat × Opd)) : Option (List (Nat × Nat × V)) := List.rec (some []) (fun x _ r => (evS Γ tm x.2.2).bind fun v => r.bind fun vs => some ((x.1, x.2.1, v) :: vs)) l
theorem evpS_eq (tm : List V) : ∀ l, evpS Γ tm l = evp Γ tm l
  | [] => rfl
  | (a, b, x) :: l => by rw [evp, ← evpS_eq tm l, ← evS_eq]; rfl
def evqS (tm : List V) (l : List (Nat × Opd)) : Option (List (Nat × V)) := List.rec (some []) (fun x _ r => (evS Γ tm x.2).bind fun v => r.bind fun vs => some ((x.1, v) :: vs)) l
theorem evqS_eq (tm : List V) : ∀ l, evqS Γ tm l = evq Γ tm l
  | [] => rfl
  | (a, x) :: l => by rw [evq, ← evqS_eq tm l, ← evS_eq]; rfl
def oNatS : Option Opd → List V → Option (Option Nat)
  | none, _ => some none
  | some x, tm => (evS Γ tm x).bind fun v => (natOf v).map some
theorem oNatS_eq (x : Option Opd) (tm : List V) : oNatS Γ x tm = oNat Γ x tm := by cases x <;> simp [oNatS, oNat, evS_eq]
def wantsS (tm : List V) (g : Option (Nat × Bool)) : Bool :=
  match g with
  | none => true
  | some p => match nthS tm p.1 with
    | some (.bool c) => c == p.2
    | _ => false
theorem wantsS_eq (tm : List V) (g : Option (Nat × Bool)) : wantsS tm g = wants tm g := by
  cases g with
  | none => rfl
  | some p => simp only [wantsS, wants, nthS_eq]; rfl
def x_move (tm : List V) (h : Heap) (slot : Option Nat) (x : Opd) : Option (V × Heap) :=
  (evS Γ tm x).map (·, h)
def x_pick (tm : List V) (h : Heap) (slot : Option Nat) (c : Opd) (a : Opd) (b : Opd) : Option (V × Heap) :=
  (evS Γ tm c).bind fun c => match c with
    | .bool true => (evS Γ tm a).map (·, h)
    | .bool false => (evS Γ tm b).map (·, h)
    | _ => none
def x_new (tm : List V) (h : Heap) (slot : Option Nat) (zero : List V) : Option (V × Heap) :=
  (put h slot (.row zero.length [zero])).map fun (b, h) => (.ptr b zero.length 0 0, h)
def x_box (tm : List V) (h : Heap) (slot : Option Nat) (z : Nat) (x : Opd) : Option (V × Heap) :=
  (evS Γ tm x).bind fun v => if v.cells.length = z ∧ v.cells.all V.one = true then (put h slot (.row z [v.cells])).map fun (b, h) => (.ptr b z 0 0, h) else none
def x_build (tm : List V) (h : Heap) (slot : Option Nat) (zero : List V) (parts : List (Nat × Nat × Opd)) : Option (V × Heap) :=
  (evpS Γ tm parts).bind fun ps => (buildC zero ps).map fun cs => (.agg cs, h)
def x_lit (tm : List V) (h : Heap) (slot : Option Nat) (z : Nat) (zero : List V) (n : Nat) (parts : List (Nat × Opd)) : Option (V × Heap) :=
  (evqS Γ tm parts).bind fun ps => (litC z (List.replicate n zero) ps).bind fun els =>
      if els.all (fun e => e.length == z && e.all V.one) = true then (put h slot (.row z els)).map fun (b, h) => (.sl b z 0 n (some n), h) else none
def x_load (tm : List V) (h : Heap) (slot : Option Nat) (ag : Option Nat) (a : Opd) : Option (V × Heap) :=
  (evS Γ tm a).bind fun a => (loadVS h ag a).map (·, h)
def x_store (tm : List V) (h : Heap) (slot : Option Nat) (z : Nat) (a : Opd) (x : Opd) : Option (V × Heap) :=
  (evS Γ tm a).bind fun a => (evS Γ tm x).bind fun x => (storeVS h z a x).map (undef, ·)
def x_nilc (tm : List V) (h : Heap) (slot : Option Nat) (x : Opd) : Option (V × Heap) :=
  (evS Γ tm x).bind fun v => match v with
    | .ptr .. => some (v, h)
    | .pp .. => some (v, h)
    | .fn .. => some (v, h)
    | _ => none
def x_bin (tm : List V) (h : Heap) (slot : Option Nat) (o : BinOp) (x : Opd) (y : Opd) : Option (V × Heap) :=
  (evS Γ tm x).bind fun x => (evS Γ tm y).bind fun y => (binQ o x y).map (·, h)
def x_eqa (tm : List V) (h : Heap) (slot : Option Nat) (K : KS) (neg : Bool) (x : Opd) (y : Opd) : Option (V × Heap) :=
  (evS Γ tm x).bind fun x => (evS Γ tm y).bind fun y => match x, y with
    | .agg a, .agg b => if keyOK K (.agg a) = true then (eqL a b).map fun r => (.bool (if neg then !r else r), h) else none
    | _, _ => none
def x_eqb (tm : List V) (h : Heap) (slot : Option Nat) (neg : Bool) (x : Opd) (y : Opd) : Option (V × Heap) :=
  (evS Γ tm x).bind fun x => (evS Γ tm y).bind fun y => match x, y with
    | .bool a, .bool b => some (.bool (if neg then !(a == b) else a == b), h)
    | _, _ => none
def x_un (tm : List V) (h : Heap) (slot : Option Nat) (o : UnOp) (x : Opd) : Option (V × Heap) :=
  (evS Γ tm x).bind fun x => (un o x).map (·, h)
def x_conv (tm : List V) (h : Heap) (slot : Option Nat) (c : Cv) (x : Opd) : Option (V × Heap) :=
  (evS Γ tm x).bind fun x => (cv h c x).map (·, h)
def x_mkf (tm : List V) (h : Heap) (slot : Option Nat) (f : Nat) (a : List Opd) (b : List Opd) : Option (V × Heap) :=
  (evsS Γ tm a).bind fun a => (evsS Γ tm b).map fun b => (.fn f a b, h)
def x_mkm (tm : List V) (h : Heap) (slot : Option Nat)  : Option (V × Heap) :=
  (put h slot (.map [])).map fun (b, h) => (.mp b, h)
def x_mks (tm : List V) (h : Heap) (slot : Option Nat) (z : Nat) (bytes : Nat) (zero : List V) (l : Opd) (c : Opd) : Option (V × Heap) :=
  (evS Γ tm l).bind fun l => (evS Γ tm c).bind fun c => (natOf l).bind fun l => (natOf c).bind fun c =>
      if l ≤ c ∧ c * bytes ≤ 2 * room ∧ c < 2 ^ 62 ∧ zero.length = z then (put h slot (.row z (List.replicate c zero))).map fun (b, h) => (.sl b z 0 l (some c), h) else none
def x_slice (tm : List V) (h : Heap) (slot : Option Nat) (z : Nat) (x : Opd) (lo : Option Opd) (hi : Option Opd) : Option (V × Heap) :=
  (evS Γ tm x).bind fun x => (oNatS Γ lo tm).bind fun lo => (oNatS Γ hi tm).bind fun hi => (sliceV z x lo hi).map (·, h)
def x_faddr (tm : List V) (h : Heap) (slot : Option Nat) (off : Nat) (x : Opd) : Option (V × Heap) :=
  (evS Γ tm x).bind fun x => match x with
    | .ptr b z i o => some (.ptr b z i (o + off), h)
    | .pp cs o => some (.pp cs (o + off), h)
    | _ => none
def x_field (tm : List V) (h : Heap) (slot : Option Nat) (off : Nat) (ag : Option Nat) (x : Opd) : Option (V × Heap) :=
  (evS Γ tm x).bind fun x => match x with
    | .agg cs => (getC ag cs off).map (·, h)
    | _ => none
def x_iaddr (tm : List V) (h : Heap) (slot : Option Nat) (z : Nat) (arr : Option Nat) (x : Opd) (i : Opd) : Option (V × Heap) :=
  (evS Γ tm x).bind fun x => (evS Γ tm i).bind fun i => (natOf i).bind fun i => (iaddrV z arr x i).map (·, h)
def x_index (tm : List V) (h : Heap) (slot : Option Nat) (z : Nat) (n : Nat) (ag : Option Nat) (x : Opd) (i : Opd) : Option (V × Heap) :=
  (evS Γ tm x).bind fun x => (evS Γ tm i).bind fun i => (natOf i).bind fun i => match x with
    | .agg cs => if i < n then (getC ag cs (i * z)).map (·, h) else none
    | _ => none
def x_sidx (tm : List V) (h : Heap) (slot : Option Nat) (x : Opd) (i : Opd) : Option (V × Heap) :=
  (evS Γ tm x).bind fun x => (evS Γ tm i).bind fun i => (natOf i).bind fun i => match x with
    | .str s => (s[i]?).map fun b => (.int .u8 b.toNat, h)
    | _ => none
def x_look (tm : List V) (h : Heap) (slot : Option Nat) (K : KS) (zero : V) (ok : Bool) (m : Opd) (k : Opd) : Option (V × Heap) :=
  (evS Γ tm m).bind fun m => (evS Γ tm k).bind fun k => if keyOK K k = true then (lookV h zero ok m k).map (·, h) else none
def x_mupd (tm : List V) (h : Heap) (slot : Option Nat) (K : KS) (m : Opd) (k : Opd) (v : Opd) : Option (V × Heap) :=
  (evS Γ tm m).bind fun m => (evS Γ tm k).bind fun k => (evS Γ tm v).bind fun v => if keyOK K k = true then (mupdV h m k v).map (undef, ·) else none
def x_mdel (tm : List V) (h : Heap) (slot : Option Nat) (K : KS) (m : Opd) (k : Opd) : Option (V × Heap) :=
  (evS Γ tm m).bind fun m => (evS Γ tm k).bind fun k => if keyOK K k = true then (mdelV h m k).map (undef, ·) else none
def x_len (tm : List V) (h : Heap) (slot : Option Nat) (x : Opd) : Option (V × Heap) :=
  (evS Γ tm x).bind fun x => lenV h x
def x_slen (tm : List V) (h : Heap) (slot : Option Nat) (x : Opd) : Option (V × Heap) :=
  (evS Γ tm x).bind fun x => match x with
    | .str s => some (.int .i64 s.size, h)
    | _ => none
def x_lenm (tm : List V) (h : Heap) (slot : Option Nat) (m : Opd) : Option (V × Heap) :=
  (evS Γ tm m).bind fun m => match m with
    | .nilm => some (.int .i64 0, h)
    | .mp b => match h[b]? with
      | some (.map es) => some (.int .i64 es.length, h)
      | _ => none
    | _ => none
def x_app (tm : List V) (h : Heap) (slot : Option Nat) (z : Nat) (bytes : Nat) (s : Opd) (x : Opd) : Option (V × Heap) :=
  (evS Γ tm s).bind fun s => (evS Γ tm x).bind fun x => appV h z bytes s x
def x_cpy (tm : List V) (h : Heap) (slot : Option Nat) (z : Nat) (d : Opd) (s : Opd) : Option (V × Heap) :=
  (evS Γ tm d).bind fun d => (evS Γ tm s).bind fun s => (elsOf h s).bind fun src =>
      if src.all (fun e => e.length == z && e.all V.one) = true then
      match d with
      | .nils => some (.int .i64 0, h)
      | .sl b z' off len _ => (rowAt h b z').bind fun els =>
          if z' = z ∧ off + len ≤ els.length then some (.int .i64 (min src.length len : Nat), h.set b (.row z' (over els off (src.take (min src.length len))))) else none
      | _ => none
      else none
def x_clr (tm : List V) (h : Heap) (slot : Option Nat) (zero : List V) (x : Opd) : Option (V × Heap) :=
  (evS Γ tm x).bind fun x => match x with
    | .nils => some (undef, h)
    | .ps _ els => if els.length = 0 then some (undef, h) else none
    | .sl b z off len _ => if len = 0 then some (undef, h) else (rowAt h b z).bind fun els =>
        if zero.length = z ∧ zero.all V.one = true ∧ off + len ≤ els.length then some (undef, h.set b (.row z (over els off (List.replicate len zero)))) else none
    | _ => none
def x_clrm (tm : List V) (h : Heap) (slot : Option Nat) (x : Opd) : Option (V × Heap) :=
  (evS Γ tm x).bind fun x => match x with
    | .nilm => some (undef, h)
    | .mp b => match h[b]? with
      | some (.map _) => some (undef, h.set b (.map []))
      | _ => none
    | _ => none
def x_mx (tm : List V) (h : Heap) (slot : Option Nat) (x : Opd) (y : Opd) : Option (V × Heap) :=
  (evS Γ tm x).bind fun x => (evS Γ tm y).bind fun y => match x, y with
    | .int k a, .int _ b => some (.int k (if b > a then b else a), h)
    | _, _ => none
def x_mn (tm : List V) (h : Heap) (slot : Option Nat) (x : Opd) (y : Opd) : Option (V × Heap) :=
  (evS Γ tm x).bind fun x => (evS Γ tm y).bind fun y => match x, y with
    | .int k a, .int _ b => some (.int k (if b < a then b else a), h)
    | _, _ => none
def x_ext (tm : List V) (h : Heap) (slot : Option Nat) (x : Opd) (i : Nat) : Option (V × Heap) :=
  (evS Γ tm x).bind fun x => match x with
    | .tup vs => (vs[i]?).map (·, h)
    | _ => none
def opxS (tm : List V) (h : Heap) (slot : Option Nat) (o : Op) : Option (V × Heap) :=
  match o with
  | .move x => x_move Γ tm h slot x
  | .pick c a b => x_pick Γ tm h slot c a b
  | .new zero => x_new tm h slot zero
  | .box z x => x_box Γ tm h slot z x
  | .build zero parts => x_build Γ tm h slot zero parts
  | .lit z zero n parts => x_lit Γ tm h slot z zero n parts
  | .load ag a => x_load Γ tm h slot ag a
  | .store z a x => x_store Γ tm h slot z a x
  | .nilc x => x_nilc Γ tm h slot x
  | .bin o x y => x_bin Γ tm h slot o x y
  | .eqa K neg x y => x_eqa Γ tm h slot K neg x y
  | .eqb neg x y => x_eqb Γ tm h slot neg x y
  | .un o x => x_un Γ tm h slot o x
  | .conv c x => x_conv Γ tm h slot c x
  | .mkf f a b => x_mkf Γ tm h slot f a b
  | .mkm  => x_mkm tm h slot 
  | .mks z bytes zero l c => x_mks Γ tm h slot z bytes zero l c
  | .slice z x lo hi => x_slice Γ tm h slot z x lo hi
  | .faddr off x => x_faddr Γ tm h slot off x
  | .field off ag x => x_field Γ tm h slot off ag x
  | .iaddr z arr x i => x_iaddr Γ tm h slot z arr x i
  | .index z n ag x i => x_index Γ tm h slot z n ag x i
  | .sidx x i => x_sidx Γ tm h slot x i
  | .look K zero ok m k => x_look Γ tm h slot K zero ok m k
  | .mupd K m k v => x_mupd Γ tm h slot K m k v
  | .mdel K m k => x_mdel Γ tm h slot K m k
  | .len x => x_len Γ tm h slot x
  | .slen x => x_slen Γ tm h slot x
  | .lenm m => x_lenm Γ tm h slot m
  | .app z bytes s x => x_app Γ tm h slot z bytes s x
  | .cpy z d s => x_cpy Γ tm h slot z d s
  | .clr zero x => x_clr Γ tm h slot zero x
  | .clrm x => x_clrm Γ tm h slot x
  | .mx x y => x_mx Γ tm h slot x y
  | .mn x y => x_mn Γ tm h slot x y
  | .ext x i => x_ext Γ tm h slot x i
  | .call .. => none
  | .callv .. => none

theorem opxS_eq (tm : List V) (h : Heap) (slot : Option Nat) (o : Op) : opxS Γ tm h slot o = opx Γ tm h slot o := by
  cases o <;> first | rfl | (simp only [opxS, opx, x_move, x_pick, x_new, x_box, x_build, x_lit, x_load, x_store, x_nilc, x_bin, x_eqa, x_eqb, x_un, x_conv, x_mkf, x_mkm, x_mks, x_slice, x_faddr, x_field, x_iaddr, x_index, x_sidx, x_look, x_mupd, x_mdel, x_len, x_slen, x_lenm, x_app, x_cpy, x_clr, x_clrm, x_mx, x_mn, x_ext, evS_eq, evsS_eq, evpS_eq, evqS_eq, oNatS_eq, loadVS_eq, storeVS_eq, binQ_eq]; done) | (simp only [opxS, opx, x_move, x_pick, x_new, x_box, x_build, x_lit, x_load, x_store, x_nilc, x_bin, x_eqa, x_eqb, x_un, x_conv, x_mkf, x_mkm, x_mks, x_slice, x_faddr, x_field, x_iaddr, x_index, x_sidx, x_look, x_mupd, x_mdel, x_len, x_slen, x_lenm, x_app, x_cpy, x_clr, x_clrm, x_mx, x_mn, x_ext, evS_eq, evsS_eq, evpS_eq, evqS_eq, oNatS_eq, loadVS_eq, storeVS_eq, binQ_eq]; rfl)

def endS (res : List Res) (s : St) : Option (V × Heap) := (mapO (resOf s) res).map fun vs => (oneOf vs, s.h)
def leftS (res : List Res) (r : Option (Ex × St)) : Option (V × Heap) := match r with
  | none => none
  | some r => match r.1 with
    | .normal => endS res r.2
    | .ret => endS res r.2
    | _ => none
def enterS (ih : Runs) (nt : Nat) (res : List Res) (body : Cd) (args : List V) (h : Heap) : Option (V × Heap) :=
  forceL (args ++ List.replicate (nt - args.length) undef) fun tm => leftS res (ih body ⟨tm, h⟩)
def bodyS (ih : Runs) (F : Fn) (args : List V) (h : Heap) : Option (V × Heap) := match F with
  | .code nt res body => enterS ih nt res body args h
  | .ext k => (extV k args).map (·, h)
def eqVl (f : V → V → Bool) (xs ys : List V) : Bool := List.rec (motive := fun _ => List V → Bool) (fun ys => match ys with | [] => true | _ :: _ => false) (fun x _ ih ys => match ys with | [] => false | y :: ys => f x y && ih ys) xs ys
def eqVll (f : V → V → Bool) (xs ys : List (List V)) : Bool := List.rec (motive := fun _ => List (List V) → Bool) (fun ys => match ys with | [] => true | _ :: _ => false) (fun x _ ih ys => match ys with | [] => false | y :: ys => eqVl f x y && ih ys) xs ys
def eqBy (xs ys : List UInt8) : Bool := List.rec (motive := fun _ => List UInt8 → Bool) (fun ys => match ys with | [] => true | _ :: _ => false) (fun x _ ih ys => match ys with | [] => false | y :: ys => Nat.beq x.toNat y.toNat && ih ys) xs ys
def eqI (a b : Int) : Bool := match a, b with
  | .ofNat a, .ofNat b => Nat.beq a b
  | .negSucc a, .negSucc b => Nat.beq a b
  | _, _ => false
def eqInt (k : IntKind) (x : Int) (b : V) : Bool := match b with
  | .int k' y => decide (k = k') && eqI x y
  | _ => false
def eqBool (x : Bool) (b : V) : Bool := match b with
  | .bool y => x == y
  | _ => false
def eqFlt (x : Nat) (b : V) : Bool := match b with
  | .flt y => Nat.beq x y
  | _ => false
def eqStr (x : ByteArray) (b : V) : Bool := match b with
  | .str y => eqBy x.data.toList y.data.toList
  | _ => false
def eqPs (f : V → V → Bool) (z : Nat) (x : List (List V)) (b : V) : Bool := match b with
  | .ps z' y => Nat.beq z z' && eqVll f x y
  | _ => false
def eqAgg (f : V → V → Bool) (x : List V) (b : V) : Bool := match b with
  | .agg y => eqVl f x y
  | _ => false
def eqTup (f : V → V → Bool) (x : List V) (b : V) : Bool := match b with
  | .tup y => eqVl f x y
  | _ => false
def eqPp (f : V → V → Bool) (x : List V) (o : Nat) (b : V) : Bool := match b with
  | .pp y o' => eqVl f x y && Nat.beq o o'
  | _ => false
def isNils (b : V) : Bool := match b with
  | .nils => true
  | _ => false
def isNilp (b : V) : Bool := match b with
  | .nilp => true
  | _ => false
def eqV1 (f : V → V → Bool) (a b : V) : Bool := match a with
  | .int k x => eqInt k x b
  | .bool x => eqBool x b
  | .flt x => eqFlt x b
  | .str x => eqStr x b
  | .ps z x => eqPs f z x b
  | .agg x => eqAgg f x b
  | .tup x => eqTup f x b
  | .pp x o => eqPp f x o b
  | .nils => isNils b
  | .nilp => isNilp b
  | _ => false
/-- Alike, as far as a memo's arguments go. -/
def eqV (n : Nat) : V → V → Bool := Nat.rec (fun _ _ => false) (fun _ ih => eqV1 ih) n
/-- What calls are known to answer. -/
abbrev Memo := Nat → List (List V × V)
def lookM (a : List V) : List (List V × V) → Option V
  | [] => none
  | e :: es => match eqVl (eqV deep) a e.1 with
    | true => some e.2
    | false => lookM a es
variable (M : Memo)

def callRawS (ih : Runs) (f : Nat) (args : List V) (h : Heap) : Option (V × Heap) :=
  match Γ.fn f with
  | some F => bodyS ih F args h
  | none => none

def cleanS (ih : Runs) (f : Nat) (a : List V) (h : Heap) : Option (V × Heap) := (callRawS Γ ih f a []).bind fun r => (snap r.2 deep r.1).map (·, h)
def dirtyS (ih : Runs) (f : Nat) (args : List V) (h : Heap) : Option (V × Heap) :=
  (mapO (snap h deep) args).bind fun a => (callRawS Γ ih f a []).bind fun r => (read r.2 deep r.1).map (·, h)
def knownS (ih : Runs) (f : Nat) (a : List V) (h : Heap) (r : Option V) : Option (V × Heap) := match r with
  | some v => some (v, h)
  | none => cleanS Γ ih f a h
def freshS (ih : Runs) (f : Nat) (args : List V) (h : Heap) : Option (V × Heap) := match mapO (snap [] deep) args with
    | some a => knownS Γ ih f a h (lookM a (M f))
    | none => dirtyS Γ ih f args h
def ownS (ih : Runs) (f : Nat) (args : List V) (h : Heap) : Option (V × Heap) :=
  (mapO (snap h deep) args).bind fun a => (callRawS Γ ih f a []).bind fun r => (imp h.length deep r.1).map fun v => (v, h ++ r.2.map (impOb h.length))
def callFS (ih : Runs) (f : Nat) (args : List V) (h : Heap) : Option (V × Heap) :=
  match Γ.mode f with
  | .heap => callRawS Γ ih f args h
  | .fresh => freshS Γ M ih f args h
  | .own => ownS Γ ih f args h

def callOpS (ih : Runs) (tm : List V) (h : Heap) (f : Nat) (args : List Opd) : Option (V × Heap) := (evsS Γ tm args).bind fun a => callFS Γ M ih f a h
def callvS (ih : Runs) (tm : List V) (h : Heap) (x : Opd) (args : List Opd) : Option (V × Heap) := (evS Γ tm x).bind fun x => match x with
    | .fn f first cap => (evsS Γ tm args).bind fun a => callFS Γ M ih f (first ++ a ++ cap) h
    | _ => none
/-- 0: reads at most; 1: makes one block; 2: writes; 3: a call in the caller's memory. The call itself, or the operation. -/
def Op.kind (o : Op) : Nat := match o with
  | .call f _ => match Γ.mode f with
    | .heap => 3
    | .fresh => 0
    | .own => 3
  | .callv .. => 3
  | .new _ => 1 | .box .. => 1 | .lit .. => 1 | .mkm => 1 | .mks .. => 1
  | .store .. => 2 | .app .. => 2 | .cpy .. => 2 | .clr .. => 2 | .clrm .. => 2 | .mupd .. => 2 | .mdel .. => 2
  | _ => 0
def step1S (ih : Runs) (tm : List V) (h : Heap) (slot : Option Nat) (o : Op) : Option (V × Heap) :=
  match o with
  | .call f args => callOpS Γ M ih tm h f args
  | .callv x args => callvS Γ M ih tm h x args
  | o => opxS Γ tm h slot o

/-- Blocks whose contents an operation may leave unwritten. -/
def fresh1 (h : Heap) (h' : Heap) (T : Option (List Nat)) : List Nat := (T.getD []) ++ (bif Nat.blt h.length h'.length then [h'.length - 1] else [])

def stepO3 (rest : St → Option St) (o : Oper) (s : St) (v : V) (h : Heap) (k : Nat) : Option St := match k with
  | 1 => forceHs h (fresh1 s.h h none) fun h => putTS s.tm o.dst v fun tm => rest ⟨tm, h⟩
  | 2 => forceHs h (fresh1 s.h h (foot Γ s.tm s.h none o.op)) fun h => putTS s.tm o.dst v fun tm => rest ⟨tm, h⟩
  | _ => putTS s.tm o.dst v fun tm => rest ⟨tm, h⟩
def stepO2 (rest : St → Option St) (o : Oper) (s : St) (r : Option (V × Heap)) : Option St := match r with
  | none => none
  | some r => forceV r.1 fun v => stepO3 Γ rest o s v r.2 (o.op.kind Γ)
def stepO (ih : Runs) (rest : St → Option St) (o : Oper) (s : St) : Option St := match wantsS s.tm o.guard with
  | true => stepO2 Γ rest o s (step1S Γ M ih s.tm s.h none o.op)
  | false => putTS s.tm o.dst undef fun tm => rest ⟨tm, s.h⟩
def runOpsS (ih : Runs) (l : List Oper) : St → Option St := List.rec (fun s => some s) (fun o _ rest s => stepO Γ M ih rest o s) l

/-- What an earlier operation of the region asked or wrote. -/
structure Rc where
  idx : Nat
  c : Nat
  T : List Nat

def okRc (c : Nat) (T anc : List Nat) (r : Rc) : Bool :=
  (!(Nat.beq r.c 2 && Nat.beq c 2) && ((Nat.beq r.c 0 && Nat.beq c 0) || r.T.all fun x => !(T.any (Nat.beq x)))) || anc.any (Nat.beq r.idx)

abbrev Rest := Nat → Nat → List Rc → St → Option St
def stepT0 (rest : Rest) (o : Oper) (i slot : Nat) (recs : List Rc) (s : St) (T : List Nat) (v : V) : Option St :=
  forceV v fun v => putTS s.tm o.dst v fun tm => match T with
    | [] => rest (Nat.succ i) slot recs ⟨tm, s.h⟩
    | T => match recs.all (okRc 0 T o.anc) with
      | true => rest (Nat.succ i) slot (⟨i, 0, T⟩ :: recs) ⟨tm, s.h⟩
      | false => none
def stepTq (ih : Runs) (rest : Rest) (o : Oper) (i slot : Nat) (recs : List Rc) (s : St) : Option St :=
  match foot Γ s.tm s.h none o.op with
  | none => none
  | some T => match step1S Γ M ih s.tm (restrQ T s.h) none o.op with
    | none => none
    | some r => stepT0 rest o i slot recs s T r.1
def stepTa (rest : Rest) (o : Oper) (i slot : Nat) (recs : List Rc) (s : St) : Option St :=
  match opxS Γ s.tm s.h (some slot) o.op with
  | none => none
  | some r => match recs.all (okRc 1 [slot] o.anc) with
    | true => forceV r.1 fun v => forceAt r.2 slot fun h => putTS s.tm o.dst v fun tm => rest (Nat.succ i) (Nat.succ slot) (⟨i, 1, [slot]⟩ :: recs) ⟨tm, h⟩
    | false => none
def stepT2 (rest : Rest) (o : Oper) (i slot : Nat) (recs : List Rc) (s : St) (T T' : List Nat) (v : V) (h : Heap) : Option St :=
  match recs.all (okRc 2 T' o.anc) with
  | true => forceV v fun v => forceHs (merge T 0 s.h h) T' fun h => putTS s.tm o.dst v fun tm => rest (Nat.succ i) slot (⟨i, 2, T'⟩ :: recs) ⟨tm, h⟩
  | false => none
def stepTe (ih : Runs) (rest : Rest) (o : Oper) (i slot : Nat) (recs : List Rc) (s : St) : Option St :=
  match foot Γ s.tm s.h none o.op with
  | none => none
  | some T => forceL (T.filter fun b => liveB s.h[b]?) fun T => match step1S Γ M ih s.tm (restr T 0 s.h) none o.op with
    | none => none
    | some r => match Nat.ble s.h.length r.2.length with
      | true => forceL (T ++ List.range' s.h.length (r.2.length - s.h.length)) fun T' => stepT2 rest o i slot recs s T T' r.1 r.2
      | false => none
def stepT (ih : Runs) (rest : Rest) (o : Oper) (i slot : Nat) (recs : List Rc) (s : St) : Option St :=
  match wantsS s.tm o.guard with
  | true => match o.op.kind Γ with
    | 0 => stepTq Γ M ih rest o i slot recs s
    | 1 => stepTa Γ rest o i slot recs s
    | _ => stepTe Γ M ih rest o i slot recs s
  | false => putTS s.tm o.dst undef fun tm => rest (Nat.succ i) (match o.op.kind Γ with | 1 => Nat.succ slot | _ => slot) recs ⟨tm, s.h⟩
def traceS (ih : Runs) (l : List Oper) : Rest := List.rec (fun _ _ _ s => some s) (fun o _ rest i slot recs s => stepT Γ M ih rest o i slot recs s) l

def slotsS (l : List Oper) : Nat := List.rec 0 (fun o _ n => match o.op.kind Γ with | 1 => Nat.succ n | _ => n) l
def runRegionS (ih : Runs) (draw : Bool) (ops : List Oper) (s : St) : Option St :=
  match draw with
  | true => forceL (s.h ++ List.replicate (slotsS Γ ops) .gone) fun h => forceN s.h.length fun n => traceS Γ M ih ops 0 n [] ⟨s.tm, h⟩
  | false => runOpsS Γ M ih ops s

def seqS (ih : Runs) (b : Cd) (r : Option (Ex × St)) : Option (Ex × St) := match r with
  | none => none
  | some r => match r.1 with
    | .normal => ih b r.2
    | e => some (e, r.2)
def condS (ih : Runs) (x y : Cd) (s : St) (v : Option V) : Option (Ex × St) := match v with
  | some (.bool b) => match b with
    | true => ih x s
    | false => ih y s
  | _ => none
def blockS (id : Nat) (r : Option (Ex × St)) : Option (Ex × St) := match r with
  | none => none
  | some r => match r.1 with
    | .exit i => match Nat.beq i id with
      | true => some (.normal, r.2)
      | false => some (.exit i, r.2)
    | e => some (e, r.2)
def scopeS (ih : Runs) (b : Cd) (r : Option (Ex × St)) : Option (Ex × St) := match r with
  | none => none
  | some r => match r.1 with
    | .goto l => match findL b l with
      | some rest => ih (.scope b rest) r.2
      | none => some (.goto l, r.2)
    | e => some (e, r.2)
def regS (r : Option St) : Option (Ex × St) := match r with
  | some s => some (.normal, s)
  | none => none
def stepCS (ih : Runs) (c : Cd) (s : St) : Option (Ex × St) :=
  match c with
  | .skip => some (.normal, s)
  | .label _ => some (.normal, s)
  | .region draw ops => regS (runRegionS Γ M ih draw ops s)
  | .seq a b => seqS ih b (ih a s)
  | .cond c x y => condS ih x y s (evS Γ s.tm c)
  | .block id b => blockS id (ih b s)
  | .loop b => seqS ih (.loop b) (ih b s)
  | .exit id => some (.exit id, s)
  | .goto l => some (.goto l, s)
  | .ret => some (.ret, s)
  | .scope b cur => scopeS ih b (ih cur s)

def runS (n : Nat) : Runs := Nat.rec (fun _ _ => none) (fun _ ih => stepCS Γ M ih) n
end
end
end Am
