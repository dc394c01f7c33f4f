/- A small deterministic machine over abstract values: pure slices are lists of elements (each a list of cells), own blocks have numbers, no tape and no capacities that hang on one. -/
import Derived.Laws.Sem
import Derived.Calls
import Derived.Orders
import Derived.ScopeJumps
namespace Am
open Go (IntKind BinOp UnOp)

/-- Abstract values. 'ps': a slice of which nothing can be written any more; 'sl': a slice of an own block; 'pp': a pointer to cells that are not written any more; 'ptr': into an own block (element i, cell o). -/
inductive V where
  | bool (b : Bool)
  | int (k : IntKind) (n : Int)
  | str (s : ByteArray)
  | flt (b : Nat)
  | nils
  | ps (z : Nat) (els : List (List V))
  | sl (b z off len : Nat) (cap : Option Nat)
  | nilp
  | ptr (b z i o : Nat)
  | pp (cells : List V) (o : Nat)
  | nilm
  | mp (b : Nat)
  | fn (f : Nat) (first captured : List V)
  | nilf
  | agg (cs : List V)
  | tup (vs : List V)

instance : Inhabited V := ⟨.tup []⟩

/-- What an own block holds: a row of elements of z cells; a map; nothing that may be asked. -/
inductive Ob where
  | row (z : Nat) (els : List (List V))
  | map (es : List (V × V))
  | gone

abbrev Heap := List Ob

def undef : V := .tup []

def V.cells : V → List V
  | .agg cs => cs
  | v => [v]
def V.one : V → Bool
  | .agg _ => false
  | .tup _ => false
  | _ => true

/-- Operands: a temporary, a constant, a package-level variable. -/
inductive Opd where
  | t (n : Nat)
  | c (v : V)
  | g (n : Nat)

/-- The kinds of a plain type's cells (truths, whole numbers, texts); is it a struct or an array? -/
inductive Bk where
  | b | i | s
  deriving DecidableEq
structure KS where
  ks : List Bk
  ag : Bool
def fit : Bk → V → Bool
  | .b, .bool _ => true
  | .i, .int .. => true
  | .s, .str _ => true
  | _, _ => false
def fits : List Bk → List V → Bool
  | [], [] => true
  | k :: ks, v :: vs => fit k v && fits ks vs
  | _, _ => false
def V.isAgg : V → Bool
  | .agg _ => true
  | _ => false
def keyOK (K : KS) (k : V) : Bool := (k.isAgg == K.ag) && fits K.ks k.cells

/-- Conversions. -/
inductive Cv where
  | int (k : IntKind)
  | same
  | bytes
  | flt

inductive Op where
  | move (x : Opd)
  | pick (c a b : Opd)
  | new (zero : List V)
  | box (z : Nat) (x : Opd)
  | build (zero : List V) (parts : List (Nat × Nat × Opd))
  | lit (z : Nat) (zero : List V) (n : Nat) (parts : List (Nat × Opd))
  | load (ag : Option Nat) (a : Opd)
  | store (z : Nat) (a x : Opd)
  | nilc (x : Opd)
  | bin (o : BinOp) (x y : Opd)
  | eqa (K : KS) (neg : Bool) (x y : Opd)
  | eqb (neg : Bool) (x y : Opd)
  | un (o : UnOp) (x : Opd)
  | conv (c : Cv) (x : Opd)
  | mkf (f : Nat) (first captured : List Opd)
  | mkm
  | mks (z bytes : Nat) (zero : List V) (l c : Opd)
  | slice (z : Nat) (x : Opd) (lo hi : Option Opd)
  | faddr (off : Nat) (x : Opd)
  | field (off : Nat) (ag : Option Nat) (x : Opd)
  | iaddr (z : Nat) (arr : Option Nat) (x i : Opd)
  | index (z n : Nat) (ag : Option Nat) (x i : Opd)
  | sidx (x i : Opd)
  | look (K : KS) (zero : V) (ok : Bool) (m k : Opd)
  | mupd (K : KS) (m k v : Opd)
  | mdel (K : KS) (m k : Opd)
  | len (x : Opd)
  | slen (x : Opd)
  | lenm (m : Opd)
  | app (z bytes : Nat) (s x : Opd)
  | cpy (z : Nat) (d s : Opd)
  | clr (zero : List V) (x : Opd)
  | clrm (x : Opd)
  | mx (x y : Opd)
  | mn (x y : Opd)
  | ext (x : Opd) (i : Nat)
  | call (f : Nat) (args : List Opd)
  | callv (f : Opd) (args : List Opd)

structure Oper where
  dst : Option Nat
  op : Op
  guard : Option (Nat × Bool)
  anc : List Nat

def Opd.tmp : Opd → List Nat
  | .t n => [n]
  | _ => []
def tmpsO : Option Opd → List Nat
  | none => []
  | some x => x.tmp

/-- The temporaries that an operation reads. -/
def Op.reads : Op → List Nat
  | .move x | .box _ x | .load _ x | .nilc x | .un _ x | .conv _ x | .faddr _ x | .field _ _ x | .len x | .slen x | .lenm x | .clr _ x | .clrm x | .ext x _ => x.tmp
  | .pick c a b => c.tmp ++ (a.tmp ++ b.tmp)
  | .new _ | .mkm => []
  | .build _ ps => ps.flatMap fun p => p.2.2.tmp
  | .lit _ _ _ ps => ps.flatMap fun p => p.2.tmp
  | .store _ a x | .bin _ a x | .eqa _ _ a x | .eqb _ a x | .mks _ _ _ a x | .iaddr _ _ a x | .index _ _ _ a x | .sidx a x | .look _ _ _ a x | .mdel _ a x | .app _ _ a x | .cpy _ a x | .mx a x | .mn a x => a.tmp ++ x.tmp
  | .mkf _ a b => a.flatMap Opd.tmp ++ b.flatMap Opd.tmp
  | .slice _ x lo hi => x.tmp ++ (tmpsO lo ++ tmpsO hi)
  | .mupd _ m k v => m.tmp ++ (k.tmp ++ v.tmp)
  | .call _ args => args.flatMap Opd.tmp
  | .callv f args => f.tmp ++ args.flatMap Opd.tmp
def Oper.reads (o : Oper) : List Nat :=
  (match o.guard with
  | some (t, _) => [t]
  | none => []) ++ o.op.reads

/-- Two operations that touch other temporaries. -/
def Oper.apart (x y : Oper) : Bool :=
  (match x.dst with
  | some d => !y.reads.contains d && !(y.dst == some d)
  | none => true) &&
  (match y.dst with
  | some d => !x.reads.contains d
  | none => true)

inductive Cd where
  | skip
  | region (draw : Bool) (ops : List Oper)
  | seq (a b : Cd)
  | cond (c : Opd) (x y : Cd)
  | block (id : Nat) (b : Cd)
  | loop (b : Cd)
  | exit (id : Nat)
  | scope (b cur : Cd)
  | label (l : Nat)
  | goto (l : Nat)
  | ret

inductive Res where
  | tmp (t : Nat)
  | cell (t : Nat) (ag : Option Nat)

/-- A function: code; or one that has no body in Go (0: math.Float64frombits, 1: math.Float64bits). -/
inductive Fn where
  | code (nt : Nat) (res : List Res) (body : Cd)
  | ext (k : Nat)

/-- How a function is called: in the caller's memory; alone, on what its arguments read as, its answer read off (where the arguments hold own blocks the answer must hold nothing of them); alone, what it made handed over. -/
inductive Mode where
  | heap | fresh | own

structure Env where
  fn : Nat → Option Fn
  mode : Nat → Mode
  glob : Nat → Option (List V)

structure St where
  tm : List V
  h : Heap

inductive Ex where
  | normal
  | exit (id : Nat)
  | goto (l : Nat)
  | ret

section
variable (Γ : Env)

def Opd.ev (tm : List V) : Opd → Option V
  | .t n => tm[n]?
  | .c v => some v
  | .g n => (Γ.glob n).map (.pp · 0)
def evs (tm : List V) : List Opd → Option (List V)
  | [] => some []
  | x :: xs => (x.ev Γ tm).bind fun v => (evs tm xs).bind fun vs => some (v :: vs)

def getC (ag : Option Nat) (e : List V) (o : Nat) : Option V :=
  match ag with
  | none => e[o]?
  | some n => if o + n ≤ e.length then some (.agg ((e.drop o).take n)) else none
def setC (e : List V) (o : Nat) : List V → List V
  | [] => e
  | c :: cs => setC (e.set o c) (o + 1) cs

def rowAt (h : Heap) (b z : Nat) : Option (List (List V)) :=
  match h[b]? with
  | some (.row z' els) => if z' = z then some els else none
  | _ => none

def natOf : V → Option Nat
  | .int _ n => if 0 ≤ n then some n.toNat else none
  | _ => none

def bits (k : IntKind) (f : BitVec k.bits → BitVec k.bits → BitVec k.bits) (a b : Int) : V :=
  .int k (k.wrap (f (BitVec.ofInt k.bits a) (BitVec.ofInt k.bits b)).toNat)

def binI (o : BinOp) (k : IntKind) (a b : Int) : Option V :=
  match o with
  | .add => some (.int k (k.wrap (a + b)))
  | .sub => some (.int k (k.wrap (a - b)))
  | .mul => some (.int k (k.wrap (a * b)))
  | .quo => if b = 0 then none else some (.int k (k.wrap (a.tdiv b)))
  | .rem => if b = 0 then none else some (.int k (a.tmod b))
  | .and => some (bits k (· &&& ·) a b)
  | .or => some (bits k (· ||| ·) a b)
  | .xor => some (bits k (· ^^^ ·) a b)
  | .andNot => some (bits k (fun x y => x &&& ~~~y) a b)
  | .eql => some (.bool (a == b))
  | .neq => some (.bool (a != b))
  | .lss => some (.bool (decide (a < b)))
  | .leq => some (.bool (decide (a ≤ b)))
  | .gtr => some (.bool (decide (a > b)))
  | .geq => some (.bool (decide (a ≥ b)))
  | _ => none

def binS (o : BinOp) (x y : ByteArray) : Option V :=
  match o with
  | .eql => some (.bool (x.toList == y.toList))
  | .neq => some (.bool (!(x.toList == y.toList)))
  | _ => none

def binF (o : BinOp) (a b : Nat) : Option V :=
  let c := Go.FloatKind.f64.format.order a b
  match o with
  | .eql => some (.bool (c == some .eq))
  | .neq => some (.bool (c != some .eq))
  | .lss => some (.bool (c == some .lt))
  | .leq => some (.bool (c == some .lt || c == some .eq))
  | .gtr => some (.bool (c == some .gt))
  | .geq => some (.bool (c == some .gt || c == some .eq))
  | .add => (Go.FloatKind.f64.format.add a b).map .flt
  | .sub => (Go.FloatKind.f64.format.sub a b).map .flt
  | .mul => (Go.FloatKind.f64.format.mul a b).map .flt
  | .quo => (Go.FloatKind.f64.format.div a b).map .flt
  | _ => none

def bin (o : BinOp) (x y : V) : Option V :=
  match x, y with
  | .int k a, .int k' b =>
    match o with
    | .shl => if b < 0 then none else some (.int k (k.wrap (a * 2 ^ (min b.toNat k.bits))))
    | .shr => if b < 0 then none else some (.int k (a.fdiv (2 ^ (min b.toNat k.bits))))
    | _ => if k = k' then binI o k a b else none
  | .str a, .str b => binS o a b
  | .flt a, .flt b => binF o a b
  | _, _ => none

def un (o : UnOp) (x : V) : Option V :=
  match o, x with
  | .neg, .int k n => some (.int k (k.wrap (0 - n)))
  | .xor, .int k n => some (bits k (· ^^^ ·) (if k.signed then -1 else k.max) n)
  | .not, .bool b => some (.bool !b)
  | .neg, .flt b => some (.flt (Go.Op.negFloat .f64 b))
  | _, _ => none

/-- Two cells alike: whole numbers of one kind, truths, texts. -/
def eqS : V → V → Option Bool
  | .int k a, .int k' b => if k = k' then some (a == b) else none
  | .bool a, .bool b => some (a == b)
  | .str a, .str b => some (a == b)
  | _, _ => none
def eqL : List V → List V → Option Bool
  | [], [] => some true
  | x :: xs, y :: ys => (eqS x y).bind fun b => (eqL xs ys).bind fun r => some (b && r)
  | _, _ => none
/-- Two keys alike. -/
def eqK : V → V → Option Bool
  | .agg a, .agg b => eqL a b
  | x, y => eqS x y
def V.flat : V → Bool
  | .int .. => true
  | .bool _ => true
  | .str _ => true
  | _ => false

/-- Where a key stands in a map. -/
def findK (k : V) : List (V × V) → Nat → Option (Option (Nat × V))
  | [], _ => some none
  | e :: es, i => (eqK k e.1).bind fun b => if b then some (some (i, e.2)) else findK k es (i + 1)

def strOf : List (List V) → Option (List UInt8)
  | [] => some []
  | [.int .u8 n] :: r => (strOf r).map (UInt8.ofNat n.toNat :: ·)
  | _ => none

/-- The elements of a slice. -/
def elsOf (h : Heap) : V → Option (List (List V))
  | .nils => some []
  | .ps _ els => some els
  | .sl b z off len _ => (rowAt h b z).bind fun els => if off + len ≤ els.length then some ((els.drop off).take len) else none
  | _ => none

def cv (h : Heap) (c : Cv) (x : V) : Option V :=
  match c, x with
  | .int k, .int _ n => some (.int k (k.wrap n))
  | .flt, .int _ n => some (.flt (Go.FloatKind.f64.nearest n))
  | .same, .str s => some (.str s)
  | .bytes, x => (elsOf h x).bind fun l => (strOf l).map fun l => .str ⟨l.toArray⟩
  | _, _ => none

def buildC : List V → List (Nat × Nat × V) → Option (List V)
  | zero, [] => some zero
  | zero, (off, size, v) :: r => if v.cells.length = size ∧ off + size ≤ zero.length then buildC (setC zero off v.cells) r else none
def litC (z : Nat) : List (List V) → List (Nat × V) → Option (List (List V))
  | els, [] => some els
  | els, (i, v) :: r => if v.cells.length = z ∧ i < els.length then litC z (els.set i v.cells) r else none

def evp (tm : List V) : List (Nat × Nat × Opd) → Option (List (Nat × Nat × V))
  | [] => some []
  | (a, b, x) :: xs => (x.ev Γ tm).bind fun v => (evp tm xs).bind fun vs => some ((a, b, v) :: vs)
def evq (tm : List V) : List (Nat × Opd) → Option (List (Nat × V))
  | [] => some []
  | (a, x) :: xs => (x.ev Γ tm).bind fun v => (evq tm xs).bind fun vs => some ((a, v) :: vs)

/-- A new block: at the end, or (in a region that draws) in the place that is kept for it. -/
def put (h : Heap) (slot : Option Nat) (o : Ob) : Option (Nat × Heap) :=
  match slot with
  | none => some (h.length, h ++ [o])
  | some s => match h[s]? with
    | some .gone => some (s, h.set s o)
    | _ => none

/-- A pure slice; an empty one always in one form. -/
def psN (z : Nat) (els : List (List V)) : V := match els with
  | [] => .ps 0 []
  | e :: es => .ps z (e :: es)

def sliceV (z : Nat) (x : V) (lo hi : Option Nat) : Option V :=
  match x with
  | .nils => if lo.getD 0 = 0 ∧ hi.getD 0 = 0 then some .nils else none
  | .ps z' els => if lo.getD 0 ≤ hi.getD els.length ∧ hi.getD els.length ≤ els.length ∧ (z' = z ∨ els = []) then some (psN z ((els.take (hi.getD els.length)).drop (lo.getD 0))) else none
  | .sl b z' off len cap =>
    if lo.getD 0 ≤ hi.getD len ∧ hi.getD len ≤ cap.getD len ∧ z' = z then some (.sl b z (off + lo.getD 0) (hi.getD len - lo.getD 0) (cap.map (· - lo.getD 0))) else none
  | _ => none

def iaddrV (z : Nat) (arr : Option Nat) (x : V) (i : Nat) : Option V :=
  match arr, x with
  | none, .ps z' els => if z' = z then (els[i]?).map fun e => .pp e 0 else none
  | none, .sl b z' off len _ => if i < len ∧ z' = z then some (.ptr b z (off + i) 0) else none
  | some n, .ptr b z' e o => if i < n then some (.ptr b z' e (o + i * z)) else none
  | some n, .pp cs o => if i < n then some (.pp cs (o + i * z)) else none
  | _, _ => none

def loadV (h : Heap) (ag : Option Nat) : V → Option V
  | .ptr b z i o => (rowAt h b z).bind fun els => (els[i]?).bind fun e => getC ag e o
  | .pp cs o => getC ag cs o
  | _ => none

def storeV (h : Heap) (z : Nat) (a x : V) : Option Heap :=
  match a with
  | .ptr b z' i o => (rowAt h b z').bind fun els => (els[i]?).bind fun e =>
    if x.cells.length = z ∧ x.cells.all V.one = true ∧ o + z ≤ e.length then some (h.set b (.row z' (els.set i (setC e o x.cells)))) else none
  | _ => none

/-- The elements from 'at' on become those. -/
def over (els : List (List V)) (i : Nat) : List (List V) → List (List V)
  | [] => els
  | e :: r => over (els.set i e) (i + 1) r

def room : Nat := 140737488355328

def appV (h : Heap) (z bytes : Nat) (s x : V) : Option (V × Heap) :=
  (elsOf h x).bind fun src =>
  if src.all (fun e => e.length == z && e.all V.one) = true then
    match s with
    | .nils => if src.length = 0 then some (.nils, h) else
        if src.length * bytes ≤ room then some (.sl h.length z 0 src.length none, h ++ [.row z src]) else none
    | .sl b z' off len cap =>
      if src.length = 0 then some (s, h) else
      if z' = z ∧ (len + src.length) * bytes ≤ room then
        (rowAt h b z).bind fun els =>
        match cap with
        | some c =>
          if len + src.length ≤ c then
            (if off + len + src.length ≤ els.length then some (.sl b z off (len + src.length) (some c), h.set b (.row z (over els (off + len) src))) else none)
          else if off + len ≤ els.length then some (.sl h.length z 0 (len + src.length) none, h ++ [.row z ((els.drop off).take len ++ src)]) else none
        | none => if off = 0 ∧ len ≤ els.length then some (.sl h.length z 0 (len + src.length) none, h.set b .gone ++ [.row z (els.take len ++ src)]) else none
      else none
    | _ => none
  else none

def lookR (zero : V) (ok : Bool) : Option (Nat × V) → V
  | some (_, v) => if ok then .tup [v, .bool true] else v
  | none => if ok then .tup [zero, .bool false] else zero
def lookV (h : Heap) (zero : V) (ok : Bool) (m k : V) : Option V :=
  match m with
  | .nilm => some (lookR zero ok none)
  | .mp b => match h[b]? with
    | some (.map es) => (findK k es 0).map (lookR zero ok)
    | _ => none
  | _ => none

def mupdV (h : Heap) (m k v : V) : Option Heap :=
  match m with
  | .mp b => match h[b]? with
    | some (.map es) => (findK k es 0).map fun r => match r with
      | some (i, _) => h.set b (.map (es.set i (k, v)))
      | none => h.set b (.map (es ++ [(k, v)]))
    | _ => none
  | _ => none

def mdelV (h : Heap) (m k : V) : Option Heap :=
  match m with
  | .mp b => match h[b]? with
    | some (.map es) => (findK k es 0).map fun r => match r with
      | some (i, _) => h.set b (.map (es.eraseIdx i))
      | none => h
    | _ => none
  | _ => none

def lenV (h : Heap) : V → Option (V × Heap)
  | .nils => some (.int .i64 0, h)
  | .ps _ els => some (.int .i64 els.length, h)
  | .sl _ _ _ len _ => some (.int .i64 len, h)
  | _ => none

def oNat : Option Opd → List V → Option (Option Nat)
  | none, _ => some none
  | some x, tm => (x.ev Γ tm).bind fun v => (natOf v).map some

/-- One operation that calls nothing. -/
def opx (tm : List V) (h : Heap) (slot : Option Nat) (o : Op) : Option (V × Heap) :=
  match o with
  | .move x => (x.ev Γ tm).map (·, h)
  | .pick c a b => (c.ev Γ tm).bind fun c => match c with
    | .bool true => (a.ev Γ tm).map (·, h)
    | .bool false => (b.ev Γ tm).map (·, h)
    | _ => none
  | .new zero => (put h slot (.row zero.length [zero])).map fun (b, h) => (.ptr b zero.length 0 0, h)
  | .box z x => (x.ev Γ tm).bind fun v => if v.cells.length = z ∧ v.cells.all V.one = true then (put h slot (.row z [v.cells])).map fun (b, h) => (.ptr b z 0 0, h) else none
  | .build zero parts => (evp Γ tm parts).bind fun ps => (buildC zero ps).map fun cs => (.agg cs, h)
  | .lit z zero n parts => (evq Γ tm parts).bind fun ps => (litC z (List.replicate n zero) ps).bind fun els =>
      if els.all (fun e => e.length == z && e.all V.one) = true then (put h slot (.row z els)).map fun (b, h) => (.sl b z 0 n (some n), h) else none
  | .load ag a => (a.ev Γ tm).bind fun a => (loadV h ag a).map (·, h)
  | .store z a x => (a.ev Γ tm).bind fun a => (x.ev Γ tm).bind fun x => (storeV h z a x).map (undef, ·)
  | .nilc x => (x.ev Γ tm).bind fun v => match v with
    | .ptr .. => some (v, h)
    | .pp .. => some (v, h)
    | .fn .. => some (v, h)
    | _ => none
  | .bin o x y => (x.ev Γ tm).bind fun x => (y.ev Γ tm).bind fun y => (bin o x y).map (·, h)
  | .eqa K neg x y => (x.ev Γ tm).bind fun x => (y.ev Γ tm).bind fun y => match x, y with
    | .agg a, .agg b => if keyOK K (.agg a) = true then (eqL a b).map fun r => (.bool (if neg then !r else r), h) else none
    | _, _ => none
  | .eqb neg x y => (x.ev Γ tm).bind fun x => (y.ev Γ tm).bind fun y => match x, y with
    | .bool a, .bool b => some (.bool (if neg then !(a == b) else a == b), h)
    | _, _ => none
  | .un o x => (x.ev Γ tm).bind fun x => (un o x).map (·, h)
  | .conv c x => (x.ev Γ tm).bind fun x => (cv h c x).map (·, h)
  | .mkf f a b => (evs Γ tm a).bind fun a => (evs Γ tm b).map fun b => (.fn f a b, h)
  | .mkm => (put h slot (.map [])).map fun (b, h) => (.mp b, h)
  | .mks z bytes zero l c => (l.ev Γ tm).bind fun l => (c.ev Γ tm).bind fun c => (natOf l).bind fun l => (natOf c).bind fun c =>
      if l ≤ c ∧ c * bytes ≤ 2 * room ∧ c < 2 ^ 62 ∧ zero.length = z then (put h slot (.row z (List.replicate c zero))).map fun (b, h) => (.sl b z 0 l (some c), h) else none
  | .slice z x lo hi => (x.ev Γ tm).bind fun x => (oNat Γ lo tm).bind fun lo => (oNat Γ hi tm).bind fun hi => (sliceV z x lo hi).map (·, h)
  | .faddr off x => (x.ev Γ tm).bind fun x => match x with
    | .ptr b z i o => some (.ptr b z i (o + off), h)
    | .pp cs o => some (.pp cs (o + off), h)
    | _ => none
  | .field off ag x => (x.ev Γ tm).bind fun x => match x with
    | .agg cs => (getC ag cs off).map (·, h)
    | _ => none
  | .iaddr z arr x i => (x.ev Γ tm).bind fun x => (i.ev Γ tm).bind fun i => (natOf i).bind fun i => (iaddrV z arr x i).map (·, h)
  | .index z n ag x i => (x.ev Γ tm).bind fun x => (i.ev Γ tm).bind fun i => (natOf i).bind fun i => match x with
    | .agg cs => if i < n then (getC ag cs (i * z)).map (·, h) else none
    | _ => none
  | .sidx x i => (x.ev Γ tm).bind fun x => (i.ev Γ tm).bind fun i => (natOf i).bind fun i => match x with
    | .str s => (s[i]?).map fun b => (.int .u8 b.toNat, h)
    | _ => none
  | .look K zero ok m k => (m.ev Γ tm).bind fun m => (k.ev Γ tm).bind fun k => if keyOK K k = true then (lookV h zero ok m k).map (·, h) else none
  | .mupd K m k v => (m.ev Γ tm).bind fun m => (k.ev Γ tm).bind fun k => (v.ev Γ tm).bind fun v => if keyOK K k = true then (mupdV h m k v).map (undef, ·) else none
  | .mdel K m k => (m.ev Γ tm).bind fun m => (k.ev Γ tm).bind fun k => if keyOK K k = true then (mdelV h m k).map (undef, ·) else none
  | .len x => (x.ev Γ tm).bind fun x => lenV h x
  | .slen x => (x.ev Γ tm).bind fun x => match x with
    | .str s => some (.int .i64 s.size, h)
    | _ => none
  | .lenm m => (m.ev Γ tm).bind fun m => match m with
    | .nilm => some (.int .i64 0, h)
    | .mp b => match h[b]? with
      | some (.map es) => some (.int .i64 es.length, h)
      | _ => none
    | _ => none
  | .app z bytes s x => (s.ev Γ tm).bind fun s => (x.ev Γ tm).bind fun x => appV h z bytes s x
  | .cpy z d s => (d.ev Γ tm).bind fun d => (s.ev Γ tm).bind fun s => (elsOf h s).bind fun src =>
      if src.all (fun e => e.length == z && e.all V.one) = true then
      match d with
      | .nils => some (.int .i64 0, h)
      | .sl b z' off len _ => (rowAt h b z').bind fun els =>
          if z' = z ∧ off + len ≤ els.length then some (.int .i64 (min src.length len : Nat), h.set b (.row z' (over els off (src.take (min src.length len))))) else none
      | _ => none
      else none
  | .clr zero x => (x.ev Γ tm).bind fun x => match x with
    | .nils => some (undef, h)
    | .ps _ els => if els.length = 0 then some (undef, h) else none
    | .sl b z off len _ => if len = 0 then some (undef, h) else (rowAt h b z).bind fun els =>
        if zero.length = z ∧ zero.all V.one = true ∧ off + len ≤ els.length then some (undef, h.set b (.row z (over els off (List.replicate len zero)))) else none
    | _ => none
  | .clrm x => (x.ev Γ tm).bind fun x => match x with
    | .nilm => some (undef, h)
    | .mp b => match h[b]? with
      | some (.map _) => some (undef, h.set b (.map []))
      | _ => none
    | _ => none
  | .mx x y => (x.ev Γ tm).bind fun x => (y.ev Γ tm).bind fun y => match x, y with
    | .int k a, .int _ b => some (.int k (if b > a then b else a), h)
    | _, _ => none
  | .mn x y => (x.ev Γ tm).bind fun x => (y.ev Γ tm).bind fun y => match x, y with
    | .int k a, .int _ b => some (.int k (if b < a then b else a), h)
    | _, _ => none
  | .ext x i => (x.ev Γ tm).bind fun x => match x with
    | .tup vs => (vs[i]?).map (·, h)
    | _ => none
  | .call .. => none
  | .callv .. => none

/-! ### Values read off a memory -/

def mapO {α β : Type} (f : α → Option β) : List α → Option (List β)
  | [] => some []
  | x :: xs => (f x).bind fun y => (mapO f xs).map fun ys => y :: ys

/-- A value with no own block in it: as it reads now. -/
def snap (h : Heap) : Nat → V → Option V
  | 0, _ => none
  | n + 1, v => match v with
    | .sl b z off len _ => (rowAt h b z).bind fun els => if off + len ≤ els.length then (mapO (mapO (snap h n)) ((els.drop off).take len)).map (psN z) else none
    | .nils => some (.ps 0 [])
    | .ptr b z i o => (rowAt h b z).bind fun els => (els[i]?).bind fun e => (mapO (snap h n) e).map (.pp · o)
    | .mp _ => none
    | .fn f a c => (mapO (snap h n) a).bind fun a => (mapO (snap h n) c).map fun c => .fn f a c
    | .agg cs => (mapO (snap h n) cs).map .agg
    | .tup cs => (mapO (snap h n) cs).map .tup
    | v => some v

/-- The same of an answer that holds nothing but the call's own blocks. -/
def read (h : Heap) : Nat → V → Option V
  | 0, _ => none
  | n + 1, v => match v with
    | .sl b z off len _ => (rowAt h b z).bind fun els => if off + len ≤ els.length then (mapO (mapO (read h n)) ((els.drop off).take len)).map (psN z) else none
    | .nils => some (.ps 0 [])
    | .agg cs => (mapO (read h n) cs).map .agg
    | .tup cs => (mapO (read h n) cs).map .tup
    | .bool b => some (.bool b)
    | .int k n => some (.int k n)
    | .str s => some (.str s)
    | .flt b => some (.flt b)
    | _ => none

/-- The own blocks that 'snap' comes to. -/
def foots (h : Heap) : Nat → V → List Nat
  | 0, _ => []
  | n + 1, v => match v with
    | .sl b z off len _ => b :: (match rowAt h b z with
      | some els => ((els.drop off).take len).flatMap fun e => e.flatMap (foots h n)
      | none => [])
    | .ptr b z i _ => b :: (match rowAt h b z with
      | some els => (els.getD i []).flatMap (foots h n)
      | none => [])
    | .mp b => [b]
    | .fn _ a c => a.flatMap (foots h n) ++ c.flatMap (foots h n)
    | .agg cs => cs.flatMap (foots h n)
    | .tup cs => cs.flatMap (foots h n)
    | _ => []

def deep : Nat := 12

/-- What a call made alone, as blocks of the caller's memory: blocks' numbers go up by k. -/
def imp (k : Nat) : Nat → V → Option V
  | 0, _ => none
  | n + 1, v => match v with
    | .sl b z off len cap => some (.sl (b + k) z off len cap)
    | .ptr b z i o => some (.ptr (b + k) z i o)
    | .mp b => some (.mp (b + k))
    | .agg cs => (mapO (imp k n) cs).map .agg
    | .tup cs => (mapO (imp k n) cs).map .tup
    | .ps z [] => some (.ps z [])
    | .bool b => some (.bool b)
    | .int k n => some (.int k n)
    | .str s => some (.str s)
    | .flt b => some (.flt b)
    | .nils => some .nils
    | .nilp => some .nilp
    | .nilm => some .nilm
    | .nilf => some .nilf
    | _ => none
def impE (k : Nat) (e : V × V) : Option (V × V) := (imp k deep e.1).bind fun a => (imp k deep e.2).map fun b => (a, b)
def impOb (k : Nat) (o : Ob) : Ob := match o with
  | .row z els => match mapO (mapO (imp k deep)) els with
    | some els => .row z els
    | none => .gone
  | .map es => match mapO (impE k) es with
    | some es => .map es
    | none => .gone
  | .gone => .gone

/-! ### Calls and code -/

abbrev Runs := Cd → St → Option (Ex × St)

def resOf (s : St) : Res → Option V
  | .tmp t => s.tm[t]?
  | .cell t ag => (s.tm[t]?).bind (loadV s.h ag)
def oneOf : List V → V
  | [v] => v
  | vs => .tup vs

def extV (k : Nat) (args : List V) : Option V :=
  match k, args with
  | 0, [.int .u64 n] => some (.flt n.toNat)
  | 1, [.flt b] => some (.int .u64 b)
  | _, _ => none

def callRaw (ih : Runs) (f : Nat) (args : List V) (h : Heap) : Option (V × Heap) :=
  match Γ.fn f with
  | some (.code nt res body) => (ih body ⟨args ++ List.replicate (nt - args.length) undef, h⟩).bind fun r =>
    match r with
    | (.normal, s) => (mapO (resOf s) res).map fun vs => (oneOf vs, s.h)
    | (.ret, s) => (mapO (resOf s) res).map fun vs => (oneOf vs, s.h)
    | _ => none
  | some (.ext k) => (extV k args).map (·, h)
  | none => none

def callF (ih : Runs) (f : Nat) (args : List V) (h : Heap) : Option (V × Heap) :=
  match Γ.mode f with
  | .heap => callRaw Γ ih f args h
  | .fresh => match mapO (snap [] deep) args with
    | some a => (callRaw Γ ih f a []).bind fun r => (snap r.2 deep r.1).map (·, h)
    | none => (mapO (snap h deep) args).bind fun a => (callRaw Γ ih f a []).bind fun r => (read r.2 deep r.1).map (·, h)
  | .own => (mapO (snap h deep) args).bind fun a => (callRaw Γ ih f a []).bind fun r => (imp h.length deep r.1).map fun v => (v, h ++ r.2.map (impOb h.length))

def wants (tm : List V) (g : Option (Nat × Bool)) : Bool :=
  match g with
  | none => true
  | some (t, b) => match tm[t]? with
    | some (.bool c) => c == b
    | _ => false

def putT (tm : List V) (d : Option Nat) (v : V) : List V :=
  match d with
  | none => tm
  | some d => tm.set d v

def step1 (ih : Runs) (tm : List V) (h : Heap) (slot : Option Nat) (o : Op) : Option (V × Heap) :=
  match o with
  | .call f args => (evs Γ tm args).bind fun a => callF Γ ih f a h
  | .callv x args => (x.ev Γ tm).bind fun x => match x with
    | .fn f first cap => (evs Γ tm args).bind fun a => callF Γ ih f (first ++ a ++ cap) h
    | _ => none
  | o => opx Γ tm h slot o

/-- A memory of which only these blocks are seen. -/
def restr (T : List Nat) : Nat → Heap → Heap
  | _, [] => []
  | i, o :: h => (if T.contains i = true then o else .gone) :: restr T (i + 1) h
/-- Back to the whole memory. -/
def merge (T : List Nat) : Nat → Heap → Heap → Heap
  | _, [], h' => h'
  | _, h, [] => h
  | i, o :: h, o' :: h' => (if T.contains i = true then o' else o) :: merge T (i + 1) h h'

def runOps (ih : Runs) : List Oper → St → Option St
  | [], s => some s
  | o :: os, s =>
    if wants s.tm o.guard = true then (step1 Γ ih s.tm s.h none o.op).bind fun r => runOps ih os ⟨putT s.tm o.dst r.1, r.2⟩
    else runOps ih os ⟨putT s.tm o.dst undef, s.h⟩

/-- What an operation does to memory: 0: reads at most; 1: makes one block; 2: writes, or makes several. -/
def Op.cls : Op → Nat
  | .new _ | .box .. | .lit .. | .mkm | .mks .. => 1
  | .store .. | .app .. | .cpy .. | .clr .. | .clrm .. | .mupd .. | .mdel .. => 2
  | .call f _ => match Γ.mode f with
    | .heap => 2
    | .fresh => 0
    | .own => 2
  | .callv .. => 2
  | _ => 0

def own1 : V → List Nat
  | .sl b _ _ _ _ => [b]
  | .ptr b _ _ _ => [b]
  | .mp b => [b]
  | _ => []

/-- The blocks that an operation asks or writes; none: any. -/
def foot (tm : List V) (h : Heap) (slot : Option Nat) : Op → Option (List Nat)
  | .new _ | .box .. | .lit .. | .mkm | .mks .. => slot.map ([·])
  | .load _ a => (a.ev Γ tm).map own1
  | .store _ a _ => (a.ev Γ tm).map own1
  | .conv _ x => (x.ev Γ tm).map own1
  | .look _ _ _ m _ => (m.ev Γ tm).map own1
  | .lenm m => (m.ev Γ tm).map own1
  | .mupd _ m _ _ => (m.ev Γ tm).map own1
  | .mdel _ m _ => (m.ev Γ tm).map own1
  | .clr _ x => (x.ev Γ tm).map own1
  | .clrm x => (x.ev Γ tm).map own1
  | .app _ _ s x => (s.ev Γ tm).bind fun s => (x.ev Γ tm).map fun x => own1 s ++ own1 x
  | .cpy _ s x => (s.ev Γ tm).bind fun s => (x.ev Γ tm).map fun x => own1 s ++ own1 x
  | .call _ args => (evs Γ tm args).map fun a => a.flatMap (foots h deep)
  | .callv x args => (x.ev Γ tm).bind fun x => (evs Γ tm args).map fun a => foots h deep x ++ a.flatMap (foots h deep)
  | _ => some []

def restr1 : Nat → Heap → Heap
  | _, [] => []
  | 0, o :: _ => [o]
  | n + 1, _ :: h => .gone :: restr1 n h
/-- A memory of which only these blocks are seen, by one that asks and does not write. -/
def restrQ (T : List Nat) (h : Heap) : Heap :=
  match T with
  | [] => []
  | [b] => restr1 b h
  | T => restr T 0 h

def liveB : Option Ob → Bool
  | some (.row ..) => true
  | some (.map _) => true
  | _ => false

/-- One operation of a region that draws, as it went in the order of the text: the temporaries and the memory ahead of it; did it run; its value; the blocks that it asked, wrote or made; the place kept for its block. -/
structure Step where
  op : Oper
  tm : List V
  h : Heap
  ran : Bool
  v : V
  T : List Nat
  slot : Nat

/-- The operations of a region that draws, in the order of the text. -/
def traceD (ih : Runs) : List Oper → Nat → St → Option (List Step × St)
  | [], _, s => some ([], s)
  | o :: os, slot, s =>
    if wants s.tm o.guard = true then
      match o.op.cls Γ with
      | 0 => (foot Γ s.tm s.h none o.op).bind fun T => (step1 Γ ih s.tm (restrQ T s.h) none o.op).bind fun r =>
          (traceD ih os slot ⟨putT s.tm o.dst r.1, s.h⟩).map fun q => (⟨o, s.tm, s.h, true, r.1, T, slot⟩ :: q.1, q.2)
      | 1 => (opx Γ s.tm s.h (some slot) o.op).bind fun r =>
          (traceD ih os (slot + 1) ⟨putT s.tm o.dst r.1, r.2⟩).map fun q => (⟨o, s.tm, s.h, true, r.1, [slot], slot⟩ :: q.1, q.2)
      | _ => (foot Γ s.tm s.h none o.op).bind fun T => (step1 Γ ih s.tm (restr (T.filter fun b => liveB s.h[b]?) 0 s.h) none o.op).bind fun r =>
          if s.h.length ≤ r.2.length then
          (traceD ih os slot ⟨putT s.tm o.dst r.1, merge (T.filter fun b => liveB s.h[b]?) 0 s.h r.2⟩).map fun q =>
            (⟨o, s.tm, s.h, true, r.1, (T.filter fun b => liveB s.h[b]?) ++ List.range' s.h.length (r.2.length - s.h.length), slot⟩ :: q.1, q.2)
          else none
    else (traceD ih os (if o.op.cls Γ = 1 then slot + 1 else slot) ⟨putT s.tm o.dst undef, s.h⟩).map fun q => (⟨o, s.tm, s.h, false, undef, [], slot⟩ :: q.1, q.2)

/-- May an earlier and a later one change places? -/
def compat (i : Nat) (a b : Step) : Bool :=
  !a.ran || !b.ran || b.op.anc.contains i || (!(a.op.op.cls Γ == 2 && b.op.op.cls Γ == 2) && ((a.op.op.cls Γ == 0 && b.op.op.cls Γ == 0) || a.T.all fun x => !b.T.contains x))

def compats : Nat → List Step → Bool
  | _, [] => true
  | i, r :: rs => rs.all (compat Γ i r) && compats (i + 1) rs

def slots (ops : List Oper) : Nat := (ops.filter fun o => o.op.cls Γ == 1).length

def runRegion (ih : Runs) (draw : Bool) (ops : List Oper) (s : St) : Option St :=
  if draw = true then (traceD Γ ih ops s.h.length ⟨s.tm, s.h ++ List.replicate (slots Γ ops) .gone⟩).bind fun q => if compats Γ 0 q.1 = true then some q.2 else none
  else runOps Γ ih ops s

def findL : Cd → Nat → Option Cd
  | .seq a b, l =>
    match findL a l with
    | some rest => some (.seq rest b)
    | none => findL b l
  | .label l', l => if l' == l then some .skip else none
  | _, _ => none

def stepC (ih : Runs) (c : Cd) (s : St) : Option (Ex × St) :=
  match c with
  | .skip => some (.normal, s)
  | .label _ => some (.normal, s)
  | .region draw ops => (runRegion Γ ih draw ops s).map fun s => (.normal, s)
  | .seq a b => (ih a s).bind fun r => match r with
    | (.normal, s) => ih b s
    | r => some r
  | .cond c x y => (c.ev Γ s.tm).bind fun v => match v with
    | .bool true => ih x s
    | .bool false => ih y s
    | _ => none
  | .block id b => (ih b s).map fun r => match r with
    | (.exit i, s) => if i = id then (.normal, s) else (.exit i, s)
    | r => r
  | .loop b => (ih b s).bind fun r => match r with
    | (.normal, s) => ih (.loop b) s
    | r => some r
  | .exit id => some (.exit id, s)
  | .goto l => some (.goto l, s)
  | .ret => some (.ret, s)
  | .scope b cur => (ih cur s).bind fun r => match r with
    | (.goto l, s) => match findL b l with
      | some rest => ih (.scope b rest) s
      | none => some (.goto l, s)
    | r => some r

def run : Nat → Runs
  | 0 => fun _ _ => none
  | n + 1 => stepC Γ (run n)

/-- A call, by so many rounds. -/
def call (n : Nat) (f : Nat) (args : List V) (h : Heap) : Option (V × Heap) := callF Γ (run Γ n) f args h
end
end Am
