/- From the model's code to the abstract machine's. -/
import Derived.Test.YtnfcgeplleikdaaDoorAmStep
namespace Am
open Go (IntKind BinOp UnOp Obj Value World Addr Program TypeDesc TypeId Operand)

/-- What is known of a type: what it is beneath its name, its cells and bytes, its zero value; may '==' be asked cell by cell? -/
structure TI where
  desc : TypeDesc
  size : Nat
  bytes : Nat
  zero : Option V
  plain : Option KS

section
variable (N : Nat → Nat) (tb : TypeId → Option TI)

def constV : Nat → Value → Option V
  | 0, _ => none
  | n + 1, v => match v with
    | .bool b => some (.bool b)
    | .int k m => some (.int k m)
    | .string s => some (.str s)
    | .float .f64 b => some (.flt b)
    | .slice none 0 0 => some .nils
    | .pointer none => some .nilp
    | .map none => some .nilm
    | .nilFunc => some .nilf
    | .agg cs => (mapO (constV n) cs.toList).map .agg
    | .tuple cs => (mapO (constV n) cs.toList).map .tup
    | .func (.func f) a c => (mapO (constV n) a.toList).bind fun a => (mapO (constV n) c.toList).map fun c => .fn (N f) a c
    | _ => none

def compO : Operand → Option Opd
  | .tmp t => some (.t t)
  | .const v => (constV N 4 v).map .c
  | .global g => some (.g g)
  | .func f => some (.c (.fn (N f) [] []))
def compL (l : Array Operand) : Option (List Opd) := mapO (compO N) l.toList
def compM : Option Operand → Option (Option Opd)
  | none => some none
  | some x => (compO N x).map some

def agOf (i : TI) : Option Nat :=
  match i.desc with
  | .struct _ => some i.size
  | .array _ _ => some i.size
  | _ => none
def zOf (i : TI) : Option (List V) := i.zero.bind fun z => if z.cells.length = i.size then some z.cells else none

def compB (o : BinOp) (t : TypeId) (x y : Opd) : Option Op :=
  match o with
  | .eql => (tb t).bind fun i => match i.desc with
    | .struct _ | .array _ _ => i.plain.map fun K => .eqa K false x y
    | .int _ | .string | .float _ => some (.bin .eql x y)
    | .bool => some (.eqb false x y)
    | _ => none
  | .neq => (tb t).bind fun i => match i.desc with
    | .struct _ | .array _ _ => i.plain.map fun K => .eqa K true x y
    | .int _ | .string | .float _ => some (.bin .neq x y)
    | .bool => some (.eqb true x y)
    | _ => none
  | o => some (.bin o x y)

def compBuiltin (b : Go.Builtin) (ts : Array TypeId) (args : List Opd) : Option Op :=
  match b, ts.toList, args with
  | .len, [t], [x] => (tb t).bind fun i => match i.desc with
    | .slice _ => some (.len x)
    | .string => some (.slen x)
    | .map _ _ => some (.lenm x)
    | _ => none
  | .append, [t, u], [s, x] => (tb t).bind fun i => (tb u).bind fun iu => match i.desc, iu.desc with
    | .slice e, .slice _ => (tb e).bind fun ie => (zOf ie).bind fun _ => if 0 < ie.size ∧ 0 < ie.bytes then some (.app ie.size ie.bytes s x) else none
    | _, _ => none
  | .copy, [t, _], [d, s] => (tb t).bind fun i => match i.desc with
    | .slice e => (tb e).map fun ie => .cpy ie.size d s
    | _ => none
  | .clear, [t], [x] => (tb t).bind fun i => match i.desc with
    | .slice e => (tb e).bind fun ie => (zOf ie).map fun z => .clr z x
    | .map _ _ => some (.clrm x)
    | _ => none
  | .delete, [t, _], [m, k] => (tb t).bind fun i => match i.desc with
    | .map ky _ => (tb ky).bind fun ik => ik.plain.map fun K => .mdel K m k
    | _ => none
  | .max, _, [x, y] => some (.mx x y)
  | .min, _, [x, y] => some (.mn x y)
  | _, _, _ => none

def compOp (o : Go.Op) : Option Op :=
  match o with
  | .move x => (compO N x).map .move
  | .assign x => (compO N x).map .move
  | .pick c a b => (compO N c).bind fun c => (compO N a).bind fun a => (compO N b).map fun b => .pick c a b
  | .alloc t => (tb t).bind fun i => (zOf i).map .new
  | .box t x => (tb t).bind fun i => (compO N x).map fun x => .box i.size x
  | .build t ps => (tb t).bind fun i => (zOf i).bind fun z => match i.desc with
    | .struct fs => (mapO (fun (p : Nat × Operand) => (fs[p.1]?).bind fun f => (tb f.type).bind fun fi => (compO N p.2).map fun x => (f.offset, fi.size, x)) ps.toList).bind fun l => if (fs.toList.all fun f => (tb f.type).isSome) = true then some (.build z l) else none
    | .array _ e => (tb e).bind fun ei => (mapO (fun (p : Nat × Operand) => (compO N p.2).map fun x => (p.1 * ei.size, ei.size, x)) ps.toList).map fun l => .build z l
    | _ => none
  | .buildSlice t n ps => (tb t).bind fun i => match i.desc with
    | .slice e => (tb e).bind fun ie => (zOf ie).bind fun z => if n * ie.size ≤ 2 ^ 24 ∧ 0 < ie.size then (mapO (fun (p : Nat × Operand) => (compO N p.2).map fun x => (p.1, x)) ps.toList).map fun l => .lit ie.size z n l else none
    | _ => none
  | .load t a => (tb t).bind fun i => (compO N a).map fun a => .load (agOf i) a
  | .store t a x => (tb t).bind fun i => (compO N a).bind fun a => (compO N x).map fun x => .store i.size a x
  | .nilCheck x => (compO N x).map .nilc
  | .binOp o t x y _ => (compO N x).bind fun x => (compO N y).bind fun y => compB tb o t x y
  | .unOp o _ x => (compO N x).map fun x => .un o x
  | .convert s d x => (compO N x).bind fun x => (tb s).bind fun is => (tb d).bind fun id => match is.desc, id.desc with
    | .int _, .int k => some (.conv (.int k) x)
    | .int _, .float .f64 => some (.conv .flt x)
    | .string, .string => some (.conv .same x)
    | _, _ => none
  | .makeFunc (.func f) a c => (compL N a).bind fun a => (compL N c).map fun c => .mkf (N f) a c
  | .makeMap _ none => some .mkm
  | .makeSlice t l c => (tb t).bind fun i => match i.desc with
    | .slice e => (tb e).bind fun ie => (zOf ie).bind fun z => (compO N l).bind fun l => (compO N c).bind fun c => if 0 < ie.size then some (.mks ie.size ie.bytes z l c) else none
    | _ => none
  | .slice t x lo hi none => (tb t).bind fun i => match i.desc with
    | .slice e => (tb e).bind fun ie => (compO N x).bind fun x => (compM N lo).bind fun lo => (compM N hi).map fun hi => .slice ie.size x lo hi
    | _ => none
  | .fieldAddr t x f => (tb t).bind fun i => match i.desc with
    | .struct fs => (fs[f]?).bind fun f => (tb f.type).bind fun fi => if 0 < fi.size then (compO N x).map fun x => .faddr f.offset x else none
    | _ => none
  | .field t x f => (tb t).bind fun i => match i.desc with
    | .struct fs => (fs[f]?).bind fun f => (tb f.type).bind fun fi => (compO N x).map fun x => .field f.offset (agOf fi) x
    | _ => none
  | .indexAddr t x ix => (tb t).bind fun i => match i.desc with
    | .slice e => (tb e).bind fun ie => (compO N x).bind fun x => (compO N ix).map fun ix => .iaddr ie.size none x ix
    | .array n e => (tb e).bind fun ie => (compO N x).bind fun x => (compO N ix).map fun ix => .iaddr ie.size (some n) x ix
    | _ => none
  | .index t x ix => (tb t).bind fun i => match i.desc with
    | .array n e => (tb e).bind fun ie => (compO N x).bind fun x => (compO N ix).map fun ix => .index ie.size n (agOf ie) x ix
    | .string => (compO N x).bind fun x => (compO N ix).map fun ix => .sidx x ix
    | _ => none
  | .lookup t m k ok => (tb t).bind fun i => match i.desc with
    | .map ky e => (tb ky).bind fun ik => (tb e).bind fun ie => ie.zero.bind fun z => ik.plain.bind fun K => (compO N m).bind fun m => (compO N k).map fun k => .look K z ok m k
    | _ => none
  | .mapUpdate t m k v => (tb t).bind fun i => match i.desc with
    | .map ky _ => (tb ky).bind fun ik => ik.plain.bind fun K => (compO N m).bind fun m => (compO N k).bind fun k => (compO N v).map fun v => .mupd K m k v
    | _ => none
  | .extract x i => (compO N x).map fun x => .ext x i
  | .call c => (compL N c.args).bind fun args => match c.callee with
    | .builtin b => compBuiltin tb b c.argTypes args
    | .value (.func f) => some (.call (N f) args)
    | .value x => (compO N x).map fun x => .callv x args
    | .invoke _ _ => none
  | _ => none

/-- All that must stand ahead of an operation. -/
def ancs (acc : List (List Nat)) (o : Go.Oper) : List Nat :=
  (o.after.toList.filter (Go.Region.binds .any)).flatMap fun e => e.on :: acc.getD e.on []

def compOper (ops : Array Go.Oper) (anc : List Nat) (o : Go.Oper) : Option Oper :=
  (compOp N tb o.op).bind fun op => match o.guard with
    | none => some ⟨o.dst, op, none, anc⟩
    | some (j, b) => ((ops[j]?).bind (·.dst)).map fun t => ⟨o.dst, op, some (t, b), anc⟩

def compOps (ops : Array Go.Oper) : List Go.Oper → List (List Nat) → Option (List Oper)
  | [], _ => some []
  | o :: os, acc => (compOper N tb ops (ancs acc o).eraseDups o).bind fun x => (compOps ops os (acc ++ [(ancs acc o).eraseDups])).map fun xs => x :: xs

/-- In a region that draws: what is not ordered touches other temporaries. -/
def okTmps (l : List Oper) : Bool :=
  (List.range l.length).all fun j => (List.range j).all fun i =>
    match l[j]?, l[i]? with
    | some lj, some li => lj.anc.contains i || li.apart lj
    | _, _ => false

/-- What stands ahead of an operation does by its edges. -/
def okAnc (ops : Array Go.Oper) (l : List Oper) : Bool :=
  (List.range l.length).all fun j => match l[j]?, ops[j]? with
    | some x, some o => x.anc.all fun y => o.after.toList.any fun e => Go.Region.binds .any e && (y == e.on || ((l[e.on]?).map (·.anc.contains y)).getD false)
    | _, _ => false

/-- The edges go back. -/
def okBack (ops : Array Go.Oper) : Bool :=
  (List.range ops.size).all fun j => match ops[j]? with
    | some o => o.after.toList.all fun e => !(Go.Region.binds .any e) || decide (e.on < j)
    | none => true

def compC : Go.Code → Option Cd
  | .skip => some .skip
  | .region _ ops draw => (compOps N tb ops ops.toList []).bind fun l => if draw = true then (if okTmps l = true ∧ okAnc ops l = true ∧ okBack ops = true then some (.region true l) else none) else some (.region false l)
  | .seq a b => (compC a).bind fun a => (compC b).map fun b => .seq a b
  | .cond c x y => (compO N c).bind fun c => (compC x).bind fun x => (compC y).map fun y => .cond c x y
  | .block id b => (compC b).map fun b => .block id b
  | .loop b => (compC b).map .loop
  | .exit id => some (.exit id)
  | .scope b => (compC b).map fun b => .scope b b
  | .label l => some (.label l)
  | .goto l => some (.goto l)
  | .ret => some .ret
  | _ => none

def compR (r : Go.ResultVar) : Option Res :=
  match r with
  | .tmp t => some (.tmp t)
  | .cell a t => (tb t).map fun i => .cell a (agOf i)

def compF (fn : Go.Func) : Option Fn :=
  match fn.body with
  | some c => (compC N tb c).bind fun body => (mapO (compR tb) fn.results.toList).map fun res => .code fn.ntmps res body
  | none => if fn.name = "math.Float64frombits" then some (.ext 0) else if fn.name = "math.Float64bits" then some (.ext 1) else none
end
end Am
