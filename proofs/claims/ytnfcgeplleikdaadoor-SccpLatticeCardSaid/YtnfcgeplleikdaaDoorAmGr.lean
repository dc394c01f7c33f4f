/- Graphs as abstract values; lemmas on rows of a memory that are known. -/
import Derived.Test.YtnfcgeplleikdaaDoorAmView
import Derived.IntWalk
namespace Am
noncomputable section
theorem rowAt_zero {z : Nat} {els : List (List V)} {h : Heap} : rowAt (.row z els :: h) 0 z = some els := by simp [rowAt]
theorem rowAt_succ {z b : Nat} {o : Ob} {h : Heap} : rowAt (o :: h) (b + 1) z = rowAt h b z := by simp [rowAt]
theorem rowAt_one {z : Nat} {o : Ob} {h : Heap} : rowAt (o :: h) 1 z = rowAt h 0 z := by simp [rowAt]
theorem rowAt_two {z : Nat} {o p : Ob} {h : Heap} : rowAt (o :: p :: h) 2 z = rowAt h 0 z := by simp [rowAt]
theorem rowAt_last {z : Nat} {els : List (List V)} {h : Heap} : rowAt (h ++ [.row z els]) h.length z = some els := by simp [rowAt]
theorem set_last {o o' : Ob} {h : Heap} : (h ++ [o]).set h.length o' = h ++ [o'] := by simp
theorem setC6 {e c : List V} (h : e.length = 6) (h' : c.length = 6) : setC e 0 c = c := by rw [setC_eq _ _ _ (by omega)]; simp [splice, h, h']
theorem setC_one {x v : V} : setC [v] 0 [x] = [x] := _root_.id rfl
theorem V.one_int {k : Go.IntKind} {n : Int} : V.one (.int k n) = true := _root_.id rfl
theorem store_ptr {h : Heap} {z b z' i o : Nat} {x : V} : storeV h z (.ptr b z' i o) x = (rowAt h b z').bind fun els => (els[i]?).bind fun e =>
    if x.cells.length = z ∧ x.cells.all V.one = true ∧ o + z ≤ e.length then some (h.set b (.row z' (els.set i (setC e o x.cells)))) else none := _root_.id rfl
/-- Graphs. -/
structure GIns where
  kind : Int
  op : Int
  dst : Int
  args : List Int
  bits : Int
  ref : Int
structure GTerm where
  kind : Int
  arg : Int
  to0 : Int
  to1 : Int
  trap : Int
structure GBlk where
  ins : List GIns
  term : GTerm
structure GArr where
  type : Int
  size : Int
structure Graph where
  name : ByteArray
  params : List Int
  result : Int
  vars : List Int
  arrays : List GArr
  blocks : List GBlk
def ints (l : List Int) : V := psN 1 (l.map fun n => [.int .i64 n])
def tys (l : List Int) : V := psN 1 (l.map fun n => [.int .u8 n])
def GIns.cells (x : GIns) : List V := [.int .u8 x.kind, .int .u8 x.op, .int .i64 x.dst, ints x.args, .int .u64 x.bits, .int .i64 x.ref]
def inss (l : List GIns) : V := psN 6 (l.map GIns.cells)
def GTerm.cells (t : GTerm) : List V := [.int .u8 t.kind, .int .i64 t.arg, .int .i64 t.to0, .int .i64 t.to1, .int .u8 t.trap]
def GBlk.cells (b : GBlk) : List V := inss b.ins :: b.term.cells
def blks (l : List GBlk) : V := psN 6 (l.map GBlk.cells)
def GArr.cells (a : GArr) : List V := [.int .u8 a.type, .int .i64 a.size]
def arrs (l : List GArr) : V := psN 2 (l.map GArr.cells)
def Graph.cells (g : Graph) : List V := [.str g.name, ints g.params, .int .u8 g.result, tys g.vars, arrs g.arrays, blks g.blocks]
theorem ints_one {l : List Int} : V.one (ints l) = true := one_psN
theorem tys_one {l : List Int} : V.one (tys l) = true := one_psN
theorem inss_one {l : List GIns} : V.one (inss l) = true := one_psN
theorem blks_one {l : List GBlk} : V.one (blks l) = true := one_psN
theorem arrs_one {l : List GArr} : V.one (arrs l) = true := one_psN
theorem len_ints {h : Heap} {l : List Int} : lenV h (ints l) = some (.int .i64 l.length, h) := by simp [ints, lenV_psN]
theorem len_tys {h : Heap} {l : List Int} : lenV h (tys l) = some (.int .i64 l.length, h) := by simp [tys, lenV_psN]
theorem len_inss {h : Heap} {l : List GIns} : lenV h (inss l) = some (.int .i64 l.length, h) := by simp [inss, lenV_psN]
theorem len_blks {h : Heap} {l : List GBlk} : lenV h (blks l) = some (.int .i64 l.length, h) := by simp [blks, lenV_psN]
theorem len_arrs {h : Heap} {l : List GArr} : lenV h (arrs l) = some (.int .i64 l.length, h) := by simp [arrs, lenV_psN]
theorem at_ints {l : List Int} {i : Nat} : iaddrV 1 none (ints l) i = (l[i]?).map fun n => .pp [.int .i64 n] 0 := by simp [ints, iaddr_psN, Option.map_map, Function.comp_def]
theorem at_tys {l : List Int} {i : Nat} : iaddrV 1 none (tys l) i = (l[i]?).map fun n => .pp [.int .u8 n] 0 := by simp [tys, iaddr_psN, Option.map_map, Function.comp_def]
theorem at_inss {l : List GIns} {i : Nat} : iaddrV 6 none (inss l) i = (l[i]?).map fun n => .pp n.cells 0 := by simp [inss, iaddr_psN, Option.map_map, Function.comp_def]
theorem at_blks {l : List GBlk} {i : Nat} : iaddrV 6 none (blks l) i = (l[i]?).map fun n => .pp n.cells 0 := by simp [blks, iaddr_psN, Option.map_map, Function.comp_def]
theorem at_arrs {l : List GArr} {i : Nat} : iaddrV 2 none (arrs l) i = (l[i]?).map fun n => .pp n.cells 0 := by simp [arrs, iaddr_psN, Option.map_map, Function.comp_def]
theorem Graph.cells_len (g : Graph) : g.cells.length = 6 := _root_.id rfl
theorem Graph.cells_one (g : Graph) : g.cells.all V.one = true := by simp only [Graph.cells, List.all_cons, List.all_nil, ints_one, tys_one, arrs_one, blks_one]; rfl
theorem GBlk.cells_len (g : GBlk) : g.cells.length = 6 := _root_.id rfl
theorem GBlk.cells_one (g : GBlk) : g.cells.all V.one = true := by simp only [GBlk.cells, GTerm.cells, List.all_cons, List.all_nil, inss_one]; rfl
theorem GIns.cells_len (g : GIns) : g.cells.length = 6 := _root_.id rfl
theorem GIns.cells_one (g : GIns) : g.cells.all V.one = true := by simp only [GIns.cells, List.all_cons, List.all_nil, ints_one]; rfl
theorem Graph.c1 (g : Graph) : g.cells[1]? = some (ints g.params) := _root_.id rfl
theorem Graph.c2 (g : Graph) : g.cells[2]? = some (.int .u8 g.result) := _root_.id rfl
theorem Graph.c3 (g : Graph) : g.cells[3]? = some (tys g.vars) := _root_.id rfl
theorem Graph.c4 (g : Graph) : g.cells[4]? = some (arrs g.arrays) := _root_.id rfl
theorem Graph.c5 (g : Graph) : g.cells[5]? = some (blks g.blocks) := _root_.id rfl
theorem GBlk.c0 (g : GBlk) : g.cells[0]? = some (inss g.ins) := _root_.id rfl
theorem GBlk.c1 (g : GBlk) : g.cells[1]? = some (.int .u8 g.term.kind) := _root_.id rfl
theorem GBlk.c2 (g : GBlk) : g.cells[2]? = some (.int .i64 g.term.arg) := _root_.id rfl
theorem GBlk.c3 (g : GBlk) : g.cells[3]? = some (.int .i64 g.term.to0) := _root_.id rfl
theorem GBlk.c4 (g : GBlk) : g.cells[4]? = some (.int .i64 g.term.to1) := _root_.id rfl
theorem GBlk.c5 (g : GBlk) : g.cells[5]? = some (.int .u8 g.term.trap) := _root_.id rfl
theorem GIns.c0 (g : GIns) : g.cells[0]? = some (.int .u8 g.kind) := _root_.id rfl
theorem GIns.c1 (g : GIns) : g.cells[1]? = some (.int .u8 g.op) := _root_.id rfl
theorem GIns.c2 (g : GIns) : g.cells[2]? = some (.int .i64 g.dst) := _root_.id rfl
theorem GIns.c3 (g : GIns) : g.cells[3]? = some (ints g.args) := _root_.id rfl
theorem GIns.c4 (g : GIns) : g.cells[4]? = some (.int .u64 g.bits) := _root_.id rfl
theorem GIns.c5 (g : GIns) : g.cells[5]? = some (.int .i64 g.ref) := _root_.id rfl
theorem drop_zero' {l : List V} : l.drop 0 = l := _root_.id rfl
theorem take_all {l : List V} {n : Nat} (h : l.length = n) : l.take n = l := by subst h; simp
theorem load6 {c : List V} (h : c.length = 6) : getC (some 6) c 0 = some (.agg c) := by simp [getC_some, h, take_all h]
theorem setC_all {e c : List V} (h : e.length = c.length) : setC e 0 c = c := by
  rw [setC_eq _ _ _ (by omega)]; simp [splice, h]
theorem wrap64 {n : Int} (h0 : -9223372036854775808 ≤ n) (h1 : n ≤ 9223372036854775807) : Go.IntKind.wrap .i64 n = n := Go.IntWalk.i64_in _ (by omega)
theorem wrap_succ {i : Nat} (h : i < 2 ^ 62) : Go.IntKind.wrap .i64 ((i : Int) + 1) = ((i + 1 : Nat) : Int) := by rw [wrap64 (by omega) (by omega)]; rfl
end
end Am
