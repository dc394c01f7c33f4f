/- What an abstract value says of the model's, an abstract memory of a world; lemmas on rows. -/
import Derived.Test.YtnfcgeplleikdaaDoorAmBase
import Derived.Laws.CopyRow
import Derived.Below
namespace Am
open Go (IntKind BinOp UnOp Obj Value World Addr Program)

/-- Blocks that nobody writes any more, with what they hold. -/
abbrev Imm := Nat → Option Obj
/-- Where own blocks stand: the model's block, how many cells it has. -/
abbrev Emb := Nat → Option (Nat × Nat)

def noE : Emb := fun _ => none

inductive VR (N : Nat → Nat) (I : Imm) : Emb → V → Value → Prop
  | bool {ι : Emb} (b : Bool) : VR N I ι (.bool b) (.bool b)
  | int {ι : Emb} (k : IntKind) (n : Int) : VR N I ι (.int k n) (.int k n)
  | str {ι : Emb} (s : ByteArray) : VR N I ι (.str s) (.string s)
  | flt {ι : Emb} (b : Nat) : VR N I ι (.flt b) (.float .f64 b)
  | nils {ι : Emb} (a : Option Addr) : VR N I ι .nils (.slice a 0 0)
  | ps0 {ι : Emb} (z : Nat) (a : Option Addr) (cap : Nat) : VR N I ι (.ps z []) (.slice a 0 cap)
  | ps {ι : Emb} {z : Nat} {els : List (List V)} {ad : Addr} {cap : Nat} {cs : Array Value} {t : Nat} {fr : Nat × Nat} :
      els.length ≤ cap → I ad.block = some (.cells cs t fr) → ad.spot = none → (∀ e ∈ els, e.length = z) → ad.off + els.flatten.length ≤ cs.size →
      (∀ k x y, els.flatten[k]? = some x → cs[ad.off + k]? = some y → VR N I noE x y) → VR N I ι (.ps z els) (.slice (some ad) els.length cap)
  | sl {ι : Emb} {b z off len : Nat} {cap : Option Nat} {ad : Addr} {c : Nat × Nat} {cap' : Nat} :
      ι b = some c → len ≤ cap' → (∀ n, cap = some n → cap' = n) → (cap' ≠ 0 → ad = ⟨c.1, off * z, none⟩ ∧ (off + cap') * z ≤ c.2) → VR N I ι (.sl b z off len cap) (.slice (some ad) len cap')
  | nilp {ι : Emb} : VR N I ι .nilp (.pointer none)
  | ptr {ι : Emb} {b z i o : Nat} {c : Nat × Nat} : ι b = some c → VR N I ι (.ptr b z i o) (.pointer (some ⟨c.1, i * z + o, none⟩))
  | pp {ι : Emb} {cells : List V} {o : Nat} {ad : Addr} {base : Nat} {cs : Array Value} {t : Nat} {fr : Nat × Nat} :
      I ad.block = some (.cells cs t fr) → ad.spot = none → ad.off = base + o → base + cells.length ≤ cs.size →
      (∀ k x y, cells[k]? = some x → cs[base + k]? = some y → VR N I noE x y) → VR N I ι (.pp cells o) (.pointer (some ad))
  | nilm {ι : Emb} : VR N I ι .nilm (.map none)
  | mp {ι : Emb} {b : Nat} {c : Nat × Nat} : ι b = some c → VR N I ι (.mp b) (.map (some c.1))
  | fn {ι : Emb} {f : Nat} {a c : List V} {a' c' : Array Value} : a.length = a'.size → c.length = c'.size →
      (∀ (k : Nat) x y, a[k]? = some x → a'[k]? = some y → VR N I ι x y) → (∀ (k : Nat) x y, c[k]? = some x → c'[k]? = some y → VR N I ι x y) →
      VR N I ι (.fn (N f) a c) (.func (.func f) a' c')
  | nilf {ι : Emb} : VR N I ι .nilf .nilFunc
  | agg {ι : Emb} {cs : List V} {cs' : Array Value} : cs.length = cs'.size → (∀ (k : Nat) x y, cs[k]? = some x → cs'[k]? = some y → VR N I ι x y) → VR N I ι (.agg cs) (.agg cs')
  | tup {ι : Emb} {cs : List V} {cs' : Array Value} : cs.length = cs'.size → (∀ (k : Nat) x y, cs[k]? = some x → cs'[k]? = some y → VR N I ι x y) → VR N I ι (.tup cs) (.tuple cs')

section
variable {N : Nat → Nat} {I I' : Imm} {ι ι' : Emb}

def SubI (I I' : Imm) : Prop := ∀ c o, I c = some o → I' c = some o
def SubE (ι ι' : Emb) : Prop := ∀ b c, ι b = some c → ι' b = some c

theorem VR.mono (hI : SubI I I') (hι : SubE ι ι') {x : V} {v : Value} (h : VR N I ι x v) : VR N I' ι' x v := by
  induction h generalizing ι' with
  | bool b => exact .bool b
  | int k n => exact .int k n
  | str s => exact .str s
  | flt b => exact .flt b
  | nils a => exact .nils a
  | ps0 z a cap => exact .ps0 z a cap
  | ps h1 h2 h3 h4 h5 _ ih => exact .ps h1 (hI _ _ h2) h3 h4 h5 fun k x y hx hy => ih k x y hx hy (fun _ _ h => h)
  | sl h1 h2 h3 h4 => exact .sl (hι _ _ h1) h2 h3 h4
  | nilp => exact .nilp
  | ptr h => exact .ptr (hι _ _ h)
  | pp h1 h2 h3 h4 _ ih => exact .pp (hI _ _ h1) h2 h3 h4 fun k x y hx hy => ih k x y hx hy (fun _ _ h => h)
  | nilm => exact .nilm
  | mp h => exact .mp (hι _ _ h)
  | fn h1 h2 _ _ ih1 ih2 => exact .fn h1 h2 (fun k x y hx hy => ih1 k x y hx hy hι) (fun k x y hx hy => ih2 k x y hx hy hι)
  | nilf => exact .nilf
  | agg h1 _ ih => exact .agg h1 fun k x y hx hy => ih k x y hx hy hι
  | tup h1 _ ih => exact .tup h1 fun k x y hx hy => ih k x y hx hy hι
theorem VR.wk {x : V} {v : Value} (h : VR N I noE x v) : VR N I ι x v := h.mono (fun _ _ h => h) (fun _ _ h => by cases h)

/-- The cells from 'off' on say those values. -/
def PR (N : Nat → Nat) (I : Imm) (ι : Emb) (xs : List V) (cs : Array Value) (off : Nat) : Prop :=
  off + xs.length ≤ cs.size ∧ ∀ k x y, xs[k]? = some x → cs[off + k]? = some y → VR N I ι x y

def LR (N : Nat → Nat) (I : Imm) (ι : Emb) (xs : List V) (ys : List Value) : Prop :=
  xs.length = ys.length ∧ ∀ (k : Nat) x y, xs[k]? = some x → ys[k]? = some y → VR N I ι x y

theorem PR.mono (hI : SubI I I') (hι : SubE ι ι') {xs : List V} {cs : Array Value} {off : Nat} (h : PR N I ι xs cs off) : PR N I' ι' xs cs off :=
  ⟨h.1, fun k x y hx hy => (h.2 k x y hx hy).mono hI hι⟩
theorem LR.mono (hI : SubI I I') (hι : SubE ι ι') {xs : List V} {ys : List Value} (h : LR N I ι xs ys) : LR N I' ι' xs ys :=
  ⟨h.1, fun k x y hx hy => (h.2 k x y hx hy).mono hI hι⟩
theorem LR.nil : LR N I ι [] [] := ⟨rfl, fun k x y h => by simp at h⟩
theorem LR.cons {x : V} {y : Value} {xs : List V} {ys : List Value} (h : VR N I ι x y) (hs : LR N I ι xs ys) : LR N I ι (x :: xs) (y :: ys) :=
  ⟨by simp [hs.1], fun k a b ha hb => by
    cases k with
    | zero => simp at ha hb; subst ha; subst hb; exact h
    | succ k => exact hs.2 k a b (by simpa using ha) (by simpa using hb)⟩
theorem LR.cons_inv {x : V} {xs : List V} {ys : List Value} (h : LR N I ι (x :: xs) ys) : ∃ y ys', ys = y :: ys' ∧ VR N I ι x y ∧ LR N I ι xs ys' := by
  cases ys with
  | nil => have := h.1; simp at this
  | cons y ys => exact ⟨y, ys, rfl, h.2 0 x y rfl rfl, by have := h.1; simpa using this, fun k a b ha hb => h.2 (k + 1) a b (by simpa using ha) (by simpa using hb)⟩
theorem LR.append {xs xs' : List V} {ys ys' : List Value} (h : LR N I ι xs ys) (h' : LR N I ι xs' ys') : LR N I ι (xs ++ xs') (ys ++ ys') := by
  induction xs generalizing ys with
  | nil => have : ys = [] := by cases ys with
      | nil => rfl
      | cons => have := h.1; simp at this
           subst this; exact h'
  | cons x xs ih => obtain ⟨y, ys, rfl, hv, hs⟩ := h.cons_inv; exact .cons hv (ih hs)
theorem LR.take {xs : List V} {ys : List Value} (h : LR N I ι xs ys) (n : Nat) : LR N I ι (xs.take n) (ys.take n) :=
  ⟨by simp [h.1], fun k x y hx hy => by
    rw [List.getElem?_take] at hx hy
    split at hx
    · rename_i hk; rw [if_pos hk] at hy; exact h.2 k x y hx hy
    · cases hx⟩
theorem LR.drop {xs : List V} {ys : List Value} (h : LR N I ι xs ys) (n : Nat) : LR N I ι (xs.drop n) (ys.drop n) :=
  ⟨by simp [h.1], fun k x y hx hy => by
    rw [List.getElem?_drop] at hx hy
    exact h.2 _ x y hx hy⟩
theorem LR.get {xs : List V} {ys : List Value} (h : LR N I ι xs ys) {k : Nat} {x : V} (hx : xs[k]? = some x) : ∃ y, ys[k]? = some y ∧ VR N I ι x y := by
  obtain ⟨hk, _⟩ := List.getElem?_eq_some_iff.1 hx
  have hk' : k < ys.length := h.1 ▸ hk
  exact ⟨ys[k], List.getElem?_eq_getElem hk', h.2 k x _ hx (List.getElem?_eq_getElem hk')⟩
theorem LR.set {xs : List V} {ys : List Value} (h : LR N I ι xs ys) {x : V} {y : Value} (hv : VR N I ι x y) (n : Nat) : LR N I ι (xs.set n x) (ys.set n y) :=
  ⟨by simp [h.1], fun k a b ha hb => by
    rw [List.getElem?_set] at ha hb
    split at ha
    · rename_i e
      split at ha
      · rename_i hl; rw [if_pos e, if_pos (h.1 ▸ hl)] at hb; simp at ha hb; subst ha; subst hb; exact hv
      · cases ha
    · rename_i e; rw [if_neg e] at hb; exact h.2 k a b ha hb⟩
theorem LR.replicate {x : V} {y : Value} (hv : VR N I ι x y) (n : Nat) : LR N I ι (List.replicate n x) (List.replicate n y) := by
  induction n with
  | zero => exact .nil
  | succ n ih => exact .cons hv ih

/-- A part of the cells, as a list. -/
theorem PR.lr {xs : List V} {cs : Array Value} {off : Nat} (h : PR N I ι xs cs off) : LR N I ι xs ((cs.toList.drop off).take xs.length) := by
  refine ⟨by simp; have := h.1; omega, fun k x y hx hy => h.2 k x y hx ?_⟩
  have hk : k < xs.length := (List.getElem?_eq_some_iff.1 hx).1
  rw [List.getElem?_take, if_pos hk, List.getElem?_drop] at hy
  simpa using hy
theorem PR.of_lr {xs : List V} {cs : Array Value} {off : Nat} (hl : off + xs.length ≤ cs.size) (h : LR N I ι xs ((cs.toList.drop off).take xs.length)) : PR N I ι xs cs off := by
  refine ⟨hl, fun k x y hx hy => h.2 k x y hx ?_⟩
  have hk : k < xs.length := (List.getElem?_eq_some_iff.1 hx).1
  rw [List.getElem?_take, if_pos hk, List.getElem?_drop]
  simpa using hy
theorem PR.sub {xs : List V} {cs : Array Value} {off : Nat} (h : PR N I ι xs cs off) (a n : Nat) : PR N I ι ((xs.drop a).take n) cs (off + a) ∨ xs.length < a := by
  rcases Nat.lt_or_ge xs.length a with ha | ha
  · exact .inr ha
  · refine .inl ⟨by have := h.1; simp; omega, fun k x y hx hy => ?_⟩
    rw [List.getElem?_take] at hx
    split at hx
    · rw [List.getElem?_drop] at hx; exact h.2 (a + k) x y hx (by rw [← Nat.add_assoc]; exact hy)
    · cases hx
theorem PR.get {xs : List V} {cs : Array Value} {off : Nat} (h : PR N I ι xs cs off) {k : Nat} {x : V} (hx : xs[k]? = some x) : ∃ y, cs[off + k]? = some y ∧ VR N I ι x y := by
  obtain ⟨hk, _⟩ := List.getElem?_eq_some_iff.1 hx
  have hk' : off + k < cs.size := by have := h.1; omega
  exact ⟨cs[off + k], Array.getElem?_eq_getElem hk', h.2 k x _ hx (Array.getElem?_eq_getElem hk')⟩

/-! ### Lists that are cut -/
theorem flat_length {z : Nat} : ∀ {els : List (List V)}, (∀ e ∈ els, e.length = z) → els.flatten.length = els.length * z
  | [], _ => by simp
  | e :: els, h => by
    rw [List.flatten_cons, List.length_append, h e (by simp), flat_length (fun x hx => h x (by simp [hx])), List.length_cons, Nat.add_mul, Nat.one_mul, Nat.add_comm]
theorem flat_drop {z : Nat} : ∀ {els : List (List V)} (n : Nat), (∀ e ∈ els, e.length = z) → (els.drop n).flatten = els.flatten.drop (n * z)
  | els, 0, _ => by simp
  | [], n + 1, _ => by simp
  | e :: els, n + 1, h => by
    rw [List.drop_succ_cons, flat_drop n (fun x hx => h x (by simp [hx])), List.flatten_cons, List.drop_append]
    have he := h e (by simp)
    rw [List.drop_eq_nil_of_le (as := e) (by rw [he, Nat.add_mul]; omega), List.nil_append, he, Nat.add_mul, Nat.one_mul, Nat.add_sub_cancel]
theorem flat_take {z : Nat} : ∀ {els : List (List V)} (n : Nat), (∀ e ∈ els, e.length = z) → (els.take n).flatten = els.flatten.take (n * z)
  | els, 0, _ => by simp
  | [], n + 1, _ => by simp
  | e :: els, n + 1, h => by
    rw [List.take_succ_cons, List.flatten_cons, flat_take n (fun x hx => h x (by simp [hx])), List.flatten_cons, List.take_append]
    have he := h e (by simp)
    rw [List.take_of_length_le (l := e) (by rw [he, Nat.add_mul]; omega), he, Nat.add_mul, Nat.one_mul, Nat.add_sub_cancel]
theorem flat_get {z : Nat} {els : List (List V)} (h : ∀ e ∈ els, e.length = z) {i : Nat} {e : List V} (he : els[i]? = some e) : (els.flatten.drop (i * z)).take z = e := by
  rw [← flat_drop i h, List.drop_eq_getElem?_toList_append, he]
  have hz := h e (List.mem_of_getElem? he)
  simp [← hz]

def splice {α : Type} (l : List α) (k : Nat) (vs : List α) : List α := l.take k ++ vs ++ l.drop (k + vs.length)
theorem splice_length {α : Type} {l : List α} {k : Nat} {vs : List α} (h : k + vs.length ≤ l.length) : (splice l k vs).length = l.length := by
  simp [splice]; omega
theorem splice_cons {α : Type} (e : List α) (o : Nat) (c : α) (cs : List α) (h : o + (cs.length + 1) ≤ e.length) : splice (e.set o c) (o + 1) cs = splice e o (c :: cs) := by
  unfold splice
  rw [List.set_eq_take_append_cons_drop, if_pos (by omega)]
  have h1 : (e.take o).length = o := by simp; omega
  rw [List.take_append, List.take_of_length_le (l := e.take o) (by omega), List.drop_append, List.drop_eq_nil_of_le (as := e.take o) (by omega), h1]
  have e1 : o + 1 - o = 1 := by omega
  have e2 : o + 1 + cs.length - o = cs.length + 1 := by omega
  rw [e1, e2, List.drop_succ_cons, List.drop_drop]
  have e3 : o + 1 + cs.length = o + (cs.length + 1) := by omega
  simp [e3]
theorem setC_eq : ∀ (cs e : List V) (o : Nat), o + cs.length ≤ e.length → setC e o cs = splice e o cs
  | [], e, o, _ => by simp [setC, splice]
  | c :: cs, e, o, h => by
    simp only [List.length_cons] at h
    rw [setC, setC_eq cs _ _ (by simp; omega), splice_cons e o c cs h]
theorem over_eq : ∀ (src els : List (List V)) (i : Nat), i + src.length ≤ els.length → over els i src = splice els i src
  | [], e, o, _ => by simp [over, splice]
  | c :: cs, e, o, h => by
    simp only [List.length_cons] at h
    rw [over, over_eq cs _ _ (by simp; omega), splice_cons e o c cs h]
theorem LR.splice {xs vs : List V} {ys ws : List Value} (h : LR N I ι xs ys) (hv : LR N I ι vs ws) (k : Nat) : LR N I ι (splice xs k vs) (splice ys k ws) := by
  unfold Am.splice
  rw [hv.1]
  exact ((h.take k).append hv).append (h.drop _)
theorem flat_splice {z : Nat} {els src : List (List V)} (h : ∀ e ∈ els, e.length = z) (hs : ∀ e ∈ src, e.length = z) (i : Nat) :
    (splice els i src).flatten = splice els.flatten (i * z) src.flatten := by
  unfold splice
  rw [List.flatten_append, List.flatten_append, flat_take i h, flat_drop _ h, flat_length hs, Nat.add_mul]
theorem flat_set {z : Nat} {els : List (List V)} (h : ∀ e ∈ els, e.length = z) {i o : Nat} {e cs : List V} (he : els[i]? = some e) (ho : o + cs.length ≤ e.length) :
    (els.set i (splice e o cs)).flatten = splice els.flatten (i * z + o) cs := by
  have hi : i < els.length := (List.getElem?_eq_some_iff.1 he).1
  have hz := h e (List.mem_of_getElem? he)
  have e1 : els.set i (splice e o cs) = splice els i [splice e o cs] := by
    unfold splice
    rw [List.set_eq_take_append_cons_drop, if_pos hi]
    simp
  rw [e1, flat_splice h (by intro x hx; simp at hx; subst hx; rw [splice_length ho, hz])]
  have hg := flat_get h he
  have hfl := flat_length h
  have hiz : i * z + z ≤ els.flatten.length := by rw [hfl, ← Nat.succ_mul]; exact Nat.mul_le_mul_right _ hi
  unfold splice
  simp only [List.flatten_cons, List.flatten_nil, List.append_nil]
  have hlen : (List.take o e ++ cs ++ List.drop (o + cs.length) e).length = z := by have := splice_length ho; unfold splice at this; rw [this, hz]
  rw [hlen, ← hg]
  rw [List.take_take, List.drop_take, List.drop_drop]
  have hm : min o z = o := by omega
  rw [hm]
  have t1 : List.take (i * z + o) els.flatten = List.take (i * z) els.flatten ++ List.take o (List.drop (i * z) els.flatten) := by rw [List.take_add]
  rw [t1]
  have t2 : List.drop (i * z + o + cs.length) els.flatten = List.take (z - (o + cs.length)) (List.drop (i * z + (o + cs.length)) els.flatten) ++ List.drop (i * z + z) els.flatten := by
    have := List.take_append_drop (z - (o + cs.length)) (List.drop (i * z + (o + cs.length)) els.flatten)
    rw [List.drop_drop] at this
    have e3 : i * z + (o + cs.length) + (z - (o + cs.length)) = i * z + z := by omega
    rw [e3] at this
    rw [Nat.add_assoc, this]
  rw [t2]
  simp [List.append_assoc]

theorem mem_splice {α : Type} {l vs : List α} {k : Nat} {x : α} (h : x ∈ splice l k vs) : x ∈ l ∨ x ∈ vs := by
  unfold splice at h
  rcases List.mem_append.1 h with h | h
  · rcases List.mem_append.1 h with h | h
    · exact .inl (List.mem_of_mem_take h)
    · exact .inr h
  · exact .inl (List.mem_of_mem_drop h)

/-- A block's cells say a row of elements. -/
def RowR (N : Nat → Nat) (I : Imm) (ι : Emb) (z : Nat) (els : List (List V)) (cs : Array Value) : Prop :=
  (∀ e ∈ els, e.length = z) ∧ PR N I ι els.flatten cs 0
def MapR (N : Nat → Nat) (I : Imm) (ι : Emb) (es : List (V × V)) (ents : Array Go.MapEntry) : Prop :=
  es.length = ents.size ∧ ∀ (k : Nat) e x, es[k]? = some e → ents[k]? = some x → VR N I ι e.1 x.key ∧ VR N I ι e.2 x.val

abbrev Ob.live : Option Ob → Bool := liveB

structure Rel (N : Nat → Nat) (I : Imm) (ι : Emb) (h : Heap) (w : World) : Prop where
  imm : ∀ c o, I c = some o → w.heap[c]? = some o
  row : ∀ b c z els, ι b = some c → h[b]? = some (.row z els) → I c.1 = none ∧ ∃ cs t, w.heap[c.1]? = some (.cells cs t (0, 0)) ∧ cs.size = c.2 ∧ RowR N I ι z els cs
  map : ∀ b c es, ι b = some c → h[b]? = some (.map es) → I c.1 = none ∧ ∃ ents clk, w.heap[c.1]? = some (.map ents clk) ∧ MapR N I ι es ents
  inj : ∀ b b' c c', ι b = some c → ι b' = some c' → c.1 = c'.1 → Ob.live h[b]? = true → Ob.live h[b']? = true → b = b'
  lt : ∀ b c, ι b = some c → c.1 < w.heap.size

def Fresh (ι : Emb) (h : Heap) : Prop := ∀ b, h.length ≤ b → ι b = none

/-- From one state to a later one. -/
structure Ext (I : Imm) (ι : Emb) (h : Heap) (w : World) (I' : Imm) (ι' : Emb) (h' : Heap) (w' : World) : Prop where
  subI : SubI I I'
  subE : SubE ι ι'
  newI : ∀ c o, I' c = some o → I c = some o ∨ w.heap.size ≤ c
  newE : ∀ b c, ι' b = some c → Ob.live h'[b]? = true → (∃ b' c', ι b' = some c' ∧ c'.1 = c.1 ∧ Ob.live h[b']? = true) ∨ w.heap.size ≤ c.1
  keep : ∀ c, c < w.heap.size → (∀ b p, ι b = some p → p.1 = c → Ob.live h[b]? = false) → w'.heap[c]? = w.heap[c]?
  size : w.heap.size ≤ w'.heap.size
  os : w'.os = w.os
  tape : w'.tape = w.tape
  output : w'.output = w.output
  len : h.length ≤ h'.length

theorem Ext.refl (I : Imm) (ι : Emb) (h : Heap) (w : World) : Ext I ι h w I ι h w :=
  ⟨fun _ _ h => h, fun _ _ h => h, fun _ _ h => .inl h, fun b c h1 h2 => .inl ⟨b, c, h1, rfl, h2⟩, fun _ _ _ => rfl, Nat.le_refl _, rfl, rfl, rfl, Nat.le_refl _⟩
end
end Am
