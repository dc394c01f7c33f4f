/- Plain data by their types: what a datum that is read in a memory says, as abstract values. -/
import Derived.Test.YtnfcgeplleikdaaDoorAmSnap
import Derived.ChangeShapes
import Derived.ChangeArms
import Derived.OpenShut
import Derived.Lib.LaidTab
namespace Am
open Go (IntKind Obj Value World Addr Program TypeId DataW MemPlace Lit)

/-- Plain types: a struct (an array) is its parts one behind another. -/
inductive Ty where
  | bool
  | int (k : IntKind)
  | str
  | slice (e : Ty)
  | nil
  | cons (a b : Ty)

abbrev Ty.den : Ty → Type
  | .bool => Bool
  | .int _ => Int
  | .str => ByteArray
  | .slice e => List e.den
  | .nil => Unit
  | .cons a b => a.den × b.den
def Ty.size : Ty → Nat
  | .bool => 1
  | .int _ => 1
  | .str => 1
  | .slice _ => 1
  | .nil => 0
  | .cons a b => a.size + b.size
def Ty.enc : (τ : Ty) → τ.den → List V
  | .bool, b => [.bool b]
  | .int k, n => [.int k n]
  | .str, s => [.str s]
  | .slice e, l => [psN e.size (l.map e.enc)]
  | .nil, _ => []
  | .cons a b, x => a.enc x.1 ++ b.enc x.2
theorem Ty.enc_length : ∀ (τ : Ty) (x : τ.den), (τ.enc x).length = τ.size
  | .bool, _ => rfl
  | .int _, _ => rfl
  | .str, _ => rfl
  | .slice _, _ => rfl
  | .nil, _ => rfl
  | .cons a b, x => by simp [Ty.enc, Ty.size, Ty.enc_length a, Ty.enc_length b]

/-- How many values there are. -/
def Ty.bulk : (τ : Ty) → τ.den → Nat
  | .bool, _ => 1
  | .int _, _ => 1
  | .str, s => s.size + 1
  | .slice e, l => (l.map e.bulk).sum + 1
  | .nil, _ => 0
  | .cons a b, x => a.bulk x.1 + b.bulk x.2
mutual
/-- What a datum says at a type. -/
def absD {H : Type} : Ty → DataW H → Option (List V)
  | .bool, .lit (.bool b) => some [.bool b]
  | .int _, .lit (.int k n) => some [.int k n]
  | .str, .lit (.string s) => some [.str ⟨s.toArray⟩]
  | .slice _, .nil => some [.ps 0 []]
  | .slice e, .slice l _ => (mapO (absD e) l).map fun l => [psN e.size l]
  | .nil, .agg [] => some []
  | .cons a b, .agg (d :: ds) => (absD a d).bind fun x => (absL b ds).map fun y => x ++ y
  | _, _ => none
def absL {H : Type} : Ty → List (DataW H) → Option (List V)
  | .nil, [] => some []
  | .cons a b, d :: ds => (absD a d).bind fun x => (absL b ds).map fun y => x ++ y
  | _, _ => none
end
/-- Are numbers of their kinds? -/
def Ty.wf : (τ : Ty) → τ.den → Prop
  | .bool, _ => True
  | .int k, n => k.min ≤ n ∧ n ≤ k.max
  | .str, s => s.size ≤ Go.maxLen
  | .slice e, l => ∀ x ∈ l, e.wf x
  | .nil, _ => True
  | .cons a b, x => a.wf x.1 ∧ b.wf x.2

mutual
def bulkD {H : Type} : DataW H → Nat
  | .lit (.string bytes) => bytes.length + 1
  | .lit _ => 1
  | .nil => 1
  | .ptr d => bulkD d + 1
  | .slice elems spare => bulkDs elems + bulkDs spare + 1
  | .agg parts => bulkDs parts + 1
  | .iface _ d => bulkD d + 1
  | .map entries => bulkDe entries + 1
  | .held _ => 1
def bulkDs {H : Type} : List (DataW H) → Nat
  | [] => 0
  | d :: ds => bulkD d + bulkDs ds
def bulkDe {H : Type} : List (Lit × DataW H) → Nat
  | [] => 0
  | e :: es => bulkD e.2 + bulkDe es
end

section
variable (P : Program)
def parts (t : TypeId) : Option (List (TypeId × Nat)) := match P.underlying t with
  | some (.struct fs) => some (fs.toList.map fun f => (f.type, f.offset))
  | some (.array n e) => some ((List.range n).map fun i => (e, i * P.cellsOf e))
  | _ => none
mutual
def Ty.okT : Ty → TypeId → Bool
  | .bool, t => match P.underlying t with
    | some .bool => true
    | _ => false
  | .int k, t => match P.underlying t with
    | some (.int k') => k == k'
    | _ => false
  | .str, t => match P.underlying t with
    | some .string => true
    | _ => false
  | .slice e, t => match P.underlying t with
    | some (.slice u) => Ty.okT e u && P.cellsOf u == e.size && Nat.blt 0 e.size
    | _ => false
  | .nil, t => match parts P t with
    | some [] => P.cellsOf t == 0
    | _ => false
  | .cons a b, t => match parts P t with
    | some ((u, o) :: l) => o == 0 && P.cellsOf u == a.size && Ty.okT a u && Ty.okL b l a.size && P.cellsOf t == a.size + b.size
    | _ => false
def Ty.okL : Ty → List (TypeId × Nat) → Nat → Bool
  | .nil, [], _ => true
  | .cons a b, (u, o) :: l, off => o == off && P.cellsOf u == a.size && Ty.okT a u && Ty.okL b l (off + a.size)
  | _, _, _ => false
end
end

section
variable {H : Type} {enc : TypeId × Value → H} {P : Program} {w : World} {base : Nat} {sp : Nat → Bool} {held : Bool} {N : Nat → Nat}

theorem bulkDs_mem {l : List (DataW H)} : bulkDs l = (l.map bulkD).sum := by
  induction l with
  | nil => rfl
  | cons d l ih => simp [bulkDs, ih]

theorem mapM_at {α β : Type} {f : α → Option β} : ∀ {l : List α} {r : List β}, l.mapM f = some r → ∀ (i : Nat) a, l[i]? = some a → r[i]? = f a
  | [], _, _, i, a, ha => by simp at ha
  | x :: l, r, h, i, a, ha => by
    simp only [List.mapM_cons, Option.bind_eq_bind, Option.bind_eq_some_iff, Option.pure_def, Option.some.injEq] at h
    obtain ⟨b, hb, r', hr', rfl⟩ := h
    cases i with
    | zero =>
      simp only [List.getElem?_cons_zero, Option.some.injEq] at ha
      subst ha
      simp [hb]
    | succ i => simpa using mapM_at hr' i a (by simpa using ha)

theorem add_block (a : Addr) (n : Nat) : (a.add n).block = a.block := by unfold Addr.add; split <;> rfl
theorem add_off (a : Addr) (n : Nat) : (a.add n).off = a.off + n := by unfold Addr.add; split <;> simp_all
theorem add_zero (a : Addr) : a.add 0 = a := by simp [Addr.add]
/-- Cells that are read are a block's. -/
theorem cells_at {a : Addr} {n : Nat} {cs : List Value} (hn : 0 < n) (h : w.cells? base a n = some cs) :
    cs.length = n ∧ a.spot = none ∧ ∃ c t fr, w.heap[a.block]? = some (.cells c t fr) ∧ a.off + n ≤ c.size ∧ ∀ k, k < n → cs[k]? = c[a.off + k]? := by
  unfold World.cells? at h
  split at h
  · have hl : cs.length = n := by simpa using Go.Lib.mapM_length h
    have hat : ∀ k, k < n → cs[k]? = w.cell? (a.add k) := fun k hk => mapM_at h k k (by simp [hk])
    have h0 := hat 0 hn
    have hs0 : ∃ v, cs[0]? = some v := ⟨cs[0], List.getElem?_eq_getElem (by omega)⟩
    obtain ⟨v, hv⟩ := hs0
    rw [hv, add_zero] at h0
    unfold World.cell? at h0
    split at h0
    · rename_i c t fr hc
      split at h0
      · cases h0
      · rename_i hsp
        have hsp' : a.spot = none := by simpa using hsp
        have hc' : w.heap[a.block]? = some (.cells c t fr) := hc
        have hat' : ∀ k, k < n → cs[k]? = c[a.off + k]? := fun k hk => by
          rw [hat k hk]
          have h5 : (a.add k).spot = none := by unfold Addr.add; split <;> simp [hsp']
          simp [World.cell?, add_block, add_off, hc', h5]
        refine ⟨hl, hsp', c, t, fr, hc', ?_, hat'⟩
        have := hat' (n - 1) (by omega)
        rw [List.getElem?_eq_getElem (by omega)] at this
        have h2 := (Array.getElem?_eq_some_iff.1 this.symm).1
        omega
    · cases h0
  · cases h

/-- What is read of a type's datum: values of the type, which the cells say. -/
def RdT (P : Program) (w : World) (N : Nat → Nat) (τ : Ty) (d : DataW H) (cs : List Value) : Prop :=
  ∃ x : τ.den, τ.wf x ∧ τ.bulk x ≤ bulkD d ∧ absD τ d = some (τ.enc x) ∧ LR N (fun c => w.heap[c]?) noE (τ.enc x) cs
def RdL (P : Program) (w : World) (N : Nat → Nat) (τ : Ty) (ds : List (DataW H)) (cs : List Value) : Prop :=
  ∃ x : τ.den, τ.wf x ∧ τ.bulk x ≤ bulkDs ds ∧ absL τ ds = some (τ.enc x) ∧ LR N (fun c => w.heap[c]?) noE (τ.enc x) cs
theorem LR.one {I : Imm} {ι : Emb} {x : V} {y : Value} (h : VR N I ι x y) : LR N I ι [x] [y] := LR.cons h LR.nil

/-- Parts that stand at their places. -/
def PartsAt (P : Program) (w : World) (enc : TypeId × Value → H) (base : Nat) (sp : Nat → Bool) (held : Bool) (fuel : Nat) (cs : List Value) : List (TypeId × Nat) → List (DataW H) → Prop
  | [], [] => True
  | p :: l, d :: ds => (∃ ps, DataW.trod enc P w base sp held fuel p.1 ((cs.drop p.2).take (P.cellsOf p.1)) = some (d, ps)) ∧ PartsAt P w enc base sp held fuel cs l ds
  | _, _ => False

theorem partsAt_of {fuel : Nat} {cs : List Value} : ∀ {l : List (TypeId × Nat)} {xs : List (DataW H × List MemPlace)}, xs.length = l.length → (∀ (i : Nat) p, l[i]? = some p → DataW.trod enc P w base sp held fuel p.1 ((cs.drop p.2).take (P.cellsOf p.1)) = xs[i]?) → PartsAt P w enc base sp held fuel cs l (xs.map (·.1))
  | [], [], _, _ => trivial
  | [], _ :: _, h, _ => by simp at h
  | _ :: _, [], h, _ => by simp at h
  | p :: l, x :: xs, h, hx => ⟨⟨x.2, by simpa using hx 0 p rfl⟩, partsAt_of (by simpa using h) fun i q hq => by simpa using hx (i + 1) q (by simpa using hq)⟩

theorem parts_of {t : TypeId} {l : List (TypeId × Nat)} {fuel : Nat} {cs : List Value} {d : DataW H} {ps : List MemPlace} (hp : parts P t = some l) (h : DataW.trod enc P w base sp held fuel t cs = some (d, ps)) :
    ∃ n ds, fuel = n + 1 ∧ d = .agg ds ∧ cs.length = P.cellsOf t ∧ PartsAt P w enc base sp held n cs l ds := by
  unfold parts at hp
  split at hp
  · rename_i fs hu
    injection hp with hp; subst hp
    obtain ⟨xs, n, rfl, hx, hl, hlen, hat⟩ := DataW.trod_struct hu h
    obtain ⟨rfl, _⟩ := Prod.mk.inj hx
    refine ⟨n, _, rfl, rfl, hl, partsAt_of (by simpa using hlen) fun i p hp => ?_⟩
    simp only [List.getElem?_map, Option.map_eq_some_iff] at hp
    obtain ⟨f, hf, rfl⟩ := hp
    exact hat i f (by simpa using hf)
  · rename_i m e hu
    injection hp with hp; subst hp
    obtain ⟨xs, n, rfl, hx, hl, hlen, hat⟩ := DataW.trod_array hu h
    obtain ⟨rfl, _⟩ := Prod.mk.inj hx
    refine ⟨n, _, rfl, rfl, hl, partsAt_of (by simpa using hlen) fun i p hp => ?_⟩
    simp only [List.getElem?_map, Option.map_eq_some_iff] at hp
    obtain ⟨j, hj, rfl⟩ := hp
    obtain ⟨hj1, hj2⟩ := List.getElem?_eq_some_iff.1 hj
    simp at hj1 hj2
    subst hj2
    exact hat i hj1
  · cases hp

theorem rd : ∀ τ : Ty, (∀ (t : TypeId) (fuel : Nat) (cs : List Value) (d : DataW H) ps, Ty.okT P τ t = true → DataW.trod enc P w base sp held fuel t cs = some (d, ps) → RdT P w N τ d cs) ∧
    (∀ (l : List (TypeId × Nat)) (off fuel : Nat) (cs : List Value) (ds : List (DataW H)), Ty.okL P τ l off = true → PartsAt P w enc base sp held fuel cs l ds → off + τ.size ≤ cs.length → RdL P w N τ ds ((cs.drop off).take τ.size))
  | .bool => ⟨fun t fuel cs d ps ho h => (by
      simp only [Ty.okT] at ho
      split at ho
      · rename_i hu
        obtain ⟨b, rfl, he⟩ := DataW.trod_bool hu h
        obtain ⟨rfl, _⟩ := Prod.mk.inj he
        exact ⟨b, trivial, by simp [Ty.bulk, bulkD], by simp [absD, Ty.enc], LR.one (.bool b)⟩
      · cases ho), fun l off fuel cs ds ho => by simp [Ty.okL] at ho⟩
  | .int k => ⟨fun t fuel cs d ps ho h => (by
      simp only [Ty.okT] at ho
      split at ho
      · rename_i k' hu
        have hk : k = k' := by simpa using ho
        subst hk
        obtain ⟨n, rfl, he, hw⟩ := DataW.trod_int hu h
        obtain ⟨rfl, _⟩ := Prod.mk.inj he
        simp only [Lit.wf, Bool.and_eq_true, decide_eq_true_eq] at hw
        exact ⟨n, hw, by simp [Ty.bulk, bulkD], by simp [absD, Ty.enc], LR.one (.int k n)⟩
      · cases ho), fun l off fuel cs ds ho => by simp [Ty.okL] at ho⟩
  | .str => ⟨fun t fuel cs d ps ho h => (by
      simp only [Ty.okT] at ho
      split at ho
      · rename_i hu
        obtain ⟨b, rfl, he, hs⟩ := DataW.trod_string hu h
        obtain ⟨rfl, _⟩ := Prod.mk.inj he
        exact ⟨b, hs, by show b.data.size + 1 ≤ b.data.toList.length + 1; rw [Array.length_toList]; exact Nat.le_refl _, by simp [absD, Ty.enc], LR.one (.str b)⟩
      · cases ho), fun l off fuel cs ds ho => by simp [Ty.okL] at ho⟩
  | .slice e => ⟨fun t fuel cs d ps ho h => (by
      simp only [Ty.okT] at ho
      split at ho
      · rename_i u hu
        simp only [Bool.and_eq_true, beq_iff_eq] at ho
        obtain ⟨⟨ho, hsz⟩, hpos⟩ := ho
        have hpos : 0 < e.size := by simpa [Nat.blt_eq] using hpos
        rcases DataW.trod_slice hu h with ⟨rfl, he⟩ | ⟨a, len, cap, elems, rest, n, rfl, rfl, he, hb, hlc, hcap, hlen, hat, _, _⟩
        · obtain ⟨rfl, _⟩ := Prod.mk.inj he
          exact ⟨[], by simp [Ty.wf], by simp [Ty.bulk, bulkD], by simp [absD, Ty.enc, psN], LR.one (.ps0 _ _ _)⟩
        · obtain ⟨rfl, _⟩ := Prod.mk.inj he
          have each : ∀ i y, elems[i]? = some y → ∃ cs', w.cells? base (a.add (i * e.size)) e.size = some cs' ∧ RdT P w N e y.1 cs' := fun i y hy => by
            have hi : i < len := by have := (List.getElem?_eq_some_iff.1 hy).1; omega
            have h1 := hat i hi
            rw [hy, hsz] at h1
            simp only [Option.bind_eq_some_iff] at h1
            obtain ⟨cs', h2, h3⟩ := h1
            exact ⟨cs', h2, (rd e).1 u n cs' y.1 y.2 ho h3⟩
          -- the elements, as a list
          have all : ∀ (m : Nat) (es : List (DataW H × List MemPlace)) (i0 : Nat), (∀ i y, es[i]? = some y → ∃ cs', w.cells? base (a.add ((i0 + i) * e.size)) e.size = some cs' ∧ RdT P w N e y.1 cs') → m = es.length →
              ∃ xs : List e.den, xs.length = es.length ∧ (∀ x ∈ xs, e.wf x) ∧ (xs.map e.bulk).sum ≤ bulkDs (es.map (·.1)) ∧ mapO (absD e) (es.map (·.1)) = some (xs.map e.enc) ∧
                ∀ (i : Nat) x, xs[i]? = some x → ∃ cs', w.cells? base (a.add ((i0 + i) * e.size)) e.size = some cs' ∧ LR N (fun c => w.heap[c]?) noE (e.enc x) cs' := fun m => by
            induction m with
            | zero =>
              intro es i0 hes hm
              have : es = [] := by cases es with
                | nil => rfl
                | cons => simp at hm
              subst this
              exact ⟨[], rfl, by simp, by simp [bulkDs], rfl, fun i x hx => by simp at hx⟩
            | succ m ih =>
              intro es i0 hes hm
              cases es with
              | nil => simp at hm
              | cons y es =>
                obtain ⟨cs', h2, x, hw, hbk, ha, hl⟩ := hes 0 y rfl
                obtain ⟨xs, h3, h4, h5, h6, h7⟩ := ih es (i0 + 1) (fun i z hz => by
                  have := hes (i + 1) z (by simpa using hz)
                  rwa [show i0 + (i + 1) = i0 + 1 + i by omega] at this) (by simpa using hm)
                refine ⟨x :: xs, by simp [h3], fun z hz => ?_, ?_, ?_, fun i z hz => ?_⟩
                · rcases List.mem_cons.1 hz with rfl | hz
                  · exact hw
                  · exact h4 z hz
                · simp only [List.map_cons, List.sum_cons, bulkDs]; omega
                · simp [mapO, ha, h6]
                · cases i with
                  | zero => simp at hz; subst hz; exact ⟨cs', h2, hl⟩
                  | succ i =>
                    have := h7 i z (by simpa using hz)
                    rwa [show i0 + 1 + i = i0 + (i + 1) by omega] at this
          obtain ⟨xs, h3, h4, h5, h6, h7⟩ := all elems.length elems 0 (fun i y hy => by rw [Nat.zero_add]; exact each i y hy) rfl
          have hxs : xs.length = len := by omega
          have hps : VR N (fun c => w.heap[c]?) noE (.ps e.size (xs.map e.enc)) (.slice (some a) len cap) := by
            cases hx0 : xs with
            | nil => rw [hx0] at hxs; simp at hxs; subst hxs; exact .ps0 _ _ _
            | cons x0 xs0 =>
              obtain ⟨cs0, hc0, _⟩ := h7 0 x0 (by rw [hx0]; rfl)
              rw [Nat.zero_add, Nat.zero_mul, add_zero] at hc0
              obtain ⟨_, hsp, c, t', fr, hblk, _, _⟩ := cells_at hpos hc0
              rw [← hx0]
              have hel : ∀ e' ∈ xs.map e.enc, e'.length = e.size := fun e' he' => by
                simp only [List.mem_map] at he'
                obtain ⟨x, _, rfl⟩ := he'
                exact Ty.enc_length e x
              have hcell : ∀ i x, xs[i]? = some x → ∃ cs', cs'.length = e.size ∧ a.off + i * e.size + e.size ≤ c.size ∧ (∀ k, k < e.size → cs'[k]? = c[a.off + i * e.size + k]?) ∧ LR N (fun c => w.heap[c]?) noE (e.enc x) cs' := fun i x hx => by
                obtain ⟨cs', hc, hl⟩ := h7 i x hx
                rw [Nat.zero_add] at hc
                obtain ⟨g1, _, c2, t2, fr2, g2, g3, g4⟩ := cells_at hpos hc
                rw [add_block] at g2
                have : w.heap[a.block]? = some (.cells c2 t2 fr2) := g2
                rw [hblk] at this
                injection this with this
                injection this with this
                subst this
                rw [add_off] at g3 g4
                exact ⟨cs', g1, g3, g4, hl⟩
              have hlen2 : (xs.map e.enc).length = len := by simp [hxs]
              rw [← hlen2]
              refine .ps (by omega) hblk hsp hel ?_ fun k x y hx hy => ?_
              · rw [flat_length hel]
                have hlast : xs[len - 1]? = some (xs[len - 1]'(by have := hxs; rw [hx0] at this; simp at this; omega)) := List.getElem?_eq_getElem _
                obtain ⟨_, _, g, _⟩ := hcell _ _ hlast
                have h1 : 0 < len := by have := hxs; rw [hx0] at this; simp at this; omega
                have h2 : (len - 1) * e.size + e.size = len * e.size := by
                  rw [← Nat.succ_mul]; congr 1; omega
                rw [hlen2]; omega
              · have hk : k < (xs.map e.enc).flatten.length := (List.getElem?_eq_some_iff.1 hx).1
                rw [flat_length hel, hlen2] at hk
                have hd : k / e.size < len := (Nat.div_lt_iff_lt_mul hpos).2 hk
                have hxi : xs[k / e.size]? = some (xs[k / e.size]'(by omega)) := List.getElem?_eq_getElem _
                obtain ⟨cs', g1, g2, g3, g4⟩ := hcell _ _ hxi
                have hm : k % e.size < e.size := Nat.mod_lt _ hpos
                have hkk : k / e.size * e.size + k % e.size = k := by rw [Nat.mul_comm]; exact Nat.div_add_mod k e.size
                have hfl := flat_get hel (i := k / e.size) (e := e.enc (xs[k / e.size]'(by omega))) (by simp [hxi])
                have hx2 : (e.enc (xs[k / e.size]'(by omega)))[k % e.size]? = some x := by
                  rw [← hfl, List.getElem?_take, if_pos hm, List.getElem?_drop, hkk]; exact hx
                refine g4.2 (k % e.size) x y hx2 ?_
                rw [g3 _ hm, Nat.add_assoc, hkk]; exact hy
          exact ⟨xs, h4, by simp only [Ty.bulk, bulkD]; omega, by simp [absD, Ty.enc, h6], LR.one hps.psN⟩
      · cases ho), fun l off fuel cs ds ho => by simp [Ty.okL] at ho⟩
  | .nil => ⟨fun t fuel cs d ps ho h => (by
      simp only [Ty.okT] at ho
      split at ho
      · rename_i hp
        obtain ⟨n, ds, rfl, rfl, hl, hat⟩ := parts_of hp h
        have hz : P.cellsOf t = 0 := by simpa using ho
        have hcs : cs = [] := List.length_eq_zero_iff.1 (by omega)
        subst hcs
        cases ds with
        | nil => exact ⟨(), trivial, by simp [Ty.bulk], by simp [absD, Ty.enc], LR.nil⟩
        | cons => cases hat
      · cases ho), fun l off fuel cs ds ho hat _ => by
      cases l with
      | cons => simp [Ty.okL] at ho
      | nil =>
        cases ds with
        | cons => cases hat
        | nil => exact ⟨(), trivial, by simp [Ty.bulk], by simp [absL, Ty.enc], by simp [Ty.size, Ty.enc]; exact LR.nil⟩⟩
  | .cons a b => by
    have key : ∀ (l : List (TypeId × Nat)) (off fuel : Nat) (cs : List Value) (ds : List (DataW H)), Ty.okL P (.cons a b) l off = true → PartsAt P w enc base sp held fuel cs l ds → off + (Ty.cons a b).size ≤ cs.length → RdL P w N (.cons a b) ds ((cs.drop off).take (Ty.cons a b).size) := fun l off fuel cs ds ho hat hlen => by
      cases l with
      | nil => simp [Ty.okL] at ho
      | cons p l =>
        obtain ⟨u, o⟩ := p
        simp only [Ty.okL, Bool.and_eq_true, beq_iff_eq] at ho
        obtain ⟨⟨⟨rfl, hsz⟩, h1⟩, h2⟩ := ho
        cases ds with
        | nil => cases hat
        | cons d ds =>
          obtain ⟨⟨ps, ht⟩, hat⟩ := hat
          rw [hsz] at ht
          obtain ⟨x, x1, x2, x3, x4⟩ := (rd a).1 u fuel _ d ps h1 ht
          simp only [Ty.size] at hlen
          obtain ⟨y, y1, y2, y3, y4⟩ := (rd b).2 l (o + a.size) fuel cs ds h2 hat (by omega)
          refine ⟨(x, y), ⟨x1, y1⟩, by simp only [Ty.bulk, bulkDs]; omega, by simp [absL, x3, y3, Ty.enc], ?_⟩
          simp only [Ty.enc, Ty.size]
          rw [List.take_add, List.drop_drop]
          exact x4.append y4
    refine ⟨fun t fuel cs d ps ho h => ?_, key⟩
    simp only [Ty.okT] at ho
    split at ho
    · rename_i u o l hp
      simp only [Bool.and_eq_true, beq_iff_eq] at ho
      obtain ⟨⟨⟨⟨rfl, h1⟩, h2⟩, h3⟩, h4⟩ := ho
      obtain ⟨n, ds, rfl, rfl, hl, hat⟩ := parts_of hp h
      obtain ⟨x, x1, x2, x3, x4⟩ := key _ 0 n cs ds (by simp [Ty.okL, h1, h2, h3]) hat (by simp [Ty.size]; omega)
      refine ⟨x, x1, by simp only [bulkD]; omega, ?_, ?_⟩
      · cases ds with
        | nil => cases hat
        | cons d ds => simpa [absD, absL] using x3
      · rw [List.drop_zero, List.take_of_length_le (by simp [Ty.size]; omega)] at x4
        exact x4
    · cases ho
end
end Am
