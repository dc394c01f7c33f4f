/- The operations: what the abstract machine does, the model does. First part. -/
import Derived.Test.YtnfcgeplleikdaaDoorAmComp
import Derived.ChangeKeysEq
import Derived.Laws.Entries
namespace Am
open Go (IntKind BinOp UnOp Obj Value World Addr Program TypeDesc TypeId Operand Act Sem Result Next)

/-- '==' at a type goes cell by cell. -/
def eqSv : Value → Value → Option Bool
  | .int k a, .int k' b => if k = k' then some (a == b) else none
  | .bool a, .bool b => some (a == b)
  | .string a, .string b => some (a == b)
  | _, _ => none
def eqLv : List Value → List Value → Option Bool
  | [], [] => some true
  | x :: xs, y :: ys => (eqSv x y).bind fun b => (eqLv xs ys).bind fun r => some (b && r)
  | _, _ => none
def eqKv : Value → Value → Option Bool
  | .agg a, .agg b => eqLv a.toList b.toList
  | x, y => eqSv x y
def fitVv : Bk → Value → Bool
  | .b, .bool _ => true
  | .i, .int .. => true
  | .s, .string _ => true
  | _, _ => false
def fitsv : List Bk → List Value → Bool
  | [], [] => true
  | k :: ks, v :: vs => fitVv k v && fitsv ks vs
  | _, _ => false
def isAggv : Value → Bool
  | .agg _ => true
  | _ => false
def keyOKv (K : KS) (k : Value) : Bool := (isAggv k == K.ag) && fitsv K.ks k.cells.toList
structure PlainOK (P : Program) (t : TypeId) (K : KS) : Prop where
  guard : P.eqGuardType P.depth t = false
  equal : ∀ x y r w, keyOKv K x = true → eqKv x y = some r → (Go.Op.equal t x y).run P w = .ok r w
  key : ∀ b x w, keyOKv K x = true → (Go.Instr.checkKey b 10000 t x).run P w = .ok () w

structure TIok (P : Program) (N : Nat → Nat) (t : TypeId) (i : TI) : Prop where
  und : P.underlying t = some i.desc
  info : ∃ info, P.info? t = some info ∧ info.size = i.size ∧ info.bytes = i.bytes ∧ (∀ z, i.zero = some z → ∃ zv, info.zero = some zv ∧ constV N 5 zv = some z)
  plain : ∀ K, i.plain = some K → PlainOK P t K
def TabOK (P : Program) (N : Nat → Nat) (tb : TypeId → Option TI) : Prop := ∀ t i, tb t = some i → TIok P N t i

def GlobOK (Γ : Env) (N : Nat → Nat) (I : Imm) : Prop :=
  ∀ g cells, Γ.glob g = some cells → ∃ cs t fr, I g = some (.cells cs t fr) ∧ PR N I noE cells cs 0

def TmR (N : Nat → Nat) (I : Imm) (ι : Emb) (tm : List V) (tmps : Array Value) : Prop :=
  tm.length = tmps.size ∧ ∀ (t : Nat) x y, tm[t]? = some x → tmps[t]? = some y → VR N I ι x y

section
variable {P : Program} {N : Nat → Nat} {tb : TypeId → Option TI} {Γ : Env} {I I' : Imm} {ι ι' : Emb} {h h' : Heap} {w w' : World} {tm : List V} {a : Act} {slot : Option Nat}

theorem run_ti {t : TypeId} {i : Go.TypeInfo} (h : P.info? t = some i) (w : World) : (Go.typeInfo t).run P w = .ok i w := by simp [Go.typeInfo, h]

theorem TmR.mono (hI : SubI I I') (hι : SubE ι ι') {tmps : Array Value} (h : TmR N I ι tm tmps) : TmR N I' ι' tm tmps :=
  ⟨h.1, fun t x y hx hy => (h.2 t x y hx hy).mono hI hι⟩
theorem GlobOK.mono (hI : SubI I I') (h : GlobOK Γ N I) : GlobOK Γ N I' := fun g cells hg => by
  obtain ⟨cs, t, fr, h1, h2⟩ := h g cells hg
  exact ⟨cs, t, fr, hI _ _ h1, h2.mono hI (fun _ _ h => h)⟩

theorem mapO_length {α β : Type} {f : α → Option β} : ∀ {l : List α} {r : List β}, mapO f l = some r → r.length = l.length
  | [], r, h => by simp [mapO] at h; subst h; rfl
  | x :: xs, r, h => by
    simp only [mapO, Option.bind_eq_some_iff, Option.map_eq_some_iff] at h
    obtain ⟨y, _, ys, h2, rfl⟩ := h
    simp [mapO_length h2]
theorem mapO_get {α β : Type} {f : α → Option β} : ∀ {l : List α} {r : List β}, mapO f l = some r → ∀ (k : Nat) x y, l[k]? = some x → r[k]? = some y → f x = some y
  | [], r, h, k, x, y, hx, _ => by simp at hx
  | z :: zs, r, h, k, x, y, hx, hy => by
    simp only [mapO, Option.bind_eq_some_iff, Option.map_eq_some_iff] at h
    obtain ⟨u, h1, us, h2, rfl⟩ := h
    cases k with
    | zero => simp at hx hy; subst hx; subst hy; exact h1
    | succ k => exact mapO_get h2 k x y (by simpa using hx) (by simpa using hy)

theorem constV_sim : ∀ {n : Nat} {v : Value} {x : V}, constV N n v = some x → VR N I ι x v
  | 0, v, x, h => by simp [constV] at h
  | n + 1, v, x, h => by
    unfold constV at h
    split at h
    · injection h with h; subst h; exact .bool _
    · injection h with h; subst h; exact .int _ _
    · injection h with h; subst h; exact .str _
    · injection h with h; subst h; exact .flt _
    · injection h with h; subst h; exact .nils _
    · injection h with h; subst h; exact .nilp
    · injection h with h; subst h; exact .nilm
    · injection h with h; subst h; exact .nilf
    · rename_i cs
      obtain ⟨l, hl, rfl⟩ := Option.map_eq_some_iff.1 h
      exact .agg (by rw [mapO_length hl, Array.length_toList]) fun k a b ha hb => constV_sim (mapO_get hl k b a (by simpa using hb) ha)
    · rename_i cs
      obtain ⟨l, hl, rfl⟩ := Option.map_eq_some_iff.1 h
      exact .tup (by rw [mapO_length hl, Array.length_toList]) fun k a b ha hb => constV_sim (mapO_get hl k b a (by simpa using hb) ha)
    · rename_i f p q
      obtain ⟨l, hl, h⟩ := Option.bind_eq_some_iff.1 h
      obtain ⟨l', hl', rfl⟩ := Option.map_eq_some_iff.1 h
      exact .fn (by rw [mapO_length hl, Array.length_toList]) (by rw [mapO_length hl', Array.length_toList])
        (fun k a b ha hb => constV_sim (mapO_get hl k b a (by simpa using hb) ha)) (fun k a b ha hb => constV_sim (mapO_get hl' k b a (by simpa using hb) ha))
    · cases h

theorem ev_sim {o : Operand} {x : Opd} {v : V} (hc : compO N o = some x) (hx : x.ev Γ tm = some v) (ht : TmR N I ι tm a.tmps) (hg : GlobOK Γ N I) : VR N I ι v (a.eval o) := by
  cases o with
  | tmp t =>
    simp only [compO, Option.some.injEq] at hc; subst hc
    simp only [Opd.ev] at hx
    have hl : t < tm.length := (List.getElem?_eq_some_iff.1 hx).1
    have hl' : t < a.tmps.size := ht.1 ▸ hl
    have : a.tmps[t]? = some (a.tmps[t]) := Array.getElem?_eq_getElem hl'
    have h2 := ht.2 t v _ hx this
    simpa [Act.eval, Array.getD, hl'] using h2
  | const c =>
    simp only [compO, Option.map_eq_some_iff] at hc
    obtain ⟨y, hy, rfl⟩ := hc
    simp only [Opd.ev, Option.some.injEq] at hx; subst hx
    exact constV_sim hy
  | global g =>
    simp only [compO, Option.some.injEq] at hc; subst hc
    simp only [Opd.ev, Option.map_eq_some_iff] at hx
    obtain ⟨cells, hcells, rfl⟩ := hx
    obtain ⟨cs, t, fr, h1, h2⟩ := hg g cells hcells
    exact .pp (base := 0) h1 rfl rfl (by simpa using h2.1) fun k x y hx hy => h2.2 k x y hx hy
  | func f =>
    simp only [compO, Option.some.injEq] at hc; subst hc
    simp only [Opd.ev, Option.some.injEq] at hx; subst hx
    exact .fn rfl rfl (fun k x y hx => by simp at hx) (fun k x y hx => by simp at hx)

/-- What an operation comes to. -/
def Good1 (P : Program) (N : Nat → Nat) (I : Imm) (ι : Emb) (h : Heap) (w : World) (slot : Option Nat) (v : V) (h' : Heap) (s : Sem Next) : Prop :=
  ∃ r val w' ι', s.run P w = .ok r w' ∧ (r = .value val ∨ (r = .skip ∧ val = Go.undef)) ∧ VR N I ι' v val ∧ Rel N I ι' h' w' ∧ Ext I ι h w I ι' h' w' ∧
    (∀ b, ι b = none → ι' b ≠ none → (slot = some b ∨ (h.length ≤ b ∧ b < h'.length)))

theorem good_quiet {v : V} {val : Value} {s : Sem Next} (hr : Rel N I ι h w) (hs : s.run P w = .ok (.value val) w) (hv : VR N I ι v val) : Good1 P N I ι h w slot v h s :=
  ⟨_, val, w, ι, hs, .inl rfl, hv, hr, Ext.refl _ _ _ _, fun b h1 h2 => absurd h1 h2⟩

theorem good_put {v : V} {val : Value} {s : Sem Next} {ob : Ob} {b m : Nat} {o : Obj} (hr : Rel N I ι h w) (hf : ι h.length = none) (hsl : ∀ s, slot = some s → ι s = none) (hp : put h slot ob = some (b, h'))
    (ho : ObR N I ι m ob o) (hs : s.run P w = .ok (.value val) (w.alloc o)) (hv : VR N I (upd ι b (w.heap.size, m)) v val) : Good1 P N I ι h w slot v h' s := by
  have hb : ι b = none ∧ (slot = some b ∨ h.length ≤ b) := by
    unfold put at hp
    cases slot with
    | none => injection hp with hp; obtain ⟨rfl, _⟩ := Prod.mk.inj hp; exact ⟨hf, .inr (Nat.le_refl _)⟩
    | some s =>
      dsimp only at hp
      split at hp
      · injection hp with hp; obtain ⟨rfl, _⟩ := Prod.mk.inj hp; exact ⟨hsl _ rfl, .inl rfl⟩
      · cases hp
  obtain ⟨h1, h2, h3, _⟩ := rel_put hr hp hb.1 ho
  refine ⟨_, val, _, _, hs, .inl rfl, hv, h1, h2, fun n hn hn' => ?_⟩
  by_cases e : n = b
  · subst e
    rcases hb.2 with h4 | h4
    · exact .inl h4
    · exact .inr ⟨h4, h3⟩
  · unfold upd at hn'; rw [if_neg e] at hn'; exact absurd hn hn'

theorem oneCell_of {x : V} {v : Value} (h : VR N I ι x v) (ho : x.one = true) : v.oneCell' = true := by
  cases h <;> simp_all [V.one, Go.Value.oneCell']
theorem cells_sim {x : V} {v : Value} (h : VR N I ι x v) : LR N I ι x.cells v.cells.toList := by
  cases h with
  | agg h1 h2 => exact ⟨by simpa [V.cells, Value.cells] using h1, fun k x y hx hy => h2 k x y (by simpa [V.cells] using hx) (by simpa [Value.cells] using hy)⟩
  | _ => all_goals exact .cons (by constructor <;> assumption) .nil
theorem fit_sim {k : Bk} {x : V} {v : Value} (h : VR N I ι x v) (hf : fit k x = true) : fitVv k v = true := by
  cases k <;> cases h <;> simp_all [fit, fitVv]
theorem fits_sim : ∀ {ks : List Bk} {xs : List V} {vs : List Value}, LR N I ι xs vs → fits ks xs = true → fitsv ks vs = true
  | [], [], vs, h, _ => by
    have := h.1
    cases vs with
    | nil => rfl
    | cons => simp at this
  | k :: ks, x :: xs, vs, h, hf => by
    obtain ⟨u, us, rfl, hu, hus⟩ := h.cons_inv
    simp only [fits, Bool.and_eq_true] at hf
    simp [fitsv, fit_sim hu hf.1, fits_sim hus hf.2]
  | [], _ :: _, _, _, hf => by simp [fits] at hf
  | _ :: _, [], _, _, hf => by simp [fits] at hf
theorem keyOK_sim {K : KS} {x : V} {v : Value} (h : VR N I ι x v) (hf : keyOK K x = true) : keyOKv K v = true := by
  simp only [keyOK, Bool.and_eq_true, beq_iff_eq] at hf
  simp only [keyOKv, Bool.and_eq_true, beq_iff_eq]
  refine ⟨?_, fits_sim (cells_sim h) hf.2⟩
  rw [← hf.1]
  cases h <;> rfl
end
end Am
