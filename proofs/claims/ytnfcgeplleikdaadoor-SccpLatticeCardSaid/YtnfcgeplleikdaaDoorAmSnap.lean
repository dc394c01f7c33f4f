/- Values read off a memory. -/
import Derived.Test.YtnfcgeplleikdaaDoorAmOpx
namespace Am
open Go (IntKind BinOp UnOp Obj Value World Addr Program)
section
variable {N : Nat → Nat} {I I' Iz : Imm} {ι ι' : Emb} {h h' : Heap} {w w' : World}

/-- Own blocks of this memory, as they stand, are among Iz. -/
def Seen (Iz : Imm) (ι : Emb) (h : Heap) (w : World) : Prop := ∀ b c, ι b = some c → Ob.live h[b]? = true → ∀ o, w.heap[c.1]? = some o → Iz c.1 = some o

theorem mapO_lr {f : V → Option V} {J : Imm} {κ : Emb} (hf : ∀ v v' u, f v = some v' → VR N I ι v u → VR N J κ v' u) : ∀ {xs xs' : List V} {ys : List Value}, mapO f xs = some xs' → LR N I ι xs ys → LR N J κ xs' ys
  | [], xs', ys, h, hl => by
    simp [mapO] at h; subst h
    have := hl.1
    cases ys with
    | nil => exact .nil
    | cons y ys => simp at this
  | x :: xs, xs', ys, h, hl => by
    simp only [mapO, Option.bind_eq_some_iff, Option.map_eq_some_iff] at h
    obtain ⟨y, hy, zs, hzs, rfl⟩ := h
    obtain ⟨u, us, rfl, hu, hus⟩ := hl.cons_inv
    exact .cons (hf _ _ _ hy hu) (mapO_lr hf hzs hus)

theorem mapO_append {α β : Type} {f : α → Option β} : ∀ {xs ys : List α} {zs us : List β}, mapO f xs = some zs → mapO f ys = some us → mapO f (xs ++ ys) = some (zs ++ us)
  | [], ys, zs, us, h1, h2 => by simp [mapO] at h1; subst h1; simpa using h2
  | x :: xs, ys, zs, us, h1, h2 => by
    simp only [mapO, Option.bind_eq_some_iff, Option.map_eq_some_iff] at h1
    obtain ⟨y, hy, ws, hws, rfl⟩ := h1
    simp [mapO, hy, mapO_append hws h2]

theorem mapO_flat {f : V → Option V} : ∀ {els els' : List (List V)}, mapO (mapO f) els = some els' → mapO f els.flatten = some els'.flatten
  | [], els', h => by simp [mapO] at h; subst h; simp [mapO]
  | x :: xs, els', h => by
    simp only [mapO, Option.bind_eq_some_iff, Option.map_eq_some_iff] at h
    obtain ⟨y, hy, zs, hzs, rfl⟩ := h
    simp only [List.flatten_cons]
    exact mapO_append hy (mapO_flat hzs)
theorem mapO_each {f : V → Option V} {z : Nat} {els els' : List (List V)} (h : mapO (mapO f) els = some els') (hz : ∀ e ∈ els, e.length = z) : ∀ e ∈ els', e.length = z := fun e he => by
  obtain ⟨k, hk, rfl⟩ := List.getElem_of_mem he
  have hk' : k < els.length := by rw [← mapO_length h]; exact hk
  have := mapO_get h k els[k] els'[k] (List.getElem?_eq_getElem hk') (List.getElem?_eq_getElem hk)
  rw [mapO_length this]
  exact hz _ (List.getElem_mem hk')

theorem LR.of_arr {xs : List V} {ys : Array Value} (hl : xs.length = ys.size) (h : ∀ (k : Nat) x y, xs[k]? = some x → ys[k]? = some y → VR N I ι x y) : LR N I ι xs ys.toList :=
  ⟨by simpa using hl, fun k x y hx hy => h k x y hx (by simpa using hy)⟩

theorem ps_of {Iz : Imm} {z : Nat} {els : List (List V)} {ad : Addr} {cap : Nat} {cs : Array Value} {t : Nat} {fr : Nat × Nat} (h1 : els.length ≤ cap) (h2 : Iz ad.block = some (.cells cs t fr)) (h3 : ad.spot = none) (h4 : ∀ e ∈ els, e.length = z)
    (h5 : ad.off + els.flatten.length ≤ cs.size) (h6 : LR N Iz noE els.flatten ((cs.toList.drop ad.off).take els.flatten.length)) : VR N Iz ι (.ps z els) (.slice (some ad) els.length cap) :=
  .ps h1 h2 h3 h4 h5 (PR.of_lr h5 h6).2

/-- A slice of an own block, read. -/
theorem sl_read {f : V → Option V} (hr : Rel N I ι h w) (hseen : Seen Iz ι h w) (hf : ∀ v v' u, f v = some v' → VR N I ι v u → VR N Iz noE v' u) {b z off len : Nat} {cap : Option Nat} {u : Value} {els ys : List (List V)}
    (hrow : rowAt h b z = some els) (hfit : off + len ≤ els.length) (hm : mapO (mapO f) ((els.drop off).take len) = some ys) (hv : VR N I ι (.sl b z off len cap) u) : VR N Iz noE (.ps z ys) u := by
  have hyl : ys.length = len := by rw [mapO_length hm]; simp; omega
  cases hv with
  | @sl _ _ _ _ _ _ ad c cap' hb hle _ had =>
    rcases Nat.eq_zero_or_pos len with h0 | h0
    · subst h0
      obtain rfl := List.eq_nil_of_length_eq_zero hyl
      exact .ps0 _ _ _
    · obtain ⟨rfl, hc⟩ := had (by omega)
      have hb' := rowAt_some hrow
      obtain ⟨_, cs, t, hw, hsz, hz, hp⟩ := hr.row _ _ _ _ hb hb'
      have hlv : Ob.live h[b]? = true := by rw [hb']; rfl
      have hIz := hseen _ _ hb hlv _ hw
      have hsub : ∀ e ∈ (els.drop off).take len, e.length = z := fun e he => hz e (List.mem_of_mem_drop (List.mem_of_mem_take he))
      have hyz := mapO_each hm hsub
      have hyf : ys.flatten.length = len * z := by rw [flat_length hyz, hyl]
      have hmul : (off + len) * z ≤ (off + cap') * z := Nat.mul_le_mul_right _ (by omega)
      have hlr := mapO_lr hf (mapO_flat hm) (ys := (cs.toList.drop (off * z)).take (len * z)) (by
        rw [flat_take _ (fun e he => hz e (List.mem_of_mem_drop he)), flat_drop _ hz]
        have h2 := hp.lr
        simp only [List.drop_zero] at h2
        have h3 : LR N I ι (List.drop (off * z) els.flatten) ((cs.toList.drop (off * z)).take (els.flatten.length - off * z)) := by
          have := h2.drop (off * z)
          rwa [List.drop_take] at this
        have h4 := h3.take (len * z)
        rw [List.take_take] at h4
        have hfl := flat_length hz
        have : len * z ≤ els.flatten.length - off * z := by
          rw [hfl, ← Nat.sub_mul]; exact Nat.mul_le_mul_right _ (by omega)
        rwa [Nat.min_eq_left this] at h4)
      have := ps_of (N := N) (Iz := Iz) (ι := noE) (z := z) (els := ys) (ad := ⟨c.1, off * z, none⟩) (cap := cap') (by omega) hIz rfl hyz (by rw [hyf, hsz, ← Nat.add_mul]; exact Nat.le_trans hmul hc) (by rw [hyf]; exact hlr)
      rwa [hyl] at this

theorem fn_lr {f : Nat} {a c : List V} {u : Value} (hv : VR N I ι (.fn f a c) u) : ∃ g a' c', u = .func (.func g) a' c' ∧ N g = f ∧ LR N I ι a a'.toList ∧ LR N I ι c c'.toList := by
  cases hv with
  | fn h1 h2 h3 h4 => exact ⟨_, _, _, rfl, rfl, .of_arr h1 h3, .of_arr h2 h4⟩
theorem fn_of {g : Nat} {a c : List V} {a' c' : Array Value} (h1 : LR N I ι a a'.toList) (h2 : LR N I ι c c'.toList) : VR N I ι (.fn (N g) a c) (.func (.func g) a' c') :=
  .fn (by simpa using h1.1) (by simpa using h2.1) (fun k x y hx hy => h1.2 k x y hx (by simpa using hy)) (fun k x y hx hy => h2.2 k x y hx (by simpa using hy))
theorem agg_of {a : List V} {a' : Array Value} (h1 : LR N I ι a a'.toList) : VR N I ι (.agg a) (.agg a') :=
  .agg (by simpa using h1.1) (fun k x y hx hy => h1.2 k x y hx (by simpa using hy))
theorem tup_of {a : List V} {a' : Array Value} (h1 : LR N I ι a a'.toList) : VR N I ι (.tup a) (.tuple a') :=
  .tup (by simpa using h1.1) (fun k x y hx hy => h1.2 k x y hx (by simpa using hy))

theorem VR.psN {J : Imm} {κ : Emb} {z : Nat} {els : List (List V)} {u : Value} (h : VR N J κ (.ps z els) u) : VR N J κ (psN z els) u := by
  cases els with
  | nil =>
    cases h with
    | ps0 => exact .ps0 _ _ _
    | ps => exact .ps0 _ _ _
  | cons => exact h
/-- What a call made, with its new numbers. -/
theorem imp_sim {J J' : Imm} {κ κ' : Emb} {k : Nat} (hk : ∀ b c, κ b = some c → κ' (b + k) = some c) : ∀ {n : Nat} {v v' : V} {u : Value}, imp k n v = some v' → VR N J κ v u → VR N J' κ' v' u
  | 0, v, v', u, hs, _ => by simp [imp] at hs
  | n + 1, v, v', u, hs, hv => by
    have ih : ∀ v v' u, imp k n v = some v' → VR N J κ v u → VR N J' κ' v' u := fun v v' u => imp_sim hk
    cases v with
    | sl b z off len cap =>
      simp only [imp, Option.some.injEq] at hs; subst hs
      cases hv with
      | sl h1 h2 h3 h4 => exact .sl (hk _ _ h1) h2 h3 h4
    | ptr b z i o =>
      simp only [imp, Option.some.injEq] at hs; subst hs
      cases hv with
      | ptr h1 => exact .ptr (hk _ _ h1)
    | mp b =>
      simp only [imp, Option.some.injEq] at hs; subst hs
      cases hv with
      | mp h1 => exact .mp (hk _ _ h1)
    | agg cs =>
      simp only [imp, Option.map_eq_some_iff] at hs
      obtain ⟨a1, ha, rfl⟩ := hs
      cases hv with
      | agg h1 h2 => exact agg_of (mapO_lr ih ha (.of_arr h1 h2))
    | tup cs =>
      simp only [imp, Option.map_eq_some_iff] at hs
      obtain ⟨a1, ha, rfl⟩ := hs
      cases hv with
      | tup h1 h2 => exact tup_of (mapO_lr ih ha (.of_arr h1 h2))
    | ps z els =>
      cases els with
      | cons => simp [imp] at hs
      | nil =>
        simp only [imp, Option.some.injEq] at hs; subst hs
        cases hv with
        | ps0 => exact .ps0 _ _ _
        | ps => exact .ps0 _ _ _
    | nils => simp only [imp, Option.some.injEq] at hs; subst hs; cases hv; exact .nils _
    | pp => simp [imp] at hs
    | fn => simp [imp] at hs
    | _ => all_goals (simp only [imp, Option.some.injEq] at hs; subst hs; cases hv; constructor)
theorem snap_sim (hr : Rel N I ι h w) (hsub : SubI I Iz) (hseen : Seen Iz ι h w) : ∀ {n : Nat} {v v' : V} {u : Value}, snap h n v = some v' → VR N I ι v u → VR N Iz noE v' u
  | 0, v, v', u, hs, _ => by simp [snap] at hs
  | n + 1, v, v', u, hs, hv => by
    have ih : ∀ v v' u, snap h n v = some v' → VR N I ι v u → VR N Iz noE v' u := fun v v' u => snap_sim hr hsub hseen
    cases v with
    | sl b z off len cap =>
      simp only [snap, Option.bind_eq_some_iff] at hs
      obtain ⟨els, hrow, hs⟩ := hs
      split at hs
      · rename_i hfit
        simp only [Option.map_eq_some_iff] at hs
        obtain ⟨ys, hm, rfl⟩ := hs
        exact (sl_read hr hseen ih hrow hfit hm hv).psN
      · cases hs
    | nils =>
      simp only [snap, Option.some.injEq] at hs; subst hs
      cases hv; exact .ps0 _ _ _
    | ptr b z i o =>
      simp only [snap, Option.bind_eq_some_iff, Option.map_eq_some_iff] at hs
      obtain ⟨els, hrow, e, he, ys, hm, rfl⟩ := hs
      cases hv with
      | ptr hb =>
        have hb' := rowAt_some hrow
        obtain ⟨_, cs, t, hw, hsz, hrr⟩ := hr.row _ _ _ _ hb hb'
        have hIz := hseen _ _ hb (by rw [hb']; rfl) _ hw
        have hp := hrr.elem he
        have hlr := mapO_lr ih hm hp.lr
        have hyl := mapO_length hm
        have hp' : PR N Iz noE ys cs (i * z) := PR.of_lr (by rw [hyl]; exact hp.1) (by rw [hyl]; exact hlr)
        exact .pp (base := i * z) hIz rfl rfl hp'.1 hp'.2
    | mp b => simp [snap] at hs
    | fn f a c =>
      simp only [snap, Option.bind_eq_some_iff, Option.map_eq_some_iff] at hs
      obtain ⟨a1, ha, c1, hc, rfl⟩ := hs
      obtain ⟨g, a', c', rfl, rfl, h1, h2⟩ := fn_lr hv
      exact fn_of (mapO_lr ih ha h1) (mapO_lr ih hc h2)
    | agg cs =>
      simp only [snap, Option.map_eq_some_iff] at hs
      obtain ⟨a1, ha, rfl⟩ := hs
      cases hv with
      | agg h1 h2 => exact agg_of (mapO_lr ih ha (.of_arr h1 h2))
    | tup cs =>
      simp only [snap, Option.map_eq_some_iff] at hs
      obtain ⟨a1, ha, rfl⟩ := hs
      cases hv with
      | tup h1 h2 => exact tup_of (mapO_lr ih ha (.of_arr h1 h2))
    | bool b => simp only [snap, Option.some.injEq] at hs; subst hs; cases hv; constructor
    | int k b => simp only [snap, Option.some.injEq] at hs; subst hs; cases hv; constructor
    | str b => simp only [snap, Option.some.injEq] at hs; subst hs; cases hv; constructor
    | flt b => simp only [snap, Option.some.injEq] at hs; subst hs; cases hv; constructor
    | ps z els =>
      simp only [snap, Option.some.injEq] at hs; subst hs
      cases hv with
      | ps0 => exact .ps0 _ _ _
      | ps h1 h2 h3 h4 h5 h6 => exact .ps h1 (hsub _ _ h2) h3 h4 h5 fun k x y hx hy => (h6 k x y hx hy).mono hsub fun _ _ h => h
    | pp cells o =>
      simp only [snap, Option.some.injEq] at hs; subst hs
      cases hv with
      | pp h1 h3 h4 h5 h6 => exact .pp (hsub _ _ h1) h3 h4 h5 fun k x y hx hy => (h6 k x y hx hy).mono hsub fun _ _ h => h
    | nilp => simp only [snap, Option.some.injEq] at hs; subst hs; cases hv; constructor
    | nilm => simp only [snap, Option.some.injEq] at hs; subst hs; cases hv; constructor
    | nilf => simp only [snap, Option.some.injEq] at hs; subst hs; cases hv; constructor

theorem read_sim (hr : Rel N I ι h w) (hseen : Seen Iz ι h w) : ∀ {n : Nat} {v v' : V} {u : Value}, read h n v = some v' → VR N I ι v u → VR N Iz noE v' u
  | 0, v, v', u, hs, _ => by simp [read] at hs
  | n + 1, v, v', u, hs, hv => by
    have ih : ∀ v v' u, read h n v = some v' → VR N I ι v u → VR N Iz noE v' u := fun v v' u => read_sim hr hseen
    cases v with
    | sl b z off len cap =>
      simp only [read, Option.bind_eq_some_iff] at hs
      obtain ⟨els, hrow, hs⟩ := hs
      split at hs
      · rename_i hfit
        simp only [Option.map_eq_some_iff] at hs
        obtain ⟨ys, hm, rfl⟩ := hs
        exact (sl_read hr hseen ih hrow hfit hm hv).psN
      · cases hs
    | nils =>
      simp only [read, Option.some.injEq] at hs; subst hs
      cases hv; exact .ps0 _ _ _
    | agg cs =>
      simp only [read, Option.map_eq_some_iff] at hs
      obtain ⟨a1, ha, rfl⟩ := hs
      cases hv with
      | agg h1 h2 => exact agg_of (mapO_lr ih ha (.of_arr h1 h2))
    | tup cs =>
      simp only [read, Option.map_eq_some_iff] at hs
      obtain ⟨a1, ha, rfl⟩ := hs
      cases hv with
      | tup h1 h2 => exact tup_of (mapO_lr ih ha (.of_arr h1 h2))
    | bool b => simp only [read, Option.some.injEq] at hs; subst hs; cases hv; constructor
    | int k b => simp only [read, Option.some.injEq] at hs; subst hs; cases hv; constructor
    | str b => simp only [read, Option.some.injEq] at hs; subst hs; cases hv; constructor
    | flt b => simp only [read, Option.some.injEq] at hs; subst hs; cases hv; constructor
    | _ => all_goals simp [read] at hs
end
end Am
