/- The operations on memory: loads, stores, new blocks. -/
import Derived.Test.YtnfcgeplleikdaaDoorAmOps
namespace Am
open Go (IntKind BinOp UnOp Obj Value World Addr Program TypeDesc TypeId Operand Act Sem Result Next)
section
variable {P : Program} {N : Nat → Nat} {tb : TypeId → Option TI} {Γ : Env} {I I' : Imm} {ι ι' : Emb} {h h' : Heap} {w w' : World} {tm : List V} {a : Act} {slot : Option Nat}

theorem PR.splice {xs vs : List V} {cs : Array Value} {ws : List Value} {k : Nat} (hp : PR N I ι xs cs 0) (hv : LR N I ι vs ws) (hk : k + vs.length ≤ xs.length) :
    PR N I ι (splice xs k vs) (splice cs.toList k ws).toArray 0 := by
  have hl := hp.1
  have hvl := hv.1
  refine ⟨?_, fun j x y hx hy => ?_⟩
  · rw [splice_length hk, List.size_toArray, splice_length (by simp; omega)]; simpa using hl
  · simp only [Nat.zero_add] at hy
    rw [List.getElem?_toArray] at hy
    unfold Am.splice at hx hy
    rw [List.append_assoc, List.getElem?_append] at hx hy
    have h1 : (xs.take k).length = k := by simp; omega
    have h2 : (cs.toList.take k).length = k := by simp; omega
    rw [h1] at hx; rw [h2] at hy
    split at hx
    · rename_i hj
      rw [if_pos hj, List.getElem?_take, if_pos hj] at hy
      rw [List.getElem?_take, if_pos hj] at hx
      exact hp.2 j x y hx (by simpa using hy)
    · rename_i hj
      rw [if_neg hj, List.getElem?_append] at hy
      rw [List.getElem?_append] at hx
      split at hx
      · rename_i hj'
        rw [if_pos (by omega)] at hy
        exact hv.2 _ x y hx hy
      · rename_i hj'
        rw [if_neg (by omega), List.getElem?_drop] at hy
        rw [List.getElem?_drop] at hx
        refine hp.2 (k + vs.length + (j - k - vs.length)) x y hx ?_
        rw [← hvl] at hy
        simpa using hy

/-- One element of a row. -/
theorem RowR.elem {z : Nat} {els : List (List V)} {cs : Array Value} (hr : RowR N I ι z els cs) {i : Nat} {e : List V} (he : els[i]? = some e) : PR N I ι e cs (i * z) := by
  have hi : i < els.length := (List.getElem?_eq_some_iff.1 he).1
  have hz := hr.1 e (List.mem_of_getElem? he)
  have hfl := flat_length hr.1
  have hg := flat_get hr.1 he
  rcases hr.2.sub (i * z) z with h1 | h1
  · rw [hg] at h1; simpa using h1
  · exfalso
    have : i * z + z ≤ els.flatten.length := by rw [hfl, ← Nat.succ_mul]; exact Nat.mul_le_mul_right _ hi
    omega

theorem run_loadVar_sim {t : TypeId} {i : TI} {c base o : Nat} {cs : Array Value} {ty : TypeId} {fr : Nat × Nat} {xs : List V} {v : V} (hi : TIok P N t i)
    (hw : w.heap[c]? = some (.cells cs ty fr)) (hp : PR N I ι xs cs base) (hget : getC (agOf i) xs o = some v) :
    ∃ val, (Go.loadVar t ⟨c, base + o, none⟩).run P w = .ok val w ∧ VR N I ι v val := by
  obtain ⟨info, hinfo, hsz, _, _⟩ := hi.info
  have hag : ∀ n, o + n ≤ xs.length → ∃ val, (Go.loadCells ⟨c, base + o, none⟩ n).run P w = .ok val w ∧ VR N I ι (.agg ((xs.drop o).take n)) (.agg val) := fun n hn => by
    have hl := hp.1
    have hlen : ((cs.toList.drop (base + o)).take n).length = n := by simp; omega
    refine ⟨((cs.toList.drop (base + o)).take n).toArray, ?_, ?_⟩
    · have := Go.run_loadCells_list (P := P) w ⟨c, base + o, none⟩ ((cs.toList.drop (base + o)).take n) fun j u hj => by
        have hjn : j < n := by have := (List.getElem?_eq_some_iff.1 hj).1; omega
        rw [List.getElem?_take, if_pos hjn, List.getElem?_drop] at hj
        have hadd : (⟨c, base + o, none⟩ : Addr).add j = ⟨c, base + o + j, none⟩ := by unfold Addr.add; split <;> simp_all
        rw [hadd]
        simp only [World.cell?, hw]
        simpa using hj
      rwa [hlen] at this
    · refine .agg (by simp; omega) fun k x y hx hy => ?_
      have hkn : k < n := by have := (List.getElem?_eq_some_iff.1 hx).1; simp at this; omega
      rw [List.getElem?_take, if_pos hkn, List.getElem?_drop] at hx
      rw [List.getElem?_toArray, List.getElem?_take, if_pos hkn, List.getElem?_drop] at hy
      exact hp.2 (o + k) x y hx (by rw [← Nat.add_assoc]; simpa using hy)
  have hone : xs[o]? = some v → ∃ val, (Go.load ⟨c, base + o, none⟩).run P w = .ok val w ∧ VR N I ι v val := fun hx => by
    obtain ⟨y, hy, hv⟩ := hp.get hx
    refine ⟨y, ?_, hv⟩
    have : w.cell? ⟨c, base + o, none⟩ = some y := by simp only [World.cell?, hw]; simpa using hy
    simp [this]
  unfold getC agOf at hget
  unfold Go.loadVar Go.isAgg
  cases hd : i.desc <;> simp only [hd] at hget <;>
    simp only [Sem.run_bind, Go.run_underlying hi.und, Go.Result.andThen_ok, hd, Sem.run_pure, Bool.false_eq_true, if_false, if_true, Go.sizeOf, run_ti hinfo]
  case array =>
    split at hget
    · rename_i hn
      injection hget with hget; subst hget
      obtain ⟨val, h1, h2⟩ := hag i.size hn
      exact ⟨.agg val, by rw [hsz, h1]; rfl, h2⟩
    · cases hget
  case struct =>
    split at hget
    · rename_i hn
      injection hget with hget; subst hget
      obtain ⟨val, h1, h2⟩ := hag i.size hn
      exact ⟨.agg val, by rw [hsz, h1]; rfl, h2⟩
    · cases hget
  all_goals exact hone hget

theorem sim_loadV {t : TypeId} {i : TI} {av : V} {u : Value} {v : V} (hi : TIok P N t i) (hr : Rel N I ι h w) (hv : VR N I ι av u) (hx : loadV h (agOf i) av = some v) :
    ∃ ad val, u = .pointer (some ad) ∧ (Go.loadVar t ad).run P w = .ok val w ∧ VR N I ι v val := by
  unfold loadV at hx
  split at hx
  · rename_i b z k o
    simp only [Option.bind_eq_some_iff] at hx
    obtain ⟨els, h1, e, h2, h3⟩ := hx
    cases hv with
    | ptr hb =>
      unfold rowAt at h1
      split at h1
      · rename_i z' els' hrow
        split at h1
        · rename_i hz; subst hz; injection h1 with h1; subst h1
          obtain ⟨_, cs, ty, hw, _, hrr⟩ := hr.row _ _ _ _ hb hrow
          obtain ⟨val, g1, g2⟩ := run_loadVar_sim hi hw (hrr.elem h2) h3
          exact ⟨_, val, rfl, g1, g2⟩
        · cases h1
      · cases h1
  · rename_i cl oo
    cases hv with
    | pp h1 h2 h3 h4 h5 =>
      rename_i ad base cs ty fr
      have hw := hr.imm _ _ h1
      obtain ⟨val, g1, g2⟩ := run_loadVar_sim hi hw ⟨h4, h5⟩ hx
      refine ⟨ad, val, rfl, ?_, g2.wk⟩
      have : ad = ⟨ad.block, base + oo, none⟩ := by cases ad; simp_all
      rw [this]; exact g1
  · cases hx

theorem rowAt_some {b z : Nat} {els : List (List V)} (hx : rowAt h b z = some els) : h[b]? = some (.row z els) := by
  unfold rowAt at hx
  split at hx
  · rename_i z' els' hrow
    split at hx
    · rename_i hz; subst hz; injection hx with hx; subst hx; exact hrow
    · cases hx
  · cases hx

theorem blk_setRow {c : Nat} {old cs : Array Value} {t : TypeId} (hw : w.heap[c]? = some (.cells old t (0, 0))) : Blk w (w.setRow c cs) c (.cells cs t (0, 0)) :=
  ⟨Go.setRow_size _ _ _, Go.setRow_heap w c old cs t (0, 0) hw, fun d hd => Go.setRow_other w c d cs hd, rfl, rfl, rfl⟩

theorem all_one {xs : List V} {ys : List Value} (hv : LR N I ι xs ys) (ho : xs.all V.one = true) : ∀ y ∈ ys, y.oneCell' = true := fun y hy => by
  obtain ⟨k, hk, rfl⟩ := List.getElem_of_mem hy
  have hk' : k < xs.length := hv.1 ▸ hk
  exact oneCell_of (hv.2 k xs[k] _ (List.getElem?_eq_getElem hk') (List.getElem?_eq_getElem hk)) (List.all_eq_true.1 ho _ (List.getElem_mem hk'))

/-- Cells of an own row are written. -/
theorem sim_write {b z k o : Nat} {c : Nat × Nat} {els : List (List V)} {e cs : List V} {ws : List Value} (hr : Rel N I ι h w) (hb : ι b = some c) (hrow : h[b]? = some (.row z els)) (he : els[k]? = some e)
    (hv : LR N I ι cs ws) (ho : cs.all V.one = true) (hl : o + cs.length ≤ e.length) :
    ∃ w', (Go.storeCells ⟨c.1, k * z + o, none⟩ ws).run P w = .ok () w' ∧ Rel N I ι (h.set b (.row z (els.set k (setC e o cs)))) w' ∧ Ext I ι h w I ι (h.set b (.row z (els.set k (setC e o cs)))) w' := by
  obtain ⟨_, old, ty, hw, hn, hrr⟩ := hr.row _ _ _ _ hb hrow
  have hz := hrr.1 e (List.mem_of_getElem? he)
  have hk : k < els.length := (List.getElem?_eq_some_iff.1 he).1
  have hfl := flat_length hrr.1
  have hin : k * z + z ≤ els.flatten.length := by rw [hfl, ← Nat.succ_mul]; exact Nat.mul_le_mul_right _ hk
  have hsz := hrr.2.1
  have hst := Go.run_storeCells_at P c.1 (k * z + o) ty ws 0 old w hw (by have := hv.1; omega) (all_one hv ho)
  refine ⟨_, hst, ?_⟩
  refine rel_upd hr hb hrow rfl (blk_setRow hw) ⟨_, ty, rfl, ?_, ?_, ?_⟩
  · have := hv.1; simp; omega
  · intro x hx
    rcases List.mem_or_eq_of_mem_set hx with h1 | h1
    · exact hrr.1 x h1
    · rw [h1, setC_eq _ _ _ hl, splice_length hl, hz]
  · rw [setC_eq _ _ _ hl, flat_set hrr.1 he hl]
    have := PR.splice (k := k * z + o) hrr.2 hv (by omega)
    unfold splice at this ⊢
    simpa using this

theorem sim_storeV {t : TypeId} {i : TI} {av xv : V} {u x : Value} (hi : TIok P N t i) (hr : Rel N I ι h w) (hv : VR N I ι av u) (hvx : VR N I ι xv x) (hx : storeV h i.size av xv = some h') :
    ∃ ad w', u = .pointer (some ad) ∧ (Go.storeVar t ad x).run P w = .ok () w' ∧ Rel N I ι h' w' ∧ Ext I ι h w I ι h' w' := by
  unfold storeV at hx
  split at hx
  · rename_i b z k o
    simp only [Option.bind_eq_some_iff] at hx
    obtain ⟨els, h1, e, h2, h3⟩ := hx
    split at h3
    · rename_i hc
      injection h3 with h3; subst h3
      cases hv with
      | ptr hb =>
        obtain ⟨hc1, hc2, hc3⟩ := hc
        have hcs := cells_sim hvx
        obtain ⟨w', g1, g2, g3⟩ := sim_write (P := P) hr hb (rowAt_some h1) h2 hcs hc2 (by rw [hc1]; exact hc3)
        obtain ⟨info, hinfo, hsz, _, _⟩ := hi.info
        refine ⟨_, w', rfl, ?_, g2, g3⟩
        have hs : x.cells.size = info.size := by have := hcs.1; rw [hsz, ← hc1, this]; simp
        simp [Go.storeVar, Go.sizeOf, run_ti hinfo, hs, g1]
    · cases h3
  · cases hx
end
end Am
