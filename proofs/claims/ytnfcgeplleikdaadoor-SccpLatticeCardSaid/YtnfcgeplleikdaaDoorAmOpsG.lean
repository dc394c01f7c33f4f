/- Copy, clear, conversions; all operations together. -/
import Derived.Test.YtnfcgeplleikdaaDoorAmOpsF
namespace Am
open Go (IntKind BinOp UnOp Obj Value World Addr Program TypeDesc TypeId Operand Act Sem Result Next MapEntry)
section
variable {P : Program} {N : Nat → Nat} {tb : TypeId → Option TI} {Γ : Env} {I I' : Imm} {ι ι' : Emb} {h h' : Heap} {w w' : World} {tm : List V} {a : Act} {slot : Option Nat}

/-- Elements of an own row are written. -/
theorem sim_over {b z off : Nat} {c : Nat × Nat} {rows src : List (List V)} {ws : List Value} (hr : Rel N I ι h w) (hb : ι b = some c) (hrow : h[b]? = some (.row z rows)) (hz : ∀ e ∈ src, e.length = z) (ho : src.flatten.all V.one = true)
    (hv : LR N I ι src.flatten ws) (hl : off + src.length ≤ rows.length) :
    ∃ w', (Go.storeCells ⟨c.1, off * z, none⟩ ws).run P w = .ok () w' ∧ Rel N I ι (h.set b (.row z (over rows off src))) w' ∧ Ext I ι h w I ι (h.set b (.row z (over rows off src))) w' := by
  obtain ⟨_, cur, ty, hw, hn, hrr⟩ := hr.row _ _ _ _ hb hrow
  have hfl := flat_length hrr.1
  have hsl := flat_length hz
  have hin : (off + src.length) * z ≤ rows.flatten.length := by rw [hfl]; exact Nat.mul_le_mul_right _ hl
  have hsz := hrr.2.1
  have hwl := hv.1
  rw [Nat.add_mul] at hin
  have hst := Go.run_storeCells_at P c.1 (off * z) ty ws 0 cur w hw (by omega) (all_one hv ho)
  refine ⟨_, hst, ?_⟩
  refine rel_upd hr hb hrow rfl (blk_setRow hw) ⟨_, ty, rfl, ?_, ?_, ?_⟩
  · simp; omega
  · intro x hx
    rw [over_eq _ _ _ hl] at hx
    rcases mem_splice hx with h1 | h1
    · exact hrr.1 x h1
    · exact hz x h1
  · rw [over_eq _ _ _ hl, flat_splice hrr.1 hz]
    have := PR.splice (k := off * z) hrr.2 hv (by omega)
    unfold splice at this ⊢
    simpa using this

theorem sim_cpy {t u e ty : TypeId} {i ie : TI} {dv sv v : V} {d s : Value} (hi : TIok P N t i) (hd : i.desc = .slice e) (hie : TIok P N e ie) (hr : Rel N I ι h w) (hdv : VR N I ι dv d) (hsv : VR N I ι sv s)
    (hx : ((elsOf h sv).bind fun src => if src.all (fun e => e.length == ie.size && e.all V.one) = true then
      (match dv with
      | .nils => some (.int .i64 0, h)
      | .sl b z' off len _ => (rowAt h b z').bind fun els =>
          if z' = ie.size ∧ off + len ≤ els.length then some (.int .i64 (min src.length len : Nat), h.set b (.row z' (over els off (src.take (min src.length len))))) else none
      | _ => none) else none) = some (v, h')) :
    ∃ val w', (Go.Builtin.copy_ #[t, u] ty #[d, s]).run P w = .ok val w' ∧ VR N I ι v val ∧ Rel N I ι h' w' ∧ Ext I ι h w I ι h' w' := by
  have hu : P.underlying t = some (.slice e) := by rw [hi.und, hd]
  simp only [Option.bind_eq_some_iff] at hx
  obtain ⟨src, hsrc, hx⟩ := hx
  split at hx
  case isFalse => cases hx
  rename_i hall
  obtain ⟨hz, hone⟩ := flat_all hall
  obtain ⟨sa, scap, rfl, hcells⟩ := sim_els (P := P) hr hsv hsrc hz
  cases hdv with
  | nils ad =>
    simp only [Option.some.injEq, Prod.mk.injEq] at hx
    obtain ⟨rfl, rfl⟩ := hx
    obtain ⟨cells, hfc, hlr⟩ := hcells 0 (Nat.zero_le _)
    have hc0 : cells = [] := by cases cells with
      | nil => rfl
      | cons => have := hlr.1; simp at this
    subst hc0
    refine ⟨.int .i64 0, w, ?_, .int _ _, hr, Ext.refl _ _ _ _⟩
    cases ad <;> simp [Go.Builtin.copy_, Go.run_underlying hu, Go.Builtin.lenOf, run_size hie, hfc w rfl, Go.storeCells, Go.goInt]
  | sl hb hlen hcap had =>
    rename_i b z' off len cap ad c cap'
    simp only [Option.bind_eq_some_iff] at hx
    obtain ⟨rows, h1, hx⟩ := hx
    split at hx
    case isFalse => cases hx
    rename_i hcc
    obtain ⟨rfl, hfit⟩ := hcc
    simp only [Option.some.injEq, Prod.mk.injEq] at hx
    obtain ⟨rfl, rfl⟩ := hx
    obtain ⟨cells, hfc, hlr⟩ := hcells (min src.length len) (Nat.min_le_left _ _)
    have hmin : Nat.min src.length len = min src.length len := rfl
    have htk : (src.take (min src.length len)).length = min src.length len := by simp
    by_cases hc0 : cap' = 0
    · have hl0 : len = 0 := by omega
      subst hl0
      have hm0 : min src.length 0 = 0 := by omega
      rw [hm0] at hlr hfc ⊢
      have hc0' : cells = [] := by cases cells with
        | nil => rfl
        | cons => have := hlr.1; simp at this
      subst hc0'
      obtain ⟨w', g1, g2, g3⟩ := sim_over (P := P) (w := w) (src := []) (ws := []) (off := off) hr hb (rowAt_some h1) (by simp) (by simp) (by simpa using LR.nil) (by simpa using hfit)
      refine ⟨.int .i64 0, w, ?_, .int _ _, ?_, ?_⟩
      · simp [Go.Builtin.copy_, Go.run_underlying hu, Go.Builtin.lenOf, run_size hie, hmin, hm0, hfc w rfl, Go.storeCells, Go.goInt]
      · simp only [List.take_zero, over]; rw [set_self (rowAt_some h1)]; exact hr
      · simp only [List.take_zero, over]; rw [set_self (rowAt_some h1)]; exact Ext.refl _ _ _ _
    · obtain ⟨rfl, _⟩ := had hc0
      have hones : (src.take (min src.length len)).flatten.all V.one = true := by
        rw [List.all_eq_true] at hone ⊢
        intro x hx
        obtain ⟨e, he, hxe⟩ := List.mem_flatten.1 hx
        exact hone x (List.mem_flatten.2 ⟨e, List.mem_of_mem_take he, hxe⟩)
      obtain ⟨w', g1, g2, g3⟩ := sim_over (P := P) (w := w) (src := src.take (min src.length len)) (off := off) hr hb (rowAt_some h1) (fun e he => hz e (List.mem_of_mem_take he)) hones hlr (by rw [htk]; omega)
      refine ⟨.int .i64 (min src.length len : Nat), w', ?_, .int _ _, g2, g3⟩
      simp [Go.Builtin.copy_, Go.run_underlying hu, Go.Builtin.lenOf, run_size hie, hmin, hfc w rfl, g1, Go.goInt]
  | _ => cases hx

theorem sim_clr_sl {t e ty : TypeId} {i ie : TI} {zl : List V} {b z off len : Nat} {cap : Option Nat} {x : Value} {rows : List (List V)} (hi : TIok P N t i) (hd : i.desc = .slice e) (hie : TIok P N e ie) (hzo : zOf ie = some zl) (hr : Rel N I ι h w)
    (hv : VR N I ι (.sl b z off len cap) x) (h0 : len ≠ 0) (h1 : rowAt h b z = some rows) (hfit : zl.length = z ∧ zl.all V.one = true ∧ off + len ≤ rows.length) :
    ∃ w', (Go.Builtin.clear_ #[t] ty #[x]).run P w = .ok (.tuple #[]) w' ∧ Rel N I ι (h.set b (.row z (over rows off (List.replicate len zl)))) w' ∧ Ext I ι h w I ι (h.set b (.row z (over rows off (List.replicate len zl)))) w' := by
  have hu : P.underlying t = some (.slice e) := by rw [hi.und, hd]
  obtain ⟨hzl, zv, hzr, hzs, hzlr⟩ := zero_sim (I := I) (ι := ι) hie hzo
  cases hv with
  | sl hb hlen hcap had =>
    rename_i ad c cap'
    obtain ⟨rfl, _⟩ := had (by omega)
    have hzc : (Go.Builtin.zeroCells zv.cells len).toList = (List.replicate len zv.cells.toList).flatten := by
      have := range_zero (n := len) (z := zv.cells.size) (zs := zv.cells) rfl
      simpa [Go.Builtin.zeroCells] using this
    have hall : (List.replicate len zl).flatten.all V.one = true := by
      have hones := hfit.2.1
      rw [List.all_eq_true] at hones ⊢
      intro x hx
      obtain ⟨e, he, hxe⟩ := List.mem_flatten.1 hx
      rw [List.eq_of_mem_replicate he] at hxe
      exact hones x hxe
    obtain ⟨w', g1, g2, g3⟩ := sim_over (P := P) (w := w) (src := List.replicate len zl) (off := off) hr hb (rowAt_some h1) (fun e he => by rw [List.eq_of_mem_replicate he, hfit.1]) hall (replicate_flat (n := len) hzlr) (by simpa using hfit.2.2)
    refine ⟨w', ?_, g2, g3⟩
    rw [← hzc] at g1
    obtain ⟨len, rfl⟩ : ∃ m, len = m + 1 := ⟨len - 1, by omega⟩
    simp [Go.Builtin.clear_, Go.run_underlying hu, hzr, g1]

theorem sim_len {t e ty : TypeId} {i : TI} {xv v : V} {x : Value} (hi : TIok P N t i) (hd : i.desc = .slice e) (hv : VR N I ι xv x)
    (hx : lenV h xv = some (v, h')) : h' = h ∧ ∃ val, (Go.Builtin.len_ #[t] ty #[x]).run P w = .ok val w ∧ VR N I ι v val := by
  have hu := hi.und
  rw [hd] at hu
  cases hv <;> simp only [lenV, Option.some.injEq, Prod.mk.injEq, reduceCtorEq] at hx
  all_goals
    obtain ⟨rfl, rfl⟩ := hx
    refine ⟨rfl, ?_⟩
  · exact ⟨.int .i64 0, by simp [Go.Builtin.len_, Go.run_underlying hu, Go.goInt], .int _ _⟩
  · exact ⟨.int .i64 0, by simp [Go.Builtin.len_, Go.run_underlying hu, Go.goInt], .int _ _⟩
  · rename_i els _ _ _ _ _ _ _ _ _ _ _
    exact ⟨.int .i64 els.length, by simp [Go.Builtin.len_, Go.run_underlying hu, Go.goInt], .int _ _⟩
  · rename_i len _ _ _ _ _ _ _ _
    exact ⟨.int .i64 len, by simp [Go.Builtin.len_, Go.run_underlying hu, Go.goInt], .int _ _⟩
end
end Am
