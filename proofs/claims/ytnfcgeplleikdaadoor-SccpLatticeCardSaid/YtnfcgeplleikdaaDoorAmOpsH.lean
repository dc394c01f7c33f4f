/- All operations that call nothing. -/
import Derived.Test.YtnfcgeplleikdaaDoorAmOpsG
namespace Am
open Go (IntKind BinOp UnOp Obj Value World Addr Program TypeDesc TypeId Operand Act Sem Result Next MapEntry)
section
variable {P : Program} {N : Nat → Nat} {tb : TypeId → Option TI} {Γ : Env} {I I' : Imm} {ι ι' : Emb} {h h' : Heap} {w w' : World} {tm : List V} {a : Act} {slot : Option Nat}

/-- An own block was written. -/
theorem good_w {v : V} {val : Value} {r : Next} {s : Sem Next} (hs : s.run P w = .ok r w') (hrv : r = .value val ∨ (r = .skip ∧ val = Go.undef)) (hv : VR N I ι v val) (hr : Rel N I ι h' w') (he : Ext I ι h w I ι h' w') : Good1 P N I ι h w slot v h' s :=
  ⟨r, val, w', ι, hs, hrv, hv, hr, he, fun b h1 h2 => absurd h1 h2⟩
theorem undef_sim : VR N I ι undef Go.undef := .tup rfl fun k x y hx => by simp at hx

theorem fn_lists {l : List Operand} {l' : List Opd} {vs : List V} (hc : mapO (compO N) l = some l') (hx : evs Γ tm l' = some vs) (ht : TmR N I ι tm a.tmps) (hg : GlobOK Γ N I) : LR N I ι vs (l.map a.eval) := by
  induction l generalizing l' vs with
  | nil => simp [mapO] at hc; subst hc; simp [evs] at hx; subst hx; exact .nil
  | cons x l ih =>
    simp only [mapO, Option.bind_eq_some_iff, Option.map_eq_some_iff] at hc
    obtain ⟨x', hx', l', hl', rfl⟩ := hc
    simp only [evs, Option.bind_eq_some_iff] at hx
    obtain ⟨v, hv, vs', hvs, h2⟩ := hx
    injection h2 with h2; subst h2
    exact .cons (ev_sim hx' hv ht hg) (ih hl' hvs)

theorem one_arg {args : Array Operand} {x' : Opd} (hc : compL N args = some [x']) : ∃ x, args = #[x] ∧ compO N x = some x' := by
  unfold compL at hc
  have hl := mapO_length hc
  obtain ⟨x, hx⟩ : ∃ x, args.toList = [x] := by
    match h : args.toList, hl with
    | [x], _ => exact ⟨x, rfl⟩
  refine ⟨x, by apply Array.ext'; simpa using hx, ?_⟩
  rw [hx] at hc
  exact mapO_get hc 0 x x' rfl rfl
theorem two_args {args : Array Operand} {x' y' : Opd} (hc : compL N args = some [x', y']) : ∃ x y, args = #[x, y] ∧ compO N x = some x' ∧ compO N y = some y' := by
  unfold compL at hc
  have hl := mapO_length hc
  obtain ⟨x, y, hx⟩ : ∃ x y, args.toList = [x, y] := by
    match h : args.toList, hl with
    | [x, y], _ => exact ⟨x, y, rfl⟩
  refine ⟨x, y, by apply Array.ext'; simpa using hx, ?_⟩
  rw [hx] at hc
  exact ⟨mapO_get hc 0 x x' rfl rfl, mapO_get hc 1 y y' rfl rfl⟩

theorem builtin_sim {b : Go.Builtin} {ts : Array TypeId} {ty : TypeId} {cs : Array Bool} {args : Array Operand} {args' : List Opd} {op : Op} {v : V} (htb : TabOK P N tb) (hca : compL N args = some args') (hc : compBuiltin tb b ts args' = some op)
    (hx : opx Γ tm h slot op = some (v, h')) (hr : Rel N I ι h w) (hf : op.cls Γ ≠ 0 → ι h.length = none) (ht : TmR N I ι tm a.tmps) (hg : GlobOK Γ N I) :
    Good1 P N I ι h w slot v h' (Go.builtin b ts ty cs (args.map a.eval)) := by
  unfold compBuiltin at hc
  split at hc
  · -- len
    rename_i t x' hts
    obtain ⟨x, rfl, hx'⟩ := one_arg hca
    have hts' : ts = #[t] := by apply Array.ext'; simpa using hts
    subst hts'
    simp only [Option.bind_eq_some_iff] at hc
    obtain ⟨i, hi, hc⟩ := hc
    have hok := htb _ _ hi
    split at hc
    · rename_i e hd
      injection hc with hc; subst hc
      simp only [opx, Option.bind_eq_some_iff] at hx
      obtain ⟨xv, hxv, hx⟩ := hx
      obtain ⟨rfl, val, h1, h2⟩ := sim_len (P := P) (w := w) (ty := ty) hok hd (ev_sim (a := a) hx' hxv ht hg) hx
      exact good_v hr (by simpa using h1) h2
    · rename_i hd
      injection hc with hc; subst hc
      simp only [opx, Option.bind_eq_some_iff] at hx
      obtain ⟨xv, hxv, hx⟩ := hx
      have hv := ev_sim (a := a) hx' hxv ht hg
      cases hv' : xv <;> rw [hv'] at hx hv <;> simp only [Option.some.injEq, Prod.mk.injEq, reduceCtorEq] at hx
      obtain ⟨rfl, rfl⟩ := hx
      generalize hu : a.eval x = u at hv
      cases hv
      have hun := hok.und; rw [hd] at hun
      rename_i s
      refine good_v (val := .int .i64 s.size) hr ?_ (.int _ _)
      simp [hu, Go.Builtin.len_, Go.run_underlying hun, Go.goInt]
    · rename_i k e hd
      injection hc with hc; subst hc
      simp only [opx, Option.bind_eq_some_iff] at hx
      obtain ⟨xv, hxv, hx⟩ := hx
      have hv := ev_sim (a := a) hx' hxv ht hg
      have hun := hok.und; rw [hd] at hun
      generalize hu : a.eval x = u at hv
      split at hx
      · injection hx with hx; obtain ⟨rfl, rfl⟩ := Prod.mk.inj hx
        cases hv
        refine good_v (val := .int .i64 0) hr ?_ (.int _ _)
        simp [hu, Go.Builtin.len_, Go.run_underlying hun, Go.goInt]
      · split at hx
        · rename_i b es hes
          injection hx with hx; obtain ⟨rfl, rfl⟩ := Prod.mk.inj hx
          cases hv with
          | mp hb =>
            obtain ⟨_, ents, clk, hw, hmr⟩ := hr.map _ _ _ hb hes
            refine good_v (val := .int .i64 es.length) hr ?_ (.int _ _)
            simp [hu, Go.Builtin.len_, Go.run_underlying hun, Go.goInt, run_getObj hw, hmr.1]
        · cases hx
      · cases hx
    · cases hc
  · -- append
    rename_i t u s' x' hts
    obtain ⟨s, x, rfl, hs', hx'⟩ := two_args hca
    have hts' : ts = #[t, u] := by apply Array.ext'; simpa using hts
    subst hts'
    simp only [Option.bind_eq_some_iff] at hc
    obtain ⟨i, hi, iu, hiu, hc⟩ := hc
    split at hc
    · rename_i e e' hd hdu
      simp only [Option.bind_eq_some_iff] at hc
      obtain ⟨ie, hie, zl, hzl, hc⟩ := hc
      split at hc
      · rename_i hcc
        injection hc with hc; subst hc
        simp only [opx, Option.bind_eq_some_iff] at hx
        obtain ⟨sv, hsv, xv, hxv, hx⟩ := hx
        have := sim_app (P := P) (slot := slot) (ty := ty) (htb _ _ hi) hd (htb _ _ hiu) hdu (htb _ _ hie) hzl hcc.1 hcc.2 hr (hf (by simp [Op.cls])) (ev_sim (a := a) hs' hsv ht hg) (ev_sim (a := a) hx' hxv ht hg) hx
        simpa [Go.builtin] using this
      · cases hc
    · cases hc
  · -- copy
    rename_i t u d' s' hts
    obtain ⟨d, s, rfl, hd', hs'⟩ := two_args hca
    have hts' : ts = #[t, u] := by apply Array.ext'; simpa using hts
    subst hts'
    simp only [Option.bind_eq_some_iff] at hc
    obtain ⟨i, hi, hc⟩ := hc
    split at hc
    · rename_i e hd
      simp only [Option.map_eq_some_iff] at hc
      obtain ⟨ie, hie, rfl⟩ := hc
      simp only [opx, Option.bind_eq_some_iff] at hx
      obtain ⟨dv, hdv, sv, hsv, src, hsrc, hx⟩ := hx
      obtain ⟨val, w', h1, h2, h3, h4⟩ := sim_cpy (P := P) (u := u) (ty := ty) (htb _ _ hi) hd (htb _ _ hie) hr (ev_sim (a := a) hd' hdv ht hg) (ev_sim (a := a) hs' hsv ht hg) (by rw [hsrc]; exact hx)
      exact good_w (r := .value val) (by simp [Go.builtin, h1]) (.inl rfl) h2 h3 h4
    · cases hc
  · -- clear
    rename_i t x' hts
    obtain ⟨x, rfl, hx'⟩ := one_arg hca
    have hts' : ts = #[t] := by apply Array.ext'; simpa using hts
    subst hts'
    simp only [Option.bind_eq_some_iff] at hc
    obtain ⟨i, hi, hc⟩ := hc
    have hok := htb _ _ hi
    split at hc
    · rename_i e hd
      simp only [Option.bind_eq_some_iff, Option.map_eq_some_iff] at hc
      obtain ⟨ie, hie, zl, hzl, rfl⟩ := hc
      have hun := hok.und; rw [hd] at hun
      simp only [opx, Option.bind_eq_some_iff] at hx
      obtain ⟨xv, hxv, hx⟩ := hx
      have hv := ev_sim (a := a) hx' hxv ht hg
      obtain ⟨_, zv, hzr, _, _⟩ := zero_sim (I := I) (ι := ι) (htb _ _ hie) hzl
      split at hx
      · injection hx with hx; obtain ⟨rfl, rfl⟩ := Prod.mk.inj hx
        generalize hu : a.eval x = u at hv
        cases hv with
        | nils ad => exact good_quiet hr (by cases ad <;> simp [hu, Go.builtin, Go.Builtin.clear_, Go.run_underlying hun] <;> rfl) undef_sim
      · split at hx
        · rename_i z els h0
          injection hx with hx; obtain ⟨rfl, rfl⟩ := Prod.mk.inj hx
          have h0' : els = [] := List.eq_nil_of_length_eq_zero h0
          subst h0'
          generalize hu : a.eval x = u at hv
          cases hv with
          | ps0 _ ad cap => exact good_quiet hr (by cases ad <;> simp [hu, Go.builtin, Go.Builtin.clear_, Go.run_underlying hun] <;> rfl) undef_sim
          | ps => exact good_quiet hr (by simp [hu, Go.builtin, Go.Builtin.clear_, Go.run_underlying hun] <;> rfl) undef_sim
        · cases hx
      · rename_i b z off len cap
        split at hx
        · rename_i h0; subst h0
          injection hx with hx; obtain ⟨rfl, rfl⟩ := Prod.mk.inj hx
          generalize hu : a.eval x = u at hv
          cases hv with
          | sl => exact good_quiet hr (by simp [hu, Go.builtin, Go.Builtin.clear_, Go.run_underlying hun] <;> rfl) undef_sim
        · rename_i h0
          simp only [Option.bind_eq_some_iff] at hx
          obtain ⟨rows, h1, hx⟩ := hx
          split at hx
          · rename_i hfit
            injection hx with hx; obtain ⟨rfl, rfl⟩ := Prod.mk.inj hx
            obtain ⟨w', g1, g2, g3⟩ := sim_clr_sl (P := P) (ty := ty) hok hd (htb _ _ hie) hzl hr hv h0 h1 hfit
            exact good_w (r := .value (.tuple #[])) (by simp [Go.builtin, g1]) (.inl rfl) undef_sim g2 g3
          · cases hx
      · cases hx
    · rename_i ky e hd
      injection hc with hc; subst hc
      have hun := hok.und; rw [hd] at hun
      simp only [opx, Option.bind_eq_some_iff] at hx
      obtain ⟨xv, hxv, hx⟩ := hx
      have hv := ev_sim (a := a) hx' hxv ht hg
      split at hx
      · injection hx with hx; obtain ⟨rfl, rfl⟩ := Prod.mk.inj hx
        generalize hu : a.eval x = u at hv
        cases hv with
        | nilm => exact good_quiet hr (by simp [hu, Go.builtin, Go.Builtin.clear_, Go.run_underlying hun] <;> rfl) undef_sim
      · split at hx
        · rename_i b es hes
          injection hx with hx; obtain ⟨rfl, rfl⟩ := Prod.mk.inj hx
          generalize hu : a.eval x = u at hv
          cases hv with
          | mp hb =>
            obtain ⟨_, ents, clk, hw, hmr⟩ := hr.map _ _ _ hb hes
            obtain ⟨w', g1, g2⟩ := run_setObj (P := P) (o := .map #[] clk) hw
            obtain ⟨g3, g4⟩ := rel_upd (ob' := .map []) hr hb hes rfl g2 ⟨#[], clk, rfl, rfl, fun k e x he => by simp at he⟩
            exact good_w (r := .value (.tuple #[])) (by simp [hu, Go.builtin, Go.Builtin.clear_, Go.run_underlying hun, run_getObj hw, g1]) (.inl rfl) undef_sim g3 g4
        · cases hx
      · cases hx
    · cases hc
  · -- delete
    rename_i t u m' k' hts
    obtain ⟨m, k, rfl, hm', hk'⟩ := two_args hca
    have hts' : ts = #[t, u] := by apply Array.ext'; simpa using hts
    subst hts'
    simp only [Option.bind_eq_some_iff] at hc
    obtain ⟨i, hi, hc⟩ := hc
    split at hc
    · rename_i ky e hd
      simp only [Option.bind_eq_some_iff] at hc
      obtain ⟨ik, hik, hc⟩ := hc
      simp only [Option.map_eq_some_iff] at hc
      obtain ⟨K, hpl, rfl⟩ := hc
      · simp only [opx, Option.bind_eq_some_iff] at hx
        obtain ⟨mv, hmv, kv, hkv, hx⟩ := hx
        split at hx
        · rename_i hn
          simp only [Option.map_eq_some_iff] at hx
          obtain ⟨h1, hx, he⟩ := hx
          obtain ⟨rfl, rfl⟩ := Prod.mk.inj he
          obtain ⟨w', g1, g2, g3⟩ := sim_mdel (P := P) (u := u) (ty := ty) (htb _ _ hi) hd (htb _ _ hik) hpl hr (ev_sim (a := a) hm' hmv ht hg) (ev_sim (a := a) hk' hkv ht hg) hn hx
          exact good_w (r := .value (.tuple #[])) (by simp [Go.builtin, g1]) (.inl rfl) undef_sim g2 g3
        · cases hx
    · cases hc
  · -- max
    rename_i x' y'
    obtain ⟨x, y, rfl, hx', hy'⟩ := two_args hca
    injection hc with hc; subst hc
    simp only [opx, Option.bind_eq_some_iff] at hx
    obtain ⟨xv, hxv, yv, hyv, hx⟩ := hx
    have h1 := ev_sim (a := a) hx' hxv ht hg
    have h2 := ev_sim (a := a) hy' hyv ht hg
    split at hx
    · injection hx with hx; obtain ⟨rfl, rfl⟩ := Prod.mk.inj hx
      generalize hu : a.eval x = u at h1
      generalize hu2 : a.eval y = u2 at h2
      cases h1; cases h2
      exact good_quiet hr (by simp [hu, hu2, Go.builtin, Go.Builtin.max_, Go.Builtin.max2]) (.int _ _)
    · cases hx
  · -- min
    rename_i x' y'
    obtain ⟨x, y, rfl, hx', hy'⟩ := two_args hca
    injection hc with hc; subst hc
    simp only [opx, Option.bind_eq_some_iff] at hx
    obtain ⟨xv, hxv, yv, hyv, hx⟩ := hx
    have h1 := ev_sim (a := a) hx' hxv ht hg
    have h2 := ev_sim (a := a) hy' hyv ht hg
    split at hx
    · injection hx with hx; obtain ⟨rfl, rfl⟩ := Prod.mk.inj hx
      generalize hu : a.eval x = u at h1
      generalize hu2 : a.eval y = u2 at h2
      cases h1; cases h2
      exact good_quiet hr (by simp [hu, hu2, Go.builtin, Go.Builtin.min_, Go.Builtin.min2]) (.int _ _)
    · cases hx
  · cases hc
end
end Am
