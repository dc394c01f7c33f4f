/- All operations that call no function. -/
import Derived.Test.YtnfcgeplleikdaaDoorAmOpsH
namespace Am
open Go (IntKind BinOp UnOp Obj Value World Addr Program TypeDesc TypeId Operand Act Sem Result Next MapEntry)
section
variable {P : Program} {N : Nat → Nat} {tb : TypeId → Option TI} {Γ : Env} {I I' : Imm} {ι ι' : Emb} {h h' : Heap} {w w' : World} {tm : List V} {a : Act} {slot : Option Nat}

theorem run_pick {c a b : Value} {x : Bool} (h : c = .bool x) (w : World) : (do pure (Next.value (if ← Go.asBool c then a else b)) : Sem Next).run P w = .ok (.value (if x then a else b)) w := by
  subst h; cases x <;> simp [Go.asBool]

theorem agg_inv {cs : List V} {u : Value} (h : VR N I ι (.agg cs) u) : ∃ cs', u = .agg cs' ∧ cs.length = cs'.size ∧ ∀ (k : Nat) x y, cs[k]? = some x → cs'[k]? = some y → VR N I ι x y := by
  cases h with
  | agg h1 h2 => exact ⟨_, rfl, h1, h2⟩
theorem tup_inv {cs : List V} {u : Value} (h : VR N I ι (.tup cs) u) : ∃ cs', u = .tuple cs' ∧ cs.length = cs'.size ∧ ∀ (k : Nat) x y, cs[k]? = some x → cs'[k]? = some y → VR N I ι x y := by
  cases h with
  | tup h1 h2 => exact ⟨_, rfl, h1, h2⟩

theorem eqd_ok {i : TI} {o : BinOp} {x y : Opd} {op : Op} (hc : (match i.desc with
    | .struct _ | .array _ _ => i.plain.map fun K => Op.eqa K (o == .neq) x y
    | .int _ | .string | .float _ => some (.bin o x y)
    | .bool => some (.eqb (o == .neq) x y)
    | _ => none) = some op) : (∃ K, op = .eqa K (o == .neq) x y ∧ i.plain = some K) ∨ (op = .bin o x y ∧ (match i.desc with | .int _ | .string | .float _ => True | _ => False)) ∨ (op = .eqb (o == .neq) x y ∧ i.desc = .bool) := by
  cases hd : i.desc <;> rw [hd] at hc <;> simp_all
  all_goals
    obtain ⟨K, h1, rfl⟩ := hc
    exact ⟨K, rfl, h1⟩

theorem bin_sim {o : BinOp} {t : TypeId} {x y : Operand} {x' y' : Opd} {op : Op} {v : V} (htb : TabOK P N tb) (hcx : compO N x = some x') (hcy : compO N y = some y') (hc : compB tb o t x' y' = some op)
    (hx : opx Γ tm h slot op = some (v, h')) (hr : Rel N I ι h w) (ht : TmR N I ι tm a.tmps) (hg : GlobOK Γ N I) :
    Good1 P N I ι h w slot v h' (do let r ← (do Go.eqGuard o t x y (a.eval x) (a.eval y); Go.binOp o t (a.eval x) (a.eval y) : Sem Value); pure (.value r)) := by
  have main : (op = .bin o x' y' ∧ ((o = .eql ∨ o = .neq) → ∃ i, tb t = some i ∧ (match i.desc with | .int _ | .string | .float _ => True | _ => False))) ∨
      (∃ i, tb t = some i ∧ i.desc = .bool ∧ (o = .eql ∨ o = .neq) ∧ op = .eqb (o == .neq) x' y') ∨
      ∃ i K, tb t = some i ∧ i.plain = some K ∧ (o = .eql ∨ o = .neq) ∧ op = .eqa K (o == .neq) x' y' := by
    unfold compB at hc
    split at hc
    · simp only [Option.bind_eq_some_iff] at hc
      obtain ⟨i, hi, hc⟩ := hc
      rcases eqd_ok (o := .eql) (i := i) (x := x') (y := y') hc with ⟨K, h1, h2⟩ | ⟨h1, h2⟩ | ⟨h1, h2⟩
      · exact .inr (.inr ⟨i, K, hi, h2, .inl rfl, h1⟩)
      · exact .inl ⟨h1, fun _ => ⟨i, hi, h2⟩⟩
      · exact .inr (.inl ⟨i, hi, h2, .inl rfl, h1⟩)
    · simp only [Option.bind_eq_some_iff] at hc
      obtain ⟨i, hi, hc⟩ := hc
      rcases eqd_ok (o := .neq) (i := i) (x := x') (y := y') hc with ⟨K, h1, h2⟩ | ⟨h1, h2⟩ | ⟨h1, h2⟩
      · exact .inr (.inr ⟨i, K, hi, h2, .inr rfl, h1⟩)
      · exact .inl ⟨h1, fun _ => ⟨i, hi, h2⟩⟩
      · exact .inr (.inl ⟨i, hi, h2, .inr rfl, h1⟩)
    · rename_i o h1 h2
      injection hc with hc
      exact .inl ⟨hc.symm, fun hh => by rcases hh with hh | hh <;> simp_all⟩
  rcases main with ⟨rfl, hd⟩ | ⟨i, hi, hpl, ho, rfl⟩ | ⟨i, K, hi, hpl, ho, rfl⟩
  · simp only [opx, Option.bind_eq_some_iff, Option.map_eq_some_iff] at hx
    obtain ⟨xv, hxv, yv, hyv, r, hx, he⟩ := hx
    obtain ⟨rfl, rfl⟩ := Prod.mk.inj he
    have h1 := ev_sim (a := a) hcx hxv ht hg
    have h2 := ev_sim (a := a) hcy hyv ht hg
    obtain ⟨val, g1, g2⟩ := sim_bin (P := P) (w := w) (t := t) (xo := x) (yo := y) (fun ho => by
      obtain ⟨i, hi, hdd⟩ := hd ho
      exact ⟨_, (htb _ _ hi).und, hdd⟩) h1 h2 hx
    exact good_v hr g1 g2
  · simp only [opx, Option.bind_eq_some_iff] at hx
    obtain ⟨xv, hxv, yv, hyv, hx⟩ := hx
    have h1 := ev_sim (a := a) hcx hxv ht hg
    have h2 := ev_sim (a := a) hcy hyv ht hg
    split at hx
    · rename_i p q
      injection hx with hx
      obtain ⟨rfl, rfl⟩ := Prod.mk.inj hx
      generalize hu : a.eval x = u at h1
      generalize hu2 : a.eval y = u2 at h2
      cases h1; cases h2
      have hun := (htb _ _ hi).und; rw [hpl] at hun
      exact good_v hr (sim_eqb (neg := o == .neq) (by rcases ho with rfl | rfl <;> rfl) hun) (.bool _)
    · cases hx
  · simp only [opx, Option.bind_eq_some_iff] at hx
    obtain ⟨xv, hxv, yv, hyv, hx⟩ := hx
    split at hx
    · rename_i xs ys
      split at hx
      · rename_i hn
        simp only [Option.map_eq_some_iff] at hx
        obtain ⟨r, hx, he⟩ := hx
        obtain ⟨rfl, rfl⟩ := Prod.mk.inj he
        have h1 := ev_sim (a := a) hcx hxv ht hg
        have h2 := ev_sim (a := a) hcy hyv ht hg
        obtain ⟨u, hu, -, -⟩ := agg_inv h1
        obtain ⟨u2, hu2, -, -⟩ := agg_inv h2
        rw [hu] at h1
        rw [hu2] at h2
        rw [hu, hu2]
        refine good_v hr (sim_eqa (neg := o == .neq) (by rcases ho with rfl | rfl <;> rfl) ((htb _ _ hi).plain K hpl) hn h1 h2 hx) (.bool _)
      · cases hx
    · cases hx


theorem pair_inv {α β : Type} {a a' : α} {b b' : β} (h : (a, b) = (a', b')) : a = a' ∧ b = b' := Prod.mk.inj h

theorem opx_sim {o : Go.Oper} {op : Op} {v : V} (htb : TabOK P N tb) (hc : compOp N tb o.op = some op) (hncall : ∀ c, o.op ≠ .call c) (hx : opx Γ tm h slot op = some (v, h')) (hr : Rel N I ι h w) (hf : op.cls Γ ≠ 0 → ι h.length = none)
    (hsl : ∀ s, slot = some s → ι s = none) (ht : TmR N I ι tm a.tmps) (hg : GlobOK Γ N I) : Good1 P N I ι h w slot v h' (Go.execOp a.eval o) := by
  unfold compOp at hc
  unfold Go.execOp
  split at hc <;> rename_i heq <;> simp only [heq]
  · simp only [Option.map_eq_some_iff] at hc
    obtain ⟨x', hx', rfl⟩ := hc
    simp only [opx, Option.map_eq_some_iff] at hx
    obtain ⟨xv, hxv, he⟩ := hx
    obtain ⟨rfl, rfl⟩ := pair_inv he
    exact good_quiet hr (Sem.run_pure _ _ _) (ev_sim hx' hxv ht hg)
  · simp only [Option.map_eq_some_iff] at hc
    obtain ⟨x', hx', rfl⟩ := hc
    simp only [opx, Option.map_eq_some_iff] at hx
    obtain ⟨xv, hxv, he⟩ := hx
    obtain ⟨rfl, rfl⟩ := pair_inv he
    exact good_quiet hr (Sem.run_pure _ _ _) (ev_sim hx' hxv ht hg)
  · -- pick
    simp only [Option.bind_eq_some_iff, Option.map_eq_some_iff] at hc
    obtain ⟨c', hc', x', hx', y', hy', rfl⟩ := hc
    simp only [opx, Option.bind_eq_some_iff] at hx
    obtain ⟨cv, hcv, hx⟩ := hx
    have h1 := ev_sim (a := a) hc' hcv ht hg
    split at hx
    · simp only [Option.map_eq_some_iff] at hx
      obtain ⟨xv, hxv, he⟩ := hx
      obtain ⟨rfl, rfl⟩ := pair_inv he
      generalize hu : a.eval _ = u at h1
      cases h1
      exact good_quiet hr (run_pick rfl w) (ev_sim (a := a) hx' hxv ht hg)
    · simp only [Option.map_eq_some_iff] at hx
      obtain ⟨xv, hxv, he⟩ := hx
      obtain ⟨rfl, rfl⟩ := pair_inv he
      generalize hu : a.eval _ = u at h1
      cases h1
      exact good_quiet hr (run_pick rfl w) (ev_sim (a := a) hy' hxv ht hg)
    · cases hx
  · -- alloc
    simp only [Option.bind_eq_some_iff, Option.map_eq_some_iff] at hc
    obtain ⟨i, hi, zl, hz, rfl⟩ := hc
    exact sim_new (htb _ _ hi) hz hr (hf (by simp [Op.cls])) hsl hx
  · -- box
    simp only [Option.bind_eq_some_iff, Option.map_eq_some_iff] at hc
    obtain ⟨i, hi, x', hx', rfl⟩ := hc
    exact sim_box (htb _ _ hi) hx' hr (hf (by simp [Op.cls])) hsl ht hg hx
  · -- build
    have hc0 := hc
    simp only [Option.bind_eq_some_iff] at hc
    obtain ⟨i, hi, _⟩ := hc
    exact sim_build htb (htb _ _ hi) hi (by unfold compOp; exact hc0) hr ht hg hx
  · -- literal
    simp only [Option.bind_eq_some_iff] at hc
    obtain ⟨i, hi, hc⟩ := hc
    split at hc
    · rename_i e hd
      simp only [Option.bind_eq_some_iff] at hc
      obtain ⟨ie, hie, zl, hzl, hc⟩ := hc
      split at hc
      · rename_i hn
        simp only [Option.map_eq_some_iff] at hc
        obtain ⟨cl, hcl, rfl⟩ := hc
        exact sim_lit (htb _ _ hi) hd (htb _ _ hie) hzl hn hcl hr (hf (by simp [Op.cls])) hsl ht hg hx
      · cases hc
    · cases hc
  · -- load
    simp only [Option.bind_eq_some_iff, Option.map_eq_some_iff] at hc
    obtain ⟨i, hi, x', hx', rfl⟩ := hc
    simp only [opx, Option.bind_eq_some_iff, Option.map_eq_some_iff] at hx
    obtain ⟨xv, hxv, r, hx, he⟩ := hx
    obtain ⟨rfl, rfl⟩ := pair_inv he
    obtain ⟨ad, val, hu, g1, g2⟩ := sim_loadV (P := P) (htb _ _ hi) hr (ev_sim (a := a) hx' hxv ht hg) hx
    exact good_v hr (by simp [Go.Instr.loadAt, hu, Go.Instr.sureAddr, g1]) g2
  · -- store
    simp only [Option.bind_eq_some_iff, Option.map_eq_some_iff] at hc
    obtain ⟨i, hi, a', ha', x', hx', rfl⟩ := hc
    simp only [opx, Option.bind_eq_some_iff, Option.map_eq_some_iff] at hx
    obtain ⟨av, hav, xv, hxv, r, hx, he⟩ := hx
    obtain ⟨rfl, rfl⟩ := pair_inv he
    obtain ⟨ad, w', hu, g1, g2, g3⟩ := sim_storeV (P := P) (htb _ _ hi) hr (ev_sim (a := a) ha' hav ht hg) (ev_sim (a := a) hx' hxv ht hg) hx
    exact good_w (r := .skip) (by simp [Go.Instr.storeAt, hu, Go.Instr.sureAddr, g1]) (.inr ⟨rfl, rfl⟩) undef_sim g2 g3
  · -- nilCheck
    simp only [Option.map_eq_some_iff] at hc
    obtain ⟨x', hx', rfl⟩ := hc
    simp only [opx, Option.bind_eq_some_iff] at hx
    obtain ⟨xv, hxv, hx⟩ := hx
    have h1 := ev_sim (a := a) hx' hxv ht hg
    split at hx
    all_goals first
      | (cases hx; done)
      | (injection hx with hx
         obtain ⟨rfl, rfl⟩ := pair_inv hx
         have h2 := h1
         generalize hu : a.eval _ = u at h1 h2 ⊢
         cases h1
         exact good_quiet hr (Sem.run_pure _ _ _) h2)
  · -- binOp
    simp only [Option.bind_eq_some_iff] at hc
    obtain ⟨x', hx', y', hy', hc⟩ := hc
    exact bin_sim htb hx' hy' hc hx hr ht hg
  · -- unOp
    simp only [Option.map_eq_some_iff] at hc
    obtain ⟨x', hx', rfl⟩ := hc
    simp only [opx, Option.bind_eq_some_iff, Option.map_eq_some_iff] at hx
    obtain ⟨xv, hxv, r, hx, he⟩ := hx
    obtain ⟨rfl, rfl⟩ := pair_inv he
    obtain ⟨val, g1, g2⟩ := sim_un (P := P) (w := w) (ev_sim (a := a) hx' hxv ht hg) hx
    exact good_v hr g1 g2
  · -- convert
    simp only [Option.bind_eq_some_iff] at hc
    obtain ⟨x', hx', is, his, id, hid, hc⟩ := hc
    have hu1 := (htb _ _ his).und
    have hu2 := (htb _ _ hid).und
    split at hc
    all_goals first
      | (cases hc; done)
      | (rename_i e1 e2
         injection hc with hc; subst hc
         rw [e1] at hu1; rw [e2] at hu2
         simp only [opx, Option.bind_eq_some_iff, Option.map_eq_some_iff] at hx
         obtain ⟨xv, hxv, r, hx, he⟩ := hx
         obtain ⟨rfl, rfl⟩ := pair_inv he
         have h1 := ev_sim (a := a) hx' hxv ht hg
         generalize hu : a.eval _ = u at h1
         cases h1 <;> simp only [cv, Option.some.injEq, reduceCtorEq] at hx
         subst hx
         refine good_v hr (by simp [Go.convert, Go.run_underlying hu1, Go.run_underlying hu2, Go.Conv.intToInt, Go.Conv.intToFloat]; rfl) (by constructor))
  · -- makeFunc
    simp only [Option.bind_eq_some_iff, Option.map_eq_some_iff] at hc
    obtain ⟨x', hx', y', hy', rfl⟩ := hc
    simp only [opx, Option.bind_eq_some_iff, Option.map_eq_some_iff] at hx
    obtain ⟨xv, hxv, yv, hyv, he⟩ := hx
    obtain ⟨rfl, rfl⟩ := pair_inv he
    have h1 := fn_lists (a := a) hx' hxv ht hg
    have h2 := fn_lists (a := a) hy' hyv ht hg
    refine good_v hr (Sem.run_pure _ _ _) (.fn (by simpa using h1.1) (by simpa using h2.1) (fun k x y hx hy => h1.2 k x y hx (by simpa using hy)) (fun k x y hx hy => h2.2 k x y hx (by simpa using hy)))
  · -- makeMap
    injection hc with hc; subst hc
    simp only [opx, Option.map_eq_some_iff] at hx
    obtain ⟨⟨b, h1⟩, hp, he⟩ := hx
    obtain ⟨rfl, rfl⟩ := pair_inv he
    refine good_put (m := 0) (o := .map #[] 0) (val := .map (some w.heap.size)) hr (hf (by simp [Op.cls])) hsl hp ⟨#[], 0, rfl, rfl, fun k e x he => by simp at he⟩ ?_ (.mp (c := (w.heap.size, 0)) ?_)
    · simp [Go.Instr.makeMap, Go.run_newObj]
    · unfold upd; rw [if_pos rfl]
  · -- makeSlice
    simp only [Option.bind_eq_some_iff] at hc
    obtain ⟨i, hi, hc⟩ := hc
    split at hc
    · rename_i e hd
      simp only [Option.bind_eq_some_iff] at hc
      obtain ⟨ie, hie, zl, hzl, l', hl', c', hc', hc⟩ := hc
      split at hc
      · rename_i hn
        injection hc with hc; subst hc
        exact sim_mks (htb _ _ hi) hd (htb _ _ hie) hzl hn hl' hc' hr (hf (by simp [Op.cls])) hsl ht hg hx
      · cases hc
    · cases hc
  · -- slice
    simp only [Option.bind_eq_some_iff] at hc
    obtain ⟨i, hi, hc⟩ := hc
    split at hc
    · rename_i e hd
      simp only [Option.bind_eq_some_iff, Option.map_eq_some_iff] at hc
      obtain ⟨ie, hie, x', hx', lo', hlo', hi', hhi', rfl⟩ := hc
      simp only [opx, Option.bind_eq_some_iff, Option.map_eq_some_iff] at hx
      obtain ⟨xv, hxv, ln, hln, hn, hhn, r, hx, he⟩ := hx
      obtain ⟨rfl, rfl⟩ := pair_inv he
      obtain ⟨val, g1, g2⟩ := sim_slice (P := P) (htb _ _ hi) hd (htb _ _ hie) hlo' hhi' hln hhn ht hg hr (ev_sim (a := a) hx' hxv ht hg) hx
      exact good_v hr g1 g2
    · cases hc
  · -- fieldAddr
    simp only [Option.bind_eq_some_iff] at hc
    obtain ⟨i, hi, hc⟩ := hc
    have hu1 := (htb _ _ hi).und
    split at hc
    · rename_i fs hd
      rw [hd] at hu1
      simp only [Option.bind_eq_some_iff] at hc
      obtain ⟨f, hf', fi, hfi, hc⟩ := hc
      split at hc
      · rename_i hsz
        simp only [Option.map_eq_some_iff] at hc
        obtain ⟨x', hx', rfl⟩ := hc
        simp only [opx, Option.bind_eq_some_iff] at hx
        obtain ⟨xv, hxv, hx⟩ := hx
        have h1 := ev_sim (a := a) hx' hxv ht hg
        have hs := run_size (htb _ _ hfi)
        have hne : ¬ fi.size = 0 := by omega
        split at hx
        · rename_i pb pz pi po
          injection hx with hx
          obtain ⟨rfl, rfl⟩ := pair_inv hx
          generalize hu : a.eval _ = u at h1
          cases h1 with
          | ptr hb =>
            refine good_v hr (by simp [Go.Instr.fieldAt, Go.run_underlying hu1, hf', Go.Instr.sureAddr, Go.fieldPlace, hs, hne]; rfl) ?_
            have := VR.ptr (N := N) (I := I) (z := pz) (i := pi) (o := po + f.offset) hb
            unfold Addr.add
            split
            · rename_i h0; simpa [h0] using this
            · simpa [Nat.add_assoc] using this
        · rename_i pcs po
          injection hx with hx
          obtain ⟨rfl, rfl⟩ := pair_inv hx
          generalize hu : a.eval _ = u at h1
          cases h1 with
          | pp g1 g2 g3 g4 g5 =>
            refine good_v hr (by simp [Go.Instr.fieldAt, Go.run_underlying hu1, hf', Go.Instr.sureAddr, Go.fieldPlace, hs, hne]; rfl) ?_
            rename_i ad base cells ty fr
            have hadd : ad.add f.offset = ⟨ad.block, base + (po + f.offset), none⟩ := by cases ad; unfold Addr.add; split <;> simp_all [Nat.add_assoc]
            rw [hadd]; exact .pp g1 rfl rfl g4 g5
        · cases hx
      · cases hc
    · cases hc
  · -- field
    simp only [Option.bind_eq_some_iff] at hc
    obtain ⟨i, hi, hc⟩ := hc
    have hu1 := (htb _ _ hi).und
    split at hc
    · rename_i fs hd
      rw [hd] at hu1
      simp only [Option.bind_eq_some_iff, Option.map_eq_some_iff] at hc
      obtain ⟨f, hf', fi, hfi, x', hx', rfl⟩ := hc
      simp only [opx, Option.bind_eq_some_iff] at hx
      obtain ⟨xv, hxv, hx⟩ := hx
      have h1 := ev_sim (a := a) hx' hxv ht hg
      split at hx
      · simp only [Option.map_eq_some_iff] at hx
        obtain ⟨r, hx, he⟩ := hx
        obtain ⟨rfl, rfl⟩ := pair_inv he
        obtain ⟨cs', hu, h2, h3⟩ := agg_inv h1
        obtain ⟨val, g1, g2⟩ := getC_part (P := P) (w := w) (htb _ _ hfi) h2 h3 hx
        exact good_v hr (by simp [Go.Instr.field, Go.run_underlying hu1, hf', hu, Go.asAgg, g1]) g2
      · cases hx
    · cases hc
  · -- indexAddr
    simp only [Option.bind_eq_some_iff] at hc
    obtain ⟨i, hi, hc⟩ := hc
    have hu1 := (htb _ _ hi).und
    split at hc
    · rename_i e hd
      rw [hd] at hu1
      simp only [Option.bind_eq_some_iff, Option.map_eq_some_iff] at hc
      obtain ⟨ie, hie, x', hx', y', hy', rfl⟩ := hc
      simp only [opx, Option.bind_eq_some_iff, Option.map_eq_some_iff] at hx
      obtain ⟨xv, hxv, yv, hyv, n, hn, r, hx, he⟩ := hx
      obtain ⟨rfl, rfl⟩ := pair_inv he
      obtain ⟨k, hk⟩ := natOf_sim (ev_sim (a := a) hy' hyv ht hg) hn
      obtain ⟨val, g1, g2⟩ := sim_iaddr (P := P) (k := k) hr (ev_sim (a := a) hx' hxv ht hg) hx (.inl ⟨rfl, e, ie, hu1, htb _ _ hie, rfl⟩)
      exact good_v hr (by rw [hk]; exact g1) g2
    · rename_i m e hd
      rw [hd] at hu1
      simp only [Option.bind_eq_some_iff, Option.map_eq_some_iff] at hc
      obtain ⟨ie, hie, x', hx', y', hy', rfl⟩ := hc
      simp only [opx, Option.bind_eq_some_iff, Option.map_eq_some_iff] at hx
      obtain ⟨xv, hxv, yv, hyv, n, hn, r, hx, he⟩ := hx
      obtain ⟨rfl, rfl⟩ := pair_inv he
      obtain ⟨k, hk⟩ := natOf_sim (ev_sim (a := a) hy' hyv ht hg) hn
      obtain ⟨val, g1, g2⟩ := sim_iaddr (P := P) (k := k) hr (ev_sim (a := a) hx' hxv ht hg) hx (.inr ⟨m, e, ie, rfl, hu1, htb _ _ hie, rfl⟩)
      exact good_v hr (by rw [hk]; exact g1) g2
    · cases hc
  · -- index
    simp only [Option.bind_eq_some_iff] at hc
    obtain ⟨i, hi, hc⟩ := hc
    have hu1 := (htb _ _ hi).und
    split at hc
    · rename_i m e hd
      rw [hd] at hu1
      simp only [Option.bind_eq_some_iff, Option.map_eq_some_iff] at hc
      obtain ⟨ie, hie, x', hx', y', hy', rfl⟩ := hc
      simp only [opx, Option.bind_eq_some_iff] at hx
      obtain ⟨xv, hxv, yv, hyv, n, hn, hx⟩ := hx
      have h1 := ev_sim (a := a) hx' hxv ht hg
      obtain ⟨k, hk⟩ := natOf_sim (ev_sim (a := a) hy' hyv ht hg) hn
      split at hx
      · split at hx
        · rename_i hlt
          simp only [Option.map_eq_some_iff] at hx
          obtain ⟨r, hx, he⟩ := hx
          obtain ⟨rfl, rfl⟩ := pair_inv he
          obtain ⟨cs', hu, h2, h3⟩ := agg_inv h1
          obtain ⟨val, g1, g2⟩ := getC_part (P := P) (w := w) (htb _ _ hie) h2 h3 hx
          have hin : (0 : Int) ≤ (n : Int) ∧ (n : Int) < (m : Int) := by omega
          exact good_v hr (by simp [Go.Instr.index, Go.run_underlying hu1, hu, hk, Go.asIntOf, hin, hlt, run_size (htb _ _ hie), g1]) g2
        · cases hx
      · cases hx
    · rename_i hd
      rw [hd] at hu1
      simp only [Option.bind_eq_some_iff, Option.map_eq_some_iff] at hc
      obtain ⟨x', hx', y', hy', rfl⟩ := hc
      simp only [opx, Option.bind_eq_some_iff] at hx
      obtain ⟨xv, hxv, yv, hyv, n, hn, hx⟩ := hx
      have h1 := ev_sim (a := a) hx' hxv ht hg
      obtain ⟨k, hk⟩ := natOf_sim (ev_sim (a := a) hy' hyv ht hg) hn
      split at hx
      · rename_i s
        simp only [Option.map_eq_some_iff] at hx
        obtain ⟨r, hx, he⟩ := hx
        obtain ⟨rfl, rfl⟩ := pair_inv he
        generalize hu : a.eval _ = u at h1
        cases h1
        have hlt : n < s.size := by
          by_cases hlt : n < s.size
          · exact hlt
          · simp [getElem?_neg s n hlt] at hx
        exact good_v hr (by simp [Go.Instr.index, Go.run_underlying hu1, hk, Go.asIntOf, hx]) (.int _ _)
      · cases hx
    · cases hc
  · -- lookup
    simp only [Option.bind_eq_some_iff] at hc
    obtain ⟨i, hi, hc⟩ := hc
    split at hc
    · rename_i ky e hd
      simp only [Option.bind_eq_some_iff] at hc
      obtain ⟨ik, hik, ie, hie, z, hz, K, hpl, hc⟩ := hc
      · simp only [Option.bind_eq_some_iff, Option.map_eq_some_iff] at hc
        obtain ⟨m', hm', k', hk', rfl⟩ := hc
        simp only [opx, Option.bind_eq_some_iff] at hx
        obtain ⟨mv, hmv, kv, hkv, hx⟩ := hx
        split at hx
        · rename_i hn
          simp only [Option.map_eq_some_iff] at hx
          obtain ⟨r, hx, he⟩ := hx
          obtain ⟨rfl, rfl⟩ := pair_inv he
          obtain ⟨info, hinfo, _, _, hzz⟩ := (htb _ _ hie).info
          obtain ⟨zv, hzv, hzc⟩ := hzz z hz
          obtain ⟨val, g1, g2⟩ := sim_look (P := P) (ie := ie) (htb _ _ hi) hd (htb _ _ hik) hpl (zv := zv) (fun w => by simp [Go.zeroValue, run_ti hinfo, hzv]) (constV_sim hzc) hr (ev_sim (a := a) hm' hmv ht hg) (ev_sim (a := a) hk' hkv ht hg) hn hx
          exact good_v hr g1 g2
        · cases hx
    · cases hc
  · -- mapUpdate
    simp only [Option.bind_eq_some_iff] at hc
    obtain ⟨i, hi, hc⟩ := hc
    split at hc
    · rename_i ky e hd
      simp only [Option.bind_eq_some_iff] at hc
      obtain ⟨ik, hik, K, hpl, hc⟩ := hc
      · simp only [Option.bind_eq_some_iff, Option.map_eq_some_iff] at hc
        obtain ⟨m', hm', k', hk', v', hv', rfl⟩ := hc
        simp only [opx, Option.bind_eq_some_iff] at hx
        obtain ⟨mv, hmv, kv, hkv, vv, hvv, hx⟩ := hx
        split at hx
        · rename_i hn
          simp only [Option.map_eq_some_iff] at hx
          obtain ⟨r, hx, he⟩ := hx
          obtain ⟨rfl, rfl⟩ := pair_inv he
          obtain ⟨w', g1, g2, g3⟩ := sim_mupd (P := P) (htb _ _ hi) hd (htb _ _ hik) hpl hr (ev_sim (a := a) hm' hmv ht hg) (ev_sim (a := a) hk' hkv ht hg) (ev_sim (a := a) hv' hvv ht hg) hn hx
          exact good_w (r := .skip) (by simp [g1]) (.inr ⟨rfl, rfl⟩) undef_sim g2 g3
        · cases hx
    · cases hc
  · -- extract
    simp only [Option.map_eq_some_iff] at hc
    obtain ⟨x', hx', rfl⟩ := hc
    simp only [opx, Option.bind_eq_some_iff] at hx
    obtain ⟨xv, hxv, hx⟩ := hx
    have h1 := ev_sim (a := a) hx' hxv ht hg
    split at hx
    · simp only [Option.map_eq_some_iff] at hx
      obtain ⟨r, hx, he⟩ := hx
      obtain ⟨rfl, rfl⟩ := pair_inv he
      obtain ⟨cs', hu, h2, h3⟩ := tup_inv h1
      rename_i vs ix _
      have hlt : _ < cs'.size := h2 ▸ (List.getElem?_eq_some_iff.1 hx).1
      exact good_v hr (by simp [Go.Instr.extract, hu, hlt]) (h3 _ _ _ hx (Array.getElem?_eq_getElem hlt))
    · cases hx
  · exact absurd heq (hncall _)
  · cases hc
end
end Am
