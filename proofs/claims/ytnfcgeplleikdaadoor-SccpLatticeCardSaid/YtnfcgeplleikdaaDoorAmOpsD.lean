/- The operations on slices and structs, second part. -/
import Derived.Test.YtnfcgeplleikdaaDoorAmOpsC
namespace Am
open Go (IntKind BinOp UnOp Obj Value World Addr Program TypeDesc TypeId Operand Act Sem Result Next)
section
variable {P : Program} {N : Nat → Nat} {tb : TypeId → Option TI} {Γ : Env} {I I' : Imm} {ι ι' : Emb} {h h' : Heap} {w w' : World} {tm : List V} {a : Act} {slot : Option Nat}

theorem one_row {z : Nat} {xs : List V} {cs : Array Value} {t : TypeId} (hz : xs.length = z) (hl : LR N I ι xs cs.toList) : ObR N I ι z (.row z [xs]) (.cells cs t) :=
  ⟨cs, t, rfl, by have := hl.1; simp at this; omega, by simp [hz], by
    rw [List.flatten_cons, List.flatten_nil, List.append_nil]
    exact ⟨by have := hl.1; simp at this ⊢; omega, fun k x y hx hy => hl.2 k x y hx (by simpa using hy)⟩⟩

theorem sim_new {t : TypeId} {i : TI} {zl : List V} {v : V} (hi : TIok P N t i) (hz : zOf i = some zl) (hr : Rel N I ι h w) (hf : ι h.length = none) (hsl : ∀ s, slot = some s → ι s = none)
    (hx : opx Γ tm h slot (.new zl) = some (v, h')) : Good1 P N I ι h w slot v h' (do let r ← Go.Instr.alloc t true (.tuple #[]); pure (.value r)) := by
  simp only [opx, Option.map_eq_some_iff] at hx
  obtain ⟨⟨b, h1⟩, hput, hx⟩ := hx
  obtain ⟨rfl, rfl⟩ := Prod.mk.inj hx
  obtain ⟨hzl, zv, hzr, hzs, hzlr⟩ := zero_sim (I := I) (ι := ι) hi hz
  refine good_put (m := zl.length) hr hf hsl hput (o := .cells zv.cells t) (one_row rfl hzlr) (val := .pointer (some ⟨w.heap.size, 0, none⟩)) ?_ ?_
  · simp [Go.Instr.alloc, hzr, Go.newVar, Go.newRow]
  · have hp := VR.ptr (N := N) (I := I) (ι := upd ι b (w.heap.size, zl.length)) (b := b) (z := zl.length) (i := 0) (o := 0) (c := (w.heap.size, zl.length)) (by unfold upd; rw [if_pos rfl])
    simpa using hp

theorem sim_box {t : TypeId} {x : Operand} {i : TI} {x' : Opd} {v : V} (hi : TIok P N t i) (hc : compO N x = some x') (hr : Rel N I ι h w) (hf : ι h.length = none) (hsl : ∀ s, slot = some s → ι s = none)
    (ht : TmR N I ι tm a.tmps) (hg : GlobOK Γ N I) (hx : opx Γ tm h slot (.box i.size x') = some (v, h')) : Good1 P N I ι h w slot v h' (do let r ← Go.Instr.box t (a.eval x); pure (.value r)) := by
  simp only [opx, Option.bind_eq_some_iff] at hx
  obtain ⟨xv, hxv, hx⟩ := hx
  split at hx
  case isFalse => cases hx
  rename_i hcc
  simp only [Option.map_eq_some_iff] at hx
  obtain ⟨⟨b, h1⟩, hput, hx⟩ := hx
  obtain ⟨rfl, rfl⟩ := Prod.mk.inj hx
  have hv := ev_sim (a := a) hc hxv ht hg
  refine good_put (m := i.size) hr hf hsl hput (o := .cells (a.eval x).cells t) (one_row hcc.1 (cells_sim hv)) (val := .pointer (some ⟨w.heap.size, 0, none⟩)) ?_ ?_
  · simp [Go.Instr.box, Go.newVar, Go.newRow]
  · have hp := VR.ptr (N := N) (I := I) (ι := upd ι b (w.heap.size, i.size)) (b := b) (z := i.size) (i := 0) (o := 0) (c := (w.heap.size, i.size)) (by unfold upd; rw [if_pos rfl])
    simpa using hp

theorem natOf_sim {v : V} {n : Nat} {u : Value} (hv : VR N I ι v u) (hn : natOf v = some n) : ∃ k, u = .int k (n : Int) := by
  cases hv <;> simp only [natOf] at hn <;> try (cases hn; done)
  rename_i k m
  split at hn
  · rename_i h0
    injection hn with hn
    exact ⟨k, by subst hn; rw [Int.toNat_of_nonneg h0]⟩
  · cases hn

theorem sim_mks {t e : TypeId} {i ie : TI} {zl : List V} {l c : Operand} {l' c' : Opd} {v : V} (hi : TIok P N t i) (hd : i.desc = .slice e) (hie : TIok P N e ie) (hzo : zOf ie = some zl) (hsz : 0 < ie.size)
    (hl : compO N l = some l') (hc : compO N c = some c') (hr : Rel N I ι h w) (hf : ι h.length = none) (hsl : ∀ s, slot = some s → ι s = none) (ht : TmR N I ι tm a.tmps) (hg : GlobOK Γ N I)
    (hx : opx Γ tm h slot (.mks ie.size ie.bytes zl l' c') = some (v, h')) : Good1 P N I ι h w slot v h' (do let r ← Go.Instr.makeSlice t (a.eval l) (a.eval c); pure (.value r)) := by
  simp only [opx, Option.bind_eq_some_iff] at hx
  obtain ⟨lv, hlv, cv, hcv, ln, hln, cn, hcn, hx⟩ := hx
  split at hx
  case isFalse => cases hx
  rename_i hcc
  obtain ⟨hle, hroom, hbig, hzlen⟩ := hcc
  simp only [Option.map_eq_some_iff] at hx
  obtain ⟨⟨b, h1⟩, hput, hx⟩ := hx
  obtain ⟨rfl, rfl⟩ := Prod.mk.inj hx
  obtain ⟨kl, hel⟩ := natOf_sim (ev_sim (a := a) hl hlv ht hg) hln
  obtain ⟨kc, hec⟩ := natOf_sim (ev_sim (a := a) hc hcv ht hg) hcn
  obtain ⟨hzl, zv, hzr, hzs, hzlr⟩ := zero_sim (I := I) (ι := ι) hie hzo
  obtain ⟨info, hinfo, hs, hby, _⟩ := hie.info
  have hwl : IntKind.i64.wrap (ln : Int) = ln := by simp [IntKind.wrap, IntKind.bits, IntKind.signed]; omega
  have hwc : IntKind.i64.wrap (cn : Int) = cn := by simp [IntKind.wrap, IntKind.bits, IntKind.signed]; omega
  have hroom' : ¬ ((info.bytes : Int) * (cn : Int) > 2 ^ 48) := by
    have : (info.bytes * cn : Nat) ≤ 2 ^ 48 := by rw [hby, Nat.mul_comm]; unfold room at hroom; omega
    have h2 : ((info.bytes * cn : Nat) : Int) ≤ 2 ^ 48 := by omega
    rw [Int.natCast_mul] at h2; omega
  have hcells : ((Array.range (cn * ie.size)).map (fun k => zv.cells[k % zv.cells.size]!)).toList = (List.replicate cn zv.cells.toList).flatten := range_zero hzs
  have hlr := replicate_flat (n := cn) hzlr
  have hall : ∀ e ∈ List.replicate cn zl, e.length = ie.size := fun x hx => by rw [List.eq_of_mem_replicate hx, hzl]
  have hsize : ((Array.range (cn * ie.size)).map (fun k => zv.cells[k % zv.cells.size]!)).size = cn * ie.size := by simp
  refine good_put (m := cn * ie.size) hr hf hsl hput (o := .cells ((Array.range (cn * ie.size)).map (fun k => zv.cells[k % zv.cells.size]!)) e) ⟨_, e, rfl, hsize, hall, ?_⟩ (val := .slice (some ⟨w.heap.size, 0, none⟩) ln cn) ?_ ?_
  · refine ⟨by rw [flat_length hall, hsize]; simp, fun k x y hx hy => ?_⟩
    refine hlr.2 k x y hx ?_
    rw [← hcells, Array.getElem?_toList]; rw [Nat.zero_add] at hy; exact hy
  · rw [hel, hec]
    have hneg : ¬ ((cn : Int) < 0) := by omega
    have hneg2 : ¬ ((ln : Int) < 0) := by omega
    have hgt : ¬ ((ln : Int) > (cn : Int)) := by omega
    simp only [Go.Instr.makeSlice, Sem.run_bind, Go.run_underlying (show P.underlying t = some (.slice e) by rw [hi.und, hd]), Go.Result.andThen_ok, Go.asInt, Go.asIntOf, Sem.run_pure, run_ti hinfo, hwl, hwc, run_size hie]
    have hcond : ((decide ((cn : Int) < 0) || decide ((info.bytes : Int) * (cn : Int) > 2 ^ 48)) || decide ((ln : Int) < 0) || decide ((ln : Int) > (cn : Int))) = false := by
      simp only [hneg, hroom', hneg2, hgt, decide_false, Bool.or_false]
    simp only [hcond, Bool.false_eq_true, if_false, Sem.run_pure, Go.Result.andThen_ok, Sem.run_bind, Go.run_askRoom, Int.toNat_natCast, Sem.run_ite]
    by_cases h0 : cn * ie.size = 0
    · simp [h0, run_size hie, Go.newRow, show Array.range 0 = (#[] : Array Nat) from rfl]
    · simp [h0, hzr, run_size hie, Go.newRow]
  · exact .sl (c := (w.heap.size, cn * ie.size)) (by unfold upd; rw [if_pos rfl]) hle (fun k hk => by injection hk) (fun _ => ⟨by simp, by simp⟩)

theorem sim_build {t : TypeId} {i : TI} {l : Array (Nat × Operand)} {op : Op} {v : V} (htb : TabOK P N tb) (hi : TIok P N t i) (hti : tb t = some i) (hc : compOp N tb (.build t l) = some op) (hr : Rel N I ι h w)
    (ht : TmR N I ι tm a.tmps) (hg : GlobOK Γ N I) (hx : opx Γ tm h slot op = some (v, h')) :
    Good1 P N I ι h w slot v h' (do let r ← Go.Instr.build t (l.map fun (p : Nat × Operand) => (p.1, a.eval p.2)); pure (.value r)) := by
  simp only [compOp, hti, Option.bind_some, Option.bind_eq_some_iff] at hc
  obtain ⟨zl, hzo, hc⟩ := hc
  obtain ⟨hzl, zv, hzr, hzs, hzlr⟩ := zero_sim (I := I) (ι := ι) hi hzo
  have hm : (l.map fun (p : Nat × Operand) => (p.1, a.eval p.2)).toList = l.toList.map fun p => (p.1, a.eval p.2) := by simp
  split at hc
  · rename_i fs hd
    simp only [Option.bind_eq_some_iff] at hc
    obtain ⟨cl, hcl, hc⟩ := hc
    split at hc
    case isFalse => cases hc
    rename_i hall
    injection hc with hc; subst hc
    simp only [opx, Option.bind_eq_some_iff, Option.map_eq_some_iff] at hx
    obtain ⟨ps, hps, cs, hcs, hx⟩ := hx
    obtain ⟨rfl, rfl⟩ := Prod.mk.inj hx
    have hplaces : ∀ w : World, (fs.mapM fun f => (do let s ← Go.sizeOf f.type; pure (f.offset, s) : Sem (Nat × Nat))).run P w = .ok (fs.map fun f => (f.offset, ((tb f.type).map (·.size)).getD 0)) w := by
      intro w
      have key : ∀ (l : List Go.Field), (∀ f ∈ l, (tb f.type).isSome = true) → (l.mapM fun f => (do let s ← Go.sizeOf f.type; pure (f.offset, s) : Sem (Nat × Nat))).run P w = .ok (l.map fun f => (f.offset, ((tb f.type).map (·.size)).getD 0)) w := by
        intro l
        induction l with
        | nil => intro _; simp
        | cons f l ih =>
          intro hf
          obtain ⟨fi, hfi⟩ := Option.isSome_iff_exists.1 (hf f (by simp))
          rw [List.mapM_cons]
          simp only [Sem.run_bind, run_size (htb _ _ hfi), Go.Result.andThen_ok, Sem.run_pure, ih (fun x hx => hf x (by simp [hx])), List.map_cons, hfi, Option.map_some, Option.getD_some]
      have := key fs.toList (fun f hf => List.all_eq_true.1 hall f hf)
      rw [Array.mapM_eq_mapM_toList, Sem.run_map, this, Go.Result.andThen_ok]
      congr 1
      apply Array.ext'
      simp
    obtain ⟨cells', hfill, hlr⟩ := build_sim (place := fun k => (fs.map fun f => (f.offset, ((tb f.type).map (·.size)).getD 0))[k]?) (a := a) _ (fun p q hq => by
      simp only [Option.bind_eq_some_iff, Option.map_eq_some_iff] at hq
      obtain ⟨f, hf, fi, hfi, x, hx, rfl⟩ := hq
      exact ⟨by simp [hf, hfi], hx⟩) ht hg l.toList _ _ _ _ _ hcl hps hcs hzlr
    have hrun : (do let r ← Go.Instr.build t (l.map fun (p : Nat × Operand) => (p.1, a.eval p.2)); pure (Next.value r) : Sem Next).run P w = .ok (.value (.agg cells')) w := by
      unfold Go.Instr.build
      simp only [Sem.run_bind, hzr, Go.Result.andThen_ok, Go.run_underlying (show P.underlying t = some (.struct fs) by rw [hi.und, hd]), hplaces, hm, hfill, Sem.run_pure]
    exact good_quiet hr hrun (.agg (by have := hlr.1; simpa using this) fun k x y hx hy => hlr.2 k x y hx (by simpa using hy))
  · rename_i n e hd
    simp only [Option.bind_eq_some_iff, Option.map_eq_some_iff] at hc
    obtain ⟨ei, hei, cl, hcl, rfl⟩ := hc
    simp only [opx, Option.bind_eq_some_iff, Option.map_eq_some_iff] at hx
    obtain ⟨ps, hps, cs, hcs, hx⟩ := hx
    obtain ⟨rfl, rfl⟩ := Prod.mk.inj hx
    obtain ⟨cells', hfill, hlr⟩ := build_sim (place := fun k => some (k * ei.size, ei.size)) (a := a) _ (fun p q hq => by
      simp only [Option.map_eq_some_iff] at hq
      obtain ⟨x, hx, rfl⟩ := hq
      exact ⟨rfl, hx⟩) ht hg l.toList _ _ _ _ _ hcl hps hcs hzlr
    have hrun : (do let r ← Go.Instr.build t (l.map fun (p : Nat × Operand) => (p.1, a.eval p.2)); pure (Next.value r) : Sem Next).run P w = .ok (.value (.agg cells')) w := by
      unfold Go.Instr.build
      simp only [Sem.run_bind, hzr, Go.Result.andThen_ok, Go.run_underlying (show P.underlying t = some (.array n e) by rw [hi.und, hd]), run_size (htb _ _ hei), hm, hfill, Sem.run_pure]
    exact good_quiet hr hrun (.agg (by have := hlr.1; simpa using this) fun k x y hx hy => hlr.2 k x y hx (by simpa using hy))
  · cases hc

theorem getC_part {t : TypeId} {i : TI} {cs : List V} {cs' : Array Value} {o : Nat} {v : V} (hi : TIok P N t i) (hl : cs.length = cs'.size) (hp : ∀ (k : Nat) x y, cs[k]? = some x → cs'[k]? = some y → VR N I ι x y) (hget : getC (agOf i) cs o = some v) :
    ∃ val, (Go.part t cs' o).run P w = .ok val w ∧ VR N I ι v val := by
  obtain ⟨info, hinfo, hsz, _, _⟩ := hi.info
  have hag : ∀ n, o + n ≤ cs.length → VR N I ι (.agg ((cs.drop o).take n)) (.agg (cs'.extract o (o + n))) := fun n hn => by
    refine .agg (by simp; omega) fun k x y hx hy => ?_
    have hk : k < n := by have := (List.getElem?_eq_some_iff.1 hx).1; simp at this; omega
    rw [List.getElem?_take, if_pos hk, List.getElem?_drop] at hx
    refine hp (o + k) x y hx ?_
    rw [Array.getElem?_extract] at hy
    split at hy
    · exact hy
    · cases hy
  have hone : cs[o]? = some v → ∃ val, cs'[o]? = some val ∧ VR N I ι v val := fun hx => by
    have hk : o < cs.length := (List.getElem?_eq_some_iff.1 hx).1
    exact ⟨cs'[o], Array.getElem?_eq_getElem (hl ▸ hk), hp o v _ hx (Array.getElem?_eq_getElem (hl ▸ hk))⟩
  unfold getC agOf at hget
  unfold Go.part Go.isAgg
  cases hd : i.desc <;> simp only [hd] at hget <;>
    simp only [Sem.run_bind, Go.run_underlying hi.und, Go.Result.andThen_ok, hd, Sem.run_pure, Bool.false_eq_true, if_false, if_true, Go.sizeOf, run_ti hinfo]
  case array =>
    split at hget
    · rename_i hn
      injection hget with hget; subst hget
      exact ⟨_, rfl, by rw [hsz]; exact hag i.size hn⟩
    · cases hget
  case struct =>
    split at hget
    · rename_i hn
      injection hget with hget; subst hget
      exact ⟨_, rfl, by rw [hsz]; exact hag i.size hn⟩
    · cases hget
  all_goals
    obtain ⟨val, h1, h2⟩ := hone hget
    exact ⟨val, by rw [h1]; rfl, h2⟩
end
end Am
