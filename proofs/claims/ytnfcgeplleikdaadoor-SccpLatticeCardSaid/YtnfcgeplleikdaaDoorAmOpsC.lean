/- The operations on slices and structs: literals, make, copy, clear, cuts, addresses. -/
import Derived.Test.YtnfcgeplleikdaaDoorAmOpsB
namespace Am
open Go (IntKind BinOp UnOp Obj Value World Addr Program TypeDesc TypeId Operand Act Sem Result Next)
section
variable {P : Program} {N : Nat → Nat} {tb : TypeId → Option TI} {Γ : Env} {I I' : Imm} {ι ι' : Emb} {h h' : Heap} {w w' : World} {tm : List V} {a : Act} {slot : Option Nat}

theorem fill_set (off : Nat) : ∀ (l : List Value) (k : Nat) (cs : Array Value), off + k + l.length ≤ cs.size →
    ((l.zipIdx k).foldl (fun cs (x : Value × Nat) => cs.setIfInBounds (off + x.2) x.1) cs).toList = splice cs.toList (off + k) l
  | [], k, cs, _ => by simp [splice]
  | c :: l, k, cs, hl => by
    simp only [List.length_cons] at hl
    rw [List.zipIdx_cons, List.foldl_cons, fill_set off l (k + 1) _ (by simp; omega), Array.toList_setIfInBounds]
    have := splice_cons cs.toList (off + k) c l (by simp; omega)
    rw [Nat.add_assoc] at this
    exact this

theorem run_fill {place : Nat → Option (Nat × Nat)} {cells : Array Value} {i off size : Nat} {v : Value} {rest : List (Nat × Value)} (hp : place i = some (off, size)) (hv : v.cells.size = size) (hl : off + size ≤ cells.size) :
    Go.Instr.fill place cells ((i, v) :: rest) = Go.Instr.fill place (splice cells.toList off v.cells.toList).toArray rest := by
  have h1 : (v.cells.size ≠ size || off + v.cells.size > cells.size) = false := by
    simp only [hv, ne_eq, not_true_eq_false, decide_false, Bool.false_or, decide_eq_false_iff_not]; omega
  have h1' : ¬ ((decide (v.cells.size ≠ size) || decide (off + v.cells.size > cells.size)) = true) := by rw [h1]; simp
  simp only [Go.Instr.fill, hp]
  rw [if_neg h1']
  congr 1
  rw [← Array.foldl_toList, Array.toList_zipIdx]
  have := fill_set off v.cells.toList 0 cells (by simp; omega)
  rw [Nat.add_zero] at this
  rw [← this]

theorem build_sim {place : Nat → Option (Nat × Nat)} (comp : Nat × Operand → Option (Nat × Nat × Opd)) (hcomp : ∀ p q, comp p = some q → place p.1 = some (q.1, q.2.1) ∧ compO N p.2 = some q.2.2) (ht : TmR N I ι tm a.tmps) (hg : GlobOK Γ N I) :
    ∀ (l : List (Nat × Operand)) (cl : List (Nat × Nat × Opd)) (ps : List (Nat × Nat × V)) (zs r : List V) (cells : Array Value), mapO comp l = some cl → evp Γ tm cl = some ps → buildC zs ps = some r → LR N I ι zs cells.toList →
      ∃ cells', Go.Instr.fill place cells (l.map fun p => (p.1, a.eval p.2)) = some cells' ∧ LR N I ι r cells'.toList
  | [], cl, ps, zs, r, cells, h1, h2, h3, h4 => by
    simp [mapO] at h1; subst h1
    simp [evp] at h2; subst h2
    simp [buildC] at h3; subst h3
    exact ⟨cells, by simp [Go.Instr.fill], h4⟩
  | p :: l, cl, ps, zs, r, cells, h1, h2, h3, h4 => by
    simp only [mapO, Option.bind_eq_some_iff, Option.map_eq_some_iff] at h1
    obtain ⟨q, hq, cl, hcl, rfl⟩ := h1
    obtain ⟨off, size, x⟩ := q
    simp only [evp, Option.bind_eq_some_iff, Option.map_eq_some_iff] at h2
    obtain ⟨v, hv, ps, hps, h2⟩ := h2
    injection h2 with h2; subst h2
    simp only [buildC] at h3
    split at h3
    · rename_i hc
      obtain ⟨hp, hx⟩ := hcomp _ _ hq
      have hvr := ev_sim (a := a) hx hv ht hg
      have hcs := cells_sim hvr
      have hl4 := h4.1
      obtain ⟨cells', g1, g2⟩ := build_sim comp hcomp ht hg l cl ps _ r (splice cells.toList off (a.eval p.2).cells.toList).toArray hcl hps h3 (by
        rw [setC_eq _ _ _ (by omega)]
        simpa using h4.splice hcs off)
      refine ⟨cells', ?_, g2⟩
      rw [List.map_cons, run_fill hp (by have := hcs.1; simp at this; dsimp only at hc ⊢; omega) (by simp at hl4; dsimp only at hc ⊢; omega)]
      exact g1
    · cases h3

theorem litC_flat {z : Nat} : ∀ (ps : List (Nat × V)) (els r : List (List V)), (∀ e ∈ els, e.length = z) → litC z els ps = some r →
    (∀ e ∈ r, e.length = z) ∧ r.length = els.length ∧ buildC els.flatten (ps.map fun p => (p.1 * z, z, p.2)) = some r.flatten
  | [], els, r, hz, h => by simp [litC] at h; subst h; exact ⟨hz, rfl, by simp [buildC]⟩
  | (i, v) :: ps, els, r, hz, h => by
    simp only [litC] at h
    split at h
    · rename_i hc
      obtain ⟨e, he⟩ : ∃ e, els[i]? = some e := ⟨els[i]'hc.2, List.getElem?_eq_getElem hc.2⟩
      have hez := hz e (List.mem_of_getElem? he)
      have hset : els.set i v.cells = els.set i (splice e 0 v.cells) := by
        congr 1; unfold splice; simp [hc.1, hez]
      obtain ⟨g1, g2, g3⟩ := litC_flat ps (els.set i v.cells) r (by
        intro x hx
        rcases List.mem_or_eq_of_mem_set hx with h1 | h1
        · exact hz x h1
        · rw [h1, hc.1]) h
      refine ⟨g1, by simpa using g2, ?_⟩
      simp only [List.map_cons, buildC]
      have hfl := flat_length hz
      have hin : i * z + z ≤ els.flatten.length := by rw [hfl, ← Nat.succ_mul]; exact Nat.mul_le_mul_right _ hc.2
      rw [if_pos ⟨hc.1, hin⟩, setC_eq _ _ _ (by rw [hc.1]; exact hin)]
      rw [hset, flat_set hz he (by rw [hc.1, hez]; omega), Nat.add_zero] at g3
      exact g3
    · cases h

theorem range_zero {z n : Nat} {zs : Array Value} (hz : zs.size = z) : ((Array.range (n * z)).map fun i => zs[i % zs.size]!).toList = (List.replicate n zs.toList).flatten := by
  subst hz
  induction n with
  | zero => simp
  | succ n ih =>
    rw [List.replicate_succ', List.flatten_append, ← ih]
    simp only [Array.toList_map, Array.toList_range, Nat.add_mul, Nat.one_mul]
    rw [List.range_add, List.map_append]
    congr 1
    simp only [List.flatten_cons, List.flatten_nil, List.append_nil, List.map_map]
    apply List.ext_getElem
    · simp
    · intro k h1 h2
      simp at h1
      simp [Nat.mul_add_mod_self_right, Nat.mod_eq_of_lt h1, h1, Nat.add_comm (n * zs.size) k]

theorem replicate_flat {n : Nat} {zl : List V} {zs : List Value} (h : LR N I ι zl zs) : LR N I ι (List.replicate n zl).flatten (List.replicate n zs).flatten := by
  induction n with
  | zero => exact .nil
  | succ n ih => rw [List.replicate_succ, List.replicate_succ, List.flatten_cons, List.flatten_cons]; exact h.append ih

/-- The zero value of a type. -/
theorem zero_sim {t : TypeId} {i : TI} {zl : List V} (hi : TIok P N t i) (hz : zOf i = some zl) :
    zl.length = i.size ∧ ∃ zv, (∀ w, (Go.zeroValue t).run P w = .ok zv w) ∧ zv.cells.size = i.size ∧ LR N I ι zl zv.cells.toList := by
  unfold zOf at hz
  simp only [Option.bind_eq_some_iff] at hz
  obtain ⟨z, h1, h2⟩ := hz
  split at h2
  · rename_i hc
    injection h2 with h2; subst h2
    obtain ⟨info, hinfo, _, _, hzero⟩ := hi.info
    obtain ⟨zv, h3, h4⟩ := hzero z h1
    have hl := cells_sim (constV_sim (I := I) (ι := ι) h4)
    refine ⟨hc, zv, fun w => by simp [Go.zeroValue, run_ti hinfo, h3], by have := hl.1; simp at this; omega, hl⟩
  · cases h2

theorem run_size {t : TypeId} {i : TI} (hi : TIok P N t i) (w : World) : (Go.sizeOf t).run P w = .ok i.size w := by
  obtain ⟨info, hinfo, hs, _⟩ := hi.info
  simp [Go.sizeOf, run_ti hinfo, hs]

theorem all_size {cl : List (Nat × Nat × Opd)} {l : List (Nat × Operand)} : True := trivial

/-- A literal of a slice. -/
theorem sim_lit {t e : TypeId} {i ie : TI} {zl : List V} {n : Nat} {l : Array (Nat × Operand)} {cl : List (Nat × Opd)} {v : V} (hi : TIok P N t i) (hd : i.desc = .slice e) (hie : TIok P N e ie) (hzo : zOf ie = some zl)
    (hn : n * ie.size ≤ 2 ^ 24 ∧ 0 < ie.size) (hcl : mapO (fun (p : Nat × Operand) => (compO N p.2).map fun x => (p.1, x)) l.toList = some cl) (hr : Rel N I ι h w) (hf : ι h.length = none) (hsl : ∀ s, slot = some s → ι s = none)
    (ht : TmR N I ι tm a.tmps) (hg : GlobOK Γ N I) (hx : opx Γ tm h slot (.lit ie.size zl n cl) = some (v, h')) :
    Good1 P N I ι h w slot v h' (do let r ← Go.Instr.buildSlice t n (l.map fun (p : Nat × Operand) => (p.1, a.eval p.2)); pure (.value r)) := by
  simp only [opx, Option.bind_eq_some_iff] at hx
  obtain ⟨ps, hps, els, hels, hx⟩ := hx
  split at hx
  case isFalse => cases hx
  rename_i hall
  simp only [Option.map_eq_some_iff] at hx
  obtain ⟨⟨b, h1⟩, hput, hx⟩ := hx
  obtain ⟨rfl, rfl⟩ := Prod.mk.inj hx
  obtain ⟨hzl, zv, hzr, hzs, hzlr⟩ := zero_sim (I := I) (ι := ι) hie hzo
  obtain ⟨g1, g2, g3⟩ := litC_flat ps _ els (by intro x hx; rw [List.eq_of_mem_replicate hx, hzl]) hels
  -- the parts, as of an array
  have hcl' : mapO (fun (p : Nat × Operand) => (compO N p.2).map fun x => (p.1 * ie.size, ie.size, x)) l.toList = some (cl.map fun q => (q.1 * ie.size, ie.size, q.2)) := by
    clear hps
    generalize l.toList = ll at hcl
    induction ll generalizing cl with
    | nil => simp [mapO] at hcl ⊢; subst hcl; rfl
    | cons p ll ih =>
      simp only [mapO, Option.bind_eq_some_iff, Option.map_eq_some_iff] at hcl ⊢
      obtain ⟨q, ⟨x, hx, rfl⟩, cl, h2, rfl⟩ := hcl
      exact ⟨_, ⟨x, hx, rfl⟩, _, ih h2, rfl⟩
  have hps' : evp Γ tm (cl.map fun q => (q.1 * ie.size, ie.size, q.2)) = some (ps.map fun p => (p.1 * ie.size, ie.size, p.2)) := by
    clear hcl hcl' hels g3
    induction cl generalizing ps with
    | nil => simp [evq, evp] at hps ⊢; subst hps; rfl
    | cons q cl ih =>
      obtain ⟨k, x⟩ := q
      simp only [evq, evp, List.map_cons, Option.bind_eq_some_iff] at hps ⊢
      obtain ⟨v, hv, vs, hvs, h2⟩ := hps
      injection h2 with h2; subst h2
      exact ⟨v, hv, _, ih _ hvs, rfl⟩
  have hcells0 : LR N I ι (List.replicate n zl).flatten ((Array.range (n * ie.size)).map (fun i => zv.cells[i % zv.cells.size]!)).toList := by
    rw [range_zero hzs]; exact replicate_flat hzlr
  obtain ⟨cells', hfill, hlr⟩ := build_sim (place := fun i => some (i * ie.size, ie.size)) (a := a) _ (fun p q hq => by
    simp only [Option.map_eq_some_iff] at hq
    obtain ⟨x, hx, rfl⟩ := hq
    exact ⟨rfl, hx⟩) ht hg l.toList _ _ _ _ _ hcl' hps' g3 hcells0
  have hm : (l.map fun (p : Nat × Operand) => (p.1, a.eval p.2)).toList = l.toList.map fun p => (p.1, a.eval p.2) := by simp
  have hrun : (do let r ← Go.Instr.buildSlice t n (l.map fun (p : Nat × Operand) => (p.1, a.eval p.2)); pure (Next.value r) : Sem Next).run P w = .ok (.value (.slice (some ⟨w.heap.size, 0, none⟩) n n)) (w.alloc (.cells cells' e)) := by
    unfold Go.Instr.buildSlice
    have hns : ¬ n * ie.size > 2 ^ 24 := by omega
    simp only [Sem.run_bind, Go.run_underlying (show P.underlying t = some (.slice e) by rw [hi.und, hd]), Go.Result.andThen_ok, run_size hie, Sem.run_ite, hns, if_false, Sem.run_pure]
    by_cases h0 : n * ie.size = 0
    · have hn0 : n = 0 := by
        rcases Nat.mul_eq_zero.1 h0 with h | h
        · exact h
        · omega
      subst hn0
      have hnil : l.toList = [] := by
        cases hll : l.toList with
        | nil => rfl
        | cons p ll =>
          exfalso
          rw [hll] at hcl
          simp only [mapO, Option.bind_eq_some_iff, Option.map_eq_some_iff] at hcl
          obtain ⟨q, ⟨x, hx, rfl⟩, cl, h2, rfl⟩ := hcl
          simp only [evq, Option.bind_eq_some_iff] at hps
          obtain ⟨v, hv, vs, hvs, h2⟩ := hps
          injection h2 with h2; subst h2
          simp only [litC, List.replicate_zero, List.length_nil, Nat.not_lt_zero, and_false, if_false] at hels
          cases hels
      rw [hnil] at hfill
      simp only [List.map_nil, Go.Instr.fill, Option.some.injEq] at hfill
      have hc' : cells' = #[] := by rw [← hfill]; simp
      subst hc'
      simp [hm, hnil, Go.Instr.fill, Go.newRow, show Array.range 0 = (#[] : Array Nat) from rfl]
    · simp only [h0, if_false, hzr, Go.Result.andThen_ok, hm, hfill, Sem.run_pure, Sem.run_bind, Sem.run_ite, Go.newRow, Go.run_newObj]
      rfl
  have hel : els.length = n := by rw [g2]; simp
  have hcsz : cells'.size = n * ie.size := by have := hlr.1; rw [flat_length g1, hel] at this; simpa using this.symm
  refine good_put (m := n * ie.size) hr hf hsl hput (o := .cells cells' e) ⟨cells', e, rfl, hcsz, g1, ?_⟩ hrun ?_
  · refine ⟨by have := hlr.1; simp at this ⊢; omega, fun k x y hx hy => hlr.2 k x y hx (by simpa using hy)⟩
  · exact .sl (c := (w.heap.size, n * ie.size)) (by unfold upd; rw [if_pos rfl]) (Nat.le_refl _) (fun k hk => by injection hk) (fun _ => ⟨by simp, by simp⟩)
end
end Am
