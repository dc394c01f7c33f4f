/- Regions that draw their order, where nothing is written (or what is written stands behind all else): they do what their text does in its order. -/
import Derived.Test.YtnfcgeplleikdaaDoorAmSpec
namespace Am
open Go (IntKind BinOp UnOp)
noncomputable section
/-- What may be asked of a block. -/
def vw (h : Heap) (b : Nat) : Option Ob := match h[b]? with
  | some .gone => none
  | o => o
def AgT (T : List Nat) (h h' : Heap) : Prop := ∀ b ∈ T, vw h' b = vw h b
section
variable {h h' : Heap} {b : Nat}
theorem vw_row {z : Nat} {els : List (List V)} : vw h b = some (.row z els) ↔ h[b]? = some (.row z els) := by
  unfold vw; split
  · rename_i e; rw [e]; simp
  · exact Iff.rfl
theorem vw_map {es : List (V × V)} : vw h b = some (.map es) ↔ h[b]? = some (.map es) := by
  unfold vw; split
  · rename_i e; rw [e]; simp
  · exact Iff.rfl
theorem rowAt_vw {z : Nat} (e : vw h' b = vw h b) : rowAt h' b z = rowAt h b z := by
  cases hx : rowAt h b z with
  | some els => exact rowAt_of (vw_row.1 (by rw [e]; exact vw_row.2 (rowAt_some hx)))
  | none =>
    cases hy : rowAt h' b z with
    | none => rfl
    | some els => rw [rowAt_of (vw_row.1 (by rw [← e]; exact vw_row.2 (rowAt_some hy)))] at hx; cases hx
def mapAt (h : Heap) (b : Nat) : Option (List (V × V)) := match h[b]? with
  | some (.map es) => some es
  | _ => none
theorem mapAt_vw (e : vw h' b = vw h b) : mapAt h' b = mapAt h b := by
  have key : ∀ (h h' : Heap), vw h' b = vw h b → ∀ es, mapAt h b = some es → mapAt h' b = some es := fun h h' e es hx => by
    have h1 : h[b]? = some (.map es) := by
      unfold mapAt at hx
      split at hx
      · rename_i es' hb; injection hx with hx; rw [hb, hx]
      · cases hx
    have h2 := vw_map.1 (e.trans (vw_map.2 h1))
    unfold mapAt; rw [h2]
  cases hx : mapAt h b with
  | some es => exact key h h' e es hx
  | none =>
    cases hy : mapAt h' b with
    | none => rfl
    | some es => rw [key h' h e.symm es hy] at hx; cases hx
theorem lookV_eq {zero : V} {ok : Bool} {m k : V} : lookV h zero ok m k = match m with
    | .nilm => some (lookR zero ok none)
    | .mp b => (mapAt h b).bind fun es => (findK k es 0).map (lookR zero ok)
    | _ => none := by
  cases m <;> try rfl
  rename_i b
  simp only [lookV, mapAt]
  cases h[b]? with
  | none => rfl
  | some o => cases o <;> rfl
theorem mapO_congr {α β : Type} {f g : α → Option β} : ∀ {l : List α}, (∀ x ∈ l, f x = g x) → mapO f l = mapO g l
  | [], _ => rfl
  | x :: l, e => by rw [mapO, mapO, e x (by simp), mapO_congr fun y hy => e y (by simp [hy])]
theorem snap_vw : ∀ (n : Nat) (v : V), AgT (foots h n v) h h' → snap h' n v = snap h n v
  | 0, v, _ => rfl
  | n + 1, v, ha => by
    cases v with
    | sl b z off len cap =>
      have hb : vw h' b = vw h b := ha b (by simp [foots])
      simp only [snap, rowAt_vw hb]
      cases hr : rowAt h b z with
      | none => rfl
      | some els =>
        simp only [Option.bind_some]
        split
        · congr 1
          exact mapO_congr fun e he => mapO_congr fun x hx => snap_vw n x fun c hc => ha c (by
            simp only [foots, hr, List.mem_cons, List.mem_flatMap]
            exact .inr ⟨e, he, x, hx, hc⟩)
        · rfl
    | ptr b z i o =>
      have hb : vw h' b = vw h b := ha b (by simp [foots])
      simp only [snap, rowAt_vw hb]
      cases hr : rowAt h b z with
      | none => rfl
      | some els =>
        simp only [Option.bind_some]
        cases he : els[i]? with
        | none => rfl
        | some e =>
          simp only [Option.bind_some]
          congr 1
          exact mapO_congr fun x hx => snap_vw n x fun c hc => ha c (by
            simp only [foots, hr, List.mem_cons, List.mem_flatMap, List.getD, he, Option.getD_some]
            exact .inr ⟨x, hx, hc⟩)
    | fn f a c =>
      simp only [snap]
      rw [mapO_congr (g := snap h n) fun x hx => snap_vw n x fun b hb => ha b (by simp only [foots, List.mem_append, List.mem_flatMap]; exact .inl ⟨x, hx, hb⟩),
        mapO_congr (g := snap h n) fun x hx => snap_vw n x fun b hb => ha b (by simp only [foots, List.mem_append, List.mem_flatMap]; exact .inr ⟨x, hx, hb⟩)]
    | agg cs =>
      simp only [snap]
      rw [mapO_congr (g := snap h n) fun x hx => snap_vw n x fun b hb => ha b (by simp only [foots, List.mem_flatMap]; exact ⟨x, hx, hb⟩)]
    | tup cs =>
      simp only [snap]
      rw [mapO_congr (g := snap h n) fun x hx => snap_vw n x fun b hb => ha b (by simp only [foots, List.mem_flatMap]; exact ⟨x, hx, hb⟩)]
    | _ => all_goals rfl
theorem elsOf_vw {x : V} (ha : AgT (own1 x) h h') : elsOf h' x = elsOf h x := by
  cases x <;> try rfl
  rename_i b z off len cap
  simp only [elsOf, rowAt_vw (ha b (by simp [own1]))]
theorem loadV_vw {ag : Option Nat} {x : V} (ha : AgT (own1 x) h h') : loadV h' ag x = loadV h ag x := by
  cases x <;> try rfl
  rename_i b z i o
  simp only [loadV, rowAt_vw (ha b (by simp [own1]))]
theorem cv_vw {c : Cv} {x : V} (ha : AgT (own1 x) h h') : cv h' c x = cv h c x := by
  cases c <;> cases x <;> first | rfl | (simp only [cv, elsOf_vw ha]; done)
theorem lookV_vw {zero : V} {ok : Bool} {m k : V} (ha : AgT (own1 m) h h') : lookV h' zero ok m k = lookV h zero ok m k := by
  rw [lookV_eq, lookV_eq]
  split
  · rfl
  · rw [mapAt_vw (ha _ (by simp [own1]))]
  · rfl
end
section
variable {Γ : Env} {ih : Runs} {tm : List V} {h h' : Heap}
theorem lenV_heap {x : V} : lenV h' x = (lenV h x).map fun r => (r.1, h') := by cases x <;> rfl
/-- An operation that writes nothing asks nothing but its own blocks. -/
theorem step1_vw {o : Op} {T : List Nat} (hc : o.cls Γ = 0) (hf : foot Γ tm h none o = some T) (ha : AgT T h h') : step1 Γ ih tm h' none o = (step1 Γ ih tm h none o).map fun r => (r.1, h') := by
  cases o <;> simp only [Op.cls, reduceCtorEq] at hc <;> try (first | (cases hc; done))
  case load ag a =>
    simp only [foot, Option.map_eq_some_iff] at hf
    obtain ⟨v, hv, rfl⟩ := hf
    simp only [s_load, hv, Option.bind_some, loadV_vw ha, Option.map_map]; rfl
  case conv c x =>
    simp only [foot, Option.map_eq_some_iff] at hf
    obtain ⟨v, hv, rfl⟩ := hf
    simp only [s_conv, hv, Option.bind_some, cv_vw ha, Option.map_map]; rfl
  case look K zero ok m k =>
    simp only [foot, Option.map_eq_some_iff] at hf
    obtain ⟨v, hv, rfl⟩ := hf
    simp only [s_look, hv, Option.bind_some, lookV_vw ha]
    cases k.ev Γ tm with
    | none => rfl
    | some k => simp only [Option.bind_some]; split <;> simp [Option.map_map, Function.comp_def]
  case lenm m =>
    simp only [foot, Option.map_eq_some_iff] at hf
    obtain ⟨v, hv, rfl⟩ := hf
    simp only [step1, opx, hv, Option.bind_some]
    cases v <;> try rfl
    rename_i b
    have e := mapAt_vw (ha b (by simp [own1]))
    have key : ∀ h : Heap, (match h[b]? with | some (.map es) => some (V.int .i64 es.length, h) | _ => none) = (mapAt h b).map fun es => (V.int .i64 es.length, h) := fun h => by
      unfold mapAt
      cases h[b]? with
      | none => rfl
      | some o => cases o <;> rfl
    refine (key h').trans ?_
    rw [e]
    refine Eq.trans ?_ (congrArg (Option.map fun r : V × Heap => (r.1, h')) (key h)).symm
    simp only [Option.map_map]; rfl
  case call f args =>
    simp only [foot, Option.map_eq_some_iff] at hf
    obtain ⟨vs, hv, rfl⟩ := hf
    simp only [s_call, hv, Option.bind_some]
    split at hc
    · cases hc
    rotate_left
    · cases hc
    · rename_i hm
      unfold callF
      rw [hm]
      dsimp only
      rw [mapO_congr (f := snap h' deep) (g := snap h deep) (l := vs) fun x hx => snap_vw deep x fun b hb => ha b (by simp only [List.mem_flatMap]; exact ⟨x, hx, hb⟩)]
      split
      · simp only [Option.map_bind, Option.map_map, Function.comp_def]
      · simp only [Option.map_bind, Option.map_map, Function.comp_def]
  case len x => simp only [s_len]; cases x.ev Γ tm with
    | none => rfl
    | some v => simp only [Option.bind_some]; exact lenV_heap
  all_goals
    first
    | (simp only [s_move, s_pick, s_build, s_nilc, s_bin, s_eqa, s_eqb, s_un, s_mkf, s_slice, s_faddr, s_field, s_iaddr, s_index, s_ext, Option.map_bind, Option.map_map, Function.comp_def]; done)
    | skip
  case sidx x i => 
    simp only [step1, opx]
    cases x.ev Γ tm <;> try rfl
    cases i.ev Γ tm <;> try rfl
    rename_i x i
    simp only [Option.bind_some]
    cases natOf i <;> try rfl
    cases x <;> try rfl
    simp [Option.map_map, Function.comp_def]
  case slen x =>
    simp only [step1, opx]
    cases x.ev Γ tm <;> try rfl
    rename_i x
    cases x <;> rfl
  case mx x y =>
    simp only [step1, opx]
    cases x.ev Γ tm <;> try rfl
    cases y.ev Γ tm <;> try rfl
    rename_i x y
    cases x <;> cases y <;> rfl
  case mn x y =>
    simp only [step1, opx]
    cases x.ev Γ tm <;> try rfl
    cases y.ev Γ tm <;> try rfl
    rename_i x y
    cases x <;> cases y <;> rfl
theorem foot_none {o : Op} (hc : o.cls Γ = 0) (hf : foot Γ tm h none o = none) : step1 Γ ih tm h none o = none := by
  cases o <;> simp only [Op.cls, reduceCtorEq] at hc <;> try (first | (cases hc; done))
  case load => simp only [foot, Option.map_eq_none_iff] at hf; simp [s_load, hf]
  case conv => simp only [foot, Option.map_eq_none_iff] at hf; simp [s_conv, hf]
  case look => simp only [foot, Option.map_eq_none_iff] at hf; simp [s_look, hf]
  case lenm => simp only [foot, Option.map_eq_none_iff] at hf; simp [step1, opx, hf]
  case call => simp only [foot, Option.map_eq_none_iff] at hf; simp [s_call, hf]
  all_goals (simp only [foot, reduceCtorEq] at hf)
theorem restrQ_ag {T : List Nat} {h : Heap} : AgT T h (restrQ T h) := fun b hb => by
  have h1 : ∀ (n : Nat) (h : Heap), (restr1 n h)[n]? = h[n]? := fun n => by
    induction n with
    | zero => intro h; cases h <;> simp [restr1]
    | succ n ih => intro h; cases h with
      | nil => simp [restr1]
      | cons o h => simp [restr1, ih]
  have : (restrQ T h)[b]? = h[b]? := by
    unfold restrQ
    match T, hb with
    | [x], hb =>
      obtain rfl : b = x := by simpa using hb
      exact h1 b h
    | x :: y :: T, hb =>
      simp only
      rw [restr_get, Nat.zero_add, if_pos (by simpa using hb)]
  unfold vw; rw [this]
theorem trace_quiet : ∀ {l : List Oper} {slot : Nat} {s : St}, (∀ o ∈ l, o.op.cls Γ = 0) → (traceD Γ ih l slot s).map (·.2) = runOps Γ ih l s
  | [], slot, s, _ => rfl
  | o :: l, slot, s, hc => by
    have h0 := hc o (by simp)
    simp only [traceD, runOps, h0]
    split
    · cases hf : foot Γ s.tm s.h none o.op with
      | none => rw [foot_none h0 hf]; rfl
      | some T =>
        simp only [Option.bind_some]
        rw [step1_vw (h' := restrQ T s.h) h0 hf restrQ_ag]
        cases hx : step1 Γ ih s.tm s.h none o.op with
        | none => rfl
        | some r =>
          obtain ⟨v, h1⟩ := r
          obtain rfl := step1_quiet h0 hx
          simp only [Option.map_some, Option.bind_some, Option.map_map]
          rw [← trace_quiet (slot := slot) fun x hx => hc x (by simp [hx])]
          rfl
    · simp only [Option.map_map]
      rw [← trace_quiet (slot := if (0 : Nat) = 1 then slot + 1 else slot) fun x hx => hc x (by simp [hx])]
      rfl
theorem compats_quiet : ∀ {st : List Step} {i : Nat}, (∀ x ∈ st, x.op.op.cls Γ = 0) → compats Γ i st = true
  | [], i, _ => rfl
  | r :: rs, i, hc => by
    simp only [compats, Bool.and_eq_true, List.all_eq_true]
    refine ⟨fun x hx => ?_, compats_quiet fun x hx => hc x (by simp [hx])⟩
    simp [compat, hc r (by simp), hc x (by simp [hx])]
theorem trace_ops : ∀ {l : List Oper} {slot : Nat} {s : St} {q : List Step × St}, traceD Γ ih l slot s = some q → ∀ x ∈ q.1, x.op ∈ l
  | [], slot, s, q, hx => by simp only [traceD, Option.some.injEq] at hx; subst hx; simp
  | o :: l, slot, s, q, hx => by
    simp only [traceD] at hx
    have key : ∀ {slot s} {st : Step}, st.op = o → ∀ {g : List Step × St → List Step × St}, (∀ p, (g p).1 = st :: p.1) → (traceD Γ ih l slot s).map g = some q → ∀ x ∈ q.1, x.op ∈ o :: l := fun hst g hg he x hxq => by
      simp only [Option.map_eq_some_iff] at he
      obtain ⟨p, hp, rfl⟩ := he
      rw [hg] at hxq
      rcases List.mem_cons.1 hxq with rfl | hxq
      · simp [hst]
      · exact List.mem_cons_of_mem _ (trace_ops hp x hxq)
    split at hx
    · split at hx
      · simp only [Option.bind_eq_some_iff] at hx
        obtain ⟨T, hT, r, hr, hx⟩ := hx
        exact key rfl (fun _ => rfl) hx
      · simp only [Option.bind_eq_some_iff] at hx
        obtain ⟨r, hr, hx⟩ := hx
        exact key rfl (fun _ => rfl) hx
      · simp only [Option.bind_eq_some_iff] at hx
        obtain ⟨T, hT, r, hr, hx⟩ := hx
        split at hx
        · exact key rfl (fun _ => rfl) hx
        · cases hx
    · exact key rfl (fun _ => rfl) hx
theorem slots_quiet {l : List Oper} (hc : ∀ o ∈ l, o.op.cls Γ = 0) : slots Γ l = 0 := by
  unfold slots
  rw [List.length_eq_zero_iff, List.filter_eq_nil_iff]
  intro o ho
  simp [hc o ho]
def quietOps (Γ : Env) (l : List Oper) : Bool := l.all fun o => Nat.beq (o.op.cls Γ) 0
/-- A REGION THAT DRAWS, AND WRITES NOTHING. -/
theorem region_quiet {l : List Oper} {s : St} (hq : quietOps Γ l = true) : runRegion Γ ih true l s = runOps Γ ih l s := by
  have hc : ∀ o ∈ l, o.op.cls Γ = 0 := fun o ho => Nat.eq_of_beq_eq_true (List.all_eq_true.1 hq o ho)
  simp only [runRegion, if_true, slots_quiet hc, List.replicate_zero, List.append_nil]
  have ht := trace_quiet (ih := ih) (slot := s.h.length) (s := s) hc
  cases hx : traceD Γ ih l s.h.length ⟨s.tm, s.h⟩ with
  | none => rw [show (⟨s.tm, s.h⟩ : St) = s from rfl] at hx; rw [hx] at ht; rw [← ht]; rfl
  | some q =>
    rw [show (⟨s.tm, s.h⟩ : St) = s from rfl] at hx
    rw [hx] at ht
    rw [← ht]
    simp only [Option.bind_some, Option.map_some]
    rw [if_pos (compats_quiet fun x hxq => hc _ (trace_ops hx x hxq))]
end
end
end Am
