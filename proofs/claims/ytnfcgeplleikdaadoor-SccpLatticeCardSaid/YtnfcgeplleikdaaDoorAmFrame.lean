/- A part of a memory goes on by itself; what an operation reads. -/
import Derived.Test.YtnfcgeplleikdaaDoorAmSnap
namespace Am
open Go (IntKind BinOp UnOp Obj Value World Addr Program)
section
variable {Γ : Env} {N : Nat → Nat} {I I' Iz : Imm} {ι ι' : Emb} {h h' h1 h2 hm : Heap} {w w' : World} {tm tm' : List V} {slot : Option Nat} {ih : Runs}

theorem live_none : Ob.live none = false := rfl

theorem Rel.sub (hr : Rel N I ι h w) (hs : ∀ b : Nat, Ob.live h1[b]? = true → h1[b]? = h[b]?) : Rel N I ι h1 w :=
  Rel.mk' hr.imm (fun b c ob hb ho hl => hr.ob hb (by rw [← hs b (by rw [ho]; exact hl)]; exact ho) hl)
    (fun b b' c c' h1 h2 hc g1 g2 => hr.inj b b' c c' h1 h2 hc (by rw [← hs b g1]; exact g1) (by rw [← hs b' g2]; exact g2)) hr.lt

/-- A part of the memory (h1) went on to h2; the rest stayed. -/
theorem rel_frame (hr : Rel N I ι h w) (hs : ∀ b : Nat, Ob.live h1[b]? = true → h1[b]? = h[b]?) (he : Ext I ι h1 w I' ι' h2 w') (hr2 : Rel N I' ι' h2 w') (hnew : ∀ b, ι b = none → ι' b ≠ none → h.length ≤ b) (hlen : h.length ≤ hm.length)
    (hmm : ∀ b : Nat, Ob.live hm[b]? = true → hm[b]? = h2[b]? ∨ (hm[b]? = h[b]? ∧ Ob.live h1[b]? = false ∧ b < h.length)) : Rel N I' ι' hm w' ∧ Ext I ι h w I' ι' hm w' := by
  have hold : ∀ b c, ι' b = some c → b < h.length → ι b = some c := fun b c hb hl => by
    cases e : ι b with
    | none => have := hnew b e (by rw [hb]; simp); omega
    | some d => have := he.subE b d e; rw [hb] at this; exact this.symm
  have hlive1 : ∀ b, Ob.live h1[b]? = true → Ob.live h[b]? = true := fun b hb => by rw [← hs b hb]; exact hb
  -- a block that stayed
  have hstay : ∀ b c, ι b = some c → Ob.live h[b]? = true → Ob.live h1[b]? = false → (w'.heap[c.1]? = w.heap[c.1]?) ∧ ∀ n p, ι n = some p → p.1 = c.1 → Ob.live h1[n]? = false := fun b c hb hl hd => by
    have hk : ∀ n p, ι n = some p → p.1 = c.1 → Ob.live h1[n]? = false := fun n p hn hp => by
      cases hl1 : Ob.live h1[n]? with
      | false => rfl
      | true =>
        have := hr.inj n b p c hn hb hp (hlive1 n hl1) hl
        subst this; rw [hd] at hl1; cases hl1
    exact ⟨he.keep c.1 (hr.lt b c hb) hk, hk⟩
  refine ⟨Rel.mk' hr2.imm (fun b c ob hb ho hl => ?_) (fun b b' c c' hb hb' hc g1 g2 => ?_) hr2.lt, ?_⟩
  · rcases hmm b (by rw [ho]; exact hl) with e | ⟨e, hd, hlt⟩
    · rw [e] at ho; exact hr2.ob hb ho hl
    · have hb0 := hold b c hb hlt
      rw [e] at ho
      obtain ⟨g1, o, g2, g3⟩ := hr.ob hb0 ho hl
      obtain ⟨k1, _⟩ := hstay b c hb0 (by rw [ho]; exact hl) hd
      refine ⟨?_, o, by rw [k1]; exact g2, g3.mono he.subI he.subE⟩
      cases e2 : I' c.1 with
      | none => rfl
      | some x =>
        rcases he.newI _ _ e2 with h3 | h3
        · rw [g1] at h3; cases h3
        · have := hr.lt b c hb0; omega
  · have cross : ∀ b b' c c', ι' b = some c → ι' b' = some c' → c.1 = c'.1 → hm[b]? = h[b]? → Ob.live h1[b]? = false → b < h.length → Ob.live hm[b]? = true → Ob.live h2[b']? = true → False := fun b b' c c' hb hb' hc e hd hlt g1 g2 => by
      have hb0 := hold b c hb hlt
      rw [e] at g1
      obtain ⟨_, k2⟩ := hstay b c hb0 g1 hd
      rcases he.newE b' c' hb' g2 with ⟨n, p, h3, h4, h5⟩ | h3
      · have := k2 n p h3 (by rw [h4, hc]); rw [h5] at this; cases this
      · have := hr.lt b c hb0; omega
    rcases hmm b g1 with e | ⟨e, hd, hlt⟩
    · rcases hmm b' g2 with e' | ⟨e', hd', hlt'⟩
      · rw [e] at g1; rw [e'] at g2; exact hr2.inj b b' c c' hb hb' hc g1 g2
      · rw [e] at g1; exact (cross b' b c' c hb' hb hc.symm e' hd' hlt' g2 g1).elim
    · rcases hmm b' g2 with e' | ⟨e', hd', hlt'⟩
      · rw [e'] at g2; exact (cross b b' c c' hb hb' hc e hd hlt g1 g2).elim
      · rw [e] at g1; rw [e'] at g2; exact hr.inj b b' c c' (hold b c hb hlt) (hold b' c' hb' hlt') hc g1 g2
  · refine ⟨he.subI, he.subE, he.newI, fun b c hb hl => ?_, fun c hc hn => he.keep c hc fun b p hb hp => ?_, he.size, he.os, he.tape, he.output, hlen⟩
    · rcases hmm b hl with e | ⟨e, hd, hlt⟩
      · rw [e] at hl
        rcases he.newE b c hb hl with ⟨n, p, h3, h4, h5⟩ | h3
        · exact .inl ⟨n, p, h3, h4, hlive1 n h5⟩
        · exact .inr h3
      · rw [e] at hl; exact .inl ⟨b, c, hold b c hb hlt, rfl, hl⟩
    · cases hl1 : Ob.live h1[b]? with
      | false => rfl
      | true => have := hn b p hb hp; rw [hlive1 b hl1] at this; cases this

theorem restr_get (T : List Nat) : ∀ (h : Heap) (i k : Nat), (restr T i h)[k]? = if T.contains (i + k) = true then h[k]? else (h[k]?).map fun _ => .gone
  | [], i, k => by simp [restr]
  | o :: h, i, 0 => by simp only [restr, List.getElem?_cons_zero, Nat.add_zero]; split <;> simp
  | o :: h, i, k + 1 => by
    simp only [restr, List.getElem?_cons_succ]
    rw [restr_get T h (i + 1) k, Nat.add_assoc, Nat.add_comm 1 k]
theorem restr_length (T : List Nat) : ∀ (h : Heap) (i : Nat), (restr T i h).length = h.length
  | [], i => rfl
  | o :: h, i => by simp [restr, restr_length T h (i + 1)]
theorem restr_live {T : List Nat} {h : Heap} {b : Nat} (hl : Ob.live (restr T 0 h)[b]? = true) : T.contains b = true ∧ (restr T 0 h)[b]? = h[b]? := by
  rw [restr_get] at hl ⊢
  rw [Nat.zero_add] at hl ⊢
  split at hl
  · rename_i hc; rw [if_pos hc]; exact ⟨hc, rfl⟩
  · cases e : h[b]? <;> rw [e] at hl <;> simp [Ob.live, liveB] at hl
theorem restr1_live : ∀ {n : Nat} {h : Heap} {b : Nat}, Ob.live (restr1 n h)[b]? = true → b = n ∧ (restr1 n h)[b]? = h[b]?
  | _, [], b, hl => by simp [restr1, Ob.live, liveB] at hl
  | 0, o :: h, 0, hl => by simp [restr1]
  | 0, o :: h, b + 1, hl => by simp [restr1, Ob.live, liveB] at hl
  | n + 1, o :: h, 0, hl => by simp [restr1, Ob.live, liveB] at hl
  | n + 1, o :: h, b + 1, hl => by
    simp only [restr1, List.getElem?_cons_succ] at hl ⊢
    obtain ⟨h1, h2⟩ := restr1_live hl
    exact ⟨by omega, h2⟩
theorem restrQ_live {T : List Nat} {h : Heap} {b : Nat} (hl : Ob.live (restrQ T h)[b]? = true) : T.contains b = true ∧ (restrQ T h)[b]? = h[b]? := by
  unfold restrQ at hl ⊢
  match T, hl with
  | [], hl => simp [Ob.live, liveB] at hl
  | [x], hl =>
    obtain ⟨h1, h2⟩ := restr1_live hl
    exact ⟨by simp [h1], h2⟩
  | x :: y :: T, hl => exact restr_live hl
theorem merge_get (T : List Nat) : ∀ (h h' : Heap) (i k : Nat), h.length ≤ h'.length → (merge T i h h')[k]? = if k < h.length ∧ T.contains (i + k) = false then h[k]? else h'[k]?
  | [], h', i, k, _ => by simp [merge]
  | o :: h, [], i, k, hl => by simp at hl
  | o :: h, o' :: h', i, 0, hl => by simp only [merge, List.getElem?_cons_zero, Nat.add_zero, List.length_cons]; cases T.contains i <;> simp
  | o :: h, o' :: h', i, k + 1, hl => by
    simp only [merge, List.getElem?_cons_succ, List.length_cons]
    rw [merge_get T h h' (i + 1) k (by simpa using hl), Nat.add_assoc, Nat.add_comm 1 k]
    simp only [Nat.add_lt_add_iff_right]
theorem merge_length (T : List Nat) : ∀ (h h' : Heap) (i : Nat), h.length ≤ h'.length → (merge T i h h').length = h'.length
  | [], h', i, _ => rfl
  | o :: h, [], i, hl => by simp at hl
  | o :: h, o' :: h', i, hl => by simp [merge, merge_length T h h' (i + 1) (by simpa using hl)]

/-! ### What an operation reads -/
theorem ev_congr {x : Opd} (hh : ∀ t ∈ x.tmp, tm[t]? = tm'[t]?) : x.ev Γ tm = x.ev Γ tm' := by
  cases x with
  | t n => exact hh n (by simp [Opd.tmp])
  | _ => rfl
theorem evs_congr : ∀ {l : List Opd}, (∀ t ∈ l.flatMap Opd.tmp, tm[t]? = tm'[t]?) → evs Γ tm l = evs Γ tm' l
  | [], _ => rfl
  | x :: l, hh => by
    simp only [List.flatMap_cons, List.mem_append] at hh
    rw [evs, evs, ev_congr fun t ht => hh t (.inl ht), evs_congr fun t ht => hh t (.inr ht)]
theorem evp_congr : ∀ {l : List (Nat × Nat × Opd)}, (∀ t ∈ l.flatMap fun p => p.2.2.tmp, tm[t]? = tm'[t]?) → evp Γ tm l = evp Γ tm' l
  | [], _ => rfl
  | (a, b, x) :: l, hh => by
    simp only [List.flatMap_cons, List.mem_append] at hh
    rw [evp, evp, ev_congr fun t ht => hh t (.inl ht), evp_congr fun t ht => hh t (.inr ht)]
theorem evq_congr : ∀ {l : List (Nat × Opd)}, (∀ t ∈ l.flatMap fun p => p.2.tmp, tm[t]? = tm'[t]?) → evq Γ tm l = evq Γ tm' l
  | [], _ => rfl
  | (a, x) :: l, hh => by
    simp only [List.flatMap_cons, List.mem_append] at hh
    rw [evq, evq, ev_congr fun t ht => hh t (.inl ht), evq_congr fun t ht => hh t (.inr ht)]
theorem oNat_congr {x : Option Opd} (hh : ∀ t ∈ tmpsO x, tm[t]? = tm'[t]?) : oNat Γ x tm = oNat Γ x tm' := by
  cases x with
  | none => rfl
  | some x => rw [oNat, oNat, ev_congr hh]

theorem opx_congr {o : Op} (hh : ∀ t ∈ o.reads, tm[t]? = tm'[t]?) : opx Γ tm h slot o = opx Γ tm' h slot o := by
  cases o <;> simp only [Op.reads, List.mem_append] at hh
  case pick c a b => simp only [opx, ev_congr (Γ := Γ) fun t ht => hh t (.inl ht), ev_congr (Γ := Γ) fun t ht => hh t (.inr (.inl ht)), ev_congr (Γ := Γ) fun t ht => hh t (.inr (.inr ht))]
  case mupd c a b => simp only [opx, ev_congr (Γ := Γ) fun t ht => hh t (.inl ht), ev_congr (Γ := Γ) fun t ht => hh t (.inr (.inl ht)), ev_congr (Γ := Γ) fun t ht => hh t (.inr (.inr ht))]
  case slice z x lo hi => simp only [opx, ev_congr (Γ := Γ) fun t ht => hh t (.inl ht), oNat_congr (Γ := Γ) fun t ht => hh t (.inr (.inl ht)), oNat_congr (Γ := Γ) fun t ht => hh t (.inr (.inr ht))]
  case build => simp only [opx, evp_congr (Γ := Γ) hh]
  case lit => simp only [opx, evq_congr (Γ := Γ) hh]
  case mkf => simp only [opx, evs_congr (Γ := Γ) fun t ht => hh t (.inl ht), evs_congr (Γ := Γ) fun t ht => hh t (.inr ht)]
  case new => rfl
  case mkm => rfl
  case call => rfl
  case callv => rfl
  all_goals first
    | (simp only [opx, ev_congr (Γ := Γ) hh]; done)
    | (simp only [opx, ev_congr (Γ := Γ) fun t ht => hh t (.inl ht), ev_congr (Γ := Γ) fun t ht => hh t (.inr ht)]; done)

theorem step1_congr {o : Op} (hh : ∀ t ∈ o.reads, tm[t]? = tm'[t]?) : step1 Γ ih tm h slot o = step1 Γ ih tm' h slot o := by
  cases o
  case call f args =>
    simp only [Op.reads] at hh
    simp only [step1, evs_congr (Γ := Γ) hh]
  case callv f args =>
    simp only [Op.reads, List.mem_append] at hh
    simp only [step1, ev_congr (Γ := Γ) fun t ht => hh t (.inl ht), evs_congr (Γ := Γ) fun t ht => hh t (.inr ht)]
  all_goals exact opx_congr (Γ := Γ) (slot := slot) hh

theorem wants_congr {o : Oper} (hh : ∀ t ∈ o.reads, tm[t]? = tm'[t]?) : wants tm o.guard = wants tm' o.guard := by
  unfold wants
  cases hg : o.guard with
  | none => rfl
  | some g =>
    obtain ⟨t, b⟩ := g
    simp only
    rw [hh t (by simp [Oper.reads, hg])]

theorem cell_congr {o : Oper} (hh : ∀ t ∈ o.reads, tm[t]? = tm'[t]?) : ∀ t ∈ o.op.reads, tm[t]? = tm'[t]? := fun t ht => hh t (by simp [Oper.reads, ht])

/-- An operation that makes one block. -/
theorem opx_made {o : Op} {s : Nat} {v : V} (hc : o.cls Γ = 1) (hx : opx Γ tm h (some s) o = some (v, h')) : h[s]? = some .gone ∧ ∃ ob, h' = h.set s ob ∧ ∀ h2 : Heap, h2[s]? = some .gone → opx Γ tm h2 (some s) o = some (v, h2.set s ob) := by
  have hput : ∀ {ob : Ob} {b : Nat}, put h (some s) ob = some (b, h') → b = s ∧ h[s]? = some .gone ∧ h' = h.set s ob ∧ ∀ h2 : Heap, h2[s]? = some .gone → put h2 (some s) ob = some (b, h2.set s ob) := fun hp => by
    unfold put at hp
    dsimp only at hp
    split at hp
    · rename_i hg
      injection hp with hp
      obtain ⟨rfl, rfl⟩ := Prod.mk.inj hp
      exact ⟨rfl, hg, rfl, fun h2 h3 => by simp [put, h3]⟩
    · cases hp
  cases o <;> simp only [Op.cls, reduceCtorEq] at hc <;> try (first | (cases hc; done) | (split at hc <;> cases hc; done))
  case new zero =>
    simp only [opx, Option.map_eq_some_iff] at hx
    obtain ⟨⟨b, g⟩, hp, he⟩ := hx
    obtain ⟨rfl, rfl⟩ := Prod.mk.inj he
    obtain ⟨rfl, g1, g2, g3⟩ := hput hp
    exact ⟨g1, _, g2, fun h2 h3 => by simp [opx, g3 h2 h3]⟩
  case box z x =>
    simp only [opx, Option.bind_eq_some_iff] at hx
    obtain ⟨xv, hxv, hx⟩ := hx
    split at hx
    · rename_i hcc
      simp only [Option.map_eq_some_iff] at hx
      obtain ⟨⟨b, g⟩, hp, he⟩ := hx
      obtain ⟨rfl, rfl⟩ := Prod.mk.inj he
      obtain ⟨rfl, g1, g2, g3⟩ := hput hp
      exact ⟨g1, _, g2, fun h2 h3 => by simp only [opx, hxv, Option.bind_some, if_pos hcc, g3 h2 h3, Option.map_some]⟩
    · cases hx
  case lit z zero n parts =>
    simp only [opx, Option.bind_eq_some_iff] at hx
    obtain ⟨ps, hps, els, hels, hx⟩ := hx
    split at hx
    · rename_i hcc
      simp only [Option.map_eq_some_iff] at hx
      obtain ⟨⟨b, g⟩, hp, he⟩ := hx
      obtain ⟨rfl, rfl⟩ := Prod.mk.inj he
      obtain ⟨rfl, g1, g2, g3⟩ := hput hp
      exact ⟨g1, _, g2, fun h2 h3 => by simp only [opx, hps, hels, Option.bind_some, if_pos hcc, g3 h2 h3, Option.map_some]⟩
    · cases hx
  case mkm =>
    simp only [opx, Option.map_eq_some_iff] at hx
    obtain ⟨⟨b, g⟩, hp, he⟩ := hx
    obtain ⟨rfl, rfl⟩ := Prod.mk.inj he
    obtain ⟨rfl, g1, g2, g3⟩ := hput hp
    exact ⟨g1, _, g2, fun h2 h3 => by simp [opx, g3 h2 h3]⟩
  case mks z bytes zero l c =>
    simp only [opx, Option.bind_eq_some_iff] at hx
    obtain ⟨lv, hlv, cv, hcv, ln, hln, cn, hcn, hx⟩ := hx
    split at hx
    · rename_i hcc
      simp only [Option.map_eq_some_iff] at hx
      obtain ⟨⟨b, g⟩, hp, he⟩ := hx
      obtain ⟨rfl, rfl⟩ := Prod.mk.inj he
      obtain ⟨rfl, g1, g2, g3⟩ := hput hp
      exact ⟨g1, _, g2, fun h2 h3 => by simp only [opx, hlv, hcv, hln, hcn, Option.bind_some, if_pos hcc, g3 h2 h3, Option.map_some]⟩
    · cases hx

theorem made_same {o : Op} (hc : o.cls Γ = 1) : step1 Γ ih tm h slot o = opx Γ tm h slot o := by
  cases o <;> first | rfl | (simp only [Op.cls] at hc; first | (cases hc; done) | (split at hc <;> cases hc; done))

/-- An operation that writes nothing. -/
theorem opx_quiet {o : Op} {v : V} (hc : o.cls Γ = 0) (hx : opx Γ tm h slot o = some (v, h')) : h' = h := by
  cases o <;> simp only [Op.cls, reduceCtorEq] at hc <;> try (first | (cases hc; done) | (split at hc <;> cases hc; done))
  all_goals
    simp only [opx, lenV, Option.bind_eq_some_iff, Option.map_eq_some_iff, reduceCtorEq] at hx
  all_goals
    repeat' (first
      | rfl
      | (obtain ⟨_, _, hx⟩ := hx)
      | (obtain ⟨rfl, rfl⟩ := Prod.mk.inj hx; rfl)
      | (split at hx)
      | (cases hx; done)
      | (simp only [Option.bind_eq_some_iff, Option.map_eq_some_iff, Option.some.injEq] at hx)
      | (cases hx; rfl))
end
end Am
