/- Regions that draw their order and write: by what each operation asks and writes, looked at in the order of the text. -/
import Derived.Test.YtnfcgeplleikdaaDoorAmView
namespace Am
open Go (IntKind BinOp UnOp)
noncomputable section
/-- What an operation that writes does to a memory: nothing; a block more; a block of those written; one given up and a block more. -/
inductive Patch (T : List Nat) (h : Heap) : (Heap → Heap) → Prop
  | id : Patch T h fun g => g
  | app (r : Ob) : Patch T h fun g => g ++ [r]
  | set (b : Nat) (r : Ob) : b ∈ T → liveB h[b]? = true → Patch T h fun g => g.set b r
  | move (b : Nat) (r : Ob) : b ∈ T → liveB h[b]? = true → Patch T h fun g => g.set b .gone ++ [r]
section
variable {T : List Nat} {h h' h1 : Heap}
theorem live_row {b z : Nat} {els : List (List V)} (e : rowAt h b z = some els) : liveB h[b]? = true := by rw [rowAt_some e]; rfl
theorem live_map {b : Nat} {es : List (V × V)} (e : mapAt h b = some es) : liveB h[b]? = true := by
  unfold mapAt at e; split at e
  · rename_i hb; rw [hb]; rfl
  · cases e
theorem Patch.len {p : Heap → Heap} (hp : Patch T h p) (g : Heap) : g.length ≤ (p g).length := by cases hp <;> simp
theorem Patch.new {p : Heap → Heap} (hp : Patch T h p) (g g' : Heap) (e : g.length = g'.length) : (p g).length = (p g').length := by cases hp <;> simp [e]
theorem live_filter {b : Nat} (hb : b ∈ T) (hl : liveB h[b]? = true) : (T.filter fun b => liveB h[b]?).contains b = true := by
  simp [hb, hl]
theorem merge_restr {T : List Nat} {h : Heap} (l : Heap) : merge T 0 h (restr T 0 h ++ l) = h ++ l := by
  apply List.ext_getElem?
  intro k
  rw [merge_get T h _ 0 k (by simp [restr_length])]
  rcases Nat.lt_or_ge k h.length with hk | hk
  · rw [List.getElem?_append_left hk]
    split
    · rfl
    · rename_i hn
      rw [List.getElem?_append_left (by rw [restr_length]; exact hk), restr_get]
      rw [if_pos]
      cases hc : T.contains (0 + k) with
      | true => rfl
      | false => exact absurd ⟨hk, hc⟩ hn
  · rw [if_neg (by omega), List.getElem?_append_right (by rw [restr_length]; exact hk), List.getElem?_append_right hk, restr_length]
theorem merge_set {T : List Nat} {h : Heap} {b : Nat} {r : Ob} (hb : T.contains b = true) (l : Heap) : merge T 0 h ((restr T 0 h).set b r ++ l) = h.set b r ++ l := by
  apply List.ext_getElem?
  intro k
  rw [merge_get T h _ 0 k (by simp [restr_length])]
  rcases Nat.lt_or_ge k h.length with hk | hk
  · rw [List.getElem?_append_left (by rw [List.length_set, restr_length]; exact hk), List.getElem?_append_left (by simpa using hk), List.getElem?_set, List.getElem?_set, restr_length, Nat.zero_add]
    by_cases e : b = k
    · subst e; simp only [hb, if_true, hk]; simp
    · rw [if_neg e, if_neg e, restr_get, Nat.zero_add]
      cases hc : T.contains k <;> simp [hk]
  · rw [if_neg (by omega), List.getElem?_append_right (by rw [List.length_set, restr_length]; exact hk), List.getElem?_append_right (by simpa using hk)]
    simp [restr_length]
theorem Patch.merge {p : Heap → Heap} (hp : Patch T h p) : merge (T.filter fun b => liveB h[b]?) 0 h (p (restr (T.filter fun b => liveB h[b]?) 0 h)) = p h := by
  cases hp with
  | id => simpa using merge_restr (T := T.filter fun b => liveB h[b]?) (h := h) []
  | app r => exact merge_restr [r]
  | set b r hb hl => simpa using merge_set (T := T.filter fun b => liveB h[b]?) (h := h) (r := r) (live_filter hb hl) []
  | move b r hb hl => exact merge_set (live_filter hb hl) [r]
theorem restr_ag {T : List Nat} {h : Heap} : AgT T h (restr (T.filter fun b => liveB h[b]?) 0 h) := fun b hb => by
  unfold vw
  rw [restr_get, Nat.zero_add]
  cases hl : liveB h[b]? with
  | true => rw [if_pos (live_filter hb hl)]
  | false =>
    have hc : (T.filter fun b => liveB h[b]?).contains b = false := by
      rw [← Bool.not_eq_true, List.contains_iff_mem, List.mem_filter]
      rintro ⟨_, h2⟩; rw [hl] at h2; cases h2
    rw [if_neg (by rw [hc]; decide)]
    cases e : h[b]? with
    | none => rfl
    | some o => rw [e] at hl; cases o <;> first | rfl | cases hl
end
section
variable {Γ : Env} {ih : Runs} {tm : List V} {h h1 : Heap}
/-- Operations that write and call nothing. -/
def Op.writes : Op → Bool
  | .store .. | .app .. | .cpy .. | .clr .. | .clrm .. | .mupd .. | .mdel .. => true
  | _ => false
theorem mem_own {b z off len : Nat} {cap : Option Nat} : b ∈ own1 (.sl b z off len cap) := by simp [own1]
theorem appV_patch {T : List Nat} {z bytes : Nat} {s x v : V} {h' : Heap} (ha : AgT T h h1) (hl : h1.length = h.length) (hs : ∀ b ∈ own1 s, b ∈ T) (hx : ∀ b ∈ own1 x, b ∈ T) (e : appV h z bytes s x = some (v, h')) :
    ∃ p, Patch T h p ∧ h' = p h ∧ appV h1 z bytes s x = some (v, p h1) := by
  have he : elsOf h1 x = elsOf h x := elsOf_vw fun b hb => ha b (hx b hb)
  unfold appV at e ⊢
  rw [he]
  simp only [Option.bind_eq_some_iff] at e
  obtain ⟨src, hsrc, e⟩ := e
  rw [hsrc]
  simp only [Option.bind_some]
  split at e
  · rename_i hall
    rw [if_pos hall]
    split at e
    · split at e
      · rename_i h0; rw [if_pos h0]
        obtain ⟨rfl, rfl⟩ := Prod.mk.inj (Option.some.inj e)
        exact ⟨_, .id, rfl, rfl⟩
      · rename_i h0; rw [if_neg h0]
        split at e
        · rename_i h2; rw [if_pos h2]
          obtain ⟨rfl, rfl⟩ := Prod.mk.inj (Option.some.inj e)
          exact ⟨_, .app _, rfl, by rw [hl]⟩
        · cases e
    · rename_i b z' off len cap
      have hb : b ∈ T := hs b mem_own
      split at e
      · rename_i h0; rw [if_pos h0]
        obtain ⟨rfl, rfl⟩ := Prod.mk.inj (Option.some.inj e)
        exact ⟨_, .id, rfl, rfl⟩
      · rename_i h0; rw [if_neg h0]
        split at e
        · rename_i h2; rw [if_pos h2]
          simp only [Option.bind_eq_some_iff] at e
          obtain ⟨els, hr, e⟩ := e
          have hr1 : rowAt h1 b z = some els := by rw [rowAt_vw (ha b hb)]; exact hr
          rw [hr1]
          simp only [Option.bind_some]
          have hlv := live_row hr
          cases cap with
          | some c =>
            dsimp only at e ⊢
            split at e
            · rename_i h3; rw [if_pos h3]
              split at e
              · rename_i h4; rw [if_pos h4]
                obtain ⟨rfl, rfl⟩ := Prod.mk.inj (Option.some.inj e)
                exact ⟨_, .set b _ hb hlv, rfl, rfl⟩
              · cases e
            · rename_i h3; rw [if_neg h3]
              split at e
              · rename_i h4; rw [if_pos h4]
                obtain ⟨rfl, rfl⟩ := Prod.mk.inj (Option.some.inj e)
                exact ⟨_, .app _, rfl, by rw [hl]⟩
              · cases e
          | none =>
            dsimp only at e ⊢
            split at e
            · rename_i h4; rw [if_pos h4]
              obtain ⟨rfl, rfl⟩ := Prod.mk.inj (Option.some.inj e)
              exact ⟨_, .move b _ hb hlv, rfl, by rw [hl]⟩
            · cases e
        · cases e
    · cases e
  · cases e
theorem step1_patch {o : Op} {T : List Nat} {v : V} {h' : Heap} (hw : o.writes = true) (hf : foot Γ tm h none o = some T) (ha : AgT T h h1) (hl : h1.length = h.length) (e : step1 Γ ih tm h none o = some (v, h')) :
    ∃ p, Patch T h p ∧ h' = p h ∧ step1 Γ ih tm h1 none o = some (v, p h1) := by
  cases o <;> simp only [Op.writes, Bool.false_eq_true] at hw
  case store z a x =>
    simp only [foot, Option.map_eq_some_iff] at hf
    obtain ⟨av, hav, rfl⟩ := hf
    simp only [s_store, hav, Option.bind_some, Option.bind_eq_some_iff, Option.map_eq_some_iff] at e
    obtain ⟨xv, hxv, g, hg, e⟩ := e
    obtain ⟨rfl, rfl⟩ := Prod.mk.inj e
    cases av <;> simp only [storeV, reduceCtorEq] at hg
    rename_i b z' i o
    simp only [Option.bind_eq_some_iff] at hg
    obtain ⟨els, hr, el, hel, hg⟩ := hg
    split at hg
    · rename_i hc
      injection hg with hg
      have hb : b ∈ own1 (.ptr b z' i o) := by simp [own1]
      refine ⟨_, .set b _ hb (live_row hr), hg.symm, ?_⟩
      simp only [s_store, hav, hxv, Option.bind_some, storeV, rowAt_vw (ha b hb), hr, hel, if_pos hc, Option.map_some]
    · cases hg
  case app z bytes s x =>
    simp only [foot, Option.bind_eq_some_iff, Option.map_eq_some_iff] at hf
    obtain ⟨sv, hsv, xv, hxv, rfl⟩ := hf
    simp only [s_app, hsv, hxv, Option.bind_some] at e ⊢
    exact appV_patch ha hl (fun b hb => List.mem_append_left _ hb) (fun b hb => List.mem_append_right _ hb) e
  case cpy z d s =>
    simp only [foot, Option.bind_eq_some_iff, Option.map_eq_some_iff] at hf
    obtain ⟨dv, hdv, sv, hsv, rfl⟩ := hf
    simp only [step1, opx, hdv, hsv, Option.bind_some] at e ⊢
    rw [elsOf_vw (h := h) (h' := h1) fun b hb => ha b (List.mem_append_right _ hb)]
    simp only [Option.bind_eq_some_iff] at e
    obtain ⟨src, hsrc, e⟩ := e
    rw [hsrc]
    simp only [Option.bind_some]
    split at e
    · rename_i hall; rw [if_pos hall]
      cases dv <;> simp only [reduceCtorEq] at e
      · obtain ⟨rfl, rfl⟩ := Prod.mk.inj (Option.some.inj e)
        exact ⟨_, .id, rfl, rfl⟩
      · rename_i b z' off len cap
        have hb : b ∈ own1 (.sl b z' off len cap) ++ own1 sv := List.mem_append_left _ mem_own
        simp only [Option.bind_eq_some_iff] at e
        obtain ⟨els, hr, e⟩ := e
        simp only [rowAt_vw (ha b hb), hr, Option.bind_some]
        split at e
        · rename_i hc; rw [if_pos hc]
          obtain ⟨rfl, rfl⟩ := Prod.mk.inj (Option.some.inj e)
          exact ⟨_, .set b _ hb (live_row hr), rfl, rfl⟩
        · cases e
    · cases e
  case clr zero x =>
    simp only [foot, Option.map_eq_some_iff] at hf
    obtain ⟨xv, hxv, rfl⟩ := hf
    simp only [step1, opx, hxv, Option.bind_some] at e ⊢
    cases xv <;> simp only [reduceCtorEq] at e
    · obtain ⟨rfl, rfl⟩ := Prod.mk.inj (Option.some.inj e)
      exact ⟨_, .id, rfl, rfl⟩
    · split at e
      · rename_i hc
        obtain ⟨rfl, rfl⟩ := Prod.mk.inj (Option.some.inj e)
        exact ⟨_, .id, rfl, by simp only [if_pos hc]⟩
      · cases e
    · rename_i b z off len cap
      split at e
      · rename_i hc
        obtain ⟨rfl, rfl⟩ := Prod.mk.inj (Option.some.inj e)
        exact ⟨_, .id, rfl, by simp only [if_pos hc]⟩
      · rename_i hc
        simp only [if_neg hc]
        have hb : b ∈ own1 (.sl b z off len cap) := mem_own
        simp only [Option.bind_eq_some_iff] at e
        obtain ⟨els, hr, e⟩ := e
        simp only [rowAt_vw (ha b hb), hr, Option.bind_some]
        split at e
        · rename_i hc; rw [if_pos hc]
          obtain ⟨rfl, rfl⟩ := Prod.mk.inj (Option.some.inj e)
          exact ⟨_, .set b _ hb (live_row hr), rfl, rfl⟩
        · cases e
  case clrm x =>
    simp only [foot, Option.map_eq_some_iff] at hf
    obtain ⟨xv, hxv, rfl⟩ := hf
    simp only [step1, opx, hxv, Option.bind_some] at e ⊢
    cases xv <;> simp only [reduceCtorEq] at e
    · obtain ⟨rfl, rfl⟩ := Prod.mk.inj (Option.some.inj e)
      exact ⟨_, .id, rfl, rfl⟩
    · rename_i b
      have hb : b ∈ own1 (.mp b) := by simp [own1]
      cases hm : mapAt h b with
      | none =>
        unfold mapAt at hm
        split at hm
        · cases hm
        · rename_i hn
          split at e
          · rename_i es he; exact absurd he (hn es)
          · cases e
      | some es =>
        have h2 := vw_map.1 ((ha b hb).trans (vw_map.2 (show h[b]? = some (.map es) by
          unfold mapAt at hm; split at hm
          · rename_i es' hb'; injection hm with hm; rw [hb', hm]
          · cases hm)))
        have h3 : h[b]? = some (.map es) := by
          unfold mapAt at hm; split at hm
          · rename_i es' hb'; injection hm with hm; rw [hb', hm]
          · cases hm
        rw [h3] at e
        simp only [h2]
        obtain ⟨rfl, rfl⟩ := Prod.mk.inj (Option.some.inj e)
        exact ⟨_, .set b _ hb (live_map hm), rfl, rfl⟩
  case mupd K m k x =>
    simp only [foot, Option.map_eq_some_iff] at hf
    obtain ⟨mv, hmv, rfl⟩ := hf
    simp only [s_mupd, hmv, Option.bind_some, Option.bind_eq_some_iff] at e ⊢
    obtain ⟨kv, hkv, xv, hxv, e⟩ := e
    simp only [hkv, hxv, Option.some.injEq, exists_eq_left']
    split at e
    · rename_i hc; simp only [if_pos hc]
      simp only [Option.map_eq_some_iff] at e
      obtain ⟨g, hg, e⟩ := e
      obtain ⟨rfl, rfl⟩ := Prod.mk.inj e
      cases mv <;> simp only [mupdV, reduceCtorEq] at hg
      rename_i b
      have hb : b ∈ own1 (.mp b) := by simp [own1]
      split at hg
      · rename_i es h3
        have h2 := vw_map.1 ((ha b hb).trans (vw_map.2 h3))
        have hlv : liveB h[b]? = true := by rw [h3]; rfl
        simp only [Option.map_eq_some_iff] at hg
        obtain ⟨r, hr, hg⟩ := hg
        cases r with
        | none => exact ⟨_, .set b _ hb hlv, hg.symm, by simp [mupdV, h2, hr]⟩
        | some q => exact ⟨_, .set b _ hb hlv, hg.symm, by simp [mupdV, h2, hr]⟩
      · cases hg
    · cases e
  case mdel K m k =>
    simp only [foot, Option.map_eq_some_iff] at hf
    obtain ⟨mv, hmv, rfl⟩ := hf
    simp only [s_mdel, hmv, Option.bind_some, Option.bind_eq_some_iff] at e ⊢
    obtain ⟨kv, hkv, e⟩ := e
    simp only [hkv, Option.some.injEq, exists_eq_left']
    split at e
    · rename_i hc; simp only [if_pos hc]
      simp only [Option.map_eq_some_iff] at e
      obtain ⟨g, hg, e⟩ := e
      obtain ⟨rfl, rfl⟩ := Prod.mk.inj e
      cases mv <;> simp only [mdelV, reduceCtorEq] at hg
      rename_i b
      have hb : b ∈ own1 (.mp b) := by simp [own1]
      split at hg
      · rename_i es h3
        have h2 := vw_map.1 ((ha b hb).trans (vw_map.2 h3))
        have hlv : liveB h[b]? = true := by rw [h3]; rfl
        simp only [Option.map_eq_some_iff] at hg
        obtain ⟨r, hr, hg⟩ := hg
        cases r with
        | none => exact ⟨_, .id, hg.symm, by simp [mdelV, h2, hr]⟩
        | some q => exact ⟨_, .set b _ hb hlv, hg.symm, by simp [mdelV, h2, hr]⟩
      · cases hg
    · cases e

end
/-! ### A region, in the order of its text -/
def runD (Γ : Env) (ih : Runs) : List Oper → Nat → List Rc → St → Option St
  | [], _, _, s => some s
  | o :: os, i, recs, s =>
    if wants s.tm o.guard = true then
      (foot Γ s.tm s.h none o.op).bind fun T => (step1 Γ ih s.tm s.h none o.op).bind fun r =>
        if o.op.cls Γ = 0 then
          (if recs.all (okRc 0 T o.anc) = true then runD Γ ih os (i + 1) (⟨i, 0, T⟩ :: recs) ⟨putT s.tm o.dst r.1, s.h⟩ else none)
        else
          (if recs.all (okRc 2 (T ++ List.range' s.h.length (r.2.length - s.h.length)) o.anc) = true then
            runD Γ ih os (i + 1) (⟨i, 2, T ++ List.range' s.h.length (r.2.length - s.h.length)⟩ :: recs) ⟨putT s.tm o.dst r.1, r.2⟩ else none)
    else runD Γ ih os (i + 1) recs ⟨putT s.tm o.dst undef, s.h⟩
def plainOps (Γ : Env) (l : List Oper) : Bool := l.all fun o => Nat.beq (o.op.cls Γ) 0 || o.op.writes
theorem writes_cls {Γ : Env} {o : Op} (h : o.writes = true) : o.cls Γ = 2 := by cases o <;> first | rfl | cases h
/-- Earlier ones that a step of the trace may stand behind or ahead of. -/
def Meets (Γ : Env) (recs : List Rc) (i : Nat) (st : List Step) : Prop :=
  (∀ r ∈ recs, ∀ x ∈ st, x.ran = true → okRc (x.op.op.cls Γ) x.T x.op.anc r = true) ∧ compats Γ i st = true
theorem okRc_sub {c : Nat} {T T' anc : List Nat} {r : Rc} (h : okRc c T anc r = true) (hs : ∀ x ∈ T', x ∈ T) : okRc c T' anc r = true := by
  unfold okRc at h ⊢
  simp only [Bool.or_eq_true, Bool.and_eq_true] at h ⊢
  rcases h with ⟨h1, h2⟩ | h
  · refine .inl ⟨h1, ?_⟩
    rcases h2 with h2 | h2
    · exact .inl h2
    · refine .inr ?_
      rw [List.all_eq_true] at h2 ⊢
      intro x hx
      have := h2 x hx
      simp only [Bool.not_eq_true', List.any_eq_false] at this ⊢
      exact fun y hy => this y (hs y hy)
  · exact .inr h
theorem beq_nat (a b : Nat) : Nat.beq a b = (a == b) := Bool.eq_iff_iff.2 (by rw [Nat.beq_eq, beq_iff_eq])
theorem rc_ok {Γ : Env} {i : Nat} {x y : Step} {c : Nat} {T : List Nat} (hc : x.ran = true → x.op.op.cls Γ = c) (hT : ∀ b ∈ x.T, b ∈ T) (h : y.ran = true → x.ran = true → okRc (y.op.op.cls Γ) y.T y.op.anc ⟨i, c, T⟩ = true) : compat Γ i x y = true := by
  unfold compat
  cases hx : x.ran with
  | false => simp
  | true =>
    cases hy : y.ran with
    | false => simp
    | true =>
      have h1 := h hy hx
      have h2 := hc hx
      unfold okRc at h1
      simp only [Bool.or_eq_true, Bool.and_eq_true] at h1
      rcases h1 with ⟨h3, h4⟩ | h3
      · simp only [Bool.not_true, Bool.false_or, Bool.or_eq_true, Bool.and_eq_true]
        refine .inr ⟨?_, ?_⟩
        · rw [h2, ← beq_nat, ← beq_nat]; exact h3
        · rcases h4 with h4 | h4
          · left
            rw [h2, ← beq_nat, ← beq_nat]
            exact ⟨h4.1, h4.2⟩
          · right
            rw [List.all_eq_true] at h4 ⊢
            intro b hb
            have := h4 b (hT b hb)
            simp only [Bool.not_eq_true', List.any_eq_false] at this
            simp only [Bool.not_eq_true', ← Bool.not_eq_true, List.contains_iff_mem]
            exact fun hm => this b hm (Nat.beq_refl b)
      · simp only [Bool.not_true, Bool.false_or, Bool.or_eq_true]
        left
        rw [List.any_eq_true] at h3
        obtain ⟨a, ha, h4⟩ := h3
        rw [List.contains_iff_mem]
        have : i = a := Nat.eq_of_beq_eq_true h4
        exact this ▸ ha
theorem trace_dyn {Γ : Env} {ih : Runs} : ∀ {l : List Oper} {i slot : Nat} {recs : List Rc} {s s' : St}, (∀ o ∈ l, o.op.cls Γ = 0 ∨ o.op.writes = true) → runD Γ ih l i recs s = some s' →
    ∃ st, traceD Γ ih l slot s = some (st, s') ∧ Meets Γ recs i st
  | [], i, slot, recs, s, s', _, hx => by
    simp only [runD, Option.some.injEq] at hx; subst hx
    exact ⟨[], rfl, fun r _ x hx => by simp at hx, rfl⟩
  | o :: l, i, slot, recs, s, s', hk, hx => by
    have hk' : ∀ x ∈ l, x.op.cls Γ = 0 ∨ x.op.writes = true := fun x hx => hk x (by simp [hx])
    simp only [runD] at hx
    by_cases hw : wants s.tm o.guard = true
    · rw [if_pos hw] at hx
      simp only [Option.bind_eq_some_iff] at hx
      obtain ⟨T, hT, ⟨v, h'⟩, hr, hx⟩ := hx
      rcases hk o (by simp) with h0 | hwr
      · rw [if_pos h0] at hx
        split at hx
        · rename_i hok
          obtain ⟨st, h1, h2, h3⟩ := trace_dyn (slot := slot) hk' hx
          have hq : step1 Γ ih s.tm (restrQ T s.h) none o.op = some (v, restrQ T s.h) := by rw [step1_vw h0 hT restrQ_ag, hr]; rfl
          refine ⟨⟨o, s.tm, s.h, true, v, T, slot⟩ :: st, ?_, fun r hr x hxs hran => ?_, ?_⟩
          · simp only [traceD, if_pos hw, h0, hT, Option.bind_some, hq, h1, Option.map_some]
          · rcases List.mem_cons.1 hxs with rfl | hxs
            · rw [List.all_eq_true] at hok; rw [h0]; exact hok r hr
            · exact h2 r (List.mem_cons_of_mem _ hr) x hxs hran
          · simp only [compats, Bool.and_eq_true, List.all_eq_true]
            exact ⟨fun y hy => rc_ok (c := 0) (T := T) (fun _ => h0) (fun _ h => h) fun hyr _ => h2 _ List.mem_cons_self y hy hyr, h3⟩
        · cases hx
      · have hc := writes_cls (Γ := Γ) hwr
        rw [if_neg (by rw [hc]; decide)] at hx
        split at hx
        · rename_i hok
          obtain ⟨st, h1, h2, h3⟩ := trace_dyn (slot := slot) hk' hx
          obtain ⟨p, hp, he, hq⟩ := step1_patch hwr hT (restr_ag (T := T) (h := s.h)) (restr_length _ _ _) hr
          subst he
          have hlen := hp.new (restr (T.filter fun b => liveB s.h[b]?) 0 s.h) s.h (restr_length _ _ _)
          have hle : s.h.length ≤ (p (restr (T.filter fun b => liveB s.h[b]?) 0 s.h)).length := by rw [hlen]; exact hp.len s.h
          have hsub : ∀ x ∈ (T.filter fun b => liveB s.h[b]?) ++ List.range' s.h.length ((p s.h).length - s.h.length), x ∈ T ++ List.range' s.h.length ((p s.h).length - s.h.length) := fun x hx => by
            rcases List.mem_append.1 hx with h | h
            · exact List.mem_append_left _ (List.mem_filter.1 h).1
            · exact List.mem_append_right _ h
          refine ⟨⟨o, s.tm, s.h, true, v, (T.filter fun b => liveB s.h[b]?) ++ List.range' s.h.length ((p s.h).length - s.h.length), slot⟩ :: st, ?_, fun r hr x hxs hran => ?_, ?_⟩
          · rw [hlen] at hle; simp only [traceD, if_pos hw, hc, hT, Option.bind_some, hq, hp.merge, h1, Option.map_some, hlen, if_pos hle]
          · rcases List.mem_cons.1 hxs with rfl | hxs
            · rw [List.all_eq_true] at hok
              rw [hc]
              exact okRc_sub (hok r hr) hsub
            · exact h2 r (List.mem_cons_of_mem _ hr) x hxs hran
          · simp only [compats, Bool.and_eq_true, List.all_eq_true]
            exact ⟨fun y hy => rc_ok (c := 2) (T := T ++ List.range' s.h.length ((p s.h).length - s.h.length)) (fun _ => hc) hsub fun hyr _ => h2 _ List.mem_cons_self y hy hyr, h3⟩
        · cases hx
    · rw [if_neg hw] at hx
      have hne : o.op.cls Γ ≠ 1 := by
        rcases hk o (by simp) with h0 | hwr
        · rw [h0]; decide
        · rw [writes_cls hwr]; decide
      obtain ⟨st, h1, h2, h3⟩ := trace_dyn (slot := slot) hk' hx
      refine ⟨⟨o, s.tm, s.h, false, undef, [], slot⟩ :: st, ?_, fun r hr x hxs hran => ?_, ?_⟩
      · simp only [traceD, if_neg hw, if_neg hne, h1, Option.map_some]
      · rcases List.mem_cons.1 hxs with rfl | hxs
        · cases hran
        · exact h2 r hr x hxs hran
      · simp only [compats, Bool.and_eq_true, List.all_eq_true]
        exact ⟨fun y hy => by simp [compat], h3⟩
theorem slots_plain {Γ : Env} {l : List Oper} (hk : ∀ o ∈ l, o.op.cls Γ = 0 ∨ o.op.writes = true) : slots Γ l = 0 := by
  unfold slots
  rw [List.length_eq_zero_iff, List.filter_eq_nil_iff]
  intro o ho
  rcases hk o ho with h | h
  · simp [h]
  · simp [writes_cls (Γ := Γ) h]
/-- A REGION THAT DRAWS AND WRITES. -/
theorem dyn_use {Γ : Env} {ih : Runs} {l : List Oper} {s s' : St} {r : Option St} (hR : runRegion Γ ih true l s = r) (hk : plainOps Γ l = true) (hx : runD Γ ih l 0 [] s = some s') : r = some s' := by
  have hk' : ∀ o ∈ l, o.op.cls Γ = 0 ∨ o.op.writes = true := fun o ho => by
    have := List.all_eq_true.1 hk o ho
    rw [Bool.or_eq_true] at this
    exact this.imp Nat.eq_of_beq_eq_true id
  obtain ⟨st, h1, h2, h3⟩ := trace_dyn (slot := s.h.length) hk' hx
  subst hR
  simp only [runRegion, if_true, slots_plain hk', List.replicate_zero, List.append_nil]
  rw [show (⟨s.tm, s.h⟩ : St) = s from rfl, h1]
  simp only [Option.bind_some, if_pos h3]
end
end Am
