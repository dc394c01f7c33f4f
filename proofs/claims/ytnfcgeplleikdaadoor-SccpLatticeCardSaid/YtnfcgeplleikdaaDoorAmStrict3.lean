/- The strict machine: regions that draw, and the whole. -/
import Derived.Test.YtnfcgeplleikdaaDoorAmStrict2
namespace Am
open Go (IntKind BinOp UnOp)
section
variable {Γ : Env} {M : Memo} {ih ih' : Runs}

def RcOK (Γ : Env) (r : Rc) (y : Step) : Prop := y.ran = false ∨ (y.op.op.cls Γ = 0 ∧ y.T = []) ∨ okRc (y.op.op.cls Γ) y.T y.op.anc r = true

theorem rc_compat {i : Nat} {x y : Step} (h : RcOK Γ ⟨i, x.op.op.cls Γ, x.T⟩ y) : compat Γ i x y = true := by
  rcases h with h | ⟨h1, h2⟩ | h
  · simp [compat, h]
  · simp [compat, h1, h2]
  · simp only [okRc, Bool.or_eq_true, Bool.and_eq_true, Bool.not_eq_true', List.all_eq_true, List.any_eq_true] at h
    simp only [compat, Bool.or_eq_true, Bool.and_eq_true, Bool.not_eq_true', List.all_eq_true, List.contains_eq_mem, decide_eq_true_eq]
    rcases h with ⟨h1, h2⟩ | ⟨z, hz, he⟩
    · refine .inr ⟨?_, ?_⟩
      · cases e1 : Nat.beq (x.op.op.cls Γ) 2 with
        | false =>
          have : ¬ x.op.op.cls Γ = 2 := fun e => by rw [e] at e1; cases e1
          simp [this]
        | true =>
          rw [e1] at h1
          simp only [Bool.true_and] at h1
          have : ¬ y.op.op.cls Γ = 2 := fun e => by rw [e] at h1; cases h1
          simp [this]
      · rcases h2 with ⟨h2, h3⟩ | h2
        · left
          rw [Nat.eq_of_beq_eq_true h2, Nat.eq_of_beq_eq_true h3]; simp
        · right
          intro b hb
          have := h2 b hb
          simp only [List.any_eq_false] at this
          simp only [decide_eq_false_iff_not]
          intro hb2
          have h4 := this b hb2
          simp at h4
    · exact .inl (.inr (by rw [Nat.eq_of_beq_eq_true he]; exact hz))
theorem quiet_compat {i : Nat} {x y : Step} (h : x.ran = false ∨ (x.op.op.cls Γ = 0 ∧ x.T = [])) : compat Γ i x y = true := by
  rcases h with h | ⟨h1, h2⟩
  · simp [compat, h]
  · simp [compat, h1, h2]

/-- What a trace that the strict machine let pass is. -/
structure Passed (Γ : Env) (i : Nat) (recs : List Rc) (st : List Step) : Prop where
  old : ∀ r ∈ recs, ∀ y ∈ st, RcOK Γ r y
  new : ∀ (p q : Nat) x y, p < q → st[p]? = some x → st[q]? = some y → compat Γ (i + p) x y = true

theorem passed_cons {i : Nat} {recs recs' : List Rc} {x : Step} {st : List Step} (h : Passed Γ (i + 1) recs' st) (hsub : ∀ r ∈ recs, r ∈ recs') (h1 : ∀ r ∈ recs, RcOK Γ r x) (h2 : (x.ran = false ∨ (x.op.op.cls Γ = 0 ∧ x.T = [])) ∨ (⟨i, x.op.op.cls Γ, x.T⟩ : Rc) ∈ recs') :
    Passed Γ i recs (x :: st) := by
  refine ⟨fun r hr y hy => ?_, fun p q a b hpq ha hb => ?_⟩
  · rcases List.mem_cons.1 hy with rfl | hy
    · exact h1 r hr
    · exact h.old r (hsub r hr) y hy
  · cases q with
    | zero => omega
    | succ q =>
      cases p with
      | zero =>
        simp at ha; subst ha
        have hb' : b ∈ st := List.mem_of_getElem? (by simpa using hb)
        rcases h2 with h2 | h2
        · exact quiet_compat h2
        · exact rc_compat (h.old _ h2 b hb')
      | succ p =>
        have := h.new p q a b (by omega) (by simpa using ha) (by simpa using hb)
        rwa [Nat.add_assoc, Nat.add_comm 1 p] at this

variable (hle : Le ih ih') (hM : MemoOK Γ M ih')
include hle hM
theorem traceS_le : ∀ {l : List Oper} {i slot : Nat} {recs : List Rc} {s s' : St}, traceS Γ M ih l i slot recs s = some s' → ∃ st, traceD Γ ih' l slot s = some (st, s') ∧ Passed Γ i recs st
  | [], i, slot, recs, s, s', hx => by
    have hx' : some s = some s' := hx
    injection hx' with hx'; subst hx'
    exact ⟨[], rfl, fun r hr y hy => (by cases hy), fun p q x y _ hx => (by simp at hx)⟩
  | o :: l, i, slot, recs, s, s', hx => by
    have hx' : stepT Γ M ih (traceS Γ M ih l) o i slot recs s = some s' := hx
    unfold stepT at hx'
    rw [wantsS_eq] at hx'
    simp only [traceD]
    split at hx' <;> rename_i hw
    · rw [if_pos hw]
      split at hx' <;> rename_i hk
      · -- asks at most
        have hc := kind0 hk
        simp only [hc]
        unfold stepTq at hx'
        cases hT : foot Γ s.tm s.h none o.op with
        | none => rw [hT] at hx'; cases hx'
        | some T =>
          rw [hT] at hx'
          dsimp only at hx'
          cases hq : step1S Γ M ih s.tm (restrQ T s.h) none o.op with
          | none => rw [hq] at hx'; cases hx'
          | some q =>
            rw [hq] at hx'
            simp only [stepT0, forceV_eq, putTS_eq] at hx'
            simp only [Option.bind_some, step1S_le hle hM hq]
            cases T with
            | nil =>
              dsimp only at hx'
              obtain ⟨st, h1, h2⟩ := traceS_le hx'
              exact ⟨_, by rw [h1]; rfl, passed_cons h2 (fun r hr => hr) (fun r hr => .inr (.inl ⟨hc, rfl⟩)) (.inl (.inr ⟨hc, rfl⟩))⟩
            | cons t T =>
              dsimp only at hx'
              split at hx'
              · rename_i hall
                obtain ⟨st, h1, h2⟩ := traceS_le hx'
                refine ⟨_, by rw [h1]; rfl, passed_cons h2 (fun r hr => List.mem_cons_of_mem _ hr) (fun r hr => .inr (.inr ?_)) (.inr ?_)⟩
                · have := List.all_eq_true.1 hall r hr
                  dsimp only; rw [hc]; exact this
                · dsimp only; rw [hc]; simp
              · cases hx'
      · -- makes a block
        have hc := kind1 hk
        simp only [hc]
        unfold stepTa at hx'
        rw [opxS_eq] at hx'
        cases hq : opx Γ s.tm s.h (some slot) o.op with
        | none => rw [hq] at hx'; cases hx'
        | some q =>
          rw [hq] at hx'
          dsimp only at hx'
          split at hx'
          · rename_i hall
            simp only [forceV_eq, forceAt_eq, putTS_eq] at hx'
            simp only [Option.bind_some]
            obtain ⟨st, h1, h2⟩ := traceS_le hx'
            refine ⟨_, by rw [h1]; rfl, passed_cons h2 (fun r hr => List.mem_cons_of_mem _ hr) (fun r hr => .inr (.inr ?_)) (.inr ?_)⟩
            · have := List.all_eq_true.1 hall r hr
              dsimp only; rw [hc]; exact this
            · dsimp only; rw [hc]; simp
          · cases hx'
      · -- writes
        rename_i hk2
        have hc := kind2 (Γ := Γ) (o := o.op) (fun h => hk2 h) (fun h => hk h)
        simp only [hc]
        unfold stepTe at hx'
        cases hT : foot Γ s.tm s.h none o.op with
        | none => rw [hT] at hx'; cases hx'
        | some T =>
          rw [hT] at hx'
          simp only [forceL_eq] at hx'
          cases hq : step1S Γ M ih s.tm (restr (T.filter fun b => liveB s.h[b]?) 0 s.h) none o.op with
          | none => rw [hq] at hx'; cases hx'
          | some q =>
            rw [hq] at hx'
            dsimp only at hx'
            split at hx'
            · rename_i hl
              unfold stepT2 at hx'
              split at hx'
              · rename_i hall
                simp only [forceV_eq, forceHs_eq, putTS_eq] at hx'
                simp only [Option.bind_some, step1S_le hle hM hq]
                rw [if_pos (Nat.le_of_ble_eq_true hl)]
                obtain ⟨st, h1, h2⟩ := traceS_le hx'
                refine ⟨_, by rw [h1]; rfl, passed_cons h2 (fun r hr => List.mem_cons_of_mem _ hr) (fun r hr => .inr (.inr ?_)) (.inr ?_)⟩
                · have := List.all_eq_true.1 hall r hr
                  dsimp only; rw [hc]; exact this
                · dsimp only; rw [hc]; simp
              · cases hx'
            · cases hx'
    · rw [if_neg (by rw [hw]; decide)]
      rw [putTS_eq] at hx'
      have hslot : (match o.op.kind Γ with | 1 => Nat.succ slot | _ => slot) = if o.op.cls Γ = 1 then slot + 1 else slot := by
        split
        · rename_i h; rw [if_pos (kind1 h)]
        · rename_i h
          have : o.op.cls Γ ≠ 1 := fun hc => by
            by_cases h0 : o.op.kind Γ = 0
            · rw [kind0 h0] at hc; cases hc
            · rw [kind2 h0 h] at hc; cases hc
          rw [if_neg this]
      have hx2 : traceS Γ M ih l (i + 1) (if o.op.cls Γ = 1 then slot + 1 else slot) recs ⟨putT s.tm o.dst undef, s.h⟩ = some s' := by rw [← hslot]; exact hx'
      obtain ⟨st, h1, h2⟩ := traceS_le hx2
      exact ⟨_, by rw [h1]; rfl, passed_cons h2 (fun r hr => hr) (fun r hr => .inl rfl) (.inl (.inl rfl))⟩

omit hle hM in
theorem compats_of {st : List Step} : ∀ {i : Nat}, (∀ (p q : Nat) x y, p < q → st[p]? = some x → st[q]? = some y → compat Γ (i + p) x y = true) → compats Γ i st = true := by
  induction st with
  | nil => intro i _; rfl
  | cons z st ihs =>
    intro i h
    simp only [compats, Bool.and_eq_true, List.all_eq_true]
    refine ⟨fun y hy => ?_, ihs fun p q x y hpq hx hy => ?_⟩
    · obtain ⟨q, hq, rfl⟩ := List.getElem_of_mem hy
      exact h 0 (q + 1) z _ (by omega) rfl (by simp [hq])
    · have := h (p + 1) (q + 1) x y (by omega) (by simpa using hx) (by simpa using hy)
      rwa [← Nat.add_assoc, Nat.add_right_comm] at this

theorem stepCS_le : Le (stepCS Γ M ih) (stepC Γ ih') := fun c s r hx => by
  cases c with
  | region d l =>
    simp only [stepCS] at hx
    simp only [stepC]
    cases hq : runRegionS Γ M ih d l s with
    | none => rw [hq] at hx; cases hx
    | some q =>
      rw [hq] at hx
      have : runRegion Γ ih' d l s = some q := by
        unfold runRegionS at hq
        unfold runRegion
        cases d with
        | true =>
          simp only [forceL_eq, forceN_eq, slotsS_eq] at hq
          obtain ⟨st, h1, h2⟩ := traceS_le hle hM hq
          rw [if_pos rfl, h1]
          simp only [Option.bind_some]
          rw [if_pos (compats_of h2.new)]
        | false =>
          rw [if_neg (by decide)]
          exact runOpsS_le hle hM hq
      rw [this]
      exact hx
  | seq a b =>
    simp only [stepCS] at hx
    simp only [stepC]
    cases hq : ih a s with
    | none => rw [hq] at hx; cases hx
    | some q =>
      rw [hq] at hx
      rw [hle _ _ _ hq]
      obtain ⟨e, s1⟩ := q
      cases e <;> first | exact hle _ _ _ hx | exact hx
  | cond c x y =>
    simp only [stepCS, evS_eq] at hx
    simp only [stepC]
    cases hq : c.ev Γ s.tm with
    | none => rw [hq] at hx; cases hx
    | some v =>
      rw [hq] at hx
      cases v with
      | bool b => cases b <;> exact hle _ _ _ hx
      | _ => all_goals cases hx
  | block id b =>
    simp only [stepCS] at hx
    simp only [stepC]
    cases hq : ih b s with
    | none => rw [hq] at hx; cases hx
    | some q =>
      rw [hq] at hx
      rw [hle _ _ _ hq]
      obtain ⟨e, s1⟩ := q
      cases e with
      | exit i =>
        simp only [blockS] at hx
        simp only [Option.map_some]
        split at hx
        · rename_i hi; rw [if_pos (Nat.eq_of_beq_eq_true hi)]; exact hx
        · rename_i hi
          have : ¬ i = id := fun e => by rw [e, Nat.beq_refl] at hi; cases hi
          rw [if_neg this]; exact hx
      | _ => all_goals exact hx
  | loop b =>
    simp only [stepCS] at hx
    simp only [stepC]
    cases hq : ih b s with
    | none => rw [hq] at hx; cases hx
    | some q =>
      rw [hq] at hx
      rw [hle _ _ _ hq]
      obtain ⟨e, s1⟩ := q
      cases e <;> first | exact hle _ _ _ hx | exact hx
  | scope b cur =>
    simp only [stepCS] at hx
    simp only [stepC]
    cases hq : ih cur s with
    | none => rw [hq] at hx; cases hx
    | some q =>
      rw [hq] at hx
      rw [hle _ _ _ hq]
      obtain ⟨e, s1⟩ := q
      cases e with
      | goto l =>
        simp only [scopeS] at hx
        simp only [Option.bind_some]
        split at hx
        · rename_i hf; rw [hf]; exact hle _ _ _ hx
        · rename_i hf; rw [hf]; exact hx
      | _ => all_goals exact hx
  | _ => all_goals exact hx
end

section
variable {Γ : Env} {M : Memo}
/-- Told at some count of rounds. -/
def Tells (Γ : Env) (M : Memo) : Prop := ∃ n, MemoOK Γ M (run Γ n)

theorem runS_le {N : Nat} (hM : MemoOK Γ M (run Γ N)) : ∀ n, Le (runS Γ M n) (run Γ (N + n))
  | 0 => fun c s r hx => by cases hx
  | n + 1 => stepCS_le (runS_le hM n) (hM.mono (run_le (Nat.le_add_right _ _)))

theorem callS {f n : Nat} {a : List V} {h : Heap} {r : V × Heap} (hM : Tells Γ M) (hx : callRawS Γ (runS Γ M n) f a h = some r) : ∃ m, callRaw Γ (run Γ m) f a h = some r := by
  obtain ⟨N, hN⟩ := hM
  exact ⟨N + n, callRawS_le (runS_le hN n) hx⟩

theorem tells_none : Tells Γ (fun _ => []) := ⟨0, fun f a v h => by cases h⟩
/-- One more call is told. -/
def addM (M : Memo) (f : Nat) (a : List V) (v : V) : Memo := fun g => bif Nat.beq g f then (a, v) :: M g else M g
def snapS (r : Option (V × Heap)) : Option V := match r with
  | some r => snap r.2 deep r.1
  | none => none
theorem tells_add {f n : Nat} {a : List V} {v : V} (hM : Tells Γ M) (hx : snapS (callRawS Γ (runS Γ M n) f a []) = some v) : Tells Γ (addM M f a v) := by
  cases hq : callRawS Γ (runS Γ M n) f a [] with
  | none => rw [hq] at hx; cases hx
  | some r =>
    rw [hq] at hx
    obtain ⟨m, hm⟩ := callS hM hq
    obtain ⟨N, hN⟩ := hM
    refine ⟨max N m, fun g b u hu => ?_⟩
    unfold addM at hu
    have h1 : MemoOK Γ M (run Γ (max N m)) := hN.mono (run_le (Nat.le_max_left _ _))
    cases e : Nat.beq g f with
    | false => rw [e] at hu; exact h1 g b u hu
    | true =>
      rw [e] at hu
      have := Nat.eq_of_beq_eq_true e
      subst this
      rcases List.mem_cons.1 hu with hu | hu
      · obtain ⟨rfl, rfl⟩ := Prod.mk.inj hu
        exact ⟨r, callRaw_mono (run_le (Nat.le_max_right _ _)) hm, hx⟩
      · exact h1 g b u hu
end
end Am
