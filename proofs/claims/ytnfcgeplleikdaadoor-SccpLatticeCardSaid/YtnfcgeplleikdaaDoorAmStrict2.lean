/- The strict machine says what the machine says. -/
import Derived.Test.YtnfcgeplleikdaaDoorAmStrict
namespace Am
open Go (IntKind BinOp UnOp)

def Le (a b : Runs) : Prop := ∀ c s r, a c s = some r → b c s = some r

section
variable {Γ : Env} {M : Memo} {ih ih' : Runs}

/-! ### More rounds answer the same -/
theorem callRaw_mono (hle : Le ih ih') {f : Nat} {a : List V} {h : Heap} {r : V × Heap} (hx : callRaw Γ ih f a h = some r) : callRaw Γ ih' f a h = some r := by
  unfold callRaw at hx ⊢
  split at hx
  · rename_i hf
    simp only [Option.bind_eq_some_iff] at hx ⊢
    obtain ⟨q, hq, hx⟩ := hx
    exact ⟨q, hle _ _ _ hq, hx⟩
  · exact hx
  · cases hx
theorem callF_mono (hle : Le ih ih') {f : Nat} {a : List V} {h : Heap} {r : V × Heap} (hx : callF Γ ih f a h = some r) : callF Γ ih' f a h = some r := by
  unfold callF at hx ⊢
  split at hx
  · exact callRaw_mono hle hx
  · split at hx
    · rename_i ha
      simp only [ha, Option.bind_eq_some_iff] at hx ⊢
      obtain ⟨q, hq, hx⟩ := hx
      exact ⟨q, callRaw_mono hle hq, hx⟩
    · rename_i ha
      simp only [ha, Option.bind_eq_some_iff] at hx ⊢
      obtain ⟨p, hp, q, hq, hx⟩ := hx
      exact ⟨p, hp, q, callRaw_mono hle hq, hx⟩
  · simp only [Option.bind_eq_some_iff] at hx ⊢
    obtain ⟨p, hp, q, hq, hx⟩ := hx
    exact ⟨p, hp, q, callRaw_mono hle hq, hx⟩
theorem step1_mono (hle : Le ih ih') {tm : List V} {h : Heap} {slot : Option Nat} {o : Op} {r : V × Heap} (hx : step1 Γ ih tm h slot o = some r) : step1 Γ ih' tm h slot o = some r := by
  cases o
  case call f args =>
    simp only [step1, Option.bind_eq_some_iff] at hx ⊢
    obtain ⟨q, hq, hx⟩ := hx
    exact ⟨q, hq, callF_mono hle hx⟩
  case callv x args =>
    simp only [step1, Option.bind_eq_some_iff] at hx ⊢
    obtain ⟨q, hq, hx⟩ := hx
    refine ⟨q, hq, ?_⟩
    split at hx
    · simp only [Option.bind_eq_some_iff] at hx ⊢
      obtain ⟨q, hq, hx⟩ := hx
      exact ⟨q, hq, callF_mono hle hx⟩
    · cases hx
  all_goals exact hx
theorem runOps_mono (hle : Le ih ih') : ∀ {l : List Oper} {s s' : St}, runOps Γ ih l s = some s' → runOps Γ ih' l s = some s'
  | [], s, s', hx => hx
  | o :: l, s, s', hx => by
    simp only [runOps] at hx ⊢
    split at hx
    · rename_i hw
      rw [if_pos hw]
      simp only [Option.bind_eq_some_iff] at hx ⊢
      obtain ⟨q, hq, hx⟩ := hx
      exact ⟨q, step1_mono hle hq, runOps_mono hle hx⟩
    · rename_i hw
      rw [if_neg hw]
      exact runOps_mono hle hx
theorem traceD_mono (hle : Le ih ih') : ∀ {l : List Oper} {slot : Nat} {s : St} {r : List Step × St}, traceD Γ ih l slot s = some r → traceD Γ ih' l slot s = some r
  | [], slot, s, r, hx => hx
  | o :: l, slot, s, r, hx => by
    simp only [traceD] at hx ⊢
    split at hx
    · rename_i hw
      rw [if_pos hw]
      split at hx <;> rename_i hc
      · simp only [hc, Option.bind_eq_some_iff, Option.map_eq_some_iff] at hx ⊢
        obtain ⟨T, hT, q, hq, p, hp, hx⟩ := hx
        exact ⟨T, hT, q, step1_mono hle hq, p, traceD_mono hle hp, hx⟩
      · simp only [hc, Option.bind_eq_some_iff, Option.map_eq_some_iff] at hx ⊢
        obtain ⟨q, hq, p, hp, hx⟩ := hx
        exact ⟨q, hq, p, traceD_mono hle hp, hx⟩
      · rename_i hc2
        · simp only [Option.bind_eq_some_iff] at hx ⊢
          obtain ⟨T, hT, q, hq, hx⟩ := hx
          refine ⟨T, hT, q, step1_mono hle hq, ?_⟩
          split at hx
          · rename_i hl
            rw [if_pos hl]
            simp only [Option.map_eq_some_iff] at hx ⊢
            obtain ⟨p, hp, hx⟩ := hx
            exact ⟨p, traceD_mono hle hp, hx⟩
          · cases hx
    · rename_i hw
      rw [if_neg hw]
      simp only [Option.map_eq_some_iff] at hx ⊢
      obtain ⟨p, hp, hx⟩ := hx
      exact ⟨p, traceD_mono hle hp, hx⟩
theorem stepC_mono (hle : Le ih ih') : Le (stepC Γ ih) (stepC Γ ih') := fun c s r hx => by
  cases c with
  | region d l =>
    simp only [stepC, Option.map_eq_some_iff] at hx ⊢
    obtain ⟨q, hq, hx⟩ := hx
    refine ⟨q, ?_, hx⟩
    unfold runRegion at hq ⊢
    split at hq
    · rename_i hd
      rw [if_pos hd]
      simp only [Option.bind_eq_some_iff] at hq ⊢
      obtain ⟨p, hp, hq⟩ := hq
      exact ⟨p, traceD_mono hle hp, hq⟩
    · rename_i hd
      rw [if_neg hd]
      exact runOps_mono hle hq
  | seq a b =>
    simp only [stepC, Option.bind_eq_some_iff] at hx ⊢
    obtain ⟨q, hq, hx⟩ := hx
    refine ⟨q, hle _ _ _ hq, ?_⟩
    obtain ⟨e, s1⟩ := q
    cases e <;> first | exact hle _ _ _ hx | exact hx
  | cond c x y =>
    simp only [stepC, Option.bind_eq_some_iff] at hx ⊢
    obtain ⟨q, hq, hx⟩ := hx
    refine ⟨q, hq, ?_⟩
    split at hx
    · exact hle _ _ _ hx
    · exact hle _ _ _ hx
    · cases hx
  | block id b =>
    simp only [stepC, Option.map_eq_some_iff] at hx ⊢
    obtain ⟨q, hq, hx⟩ := hx
    exact ⟨q, hle _ _ _ hq, hx⟩
  | loop b =>
    simp only [stepC, Option.bind_eq_some_iff] at hx ⊢
    obtain ⟨q, hq, hx⟩ := hx
    refine ⟨q, hle _ _ _ hq, ?_⟩
    obtain ⟨e, s1⟩ := q
    cases e <;> first | exact hle _ _ _ hx | exact hx
  | scope b cur =>
    simp only [stepC, Option.bind_eq_some_iff] at hx ⊢
    obtain ⟨q, hq, hx⟩ := hx
    refine ⟨q, hle _ _ _ hq, ?_⟩
    obtain ⟨e, s1⟩ := q
    cases e with
    | goto l =>
      dsimp only at hx ⊢
      split at hx
      · exact hle _ _ _ hx
      · exact hx
    | _ => all_goals exact hx
  | _ => all_goals exact hx
theorem run_succ : ∀ n, Le (run Γ n) (run Γ (n + 1))
  | 0 => fun c s r hx => by cases hx
  | n + 1 => stepC_mono (run_succ n)
theorem run_le {n m : Nat} (h : n ≤ m) : Le (run Γ n) (run Γ m) := by
  induction h with
  | refl => exact fun _ _ _ h => h
  | step _ ih => exact fun c s r hx => run_succ _ c s r (ih c s r hx)

/-! ### Memo -/
theorem eqVl_sound {f : V → V → Bool} (hf : ∀ a b, f a b = true → a = b) : ∀ {xs ys : List V}, eqVl f xs ys = true → xs = ys
  | [], [], _ => rfl
  | [], _ :: _, h => by cases h
  | _ :: _, [], h => by cases h
  | x :: xs, y :: ys, h => by
    have h : (f x y && eqVl f xs ys) = true := h
    simp only [Bool.and_eq_true] at h
    rw [hf _ _ h.1, eqVl_sound hf h.2]
theorem eqVll_sound {f : V → V → Bool} (hf : ∀ a b, f a b = true → a = b) : ∀ {xs ys : List (List V)}, eqVll f xs ys = true → xs = ys
  | [], [], _ => rfl
  | [], _ :: _, h => by cases h
  | _ :: _, [], h => by cases h
  | x :: xs, y :: ys, h => by
    have h : (eqVl f x y && eqVll f xs ys) = true := h
    simp only [Bool.and_eq_true] at h
    rw [eqVl_sound hf h.1, eqVll_sound hf h.2]
theorem eqBy_sound : ∀ {xs ys : List UInt8}, eqBy xs ys = true → xs = ys
  | [], [], _ => rfl
  | [], _ :: _, h => by cases h
  | _ :: _, [], h => by cases h
  | x :: xs, y :: ys, h => by
    have h : (Nat.beq x.toNat y.toNat && eqBy xs ys) = true := h
    simp only [Bool.and_eq_true] at h
    rw [UInt8.toNat_inj.1 (Nat.eq_of_beq_eq_true h.1), eqBy_sound h.2]
theorem eqI_sound {a b : Int} (h : eqI a b = true) : a = b := by
  cases a <;> cases b <;> simp only [eqI] at h
  · rw [Nat.eq_of_beq_eq_true h]
  · cases h
  · cases h
  · rw [Nat.eq_of_beq_eq_true h]
theorem eqV_sound (n : Nat) : ∀ (a b : V), eqV n a b = true → a = b := by
  induction n with
  | zero => intro a b h; cases h
  | succ n ih =>
    intro a b h0
    have h : eqV1 (eqV n) a b = true := h0
    clear h0
    cases a <;> simp only [eqV1] at h
    case int k x =>
      cases b <;> simp only [eqInt, Bool.false_eq_true] at h
      simp only [Bool.and_eq_true, decide_eq_true_eq] at h
      rw [h.1, eqI_sound h.2]
    case bool x =>
      cases b <;> simp only [eqBool, Bool.false_eq_true] at h
      rw [eq_of_beq h]
    case flt x =>
      cases b <;> simp only [eqFlt, Bool.false_eq_true] at h
      rw [Nat.eq_of_beq_eq_true h]
    case str x =>
      have key : ∀ y : ByteArray, eqBy x.data.toList y.data.toList = true → x = y := fun y h => by
        have h := eqBy_sound h
        rw [Array.toList_inj] at h
        cases x; cases y
        simp only at h
        rw [h]
      cases b <;> simp only [eqStr, Bool.false_eq_true] at h
      rw [key _ h]
    case ps z x =>
      cases b <;> simp only [eqPs, Bool.false_eq_true] at h
      simp only [Bool.and_eq_true] at h
      rw [Nat.eq_of_beq_eq_true h.1, eqVll_sound ih h.2]
    case agg x =>
      cases b <;> simp only [eqAgg, Bool.false_eq_true] at h
      rw [eqVl_sound ih h]
    case tup x =>
      cases b <;> simp only [eqTup, Bool.false_eq_true] at h
      rw [eqVl_sound ih h]
    case pp x o =>
      cases b <;> simp only [eqPp, Bool.false_eq_true] at h
      simp only [Bool.and_eq_true] at h
      rw [Nat.eq_of_beq_eq_true h.2, eqVl_sound ih h.1]
    case nils => cases b <;> first | rfl | cases h
    case nilp => cases b <;> first | rfl | cases h
    all_goals cases h

/-- What the memo says is so. -/
def MemoOK (Γ : Env) (M : Memo) (ih : Runs) : Prop := ∀ f a v, (a, v) ∈ M f → ∃ r, callRaw Γ ih f a [] = some r ∧ snap r.2 deep r.1 = some v
theorem MemoOK.mono (hle : Le ih ih') (h : MemoOK Γ M ih) : MemoOK Γ M ih' := fun f a v hm => by
  obtain ⟨r, h1, h2⟩ := h f a v hm
  exact ⟨r, callRaw_mono hle h1, h2⟩
theorem lookM_sound {a : List V} {v : V} : ∀ {es : List (List V × V)}, lookM a es = some v → (a, v) ∈ es
  | [], h => by cases h
  | e :: es, h => by
    simp only [lookM] at h
    split at h
    · rename_i he
      injection h with h; subst h
      rw [eqVl_sound (eqV_sound deep) he]; simp
    · exact List.mem_cons_of_mem _ (lookM_sound h)

/-! ### The strict machine -/
variable (hle : Le ih ih') (hM : MemoOK Γ M ih')
include hle

theorem callRawS_le {f : Nat} {a : List V} {h : Heap} {r : V × Heap} (hx : callRawS Γ ih f a h = some r) : callRaw Γ ih' f a h = some r := by
  unfold callRawS at hx
  split at hx
  · rename_i F hF
    unfold callRaw
    rw [hF]
    cases F with
    | ext k => exact hx
    | code nt res body =>
      simp only [bodyS, enterS, forceL_eq] at hx
      cases hq : ih body ⟨a ++ List.replicate (nt - a.length) undef, h⟩ with
      | none => rw [hq] at hx; cases hx
      | some q =>
        rw [hq] at hx
        dsimp only
        rw [hle _ _ _ hq]
        obtain ⟨e, s⟩ := q
        cases e <;> simp only [leftS, endS, reduceCtorEq] at hx <;> first | exact hx | cases hx
  · cases hx

include hM
theorem callFS_le {f : Nat} {a : List V} {h : Heap} {r : V × Heap} (hx : callFS Γ M ih f a h = some r) : callF Γ ih' f a h = some r := by
  unfold callFS at hx
  unfold callF
  split at hx <;> rename_i hm
  · rw [hm]; exact callRawS_le hle hx
  · rw [hm]
    dsimp only
    unfold freshS at hx
    split at hx
    · rename_i a1 ha
      simp only [ha]
      unfold knownS at hx
      split at hx
      · rename_i v hv
        injection hx with hx; subst hx
        obtain ⟨q, h1, h2⟩ := hM _ _ _ (lookM_sound hv)
        simp [h1, h2]
      · simp only [cleanS, Option.bind_eq_some_iff] at hx ⊢
        obtain ⟨q, hq, hx⟩ := hx
        exact ⟨q, callRawS_le hle hq, hx⟩
    · rename_i ha
      simp only [ha]
      simp only [dirtyS, Option.bind_eq_some_iff] at hx ⊢
      obtain ⟨p, hp, q, hq, hx⟩ := hx
      exact ⟨p, hp, q, callRawS_le hle hq, hx⟩
  · rw [hm]
    simp only [ownS, Option.bind_eq_some_iff] at hx ⊢
    obtain ⟨p, hp, q, hq, hx⟩ := hx
    exact ⟨p, hp, q, callRawS_le hle hq, hx⟩

theorem step1S_le {tm : List V} {h : Heap} {slot : Option Nat} {o : Op} {r : V × Heap} (hx : step1S Γ M ih tm h slot o = some r) : step1 Γ ih' tm h slot o = some r := by
  cases o
  case call f args =>
    simp only [step1S, callOpS, evsS_eq, Option.bind_eq_some_iff] at hx
    simp only [step1, Option.bind_eq_some_iff]
    obtain ⟨q, hq, hx⟩ := hx
    exact ⟨q, hq, callFS_le hle hM hx⟩
  case callv x args =>
    simp only [step1S, callvS, evS_eq, evsS_eq, Option.bind_eq_some_iff] at hx
    simp only [step1, Option.bind_eq_some_iff]
    obtain ⟨q, hq, hx⟩ := hx
    refine ⟨q, hq, ?_⟩
    split at hx
    · simp only [Option.bind_eq_some_iff] at hx ⊢
      obtain ⟨q, hq, hx⟩ := hx
      exact ⟨q, hq, callFS_le hle hM hx⟩
    · cases hx
  all_goals
    simp only [step1S, opxS_eq] at hx
    exact hx

theorem runOpsS_le : ∀ {l : List Oper} {s s' : St}, runOpsS Γ M ih l s = some s' → runOps Γ ih' l s = some s'
  | [], s, s', hx => hx
  | o :: l, s, s', hx => by
    have hx' : stepO Γ M ih (runOpsS Γ M ih l) o s = some s' := hx
    unfold stepO at hx'
    rw [wantsS_eq] at hx'
    simp only [runOps]
    split at hx' <;> rename_i hw
    · rw [if_pos hw]
      cases hq : step1S Γ M ih s.tm s.h none o.op with
      | none => rw [hq] at hx'; cases hx'
      | some q =>
        rw [hq] at hx'
        simp only [stepO2, forceV_eq] at hx'
        rw [step1S_le hle hM hq]
        simp only [Option.bind_some]
        unfold stepO3 at hx'
        split at hx' <;> simp only [forceHs_eq, putTS_eq] at hx' <;> exact runOpsS_le hx'
    · rw [if_neg (by rw [hw]; decide)]
      rw [putTS_eq] at hx'
      exact runOpsS_le hx'
omit hle hM

theorem kind0 {o : Op} (h : o.kind Γ = 0) : o.cls Γ = 0 := by
  cases o <;> simp only [Op.kind, Op.cls, reduceCtorEq] at h ⊢ <;> first | (cases h; done) | (split at h <;> simp_all) | rfl
theorem kind1 {o : Op} (h : o.kind Γ = 1) : o.cls Γ = 1 := by
  cases o <;> simp only [Op.kind, Op.cls, reduceCtorEq] at h ⊢ <;> first | (cases h; done) | (split at h <;> simp_all) | rfl
theorem kind2 {o : Op} (h0 : o.kind Γ ≠ 0) (h1 : o.kind Γ ≠ 1) : o.cls Γ = 2 := by
  cases o <;> simp only [Op.kind, Op.cls, ne_eq, not_true_eq_false] at h0 h1 ⊢ <;> first | (exact absurd rfl h0) | (exact absurd rfl h1) | (split at h0 <;> simp_all) | rfl
theorem slotsS_eq : ∀ l, slotsS Γ l = slots Γ l
  | [] => rfl
  | o :: l => by
    rw [slots_cons, ← slotsS_eq l]
    show (match o.op.kind Γ with | 1 => Nat.succ (slotsS Γ l) | _ => slotsS Γ l) = _
    split
    · rename_i h; rw [if_pos (kind1 h)]; show slotsS Γ l + 1 = _; omega
    · rename_i h
      have : o.op.cls Γ ≠ 1 := fun hc => by
        by_cases h0 : o.op.kind Γ = 0
        · rw [kind0 h0] at hc; cases hc
        · rw [kind2 h0 h] at hc; cases hc
      rw [if_neg this]; omega
end
end Am
