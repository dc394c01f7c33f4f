/- The machine without a count of rounds: what code runs to, by as many as it wants. -/
import Derived.Test.YtnfcgeplleikdaaDoorAmStrict2
namespace Am
noncomputable section
section
variable (Γ : Env)
open Classical in
def R : Runs := fun c s => if h : ∃ r n, run Γ n c s = some r then some h.choose else none
end
section
variable {Γ : Env}
theorem R_of {n : Nat} {c : Cd} {s : St} {r : Ex × St} (h : run Γ n c s = some r) : R Γ c s = some r := by
  have hx : ∃ r n, run Γ n c s = some r := ⟨r, n, h⟩
  unfold R
  rw [dif_pos hx]
  obtain ⟨m, hm⟩ := hx.choose_spec
  have h1 := run_le (Nat.le_max_left n m) _ _ _ h
  have h2 := run_le (Nat.le_max_right n m) _ _ _ hm
  rw [h1] at h2
  exact h2.symm
theorem R_some {c : Cd} {s : St} {r : Ex × St} (h : R Γ c s = some r) : ∃ n, run Γ n c s = some r := by
  unfold R at h
  split at h
  · rename_i hx
    obtain ⟨m, hm⟩ := hx.choose_spec
    injection h with h
    exact ⟨m, h ▸ hm⟩
  · cases h
theorem run_R (n : Nat) : Le (run Γ n) (R Γ) := fun _ _ _ h => R_of h

theorem callRaw_ct {f : Nat} {a : List V} {h : Heap} {r : V × Heap} (hx : callRaw Γ (R Γ) f a h = some r) : ∃ n, callRaw Γ (run Γ n) f a h = some r := by
  unfold callRaw at hx
  split at hx
  · rename_i hf
    simp only [Option.bind_eq_some_iff] at hx
    obtain ⟨q, hq, hx⟩ := hx
    obtain ⟨n, hn⟩ := R_some hq
    exact ⟨n, by simp only [callRaw, hf, Option.bind_eq_some_iff]; exact ⟨q, hn, hx⟩⟩
  · rename_i hf
    exact ⟨0, by simp only [callRaw, hf]; exact hx⟩
  · cases hx
theorem callF_ct {f : Nat} {a : List V} {h : Heap} {r : V × Heap} (hx : callF Γ (R Γ) f a h = some r) : ∃ n, callF Γ (run Γ n) f a h = some r := by
  unfold callF at hx
  split at hx
  · rename_i hm
    obtain ⟨n, hn⟩ := callRaw_ct hx
    exact ⟨n, by simp only [callF, hm]; exact hn⟩
  · rename_i hm
    split at hx
    · rename_i ha
      simp only [Option.bind_eq_some_iff] at hx
      obtain ⟨q, hq, hx⟩ := hx
      obtain ⟨n, hn⟩ := callRaw_ct hq
      exact ⟨n, by simp only [callF, hm, ha, Option.bind_eq_some_iff]; exact ⟨q, hn, hx⟩⟩
    · rename_i ha
      simp only [Option.bind_eq_some_iff] at hx
      obtain ⟨p, hp, q, hq, hx⟩ := hx
      obtain ⟨n, hn⟩ := callRaw_ct hq
      exact ⟨n, by simp only [callF, hm, ha, Option.bind_eq_some_iff]; exact ⟨p, hp, q, hn, hx⟩⟩
  · rename_i hm
    simp only [Option.bind_eq_some_iff] at hx
    obtain ⟨p, hp, q, hq, hx⟩ := hx
    obtain ⟨n, hn⟩ := callRaw_ct hq
    exact ⟨n, by simp only [callF, hm, Option.bind_eq_some_iff]; exact ⟨p, hp, q, hn, hx⟩⟩
theorem step1_ct {tm : List V} {h : Heap} {slot : Option Nat} {o : Op} {r : V × Heap} (hx : step1 Γ (R Γ) tm h slot o = some r) : ∃ n, step1 Γ (run Γ n) tm h slot o = some r := by
  cases o
  case call f args =>
    simp only [step1, Option.bind_eq_some_iff] at hx
    obtain ⟨q, hq, hx⟩ := hx
    obtain ⟨n, hn⟩ := callF_ct hx
    exact ⟨n, by simp only [step1, Option.bind_eq_some_iff]; exact ⟨q, hq, hn⟩⟩
  case callv x args =>
    simp only [step1, Option.bind_eq_some_iff] at hx
    obtain ⟨q, hq, hx⟩ := hx
    split at hx
    · simp only [Option.bind_eq_some_iff] at hx
      obtain ⟨p, hp, hx⟩ := hx
      obtain ⟨n, hn⟩ := callF_ct hx
      exact ⟨n, by simp only [step1, Option.bind_eq_some_iff]; exact ⟨_, hq, by simp only [Option.bind_eq_some_iff]; exact ⟨p, hp, hn⟩⟩⟩
    · cases hx
  all_goals exact ⟨0, hx⟩
theorem runOps_ct : ∀ {l : List Oper} {s s' : St}, runOps Γ (R Γ) l s = some s' → ∃ n, runOps Γ (run Γ n) l s = some s'
  | [], s, s', hx => ⟨0, hx⟩
  | o :: l, s, s', hx => by
    simp only [runOps] at hx
    split at hx
    · rename_i hw
      simp only [Option.bind_eq_some_iff] at hx
      obtain ⟨q, hq, hx⟩ := hx
      obtain ⟨n, hn⟩ := step1_ct hq
      obtain ⟨m, hm⟩ := runOps_ct hx
      refine ⟨max n m, ?_⟩
      simp only [runOps, if_pos hw, Option.bind_eq_some_iff]
      exact ⟨q, step1_mono (run_le (Nat.le_max_left n m)) hn, runOps_mono (run_le (Nat.le_max_right n m)) hm⟩
    · rename_i hw
      obtain ⟨m, hm⟩ := runOps_ct hx
      exact ⟨m, by simp only [runOps, if_neg hw]; exact hm⟩
theorem traceD_ct : ∀ {l : List Oper} {slot : Nat} {s : St} {r : List Step × St}, traceD Γ (R Γ) l slot s = some r → ∃ n, traceD Γ (run Γ n) l slot s = some r
  | [], slot, s, r, hx => ⟨0, hx⟩
  | o :: l, slot, s, r, hx => by
    simp only [traceD] at hx
    split at hx
    · rename_i hw
      split at hx <;> rename_i hc
      · simp only [Option.bind_eq_some_iff, Option.map_eq_some_iff] at hx
        obtain ⟨T, hT, q, hq, p, hp, hx⟩ := hx
        obtain ⟨n, hn⟩ := step1_ct hq
        obtain ⟨m, hm⟩ := traceD_ct hp
        refine ⟨max n m, ?_⟩
        simp only [traceD, if_pos hw, hc, Option.bind_eq_some_iff, Option.map_eq_some_iff]
        exact ⟨T, hT, q, step1_mono (run_le (Nat.le_max_left n m)) hn, p, traceD_mono (run_le (Nat.le_max_right n m)) hm, hx⟩
      · simp only [Option.bind_eq_some_iff, Option.map_eq_some_iff] at hx
        obtain ⟨q, hq, p, hp, hx⟩ := hx
        obtain ⟨m, hm⟩ := traceD_ct hp
        refine ⟨m, ?_⟩
        simp only [traceD, if_pos hw, hc, Option.bind_eq_some_iff, Option.map_eq_some_iff]
        exact ⟨q, hq, p, hm, hx⟩
      · simp only [Option.bind_eq_some_iff] at hx
        obtain ⟨T, hT, q, hq, hx⟩ := hx
        obtain ⟨n, hn⟩ := step1_ct hq
        split at hx
        · rename_i hl
          simp only [Option.map_eq_some_iff] at hx
          obtain ⟨p, hp, hx⟩ := hx
          obtain ⟨m, hm⟩ := traceD_ct hp
          refine ⟨max n m, ?_⟩
          simp only [traceD, if_pos hw]
          simp only [Option.bind_eq_some_iff]
          refine ⟨T, hT, q, step1_mono (run_le (Nat.le_max_left n m)) hn, ?_⟩
          rw [if_pos hl]
          simp only [Option.map_eq_some_iff]
          exact ⟨p, traceD_mono (run_le (Nat.le_max_right n m)) hm, hx⟩
        · cases hx
    · rename_i hw
      simp only [Option.map_eq_some_iff] at hx
      obtain ⟨p, hp, hx⟩ := hx
      obtain ⟨m, hm⟩ := traceD_ct hp
      exact ⟨m, by simp only [traceD, if_neg hw, Option.map_eq_some_iff]; exact ⟨p, hm, hx⟩⟩
theorem stepC_ct {c : Cd} {s : St} {r : Ex × St} (hx : stepC Γ (R Γ) c s = some r) : ∃ n, stepC Γ (run Γ n) c s = some r := by
  cases c with
  | region d l =>
    simp only [stepC, Option.map_eq_some_iff] at hx
    obtain ⟨q, hq, hx⟩ := hx
    unfold runRegion at hq
    split at hq
    · rename_i hd
      simp only [Option.bind_eq_some_iff] at hq
      obtain ⟨p, hp, hq⟩ := hq
      obtain ⟨n, hn⟩ := traceD_ct hp
      refine ⟨n, ?_⟩
      simp only [stepC, Option.map_eq_some_iff]
      refine ⟨q, ?_, hx⟩
      unfold runRegion
      rw [if_pos hd]
      simp only [Option.bind_eq_some_iff]
      exact ⟨p, hn, hq⟩
    · rename_i hd
      obtain ⟨n, hn⟩ := runOps_ct hq
      refine ⟨n, ?_⟩
      simp only [stepC, Option.map_eq_some_iff]
      refine ⟨q, ?_, hx⟩
      unfold runRegion
      rw [if_neg hd]
      exact hn
  | seq a b =>
    simp only [stepC, Option.bind_eq_some_iff] at hx
    obtain ⟨q, hq, hx⟩ := hx
    obtain ⟨n, hn⟩ := R_some hq
    obtain ⟨e, s1⟩ := q
    cases e
    case normal =>
      obtain ⟨m, hm⟩ := R_some hx
      refine ⟨max n m, ?_⟩
      simp only [stepC, Option.bind_eq_some_iff]
      exact ⟨_, run_le (Nat.le_max_left n m) _ _ _ hn, run_le (Nat.le_max_right n m) _ _ _ hm⟩
    all_goals exact ⟨n, by simp only [stepC, Option.bind_eq_some_iff]; exact ⟨_, hn, hx⟩⟩
  | cond c x y =>
    simp only [stepC, Option.bind_eq_some_iff] at hx
    obtain ⟨q, hq, hx⟩ := hx
    split at hx
    · obtain ⟨n, hn⟩ := R_some hx
      exact ⟨n, by simp only [stepC, Option.bind_eq_some_iff]; exact ⟨_, hq, hn⟩⟩
    · obtain ⟨n, hn⟩ := R_some hx
      exact ⟨n, by simp only [stepC, Option.bind_eq_some_iff]; exact ⟨_, hq, hn⟩⟩
    · cases hx
  | block id b =>
    simp only [stepC, Option.map_eq_some_iff] at hx
    obtain ⟨q, hq, hx⟩ := hx
    obtain ⟨n, hn⟩ := R_some hq
    exact ⟨n, by simp only [stepC, Option.map_eq_some_iff]; exact ⟨q, hn, hx⟩⟩
  | loop b =>
    simp only [stepC, Option.bind_eq_some_iff] at hx
    obtain ⟨q, hq, hx⟩ := hx
    obtain ⟨n, hn⟩ := R_some hq
    obtain ⟨e, s1⟩ := q
    cases e
    case normal =>
      obtain ⟨m, hm⟩ := R_some hx
      refine ⟨max n m, ?_⟩
      simp only [stepC, Option.bind_eq_some_iff]
      exact ⟨_, run_le (Nat.le_max_left n m) _ _ _ hn, run_le (Nat.le_max_right n m) _ _ _ hm⟩
    all_goals exact ⟨n, by simp only [stepC, Option.bind_eq_some_iff]; exact ⟨_, hn, hx⟩⟩
  | scope b cur =>
    simp only [stepC, Option.bind_eq_some_iff] at hx
    obtain ⟨q, hq, hx⟩ := hx
    obtain ⟨n, hn⟩ := R_some hq
    obtain ⟨e, s1⟩ := q
    cases e
    case goto l =>
      dsimp only at hx
      split at hx
      · rename_i rest hl
        obtain ⟨m, hm⟩ := R_some hx
        refine ⟨max n m, ?_⟩
        simp only [stepC, Option.bind_eq_some_iff]
        refine ⟨_, run_le (Nat.le_max_left n m) _ _ _ hn, ?_⟩
        dsimp only
        rw [hl]
        exact run_le (Nat.le_max_right n m) _ _ _ hm
      · rename_i hl
        refine ⟨n, ?_⟩
        simp only [stepC, Option.bind_eq_some_iff]
        refine ⟨_, hn, ?_⟩
        dsimp only
        rw [hl]
        exact hx
    all_goals exact ⟨n, by simp only [stepC, Option.bind_eq_some_iff]; exact ⟨_, hn, hx⟩⟩
  | _ => all_goals exact ⟨0, hx⟩

/-- WHAT CODE RUNS TO, ONE STEP UNFOLDED. -/
theorem R_eq (c : Cd) (s : St) : R Γ c s = stepC Γ (R Γ) c s := by
  cases hx : stepC Γ (R Γ) c s with
  | some r => obtain ⟨n, hn⟩ := stepC_ct hx; exact R_of (n := n + 1) hn
  | none =>
    cases hy : R Γ c s with
    | none => rfl
    | some r =>
      obtain ⟨n, hn⟩ := R_some hy
      cases n with
      | zero => cases hn
      | succ n => have := stepC_mono (run_R n) _ _ _ hn; rw [hx] at this; cases this
end
end
end Am
