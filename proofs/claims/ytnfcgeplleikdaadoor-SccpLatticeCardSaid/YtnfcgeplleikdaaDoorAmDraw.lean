/- Regions that draw their order: every order leaves what the order of the text leaves. -/
import Derived.Test.YtnfcgeplleikdaaDoorAmRun
namespace Am
open Go (IntKind BinOp UnOp Obj Value World Addr Program TypeDesc TypeId Operand Act Sem Result Next FuncId Frame Item Arrives)

inductive StepOK (Γ : Env) (ih : Runs) (x : Step) : List V → Heap → Prop
  | skip : x.ran = false → wants x.tm x.op.guard = false → x.v = undef → StepOK Γ ih x (putT x.tm x.op.dst x.v) x.h
  | quiet {r : Heap} : x.ran = true → wants x.tm x.op.guard = true → x.op.op.cls Γ = 0 → step1 Γ ih x.tm (restrQ x.T x.h) none x.op.op = some (x.v, r) → StepOK Γ ih x (putT x.tm x.op.dst x.v) x.h
  | made {h' : Heap} : x.ran = true → wants x.tm x.op.guard = true → x.op.op.cls Γ = 1 → x.T = [x.slot] → opx Γ x.tm x.h (some x.slot) x.op.op = some (x.v, h') → StepOK Γ ih x (putT x.tm x.op.dst x.v) h'
  | write {T : List Nat} {h2 : Heap} : x.ran = true → wants x.tm x.op.guard = true → x.op.op.cls Γ = 2 → step1 Γ ih x.tm (restr T 0 x.h) none x.op.op = some (x.v, h2) → x.h.length ≤ h2.length →
      x.T = T ++ List.range' x.h.length (h2.length - x.h.length) → (∀ b ∈ T, liveB x.h[b]? = true) → StepOK Γ ih x (putT x.tm x.op.dst x.v) (merge T 0 x.h h2)

structure TraceOK (Γ : Env) (ih : Runs) (st : List Step) (tmA : Nat → List V) (hA : Nat → Heap) : Prop where
  step : ∀ (k : Nat) x, st[k]? = some x → x.tm = tmA k ∧ x.h = hA k ∧ StepOK Γ ih x (tmA (k + 1)) (hA (k + 1))
  apart : ∀ (i j : Nat) x y, i < j → st[i]? = some x → st[j]? = some y → i ∈ y.op.anc ∨ x.op.apart y.op = true
  comp : ∀ (i j : Nat) x y, i < j → st[i]? = some x → st[j]? = some y → compat Γ i x y = true
  slot : ∀ (i j : Nat) x y, i ≠ j → st[i]? = some x → st[j]? = some y → x.op.op.cls Γ = 1 → y.op.op.cls Γ = 1 → x.slot ≠ y.slot
  slotlt : ∀ (i : Nat) x, st[i]? = some x → x.op.op.cls Γ = 1 → x.slot < (hA 0).length

theorem cls_cases (Γ : Env) (o : Op) : o.cls Γ = 0 ∨ o.cls Γ = 1 ∨ o.cls Γ = 2 := by
  unfold Op.cls
  repeat' split
  all_goals simp

section
variable {Γ : Env} {ih : Runs} {st : List Step} {tmA : Nat → List V} {hA : Nat → Heap}

/-- Operation k writes or makes block b. -/
def Wr (Γ : Env) (st : List Step) (k b : Nat) : Prop := ∃ x, st[k]? = some x ∧ x.ran = true ∧ x.op.op.cls Γ ≠ 0 ∧ b ∈ x.T
def WrE (Γ : Env) (st : List Step) (k : Nat) : Prop := ∃ x, st[k]? = some x ∧ x.ran = true ∧ x.op.op.cls Γ = 2

theorem StepOK.tm {x : Step} {tm' : List V} {h' : Heap} (h : StepOK Γ ih x tm' h') : tm' = putT x.tm x.op.dst x.v := by cases h <;> rfl

theorem StepOK.frame {x : Step} {tm' : List V} {h' : Heap} (h : StepOK Γ ih x tm' h') (b : Nat) (hb : ¬ (x.ran = true ∧ x.op.op.cls Γ ≠ 0 ∧ b ∈ x.T)) : h'[b]? = x.h[b]? := by
  cases h with
  | skip => rfl
  | quiet => rfl
  | made h1 h2 h3 h4 h5 =>
    obtain ⟨g1, ob, rfl, _⟩ := opx_made h3 h5
    have : b ≠ x.slot := fun e => hb ⟨h1, by rw [h3]; decide, by rw [h4, e]; simp⟩
    rw [List.getElem?_set_ne (Ne.symm this)]
  | @write T h2 h1 h3 h4 h5 h6 h7 h8 =>
    have hb' : b ∉ x.T := fun hm => hb ⟨h1, by rw [h4]; decide, hm⟩
    rw [h7] at hb'
    simp only [List.mem_append, List.mem_range', not_or] at hb'
    rw [merge_get _ _ _ _ _ h6]
    split
    · rfl
    · rename_i hc
      have hge : x.h.length ≤ b := by
        rcases Nat.lt_or_ge b x.h.length with hl | hl
        · exact absurd ⟨hl, by simpa using hb'.1⟩ hc
        · exact hl
      have hge2 : h2.length ≤ b := by
        rcases Nat.lt_or_ge b h2.length with hl | hl
        · exact absurd ⟨b - x.h.length, by omega, by omega⟩ hb'.2
        · exact hl
      rw [List.getElem?_eq_none hge, List.getElem?_eq_none hge2]

theorem StepOK.len {x : Step} {tm' : List V} {h' : Heap} (h : StepOK Γ ih x tm' h') : x.h.length ≤ h'.length ∧ (¬ (x.ran = true ∧ x.op.op.cls Γ = 2) → h'.length = x.h.length) := by
  cases h with
  | skip => exact ⟨Nat.le_refl _, fun _ => rfl⟩
  | quiet => exact ⟨Nat.le_refl _, fun _ => rfl⟩
  | made h1 h2 h3 h4 h5 =>
    obtain ⟨g1, ob, rfl, _⟩ := opx_made h3 h5
    simp
  | write h1 h3 h4 h5 h6 h7 h8 =>
    rw [merge_length _ _ _ _ h6]
    exact ⟨h6, fun hn => absurd ⟨h1, h4⟩ hn⟩

variable (hT : TraceOK Γ ih st tmA hA)
include hT

theorem frames {b : Nat} {k m : Nat} (hk : k ≤ m) (hm : m ≤ st.length) (hn : ∀ i, k ≤ i → i < m → ¬ Wr Γ st i b) : (hA m)[b]? = (hA k)[b]? := by
  induction m with
  | zero => have : k = 0 := by omega
            subst this; rfl
  | succ m ihm =>
    rcases Nat.lt_or_ge m k with h | h
    · have : k = m + 1 := by omega
      subst this; rfl
    · obtain ⟨x, hx⟩ : ∃ x, st[m]? = some x := ⟨st[m], List.getElem?_eq_getElem (by omega)⟩
      obtain ⟨_, e2, hs⟩ := hT.step m x hx
      rw [hs.frame b (fun ⟨g1, g2, g3⟩ => hn m h (by omega) ⟨x, hx, g1, g2, g3⟩), e2]
      exact ihm h (by omega) fun i h1 h2 => hn i h1 (by omega)
theorem lens {k m : Nat} (hk : k ≤ m) (hm : m ≤ st.length) (hn : ∀ i, k ≤ i → i < m → ¬ WrE Γ st i) : (hA m).length = (hA k).length := by
  induction m with
  | zero => have : k = 0 := by omega
            subst this; rfl
  | succ m ihm =>
    rcases Nat.lt_or_ge m k with h | h
    · have : k = m + 1 := by omega
      subst this; rfl
    · obtain ⟨x, hx⟩ : ∃ x, st[m]? = some x := ⟨st[m], List.getElem?_eq_getElem (by omega)⟩
      obtain ⟨_, e2, hs⟩ := hT.step m x hx
      rw [hs.len.2 (fun ⟨g1, g2⟩ => hn m h (by omega) ⟨x, hx, g1, g2⟩), e2]
      exact ihm h (by omega) fun i h1 h2 => hn i h1 (by omega)
omit hT in
theorem putT_length {tm : List V} {d : Option Nat} {v : V} : (putT tm d v).length = tm.length := by cases d <;> simp [putT]
omit hT in
theorem putT_ne {tm : List V} {d : Option Nat} {v : V} {t : Nat} (h : d ≠ some t) : (putT tm d v)[t]? = tm[t]? := by
  cases d with
  | none => rfl
  | some d => rw [putT, List.getElem?_set_ne (fun e => h (by rw [e]))]
theorem tms {t : Nat} {k m : Nat} (hk : k ≤ m) (hm : m ≤ st.length) (hn : ∀ i x, k ≤ i → i < m → st[i]? = some x → x.op.dst ≠ some t) : (tmA m)[t]? = (tmA k)[t]? := by
  induction m with
  | zero => have : k = 0 := by omega
            subst this; rfl
  | succ m ihm =>
    rcases Nat.lt_or_ge m k with h | h
    · have : k = m + 1 := by omega
      subst this; rfl
    · obtain ⟨x, hx⟩ : ∃ x, st[m]? = some x := ⟨st[m], List.getElem?_eq_getElem (by omega)⟩
      obtain ⟨e1, _, hs⟩ := hT.step m x hx
      rw [hs.tm, putT_ne (hn m x h (by omega) hx), e1]
      exact ihm h (by omega) fun i x h1 h2 => hn i x h1 (by omega)
theorem tmlens {m : Nat} (hm : m ≤ st.length) : (tmA m).length = (tmA 0).length := by
  induction m with
  | zero => rfl
  | succ m ihm =>
    obtain ⟨x, hx⟩ : ∃ x, st[m]? = some x := ⟨st[m], List.getElem?_eq_getElem (by omega)⟩
    obtain ⟨e1, _, hs⟩ := hT.step m x hx
    rw [hs.tm, putT_length, e1]
    exact ihm (by omega)
end
end Am
