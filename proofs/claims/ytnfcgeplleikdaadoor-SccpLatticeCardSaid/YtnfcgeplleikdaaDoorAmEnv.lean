/- An environment out of a tree of functions. -/
import Derived.Test.YtnfcgeplleikdaaDoorAmTab
import Derived.Laws.Externs
import Derived.KernelRfl
namespace Am
open Go (IntKind BinOp UnOp Obj Value World Addr Program TypeDesc TypeId Operand Act Sem Result Next FuncId)

inductive Tr (α : Type) where
  | leaf
  | node (k : Nat) (a : α) (l r : Tr α)
def Tr.get {α : Type} (t : Tr α) (n : Nat) : Option α := match t with
  | .leaf => none
  | .node k a l r => bif Nat.beq n k then some a else bif Nat.blt n k then l.get n else r.get n
def Tr.All {α : Type} (p : Nat → α → Prop) : Tr α → Prop
  | .leaf => True
  | .node k a l r => p k a ∧ l.All p ∧ r.All p
theorem Tr.get_all {α : Type} {p : Nat → α → Prop} : ∀ {t : Tr α} {n : Nat} {a : α}, t.All p → t.get n = some a → p n a
  | .leaf, n, a, _, h => by cases h
  | .node k b l r, n, a, ha, h => by
    obtain ⟨h1, h2, h3⟩ := ha
    unfold Tr.get at h
    cases e : Nat.beq n k with
    | true =>
      rw [e] at h
      have := Nat.eq_of_beq_eq_true e
      simp at h; subst h; subst this; exact h1
    | false =>
      rw [e] at h
      simp only [cond_false] at h
      cases e2 : Nat.blt n k with
      | true => rw [e2] at h; exact Tr.get_all h2 h
      | false => rw [e2] at h; exact Tr.get_all h3 h

def ba (l : List Nat) : ByteArray := ⟨(l.map UInt8.ofNat).toArray⟩
def sc (b : Cd) : Cd := .scope b b

def RowOK (P : Program) (f : Nat) : Fn → Prop
  | .code nt res body => ∃ fn, P.funcs[f]? = some fn ∧ (fn.name == "runtime.NumGoroutine") = false ∧ compF id (tabOf P id) fn = some (.code nt res body)
  | .ext k => ∃ fn, P.funcs[f]? = some fn ∧ (fn.name == "runtime.NumGoroutine") = false ∧ fn.body.isNone = true ∧ Go.Extern.findNext fn = none ∧ match k with
    | 0 => Go.Extern.find fn = some Go.Extern.MathFloatBits.float64frombits
    | 1 => Go.Extern.find fn = some Go.Extern.MathFloatBits.float64bits
    | _ => False

theorem env_ok {P : Program} {codes : Tr Fn} {mode : Nat → Mode} {glob : Nat → Option (List V)} (h : codes.All (RowOK P)) (hm : P.follows .mixedOrders = true) : EnvOK ⟨codes.get, mode, glob⟩ P id (tabOf P id) where
  tab := tabOf_ok
  code f nt res body hf := by
    obtain ⟨fn, h1, h2, h3⟩ := Tr.get_all h hf
    unfold compF at h3
    split at h3
    · rename_i c hc
      simp only [Option.bind_eq_some_iff, Option.map_eq_some_iff] at h3
      obtain ⟨body', hb, res', hr, he⟩ := h3
      injection he with e1 e2 e3
      subst e1; subst e2; subst e3
      exact ⟨fn, c, h1, hc, h2, rfl, hb, hr⟩
    · repeat' (split at h3)
      all_goals cases h3
  ext f k hf I ι args v args' w hv hl := by
    obtain ⟨fn, h1, h2, h3, h4, h5⟩ := Tr.get_all h hf
    unfold extV at hv
    split at hv
    · rename_i n
      injection hv with hv; subst hv
      have h6 := Go.run_callFunc_extern (f := f) h1 h2 h3 h4 h5 args' w
      obtain ⟨y, ys, he, hy, hys⟩ := hl.cons_inv
      have : ys = [] := by have := hys.1; cases ys with
        | nil => rfl
        | cons => simp at this
      subst this
      have he' : args' = #[y] := by apply Array.ext'; simpa using he
      subst he'
      cases hy
      exact ⟨_, h6.trans rfl, .flt _⟩
    · rename_i b
      injection hv with hv; subst hv
      have h6 := Go.run_callFunc_extern (f := f) h1 h2 h3 h4 h5 args' w
      obtain ⟨y, ys, he, hy, hys⟩ := hl.cons_inv
      have : ys = [] := by have := hys.1; cases ys with
        | nil => rfl
        | cons => simp at this
      subst this
      have he' : args' = #[y] := by apply Array.ext'; simpa using he
      subst he'
      cases hy
      exact ⟨_, h6.trans rfl, .int _ _⟩
    · cases hv
  mixed := hm
end Am
