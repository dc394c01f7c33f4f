/- A closed call, proved piece by piece. -/
import Derived.Test.YtnfcgeplleikdaaDoorAmStrict3
import Derived.Test.YtnfcgeplleikdaaDoorAmEqn
namespace Am
section
variable {Γ : Env} {M : Memo} {s s1 : St} {r : Option (Ex × St)} {e : Ex}
theorem R_strict {n : Nat} {c : Cd} {q : Ex × St} (hM : Tells Γ M) (hx : runS Γ M n c s = some q) : R Γ c s = some q := by
  obtain ⟨N, hN⟩ := hM
  exact R_of (runS_le hN n _ _ _ hx)
theorem R_seq_of {a b : Cd} (ha : R Γ a s = some (.normal, s1)) (hb : R Γ b s1 = r) : R Γ (.seq a b) s = r := by rw [R_seq, ha]; exact hb
theorem R_seq_out {a b : Cd} (ha : R Γ a s = some (e, s1)) (he : e ≠ .normal) : R Γ (.seq a b) s = some (e, s1) := by
  rw [R_seq, ha]
  cases e with
  | normal => exact absurd rfl he
  | _ => all_goals rfl
theorem R_cond_true {c : Opd} {x y : Cd} (hc : c.ev Γ s.tm = some (.bool true)) (hx : R Γ x s = r) : R Γ (.cond c x y) s = r := by rw [R_cond, hc]; exact hx
theorem R_cond_false {c : Opd} {x y : Cd} (hc : c.ev Γ s.tm = some (.bool false)) (hx : R Γ y s = r) : R Γ (.cond c x y) s = r := by rw [R_cond, hc]; exact hx
theorem R_block_of {id : Nat} {b : Cd} {r' : Option (Ex × St)} (hb : R Γ b s = r) (he : leave id r = r') : R Γ (.block id b) s = r' := by rw [R_block, hb, he]
theorem R_loop_step {b : Cd} (hb : R Γ b s = some (.normal, s1)) (hl : R Γ (.loop b) s1 = r) : R Γ (.loop b) s = r := by rw [R_loop, hb]; exact hl
theorem R_loop_out {b : Cd} (hb : R Γ b s = some (e, s1)) (he : e ≠ .normal) : R Γ (.loop b) s = some (e, s1) := by
  rw [R_loop, hb]
  cases e with
  | normal => exact absurd rfl he
  | _ => all_goals rfl
def endR (res : List Res) (r : Ex × St) : Option (V × Heap) := match r with
  | (.normal, s) => (mapO (resOf s) res).map fun vs => (oneOf vs, s.h)
  | (.ret, s) => (mapO (resOf s) res).map fun vs => (oneOf vs, s.h)
  | _ => none
theorem snapR_of {f nt : Nat} {res : List Res} {body : Cd} {args : List V} {v : V} {s0 : St} (hf : Γ.fn f = some (.code nt res body)) (h0 : ⟨args ++ List.replicate (nt - args.length) undef, []⟩ = s0)
    (hb : R Γ body s0 = some (e, s1)) (hv : snapS (endR res (e, s1)) = some v) : snapS (callRaw Γ (R Γ) f args []) = some v := by
  subst h0
  unfold callRaw
  rw [hf]
  dsimp only
  rw [hb]
  exact hv
theorem tells_addR {f : Nat} {a : List V} {v : V} (hM : Tells Γ M) (hx : snapS (callRaw Γ (R Γ) f a []) = some v) : Tells Γ (addM M f a v) := by
  cases hq : callRaw Γ (R Γ) f a [] with
  | none => rw [hq] at hx; cases hx
  | some r =>
    rw [hq] at hx
    obtain ⟨m, hm⟩ := callRaw_ct hq
    obtain ⟨N, hN⟩ := hM
    refine ⟨max N m, fun g b u hu => ?_⟩
    unfold addM at hu
    have h1 : MemoOK Γ M (run Γ (max N m)) := hN.mono (run_le (Nat.le_max_left _ _))
    cases e : Nat.beq g f with
    | false => rw [e] at hu; exact h1 g b u hu
    | true =>
      rw [e] at hu
      have := Nat.eq_of_beq_eq_true e
      subst this
      rcases List.mem_cons.1 hu with hu | hu
      · obtain ⟨rfl, rfl⟩ := Prod.mk.inj hu
        exact ⟨r, callRaw_mono (run_le (Nat.le_max_right _ _)) hm, hx⟩
      · exact h1 g b u hu
end
end Am
