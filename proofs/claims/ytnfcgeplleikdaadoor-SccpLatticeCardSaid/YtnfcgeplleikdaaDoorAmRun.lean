/- One operation; regions in the order of the text. -/
import Derived.Test.YtnfcgeplleikdaaDoorAmCall
namespace Am
open Go (IntKind BinOp UnOp Obj Value World Addr Program TypeDesc TypeId Operand Act Sem Result Next FuncId Frame Item Arrives)
section
variable {P : Program} {N : Nat → Nat} {tb : TypeId → Option TI} {Γ : Env} {I I' I₁ : Imm} {ι ι' ι₁ : Emb} {h h' h₁ : Heap} {w w' w₁ : World} {tm : List V} {a : Act} {slot : Option Nat} {ih : Runs}

theorem execOp_func {o : Go.Oper} {f : FuncId} {as : Array Operand} {ats : Array TypeId} (hop : o.op = .call { callee := .value (.func f), args := as, argTypes := ats }) : Go.execOp a.eval o = Go.callFunc f (as.map a.eval) := by
  have ef : a.eval (.func f) = .func (.func f) #[] #[] := rfl
  unfold Go.execOp
  simp [hop, Go.resolve, Go.Deferred.ofValue, Go.invoke, ef]
theorem execOp_value {o : Go.Oper} {x : Operand} {f : FuncId} {p q : Array Value} {as : Array Operand} {ats : Array TypeId} (hop : o.op = .call { callee := .value x, args := as, argTypes := ats }) (hx : a.eval x = .func (.func f) p q) :
    Go.execOp a.eval o = Go.callFunc f (p ++ as.map a.eval ++ q) := by
  unfold Go.execOp
  simp [hop, Go.resolve, Go.Deferred.ofValue, Go.invoke, hx]
theorem execOp_builtin {o : Go.Oper} {b : Go.Builtin} {as : Array Operand} {ats : Array TypeId} (hop : o.op = .call { callee := .builtin b, args := as, argTypes := ats }) : ∃ cs, Go.execOp a.eval o = Go.builtin b ats o.type cs (as.map a.eval) := by
  unfold Go.execOp
  simp only [hop, Go.resolve, Go.invoke, pure_bind]
  exact ⟨_, rfl⟩
def Op.isCall : Op → Bool
  | .call .. => true
  | .callv .. => true
  | _ => false
theorem builtin_noCall {b : Go.Builtin} {ts : Array TypeId} {args : List Opd} {op : Op} (hc : compBuiltin tb b ts args = some op) : op.isCall = false := by
  unfold compBuiltin at hc
  split at hc
  all_goals
    repeat' (first
      | (cases hc; done)
      | (cases hc; rfl)
      | (simp only [Option.bind_eq_some_iff, Option.map_eq_some_iff] at hc)
      | (obtain ⟨_, _, hc⟩ := hc)
      | (split at hc))
theorem compOp_noCall {o : Go.Op} {op : Op} (hn : ∀ c, o ≠ .call c) (hc : compOp N tb o = some op) : op.isCall = false := by
  unfold compOp at hc
  split at hc
  all_goals
    repeat' (first
      | (cases hc; done)
      | (cases hc; rfl)
      | (exact absurd rfl (hn _))
      | (simp only [Option.bind_eq_some_iff, Option.map_eq_some_iff] at hc)
      | (obtain ⟨_, _, hc⟩ := hc)
      | (unfold compB at hc)
      | (split at hc))
theorem step1_noCall {op : Op} (hn : op.isCall = false) : step1 Γ ih tm h slot op = opx Γ tm h slot op := by
  cases op <;> first | rfl | (cases hn; done)

theorem compL_sim {l : Array Operand} {l' : List Opd} {vs : List V} (hc : compL N l = some l') (hx : evs Γ tm l' = some vs) (ht : TmR N I ι tm a.tmps) (hg : GlobOK Γ N I) : LR N I ι vs (l.map a.eval).toList := by
  have := fn_lists (a := a) hc hx ht hg
  simpa using this

theorem step1_sim {o : Go.Oper} {op : Op} {v : V} (hE : EnvOK Γ P N tb) (hih : RunsOK Γ P N tb ih) (hc : compOp N tb o.op = some op) (hx : step1 Γ ih tm h none op = some (v, h')) (hr : Rel N I ι h w) (hf : op.cls Γ ≠ 0 → Fresh ι h)
    (ht : TmR N I ι tm a.tmps) (hg : GlobOK Γ N I) : NextR P (fun val w' => ∃ I' ι', VR N I' ι' v val ∧ Out N I ι h w I' ι' h' w') ((Go.execOp a.eval o).run P w) := by
  by_cases hcall : ∃ c, o.op = .call c
  · obtain ⟨c, hop⟩ := hcall
    obtain ⟨callee, as, ats⟩ := c
    rw [hop] at hc
    simp only [compOp, Option.bind_eq_some_iff] at hc
    obtain ⟨args, hargs, hc⟩ := hc
    split at hc
    · rename_i b
      obtain ⟨cs, he⟩ := execOp_builtin (a := a) hop
      rw [he]
      have hx' : opx Γ tm h none op = some (v, h') := by rw [← step1_noCall (builtin_noCall hc)]; exact hx
      exact Out.of_good (builtin_sim (ty := o.type) (cs := cs) hE.tab hargs hc hx' hr (fun h0 => hf h0 _ (Nat.le_refl _)) ht hg)
    · rename_i f
      injection hc with hc; subst hc
      rw [execOp_func hop]
      simp only [step1, Option.bind_eq_some_iff] at hx
      obtain ⟨vs, hvs, hx⟩ := hx
      refine callF_sim hE hih hx hr ?_ (compL_sim hargs hvs ht hg) hg
      cases hm : Γ.mode (N f) with
      | heap => exact .inl (hf (by simp [Op.cls, hm]))
      | fresh => exact .inr rfl
      | own => exact .inl (hf (by simp [Op.cls, hm]))
    · rename_i x hne
      simp only [Option.map_eq_some_iff] at hc
      obtain ⟨x', hx', rfl⟩ := hc
      simp only [step1, Option.bind_eq_some_iff] at hx
      obtain ⟨xv, hxv, hx⟩ := hx
      split at hx
      · rename_i f p q
        simp only [Option.bind_eq_some_iff] at hx
        obtain ⟨vs, hvs, hx⟩ := hx
        obtain ⟨g, p', q', hu, rfl, h1, h2⟩ := fn_lr (ev_sim (a := a) hx' hxv ht hg)
        rw [execOp_value hop hu]
        have h3 := compL_sim (a := a) hargs hvs ht hg
        exact callF_sim hE hih hx hr (.inl (hf (by simp [Op.cls]))) (by simpa using (h1.append h3).append h2) hg
      · cases hx
    · cases hc
  · have hn : ∀ c, o.op ≠ .call c := fun c e => hcall ⟨c, e⟩
    have hx' : opx Γ tm h none op = some (v, h') := by rw [← step1_noCall (compOp_noCall hn hc)]; exact hx
    exact Out.of_good (opx_sim hE.tab hc hn hx' hr (fun h0 => hf h0 _ (Nat.le_refl _)) (fun s hs => by cases hs) ht hg)

/-- An operation of the program's and what it was turned into. -/
structure OperR (N : Nat → Nat) (tb : TypeId → Option TI) (ops : Array Go.Oper) (o : Go.Oper) (x : Oper) : Prop where
  op : compOp N tb o.op = some x.op
  dst : x.dst = o.dst
  guard : (o.guard = none ∧ x.guard = none) ∨ ∃ j b oj t, o.guard = some (j, b) ∧ ops[j]? = some oj ∧ oj.dst = some t ∧ x.guard = some (t, b)

theorem compOper_spec {ops : Array Go.Oper} {anc : List Nat} {o : Go.Oper} {x : Oper} (h : compOper N tb ops anc o = some x) : OperR N tb ops o x := by
  unfold compOper at h
  simp only [Option.bind_eq_some_iff] at h
  obtain ⟨op, hop, h⟩ := h
  split at h
  · rename_i hg
    injection h with h; subst h
    exact ⟨hop, rfl, .inl ⟨hg, rfl⟩⟩
  · rename_i j b hg
    simp only [Option.map_eq_some_iff, Option.bind_eq_some_iff] at h
    obtain ⟨t, ⟨oj, hoj, ht⟩, rfl⟩ := h
    exact ⟨hop, rfl, .inr ⟨j, b, oj, t, hg, hoj, ht, rfl⟩⟩
theorem compOps_spec {ops : Array Go.Oper} : ∀ {os : List Go.Oper} {acc : List (List Nat)} {l : List Oper}, compOps N tb ops os acc = some l → l.length = os.length ∧ ∀ (k : Nat) o, os[k]? = some o → ∃ x, l[k]? = some x ∧ OperR N tb ops o x
  | [], acc, l, h => by
    simp [compOps] at h; subst h
    exact ⟨rfl, fun k o ho => by simp at ho⟩
  | o :: os, acc, l, h => by
    simp only [compOps, Option.bind_eq_some_iff, Option.map_eq_some_iff] at h
    obtain ⟨x, hx, xs, hxs, rfl⟩ := h
    obtain ⟨h1, h2⟩ := compOps_spec hxs
    refine ⟨by simp [h1], fun k o' ho => ?_⟩
    cases k with
    | zero => simp at ho; subst ho; exact ⟨x, rfl, compOper_spec hx⟩
    | succ k => exact h2 k o' (by simpa using ho)

theorem wants_sim {ops : Array Go.Oper} {o : Go.Oper} {x : Oper} {tmps : Array Value} (hR : OperR N tb ops o x) (ht : TmR N I ι tm tmps) : Go.Region.wanted o (Go.yielded ops tmps) = wants tm x.guard := by
  rcases hR.guard with ⟨h1, h2⟩ | ⟨j, b, oj, t, h1, h2, h3, h4⟩
  · simp [Go.Region.wanted, wants, h1, h2]
  · simp only [Go.Region.wanted, wants, h1, h4]
    unfold Go.yielded
    simp only [h2, Option.bind_some, h3]
    rcases Nat.lt_or_ge t tm.length with hl | hl
    · have hl' : t < tmps.size := ht.1 ▸ hl
      have hv := ht.2 t _ _ (List.getElem?_eq_getElem hl) (Array.getElem?_eq_getElem hl')
      rw [List.getElem?_eq_getElem hl, Array.getElem?_eq_getElem hl']
      generalize tm[t] = p at hv
      generalize tmps[t] = q at hv
      cases hv <;> simp
    · rw [List.getElem?_eq_none hl, Array.getElem?_eq_none (by rw [← ht.1]; exact hl)]
      simp

theorem putT_sim {d : Option Nat} {v : V} {val : Value} (ht : TmR N I ι tm a.tmps) (hv : VR N I ι v val) : TmR N I ι (putT tm d v) (a.put d val).tmps := by
  cases d with
  | none => exact ht
  | some d =>
    refine ⟨by simpa [putT, Act.put] using ht.1, fun t x y hx hy => ?_⟩
    simp only [putT, Act.put, List.getElem?_set, Array.getElem?_setIfInBounds] at hx hy
    split at hx
    · rename_i e
      split at hx
      · rename_i hl
        rw [if_pos e, if_pos (ht.1 ▸ hl)] at hy
        injection hx with hx; injection hy with hy
        subst hx; subst hy; exact hv
      · cases hx
    · rename_i e
      rw [if_neg e] at hy
      exact ht.2 t x y hx hy
theorem put_defers {d : Option Nat} {val : Value} : (a.put d val).defers = a.defers := by cases d <;> rfl

theorem upon_of {o : Go.Oper} {next : Act → World → Prop} {Q : Go.Exit → Act → World → Prop} {R : Value → World → Prop} {r : Result Next} (x : NextR P R r) (hn : ∀ val w', R val w' → next (a.put o.dst val) w') : o.upon P a next Q r := by
  rcases x with ⟨val, w', rfl, h⟩ | ⟨w', rfl, h⟩ | ⟨f, args, w', rfl, h⟩
  · exact hn _ _ h
  · exact hn _ _ h
  · rw [Go.Oper.upon_enter]
    refine Go.Calls.mono h fun e w'' he => ?_
    obtain ⟨val, rfl, hv⟩ := he
    exact hn _ _ hv

/-- What a piece of code leaves. -/
def Post (N : Nat → Nat) (I : Imm) (ι : Emb) (h : Heap) (w : World) (s' : St) (a' : Act) (w' : World) : Prop :=
  a'.defers = [] ∧ ∃ I' ι', TmR N I' ι' s'.tm a'.tmps ∧ Out N I ι h w I' ι' s'.h w'

theorem ops_sim {ops : Array Go.Oper} {Q : Go.Exit → Act → World → Prop} (hE : EnvOK Γ P N tb) (hih : RunsOK Γ P N tb ih) {I0 : Imm} {ι0 : Emb} {h0 : Heap} {w0 : World} {s' : St} (hQ : ∀ a' w', Post N I0 ι0 h0 w0 s' a' w' → Q .normal a' w') :
    ∀ (l : List Oper) (js : List Nat) {s : St} {I : Imm} {ι : Emb} {a : Act} {w : World}, l.length = js.length → (∀ (k j : Nat) x, js[k]? = some j → l[k]? = some x → ∃ o, ops[j]? = some o ∧ OperR N tb ops o x) → runOps Γ ih l s = some s' →
      Fresh ι s.h → TmR N I ι s.tm a.tmps → a.defers = [] → GlobOK Γ N I → Out N I0 ι0 h0 w0 I ι s.h w → Go.wpOps P ops Q js a w
  | [], js, s, I, ι, a, w, hl, _, hx, hf, ht, hd, hg, ho => by
    cases js with
    | cons => simp at hl
    | nil =>
      simp only [runOps, Option.some.injEq] at hx; subst hx
      exact hQ _ _ ⟨hd, I, ι, ht, ho⟩
  | x :: l, js, s, I, ι, a, w, hl, hk, hx, hf, ht, hd, hg, ho => by
    cases js with
    | nil => simp at hl
    | cons j js =>
      obtain ⟨o, hoj, hR⟩ := hk 0 j x rfl rfl
      have hk' : ∀ (k j : Nat) x, js[k]? = some j → l[k]? = some x → ∃ o, ops[j]? = some o ∧ OperR N tb ops o x := fun k j x h1 h2 => hk (k + 1) j x (by simpa using h1) (by simpa using h2)
      have hl' : l.length = js.length := by simpa using hl
      simp only [Go.wpOps, hoj]
      simp only [runOps] at hx
      rw [wants_sim hR ht]
      split at hx
      · rename_i hw
        rw [if_pos hw]
        simp only [Option.bind_eq_some_iff] at hx
        obtain ⟨⟨v, h1⟩, hs, hx⟩ := hx
        refine .inl (upon_of (step1_sim hE hih hR.op hs ho.rel (fun _ => hf) ht hg) fun val w' ⟨I', ι', hv, ho'⟩ => ?_)
        refine ops_sim hE hih hQ l js hl' hk' hx (ho'.fresh hf) ?_ (by rw [put_defers]; exact hd) (hg.mono ho'.ext.subI) (ho.trans ho')
        rw [hR.dst]
        exact putT_sim (ht.mono ho'.ext.subI ho'.ext.subE) hv
      · rename_i hw
        rw [if_neg hw]
        refine ops_sim hE hih hQ l js hl' hk' hx hf ?_ (by rw [put_defers]; exact hd) hg ho
        rw [hR.dst]
        exact putT_sim ht undef_sim

theorem region_sim {ops : Array Go.Oper} {id : Nat} {l : List Oper} {s s' : St} (hE : EnvOK Γ P N tb) (hih : RunsOK Γ P N tb ih) (hc : compOps N tb ops ops.toList [] = some l) (hx : runOps Γ ih l s = some s') (hr : Rel N I ι s.h w) (hf : Fresh ι s.h) (ht : TmR N I ι s.tm a.tmps)
    (hd : a.defers = []) (hg : GlobOK Γ N I) : (Go.Code.region id ops false).wp P (fun e a' w' => e = .normal ∧ Post N I ι s.h w s' a' w') a w := by
  obtain ⟨h1, h2⟩ := compOps_spec hc
  refine Go.wp_region (ops_sim hE hih (fun a' w' h => ⟨rfl, h⟩) l _ (by simpa using h1) (fun k j x hj hx => ?_) hx hf ht hd hg (Out.refl hr))
  rw [List.getElem?_range (by have := (List.getElem?_eq_some_iff.1 hj).1; simpa using this)] at hj
  injection hj with hj; subst hj
  have hk : k < ops.size := by have := (List.getElem?_eq_some_iff.1 hx).1; rw [h1] at this; simpa using this
  obtain ⟨x', hx', hR⟩ := h2 k ops[k] (by simp [hk])
  rw [hx] at hx'; injection hx' with hx'; subst hx'
  exact ⟨ops[k], by simp [hk], hR⟩
end
end Am
