/- Code: what the abstract machine runs to, the program runs to. -/
import Derived.Test.YtnfcgeplleikdaaDoorAmDraw3
import Derived.ScopeJumps
namespace Am
open Go (IntKind BinOp UnOp Obj Value World Addr Program TypeDesc TypeId Operand Act Sem Result Next FuncId Frame Item Arrives Steps)
section
variable {P : Program} {N : Nat → Nat} {tb : TypeId → Option TI} {Γ : Env} {ih : Runs} {I0 I : Imm} {ι0 ι : Emb} {w0 w : World} {h0 h : Heap} {a : Act} {s s' : St}

theorem findL_some : ∀ {b0 : Go.Code} {b rest : Cd} {l : Nat}, compC N tb b0 = some b → findL b l = some rest → ∃ rest0, Go.findLabel b0 l = some rest0 ∧ compC N tb rest0 = some rest
  | .seq x y, b, rest, l, hc, hf => by
    simp only [compC, Option.bind_eq_some_iff, Option.map_eq_some_iff] at hc
    obtain ⟨x', hx', y', hy', rfl⟩ := hc
    simp only [findL] at hf
    split at hf
    · rename_i r hr
      injection hf with hf; subst hf
      obtain ⟨r0, h1, h2⟩ := findL_some hx' hr
      exact ⟨.seq r0 y, by simp [Go.findLabel, h1], by simp [compC, h2, hy']⟩
    · rename_i hr
      obtain ⟨r0, h1, h2⟩ := findL_some hy' hf
      exact ⟨r0, by simp [Go.findLabel, findL_none hx' hr, h1], h2⟩
  | .label l', b, rest, l, hc, hf => by
    simp only [compC, Option.some.injEq] at hc; subst hc
    simp only [findL] at hf
    split at hf
    · rename_i he
      injection hf with hf; subst hf
      exact ⟨.skip, by simp [Go.findLabel, he], rfl⟩
    · cases hf
  | .skip, b, rest, l, hc, hf => by simp only [compC, Option.some.injEq] at hc; subst hc; cases hf
  | .region _ ops d, b, rest, l, hc, hf => by
    simp only [compC, Option.bind_eq_some_iff] at hc
    obtain ⟨l', _, hc⟩ := hc
    repeat' (split at hc)
    all_goals first | (cases hc; done) | (injection hc with hc; subst hc; cases hf)
  | .cond c x y, b, rest, l, hc, hf => by
    simp only [compC, Option.bind_eq_some_iff, Option.map_eq_some_iff] at hc
    obtain ⟨_, _, _, _, _, _, rfl⟩ := hc
    cases hf
  | .block _ x, b, rest, l, hc, hf => by
    simp only [compC, Option.map_eq_some_iff] at hc
    obtain ⟨_, _, rfl⟩ := hc
    cases hf
  | .loop x, b, rest, l, hc, hf => by
    simp only [compC, Option.map_eq_some_iff] at hc
    obtain ⟨_, _, rfl⟩ := hc
    cases hf
  | .scope x, b, rest, l, hc, hf => by
    simp only [compC, Option.map_eq_some_iff] at hc
    obtain ⟨_, _, rfl⟩ := hc
    cases hf
  | .exit _, b, rest, l, hc, hf => by simp only [compC, Option.some.injEq] at hc; subst hc; cases hf
  | .goto _, b, rest, l, hc, hf => by simp only [compC, Option.some.injEq] at hc; subst hc; cases hf
  | .ret, b, rest, l, hc, hf => by simp only [compC, Option.some.injEq] at hc; subst hc; cases hf
  | .rangeFunc .., b, rest, l, hc, hf => by cases hc
  | .refuse _, b, rest, l, hc, hf => by cases hc
  where
  findL_none : ∀ {b0 : Go.Code} {b : Cd} {l : Nat}, compC N tb b0 = some b → findL b l = none → Go.findLabel b0 l = none
  | .seq x y, b, l, hc, hf => by
    simp only [compC, Option.bind_eq_some_iff, Option.map_eq_some_iff] at hc
    obtain ⟨x', hx', y', hy', rfl⟩ := hc
    simp only [findL] at hf
    split at hf
    · cases hf
    · rename_i hr
      simp [Go.findLabel, findL_none hx' hr, findL_none hy' hf]
  | .label l', b, l, hc, hf => by
    simp only [compC, Option.some.injEq] at hc; subst hc
    simp only [findL] at hf
    split at hf
    · cases hf
    · rename_i he
      simp at he
      simp [Go.findLabel, he]
  | .skip, b, l, hc, hf => rfl
  | .region _ ops d, b, l, hc, hf => rfl
  | .cond c x y, b, l, hc, hf => rfl
  | .block _ x, b, l, hc, hf => rfl
  | .loop x, b, l, hc, hf => rfl
  | .scope x, b, l, hc, hf => rfl
  | .exit _, b, l, hc, hf => rfl
  | .goto _, b, l, hc, hf => rfl
  | .ret, b, l, hc, hf => rfl
  | .rangeFunc .., b, l, hc, hf => rfl
  | .refuse _, b, l, hc, hf => rfl

theorem Post.trans {s1 : St} {a1 : Act} {w1 : World} {I1 : Imm} {ι1 : Emb} {a' : Act} {w' : World} (ho : Out N I ι h w I1 ι1 s1.h w1) (hp : Post N I1 ι1 s1.h w1 s' a' w') : Post N I ι h w s' a' w' := by
  obtain ⟨hd, I', ι', ht, ho'⟩ := hp
  exact ⟨hd, I', ι', ht, ho.trans ho'⟩

/-- From here the program goes to where the abstract machine goes. -/
def Goes (P : Program) (N : Nat → Nat) (I : Imm) (ι : Emb) (h : Heap) (w : World) (items : List Item) (a : Act) (e : Ex) (s' : St) : Prop :=
  ∀ (b : Frame) k cs, ∃ a' w', Arrives P (Go.lone (b.at a (items ++ k)) cs w) b k cs (exOf e) a' w' ∧ Post N I ι h w s' a' w'

theorem RunsOK.goes (hih : RunsOK Γ P N tb ih) {c : Cd} {e : Ex} (hx : ih c s = some (e, s')) {items : List Item} (hi : ItR N tb c items) (hr : Rel N I ι s.h w) (hf : Fresh ι s.h) (ht : TmR N I ι s.tm a.tmps) (hd : a.defers = []) (hg : GlobOK Γ N I) :
    Goes P N I ι s.h w items a e s' := fun b k cs => by
  obtain ⟨a', w', I', ι', h1, h2, h3, h4⟩ := hih c s e s' hx items hi I ι a w hr hf ht hd hg b k cs
  exact ⟨a', w', h1, h2, I', ι', h3, h4⟩

theorem Goes.wp {c0 : Go.Code} {e : Ex} (hg : Goes P N I ι h w [.code c0] a e s') : c0.wp P (fun e' a' w' => e' = exOf e ∧ Post N I ι h w s' a' w') a w := fun b k cs => by
  obtain ⟨a', w', h1, h2⟩ := hg b k cs
  exact ⟨exOf e, a', w', ⟨rfl, h2⟩, h1⟩
theorem Goes.of_wp {c0 : Go.Code} {e : Ex} (hw : c0.wp P (fun e' a' w' => e' = exOf e ∧ Post N I ι h w s' a' w') a w) : Goes P N I ι h w [.code c0] a e s' := fun b k cs => by
  obtain ⟨e', a', w', ⟨rfl, h2⟩, h1⟩ := hw b k cs
  exact ⟨a', w', h1, h2⟩

/-- A run of a loop's body, then the loop again. -/
theorem loop_goes (hih : RunsOK Γ P N tb ih) {b0 : Go.Code} {b : Cd} {e : Ex} (hb : compC N tb b0 = some b) (hx : stepC Γ ih (.loop b) s = some (e, s')) (hr : Rel N I ι s.h w) (hf : Fresh ι s.h) (ht : TmR N I ι s.tm a.tmps) (hd : a.defers = []) (hg : GlobOK Γ N I) :
    Goes P N I ι s.h w [.code b0, .inLoop b0] a e s' := fun fr k cs => by
  simp only [stepC, Option.bind_eq_some_iff] at hx
  obtain ⟨⟨e1, s1⟩, h1, hx⟩ := hx
  obtain ⟨a1, w1, harr, hd1, I1, ι1, ht1, ho1⟩ := hih.goes h1 (.code hb) hr hf ht hd hg fr (.inLoop b0 :: k) cs
  cases e1 with
  | normal =>
    obtain ⟨a2, w2, harr2, hp2⟩ := hih.goes hx (.loop hb) ho1.rel (ho1.fresh hf) ht1 hd1 (hg.mono ho1.ext.subI) fr k cs
    exact ⟨a2, w2, .of_steps harr harr2, hp2.trans (s1 := s1) (a1 := a1) ho1⟩
  | exit i =>
    injection hx with hx; obtain ⟨rfl, rfl⟩ := Prod.mk.inj hx
    exact ⟨a1, w1, .pass (x := .inLoop b0) rfl (fun _ _ => .inl (by simp [exOf])) harr, hd1, I1, ι1, ht1, ho1⟩
  | goto i =>
    injection hx with hx; obtain ⟨rfl, rfl⟩ := Prod.mk.inj hx
    exact ⟨a1, w1, .pass (x := .inLoop b0) rfl (fun _ _ => .inl (by simp [exOf])) harr, hd1, I1, ι1, ht1, ho1⟩
  | ret =>
    injection hx with hx; obtain ⟨rfl, rfl⟩ := Prod.mk.inj hx
    exact ⟨a1, w1, .pass (x := .inLoop b0) rfl (fun _ _ => .inl (by simp [exOf])) harr, hd1, I1, ι1, ht1, ho1⟩

theorem scope_goes (hih : RunsOK Γ P N tb ih) {b0 cur0 : Go.Code} {b cur : Cd} {e : Ex} (hb : compC N tb b0 = some b) (hcur : compC N tb cur0 = some cur) (hx : stepC Γ ih (.scope b cur) s = some (e, s')) (hr : Rel N I ι s.h w) (hf : Fresh ι s.h) (ht : TmR N I ι s.tm a.tmps) (hd : a.defers = []) (hg : GlobOK Γ N I) :
    Goes P N I ι s.h w [.code cur0, .inScope b0] a e s' := fun fr k cs => by
  simp only [stepC, Option.bind_eq_some_iff] at hx
  obtain ⟨⟨e1, s1⟩, h1, hx⟩ := hx
  obtain ⟨a1, w1, harr, hd1, I1, ι1, ht1, ho1⟩ := hih.goes h1 (.code hcur) hr hf ht hd hg fr (.inScope b0 :: k) cs
  cases e1 with
  | normal =>
    injection hx with hx; obtain ⟨rfl, rfl⟩ := Prod.mk.inj hx
    exact ⟨a1, w1, Steps.trans harr (.one Go.step_inScope), hd1, I1, ι1, ht1, ho1⟩
  | exit i =>
    injection hx with hx; obtain ⟨rfl, rfl⟩ := Prod.mk.inj hx
    exact ⟨a1, w1, fun k' hk => harr k' (by simp [Go.exitTo, hk]), hd1, I1, ι1, ht1, ho1⟩
  | goto l =>
    dsimp only at hx
    split at hx
    · rename_i rest hrest
      obtain ⟨rest0, g1, g2⟩ := findL_some hb hrest
      obtain ⟨a2, w2, harr2, hp2⟩ := hih.goes hx (.scope hb g2) ho1.rel (ho1.fresh hf) ht1 hd1 (hg.mono ho1.ext.subI) fr k cs
      exact ⟨a2, w2, .of_steps (harr (.code rest0 :: .inScope b0 :: k) (by simp [Go.gotoIn, g1])) harr2, hp2.trans (s1 := s1) (a1 := a1) ho1⟩
    · rename_i hrest
      injection hx with hx; obtain ⟨rfl, rfl⟩ := Prod.mk.inj hx
      exact ⟨a1, w1, fun k' hk => harr k' (by simp [Go.gotoIn, findL_some.findL_none hb hrest, hk]), hd1, I1, ι1, ht1, ho1⟩
  | ret =>
    injection hx with hx; obtain ⟨rfl, rfl⟩ := Prod.mk.inj hx
    exact ⟨a1, w1, harr, hd1, I1, ι1, ht1, ho1⟩

theorem code_goes (hE : EnvOK Γ P N tb) (hih : RunsOK Γ P N tb ih) {c0 : Go.Code} {c : Cd} {e : Ex} (hc : compC N tb c0 = some c) (hx : stepC Γ ih c s = some (e, s')) (hr : Rel N I ι s.h w) (hf : Fresh ι s.h) (ht : TmR N I ι s.tm a.tmps) (hd : a.defers = []) (hg : GlobOK Γ N I) :
    Goes P N I ι s.h w [.code c0] a e s' := by
  have here : Post N I ι s.h w s a w := ⟨hd, I, ι, ht, Out.refl hr⟩
  cases c0 with
  | skip =>
    simp only [compC, Option.some.injEq] at hc; subst hc
    simp only [stepC, Option.some.injEq] at hx; obtain ⟨rfl, rfl⟩ := Prod.mk.inj hx
    exact .of_wp (Go.wp_skip ⟨rfl, here⟩)
  | label l =>
    simp only [compC, Option.some.injEq] at hc; subst hc
    simp only [stepC, Option.some.injEq] at hx; obtain ⟨rfl, rfl⟩ := Prod.mk.inj hx
    exact .of_wp (Go.wp_label ⟨rfl, here⟩)
  | exit i =>
    simp only [compC, Option.some.injEq] at hc; subst hc
    simp only [stepC, Option.some.injEq] at hx; obtain ⟨rfl, rfl⟩ := Prod.mk.inj hx
    exact .of_wp (Go.wp_exit ⟨rfl, here⟩)
  | goto i =>
    simp only [compC, Option.some.injEq] at hc; subst hc
    simp only [stepC, Option.some.injEq] at hx; obtain ⟨rfl, rfl⟩ := Prod.mk.inj hx
    exact .of_wp (Go.wp_goto ⟨rfl, here⟩)
  | ret =>
    simp only [compC, Option.some.injEq] at hc; subst hc
    simp only [stepC, Option.some.injEq] at hx; obtain ⟨rfl, rfl⟩ := Prod.mk.inj hx
    exact .of_wp (Go.wp_ret ⟨rfl, here⟩)
  | region id ops draw =>
    simp only [compC, Option.bind_eq_some_iff] at hc
    obtain ⟨l, hl, hc⟩ := hc
    split at hc
    · rename_i hdr; subst hdr
      split at hc
      · rename_i hok
        injection hc with hc; subst hc
        simp only [stepC, Option.map_eq_some_iff] at hx
        obtain ⟨s1, hx, he⟩ := hx
        obtain ⟨rfl, rfl⟩ := Prod.mk.inj he
        exact .of_wp (draw_sim hE hih hl hok hx hr hf ht hd hg)
      · cases hc
    · rename_i hdr
      have : draw = false := by simpa using hdr
      subst this
      injection hc with hc; subst hc
      simp only [stepC, Option.map_eq_some_iff] at hx
      obtain ⟨s1, hx, he⟩ := hx
      obtain ⟨rfl, rfl⟩ := Prod.mk.inj he
      exact .of_wp (region_sim hE hih hl (by simpa [runRegion] using hx) hr hf ht hd hg)
  | seq x y =>
    simp only [compC, Option.bind_eq_some_iff, Option.map_eq_some_iff] at hc
    obtain ⟨x', hx', y', hy', rfl⟩ := hc
    simp only [stepC, Option.bind_eq_some_iff] at hx
    obtain ⟨⟨e1, s1⟩, h1, hx⟩ := hx
    refine .of_wp (Go.wp_seq ?_)
    refine Go.wp_mono (hih.goes h1 (.code hx') hr hf ht hd hg).wp fun e' a1 w1 hq => ?_
    obtain ⟨rfl, hp⟩ := hq
    cases e1 with
    | normal =>
      obtain ⟨hd1, I1, ι1, ht1, ho1⟩ := hp
      have := (hih.goes hx (.code hy') ho1.rel (ho1.fresh hf) ht1 hd1 (hg.mono ho1.ext.subI)).wp
      exact Go.wp_mono this fun e' a2 w2 hq => ⟨hq.1, hq.2.trans (s1 := s1) (a1 := a1) ho1⟩
    | exit i => injection hx with hx; obtain ⟨rfl, rfl⟩ := Prod.mk.inj hx; exact ⟨rfl, hp⟩
    | goto i => injection hx with hx; obtain ⟨rfl, rfl⟩ := Prod.mk.inj hx; exact ⟨rfl, hp⟩
    | ret => injection hx with hx; obtain ⟨rfl, rfl⟩ := Prod.mk.inj hx; exact ⟨rfl, hp⟩
  | cond c1 x y =>
    simp only [compC, Option.bind_eq_some_iff, Option.map_eq_some_iff] at hc
    obtain ⟨c', hc', x', hx', y', hy', rfl⟩ := hc
    simp only [stepC, Option.bind_eq_some_iff] at hx
    obtain ⟨v, hv, hx⟩ := hx
    have hcv := ev_sim (a := a) hc' hv ht hg
    split at hx
    · generalize hu : a.eval c1 = u at hcv
      cases hcv
      exact .of_wp (Go.wp_cond_true hu (hih.goes hx (.code hx') hr hf ht hd hg).wp)
    · generalize hu : a.eval c1 = u at hcv
      cases hcv
      exact .of_wp (Go.wp_cond_false hu (hih.goes hx (.code hy') hr hf ht hd hg).wp)
    · cases hx
  | block id x =>
    simp only [compC, Option.map_eq_some_iff] at hc
    obtain ⟨x', hx', rfl⟩ := hc
    simp only [stepC, Option.map_eq_some_iff] at hx
    obtain ⟨⟨e1, s1⟩, h1, hx⟩ := hx
    refine .of_wp (Go.wp_block ?_)
    refine Go.wp_mono (hih.goes h1 (.code hx') hr hf ht hd hg).wp fun e' a1 w1 hq => ?_
    obtain ⟨rfl, hp⟩ := hq
    cases e1 with
    | exit i =>
      dsimp only at hx
      simp only [exOf, Go.Exit.inBlock]
      split at hx
      · rename_i hi; obtain ⟨rfl, rfl⟩ := Prod.mk.inj hx; rw [if_pos hi]; exact ⟨rfl, hp⟩
      · rename_i hi; obtain ⟨rfl, rfl⟩ := Prod.mk.inj hx; rw [if_neg hi]; exact ⟨rfl, hp⟩
    | normal => obtain ⟨rfl, rfl⟩ := Prod.mk.inj hx; exact ⟨rfl, hp⟩
    | goto i => obtain ⟨rfl, rfl⟩ := Prod.mk.inj hx; exact ⟨rfl, hp⟩
    | ret => obtain ⟨rfl, rfl⟩ := Prod.mk.inj hx; exact ⟨rfl, hp⟩
  | loop x =>
    simp only [compC, Option.map_eq_some_iff] at hc
    obtain ⟨x', hx', rfl⟩ := hc
    intro fr k cs
    obtain ⟨a', w', harr, hp⟩ := loop_goes hih hx' hx hr hf ht hd hg fr k cs
    exact ⟨a', w', .of_steps (.one Go.step_loop) harr, hp⟩
  | scope x =>
    simp only [compC, Option.map_eq_some_iff] at hc
    obtain ⟨x', hx', rfl⟩ := hc
    intro fr k cs
    obtain ⟨a', w', harr, hp⟩ := scope_goes hih hx' hx' hx hr hf ht hd hg fr k cs
    exact ⟨a', w', .of_steps (.one Go.step_scope) harr, hp⟩
  | rangeFunc f p q r => cases hc
  | refuse y => cases hc

theorem step_ok (hE : EnvOK Γ P N tb) (hih : RunsOK Γ P N tb ih) : RunsOK Γ P N tb (stepC Γ ih) := fun c s e s' hx items hi I ι a w hr hf ht hd hg b k cs => by
  have key : Goes P N I ι s.h w items a e s' := by
    cases hi with
    | code hc => exact code_goes hE hih hc hx hr hf ht hd hg
    | loop hb =>
      intro fr k cs
      obtain ⟨a', w', harr, hp⟩ := loop_goes hih hb hx hr hf ht hd hg fr k cs
      exact ⟨a', w', .of_steps (.one Go.step_inLoop) harr, hp⟩
    | scope hb hcur => exact scope_goes hih hb hcur hx hr hf ht hd hg
  obtain ⟨a', w', harr, hd', I', ι', ht', ho⟩ := key b k cs
  exact ⟨a', w', I', ι', harr, hd', ht', ho⟩

theorem run_ok (hE : EnvOK Γ P N tb) : ∀ n, RunsOK Γ P N tb (run Γ n)
  | 0 => fun c s e s' hx => by cases hx
  | n + 1 => step_ok hE (run_ok hE n)

/-- A CALL: what the abstract machine answers, the program answers. -/
theorem call_ok (hE : EnvOK Γ P N tb) {n : Nat} {f : FuncId} {args : List V} {args' : Array Value} {v : V} {h h' : Heap} {nt : Nat} {res : List Res} {body : Cd} (hcode : Γ.fn (N f) = some (.code nt res body)) (hx : callRaw Γ (run Γ n) (N f) args h = some (v, h')) (hr : Rel N I ι h w) (hf : Fresh ι h) (hl : LR N I ι args args'.toList) (hg : GlobOK Γ N I) :
    Go.Calls P f args' w fun e w' => ∃ val, e = .returned val ∧ ∃ I' ι', VR N I' ι' v val ∧ Out N I ι h w I' ι' h' w' := by
  obtain ⟨fn, c, hP, hbody, hname, _⟩ := hE.code _ _ _ _ hcode
  have h1 : fn.name ≠ "runtime.NumGoroutine" := by simpa using hname
  have he : (Go.callFunc f args').run P w = .ok (.enter f args') w := by simp [Go.callFunc, hP, h1, hbody]
  rcases raw_sim hE (run_ok hE n) hx hr hf hl hg with ⟨val, w', h2, _⟩ | ⟨w', h2, _⟩ | ⟨g, as, w', h2, h3⟩
  · rw [he] at h2; cases h2
  · rw [he] at h2; cases h2
  · rw [he] at h2; injection h2 with h2 h4; injection h2 with h2 h5; subst h2; subst h5; subst h4
    exact h3
end
end Am
