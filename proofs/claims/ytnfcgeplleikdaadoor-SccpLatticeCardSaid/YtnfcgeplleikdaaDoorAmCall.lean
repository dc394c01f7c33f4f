/- Calls. -/
import Derived.Test.YtnfcgeplleikdaaDoorAmFrame
namespace Am
open Go (IntKind BinOp UnOp Obj Value World Addr Program TypeDesc TypeId Operand Act Sem Result Next FuncId Frame Item Arrives)

def exOf : Ex → Go.Exit
  | .normal => .normal
  | .exit i => .exit i
  | .goto l => .goto l
  | .ret => .ret

/-- The items that are a piece of code. -/
inductive ItR (N : Nat → Nat) (tb : TypeId → Option TI) : Cd → List Item → Prop
  | code {c0 : Go.Code} {c : Cd} : compC N tb c0 = some c → ItR N tb c [.code c0]
  | loop {b0 : Go.Code} {b : Cd} : compC N tb b0 = some b → ItR N tb (.loop b) [.inLoop b0]
  | scope {b0 cur0 : Go.Code} {b cur : Cd} : compC N tb b0 = some b → compC N tb cur0 = some cur → ItR N tb (.scope b cur) [.code cur0, .inScope b0]

/-- From one state to a later one, new names for new blocks only. -/
structure Out (N : Nat → Nat) (I : Imm) (ι : Emb) (h : Heap) (w : World) (I' : Imm) (ι' : Emb) (h' : Heap) (w' : World) : Prop where
  rel : Rel N I' ι' h' w'
  ext : Ext I ι h w I' ι' h' w'
  new : ∀ b, ι b = none → ι' b ≠ none → h.length ≤ b ∧ b < h'.length

/-- What a step of the program's comes to: a value at once, or by a call. -/
def NextR (P : Program) (R : Value → World → Prop) (r : Result Next) : Prop :=
  (∃ val w', r = .ok (.value val) w' ∧ R val w') ∨ (∃ w', r = .ok .skip w' ∧ R Go.undef w') ∨
  ∃ f args w', r = .ok (.enter f args) w' ∧ Go.Calls P f args w' fun e w'' => ∃ val, e = .returned val ∧ R val w''

/-- The abstract machine's functions are the program's. -/
structure EnvOK (Γ : Env) (P : Program) (N : Nat → Nat) (tb : TypeId → Option TI) : Prop where
  tab : TabOK P N tb
  code : ∀ f nt res body, Γ.fn (N f) = some (.code nt res body) → ∃ fn c, P.funcs[f]? = some fn ∧ fn.body = some c ∧ (fn.name == "runtime.NumGoroutine") = false ∧ fn.ntmps = nt ∧ compC N tb c = some body ∧ mapO (compR tb) fn.results.toList = some res
  ext : ∀ f k, Γ.fn (N f) = some (.ext k) → ∀ I ι args v args' w, extV k args = some v → LR N I ι args args'.toList → ∃ val, (Go.callFunc f args').run P w = .ok (.value val) w ∧ VR N I ι v val
  mixed : P.follows .mixedOrders = true

def RunsOK (Γ : Env) (P : Program) (N : Nat → Nat) (tb : TypeId → Option TI) (ih : Runs) : Prop :=
  ∀ c s e s', ih c s = some (e, s') → ∀ items, ItR N tb c items → ∀ I ι (a : Act) w, Rel N I ι s.h w → Fresh ι s.h → TmR N I ι s.tm a.tmps → a.defers = [] → GlobOK Γ N I →
    ∀ (b : Frame) k cs, ∃ a' w' I' ι', Arrives P (Go.lone (b.at a (items ++ k)) cs w) b k cs (exOf e) a' w' ∧ a'.defers = [] ∧ TmR N I' ι' s'.tm a'.tmps ∧ Out N I ι s.h w I' ι' s'.h w'

section
variable {P : Program} {N : Nat → Nat} {tb : TypeId → Option TI} {Γ : Env} {I I' I₁ : Imm} {ι ι' ι₁ : Emb} {h h' h₁ : Heap} {w w' w₁ : World} {tm : List V} {a : Act} {slot : Option Nat} {ih : Runs}

theorem Out.refl (hr : Rel N I ι h w) : Out N I ι h w I ι h w := ⟨hr, Ext.refl _ _ _ _, fun b h1 h2 => absurd h1 h2⟩
theorem Out.trans (x : Out N I ι h w I₁ ι₁ h₁ w₁) (y : Out N I₁ ι₁ h₁ w₁ I' ι' h' w') : Out N I ι h w I' ι' h' w' :=
  ⟨y.rel, x.ext.trans y.ext, fun b h1 h2 => by
    cases e : ι₁ b with
    | none => have := y.new b e h2; have := x.ext.len; omega
    | some c => have := x.new b h1 (by rw [e]; simp); have := y.ext.len; omega⟩
theorem Out.fresh (x : Out N I ι h w I' ι' h' w') (hf : Fresh ι h) : Fresh ι' h' := fun b hb => by
  cases e : ι' b with
  | none => rfl
  | some c => have := x.new b (hf b (Nat.le_trans x.ext.len hb)) (by rw [e]; simp); omega
theorem Out.of_good {s : Sem Next} {v : V} (hg : Good1 P N I ι h w none v h' s) : NextR P (fun val w' => ∃ I' ι', VR N I' ι' v val ∧ Out N I ι h w I' ι' h' w') (s.run P w) := by
  obtain ⟨r, val, w', ι', hs, hrv, hv, hr, he, hn⟩ := hg
  have ho : Out N I ι h w I ι' h' w' := ⟨hr, he, fun b h1 h2 => by
    rcases hn b h1 h2 with h3 | h3
    · cases h3
    · exact h3⟩
  rcases hrv with rfl | ⟨rfl, rfl⟩
  · exact .inl ⟨val, w', hs, I, ι', hv, ho⟩
  · exact .inr (.inl ⟨w', hs, I, ι', hv, ho⟩)

theorem NextR.mono {R R' : Value → World → Prop} (hh : ∀ v w, R v w → R' v w) {r : Result Next} (x : NextR P R r) : NextR P R' r := by
  rcases x with ⟨val, w', h1, h2⟩ | ⟨w', h1, h2⟩ | ⟨f, args, w', h1, h2⟩
  · exact .inl ⟨val, w', h1, hh _ _ h2⟩
  · exact .inr (.inl ⟨w', h1, hh _ _ h2⟩)
  · exact .inr (.inr ⟨f, args, w', h1, Go.Calls.mono h2 fun e w'' ⟨v, h3, h4⟩ => ⟨v, h3, hh _ _ h4⟩⟩)

/-! ### Results -/
theorem res_sim (htb : TabOK P N tb) (hr : Rel N I ι h w) {tmps : Array Value} (ht : TmR N I ι tm tmps) (g : Go.ResultVar → Sem Value) (hg1 : ∀ t, g (.tmp t) = pure (tmps.getD t Go.undef)) (hg2 : ∀ c t, g (.cell c t) = (do Go.loadVar t (← Go.asAddr (tmps.getD c Go.undef)))) :
    ∀ {rs : List Go.ResultVar} {res : List Res} {vs : List V}, mapO (compR tb) rs = some res → mapO (resOf ⟨tm, h⟩) res = some vs → ∃ us : List Value, (rs.mapM (m := Sem) g).run P w = .ok us w ∧ LR N I ι vs us
  | [], res, vs, h1, h2 => by
    simp [mapO] at h1; subst h1
    simp [mapO] at h2; subst h2
    exact ⟨[], by simp, .nil⟩
  | r :: rs, res, vs, h1, h2 => by
    simp only [mapO, Option.bind_eq_some_iff, Option.map_eq_some_iff] at h1
    obtain ⟨r', hr', res', hres', rfl⟩ := h1
    simp only [mapO, Option.bind_eq_some_iff, Option.map_eq_some_iff] at h2
    obtain ⟨v, hv, vs', hvs', rfl⟩ := h2
    obtain ⟨us, g1, g2⟩ := res_sim htb hr ht g hg1 hg2 hres' hvs'
    have htmp : ∀ t x, tm[t]? = some x → VR N I ι x (tmps.getD t Go.undef) := fun t x hx => by
      have hl : t < tm.length := (List.getElem?_eq_some_iff.1 hx).1
      have hl' : t < tmps.size := ht.1 ▸ hl
      have := ht.2 t x _ hx (Array.getElem?_eq_getElem hl')
      simpa [Array.getD, hl'] using this
    cases r with
    | tmp t =>
      simp only [compR, Option.some.injEq] at hr'; subst hr'
      simp only [resOf] at hv
      exact ⟨tmps.getD t Go.undef :: us, by simp only [List.mapM_cons, hg1, Sem.run_bind, Sem.run_pure, Go.Result.andThen_ok, g1], .cons (htmp t v hv) g2⟩
    | cell c t =>
      simp only [compR, Option.map_eq_some_iff] at hr'
      obtain ⟨i, hi, rfl⟩ := hr'
      simp only [resOf, Option.bind_eq_some_iff] at hv
      obtain ⟨av, hav, hv⟩ := hv
      obtain ⟨ad, val, hu, g3, g4⟩ := sim_loadV (P := P) (htb _ _ hi) hr (htmp c av hav) hv
      have hga : (g (.cell c t)).run P w = .ok val w := by
        rw [hg2, hu]
        simp only [Go.asAddr, Sem.run_bind, Sem.run_pure, Go.Result.andThen_ok, g3]
      exact ⟨val :: us, by simp only [List.mapM_cons, Sem.run_bind, hga, Sem.run_pure, Go.Result.andThen_ok, g1], .cons g4 g2⟩

theorem oneOf_sim {vs : List V} {us : List Value} (hl : LR N I ι vs us) : VR N I ι (oneOf vs) (if h : us.toArray.size = 1 then us.toArray[0] else .tuple us.toArray) := by
  match vs, us, hl with
  | [], [], hl => exact tup_of hl
  | [v], [u], hl => exact hl.2 0 v u rfl rfl
  | v :: v' :: vs, u :: u' :: us, hl =>
    have : ¬ (u :: u' :: us).toArray.size = 1 := by simp
    rw [dif_neg this]; exact tup_of hl
  | [], _ :: _, hl => have := hl.1; simp at this
  | _ :: _, [], hl => have := hl.1; simp at this
  | [_], _ :: _ :: _, hl => have := hl.1; simp at this
  | _ :: _ :: _, [_], hl => have := hl.1; simp at this

def resM (tmps : Array Value) (r : Go.ResultVar) : Sem Value :=
  match r with
  | .tmp t => pure (tmps.getD t Go.undef)
  | .cell a t => do Go.loadVar t (← Go.asAddr (tmps.getD a Go.undef))
theorem results_eq (fn : Go.Func) (tmps : Array Value) : Go.results fn tmps = (do let vs ← fn.results.mapM (resM tmps); pure (if h : vs.size = 1 then vs[0] else .tuple vs)) := by
  unfold Go.results
  congr 1
theorem results_sim (htb : TabOK P N tb) (hr : Rel N I ι h w) {tmps : Array Value} (ht : TmR N I ι tm tmps) {fn : Go.Func} {res : List Res} {vs : List V} (h1 : mapO (compR tb) fn.results.toList = some res) (h2 : mapO (resOf ⟨tm, h⟩) res = some vs) :
    ∃ val, (Go.results fn tmps).run P w = .ok val w ∧ VR N I ι (oneOf vs) val := by
  obtain ⟨us, g1, g2⟩ := res_sim htb hr ht (resM tmps) (fun t => rfl) (fun c t => rfl) h1 h2
  rw [results_eq]
  rw [← Array.toArray_toList (xs := fn.results), List.mapM_toArray]
  simp only [Sem.run_bind, map_eq_pure_bind, Sem.run_pure]
  refine ⟨_, ?_, oneOf_sim g2⟩
  rw [g1]
  simp only [Go.Result.andThen_ok, Sem.run_pure]

/-! ### A call in the caller's memory -/
theorem raw_sim (hE : EnvOK Γ P N tb) (hih : RunsOK Γ P N tb ih) {f : FuncId} {args : List V} {args' : Array Value} {v : V} (hx : callRaw Γ ih (N f) args h = some (v, h')) (hr : Rel N I ι h w) (hf : Fresh ι h) (hl : LR N I ι args args'.toList) (hg : GlobOK Γ N I) :
    NextR P (fun val w' => ∃ I' ι', VR N I' ι' v val ∧ Out N I ι h w I' ι' h' w') ((Go.callFunc f args').run P w) := by
  unfold callRaw at hx
  split at hx
  · rename_i nt res body hfn
    obtain ⟨fn, c, hP, hbody, hname, hnt, hc, hres⟩ := hE.code _ _ _ _ hfn
    refine .inr (.inr ⟨f, args', w, ?_, ?_⟩)
    · have h1 : fn.name ≠ "runtime.NumGoroutine" := by simpa using hname
      simp [Go.callFunc, hP, h1, hbody]
    · simp only [Option.bind_eq_some_iff] at hx
      obtain ⟨⟨e, s⟩, hrun, hx⟩ := hx
      have hsz : args'.size = args.length := by have := hl.1; simpa using this.symm
      have ht0 : TmR N I ι (args ++ List.replicate (nt - args.length) undef) (args' ++ Array.replicate (fn.ntmps - args'.size) Go.undef) := by
        have := hl.append (LR.replicate (undef_sim (N := N) (I := I) (ι := ι)) (nt - args.length))
        refine ⟨by have := this.1; simp at this ⊢; rw [hnt, hsz], fun t x y hx hy => this.2 t x y hx ?_⟩
        rw [← Array.getElem?_toList] at hy
        simpa [hnt, hsz] using hy
      refine Go.calls_of_wp hP hbody fun b k cs => ?_
      obtain ⟨a', w', I', ι', harr, hd, ht, ho⟩ := hih body _ e s hrun [.code c] (.code hc) I ι { tmps := args' ++ Array.replicate (fn.ntmps - args'.size) Go.undef, defers := [] } w hr hf ht0 rfl hg b k cs
      have fin : ∀ vs, mapO (resOf s) res = some vs → (v, h') = (oneOf vs, s.h) → ∃ val, (Go.results fn a'.tmps).run P w' = .ok val w' ∧ ∃ I' ι', VR N I' ι' v val ∧ Out N I ι h w I' ι' h' w' := fun vs hvs he => by
        obtain ⟨rfl, rfl⟩ := Prod.mk.inj he
        obtain ⟨val, g1, g2⟩ := results_sim hE.tab ho.rel ht hres hvs
        exact ⟨val, g1, I', ι', g2, ho⟩
      cases e with
      | normal =>
        simp only [Option.map_eq_some_iff] at hx
        obtain ⟨vs, hvs, he⟩ := hx
        obtain ⟨val, g1, g2⟩ := fin vs hvs he.symm
        exact ⟨.normal, a', w', ⟨hd, val, g1, val, rfl, g2⟩, harr⟩
      | ret =>
        simp only [Option.map_eq_some_iff] at hx
        obtain ⟨vs, hvs, he⟩ := hx
        obtain ⟨val, g1, g2⟩ := fin vs hvs he.symm
        exact ⟨.ret, a', w', ⟨hd, val, g1, val, rfl, g2⟩, harr⟩
      | exit i => cases hx
      | goto l => cases hx
  · rename_i k hfn
    simp only [Option.map_eq_some_iff] at hx
    obtain ⟨v', hv', he⟩ := hx
    obtain ⟨rfl, rfl⟩ := Prod.mk.inj he
    obtain ⟨val, g1, g2⟩ := hE.ext _ _ hfn I ι args v' args' w hv' hl
    exact .inl ⟨val, w, g1, I, ι, g2, Out.refl hr⟩
  · cases hx

/-! ### A call alone -/
def grown (I : Imm) (w w' : World) : Imm := fun c => if c < w.heap.size then I c else w'.heap[c]?
theorem grown_sub (hr : Rel N I ι h w) : SubI I (grown I w w') := fun c o hc => by
  have := hr.imm c o hc
  unfold grown
  rw [if_pos (Array.getElem?_eq_some_iff.1 this).1]; exact hc

theorem rel_nil {Iz : Imm} (himm : ∀ c o, Iz c = some o → w.heap[c]? = some o) : Rel N Iz noE [] w where
  imm := himm
  row b c z els h1 := by cases h1
  map b c es h1 := by cases h1
  inj b b' c c' h1 := by cases h1
  lt b c h1 := by cases h1

/-- After a call that began on an empty memory: the caller's stands, the new blocks stay as they are. -/
theorem out_alone {Iz I2 : Imm} {ι2 : Emb} {h2 : Heap} (hr : Rel N I ι h w) (hsub : SubI I Iz) (ho : Out N Iz noE [] w I2 ι2 h2 w') :
    Out N I ι h w (grown I w w') ι h w' ∧ Seen (grown I w w') ι2 h2 w' := by
  have hkeep : ∀ c, c < w.heap.size → w'.heap[c]? = w.heap[c]? := fun c hc => ho.ext.keep c hc fun b p hb => by cases hb
  have hgs := grown_sub (w' := w') hr
  have hnew : ∀ c, grown I w w' c ≠ none → c < w.heap.size → I c ≠ none := fun c hc hl => by unfold grown at hc; rwa [if_pos hl] at hc
  refine ⟨⟨Rel.mk' (fun c o hc => ?_) (fun b c ob hb hob hl => ?_) hr.inj (fun b c hb => Nat.lt_of_lt_of_le (hr.lt b c hb) ho.ext.size), ?_, fun b h1 h2 => absurd h1 h2⟩, fun b c hb hl o hw => ?_⟩
  · unfold grown at hc
    split at hc
    · rename_i hl; rw [hkeep c hl]; exact hr.imm c o hc
    · exact hc
  · obtain ⟨h1, o, h3, h4⟩ := hr.ob hb hob hl
    have hlt := hr.lt b c hb
    exact ⟨by unfold grown; rw [if_pos hlt]; exact h1, o, by rw [hkeep _ hlt]; exact h3, h4.mono hgs (SubE.refl ι)⟩
  · exact ⟨hgs, SubE.refl ι, fun c o hc => by
      unfold grown at hc
      split at hc
      · exact .inl hc
      · rename_i hl; exact .inr (by omega), fun b c hb hl => .inl ⟨b, c, hb, rfl, hl⟩, fun c hc _ => hkeep c hc, ho.ext.size, ho.ext.os, ho.ext.tape, ho.ext.output, Nat.le_refl _⟩
  · have : w.heap.size ≤ c.1 := by
      rcases ho.ext.newE b c hb hl with ⟨b', c', h1, _⟩ | h1
      · cases h1
      · exact h1
    unfold grown
    rw [if_neg (by omega)]; exact hw

/-! ### A call alone, what it made handed over -/
def imported (ι ι2 : Emb) (k : Nat) : Emb := fun b => if b < k then ι b else ι2 (b - k)
theorem ob_live {k : Nat} {o : Ob} (h : Ob.live (some (impOb k o)) = true) : Ob.live (some o) = true := by
  cases o with
  | gone => exact h
  | _ => all_goals rfl
theorem ob_imp {J J' : Imm} {κ κ' : Emb} {k n : Nat} {ob : Ob} {o : Obj} (hk : ∀ b c, κ b = some c → κ' (b + k) = some c) (h : ObR N J κ n ob o) : ObR N J' κ' n (impOb k ob) o := by
  cases ob with
  | gone => trivial
  | row z els =>
    obtain ⟨cs, t, rfl, hn, hz, hp⟩ := h
    simp only [impOb]
    cases hm : mapO (mapO (imp k deep)) els with
    | none => trivial
    | some els' =>
      have hz' := mapO_each hm hz
      have hfl := mapO_flat hm
      have hlen := mapO_length hfl
      exact ⟨cs, t, rfl, hn, hz', PR.of_lr (by rw [hlen]; exact hp.1) (by rw [hlen]; exact mapO_lr (fun v v' u hs hv => imp_sim hk hs hv) hfl hp.lr)⟩
  | map es =>
    obtain ⟨ents, clk, rfl, hsz, hp⟩ := h
    simp only [impOb]
    cases hm : mapO (impE k) es with
    | none => trivial
    | some es' =>
      have hat : ∀ {l : List (V × V)} {l' : List (V × V)}, mapO (impE k) l = some l' → l'.length = l.length ∧ ∀ (i : Nat) e', l'[i]? = some e' → ∃ e, l[i]? = some e ∧ impE k e = some e' := by
        intro l
        induction l with
        | nil => intro l' hm; simp [mapO] at hm; subst hm; exact ⟨rfl, fun i e' h => by simp at h⟩
        | cons x l ih =>
          intro l' hm
          simp only [mapO, Option.bind_eq_some_iff, Option.map_eq_some_iff] at hm
          obtain ⟨y, hy, ys, hys, rfl⟩ := hm
          obtain ⟨h1, h2⟩ := ih hys
          refine ⟨by simp [h1], fun i e' he => ?_⟩
          cases i with
          | zero => simp at he; subst he; exact ⟨x, rfl, hy⟩
          | succ i => simpa using h2 i e' (by simpa using he)
      obtain ⟨h1, h2⟩ := hat hm
      refine ⟨ents, clk, rfl, h1.trans hsz, fun i e' x he hx => ?_⟩
      obtain ⟨e, he0, hie⟩ := h2 i e' he
      simp only [impE, Option.bind_eq_some_iff, Option.map_eq_some_iff] at hie
      obtain ⟨a, ha, b, hb, rfl⟩ := hie
      obtain ⟨p1, p2⟩ := hp i e x he0 hx
      exact ⟨imp_sim hk ha p1, imp_sim hk hb p2⟩
theorem out_own {I2 : Imm} {ι2 : Emb} {h2 : Heap} (hr : Rel N I ι h w) (hf : Fresh ι h) (ho : Out N (fun c => w.heap[c]?) noE [] w I2 ι2 h2 w') :
    (∀ b c, ι2 b = some c → imported ι ι2 h.length (b + h.length) = some c) ∧ True ∧ Out N I ι h w I (imported ι ι2 h.length) (h ++ h2.map (impOb h.length)) w' := by
  have hkeep : ∀ c, c < w.heap.size → w'.heap[c]? = w.heap[c]? := fun c hc => ho.ext.keep c hc fun b p hb => by cases hb
  have hk : ∀ b c, ι2 b = some c → imported ι ι2 h.length (b + h.length) = some c := fun b c hb => by
    unfold imported; rw [if_neg (by omega), Nat.add_sub_cancel]; exact hb
  have hold : ∀ b c, ι b = some c → b < h.length := fun b c hb => by
    rcases Nat.lt_or_ge b h.length with h1 | h1
    · exact h1
    · rw [hf b h1] at hb; cases hb
  have hsub : SubE ι (imported ι ι2 h.length) := fun b c hb => by unfold imported; rw [if_pos (hold b c hb)]; exact hb
  have hget : ∀ b, h.length ≤ b → (h ++ h2.map (impOb h.length))[b]? = (h2[b - h.length]?).map (impOb h.length) := fun b hb => by
    rw [List.getElem?_append_right hb, List.getElem?_map]
  have hnew : ∀ b c, h.length ≤ b → ι2 (b - h.length) = some c → Ob.live (h ++ h2.map (impOb h.length))[b]? = true → Ob.live h2[b - h.length]? = true ∧ w.heap.size ≤ c.1 := fun b c hb hc hl => by
    rw [hget b hb] at hl
    cases e : h2[b - h.length]? with
    | none => rw [e] at hl; cases hl
    | some o =>
      rw [e] at hl
      have hl2 : Ob.live (some o) = true := ob_live hl
      refine ⟨hl2, ?_⟩
      rcases ho.ext.newE _ c hc (by rw [e]; exact hl2) with ⟨b', c', h1, _⟩ | h1
      · cases h1
      · exact h1
  have hIn : ∀ c : Nat, w.heap.size ≤ c → I c = none := fun c hc => by
    cases e : I c with
    | none => rfl
    | some o => have := (Array.getElem?_eq_some_iff.1 (hr.imm c o e)).1; omega
  refine ⟨hk, trivial, ⟨Rel.mk' (fun c o hc => ?_) (fun b c ob hb hob hl => ?_) (fun b b' c c' hb hb' hc hl hl' => ?_) (fun b c hb => ?_), ?_, fun b h1 h2' => ?_⟩⟩
  · have := hr.imm c o hc
    rw [hkeep c (Array.getElem?_eq_some_iff.1 this).1]; exact this
  · unfold imported at hb
    split at hb
    · rename_i hlt
      rw [List.getElem?_append_left hlt] at hob
      obtain ⟨h1, o, h3, h4⟩ := hr.ob hb hob hl
      exact ⟨h1, o, by rw [hkeep _ (hr.lt b c hb)]; exact h3, h4.mono (SubI.refl I) hsub⟩
    · rename_i hlt
      have hge : h.length ≤ b := by omega
      obtain ⟨g1, g2⟩ := hnew b c hge hb (by rw [hob]; exact hl)
      rw [hget b hge] at hob
      simp only [Option.map_eq_some_iff] at hob
      obtain ⟨ob0, e0, rfl⟩ := hob
      rw [e0] at g1
      obtain ⟨_, o, h3, h4⟩ := ho.rel.ob hb e0 g1
      exact ⟨hIn _ g2, o, h3, ob_imp hk h4⟩
  · unfold imported at hb hb'
    split at hb <;> split at hb' <;> rename_i hlt hlt'
    · rw [List.getElem?_append_left hlt] at hl
      rw [List.getElem?_append_left hlt'] at hl'
      exact hr.inj b b' c c' hb hb' hc hl hl'
    · have h1 := hr.lt b c hb
      have h2 := (hnew b' c' (by omega) hb' hl').2
      omega
    · have h1 := hr.lt b' c' hb'
      have h2 := (hnew b c (by omega) hb hl).2
      omega
    · have h1 := (hnew b c (by omega) hb hl).1
      have h2 := (hnew b' c' (by omega) hb' hl').1
      have := ho.rel.inj _ _ c c' hb hb' hc h1 h2
      omega
  · unfold imported at hb
    split at hb
    · exact Nat.lt_of_lt_of_le (hr.lt b c hb) ho.ext.size
    · exact ho.rel.lt _ c hb
  · refine ⟨SubI.refl I, hsub, fun c o hc => .inl hc, fun b c hb hl => ?_, fun c hc _ => hkeep c hc, ho.ext.size, ho.ext.os, ho.ext.tape, ho.ext.output, by simp⟩
    unfold imported at hb
    split at hb
    · rename_i hlt
      rw [List.getElem?_append_left hlt] at hl
      exact .inl ⟨b, c, hb, rfl, hl⟩
    · exact .inr (hnew b c (by omega) hb hl).2
  · unfold imported at h2'
    split at h2'
    · exact absurd h1 h2'
    · rename_i hlt
      have := (ho.new (b - h.length) rfl h2').2
      simp; omega

theorem callF_sim (hE : EnvOK Γ P N tb) (hih : RunsOK Γ P N tb ih) {f : FuncId} {args : List V} {args' : Array Value} {v : V} (hx : callF Γ ih (N f) args h = some (v, h')) (hr : Rel N I ι h w) (hf : Fresh ι h ∨ Γ.mode (N f) = .fresh) (hl : LR N I ι args args'.toList) (hg : GlobOK Γ N I) :
    NextR P (fun val w' => ∃ I' ι', VR N I' ι' v val ∧ Out N I ι h w I' ι' h' w') ((Go.callFunc f args').run P w) := by
  unfold callF at hx
  split at hx
  · rename_i hm
    have hf' : Fresh ι h := by
      rcases hf with hf | hf
      · exact hf
      · rw [hm] at hf; cases hf
    exact raw_sim hE hih hx hr hf' hl hg
  · have hfr : Fresh noE ([] : Heap) := fun _ _ => rfl
    split at hx
    · rename_i a1 ha1
      simp only [Option.bind_eq_some_iff, Option.map_eq_some_iff] at hx
      obtain ⟨⟨r, h2⟩, hrun, v', hv', he⟩ := hx
      obtain ⟨rfl, rfl⟩ := Prod.mk.inj he
      have hr0 : Rel N I noE [] w := rel_nil hr.imm
      have hl0 : LR N I noE a1 args'.toList := mapO_lr (fun v v' u hs hv => snap_sim (h := []) (Iz := I) (w := w) (hr.sub (h1 := []) (fun b hb => by simp [Ob.live, liveB] at hb)) (SubI.refl I) (fun b c _ hl => by simp [Ob.live, liveB] at hl) hs hv) ha1 hl
      refine (raw_sim hE hih hrun hr0 hfr hl0 hg).mono fun val w' ⟨I2, ι2, hv2, ho⟩ => ?_
      obtain ⟨g1, g2⟩ := out_alone hr (SubI.refl I) ho
      refine ⟨grown I w w', ι, (snap_sim ho.rel (fun c o hc => ?_) g2 hv' hv2).wk, g1⟩
      rcases ho.ext.newI c o hc with h3 | h3
      · exact grown_sub hr c o h3
      · unfold grown; rw [if_neg (by omega)]; exact ho.rel.imm c o hc
    · rename_i ha1
      simp only [Option.bind_eq_some_iff, Option.map_eq_some_iff] at hx
      obtain ⟨a2, ha2, ⟨r, h2⟩, hrun, v', hv', he⟩ := hx
      obtain ⟨rfl, rfl⟩ := Prod.mk.inj he
      have hsub : SubI I (fun c => w.heap[c]?) := hr.imm
      have hl0 : LR N (fun c => w.heap[c]?) noE a2 args'.toList := mapO_lr (fun v v' u hs hv => snap_sim hr hsub (fun b c _ _ o hw => hw) hs hv) ha2 hl
      refine (raw_sim hE hih hrun (rel_nil fun _ _ h => h) hfr hl0 (hg.mono hsub)).mono fun val w' ⟨I2, ι2, hv2, ho⟩ => ?_
      obtain ⟨g1, g2⟩ := out_alone hr hsub ho
      exact ⟨grown I w w', ι, (read_sim ho.rel g2 hv' hv2).wk, g1⟩
  · rename_i hm
    have hf' : Fresh ι h := by
      rcases hf with hf | hf
      · exact hf
      · rw [hm] at hf; cases hf
    simp only [Option.bind_eq_some_iff, Option.map_eq_some_iff] at hx
    obtain ⟨a2, ha2, ⟨r, h2⟩, hrun, v', hv', he⟩ := hx
    obtain ⟨rfl, rfl⟩ := Prod.mk.inj he
    have hsub : SubI I (fun c => w.heap[c]?) := hr.imm
    have hl0 : LR N (fun c => w.heap[c]?) noE a2 args'.toList := mapO_lr (fun v v' u hs hv => snap_sim hr hsub (fun b c _ _ o hw => hw) hs hv) ha2 hl
    refine (raw_sim hE hih hrun (rel_nil fun _ _ h => h) (fun _ _ => rfl) hl0 (hg.mono hsub)).mono fun val w' ⟨I2, ι2, hv2, ho⟩ => ?_
    obtain ⟨g1, g2, g3⟩ := out_own hr hf' ho
    exact ⟨I, imported ι ι2 h.length, imp_sim g1 hv' hv2, g3⟩
end
end Am
