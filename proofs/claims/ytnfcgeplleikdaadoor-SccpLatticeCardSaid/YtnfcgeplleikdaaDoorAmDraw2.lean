/- Regions that draw their order: one step. -/
import Derived.Test.YtnfcgeplleikdaaDoorAmDraw
namespace Am
open Go (IntKind BinOp UnOp Obj Value World Addr Program TypeDesc TypeId Operand Act Sem Result Next FuncId Frame Item Arrives)

/-- Which operations have run. -/
abbrev Ld (listed : Array Bool) (i : Nat) : Prop := listed.getD i false = true

structure Inv (Γ : Env) (N : Nat → Nat) (I0 : Imm) (ι0 : Emb) (h0 : Heap) (w0 : World) (st : List Step) (tmA : Nat → List V) (hA : Nat → Heap) (listed : Array Bool) (I : Imm) (ι : Emb) (hS : Heap) (tS : List V) (a : Act) (w : World) : Prop where
  size : listed.size = st.length
  closed : ∀ (j : Nat) x, Ld listed j → st[j]? = some x → ∀ y ∈ x.op.anc, Ld listed y
  out : Out N I0 ι0 h0 w0 I ι hS w
  low : (hA 0).length ≤ hS.length
  fresh : Fresh ι hS
  tm : TmR N I ι tS a.tmps
  defers : a.defers = []
  glob : GlobOK Γ N I
  heap : ∀ (b k : Nat), k ≤ st.length → (∀ i, Wr Γ st i b → (Ld listed i ↔ i < k)) → hS[b]? = (hA k)[b]?
  len : ∀ k : Nat, k ≤ st.length → (∀ i, WrE Γ st i → (Ld listed i ↔ i < k)) → hS.length = (hA k).length
  tmp : ∀ (t k : Nat), k ≤ st.length → (∀ (i : Nat) x, st[i]? = some x → x.op.dst = some t → (Ld listed i ↔ i < k)) → tS[t]? = (tmA k)[t]?
  tmlen : tS.length = (tmA 0).length
  slot : ∀ (i : Nat) x, st[i]? = some x → x.op.op.cls Γ = 1 → ¬ Ld listed i → ι x.slot = none

section
variable {P : Program} {N : Nat → Nat} {tb : TypeId → Option TI} {Γ : Env} {ih : Runs} {st : List Step} {tmA : Nat → List V} {hA : Nat → Heap} {I0 I : Imm} {ι0 ι : Emb} {w0 w : World} {listed : Array Bool} {h0 hS : Heap} {tS : List V} {a : Act}

theorem ld_set {listed : Array Bool} {j i : Nat} (hj : j < listed.size) : Ld (listed.setIfInBounds j true) i ↔ Ld listed i ∨ i = j := by
  by_cases h : j = i
  · subst h; simp [Ld, hj]
  · have : i ≠ j := fun e => h e.symm
    simp [Ld, Array.getElem?_setIfInBounds_ne h, this]

variable (hT : TraceOK Γ ih st tmA hA) (hI : Inv Γ N I0 ι0 h0 w0 st tmA hA listed I ι hS tS a w) {j : Nat} {x : Step} (hx : st[j]? = some x) (hnl : ¬ Ld listed j) (hanc : ∀ y ∈ x.op.anc, Ld listed y)
include hT hI hx hnl hanc

theorem inv_reads {t : Nat} (ht : t ∈ x.op.reads) : tS[t]? = x.tm[t]? := by
  have hj : j < st.length := (List.getElem?_eq_some_iff.1 hx).1
  rw [(hT.step j x hx).1]
  refine hI.tmp t j (by omega) fun i y hy hd => ⟨fun hl => ?_, fun hlt => ?_⟩
  · rcases Nat.lt_trichotomy i j with h | h | h
    · exact h
    · subst h; exact absurd hl hnl
    · rcases hT.apart j i x y h hx hy with g | g
      · exact absurd (hI.closed i y hl hy j g) hnl
      · simp only [Oper.apart, hd, Bool.and_eq_true, Bool.not_eq_true', List.contains_eq_mem] at g
        have := g.2
        simp [ht] at this
  · rcases hT.apart i j y x hlt hy hx with g | g
    · exact hanc i g
    · simp only [Oper.apart, hd, Bool.and_eq_true, Bool.not_eq_true', List.contains_eq_mem] at g
      have := g.1.1
      simp [ht] at this

theorem inv_foot (hran : x.ran = true) {b : Nat} (hb : b ∈ x.T) : hS[b]? = x.h[b]? := by
  have hj : j < st.length := (List.getElem?_eq_some_iff.1 hx).1
  rw [(hT.step j x hx).2.1]
  refine hI.heap b j (by omega) fun i ⟨y, hy, hyr, hyc, hyb⟩ => ⟨fun hl => ?_, fun hlt => ?_⟩
  · rcases Nat.lt_trichotomy i j with h | h | h
    · exact h
    · subst h; exact absurd hl hnl
    · have g := hT.comp j i x y h hx hy
      simp only [compat, hran, hyr, Bool.not_true, Bool.false_or, Bool.or_eq_true, List.contains_eq_mem, decide_eq_true_eq, Bool.and_eq_true, beq_iff_eq, List.all_eq_true, Bool.not_eq_true', decide_eq_false_iff_not] at g
      rcases g with g | ⟨_, g | g⟩
      · exact absurd (hI.closed i y hl hy j g) hnl
      · exact absurd g.2 hyc
      · exact absurd hyb (g b hb)
  · have g := hT.comp i j y x hlt hy hx
    simp only [compat, hran, hyr, Bool.not_true, Bool.false_or, Bool.or_eq_true, List.contains_eq_mem, decide_eq_true_eq, Bool.and_eq_true, beq_iff_eq, List.all_eq_true, Bool.not_eq_true', decide_eq_false_iff_not] at g
    rcases g with g | ⟨_, g | g⟩
    · exact hanc i g
    · exact absurd g.1 hyc
    · exact absurd hb (g b hyb)

theorem inv_len (hran : x.ran = true) (hc : x.op.op.cls Γ = 2) : hS.length = x.h.length := by
  have hj : j < st.length := (List.getElem?_eq_some_iff.1 hx).1
  rw [(hT.step j x hx).2.1]
  refine hI.len j (by omega) fun i ⟨y, hy, hyr, hyc⟩ => ⟨fun hl => ?_, fun hlt => ?_⟩
  · rcases Nat.lt_trichotomy i j with h | h | h
    · exact h
    · subst h; exact absurd hl hnl
    · have g := hT.comp j i x y h hx hy
      simp [compat, hran, hyr, hc, hyc] at g
      exact absurd (hI.closed i y hl hy j g) hnl
  · have g := hT.comp i j y x hlt hy hx
    simp [compat, hran, hyr, hc, hyc] at g
    exact hanc i g

/-- What stands after the step, if the memory and the temporaries are right. -/
theorem inv_step {I' : Imm} {ι' : Emb} {hS' : Heap} {a' : Act} {w' : World} (ho : Out N I0 ι0 h0 w0 I' ι' hS' w') (hlow : hS.length ≤ hS'.length) (hf : Fresh ι' hS') (ht : TmR N I' ι' (putT tS x.op.dst x.v) a'.tmps) (hd : a'.defers = []) (hg : GlobOK Γ N I')
    (h1 : ∀ b, ¬ Wr Γ st j b → hS'[b]? = hS[b]?) (h2 : ∀ b, Wr Γ st j b → hS'[b]? = (hA (j + 1))[b]?) (h3 : ¬ WrE Γ st j → hS'.length = hS.length) (h4 : WrE Γ st j → hS'.length = (hA (j + 1)).length)
    (h5 : ∀ (i : Nat) y, st[i]? = some y → y.op.op.cls Γ = 1 → i ≠ j → ι y.slot = none → ι' y.slot = none) :
    Inv Γ N I0 ι0 h0 w0 st tmA hA (listed.setIfInBounds j true) I' ι' hS' (putT tS x.op.dst x.v) a' w' := by
  have hj : j < st.length := (List.getElem?_eq_some_iff.1 hx).1
  have hjs : j < listed.size := by rw [hI.size]; exact hj
  obtain ⟨e1, e2, hs⟩ := hT.step j x hx
  refine ⟨by simp [hI.size], fun i y hl hy z hz => ?_, ho, Nat.le_trans hI.low hlow, hf, ht, hd, hg, fun b k hk hc => ?_, fun k hk hc => ?_, fun t k hk hc => ?_, by rw [putT_length]; exact hI.tmlen, fun i y hy hyc hl => ?_⟩
  · rw [ld_set hjs] at hl ⊢
    rcases hl with hl | rfl
    · exact .inl (hI.closed i y hl hy z hz)
    · rw [hx] at hy; injection hy with hy; subst hy
      exact .inl (hanc z hz)
  · by_cases hw : Wr Γ st j b
    · rw [h2 b hw]
      have hjk : j < k := (hc j hw).1 ((ld_set hjs).2 (.inr rfl))
      refine (frames hT hjk hk fun i hi1 hi2 hwi => ?_).symm
      have hl := ((ld_set hjs).1 ((hc i hwi).2 hi2)).resolve_right (by omega)
      obtain ⟨y, hy, hyr, hyc, hyb⟩ := hwi
      obtain ⟨x', hx', hxr, hxc, hxb⟩ := hw
      rw [hx] at hx'; injection hx' with hx'; subst hx'
      have g := hT.comp j i x y (by omega) hx hy
      simp only [compat, hxr, hyr, Bool.not_true, Bool.false_or, Bool.or_eq_true, List.contains_eq_mem, decide_eq_true_eq, Bool.and_eq_true, beq_iff_eq, List.all_eq_true, Bool.not_eq_true', decide_eq_false_iff_not] at g
      rcases g with g | ⟨_, g | g⟩
      · exact absurd (hI.closed i y hl hy j g) hnl
      · exact absurd g.2 hyc
      · exact absurd hyb (g b hxb)
    · rw [h1 b hw]
      refine hI.heap b k hk fun i hwi => ?_
      rw [← hc i hwi, ld_set hjs]
      exact ⟨.inl, fun h => h.resolve_right fun e => hw (e ▸ hwi)⟩
  · by_cases hw : WrE Γ st j
    · rw [h4 hw]
      have hjk : j < k := (hc j hw).1 ((ld_set hjs).2 (.inr rfl))
      refine (lens hT hjk hk fun i hi1 hi2 hwi => ?_).symm
      have hl := ((ld_set hjs).1 ((hc i hwi).2 hi2)).resolve_right (by omega)
      obtain ⟨y, hy, hyr, hyc⟩ := hwi
      obtain ⟨x', hx', hxr, hxc⟩ := hw
      rw [hx] at hx'; injection hx' with hx'; subst hx'
      have g := hT.comp j i x y (by omega) hx hy
      simp [compat, hxr, hyr, hxc, hyc] at g
      exact absurd (hI.closed i y hl hy j g) hnl
    · rw [h3 hw]
      refine hI.len k hk fun i hwi => ?_
      rw [← hc i hwi, ld_set hjs]
      exact ⟨.inl, fun h => h.resolve_right fun e => hw (e ▸ hwi)⟩
  · by_cases hdt : x.op.dst = some t
    · have hjk : j < k := (hc j x hx hdt).1 ((ld_set hjs).2 (.inr rfl))
      have : (tmA k)[t]? = (tmA (j + 1))[t]? := tms hT hjk hk fun i y hi1 hi2 hy hyd => by
        have hl := ((ld_set hjs).1 ((hc i y hy hyd).2 hi2)).resolve_right (by omega)
        rcases hT.apart j i x y (by omega) hx hy with g | g
        · exact absurd (hI.closed i y hl hy j g) hnl
        · simp only [Oper.apart, hdt, hyd, Bool.and_eq_true, Bool.not_eq_true'] at g
          have := g.1.2
          simp at this
      rw [this, hs.tm, hdt]
      have hl1 : tS.length = x.tm.length := by rw [hI.tmlen, e1, tmlens hT (m := j) (by omega)]
      simp only [putT, List.getElem?_set, if_true, hl1]
    · rw [putT_ne hdt]
      refine hI.tmp t k hk fun i y hy hyd => ?_
      rw [← hc i y hy hyd, ld_set hjs]
      exact ⟨.inl, fun h => h.resolve_right fun e => by subst e; rw [hx] at hy; injection hy with hy; subst hy; exact hdt hyd⟩
  · rw [ld_set hjs] at hl
    have hij : i ≠ j := fun e => hl (.inr e)
    exact h5 i y hy hyc hij (hI.slot i y hy hyc fun h => hl (.inl h))

omit hT hI hx hnl hanc in
theorem step1_quiet {tm : List V} {h h' : Heap} {o : Op} {v : V} (hc : o.cls Γ = 0) (h1 : step1 Γ ih tm h none o = some (v, h')) : h' = h := by
  cases o
  case call f args =>
    simp only [step1, Option.bind_eq_some_iff] at h1
    obtain ⟨vs, _, h1⟩ := h1
    have hm : Γ.mode f = .fresh := by
      simp only [Op.cls] at hc
      split at hc
      · cases hc
      · assumption
      · cases hc
    unfold callF at h1
    rw [hm] at h1
    dsimp only at h1
    split at h1
    all_goals
      simp only [Option.bind_eq_some_iff, Option.map_eq_some_iff] at h1
    · obtain ⟨_, _, _, _, h2⟩ := h1; exact (Prod.mk.inj h2).2.symm
    · obtain ⟨_, _, _, _, _, _, h2⟩ := h1; exact (Prod.mk.inj h2).2.symm
  case callv => simp [Op.cls] at hc
  all_goals exact opx_quiet (tm := tm) (slot := none) hc h1

omit hT hI hx hnl hanc in
theorem builtin_cls {b : Go.Builtin} {ts : Array TypeId} {args : List Opd} {op : Op} (hc : compBuiltin tb b ts args = some op) : op.cls Γ ≠ 1 := by
  unfold compBuiltin at hc
  split at hc
  all_goals
    repeat' (first
      | (cases hc; done)
      | (cases hc; simp [Op.cls]; done)
      | (simp only [Option.bind_eq_some_iff, Option.map_eq_some_iff] at hc)
      | (obtain ⟨_, _, hc⟩ := hc)
      | (split at hc))
omit hT hI hx hnl hanc in
theorem made_noCall {o : Go.Op} {op : Op} (hc : compOp N tb o = some op) (h1 : op.cls Γ = 1) : ∀ c, o ≠ .call c := by
  rintro c rfl
  simp only [compOp, Option.bind_eq_some_iff] at hc
  obtain ⟨args, _, hc⟩ := hc
  split at hc
  · exact builtin_cls hc h1
  · injection hc with hc; subst hc
    simp only [Op.cls] at h1
    split at h1 <;> cases h1
  · simp only [Option.map_eq_some_iff] at hc
    obtain ⟨_, _, rfl⟩ := hc
    simp [Op.cls] at h1
  · cases hc

omit hT hI hx hnl hanc in
theorem nextR_good {s : Sem Next} {v : V} {h h' : Heap} {slot : Option Nat} (hg : Good1 P N I ι h w slot v h' s) :
    NextR P (fun val w' => ∃ ι', VR N I ι' v val ∧ Rel N I ι' h' w' ∧ Ext I ι h w I ι' h' w' ∧ ∀ b, ι b = none → ι' b ≠ none → slot = some b ∨ (h.length ≤ b ∧ b < h'.length)) (s.run P w) := by
  obtain ⟨r, val, w', ι', hs, hrv, hv, hr, he, hn⟩ := hg
  rcases hrv with rfl | ⟨rfl, rfl⟩
  · exact .inl ⟨val, w', hs, ι', hv, hr, he, hn⟩
  · exact .inr (.inl ⟨w', hs, ι', hv, hr, he, hn⟩)

theorem op_draw {ops : Array Go.Oper} {o : Go.Oper} {Q : Go.Exit → Act → World → Prop} {K : Act → World → Prop} (hE : EnvOK Γ P N tb) (hih : RunsOK Γ P N tb ih) (hslot : ∀ (i : Nat) y, st[i]? = some y → y.op.op.cls Γ = 1 → h0.length ≤ y.slot) (ho : ops[j]? = some o) (hR : OperR N tb ops o x.op)
    (hK : ∀ I' ι' hS' tS' a' w', Inv Γ N I0 ι0 h0 w0 st tmA hA (listed.setIfInBounds j true) I' ι' hS' tS' a' w' → K a' w') : Go.wpOp P ops Q j K a w := by
  have hreads : ∀ t ∈ x.op.reads, tS[t]? = x.tm[t]? := fun t ht => inv_reads hT hI hx hnl hanc ht
  obtain ⟨e1, e2, hs⟩ := hT.step j x hx
  have hwr : ∀ b, Wr Γ st j b → x.ran = true ∧ x.op.op.cls Γ ≠ 0 ∧ b ∈ x.T := fun b ⟨x', hx', h⟩ => by rw [hx] at hx'; injection hx' with hx'; subst hx'; exact h
  have hwe : WrE Γ st j → x.ran = true ∧ x.op.op.cls Γ = 2 := fun ⟨x', hx', h⟩ => by rw [hx] at hx'; injection hx' with hx'; subst hx'; exact h
  unfold Go.wpOp
  simp only [ho]
  rw [wants_sim hR hI.tm, wants_congr hreads]
  have hcell := cell_congr hreads
  generalize e3 : tmA (j + 1) = tm' at hs
  generalize e4 : hA (j + 1) = h' at hs
  cases hs with
  | skip h1 h2 h3 =>
    rw [if_neg (by rw [h2]; decide)]
    refine hK I ι hS _ _ _ (inv_step hT hI hx hnl hanc hI.out (Nat.le_refl _) hI.fresh ?_ (by rw [put_defers]; exact hI.defers) hI.glob (fun _ _ => rfl) (fun b hb => ?_) (fun _ => rfl) (fun hb => ?_) (fun _ _ _ _ _ h => h))
    · rw [hR.dst, h3]; exact putT_sim hI.tm undef_sim
    · have := (hwr b hb).1; rw [h1] at this; cases this
    · have := (hwe hb).1; rw [h1] at this; cases this
  | @quiet r h1 h2 h3 h4 =>
    rw [if_pos h2]
    obtain rfl := step1_quiet h3 h4
    rw [← step1_congr hcell] at h4
    have hsub : ∀ b : Nat, Ob.live (restrQ x.T x.h)[b]? = true → (restrQ x.T x.h)[b]? = hS[b]? := fun b hb => by
      obtain ⟨g1, g2⟩ := restrQ_live hb
      rw [g2, inv_foot hT hI hx hnl hanc h1 (by simpa using g1)]
    refine .inl (upon_of (step1_sim hE hih hR.op h4 (hI.out.rel.sub hsub) (fun h => absurd h3 h) hI.tm hI.glob) fun val w' ⟨I', ι', hv, ho'⟩ => ?_)
    have hnone : ∀ b, ι b = none → ι' b = none := fun b hb => by
      cases e : ι' b with
      | none => rfl
      | some c => have := ho'.new b hb (by rw [e]; simp); omega
    obtain ⟨k1, k2⟩ := rel_frame (hm := hS) hI.out.rel hsub ho'.ext ho'.rel (fun b hb hb' => absurd (hnone b hb) hb') (Nat.le_refl _) fun b hb => by
      cases hl : Ob.live (restrQ x.T x.h)[b]? with
      | true => exact .inl (hsub b hl).symm
      | false =>
        refine .inr ⟨rfl, rfl, ?_⟩
        rcases Nat.lt_or_ge b hS.length with hlt | hge
        · exact hlt
        · rw [List.getElem?_eq_none hge] at hb; cases hb
    have ho2 : Out N I ι hS w I' ι' hS w' := ⟨k1, k2, fun b hb hb' => absurd (hnone b hb) hb'⟩
    refine hK I' ι' hS _ _ _ (inv_step hT hI hx hnl hanc (hI.out.trans ho2) (Nat.le_refl _) (ho2.fresh hI.fresh) ?_ (by rw [put_defers]; exact hI.defers) (hI.glob.mono k2.subI) (fun _ _ => rfl) (fun b hb => absurd h3 (hwr b hb).2.1) (fun _ => rfl) (fun hb => ?_) (fun _ _ _ _ _ h => hnone _ h))
    · rw [hR.dst]; exact putT_sim (hI.tm.mono k2.subI k2.subE) hv
    · have := (hwe hb).2; rw [h3] at this; cases this
  | @made h'' h1 h2 h3 h4 h5 =>
    rw [if_pos h2]
    obtain ⟨g1, ob, rfl, g3⟩ := opx_made h3 h5
    have hgone : hS[x.slot]? = some .gone := by rw [inv_foot hT hI hx hnl hanc h1 (by rw [h4]; simp)]; exact g1
    have hop := g3 hS hgone
    rw [← opx_congr hcell] at hop
    have hsl : ι x.slot = none := hI.slot j x hx h3 hnl
    refine .inl (upon_of (nextR_good (opx_sim hE.tab hR.op (made_noCall hR.op h3) hop hI.out.rel (fun _ => hI.fresh _ (Nat.le_refl _)) (fun s hs => by injection hs with hs; subst hs; exact hsl) hI.tm hI.glob)) fun val w' ⟨ι', hv, k1, k2, k3⟩ => ?_)
    have hnew : ∀ b, ι b = none → ι' b ≠ none → b = x.slot := fun b hb hb' => by
      rcases k3 b hb hb' with h | h
      · injection h with h; exact h.symm
      · simp at h; omega
    have hslt : x.slot < hS.length := (List.getElem?_eq_some_iff.1 hgone).1
    have ho2 : Out N I0 ι0 h0 w0 I ι' (hS.set x.slot ob) w' := ⟨k1, hI.out.ext.trans k2, fun b hb hb' => by
      cases e : ι b with
      | none => have := hnew b e hb'; subst this; exact ⟨hslot j x hx h3, by simpa using hslt⟩
      | some c => have := hI.out.new b hb (by rw [e]; simp); simpa using this⟩
    have hfr : Fresh ι' (hS.set x.slot ob) := fun b hb => by
      cases e : ι' b with
      | none => rfl
      | some c => have := hnew b (hI.fresh b (by simpa using hb)) (by rw [e]; simp); simp at hb; omega
    refine hK I ι' _ _ _ _ (inv_step hT hI hx hnl hanc ho2 (by simp) hfr ?_ (by rw [put_defers]; exact hI.defers) hI.glob (fun b hb => ?_) (fun b hb => ?_) (fun _ => by simp) (fun hb => ?_) (fun i y hy hyc hij h => ?_))
    · rw [hR.dst]; exact putT_sim (hI.tm.mono (SubI.refl I) k2.subE) hv
    · have : b ≠ x.slot := fun e => hb ⟨x, hx, h1, by rw [h3]; decide, by rw [h4, e]; simp⟩
      rw [List.getElem?_set_ne (Ne.symm this)]
    · have := (hwr b hb).2.2
      rw [h4] at this
      simp at this; subst this
      rw [e4, List.getElem?_set_self hslt, List.getElem?_set_self (List.getElem?_eq_some_iff.1 g1).1]
    · have := (hwe hb).2; rw [h3] at this; cases this
    · cases e : ι' y.slot with
      | none => rfl
      | some c => exact absurd (hnew _ h (by rw [e]; simp)) (hT.slot i j y x hij hy hx hyc h3)
  | @write T h2 h1 hw h3 h4 h5 h6 h7 =>
    rw [if_pos hw]
    rw [← step1_congr hcell] at h4
    have hlen := inv_len hT hI hx hnl hanc h1 h3
    have hT' : ∀ b, T.contains b = true → b ∈ x.T := fun b hb => by rw [h6]; simp at hb; simp [hb]
    have hsub : ∀ b : Nat, Ob.live (restr T 0 x.h)[b]? = true → (restr T 0 x.h)[b]? = hS[b]? := fun b hb => by
      obtain ⟨g1, g2⟩ := restr_live hb
      rw [g2, inv_foot hT hI hx hnl hanc h1 (hT' b g1)]
    have hrl : (restr T 0 x.h).length = hS.length := by rw [restr_length, hlen]
    have hfr1 : Fresh ι (restr T 0 x.h) := fun b hb => hI.fresh b (by rw [← hrl]; exact hb)
    refine .inl (upon_of (step1_sim hE hih hR.op h4 (hI.out.rel.sub hsub) (fun _ => hfr1) hI.tm hI.glob) fun val w' ⟨I', ι', hv, ho'⟩ => ?_)
    have hle : hS.length ≤ h2.length := by rw [hlen]; exact h5
    have hml : (merge T 0 hS h2).length = h2.length := merge_length _ _ _ _ hle
    have hmg : ∀ b : Nat, (merge T 0 hS h2)[b]? = if b < hS.length ∧ T.contains b = false then hS[b]? else h2[b]? := fun b => by
      have := merge_get T hS h2 0 b hle
      rwa [Nat.zero_add] at this
    obtain ⟨k1, k2⟩ := rel_frame (hm := merge T 0 hS h2) hI.out.rel hsub ho'.ext ho'.rel (fun b hb hb' => by have := (ho'.new b hb hb').1; omega) (by rw [hml]; exact hle) fun b hb => by
      rw [hmg b]
      split
      · rename_i hc
        refine .inr ⟨rfl, ?_, hc.1⟩
        cases hl : Ob.live (restr T 0 x.h)[b]? with
        | false => rfl
        | true => have := (restr_live hl).1; rw [hc.2] at this; cases this
      · exact .inl rfl
    have ho2 : Out N I ι hS w I' ι' (merge T 0 hS h2) w' := ⟨k1, k2, fun b hb hb' => by have := ho'.new b hb hb'; omega⟩
    refine hK I' ι' _ _ _ _ (inv_step hT hI hx hnl hanc (hI.out.trans ho2) (by rw [hml]; exact hle) (ho2.fresh hI.fresh) ?_ (by rw [put_defers]; exact hI.defers) (hI.glob.mono k2.subI) (fun b hb => ?_) (fun b hb => ?_) (fun hb => absurd ⟨x, hx, h1, h3⟩ hb) (fun hb => ?_) (fun i y hy hyc hij h => ?_))
    · rw [hR.dst]; exact putT_sim (hI.tm.mono k2.subI k2.subE) hv
    · have hb' : b ∉ x.T := fun hm => hb ⟨x, hx, h1, by rw [h3]; decide, hm⟩
      rw [h6] at hb'
      simp only [List.mem_append, List.mem_range', not_or] at hb'
      rw [hmg b]
      split
      · rfl
      · rename_i hc
        have hge : hS.length ≤ b := by
          rcases Nat.lt_or_ge b hS.length with hl | hl
          · exact absurd ⟨hl, by simpa using hb'.1⟩ hc
          · exact hl
        have hge2 : h2.length ≤ b := by
          rcases Nat.lt_or_ge b h2.length with hl | hl
          · exact absurd ⟨b - x.h.length, by omega, by omega⟩ hb'.2
          · exact hl
        rw [List.getElem?_eq_none hge, List.getElem?_eq_none hge2]
    · have hb' := (hwr b hb).2.2
      rw [e4, hmg b, merge_get T x.h h2 0 b h5, Nat.zero_add, ← hlen]
      rw [h6] at hb'
      simp only [List.mem_append, List.mem_range'] at hb'
      have : ¬ (b < hS.length ∧ T.contains b = false) := fun hc => by
        rcases hb' with hb' | ⟨i, _, hb'⟩
        · have := hc.2; simp [hb'] at this
        · have := hc.1; omega
      rw [if_neg this, if_neg this]
    · rw [e4, hml, merge_length _ _ _ _ h5]
    · cases e : ι' y.slot with
      | none => rfl
      | some c =>
        have h8 := ho'.new _ h (by rw [e]; simp)
        have h9 := hT.slotlt i y hy hyc
        have h10 := hI.low
        omega
end
end Am
