/- Regions that draw their order: the whole. -/
import Derived.Test.YtnfcgeplleikdaaDoorAmDraw2
namespace Am
open Go (IntKind BinOp UnOp Obj Value World Addr Program TypeDesc TypeId Operand Act Sem Result Next FuncId Frame Item Arrives)

def tmAt (st : List Step) (s' : St) (k : Nat) : List V := ((st[k]?).map Step.tm).getD s'.tm
def hAt (st : List Step) (s' : St) (k : Nat) : Heap := ((st[k]?).map Step.h).getD s'.h

section
variable {P : Program} {N : Nat → Nat} {tb : TypeId → Option TI} {Γ : Env} {ih : Runs} {st : List Step} {I0 I : Imm} {ι0 ι : Emb} {w0 w : World} {listed : Array Bool} {h0 hS : Heap} {tS : List V} {a : Act} {s s' : St} {l : List Oper}

theorem tmAt_cons {x : Step} {k : Nat} : tmAt (x :: st) s' (k + 1) = tmAt st s' k := by simp [tmAt]
theorem hAt_cons {x : Step} {k : Nat} : hAt (x :: st) s' (k + 1) = hAt st s' k := by simp [hAt]

structure TSpec (Γ : Env) (ih : Runs) (l : List Oper) (slot : Nat) (s : St) (st : List Step) (s' : St) : Prop where
  len : st.length = l.length
  op : ∀ (k : Nat) x, st[k]? = some x → l[k]? = some x.op
  tm0 : tmAt st s' 0 = s.tm
  h0 : hAt st s' 0 = s.h
  ok : ∀ (k : Nat) x, st[k]? = some x → StepOK Γ ih x (tmAt st s' (k + 1)) (hAt st s' (k + 1))
  slot : ∀ (k : Nat) x, st[k]? = some x → x.op.op.cls Γ = 1 → slot ≤ x.slot ∧ x.slot < slot + slots Γ l
  apart : ∀ (i j : Nat) x y, i < j → st[i]? = some x → st[j]? = some y → x.op.op.cls Γ = 1 → y.op.op.cls Γ = 1 → x.slot < y.slot

theorem slots_cons {o : Oper} : slots Γ (o :: l) = (if o.op.cls Γ = 1 then 1 else 0) + slots Γ l := by
  unfold slots
  rw [List.filter_cons]
  by_cases h : o.op.cls Γ = 1
  · simp [h]; omega
  · simp [h]

theorem tspec_cons {o : Oper} {x : Step} {slot : Nat} {s1 : St} (hs : TSpec Γ ih l (if o.op.cls Γ = 1 then slot + 1 else slot) s1 st s') (hx1 : x.op = o) (hx2 : x.tm = s.tm) (hx3 : x.h = s.h) (hx4 : x.slot = slot) (hok : StepOK Γ ih x s1.tm s1.h) :
    TSpec Γ ih (o :: l) slot s (x :: st) s' := by
  refine ⟨by simp [hs.len], fun k y hy => ?_, by simp [tmAt, hx2], by simp [hAt, hx3], fun k y hy => ?_, fun k y hy hc => ?_, fun i j y z hij hy hz hc hc' => ?_⟩
  · cases k with
    | zero => simp at hy; subst hy; simp [hx1]
    | succ k => simpa using hs.op k y (by simpa using hy)
  · rw [tmAt_cons, hAt_cons]
    cases k with
    | zero => simp at hy; subst hy; rw [hs.tm0, hs.h0]; exact hok
    | succ k => exact hs.ok k y (by simpa using hy)
  · rw [slots_cons]
    cases k with
    | zero => simp at hy; subst hy; rw [hx1] at hc; rw [hx4, if_pos hc]; omega
    | succ k =>
      have := hs.slot k y (by simpa using hy) hc
      split at this <;> rename_i h <;> simp only [h, if_true, if_false] <;> omega
  · cases j with
    | zero => omega
    | succ j =>
      cases i with
      | zero =>
        simp at hy; subst hy
        rw [hx1] at hc
        have := hs.slot j z (by simpa using hz) hc'
        rw [if_pos hc] at this
        omega
      | succ i => exact hs.apart i j y z (by omega) (by simpa using hy) (by simpa using hz) hc hc'

theorem traceD_spec : ∀ {l : List Oper} {slot : Nat} {s : St} {st : List Step} {s' : St}, traceD Γ ih l slot s = some (st, s') → TSpec Γ ih l slot s st s'
  | [], slot, s, st, s', h => by
    simp only [traceD, Option.some.injEq] at h
    obtain ⟨rfl, rfl⟩ := Prod.mk.inj h
    exact ⟨rfl, fun k x hx => by simp at hx, rfl, rfl, fun k x hx => by simp at hx, fun k x hx => by simp at hx, fun i j x y _ hx => by simp at hx⟩
  | o :: l, slot, s, st, s', h => by
    simp only [traceD] at h
    split at h
    · rename_i hw
      split at h
      · rename_i hc
        simp only [Option.bind_eq_some_iff, Option.map_eq_some_iff] at h
        obtain ⟨T, hT, ⟨v, r⟩, hr, ⟨st1, s1⟩, hq, he⟩ := h
        obtain ⟨rfl, rfl⟩ := Prod.mk.inj he
        exact tspec_cons (x := ⟨o, s.tm, s.h, true, v, T, slot⟩) (by rw [if_neg (by rw [hc]; decide)]; exact traceD_spec hq) rfl rfl rfl rfl (.quiet rfl hw hc hr)
      · rename_i hc
        simp only [Option.bind_eq_some_iff, Option.map_eq_some_iff] at h
        obtain ⟨⟨v, r⟩, hr, ⟨st1, s1⟩, hq, he⟩ := h
        obtain ⟨rfl, rfl⟩ := Prod.mk.inj he
        exact tspec_cons (x := ⟨o, s.tm, s.h, true, v, [slot], slot⟩) (by rw [if_pos hc]; exact traceD_spec hq) rfl rfl rfl rfl (.made rfl hw hc rfl hr)
      · rename_i hn0 hn1
        have hc : o.op.cls Γ = 2 := by
          rcases cls_cases Γ o.op with h | h | h
          · exact absurd h hn0
          · exact absurd h hn1
          · exact h
        simp only [Option.bind_eq_some_iff] at h
        obtain ⟨T, hT, ⟨v, r⟩, hr, h⟩ := h
        have hfl : ∀ b ∈ T.filter (fun b => liveB s.h[b]?), liveB s.h[b]? = true := fun b hb => by simpa using (List.mem_filter.1 hb).2
        split at h
        · rename_i hle
          simp only [Option.map_eq_some_iff] at h
          obtain ⟨⟨st1, s1⟩, hq, he⟩ := h
          obtain ⟨rfl, rfl⟩ := Prod.mk.inj he
          exact tspec_cons (x := ⟨o, s.tm, s.h, true, v, _, slot⟩) (by rw [if_neg (by rw [hc]; decide)]; exact traceD_spec hq) rfl rfl rfl rfl (.write rfl hw hc hr hle rfl hfl)
        · cases h
    · rename_i hw
      simp only [Option.map_eq_some_iff] at h
      obtain ⟨⟨st1, s1⟩, hq, he⟩ := h
      obtain ⟨rfl, rfl⟩ := Prod.mk.inj he
      exact tspec_cons (x := ⟨o, s.tm, s.h, false, undef, [], slot⟩) (traceD_spec hq) rfl rfl rfl rfl (.skip rfl (by simpa using hw) rfl)

theorem compats_spec : ∀ {st : List Step} {i : Nat}, compats Γ i st = true → ∀ (p q : Nat) x y, p < q → st[p]? = some x → st[q]? = some y → compat Γ (i + p) x y = true
  | [], i, _, p, q, x, y, _, hx, _ => by simp at hx
  | z :: st, i, h, p, q, x, y, hpq, hx, hy => by
    simp only [compats, Bool.and_eq_true, List.all_eq_true] at h
    cases q with
    | zero => omega
    | succ q =>
      cases p with
      | zero =>
        simp at hx; subst hx
        exact h.1 y (List.mem_of_getElem? (by simpa using hy))
      | succ p =>
        have := compats_spec h.2 p q x y (by omega) (by simpa using hx) (by simpa using hy)
        rwa [Nat.add_assoc, Nat.add_comm 1 p] at this

theorem okTmps_spec (h : okTmps l = true) {i j : Nat} {x y : Oper} (hij : i < j) (hx : l[i]? = some x) (hy : l[j]? = some y) : i ∈ y.anc ∨ x.apart y = true := by
  unfold okTmps at h
  simp only [List.all_eq_true, List.mem_range] at h
  have := h j (List.getElem?_eq_some_iff.1 hy).1 i hij
  simp only [hx, hy, Bool.or_eq_true, List.contains_eq_mem, decide_eq_true_eq] at this
  exact this

theorem traceOK {slot : Nat} (hs : TSpec Γ ih l slot s st s') (hc : compats Γ 0 st = true) (ht : okTmps l = true) (hl : slot + slots Γ l ≤ s.h.length) : TraceOK Γ ih st (tmAt st s') (hAt st s') where
  step k x hx := ⟨by simp [tmAt, hx], by simp [hAt, hx], hs.ok k x hx⟩
  apart i j x y hij hx hy := okTmps_spec ht hij (hs.op i x hx) (hs.op j y hy)
  comp i j x y hij hx hy := by have := compats_spec hc i j x y hij hx hy; rwa [Nat.zero_add] at this
  slot i j x y hij hx hy h1 h2 := by
    rcases Nat.lt_or_gt_of_ne hij with h | h
    · have := hs.apart i j x y h hx hy h1 h2; omega
    · have := hs.apart j i y x h hy hx h2 h1; omega
  slotlt i x hx h1 := by rw [hs.h0]; have := (hs.slot i x hx h1).2; omega

theorem count_set {l : List Bool} {i : Nat} (hi : i < l.length) (h : l[i] = false) : (l.set i true).count false + 1 = l.count false := by
  induction l generalizing i with
  | nil => simp at hi
  | cons b l ihl =>
    cases i with
    | zero => simp at h; subst h; simp
    | succ i =>
      have := ihl (i := i) (by simpa using hi) (by simpa using h)
      cases b <;> simp [List.count_cons] <;> omega

theorem okAnc_spec {ops : Array Go.Oper} (h : okAnc ops l = true) {j y : Nat} {x : Oper} {o : Go.Oper} (hx : l[j]? = some x) (ho : ops[j]? = some o) (hy : y ∈ x.anc) : ∃ e ∈ o.after, Go.Region.binds .any e = true ∧ (y = e.on ∨ ∃ z, l[e.on]? = some z ∧ y ∈ z.anc) := by
  unfold okAnc at h
  simp only [List.all_eq_true, List.mem_range] at h
  have := h j (List.getElem?_eq_some_iff.1 hx).1
  simp only [hx, ho, List.all_eq_true] at this
  have := this y hy
  simp only [List.any_eq_true, Bool.and_eq_true, Bool.or_eq_true, beq_iff_eq] at this
  obtain ⟨e, he, hb, h2⟩ := this
  refine ⟨e, by simpa using he, hb, ?_⟩
  rcases h2 with h2 | h2
  · exact .inl h2
  · cases hz : l[e.on]? with
    | none => rw [hz] at h2; simp at h2
    | some z => rw [hz] at h2; exact .inr ⟨z, rfl, by simpa using h2⟩

theorem okBack_spec {ops : Array Go.Oper} (h : okBack ops = true) {j : Nat} {o : Go.Oper} (ho : ops[j]? = some o) {e : Go.Edge} (he : e ∈ o.after) (hb : Go.Region.binds .any e = true) : e.on < j := by
  unfold okBack at h
  simp only [List.all_eq_true, List.mem_range] at h
  have := h j (Array.getElem?_eq_some_iff.1 ho).1
  simp only [ho, List.all_eq_true, Bool.or_eq_true, Bool.not_eq_true', decide_eq_true_eq] at this
  rcases this e (by simpa using he) with h2 | h2
  · rw [hb] at h2; cases h2
  · exact h2

theorem any_sim {ops : Array Go.Oper} {Q : Go.Exit → Act → World → Prop} (hE : EnvOK Γ P N tb) (hih : RunsOK Γ P N tb ih) (hT : TraceOK Γ ih st (tmAt st s') (hAt st s')) (hslot : ∀ (i : Nat) y, st[i]? = some y → y.op.op.cls Γ = 1 → h0.length ≤ y.slot)
    (hlen : st.length = ops.size) (hlo : ∀ (k : Nat) x, st[k]? = some x → l[k]? = some x.op) (hops : ∀ (k : Nat) x, st[k]? = some x → ∃ o, ops[k]? = some o ∧ OperR N tb ops o x.op) (hanc : okAnc ops l = true) (hback : okBack ops = true)
    (hll : l.length = st.length) (hQ : ∀ a w, Post N I0 ι0 h0 w0 s' a w → Q .normal a w) : ∀ (fuel : Nat) {listed : Array Bool} {I : Imm} {ι : Emb} {hS : Heap} {tS : List V} {a : Act} {w : World},
      listed.toList.count false = fuel → Inv Γ N I0 ι0 h0 w0 st (tmAt st s') (hAt st s') listed I ι hS tS a w → Go.wpAny P .any ops Q fuel listed a w
  | fuel, listed, I, ι, hS, tS, a, w, hcnt, hI => by
    have hready : ∀ j ∈ Go.Region.ready .any ops listed, ¬ Ld listed j ∧ ∃ o x, ops[j]? = some o ∧ st[j]? = some x ∧ OperR N tb ops o x.op ∧ ∀ y ∈ x.op.anc, Ld listed y := fun j hj => by
      obtain ⟨h1, o, ho, h2⟩ := Go.mem_ready.1 hj
      have hjl : j < st.length := by rw [hlen]; exact (Array.getElem?_eq_some_iff.1 ho).1
      have hx : st[j]? = some st[j] := List.getElem?_eq_getElem hjl
      obtain ⟨o', ho', hR⟩ := hops j _ hx
      rw [ho] at ho'; injection ho' with ho'; subst ho'
      refine ⟨fun h => ?_, o, st[j], ho, hx, hR, fun y hy => ?_⟩
      · have hjs : j < listed.size := by rw [hI.size]; exact hjl
        simp [Ld, hjs] at h h1
        rw [h] at h1; cases h1
      · obtain ⟨e, he, hb, h3⟩ := okAnc_spec hanc (hlo j _ hx) ho hy
        have hle := h2 e he hb
        rcases h3 with rfl | ⟨z, hz, hyz⟩
        · exact hle
        · have hel : e.on < st.length := by rw [← hll]; exact (List.getElem?_eq_some_iff.1 hz).1
          have hxe : st[e.on]? = some st[e.on] := List.getElem?_eq_getElem hel
          have := hlo _ _ hxe
          rw [hz] at this; injection this with this; subst this
          exact hI.closed e.on _ hle hxe y hyz
    cases fuel with
    | zero =>
      have hall : ∀ i, i < st.length → Ld listed i := fun i hi => by
        have his : i < listed.size := by rw [hI.size]; exact hi
        have hnc : false ∉ listed.toList := List.count_eq_zero.1 hcnt
        have : listed[i] ∈ listed.toList := by simp
        cases e : listed[i] with
        | false => rw [e] at this; exact absurd this hnc
        | true => simp [Ld, his, e]
      refine ⟨List.eq_nil_iff_forall_not_mem.2 fun j hj => ?_, ?_⟩
      · obtain ⟨h1, o, x, _, hx, _⟩ := hready j hj
        exact h1 (hall j (List.getElem?_eq_some_iff.1 hx).1)
      · have e1 : hS = s'.h := by
          apply List.ext_getElem?
          intro b
          rw [hI.heap b st.length (Nat.le_refl _) fun i ⟨x, hx, _⟩ => by
            have := (List.getElem?_eq_some_iff.1 hx).1
            exact ⟨fun _ => this, fun _ => hall i this⟩]
          simp [hAt]
        have e2 : tS = s'.tm := by
          apply List.ext_getElem?
          intro t
          rw [hI.tmp t st.length (Nat.le_refl _) fun i x hx _ => by
            have := (List.getElem?_eq_some_iff.1 hx).1
            exact ⟨fun _ => this, fun _ => hall i this⟩]
          simp [tmAt]
        subst e1; subst e2
        exact hQ a w ⟨hI.defers, I, ι, hI.tm, hI.out⟩
    | succ fuel =>
      refine ⟨fun hnil => ?_, fun j hj => ?_⟩
      · exfalso
        -- the first that is not listed is ready
        have : ∃ i, i < listed.size ∧ ¬ Ld listed i := by
          have hp : 0 < listed.toList.count false := by omega
          obtain ⟨i, hi, he⟩ := List.getElem_of_mem (List.count_pos_iff.1 hp)
          simp only [Array.length_toList] at hi
          exact ⟨i, hi, by simp at he; simp [Ld, hi, he]⟩
        have key : ∀ n i, i ≤ n → i < listed.size → ¬ Ld listed i → False := by
          intro n
          induction n with
          | zero =>
            intro i hi his hl
            have : i = 0 := by omega
            subst this
            have hio : 0 < ops.size := by rw [← hlen, ← hI.size]; exact his
            have : (0 : Nat) ∈ Go.Region.ready .any ops listed := Go.mem_ready.2 ⟨by simpa [Ld, his] using hl, ops[0], by simp [hio], fun e he hb => by have := okBack_spec hback (j := 0) (o := ops[0]) (by simp [hio]) he hb; omega⟩
            rw [hnil] at this; cases this
          | succ n ihn =>
            intro i hi his hl
            have hio : i < ops.size := by rw [← hlen, ← hI.size]; exact his
            have : i ∈ Go.Region.ready .any ops listed := Go.mem_ready.2 ⟨by simpa [Ld, his] using hl, ops[i], by simp [hio], fun e he hb => by
              have hlt := okBack_spec hback (j := i) (o := ops[i]) (by simp [hio]) he hb
              by_cases hc : Ld listed e.on
              · exact hc
              · exact (ihn e.on (by omega) (by omega) hc).elim⟩
            rw [hnil] at this; cases this
        obtain ⟨i, hi, hl⟩ := this
        exact key i i (Nat.le_refl _) hi hl
      · obtain ⟨h1, o, x, ho, hx, hR, hanc'⟩ := hready j hj
        refine op_draw hT hI hx h1 hanc' hE hih hslot ho hR fun I' ι' hS' tS' a' w' hI' => any_sim hE hih hT hslot hlen hlo hops hanc hback hll hQ fuel ?_ hI'
        have hjs : j < listed.size := by rw [hI.size]; exact (List.getElem?_eq_some_iff.1 hx).1
        have := count_set (l := listed.toList) (i := j) (by simpa using hjs) (by simpa [Ld, hjs] using h1)
        rw [Array.toList_setIfInBounds]
        omega

theorem gones {k : Nat} (hr : Rel N I ι h0 w) (e : w0.heap = w.heap) (h1 : w0.os = w.os) (h2 : w0.tape = w.tape) (h3 : w0.output = w.output) : Out N I ι h0 w I ι (h0 ++ List.replicate k .gone) w0 := by
  have hl : ∀ b : Nat, Ob.live (h0 ++ List.replicate k Ob.gone)[b]? = true → (h0 ++ List.replicate k Ob.gone)[b]? = h0[b]? := fun b hb => by
    rcases Nat.lt_or_ge b h0.length with h | h
    · rw [List.getElem?_append_left h]
    · rw [List.getElem?_append_right h, List.getElem?_replicate] at hb
      split at hb <;> cases hb
  refine ⟨(hr.sub hl).same e, ⟨fun _ _ h => h, fun _ _ h => h, fun _ _ h => .inl h, fun b c hb hlv => .inl ⟨b, c, hb, rfl, by rw [← hl b hlv]; exact hlv⟩, fun _ _ _ => by rw [e], by rw [e]; exact Nat.le_refl _, h1, h2, h3, by simp⟩, fun b h1 h2 => absurd h1 h2⟩

theorem draw_sim {ops : Array Go.Oper} {id : Nat} (hE : EnvOK Γ P N tb) (hih : RunsOK Γ P N tb ih) (hc : compOps N tb ops ops.toList [] = some l) (hok : okTmps l = true ∧ okAnc ops l = true ∧ okBack ops = true) (hx : runRegion Γ ih true l s = some s')
    (hr : Rel N I ι s.h w) (hf : Fresh ι s.h) (ht : TmR N I ι s.tm a.tmps) (hd : a.defers = []) (hg : GlobOK Γ N I) : (Go.Code.region id ops true).wp P (fun e a' w' => e = .normal ∧ Post N I ι s.h w s' a' w') a w := by
  unfold runRegion at hx
  rw [if_pos rfl] at hx
  simp only [Option.bind_eq_some_iff] at hx
  obtain ⟨⟨st, s1⟩, htr, hx⟩ := hx
  split at hx
  · rename_i hcs
    injection hx with hx
    dsimp only at hx hcs
    subst hx
    have hs := traceD_spec htr
    have hT := traceOK hs hcs hok.1 (by simp)
    obtain ⟨h1, h2⟩ := compOps_spec hc
    have hl1 : l.length = ops.size := by simpa using h1
    refine Go.wp_region_any hE.mixed (any_sim (l := l) hE hih hT (fun i y hy hyc => (hs.slot i y hy hyc).1) (by rw [hs.len, hl1]) hs.op (fun k x hx => ?_) hok.2.1 hok.2.2 hs.len.symm (fun a w h => ⟨rfl, h⟩) ops.size (by simp)
      (I := I) (ι := ι) (hS := s.h ++ List.replicate (slots Γ l) .gone) (tS := s.tm) ?_)
    · have hk : k < ops.size := by rw [← hl1, ← hs.len]; exact (List.getElem?_eq_some_iff.1 hx).1
      obtain ⟨x', hx', hR⟩ := h2 k ops[k] (by simp [hk])
      rw [hs.op k x hx] at hx'; injection hx' with hx'; subst hx'
      exact ⟨ops[k], by simp [hk], hR⟩
    · have ho : Out N I ι s.h w I ι (s.h ++ List.replicate (slots Γ l) .gone) { w with drawn := w.drawn + 1 } := gones hr rfl rfl rfl rfl
      have hno : ∀ i, ¬ Ld (Array.replicate ops.size false) i := fun i => by simp [Ld, Array.getElem?_replicate]; split <;> simp
      refine ⟨by simp [hs.len, hl1], fun j x hj => absurd hj (hno j), ho, by rw [hs.h0]; exact Nat.le_refl _, ho.fresh hf, ht, hd, hg, fun b k hk hc => ?_, fun k hk hc => ?_, fun t k hk hc => ?_, by rw [hs.tm0], fun i x hx hxc _ => hf _ (hs.slot i x hx hxc).1⟩
      · have := frames hT (b := b) (Nat.zero_le k) hk fun i _ hi hw => hno i ((hc i hw).2 hi)
        rw [this, hs.h0]
      · have := lens hT (Nat.zero_le k) hk fun i _ hi hw => hno i ((hc i hw).2 hi)
        rw [this, hs.h0]
      · have := tms hT (t := t) (Nat.zero_le k) hk fun i x _ hi hx hd => hno i ((hc i x hx hd).2 hi)
        rw [this, hs.tm0]
  · cases hx
end
end Am
