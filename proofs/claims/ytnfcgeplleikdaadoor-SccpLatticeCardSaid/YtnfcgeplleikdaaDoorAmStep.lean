/- How the relation goes on when a block is made or written. -/
import Derived.Test.YtnfcgeplleikdaaDoorAmRel
namespace Am
open Go (IntKind BinOp UnOp Obj Value World Addr Program)
section
variable {N : Nat → Nat} {I I' I₁ I₂ : Imm} {ι ι' ι₁ ι₂ : Emb} {h h₁ h₂ : Heap} {w w' w₁ w₂ : World}

theorem SubI.refl (I : Imm) : SubI I I := fun _ _ h => h
theorem SubE.refl (ι : Emb) : SubE ι ι := fun _ _ h => h
theorem SubI.trans (a : SubI I I₁) (b : SubI I₁ I₂) : SubI I I₂ := fun _ _ h => b _ _ (a _ _ h)
theorem SubE.trans (a : SubE ι ι₁) (b : SubE ι₁ ι₂) : SubE ι ι₂ := fun _ _ h => b _ _ (a _ _ h)

theorem Ext.trans (a : Ext I ι h w I₁ ι₁ h₁ w₁) (b : Ext I₁ ι₁ h₁ w₁ I₂ ι₂ h₂ w₂) : Ext I ι h w I₂ ι₂ h₂ w₂ where
  subI := a.subI.trans b.subI
  subE := a.subE.trans b.subE
  newI c o hc := by
    rcases b.newI c o hc with h1 | h1
    · exact a.newI c o h1
    · exact .inr (Nat.le_trans a.size h1)
  newE n c hc hl := by
    rcases b.newE n c hc hl with ⟨n', c', h1, e1, h2⟩ | h1
    · rcases a.newE n' c' h1 h2 with ⟨n2, c2, h3, e3, h4⟩ | h3
      · exact .inl ⟨n2, c2, h3, e3.trans e1, h4⟩
      · exact .inr (e1 ▸ h3)
    · exact .inr (Nat.le_trans a.size h1)
  keep c hc hn := by
    rw [b.keep c (Nat.lt_of_lt_of_le hc a.size) fun n p hn' hp => ?_, a.keep c hc hn]
    cases hl : Ob.live h₁[n]? with
    | false => rfl
    | true =>
      rcases a.newE n p hn' hl with ⟨n', p', h1, e1, h2⟩ | h1
      · rw [hn n' p' h1 (e1.trans hp)] at h2; cases h2
      · omega
  size := Nat.le_trans a.size b.size
  os := b.os.trans a.os
  tape := b.tape.trans a.tape
  output := b.output.trans a.output
  len := Nat.le_trans a.len b.len

theorem RowR.mono (hI : SubI I I') (hι : SubE ι ι') {z : Nat} {els : List (List V)} {cs : Array Value} (h : RowR N I ι z els cs) : RowR N I' ι' z els cs :=
  ⟨h.1, h.2.mono hI hι⟩
theorem MapR.mono (hI : SubI I I') (hι : SubE ι ι') {es : List (V × V)} {ents : Array Go.MapEntry} (h : MapR N I ι es ents) : MapR N I' ι' es ents :=
  ⟨h.1, fun k e x he hx => ⟨(h.2 k e x he hx).1.mono hI hι, (h.2 k e x he hx).2.mono hI hι⟩⟩

/-- The same memory, another count of draws. -/
theorem Rel.same (hr : Rel N I ι h w) (e : w'.heap = w.heap) : Rel N I ι h w' where
  imm c o hc := by rw [e]; exact hr.imm c o hc
  row b c z els h1 h2 := by rw [e]; exact hr.row b c z els h1 h2
  map b c es h1 h2 := by rw [e]; exact hr.map b c es h1 h2
  inj := hr.inj
  lt b c h1 := by rw [e]; exact hr.lt b c h1
theorem Ext.same (e : w'.heap = w.heap) (h1 : w'.os = w.os) (h2 : w'.tape = w.tape) (h3 : w'.output = w.output) : Ext I ι h w I ι h w' :=
  ⟨fun _ _ h => h, fun _ _ h => h, fun _ _ h => .inl h, fun b c h1 h2 => .inl ⟨b, c, h1, rfl, h2⟩, fun _ _ _ => by rw [e], by rw [e]; exact Nat.le_refl _, h1, h2, h3, Nat.le_refl _⟩

/-- What an abstract object says of one of the model's, of so many cells. -/
def ObR (N : Nat → Nat) (I : Imm) (ι : Emb) (n : Nat) : Ob → Obj → Prop
  | .row z els, o => ∃ cs t, o = .cells cs t (0, 0) ∧ cs.size = n ∧ RowR N I ι z els cs
  | .map es, o => ∃ ents clk, o = .map ents clk ∧ MapR N I ι es ents
  | .gone, _ => True
theorem ObR.mono (hI : SubI I I') (hι : SubE ι ι') {n : Nat} {ob : Ob} {o : Obj} (h : ObR N I ι n ob o) : ObR N I' ι' n ob o := by
  cases ob with
  | row z els => obtain ⟨cs, t, e, hn, hr⟩ := h; exact ⟨cs, t, e, hn, hr.mono hI hι⟩
  | map es => obtain ⟨cs, t, e, hr⟩ := h; exact ⟨cs, t, e, hr.mono hI hι⟩
  | gone => trivial

theorem Rel.ob (hr : Rel N I ι h w) {b : Nat} {c : Nat × Nat} {ob : Ob} (hb : ι b = some c) (ho : h[b]? = some ob) (hl : Ob.live (some ob) = true) : I c.1 = none ∧ ∃ o, w.heap[c.1]? = some o ∧ ObR N I ι c.2 ob o := by
  cases ob with
  | row z els => obtain ⟨h1, cs, t, h2, hn, h3⟩ := hr.row b c z els hb ho; exact ⟨h1, _, h2, cs, t, rfl, hn, h3⟩
  | map es => obtain ⟨h1, cs, t, h2, h3⟩ := hr.map b c es hb ho; exact ⟨h1, _, h2, cs, t, rfl, h3⟩
  | gone => simp [Ob.live, liveB] at hl

theorem Rel.mk' (imm : ∀ c o, I c = some o → w.heap[c]? = some o)
    (ob : ∀ b c ob, ι b = some c → h[b]? = some ob → Ob.live (some ob) = true → I c.1 = none ∧ ∃ o, w.heap[c.1]? = some o ∧ ObR N I ι c.2 ob o)
    (inj : ∀ b b' c c', ι b = some c → ι b' = some c' → c.1 = c'.1 → Ob.live h[b]? = true → Ob.live h[b']? = true → b = b')
    (lt : ∀ b c, ι b = some c → c.1 < w.heap.size) : Rel N I ι h w where
  imm := imm
  row b c z els h1 h2 := by
    obtain ⟨h3, o, h4, cs, t, rfl, hn, h5⟩ := ob b c _ h1 h2 rfl
    exact ⟨h3, cs, t, h4, hn, h5⟩
  map b c es h1 h2 := by
    obtain ⟨h3, o, h4, cs, t, rfl, h5⟩ := ob b c _ h1 h2 rfl
    exact ⟨h3, cs, t, h4, h5⟩
  inj := inj
  lt := lt

def upd (ι : Emb) (b : Nat) (c : Nat × Nat) : Emb := fun n => if n = b then some c else ι n
theorem upd_sub {b : Nat} {c : Nat × Nat} (hb : ι b = none) : SubE ι (upd ι b c) := fun n d hn => by
  unfold upd; split
  · rename_i e; subst e; rw [hb] at hn; cases hn
  · exact hn
theorem upd_self {b : Nat} {c d : Nat × Nat} (h : upd ι b c b = some d) : d = c := by unfold upd at h; rw [if_pos rfl] at h; injection h with h; exact h.symm
theorem upd_old {b n : Nat} {c d : Nat × Nat} (hn : n ≠ b) (h : upd ι b c n = some d) : ι n = some d := by unfold upd at h; rwa [if_neg hn] at h

/-- A new block. -/
theorem rel_put {slot : Option Nat} {ob : Ob} {b m : Nat} {h' : Heap} (hr : Rel N I ι h w) (hp : put h slot ob = some (b, h')) (hb : ι b = none) {o : Obj} (ho : ObR N I ι m ob o) :
    Rel N I (upd ι b (w.heap.size, m)) h' (w.alloc o) ∧ Ext I ι h w I (upd ι b (w.heap.size, m)) h' (w.alloc o) ∧ b < h'.length ∧ h'[b]? = some ob := by
  have hsub := upd_sub (c := (w.heap.size, m)) hb
  have hI : I w.heap.size = none := by
    cases e : I w.heap.size with
    | none => rfl
    | some o => have := hr.imm _ _ e; simp at this
  have hheap : ∀ c, c < w.heap.size → (w.alloc o).heap[c]? = w.heap[c]? := fun c hc => by
    show (w.heap.push o)[c]? = _
    rw [Array.getElem?_push, if_neg (by omega)]
  have hnew : (w.alloc o).heap[w.heap.size]? = some o := by
    show (w.heap.push o)[w.heap.size]? = _
    rw [Array.getElem?_push, if_pos rfl]
  have hh : h'[b]? = some ob ∧ (∀ n, n ≠ b → n < h.length → h'[n]? = h[n]?) ∧ b < h'.length ∧ h.length ≤ h'.length ∧ (∀ n, n ≠ b → h.length ≤ n → h'[n]? = none) := by
    unfold put at hp
    cases slot with
    | none =>
      injection hp with hp
      obtain ⟨rfl, rfl⟩ := Prod.mk.inj hp
      refine ⟨by simp, fun n hn hl => by rw [List.getElem?_append_left hl], by simp, by simp, fun n hn hl => by simp; omega⟩
    | some s =>
      dsimp only at hp
      split at hp
      · rename_i hs
        injection hp with hp
        obtain ⟨rfl, rfl⟩ := Prod.mk.inj hp
        have hl : s < h.length := (List.getElem?_eq_some_iff.1 hs).1
        refine ⟨by simp [hl], fun n hn _ => by rw [List.getElem?_set_ne (Ne.symm hn)], by simpa using hl, by simp, fun n hn hl' => by simp; omega⟩
      · cases hp
  obtain ⟨g1, g2, g3, g4, g5⟩ := hh
  have hlive : ∀ n, n ≠ b → Ob.live h'[n]? = true → Ob.live h[n]? = true := fun n hn hl => by
    rcases Nat.lt_or_ge n h.length with hlt | hge
    · rwa [g2 n hn hlt] at hl
    · rw [g5 n hn hge] at hl; simp [Ob.live, liveB] at hl
  refine ⟨Rel.mk' (fun c o' hc => ?_) (fun n c ob' hn hob hl => ?_) (fun n n' c c' h1 h2 hcc h3 h4 => ?_) (fun n c hn => ?_), ?_, g3, g1⟩
  · have := hr.imm c o' hc
    rw [hheap c (Array.getElem?_eq_some_iff.1 this).1]; exact this
  · by_cases e : n = b
    · subst e
      rw [g1] at hob; injection hob with hob; subst hob
      obtain rfl := upd_self hn
      exact ⟨hI, o, hnew, ho.mono (SubI.refl I) hsub⟩
    · have hn' := upd_old e hn
      have hl' : Ob.live h[n]? = true := hlive n e (by rw [hob]; exact hl)
      have hlt : n < h.length := by
        rcases Nat.lt_or_ge n h.length with hlt | hge
        · exact hlt
        · rw [g5 n e hge] at hob; cases hob
      rw [g2 n e hlt] at hob
      obtain ⟨h1, o', h2, h3⟩ := hr.ob hn' hob hl
      exact ⟨h1, o', by rw [hheap _ (Array.getElem?_eq_some_iff.1 h2).1]; exact h2, h3.mono (SubI.refl I) hsub⟩
  · by_cases e : n = b
    · by_cases e' : n' = b
      · rw [e, e']
      · subst e
        obtain rfl := upd_self h1
        have := hr.lt n' c' (upd_old e' h2)
        dsimp only at hcc; omega
    · by_cases e' : n' = b
      · subst e'
        obtain rfl := upd_self h2
        have := hr.lt n c (upd_old e h1)
        dsimp only at hcc; omega
      · exact hr.inj n n' c c' (upd_old e h1) (upd_old e' h2) hcc (hlive n e h3) (hlive n' e' h4)
  · by_cases e : n = b
    · subst e
      obtain rfl := upd_self hn
      simp
    · have := hr.lt n c (upd_old e hn)
      simp; omega
  · exact ⟨SubI.refl I, hsub, fun _ _ hc => .inl hc, fun n c hn hl => by
      by_cases e : n = b
      · subst e
        obtain rfl := upd_self hn
        exact .inr (Nat.le_refl _)
      · exact .inl ⟨n, c, upd_old e hn, rfl, hlive n e hl⟩, fun c hc _ => hheap c hc, by simp, rfl, rfl, rfl, g4⟩

/-- One block of the model's becomes another object. -/
structure Blk (w w' : World) (c : Nat) (o : Obj) : Prop where
  size : w'.heap.size = w.heap.size
  this : w'.heap[c]? = some o
  other : ∀ d, d ≠ c → w'.heap[d]? = w.heap[d]?
  os : w'.os = w.os
  tape : w'.tape = w.tape
  output : w'.output = w.output

/-- An own block is written. -/
theorem rel_upd {b : Nat} {c : Nat × Nat} {ob ob' : Ob} {o : Obj} (hr : Rel N I ι h w) (hb : ι b = some c) (hob : h[b]? = some ob) (hl : Ob.live (some ob) = true) (hw : Blk w w' c.1 o) (ho : ObR N I ι c.2 ob' o) :
    Rel N I ι (h.set b ob') w' ∧ Ext I ι h w I ι (h.set b ob') w' := by
  obtain ⟨hI, o0, ho0, _⟩ := hr.ob hb hob hl
  have hlt : b < h.length := (List.getElem?_eq_some_iff.1 hob).1
  have hlive : ∀ n, Ob.live (h.set b ob')[n]? = true → Ob.live h[n]? = true := fun n hn => by
    by_cases e : n = b
    · subst e; rw [hob]; exact hl
    · rwa [List.getElem?_set_ne (Ne.symm e)] at hn
  refine ⟨Rel.mk' (fun d o' hd => ?_) (fun n d ob1 hn hob1 hl1 => ?_) (fun n n' d d' h1 h2 hdd h3 h4 => hr.inj n n' d d' h1 h2 hdd (hlive n h3) (hlive n' h4)) (fun n d hn => by rw [hw.size]; exact hr.lt n d hn), ?_⟩
  · rw [hw.other d (fun e => by subst e; rw [hI] at hd; cases hd)]; exact hr.imm d o' hd
  · by_cases e : n = b
    · subst e
      rw [List.getElem?_set_self hlt] at hob1
      injection hob1 with hob1
      subst hob1
      rw [hb] at hn; injection hn with hn; subst hn
      exact ⟨hI, o, hw.this, ho⟩
    · rw [List.getElem?_set_ne (Ne.symm e)] at hob1
      obtain ⟨h1, o', h2, h3⟩ := hr.ob hn hob1 hl1
      refine ⟨h1, o', ?_, h3⟩
      rw [hw.other d.1 (fun e' => e (hr.inj n b d c hn hb e' (by rw [hob1]; exact hl1) (by rw [hob]; exact hl)))]
      exact h2
  · exact ⟨SubI.refl I, SubE.refl ι, fun _ _ hc => .inl hc, fun n d hn hl' => .inl ⟨n, d, hn, rfl, hlive n hl'⟩, fun d _ hn => hw.other d (fun e => by have := hn b c hb e.symm; rw [hob, hl] at this; cases this), by rw [hw.size]; exact Nat.le_refl _, hw.os, hw.tape, hw.output, by simp⟩

/-- An own block is given up, what stands in its place is a new one: where the model writes in place. -/
theorem rel_claim {b : Nat} {c : Nat × Nat} {ob ob' : Ob} {o : Obj} (hr : Rel N I ι h w) (hf : ι h.length = none) (hb : ι b = some c) (hob : h[b]? = some ob) (hl : Ob.live (some ob) = true)
    (hw : Blk w w' c.1 o) (ho : ObR N I ι c.2 ob' o) : Rel N I (upd ι h.length c) (h.set b .gone ++ [ob']) w' ∧ Ext I ι h w I (upd ι h.length c) (h.set b .gone ++ [ob']) w' := by
  obtain ⟨hI, o0, ho0, _⟩ := hr.ob hb hob hl
  have hlt : b < h.length := (List.getElem?_eq_some_iff.1 hob).1
  have hsub := upd_sub (c := c) hf
  have gself : (h.set b .gone ++ [ob'])[h.length]? = some ob' := by rw [List.getElem?_append_right (by simp)]; simp
  have gb : (h.set b .gone ++ [ob'])[b]? = some .gone := by rw [List.getElem?_append_left (by simpa using hlt)]; simp [hlt]
  have gother : ∀ n, n ≠ h.length → n ≠ b → (h.set b .gone ++ [ob'])[n]? = h[n]? := fun n h1 h2 => by
    rcases Nat.lt_or_ge n h.length with hn | hn
    · rw [List.getElem?_append_left (by simpa using hn), List.getElem?_set_ne (Ne.symm h2)]
    · rw [List.getElem?_eq_none (by simp; omega), List.getElem?_eq_none (by omega)]
  have hlive : ∀ n, n ≠ h.length → Ob.live (h.set b .gone ++ [ob'])[n]? = true → n ≠ b ∧ Ob.live h[n]? = true := fun n hn hl' => by
    by_cases e : n = b
    · subst e; rw [gb] at hl'; simp [Ob.live, liveB] at hl'
    · rw [gother n hn e] at hl'; exact ⟨e, hl'⟩
  have hnb : ∀ n d, n ≠ h.length → Ob.live (h.set b .gone ++ [ob'])[n]? = true → ι n = some d → d.1 ≠ c.1 := fun n d hn hl' hd e => by
    obtain ⟨e1, e2⟩ := hlive n hn hl'
    exact e1 (hr.inj n b d c hd hb e e2 (by rw [hob]; exact hl))
  refine ⟨Rel.mk' (fun d o' hd => ?_) (fun n d ob1 hn hob1 hl1 => ?_) (fun n n' d d' h1 h2 hdd h3 h4 => ?_) (fun n d hn => ?_), ?_⟩
  · rw [hw.other d (fun e => by subst e; rw [hI] at hd; cases hd)]; exact hr.imm d o' hd
  · by_cases e : n = h.length
    · subst e
      rw [gself] at hob1; injection hob1 with hob1; subst hob1
      obtain rfl := upd_self hn
      exact ⟨hI, o, hw.this, ho.mono (SubI.refl I) hsub⟩
    · have hn' := upd_old e hn
      have hll : Ob.live (h.set b .gone ++ [ob'])[n]? = true := by rw [hob1]; exact hl1
      obtain ⟨e1, e2⟩ := hlive n e hll
      rw [gother n e e1] at hob1
      obtain ⟨h1, o', h2, h3⟩ := hr.ob hn' hob1 hl1
      refine ⟨h1, o', ?_, h3.mono (SubI.refl I) hsub⟩
      rw [hw.other d.1 (hnb n d e hll hn')]; exact h2
  · by_cases e : n = h.length
    · by_cases e' : n' = h.length
      · rw [e, e']
      · subst e
        obtain rfl := upd_self h1
        exact absurd hdd.symm (hnb n' d' e' h4 (upd_old e' h2))
    · by_cases e' : n' = h.length
      · subst e'
        obtain rfl := upd_self h2
        exact absurd hdd (hnb n d e h3 (upd_old e h1))
      · exact hr.inj n n' d d' (upd_old e h1) (upd_old e' h2) hdd (hlive n e h3).2 (hlive n' e' h4).2
  · rw [hw.size]
    by_cases e : n = h.length
    · subst e; obtain rfl := upd_self hn; exact hr.lt b d hb
    · exact hr.lt n d (upd_old e hn)
  · refine ⟨SubI.refl I, hsub, fun _ _ hc => .inl hc, fun n d hn hl' => ?_, fun d _ hn => hw.other d (fun e => by have := hn b c hb e.symm; rw [hob, hl] at this; cases this), by rw [hw.size]; exact Nat.le_refl _, hw.os, hw.tape, hw.output, by simp⟩
    by_cases e : n = h.length
    · subst e; obtain rfl := upd_self hn; exact .inl ⟨b, d, hb, rfl, by rw [hob]; exact hl⟩
    · exact .inl ⟨n, d, upd_old e hn, rfl, (hlive n e hl').2⟩

/-- An own block is given up. -/
theorem rel_gone {b : Nat} (hr : Rel N I ι h w) : Rel N I ι (h.set b .gone) w ∧ Ext I ι h w I ι (h.set b .gone) w := by
  have hlive : ∀ n, Ob.live (h.set b .gone)[n]? = true → n ≠ b ∧ (h.set b .gone)[n]? = h[n]? := fun n hl => by
    by_cases e : n = b
    · subst e
      rcases Nat.lt_or_ge n h.length with hn | hn
      · rw [List.getElem?_set_self hn] at hl; simp [Ob.live, liveB] at hl
      · rw [List.getElem?_eq_none (by simpa using hn)] at hl; simp [Ob.live, liveB] at hl
    · exact ⟨e, List.getElem?_set_ne (Ne.symm e)⟩
  refine ⟨Rel.mk' hr.imm (fun n c ob hn hob hl => ?_) (fun n n' c c' h1 h2 hcc h3 h4 => hr.inj n n' c c' h1 h2 hcc (by rw [← (hlive n h3).2]; exact h3) (by rw [← (hlive n' h4).2]; exact h4)) hr.lt, ?_⟩
  · have := hlive n (by rw [hob]; exact hl)
    rw [this.2] at hob
    exact hr.ob hn hob hl
  · exact ⟨SubI.refl I, SubE.refl ι, fun _ _ hc => .inl hc, fun n c hn hl => .inl ⟨n, c, hn, rfl, by rw [← (hlive n hl).2]; exact hl⟩, fun _ _ _ => rfl, Nat.le_refl _, rfl, rfl, rfl, by simp⟩
end
end Am
