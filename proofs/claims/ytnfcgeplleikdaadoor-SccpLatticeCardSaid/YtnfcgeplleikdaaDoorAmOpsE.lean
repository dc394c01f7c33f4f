/- The operations: cuts, addresses, numbers, comparisons. -/
import Derived.Test.YtnfcgeplleikdaaDoorAmOpsD
namespace Am
open Go (IntKind BinOp UnOp Obj Value World Addr Program TypeDesc TypeId Operand Act Sem Result Next)
section
variable {P : Program} {N : Nat → Nat} {tb : TypeId → Option TI} {Γ : Env} {I I' : Imm} {ι ι' : Emb} {h h' : Heap} {w w' : World} {tm : List V} {a : Act} {slot : Option Nat}

/-- From the run of a value to the run of an operation. -/
theorem good_v {v : V} {val : Value} {s : Sem Value} (hr : Rel N I ι h w) (hs : s.run P w = .ok val w) (hv : VR N I ι v val) : Good1 P N I ι h w slot v h (do let r ← s; pure (.value r)) :=
  good_quiet hr (by simp only [Sem.run_bind, hs, Go.Result.andThen_ok, Sem.run_pure]) hv

theorem oNat_sim {o : Option Operand} {o' : Option Opd} {n : Option Nat} (hc : compM N o = some o') (hn : oNat Γ o' tm = some n) (ht : TmR N I ι tm a.tmps) (hg : GlobOK Γ N I) :
    (o = none ∧ n = none) ∨ ∃ x m k, o = some x ∧ n = some m ∧ a.eval x = .int k (m : Int) := by
  cases o with
  | none => simp only [compM, Option.some.injEq] at hc; subst hc; simp only [oNat, Option.some.injEq] at hn; exact .inl ⟨rfl, hn.symm⟩
  | some x =>
    simp only [compM, Option.map_eq_some_iff] at hc
    obtain ⟨x', hx, rfl⟩ := hc
    simp only [oNat, Option.bind_eq_some_iff, Option.map_eq_some_iff] at hn
    obtain ⟨v, hv, m, hm, rfl⟩ := hn
    obtain ⟨k, hk⟩ := natOf_sim (ev_sim (a := a) hx hv ht hg) hm
    exact .inr ⟨x, m, k, rfl, rfl, hk⟩

theorem run_bound {k : IntKind} {m y : Nat} {code : Go.BoundsCode} (h : m ≤ y) (w : World) : (Go.Instr.sliceBound (.int k (m : Int)) y code).run P w = .ok m w := by
  have : (0 : Int) ≤ (m : Int) ∧ (m : Int) ≤ (y : Int) := by omega
  simp [Go.Instr.sliceBound, Go.asIntOf, this]

theorem run_bounds {len cap : Nat} {lo hi : Option Value} {l h : Nat} (hlo : (lo = none ∧ l = 0) ∨ ∃ k, lo = some (.int k (l : Int))) (hhi : (hi = none ∧ h = len) ∨ ∃ k, hi = some (.int k (h : Int))) (h1 : l ≤ h) (h2 : h ≤ cap) (w : World) :
    (Go.Instr.sliceBounds true len cap lo hi none).run P w = .ok (l, h, cap) w := by
  unfold Go.Instr.sliceBounds
  rcases hlo with ⟨rfl, rfl⟩ | ⟨k, rfl⟩ <;> rcases hhi with ⟨rfl, rfl⟩ | ⟨k', rfl⟩ <;> simp [run_bound h1, run_bound h2]

theorem psN_vr {J : Imm} {κ : Emb} {z : Nat} {els : List (List V)} {u : Value} (h : VR N J κ (.ps z els) u) : VR N J κ (psN z els) u := by
  cases els with
  | nil =>
    cases h with
    | ps0 => exact .ps0 _ _ _
    | ps => exact .ps0 _ _ _
  | cons => exact h

theorem sim_slice {t e : TypeId} {i ie : TI} {xv v : V} {x : Value} {lo hi : Option Operand} {lo' hi' : Option Opd} {ln hn : Option Nat} (hi0 : TIok P N t i) (hd : i.desc = .slice e) (hie : TIok P N e ie)
    (hlo : compM N lo = some lo') (hhi : compM N hi = some hi') (hln : oNat Γ lo' tm = some ln) (hhn : oNat Γ hi' tm = some hn) (ht : TmR N I ι tm a.tmps) (hg : GlobOK Γ N I)
    (hr : Rel N I ι h w) (hv : VR N I ι xv x) (hx : sliceV ie.size xv ln hn = some v) :
    ∃ val, (Go.Instr.sliceAt t x (lo.map a.eval) (hi.map a.eval) none).run P w = .ok val w ∧ VR N I ι v val := by
  have hu : P.underlying t = some (.slice e) := by rw [hi0.und, hd]
  have hL : ∀ d, (lo.map a.eval = none ∧ ln.getD d = d) ∨ ∃ k, lo.map a.eval = some (.int k (ln.getD d : Int)) := fun d => by
    rcases oNat_sim (a := a) hlo hln ht hg with ⟨rfl, rfl⟩ | ⟨x, m, k, rfl, rfl, hk⟩
    · exact .inl ⟨rfl, rfl⟩
    · exact .inr ⟨k, by simp [hk]⟩
  have hH : ∀ d, (hi.map a.eval = none ∧ hn.getD d = d) ∨ ∃ k, hi.map a.eval = some (.int k (hn.getD d : Int)) := fun d => by
    rcases oNat_sim (a := a) hhi hhn ht hg with ⟨rfl, rfl⟩ | ⟨x, m, k, rfl, rfl, hk⟩
    · exact .inl ⟨rfl, rfl⟩
    · exact .inr ⟨k, by simp [hk]⟩
  have hrun : ∀ (ad : Option Addr) (len cap l hh : Nat), l = ln.getD 0 → hh = hn.getD len → l ≤ hh → hh ≤ cap →
      (Go.Instr.sliceAt t (.slice ad len cap) (lo.map a.eval) (hi.map a.eval) none).run P w = .ok (.slice (if cap = l then ad else ad.map (·.add (l * ie.size))) (hh - l) (cap - l)) w := by
    intro ad len cap l hh hl1 hh1 h1 h2
    have hb := run_bounds (P := P) (len := len) (cap := cap) (lo := lo.map a.eval) (hi := hi.map a.eval) (l := l) (h := hh) (by rw [hl1]; exact hL 0) (by rw [hh1]; exact hH len) h1 h2 w
    unfold Go.Instr.sliceAt
    simp only [Sem.run_bind, Go.run_underlying hu, Go.Result.andThen_ok, Go.Instr.slice, hb, run_size hie, Sem.run_pure]
  unfold sliceV at hx
  split at hx
  · split at hx
    · rename_i hz
      injection hx with hx; subst hx
      cases hv with
      | nils ad =>
        refine ⟨_, hrun ad 0 0 0 0 hz.1.symm hz.2.symm (Nat.le_refl _) (Nat.le_refl _), ?_⟩
        simpa using VR.nils ad
    · cases hx
  · rename_i z' els
    split at hx
    · rename_i hz
      obtain ⟨h1, h2, hzz⟩ := hz
      injection hx with hx; subst hx
      have hlen : ((els.take (hn.getD els.length)).drop (ln.getD 0)).length = hn.getD els.length - ln.getD 0 := by simp; omega
      cases hv with
      | ps0 _ ad cap =>
        have hz1 : hn.getD ([] : List (List V)).length = 0 := by simp at h2 ⊢; omega
        refine ⟨_, hrun ad 0 cap (ln.getD 0) (hn.getD 0) rfl rfl h1 (by simp at h2 ⊢; omega), ?_⟩
        have e0 : hn.getD 0 - ln.getD 0 = 0 := by simp at h2; omega
        rw [e0]; simpa [psN] using VR.ps0 0 _ _
      | ps g1 g2 g3 g4 g5 g6 =>
        rename_i ad cap cs ty fr
        by_cases hnil : els = []
        · subst hnil
          refine ⟨_, hrun (some ad) 0 cap (ln.getD 0) (hn.getD 0) rfl rfl h1 (by simp at h2 ⊢; omega), ?_⟩
          have e0 : hn.getD 0 - ln.getD 0 = 0 := by simp at h2; omega
          rw [e0]; simpa [psN] using VR.ps0 0 _ _
        obtain rfl : z' = ie.size := hzz.resolve_right hnil
        refine ⟨_, hrun (some ad) els.length cap (ln.getD 0) (hn.getD els.length) rfl rfl h1 (by omega), ?_⟩
        rw [← hlen]
        refine psN_vr ?_
        by_cases hc : cap = ln.getD 0
        · have : (els.take (hn.getD els.length)).drop (ln.getD 0) = [] := by
            apply List.drop_eq_nil_of_le; simp; omega
          rw [this]; exact .ps0 _ _ _
        · rw [if_neg hc]
          have hadd : ad.add (ln.getD 0 * ie.size) = ⟨ad.block, ad.off + ln.getD 0 * ie.size, none⟩ := by cases ad; unfold Addr.add; split <;> simp_all
          simp only [Option.map_some, hadd]
          have hall : ∀ e ∈ els.take (hn.getD els.length), e.length = ie.size := fun e he => g4 e (List.mem_of_mem_take he)
          have hfl : ((els.take (hn.getD els.length)).drop (ln.getD 0)).flatten = (els.flatten.take (hn.getD els.length * ie.size)).drop (ln.getD 0 * ie.size) := by
            rw [flat_drop _ hall, flat_take _ g4]
          have hle : hn.getD els.length * ie.size ≤ els.flatten.length := by rw [flat_length g4]; exact Nat.mul_le_mul_right _ h2
          have hle2 : ln.getD 0 * ie.size ≤ hn.getD els.length * ie.size := Nat.mul_le_mul_right _ h1
          refine .ps (by rw [hlen]; omega) g2 rfl (fun e he => hall e (List.mem_of_mem_drop he)) ?_ fun k x y hx hy => ?_
          · rw [hfl]; simp; omega
          · rw [hfl, List.getElem?_drop, List.getElem?_take] at hx
            split at hx
            · exact g6 _ x y hx (by rw [← Nat.add_assoc]; exact hy)
            · cases hx
    · cases hx
  · rename_i b z' off len cap
    split at hx
    · rename_i hz
      obtain ⟨h1, h2, rfl⟩ := hz
      injection hx with hx; subst hx
      cases hv with
      | sl hb hlen hcap had =>
        rename_i ad c cap'
        have hh2 : hn.getD len ≤ cap' := by
          cases cap with
          | none => simp at h2; omega
          | some n => have := hcap n rfl; simp at h2; omega
        refine ⟨_, hrun (some ad) len cap' (ln.getD 0) (hn.getD len) rfl rfl h1 hh2, ?_⟩
        have e1 : (if cap' = ln.getD 0 then some ad else (some ad).map (·.add (ln.getD 0 * ie.size))) = some (if cap' = ln.getD 0 then ad else ad.add (ln.getD 0 * ie.size)) := by split <;> rfl
        rw [e1]
        refine .sl hb (by omega) (fun n hn => ?_) (fun h0 => ?_)
        · cases cap with
          | none => cases hn
          | some m => simp at hn; rw [hcap m rfl]; exact hn
        · obtain ⟨rfl, hbig⟩ := had (by omega)
          rw [if_neg (by omega)]
          refine ⟨by unfold Addr.add; split <;> simp_all [Nat.add_mul], ?_⟩
          refine Nat.le_trans (Nat.mul_le_mul_right _ ?_) hbig; omega
    · cases hx
  · cases hx

theorem sim_iaddr {t : TypeId} {xv v : V} {x : Value} {z n : Nat} {arr : Option Nat} {k : IntKind} (hr : Rel N I ι h w) (hv : VR N I ι xv x) (hx : iaddrV z arr xv n = some v)
    (ht : (arr = none ∧ ∃ e ie, P.underlying t = some (.slice e) ∧ TIok P N e ie ∧ z = ie.size) ∨ ∃ m e ie, arr = some m ∧ P.underlying t = some (.array m e) ∧ TIok P N e ie ∧ z = ie.size) :
    ∃ val, (Go.Instr.indexAt t x (.int k (n : Int))).run P w = .ok val w ∧ VR N I ι v val := by
  unfold iaddrV at hx
  split at hx
  · -- a pure slice
    rename_i z' els
    obtain ⟨e, ie, hu, hie, rfl⟩ : ∃ e ie, P.underlying t = some (.slice e) ∧ TIok P N e ie ∧ z = ie.size := by
      rcases ht with ⟨_, h⟩ | ⟨m, e, ie, h, _⟩
      · exact h
      · cases h
    by_cases hz : z' = ie.size
    case neg => simp only [if_neg hz] at hx; cases hx
    subst hz
    simp only [if_true, Option.map_eq_some_iff] at hx
    obtain ⟨el, hel, rfl⟩ := hx
    have hn : n < els.length := (List.getElem?_eq_some_iff.1 hel).1
    cases hv with
    | ps0 => simp at hn
    | ps g1 g2 g3 g4 g5 g6 =>
      rename_i ad cap cs ty fr
      have hin : (0 : Int) ≤ (n : Int) ∧ (n : Int) < (els.length : Int) := by omega
      have hadd : ad.add (n * ie.size) = ⟨ad.block, ad.off + n * ie.size, none⟩ := by cases ad; unfold Addr.add; split <;> simp_all
      refine ⟨.pointer (some (ad.add (n * ie.size))), ?_, ?_⟩
      · simp [Go.Instr.indexAt, Go.asIntOf, Go.run_underlying hu, hin, hn, run_size hie]
      · rw [hadd]
        have hez := g4 el (List.mem_of_getElem? hel)
        have hle : n * ie.size + ie.size ≤ els.flatten.length := by rw [flat_length g4, ← Nat.succ_mul]; exact Nat.mul_le_mul_right _ hn
        refine .pp (base := ad.off + n * ie.size) g2 rfl rfl (by omega) fun k x y hx hy => ?_
        have hk : k < ie.size := by have := (List.getElem?_eq_some_iff.1 hx).1; omega
        refine g6 (n * ie.size + k) x y ?_ (by rw [← Nat.add_assoc]; exact hy)
        rw [← flat_get g4 hel, List.getElem?_take, if_pos hk, List.getElem?_drop] at hx
        exact hx
  · -- an own slice
    rename_i b z' off len cap
    obtain ⟨e, ie, hu, hie, rfl⟩ : ∃ e ie, P.underlying t = some (.slice e) ∧ TIok P N e ie ∧ z = ie.size := by
      rcases ht with ⟨_, h⟩ | ⟨m, e, ie, h, _⟩
      · exact h
      · cases h
    by_cases hz : n < len ∧ z' = ie.size
    case neg => simp only [if_neg hz] at hx; cases hx
    obtain ⟨hn, rfl⟩ := hz
    simp only [hn, and_self, if_true] at hx
    injection hx with hx; subst hx
    cases hv with
    | sl hb hlen hcap had =>
      rename_i ad c cap'
      obtain ⟨rfl, _⟩ := had (by omega)
      have hin : (0 : Int) ≤ (n : Int) ∧ (n : Int) < (len : Int) := by omega
      refine ⟨.pointer (some ((⟨c.1, off * ie.size, none⟩ : Addr).add (n * ie.size))), ?_, ?_⟩
      · simp [Go.Instr.indexAt, Go.asIntOf, Go.run_underlying hu, hin, hn, run_size hie]
      · have hadd : (⟨c.1, off * ie.size, none⟩ : Addr).add (n * ie.size) = ⟨c.1, (off + n) * ie.size + 0, none⟩ := by unfold Addr.add; split <;> simp_all [Nat.add_mul]
        rw [hadd]; exact .ptr hb
  · -- an array, own
    rename_i m b z' e0 o
    obtain ⟨e, ie, hu, hie, rfl⟩ : ∃ e ie, P.underlying t = some (.array m e) ∧ TIok P N e ie ∧ z = ie.size := by
      rcases ht with ⟨h, _⟩ | ⟨m', e, ie, h, h2⟩
      · cases h
      · injection h with h; subst h; exact ⟨e, ie, h2⟩
    by_cases hn : n < m
    case neg => rw [if_neg hn] at hx; cases hx
    rw [if_pos hn] at hx
    injection hx with hx; subst hx
    cases hv with
    | ptr hb =>
      rename_i c
      have hin : (0 : Int) ≤ (n : Int) ∧ (n : Int) < (m : Int) := by omega
      refine ⟨.pointer (some ((⟨c.1, e0 * z' + o, none⟩ : Addr).add (n * ie.size))), ?_, ?_⟩
      · simp [Go.Instr.indexAt, Go.Instr.sureAddr, Go.asIntOf, Go.run_underlying hu, hin, hn, run_size hie]
      · have hadd : (⟨c.1, e0 * z' + o, none⟩ : Addr).add (n * ie.size) = ⟨c.1, e0 * z' + (o + n * ie.size), none⟩ := by unfold Addr.add; split <;> simp_all [Nat.add_assoc]
        rw [hadd]; exact .ptr hb
  · rename_i m cs o
    obtain ⟨e, ie, hu, hie, rfl⟩ : ∃ e ie, P.underlying t = some (.array m e) ∧ TIok P N e ie ∧ z = ie.size := by
      rcases ht with ⟨h, _⟩ | ⟨m', e, ie, h, h2⟩
      · cases h
      · injection h with h; subst h; exact ⟨e, ie, h2⟩
    by_cases hn : n < m
    case neg => rw [if_neg hn] at hx; cases hx
    rw [if_pos hn] at hx
    injection hx with hx; subst hx
    cases hv with
    | pp g1 g2 g3 g4 g5 =>
      rename_i ad base cells ty fr
      have hin : (0 : Int) ≤ (n : Int) ∧ (n : Int) < (m : Int) := by omega
      refine ⟨.pointer (some (ad.add (n * ie.size))), ?_, ?_⟩
      · simp [Go.Instr.indexAt, Go.Instr.sureAddr, Go.asIntOf, Go.run_underlying hu, hin, hn, run_size hie]
      · have hadd : ad.add (n * ie.size) = ⟨ad.block, base + (o + n * ie.size), none⟩ := by cases ad; unfold Addr.add; split <;> simp_all [Nat.add_assoc]
        rw [hadd]; exact .pp g1 rfl rfl g4 g5
  · cases hx

theorem run_equalIn_bool {t : TypeId} (hu : P.underlying t = some .bool) (p q : Bool) (w : World) (d : Nat) : (Go.Op.equalIn (d + 1) t (.bool p) (.bool q)).run P w = .ok (p == q) w := by
  simp only [Go.Op.equalIn, Sem.run_bind, Go.run_underlying hu, Go.Result.andThen_ok, Sem.run_pure]
theorem run_equal_bool {t : TypeId} (hu : P.underlying t = some .bool) (p q : Bool) (w : World) : (Go.Op.equal t (.bool p) (.bool q)).run P w = .ok (p == q) w :=
  run_equalIn_bool hu p q w 9999

theorem run_guard {o : BinOp} {t : TypeId} {xo yo : Operand} {x y : Value} (h1 : ∀ cs, x ≠ .agg cs) (h2 : x ≠ .nilIface) (w : World) : (Go.eqGuard o t xo yo x y).run P w = .ok () w := by
  unfold Go.eqGuard
  cases o <;> simp <;> (cases x <;> simp_all)

theorem sim_bin {o : BinOp} {xv yv v : V} {t : TypeId} {x y : Value} {xo yo : Operand}
    (hd : (o = .eql ∨ o = .neq) → ∃ d, P.underlying t = some d ∧ (match d with | .int _ | .string | .float _ => True | _ => False)) (hvx : VR N I ι xv x) (hvy : VR N I ι yv y) (hx : bin o xv yv = some v) :
    ∃ val, (do Go.eqGuard o t xo yo x y; Go.binOp o t x y : Sem Value).run P w = .ok val w ∧ VR N I ι v val := by
  cases hvx <;> cases hvy <;> simp only [bin] at hx <;> try (cases hx; done)
  · -- whole numbers
    rename_i k p k' q
    have hg := run_guard (P := P) (o := o) (t := t) (xo := xo) (yo := yo) (x := .int k p) (y := .int k' q) (by simp) (by simp) w
    simp only [Sem.run_bind, hg, Go.Result.andThen_ok]
    split at hx
    · split at hx
      · cases hx
      · rename_i h0
        injection hx with hx; subst hx
        exact ⟨_, by simp only [Go.binOp, Go.Op.shift, Sem.run_ite, if_neg h0]; rfl, .int _ _⟩
    · split at hx
      · cases hx
      · rename_i h0
        injection hx with hx; subst hx
        exact ⟨_, by simp only [Go.binOp, Go.Op.shift, Sem.run_ite, if_neg h0]; rfl, .int _ _⟩
    · rename_i hne1 hne2
      split at hx
      · rename_i hk; subst hk
        cases o <;> simp only [binI] at hx <;> try (cases hx; done)
        case quo =>
          split at hx
          · cases hx
          · rename_i h0; injection hx with hx; subst hx
            exact ⟨_, by simp [Go.binOp, Go.Op.intDiv, h0], .int _ _⟩
        case rem =>
          split at hx
          · cases hx
          · rename_i h0; injection hx with hx; subst hx
            exact ⟨_, by simp [Go.binOp, Go.Op.intDiv, h0], .int _ _⟩
        all_goals
          injection hx with hx; subst hx
          first
            | (refine ⟨_, ?_, VR.int k _⟩; simp only [Go.binOp, ne_eq, not_true_eq_false, if_false]; rfl)
            | (refine ⟨_, ?_, VR.bool _⟩; simp only [Go.binOp, ne_eq, not_true_eq_false, if_false]; rfl)
      · cases hx
  · -- texts
    rename_i p q
    have hg := run_guard (P := P) (o := o) (t := t) (xo := xo) (yo := yo) (x := .string p) (y := .string q) (by simp) (by simp) w
    simp only [Sem.run_bind, hg, Go.Result.andThen_ok]
    cases o <;> simp only [binS] at hx <;> try (cases hx; done)
    all_goals
      injection hx with hx; subst hx
      exact ⟨_, by simp only [Go.binOp, Go.Op.stringOp]; rfl, .bool _⟩
  · -- floats
    rename_i p q
    have hg := run_guard (P := P) (o := o) (t := t) (xo := xo) (yo := yo) (x := .float .f64 p) (y := .float .f64 q) (by simp) (by simp) w
    simp only [Sem.run_bind, hg, Go.Result.andThen_ok]
    cases o <;> simp only [binF] at hx <;> try (cases hx; done)
    case add =>
      simp only [Option.map_eq_some_iff] at hx
      obtain ⟨r, hr, rfl⟩ := hx
      exact ⟨_, by simp [Go.binOp, Go.Op.floatArith, hr], .flt _⟩
    case sub =>
      simp only [Option.map_eq_some_iff] at hx
      obtain ⟨r, hr, rfl⟩ := hx
      exact ⟨_, by simp [Go.binOp, Go.Op.floatArith, hr], .flt _⟩
    case mul =>
      simp only [Option.map_eq_some_iff] at hx
      obtain ⟨r, hr, rfl⟩ := hx
      exact ⟨_, by simp [Go.binOp, Go.Op.floatArith, hr], .flt _⟩
    case quo =>
      simp only [Option.map_eq_some_iff] at hx
      obtain ⟨r, hr, rfl⟩ := hx
      exact ⟨_, by simp [Go.binOp, Go.Op.floatArith, hr], .flt _⟩
    all_goals
      injection hx with hx; subst hx
      exact ⟨_, by simp [Go.binOp, Go.Op.floatCmp], .bool _⟩

theorem sim_eqb {o : BinOp} {p q neg : Bool} {t : TypeId} {xo yo : Operand} (ho : o = if neg then .neq else .eql) (hu : P.underlying t = some .bool) :
    (do Go.eqGuard o t xo yo (.bool p) (.bool q); Go.binOp o t (.bool p) (.bool q) : Sem Value).run P w = .ok (.bool (if neg then !(p == q) else p == q)) w := by
  have hg := run_guard (P := P) (o := o) (t := t) (xo := xo) (yo := yo) (x := .bool p) (y := .bool q) (by simp) (by simp) w
  simp only [Sem.run_bind, hg, Go.Result.andThen_ok]
  subst ho
  cases neg <;> simp [Go.binOp, run_equal_bool hu]
theorem sim_un {o : UnOp} {xv v : V} {x : Value} (hvx : VR N I ι xv x) (hx : un o xv = some v) : ∃ val, (Go.Op.unary o x).run P w = .ok val w ∧ VR N I ι v val := by
  cases hvx <;> cases o <;> simp only [un] at hx <;> try (cases hx; done)
  all_goals
    injection hx with hx; subst hx
    first
      | exact ⟨_, by simp only [Go.Op.unary, Go.Op.intArith]; rfl, .int _ _⟩
      | exact ⟨_, by simp only [Go.Op.unary, Go.Op.intBits]; rfl, .int _ _⟩
      | exact ⟨_, by simp only [Go.Op.unary]; rfl, .bool _⟩
      | exact ⟨_, by simp only [Go.Op.unary]; rfl, .flt _⟩

theorem eqS_sim {x y : V} {u v : Value} {r : Bool} (hx : VR N I ι x u) (hy : VR N I ι y v) (h : eqS x y = some r) : eqSv u v = some r := by
  cases hx <;> cases hy <;> simp_all [eqS, eqSv]
theorem eqL_sim : ∀ {xs ys : List V} {us vs : List Value} {r : Bool}, LR N I ι xs us → LR N I ι ys vs → eqL xs ys = some r → eqLv us vs = some r
  | [], [], us, vs, r, h1, h2, h => by
    have e1 : us = [] := by cases us with
      | nil => rfl
      | cons => have := h1.1; simp at this
    have e2 : vs = [] := by cases vs with
      | nil => rfl
      | cons => have := h2.1; simp at this
    subst e1; subst e2; simpa [eqL, eqLv] using h
  | [], y :: ys, us, vs, r, h1, h2, h => by simp [eqL] at h
  | x :: xs, [], us, vs, r, h1, h2, h => by simp [eqL] at h
  | x :: xs, y :: ys, us, vs, r, h1, h2, h => by
    obtain ⟨u, us, rfl, hu, hus⟩ := h1.cons_inv
    obtain ⟨v, vs, rfl, hv, hvs⟩ := h2.cons_inv
    simp only [eqL, Option.bind_eq_some_iff, Option.some.injEq] at h
    obtain ⟨b, hb, r', hr', rfl⟩ := h
    simp only [eqLv, eqS_sim hu hv hb, eqL_sim hus hvs hr', Option.bind_some]

theorem sim_eqa {K : KS} {neg : Bool} {o : BinOp} {xs ys : List V} {u v : Array Value} {t : TypeId} {xo yo : Operand} {r : Bool} (ho : o = if neg then .neq else .eql) (hp : PlainOK P t K) (hn : keyOK K (.agg xs) = true)
    (hx : VR N I ι (.agg xs) (.agg u)) (hy : VR N I ι (.agg ys) (.agg v)) (h : eqL xs ys = some r) :
    (do Go.eqGuard o t xo yo (.agg u) (.agg v); Go.binOp o t (.agg u) (.agg v) : Sem Value).run P w = .ok (.bool (if neg then !r else r)) w := by
  have hlx : LR N I ι xs u.toList := by simpa [V.cells, Value.cells] using cells_sim hx
  have hly : LR N I ι ys v.toList := by simpa [V.cells, Value.cells] using cells_sim hy
  have he := hp.equal (.agg u) (.agg v) r w (keyOK_sim hx hn) (eqL_sim hlx hly h)
  have hg : (Go.eqGuard o t xo yo (.agg u) (.agg v)).run P w = .ok () w := by
    unfold Go.eqGuard
    cases o <;> simp [hp.guard]
  simp only [Sem.run_bind, hg, Go.Result.andThen_ok]
  subst ho
  cases neg <;> simp [Go.binOp, he]
end
end Am
