/- The operations on slices: append, copy, clear, make, literals. -/
import Derived.Test.YtnfcgeplleikdaaDoorAmOpsA
namespace Am
open Go (IntKind BinOp UnOp Obj Value World Addr Program TypeDesc TypeId Operand Act Sem Result Next)
section
variable {P : Program} {N : Nat → Nat} {tb : TypeId → Option TI} {Γ : Env} {I I' : Imm} {ι ι' : Emb} {h h' : Heap} {w w' : World} {tm : List V} {a : Act} {slot : Option Nat}

theorem nextslicecap_le (need cap : Nat) (hlt : cap < need) : Go.Builtin.nextslicecap need cap ≤ 2 * need := by
  unfold Go.Builtin.nextslicecap
  split
  · omega
  · split
    · omega
    · have key : ∀ r c, 256 ≤ c → c ≤ 2 * need → Go.Builtin.growBy need r c ≤ 2 * need := by
        intro r
        induction r with
        | zero => intro c _ hc; exact hc
        | succ r ih =>
          intro c h1 h2
          unfold Go.Builtin.growBy
          split
          · exact h2
          · exact ih _ (by omega) (by omega)
      exact key 4 cap (by omega) (by omega)

theorem run_append_room {t u e e' ty : TypeId} {info : Go.TypeInfo} {base : Option Addr} {sLen sCap n : Nat} {x : Value} {new : Array Value} (ht : P.underlying t = some (.slice e)) (hu : P.underlying u = some (.slice e'))
    (hi : P.info? e = some info) (hn : ∀ w, (Go.Builtin.lenOf x).run P w = .ok n w) (hnew : (Go.Builtin.firstCells info.size n x).run P w = .ok new w) (hle : sLen + n ≤ sCap)
    (hst : ∀ a, base = some a → (Go.storeCells (a.add (sLen * info.size)) new.toList).run P w = .ok () w') (hno : base = none → w' = w) :
    (Go.Builtin.append_ #[t, u] ty #[.slice base sLen sCap, x]).run P w = .ok (.slice base (sLen + n) sCap) w' := by
  cases base with
  | none =>
    have := hno rfl; subst this
    simp [Go.Builtin.append_, Go.run_underlying ht, Go.run_underlying hu, Go.sizeOf, run_ti hi, hn, hle, hnew]
  | some a =>
    have := hst a rfl
    simp [Go.Builtin.append_, Go.run_underlying ht, Go.run_underlying hu, Go.sizeOf, run_ti hi, hn, hle, hnew, this]

theorem run_append_grow {t u e e' ty : TypeId} {info : Go.TypeInfo} {zero : Value} {base : Option Addr} {sLen sCap n : Nat} {x : Value} {old new : Array Value} (ht : P.underlying t = some (.slice e)) (hu : P.underlying u = some (.slice e'))
    (hi : P.info? e = some info) (hz : info.zero = some zero) (hb : 0 < info.bytes) (hn : ∀ w, (Go.Builtin.lenOf x).run P w = .ok n w) (hold : (Go.Builtin.firstCells info.size sLen (.slice base sLen sCap)).run P w.drew = .ok old w.drew)
    (hnew : (Go.Builtin.firstCells info.size n x).run P w.drew = .ok new w.drew) (hle : ¬ sLen + n ≤ sCap) (hroom : (sLen + n) * info.bytes ≤ room) :
    ∃ cap, sLen + n ≤ cap ∧ (Go.Builtin.append_ #[t, u] ty #[.slice base sLen sCap, x]).run P w =
      .ok (.slice (some ⟨w.drew.heap.size, 0, none⟩) (sLen + n) cap) (w.drew.alloc (.cells (old ++ new ++ Go.Builtin.zeroCells zero.cells (cap - (sLen + n))) e)) := by
  have hcap := nextslicecap_le (sLen + n) sCap (by omega)
  have h48 : ¬ Go.Builtin.nextslicecap (sLen + n) sCap * info.bytes > 2 ^ 48 := by
    have := Nat.mul_le_mul_right info.bytes hcap
    have h2 : 2 * (sLen + n) * info.bytes ≤ 2 * room := by rw [Nat.mul_assoc]; exact Nat.mul_le_mul_left _ hroom
    unfold room at h2
    omega
  refine ⟨(Go.Question.appendCap (sLen + n) sCap e).cut (w.tape w.drawn (Go.Question.appendCap (sLen + n) sCap e)), by simp [Go.Question.cut], ?_⟩
  have hb' : ¬ info.bytes = 0 := by omega
  have hf : (Go.Question.appendCap (sLen + n) sCap e).forced = false := rfl
  have hd : ({ w with drawn := w.drawn + 1 } : World) = w.drew := rfl
  simp [Go.Builtin.append_, Go.run_underlying ht, Go.run_underlying hu, Go.sizeOf, run_ti hi, hn, hle, hb', h48, Go.zeroValue, hz, hf, hd, hold, hnew, Go.newRow]

/-- Cells that are read. -/
theorem run_loadCells_sim {c base n : Nat} {cs : Array Value} {ty : TypeId} {fr : Nat × Nat} {xs : List V} (hw : w.heap[c]? = some (.cells cs ty fr)) (hp : PR N I ι xs cs base) (hn : n ≤ xs.length) :
    (Go.loadCells ⟨c, base, none⟩ n).run P w = .ok ((cs.toList.drop base).take n).toArray w ∧ LR N I ι (xs.take n) ((cs.toList.drop base).take n) := by
  have hl := hp.1
  have hlen : ((cs.toList.drop base).take n).length = n := by simp; omega
  refine ⟨?_, ?_⟩
  · have := Go.run_loadCells_list (P := P) w ⟨c, base, none⟩ ((cs.toList.drop base).take n) fun j u hj => by
      have hjn : j < n := by have := (List.getElem?_eq_some_iff.1 hj).1; omega
      rw [List.getElem?_take, if_pos hjn, List.getElem?_drop] at hj
      have hadd : (⟨c, base, none⟩ : Addr).add j = ⟨c, base + j, none⟩ := by unfold Addr.add; split <;> simp_all
      rw [hadd]
      simp only [World.cell?, hw]
      simpa using hj
    rwa [hlen] at this
  · have := hp.lr.take n
    rw [List.take_take, Nat.min_eq_left hn] at this
    exact this

/-- The elements of a slice, as cells. -/
theorem sim_els {x : V} {u : Value} {els : List (List V)} {z : Nat} (hr : Rel N I ι h w) (hv : VR N I ι x u) (he : elsOf h x = some els) (hz : ∀ e ∈ els, e.length = z) :
    ∃ ad cap, u = .slice ad els.length cap ∧ ∀ n, n ≤ els.length → ∃ cells : List Value, (∀ w', w'.heap = w.heap → (Go.Builtin.firstCells z n u).run P w' = .ok cells.toArray w') ∧ LR N I ι (els.take n).flatten cells := by
  unfold elsOf at he
  split at he
  · injection he with he; subst he
    cases hv with
    | nils ad => exact ⟨ad, 0, rfl, fun n hn => ⟨[], fun w' _ => by
        have : n = 0 := by simpa using hn
        subst this
        cases ad <;> simp [Go.Builtin.firstCells, Go.loadCells, Go.loadCellsFrom], by simpa using LR.nil⟩⟩
  · injection he with he; subst he
    cases hv with
    | ps0 _ ad cap => exact ⟨ad, cap, rfl, fun n hn => ⟨[], fun w' _ => by
        have : n = 0 := by simpa using hn
        subst this
        cases ad <;> simp [Go.Builtin.firstCells, Go.loadCells, Go.loadCellsFrom], by simpa using LR.nil⟩⟩
    | ps h1 h2 h3 h4 h5 h6 =>
      rename_i z' els ad cap cs t fr
      refine ⟨some ad, _, rfl, fun n hn => ?_⟩
      have hw := hr.imm _ _ h2
      have had : ad = ⟨ad.block, ad.off, none⟩ := by cases ad; simp_all
      have hfl := flat_length hz
      have hnz : n * z ≤ els.flatten.length := by rw [hfl]; exact Nat.mul_le_mul_right _ hn
      refine ⟨(cs.toList.drop ad.off).take (n * z), fun w' e => ?_, ?_⟩
      · simp only [Go.Builtin.firstCells]
        rw [had]
        exact (run_loadCells_sim (P := P) (w := w') (by rw [e]; exact hw) ⟨h5, h6⟩ hnz).1
      · rw [flat_take n hz]
        exact (run_loadCells_sim (P := P) hw ⟨h5, h6⟩ hnz).2.mono (fun _ _ h => h) (fun _ _ h => by cases h)
  · rename_i b z' off len cap
    simp only [Option.bind_eq_some_iff] at he
    obtain ⟨rows, h1, h2⟩ := he
    split at h2
    · rename_i hle
      injection h2 with h2; subst h2
      cases hv with
      | sl hb hlen hcap had =>
        rename_i ad c cap'
        have hll : ((rows.drop off).take len).length = len := by simp; omega
        refine ⟨some ad, cap', by rw [hll], fun n hn => ?_⟩
        rw [hll] at hn
        rcases Nat.eq_zero_or_pos n with h0 | h0
        · subst h0
          exact ⟨[], fun w' _ => by simp [Go.Builtin.firstCells, Go.loadCells, Go.loadCellsFrom], by simpa using LR.nil⟩
        · obtain ⟨_, cs, ty, hw, hsz, hrr⟩ := hr.row _ _ _ _ hb (rowAt_some h1)
          have hzz : z' = z := by
            have hlt : off < rows.length := by omega
            have hm : rows[off] ∈ (rows.drop off).take len := by
              refine List.mem_of_getElem? (i := 0) ?_
              rw [List.getElem?_take, if_pos (by omega), List.getElem?_drop, Nat.add_zero, List.getElem?_eq_getElem hlt]
            rw [← hz _ hm, hrr.1 _ (List.getElem_mem hlt)]
          subst hzz
          obtain ⟨rfl, _⟩ := had (by omega)
          have hp : PR N I ι ((rows.drop off).take len).flatten cs (off * z') := by
            rcases hrr.2.sub (off * z') (len * z') with h3 | h3
            · have e1 : ((rows.drop off).take len).flatten = (rows.flatten.drop (off * z')).take (len * z') := by
                rw [flat_take len (fun e he => hrr.1 e (List.mem_of_mem_drop he)), flat_drop off hrr.1]
              rw [e1]; simpa using h3
            · rw [flat_length hrr.1] at h3
              have := Nat.mul_le_mul_right z' (show off ≤ rows.length by omega)
              omega
          have hnz : n * z' ≤ ((rows.drop off).take len).flatten.length := by rw [flat_length hz, hll]; exact Nat.mul_le_mul_right _ hn
          refine ⟨(cs.toList.drop (off * z')).take (n * z'), fun w' e => ?_, ?_⟩
          · simp only [Go.Builtin.firstCells]
            exact (run_loadCells_sim (P := P) (w := w') (by rw [e]; exact hw) hp hnz).1
          · rw [flat_take n hz]
            exact (run_loadCells_sim (P := P) hw hp hnz).2
    · cases h2
  · cases he

theorem flat_all {l : List (List V)} {z : Nat} (h : l.all (fun e => e.length == z && e.all V.one) = true) : (∀ e ∈ l, e.length = z) ∧ l.flatten.all V.one = true := by
  refine ⟨fun e he => ?_, ?_⟩
  · have := List.all_eq_true.1 h e he; simp at this; exact this.1
  · rw [List.all_eq_true]
    intro x hx
    obtain ⟨e, he, hxe⟩ := List.mem_flatten.1 hx
    have := List.all_eq_true.1 h e he
    simp only [Bool.and_eq_true] at this
    exact List.all_eq_true.1 this.2 x hxe

/-- 'put' behind the end, in a world from which a draw was made. -/
theorem good_new {v : V} {val : Value} {s : Sem Next} {ob : Ob} {m : Nat} {o : Obj} (hr : Rel N I ι h w) (hf : ι h.length = none) (e : w'.heap = w.heap) (h1 : w'.os = w.os) (h2 : w'.tape = w.tape) (h3 : w'.output = w.output)
    (ho : ObR N I ι m ob o) (hs : s.run P w = .ok (.value val) (w'.alloc o)) (hv : VR N I (upd ι h.length (w.heap.size, m)) v val) : Good1 P N I ι h w slot v (h ++ [ob]) s := by
  have hr' := hr.same (w' := w') e
  obtain ⟨g1, g2, g3, _⟩ := rel_put (slot := none) (b := h.length) (h' := h ++ [ob]) hr' rfl hf ho
  rw [e] at g1 g2
  refine ⟨_, val, _, _, hs, .inl rfl, hv, g1, (Ext.same e h1 h2 h3).trans g2, fun n hn hn' => ?_⟩
  by_cases en : n = h.length
  · subst en; exact .inr ⟨Nat.le_refl _, g3⟩
  · unfold upd at hn'; rw [if_neg en] at hn'; exact absurd hn hn'

theorem sim_app {t u e e' ty : TypeId} {i iu ie : TI} {zl : List V} {sv xv v : V} {s x : Value} (hi : TIok P N t i) (hd : i.desc = .slice e) (hiu : TIok P N u iu) (hdu : iu.desc = .slice e') (hie : TIok P N e ie)
    (hzo : zOf ie = some zl) (hsz0 : 0 < ie.size) (hby0 : 0 < ie.bytes) (hr : Rel N I ι h w) (hf : ι h.length = none) (hs : VR N I ι sv s) (hxv : VR N I ι xv x) (hx : appV h ie.size ie.bytes sv xv = some (v, h')) :
    Good1 P N I ι h w slot v h' (do let r ← Go.Builtin.append_ #[t, u] ty #[s, x]; pure (.value r)) := by
  unfold appV at hx
  simp only [Option.bind_eq_some_iff] at hx
  obtain ⟨src, hsrc, hx⟩ := hx
  split at hx
  case isFalse => cases hx
  rename_i hall
  obtain ⟨hz, hone⟩ := flat_all hall
  obtain ⟨xa, xcap, rfl, hcells⟩ := sim_els (P := P) hr hxv hsrc hz
  obtain ⟨cells, hfc, hlr⟩ := hcells src.length (Nat.le_refl _)
  rw [List.take_length] at hlr
  obtain ⟨info, hinfo, hsz, hby, hzero⟩ := hie.info
  have ht : P.underlying t = some (.slice e) := by rw [hi.und, hd]
  have hu : P.underlying u = some (.slice e') := by rw [hiu.und, hdu]
  have hlen : ∀ w : World, (Go.Builtin.lenOf (.slice xa src.length xcap)).run P w = .ok src.length w := fun w => by simp [Go.Builtin.lenOf]
  have hnew : ∀ w', w'.heap = w.heap → (Go.Builtin.firstCells info.size src.length (.slice xa src.length xcap)).run P w' = .ok cells.toArray w' := fun w' e => by rw [hsz]; exact hfc w' e
  have hcl : cells.length = src.length * ie.size := by rw [← hlr.1, flat_length hz]
  obtain ⟨zv, hzv, hz1, hz2⟩ : ∃ zv, ie.zero = some zv ∧ zv.cells.length = ie.size ∧ zv.cells = zl := by
    unfold zOf at hzo
    simp only [Option.bind_eq_some_iff] at hzo
    obtain ⟨zv, h1, h2⟩ := hzo
    split at h2
    · rename_i hc; injection h2 with h2; exact ⟨zv, h1, hc, h2⟩
    · cases h2
  obtain ⟨zval, hzval, hzc⟩ := hzero zv hzv
  have hzs : zval.cells.size = ie.size := by
    have := (cells_sim (constV_sim (I := I) (ι := ι) hzc)).1; simp at this; omega
  have hrest : ∀ n, (Go.Builtin.zeroCells zval.cells n).size = n * ie.size := fun n => by simp [Go.Builtin.zeroCells, hzs]
  have hby' : 0 < info.bytes := by omega
  -- the two ways
  have stay : ∀ {base : Option Addr} {sLen sCap : Nat}, src.length = 0 → sLen ≤ sCap → (Go.Builtin.append_ #[t, u] ty #[.slice base sLen sCap, .slice xa src.length xcap]).run P w = .ok (.slice base sLen sCap) w := fun {base sLen sCap} h0 hle => by
    have hc0 : cells = [] := by cases cells with
      | nil => rfl
      | cons c cs => simp [h0] at hcl
    have := run_append_room (P := P) (w := w) (w' := w) (t := t) (u := u) (e := e) (e' := e') (ty := ty) (base := base) (sLen := sLen) (sCap := sCap) ht hu hinfo hlen (hnew w rfl) (by omega) (fun a _ => by subst hc0; simp [Go.storeCells]) (fun _ => rfl)
    rw [this, h0, Nat.add_zero]
  have grow : ∀ {base : Option Addr} {sLen sCap : Nat} {old : List Value} {vs : List (List V)} {h1 : Heap}, ¬ sLen + src.length ≤ sCap → (sLen + src.length) * ie.bytes ≤ room →
      (∀ w', w'.heap = w.heap → (Go.Builtin.firstCells ie.size sLen (.slice base sLen sCap)).run P w' = .ok old.toArray w') → LR N I ι vs.flatten old → vs.length = sLen → (∀ e ∈ vs, e.length = ie.size) → Rel N I ι h1 w → h1.length = h.length → Ext I ι h w I ι h1 w →
      Good1 P N I ι h w slot (.sl h.length ie.size 0 (sLen + src.length) none) (h1 ++ [.row ie.size (vs ++ src)]) (do let r ← Go.Builtin.append_ #[t, u] ty #[.slice base sLen sCap, .slice xa src.length xcap]; pure (.value r)) := by
    intro base sLen sCap old vs h1 hle hroom hold hvl hvn hvz hr1 hl1 hext
    have hdh : w.drew.heap = w.heap := rfl
    obtain ⟨cap, hcap, hrun⟩ := run_append_grow (P := P) (w := w) (t := t) (u := u) (e := e) (e' := e') (ty := ty) (base := base) (sLen := sLen) (sCap := sCap) ht hu hinfo hzval hby' hlen (by rw [hsz]; exact hold w.drew hdh) (hnew w.drew hdh) hle (by rw [hby]; exact hroom)
    have hol : old.length = sLen * ie.size := by rw [← hvl.1, flat_length hvz, hvn]
    have hob : ObR N I ι (cap * ie.size) (.row ie.size (vs ++ src)) (.cells (old.toArray ++ cells.toArray ++ Go.Builtin.zeroCells zval.cells (cap - (sLen + src.length))) e) := by
      refine ⟨_, e, rfl, ?_, ?_, ?_⟩
      · simp only [Array.size_append, List.size_toArray, hol, hcl, hrest]
        rw [← Nat.add_mul, ← Nat.add_mul]; congr 1; omega
      · intro x hx
        rcases List.mem_append.1 hx with hx | hx
        · exact hvz x hx
        · exact hz x hx
      · rw [List.flatten_append]
        have hall := hvl.append hlr
        refine ⟨by have := hall.1; simp [hol, hcl] at this ⊢; omega, fun k x y hx hy => ?_⟩
        obtain ⟨y', hy', hv'⟩ := hall.get hx
        have : y = y' := by
          have hk : k < (old ++ cells).length := (List.getElem?_eq_some_iff.1 hy').1
          have e1 : (old.toArray ++ cells.toArray ++ Go.Builtin.zeroCells zval.cells (cap - (sLen + src.length)))[0 + k]? = (old ++ cells)[k]? := by
            rw [Nat.zero_add, Array.getElem?_append_left (by simpa using hk)]; simp
          rw [e1, hy'] at hy; injection hy with hy; exact hy.symm
        subst this; exact hv'
    have hf1 : ι h1.length = none := by rw [hl1]; exact hf
    have := good_new (P := P) (slot := slot) (v := .sl h.length ie.size 0 (sLen + src.length) none) (val := .slice (some ⟨w.drew.heap.size, 0, none⟩) (sLen + src.length) cap) (s := (do let r ← Go.Builtin.append_ #[t, u] ty #[.slice base sLen sCap, .slice xa src.length xcap]; pure (.value r))) hr1 hf1 (w' := w.drew) rfl rfl rfl rfl hob
      (by simp only [Sem.run_bind, hrun, Go.Result.andThen_ok, Sem.run_pure]) (by
        rw [hl1]
        refine .sl (c := (w.heap.size, cap * ie.size)) (by unfold upd; rw [if_pos rfl]) hcap (fun n hn => by cases hn) (fun _ => ⟨by simp, by simp⟩))
    obtain ⟨r, val, w', ι', g1, g2, g3, g4, g5, g6⟩ := this
    exact ⟨r, val, w', ι', g1, g2, g3, g4, hext.trans g5, fun b hb hb' => by
      rcases g6 b hb hb' with h | h
      · exact .inl h
      · rw [hl1] at h; exact .inr h⟩
  split at hx
  · -- nil
    cases hs with
    | nils ad =>
      split at hx
      · rename_i h0
        injection hx with hx
        obtain ⟨rfl, rfl⟩ := Prod.mk.inj hx
        exact good_quiet hr (by simp only [Sem.run_bind, stay h0 (Nat.le_refl 0), Go.Result.andThen_ok, Sem.run_pure]) (.nils ad)
      · rename_i h0
        split at hx
        · rename_i hroom
          injection hx with hx
          obtain ⟨rfl, rfl⟩ := Prod.mk.inj hx
          have := grow (base := ad) (sLen := 0) (sCap := 0) (old := []) (vs := []) (h1 := h) (by omega) (by rw [Nat.zero_add]; exact hroom) (fun w' _ => by cases ad <;> simp [Go.Builtin.firstCells, Go.loadCells, Go.loadCellsFrom]) (by simpa using LR.nil) rfl (by simp) hr rfl (Ext.refl _ _ _ _)
          simpa using this
        · cases hx
  · rename_i b z' off len cap
    have hs0 := hs
    cases hs with
    | sl hb hlen' hcap had =>
      rename_i ad c cap'
      split at hx
      · rename_i h0
        injection hx with hx
        obtain ⟨rfl, rfl⟩ := Prod.mk.inj hx
        exact good_quiet hr (by simp only [Sem.run_bind, stay h0 hlen', Go.Result.andThen_ok, Sem.run_pure]) hs0
      · rename_i h0
        split at hx
        case isFalse => cases hx
        rename_i hzr
        obtain ⟨rfl, hroom⟩ := hzr
        simp only [Option.bind_eq_some_iff] at hx
        obtain ⟨rows, h1, hx⟩ := hx
        have hrow := rowAt_some h1
        obtain ⟨hIc, cur, tyr, hw, hcs, hrr⟩ := hr.row _ _ _ _ hb hrow
        -- writing in place
        have place : ∀ (hin : len + src.length ≤ cap') (hfit : (off + len + src.length) * ie.size ≤ cur.size),
            (Go.Builtin.append_ #[t, u] ty #[.slice (some ad) len cap', .slice xa src.length xcap]).run P w = .ok (.slice (some ad) (len + src.length) cap') (w.setRow c.1 (splice cur.toList ((off + len) * ie.size) cells).toArray) := by
          intro hin hfit
          obtain ⟨rfl, _⟩ := had (by omega)
          have hfit' : off * ie.size + len * ie.size + cells.length ≤ cur.size := by rw [hcl, ← Nat.add_mul, ← Nat.add_mul]; exact hfit
          have hst := Go.run_storeCells_at P c.1 (off * ie.size + len * ie.size) tyr cells 0 cur w hw (by omega) (all_one hlr hone)
          refine run_append_room ht hu hinfo hlen (hnew w rfl) hin (fun a ha => ?_) (fun h => by cases h)
          injection ha with ha; subst ha
          have hadd : (⟨c.1, off * ie.size, none⟩ : Addr).add (len * info.size) = ⟨c.1, off * ie.size + len * ie.size, none⟩ := by rw [hsz]; unfold Addr.add; split <;> simp_all
          rw [hadd]
          simp only [splice, Nat.add_mul]
          simpa using hst
        split at hx
        · rename_i cc
          obtain rfl := hcap cc rfl
          split at hx
          · rename_i hin
            split at hx
            · rename_i hfit
              injection hx with hx
              obtain ⟨rfl, rfl⟩ := Prod.mk.inj hx
              have hfit2 : (off + len + src.length) * ie.size ≤ rows.flatten.length := by rw [flat_length hrr.1]; exact Nat.mul_le_mul_right _ hfit
              have hfit3 := hrr.2.1
              have hrun := place hin (by omega)
              have hup := rel_upd hr hb hrow rfl (blk_setRow (cs := (splice cur.toList ((off + len) * ie.size) cells).toArray) hw) (ob' := .row ie.size (over rows (off + len) src)) ⟨_, tyr, rfl, by
                rw [List.size_toArray, splice_length (by rw [hcl, ← Nat.add_mul]; simp; omega)]; simpa using hcs, fun x hx => by
                  rw [over_eq _ _ _ hfit] at hx
                  rcases mem_splice hx with hx | hx
                  · exact hrr.1 x hx
                  · exact hz x hx, by
                  rw [over_eq _ _ _ hfit, flat_splice hrr.1 hz]
                  exact PR.splice hrr.2 hlr (by rw [flat_length hz, ← Nat.add_mul]; exact hfit2)⟩
              exact ⟨_, _, _, ι, by simp only [Sem.run_bind, hrun, Go.Result.andThen_ok, Sem.run_pure], .inl rfl, .sl hb hin (fun n hn => by injection hn) had, hup.1, hup.2, fun b hb hb' => absurd hb hb'⟩
            · cases hx
          · rename_i hin
            split at hx
            · rename_i hfit
              injection hx with hx
              obtain ⟨rfl, rfl⟩ := Prod.mk.inj hx
              obtain ⟨ad', cap2, he1, hcells2⟩ := sim_els (P := P) (z := ie.size) (els := (rows.drop off).take len) hr hs0 (by simp [elsOf, h1, hfit]) (fun e he => hrr.1 e (List.mem_of_mem_drop (List.mem_of_mem_take he)))
              have hll : ((rows.drop off).take len).length = len := by simp; omega
              rw [hll] at he1
              injection he1 with he1 _ he2
              subst he1; subst he2
              obtain ⟨old, ho1, ho2⟩ := hcells2 len (by rw [hll]; exact Nat.le_refl _)
              rw [List.take_take, Nat.min_self] at ho2
              exact grow hin hroom ho1 ho2 hll (fun e he => hrr.1 e (List.mem_of_mem_drop (List.mem_of_mem_take he))) hr rfl (Ext.refl _ _ _ _)
            · cases hx
        · split at hx
          · rename_i hof
            obtain ⟨rfl, hfit⟩ := hof
            injection hx with hx
            obtain ⟨rfl, rfl⟩ := Prod.mk.inj hx
            by_cases hin : len + src.length ≤ cap'
            · obtain ⟨hadr, hbig⟩ := had (by omega)
              have hb1 : (0 + len + src.length) * ie.size ≤ cur.size := by
                rw [hcs]; refine Nat.le_trans (Nat.mul_le_mul_right _ ?_) hbig; omega
              have hrun := place hin hb1
              have htl : (rows.take len).flatten = rows.flatten.take (len * ie.size) := flat_take len hrr.1
              have htn : (rows.take len).flatten.length = len * ie.size := by rw [flat_length (fun e he => hrr.1 e (List.mem_of_mem_take he))]; rw [List.length_take, Nat.min_eq_left hfit]
              have hup := rel_claim hr hf hb hrow rfl (blk_setRow (cs := (splice cur.toList ((0 + len) * ie.size) cells).toArray) hw) (ob' := .row ie.size (rows.take len ++ src)) ⟨_, tyr, rfl, by
                rw [List.size_toArray, splice_length (by rw [hcl, ← Nat.add_mul]; simpa using hb1)]; simpa using hcs, fun x hx => by
                  rcases List.mem_append.1 hx with hx | hx
                  · exact hrr.1 x (List.mem_of_mem_take hx)
                  · exact hz x hx, by
                  rw [List.flatten_append]
                  have hp1 : LR N I ι (rows.take len).flatten (cur.toList.take (len * ie.size)) := by
                    have h2 := hrr.2.lr.take (len * ie.size)
                    rw [List.take_take, ← htl, List.drop_zero] at h2
                    have h3 : min (len * ie.size) rows.flatten.length = len * ie.size := Nat.min_eq_left (by rw [flat_length hrr.1]; exact Nat.mul_le_mul_right _ hfit)
                    rwa [h3] at h2
                  have hp2 := hp1.append hlr
                  rw [Nat.zero_add]
                  have hsz2 : len * ie.size + cells.length ≤ cur.size := by rw [hcl, ← Nat.add_mul]; simpa using hb1
                  refine ⟨?_, fun k x y hx hy => ?_⟩
                  · rw [List.size_toArray, splice_length (by simpa using hsz2)]
                    have := hp2.1
                    simp at this ⊢; omega
                  · obtain ⟨y', hy', hv'⟩ := hp2.get hx
                    have hk : k < (cur.toList.take (len * ie.size) ++ cells).length := (List.getElem?_eq_some_iff.1 hy').1
                    have : y = y' := by
                      rw [Nat.zero_add, List.getElem?_toArray] at hy
                      unfold splice at hy
                      rw [List.getElem?_append_left hk, hy'] at hy
                      injection hy with hy; exact hy.symm
                    subst this; exact hv'⟩
              refine ⟨_, .slice (some ad) (len + src.length) cap', _, _, by simp only [Sem.run_bind, hrun, Go.Result.andThen_ok, Sem.run_pure], .inl rfl, ?_, hup.1, hup.2, fun n hn hn' => ?_⟩
              · refine .sl (c := c) (by unfold upd; rw [if_pos rfl]) hin (fun n hn => by cases hn) (fun _ => ⟨hadr, hbig⟩)
              · by_cases en : n = h.length
                · subst en; exact .inr ⟨Nat.le_refl _, by simp⟩
                · unfold upd at hn'; rw [if_neg en] at hn'; exact absurd hn hn'
            · obtain ⟨ad', cap2, he1, hcells2⟩ := sim_els (P := P) (z := ie.size) (els := (rows.drop 0).take len) hr hs0 (by simp [elsOf, h1, hfit]) (fun e he => hrr.1 e (List.mem_of_mem_drop (List.mem_of_mem_take he)))
              rw [List.drop_zero] at he1 hcells2
              have hll : (rows.take len).length = len := by simp; omega
              rw [hll] at he1
              injection he1 with he1 _ he2
              subst he1; subst he2
              obtain ⟨old, ho1, ho2⟩ := hcells2 len (by rw [hll]; exact Nat.le_refl _)
              rw [List.take_take, Nat.min_self] at ho2
              have hg := rel_gone (b := b) hr
              exact grow hin hroom ho1 ho2 hll (fun e he => hrr.1 e (List.mem_of_mem_take he)) hg.1 (by simp) hg.2
          · cases hx
  · cases hx
end
end Am
