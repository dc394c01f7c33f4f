/- From a call of the abstract machine to what a law's row asks. -/
import Derived.Test.YtnfcgeplleikdaaDoorAmStrict3
import Derived.Test.YtnfcgeplleikdaaDoorAmTy
import Derived.WalkKit
import Derived.ProofKit
import Derived.OpenShut
import Derived.Deep.DeepHandedRow
import Derived.Lib.LaidTab
import Derived.ReadAgain
import Derived.Test.YtnfcgeplleikdaaDoorAmLim
namespace Am
open Go Go.ChangeShapes Go.WideShapes Go.ChangeAt Go.RowKit

/-- All that was there is as it was. -/
structure Stays (W W' : World) : Prop where
  keep : ∀ c, c < W.heap.size → W'.heap[c]? = W.heap[c]?
  size : W.heap.size ≤ W'.heap.size
  os : W'.os = W.os
  output : W'.output = W.output
theorem Stays.keptBut {W W' : World} (h : Stays W W') (may : MemPlace → Prop) : W.keptBut W' may := by
  refine ⟨h.os, h.output, fun i hi => ?_⟩
  rw [h.keep i hi]
  obtain ⟨o, ho⟩ : ∃ o, W.heap[i]? = some o := ⟨W.heap[i], Array.getElem?_eq_getElem hi⟩
  rw [ho]
  cases o with
  | cells c t fr => exact ⟨rfl, rfl, rfl, fun _ _ => rfl⟩
  | map es clk => exact .inr ⟨rfl, rfl⟩
  | _ => all_goals rfl
theorem Stays.cell {W W' : World} (h : Stays W W') {b off : Nat} (hb : b < W.heap.size) : W'.cell? ⟨b, off, none⟩ = W.cell? ⟨b, off, none⟩ := by
  unfold World.cell?; rw [h.keep b hb]

theorem snap_bool {h : Heap} {n : Nat} {v : V} {b : Bool} (e : snap h n v = some (.bool b)) : v = .bool b := by
  cases n with
  | zero => cases e
  | succ n =>
    cases v
    case bool c => injection e
    case sl b z off len cap =>
      simp only [snap, Option.bind_eq_some_iff] at e
      obtain ⟨els, _, e⟩ := e
      split at e
      · simp only [Option.map_eq_some_iff] at e
        obtain ⟨l, _, e⟩ := e
        cases l <;> cases e
      · cases e
    all_goals first
      | (simp [snap] at e; done)
      | (simp only [snap, Option.map_eq_some_iff, Option.bind_eq_some_iff] at e
         obtain ⟨_, _, e⟩ := e; cases e; done)
      | (simp only [snap, Option.map_eq_some_iff, Option.bind_eq_some_iff] at e
         obtain ⟨_, _, _, _, e⟩ := e; cases e; done)
      | (simp only [snap, Option.map_eq_some_iff, Option.bind_eq_some_iff] at e
         obtain ⟨_, _, _, _, _, _, e⟩ := e; cases e; done)
      | (simp only [snap, Option.map_eq_some_iff, Option.bind_eq_some_iff] at e
         obtain ⟨_, _, e⟩ := e; split at e <;> simp at e; done)
theorem told_true {Γ : Env} {M : Memo} {f : Nat} (hM : Tells Γ M) (h : ([], V.bool true) ∈ M f) : ∃ n h', callRaw Γ (run Γ n) f [] [] = some (.bool true, h') := by
  obtain ⟨n, hn⟩ := hM
  obtain ⟨⟨v, h'⟩, h1, h2⟩ := hn f [] _ h
  obtain rfl := snap_bool h2
  exact ⟨n, h', h1⟩

section
variable {P : Program} {Γ : Env} {tb : TypeId → Option TI}
/-- A law's call that answers true. -/
theorem law_call (hE : EnvOK Γ P id tb) {f nt : Nat} {res : List Res} {body : Cd} (hcode : Γ.fn f = some (.code nt res body)) {args : List V} {args' : Array Value} {h' : Heap} {W : World}
    (hx : ∃ n, callRaw Γ (run Γ n) f args [] = some (.bool true, h')) (hl : LR id (fun c => W.heap[c]?) noE args args'.toList) (hg : GlobOK Γ id (fun c => W.heap[c]?)) :
    Calls P f args' W fun e W' => e = .returned (.bool true) ∧ Stays W W' := by
  obtain ⟨n, hx⟩ := hx
  refine (call_ok (f := f) hE hcode hx (rel_nil fun _ _ h => h) (fun _ _ => rfl) hl hg).mono fun e W' ⟨val, he, I', ι', hv, ho⟩ => ?_
  cases hv
  exact ⟨he, ⟨fun c hc => ho.ext.keep c hc fun b p hb => (by cases hb), ho.ext.size, ho.ext.os, ho.ext.output⟩⟩

/-- What a variable that a row lists says. -/
theorem glob_of {W : World} {name : String} {d : DataW Unit} {rest : List (String × DataW Unit)} {g : Nat} {t : TypeId} {τ : Ty} {cells : List V}
    (hg : P.globalNamed name = some g) (hty : (P.globals[g]?).map (·.type) = some t) (hτ : τ.okT P t = true) (hd : absD τ d = some cells) (h : laidMet P ((name, d) :: rest) W) :
    ∃ cs u fr, W.heap[g]? = some (.cells cs u fr) ∧ PR id (fun c => W.heap[c]?) noE cells cs 0 := by
  obtain ⟨ps, ⟨g', t', cs, fuel, p, q, hg', ht', hvar, hr, _, _⟩, _⟩ := h
  obtain rfl := Option.some.inj (hg.symm.trans hg')
  obtain rfl := Option.some.inj (hty.symm.trans ht')
  obtain ⟨x, _, _, hx, hl⟩ := (rd τ).1 _ _ _ _ _ hτ hr
  rw [hd] at hx
  injection hx with hx
  rw [← hx] at hl
  unfold World.var? at hvar
  rw [hg] at hvar
  simp only [Option.bind_some] at hvar
  split at hvar
  · rename_i cs' u fr hh
    injection hvar with hvar
    subst hvar
    exact ⟨_, _, _, hh, by rw [Nat.zero_add, hl.1]; simp, fun k x y hx hy => hl.2 k x y hx (by rw [Nat.zero_add] at hy; simpa using hy)⟩
  · cases hvar

/-- The same, wherever it stands in the row's list. -/
theorem glob_at {W : World} {name : String} {d : DataW Unit} {g : Nat} {t : TypeId} {τ : Ty} {cells : List V}
    (hg : P.globalNamed name = some g) (hty : (P.globals[g]?).map (·.type) = some t) (hτ : τ.okT P t = true) (hd : absD τ d = some cells) :
    ∀ {laid : List (String × DataW Unit)} {ps : List MemPlace} (i : Nat), laid[i]? = some (name, d) → DataW.LaidVars P W laid ps →
    ∃ cs u fr, W.heap[g]? = some (.cells cs u fr) ∧ PR id (fun c => W.heap[c]?) noE cells cs 0
  | [], _, i, hi, _ => by simp at hi
  | (n, e) :: r, ps, 0, hi, h => by
    simp at hi
    obtain ⟨rfl, rfl⟩ := hi
    obtain ⟨g', t', cs, fuel, p, q, hg', ht', hvar, hr, _, _⟩ := h
    obtain rfl := Option.some.inj (hg.symm.trans hg')
    obtain rfl := Option.some.inj (hty.symm.trans ht')
    obtain ⟨x, _, _, hx, hl⟩ := (rd τ).1 _ _ _ _ _ hτ hr
    rw [hd] at hx
    injection hx with hx
    rw [← hx] at hl
    unfold World.var? at hvar
    rw [hg] at hvar
    simp only [Option.bind_some] at hvar
    split at hvar
    · rename_i cs' u fr hh
      injection hvar with hvar
      subst hvar
      exact ⟨_, _, _, hh, by rw [Nat.zero_add, hl.1]; simp, fun k x y hx hy => hl.2 k x y hx (by rw [Nat.zero_add] at hy; simpa using hy)⟩
    · cases hvar
  | (n, e) :: r, ps, i + 1, hi, h => by
    obtain ⟨g', t', cs, fuel, p, q, hg', ht', hvar, hr, hrest, _⟩ := h
    exact glob_at hg hty hτ hd i (by simpa using hi) hrest

/-- What a law's row asks behind a call that answers true. -/
theorem law_post {H : Type} {enc : TypeId × Value → H} {f : Func} {s : ChangeSpec} {W W' : World} {args : Array Value} {ds gs : List (DataW H)} {before : List MemPlace} (tb : TypeId)
    (hW : DataW.Whole enc P f.params.toList s.vars false W args.toList ds gs before) (hv : s.vars = []) (hfn : s.fn H ds = { results := [.lit (.bool true)], args := ds })
    (hres : f.resultTypes = #[tb]) (htb : P.underlying tb = some .bool) (hst : Stays W W')
    (hargs : ∀ p, DataW.TrodAll enc P W 0 (fun _ => true) true f.params.toList args.toList ds p → (∀ q ∈ p, W.sameAt W' q) → (∀ q ∈ p, q.block < W.heap.size) → DataW.TrodAll enc P W' 0 (fun b => decide (b < W.heap.size)) true f.params.toList args.toList ds p) :
    s.post enc P f false true false false W args (.bool true) W' := by
  have hW0 := hW
  obtain ⟨p, q, hA, hV, rfl, hfz, hnd⟩ := hW
  rw [hv] at hV
  obtain ⟨rfl, rfl⟩ := trodVars_none hV
  have hlt := hA.lt
  have hsame : ∀ q ∈ p, W.sameAt W' q := fun q hq => by
    have := hlt q hq
    cases q with
    | cell b off => exact hst.cell this
    | map b => exact hst.keep b this
  refine ⟨ds, [], p ++ [], [], p, [], hW0, ?_, ?_, ?_, hst.keptBut _, fun h => by cases h⟩
  · rw [List.append_nil, hfn, hres]
    exact trodAll_cons_mk (shut_bool htb true) trodAll_mk0
  · rw [List.append_nil, hfn]
    exact hargs p hA hsame hlt
  · rw [List.append_nil, hfn, hv]
    exact rfl

/-- The same by as many rounds as it wants. -/
theorem law_callR (hE : EnvOK Γ P id tb) {f nt : Nat} {res : List Res} {body : Cd} (hcode : Γ.fn f = some (.code nt res body)) {args : List V} {args' : Array Value} {h' : Heap} {W : World}
    (hx : callRaw Γ (R Γ) f args [] = some (.bool true, h')) (hl : LR id (fun c => W.heap[c]?) noE args args'.toList) (hg : GlobOK Γ id (fun c => W.heap[c]?)) :
    Calls P f args' W fun e W' => e = .returned (.bool true) ∧ Stays W W' := law_call hE hcode (callRaw_ct hx) hl hg
theorem trodAll_carry {H : Type} {enc : TypeId × Value → H} {w w' : World} {base : Nat} {sp : Nat → Bool} {held : Bool} : ∀ {ts : List TypeId} {vs : List Value} {ds : List (DataW H)} {ps : List MemPlace}, DataW.TrodAll enc P w base sp held ts vs ds ps → (∀ p ∈ ps, w.sameAt w' p) → DataW.TrodAll enc P w' base sp held ts vs ds ps
  | [], [], [], _, h, _ => h
  | _ :: _, _ :: _, _ :: _, _, ⟨p, q, ⟨n, h1⟩, h2, e⟩, hs =>
    ⟨p, q, ⟨n, DataW.trod_carry n _ _ _ h1 fun x hx => hs x (by rw [e]; exact List.mem_append_left _ hx)⟩, trodAll_carry h2 (fun x hx => hs x (by rw [e]; exact List.mem_append_right _ hx)), e⟩
/-- What a law's row asks behind a call that answers true: arguments of any types of the program's rows. -/
theorem law_post2 {H : Type} {enc : TypeId × Value → H} {f : Func} {s : ChangeSpec} {W W' : World} {args : Array Value} {ds gs : List (DataW H)} {before : List MemPlace} (tb : TypeId)
    (hW : DataW.Whole enc P f.params.toList s.vars false W args.toList ds gs before) (hv : s.vars = []) (hfn : s.fn H ds = { results := [.lit (.bool true)], args := ds })
    (hres : f.resultTypes = #[tb]) (htb : P.underlying tb = some .bool) (hst : Stays W W')
    (hl : laidOutB P = true) (hm : mapsRowed P = true) (hz : ((List.range P.types.size).all fun t => match P.underlying t with | some (.slice e) => decide (0 < P.cellsOf e) | _ => true) = true) (hts : ∀ t ∈ f.params.toList, t < P.types.size) :
    s.post enc P f false true false false W args (.bool true) W' :=
  law_post tb hW hv hfn hres htb hst fun p hp hsame hlt =>
    (trodAll_carry hp hsame).respare (kids_rows hl hm) (slices_full_of P hz) hts fun q hq => by simpa using hlt q hq
/-- A struct as an argument. -/
theorem arg_struct {H : Type} {enc : TypeId × Value → H} {W : World} {base : Nat} {sp : Nat → Bool} {held : Bool} {τ : Ty} {t : TypeId} {fs : Array Field} {v : Value} {d : DataW H} {ps : List MemPlace} {r : Reach} {b0 : Nat}
    (hτ : τ.okT P t = true) (ht : P.underlying t = some (.struct fs)) (hval : Value.okWide P W r b0 t v) (hd : DataW.Trod enc P W base sp held t v d ps) :
    ∃ x : τ.den, τ.wf x ∧ τ.bulk x ≤ bulkD d ∧ VR id (fun c => W.heap[c]?) noE (.agg (τ.enc x)) v := by
  unfold Value.okWide at hval
  rw [ht] at hval
  obtain ⟨cs, rfl, hsz, _⟩ := hval
  obtain ⟨n, hn⟩ := hd
  obtain ⟨x, h1, h2, _, h4⟩ := (rd τ).1 _ _ _ _ _ hτ hn
  exact ⟨x, h1, h2, agg_of h4⟩
end
end Am
