/- The operations on maps; conversions, copy, clear. -/
import Derived.Test.YtnfcgeplleikdaaDoorAmOpsE
import Derived.Laws.IdiomCopy
namespace Am
open Go (IntKind BinOp UnOp Obj Value World Addr Program TypeDesc TypeId Operand Act Sem Result Next MapEntry)
section
variable {P : Program} {N : Nat → Nat} {tb : TypeId → Option TI} {Γ : Env} {I I' : Imm} {ι ι' : Emb} {h h' : Heap} {w w' : World} {tm : List V} {a : Act} {slot : Option Nat}

def flatV : Value → Bool
  | .int .. => true
  | .bool _ => true
  | .string _ => true
  | _ => false

def findKv (k : Value) : List MapEntry → Nat → Option (Option (Nat × Value))
  | [], _ => some none
  | e :: es, i => (eqKv k e.key).bind fun b => if b then some (some (i, e.val)) else findKv k es (i + 1)

theorem baeq (a b : ByteArray) : (a == b) = true ↔ a = b := by
  cases a with | mk x =>
  cases b with | mk y =>
  show (x == y) = true ↔ _
  simp

theorem flat_sim {x : V} {u : Value} (hx : VR N I ι x u) (h : x.flat = true) : flatV u = true := by
  cases hx <;> simp_all [V.flat, flatV]
theorem eqK_sim {x y : V} {u v : Value} {r : Bool} (hx : VR N I ι x u) (hy : VR N I ι y v) (h : eqK x y = some r) : eqKv u v = some r := by
  have hxc := cells_sim hx
  have hyc := cells_sim hy
  cases hx <;> cases hy <;> first
    | (simp only [eqK] at h; simp only [eqKv]; exact eqL_sim hxc hyc h)
    | (simp_all [eqK, eqKv, eqS, eqSv]; done)
theorem eqKv_eqLv {u v : Value} {r : Bool} (h : eqKv u v = some r) : eqLv u.cells.toList v.cells.toList = some r := by
  cases u <;> cases v <;> simp_all [eqKv, eqSv, eqLv, Value.cells]
theorem eqSv_self {u : Value} (h : flatV u = true) : eqSv u u = some true := by cases u <;> simp_all [flatV, eqSv, baeq]
theorem eqLv_self : ∀ {us : List Value}, us.all flatV = true → eqLv us us = some true
  | [], _ => rfl
  | u :: us, h => by
    simp only [List.all_cons, Bool.and_eq_true] at h
    simp [eqLv, eqSv_self h.1, eqLv_self h.2]
theorem eqSv_eq {u v : Value} (h : eqSv u v = some true) : u = v := by
  cases u <;> cases v <;> simp_all [eqSv, baeq]
theorem eqLv_eq : ∀ {us vs : List Value}, eqLv us vs = some true → us = vs
  | [], [], _ => rfl
  | [], v :: vs, h => by simp [eqLv] at h
  | u :: us, [], h => by simp [eqLv] at h
  | u :: us, v :: vs, h => by
    simp only [eqLv, Option.bind_eq_some_iff, Option.some.injEq, Bool.and_eq_true] at h
    obtain ⟨b, hb, r, hr, rfl, rfl⟩ := h
    rw [eqSv_eq hb, eqLv_eq hr]
theorem eqKv_eq {u v : Value} (h : eqKv u v = some true) : u = v := by
  cases u <;> cases v <;> first
    | (simp only [eqKv] at h; have := eqLv_eq h; congr 1; exact Array.ext' this)
    | exact eqSv_eq (by simpa [eqKv] using h)

theorem sameNow_eq {d : TypeDesc} {u v : Value} {b : Bool} (h : Go.Instr.sameNow d u v = some b) : eqKv u v = some b := by
  unfold Go.Instr.sameNow at h
  split at h <;> first
    | (simp only [eqKv, eqSv]; exact h)
    | cases h

theorem findNow_eq {d : TypeDesc} {k : Value} : ∀ {es : List MapEntry} {i : Nat} {q r : Option (Nat × Value)}, Go.Instr.findNow d k es i = some q → findKv k es i = some r → q = r
  | [], i, q, r, h1, h2 => by simp [Go.Instr.findNow, findKv] at h1 h2; rw [← h1, ← h2]
  | e :: es, i, q, r, h1, h2 => by
    simp only [Go.Instr.findNow] at h1
    simp only [findKv, Option.bind_eq_some_iff] at h2
    obtain ⟨b, hb, h2⟩ := h2
    split at h1
    · rename_i hs
      have := sameNow_eq hs
      rw [hb] at this; injection this with this; subst this
      simp at h1 h2; rw [← h1, ← h2]
    · rename_i hs
      have := sameNow_eq hs
      rw [hb] at this; injection this with this; subst this
      simp only [Bool.false_eq_true, if_false] at h2
      exact findNow_eq h1 h2
    · cases h1

theorem run_findAsking {t : TypeId} {K : KS} {k : Value} (hp : PlainOK P t K) (hk : keyOKv K k = true) (w : World) : ∀ {es : List MapEntry} {i : Nat} {r : Option (Nat × Value)}, findKv k es i = some r → (Go.Instr.findAsking t k es i).run P w = .ok r w
  | [], i, r, h => by simp [findKv] at h; subst h; simp [Go.Instr.findAsking]
  | e :: es, i, r, h => by
    simp only [findKv, Option.bind_eq_some_iff] at h
    obtain ⟨b, hb, h⟩ := h
    have he := hp.equal k e.key b w hk hb
    cases b with
    | true => simp at h; subst h; simp [Go.Instr.findAsking, he]
    | false => simp at h; simp [Go.Instr.findAsking, he, run_findAsking hp hk w h]

theorem run_findKey {t : TypeId} {K : KS} {d : TypeDesc} {k : Value} (hu : P.underlying t = some d) (hp : PlainOK P t K) (hk : keyOKv K k = true) (w : World) {es : List MapEntry} {r : Option (Nat × Value)} (h : findKv k es 0 = some r) :
    (Go.Instr.findKey t k es).run P w = .ok r w := by
  unfold Go.Instr.findKey
  simp only [Sem.run_bind, Go.run_underlying hu, Go.Result.andThen_ok]
  cases hf : Go.Instr.findNow d k es 0 with
  | some q => simp [findNow_eq hf h]
  | none => simp only [run_findAsking hp hk w h]

theorem findK_sim {k : V} {kv : Value} (hk : VR N I ι k kv) : ∀ {es : List (V × V)} {ents : List MapEntry} {i : Nat} {r : Option (Nat × V)},
    es.length = ents.length → (∀ (j : Nat) e x, es[j]? = some e → ents[j]? = some x → VR N I ι e.1 x.key ∧ VR N I ι e.2 x.val) → findK k es i = some r →
    match r with
    | none => findKv kv ents i = some none
    | some (j, v) => ∃ m e, j = i + m ∧ ents[m]? = some e ∧ VR N I ι v e.val ∧ e.key = kv ∧ m < es.length ∧ findKv kv ents i = some (some (j, e.val))
  | [], [], i, r, _, _, h => by simp [findK] at h; subst h; simp [findKv]
  | [], _ :: _, i, r, hl, _, h => by simp at hl
  | _ :: _, [], i, r, hl, _, h => by simp at hl
  | e :: es, x :: ents, i, r, hl, hv, h => by
    simp only [findK, Option.bind_eq_some_iff] at h
    obtain ⟨b, hb, h⟩ := h
    obtain ⟨h1, h2⟩ := hv 0 e x rfl rfl
    have hbv := eqK_sim hk h1 hb
    cases b with
    | true =>
      simp at h; subst h
      exact ⟨0, x, rfl, rfl, h2, (eqKv_eq hbv).symm, by simp, by simp [findKv, hbv]⟩
    | false =>
      simp at h
      have ih := findK_sim hk (es := es) (ents := ents) (i := i + 1) (by simpa using hl) (fun j e x he hx => hv (j + 1) e x (by simpa using he) (by simpa using hx)) h
      cases r with
      | none => simp only at ih ⊢; simp [findKv, hbv, ih]
      | some p =>
        obtain ⟨j, v⟩ := p
        obtain ⟨m, e', rfl, g1, g2, g3, g4, g5⟩ := ih
        exact ⟨m + 1, e', by omega, by simpa using g1, g2, g3, by simpa using g4, by simp [findKv, hbv, g5]⟩

theorem key_ok {t : TypeId} {K : KS} {k : V} {kv : Value} (hk : VR N I ι k kv) (hp : PlainOK P t K) (hn : keyOK K k = true) : keyOKv K kv = true ∧ ∀ b w, (Go.Instr.checkKey b 10000 t kv).run P w = .ok () w :=
  ⟨keyOK_sim hk hn, fun b w => hp.key b kv w (keyOK_sim hk hn)⟩
theorem fits_flat : ∀ {ks : List Bk} {xs : List V}, fits ks xs = true → xs.all V.flat = true
  | [], [], _ => rfl
  | k :: ks, x :: xs, h => by
    simp only [fits, Bool.and_eq_true] at h
    simp only [List.all_cons, Bool.and_eq_true]
    exact ⟨by cases k <;> cases x <;> simp_all [fit, V.flat], fits_flat h.2⟩
  | [], _ :: _, h => by simp [fits] at h
  | _ :: _, [], h => by simp [fits] at h
theorem key_cells {K : KS} {k : V} (h : keyOK K k = true) : k.cells.all V.flat = true := by
  simp only [keyOK, Bool.and_eq_true] at h
  exact fits_flat h.2

def RR (N : Nat → Nat) (I : Imm) (ι : Emb) : Option (Nat × V) → Option (Nat × Value) → Prop
  | none, r => r = none
  | some (j, x), r => ∃ y, r = some (j, y) ∧ VR N I ι x y

theorem sim_look {t ky e : TypeId} {i ik ie : TI} {zero mv kv v : V} {zv m k : Value} {ok : Bool} (hi : TIok P N t i) (hd : i.desc = .map ky e) (hik : TIok P N ky ik) {K : KS} (hpl : ik.plain = some K)
    (hz : ∀ w, (Go.zeroValue e).run P w = .ok zv w) (hzv : VR N I ι zero zv) (hr : Rel N I ι h w) (hm : VR N I ι mv m) (hk : VR N I ι kv k) (hn : keyOK K kv = true)
    (hx : lookV h zero ok mv kv = some v) : ∃ val, (Go.Instr.lookup t m k ok).run P w = .ok val w ∧ VR N I ι v val := by
  have hu : P.underlying t = some (.map ky e) := by rw [hi.und, hd]
  obtain ⟨hks, hck⟩ := key_ok hk (hik.plain K hpl) hn
  have hres : ∀ (r : Option (Nat × V)) (r' : Option (Nat × Value)), RR N I ι r r' →
      ∃ val, (do let (v, ok') ← (match r' with | some (_, v) => pure (v, true) | none => do pure (← Go.zeroValue e, false) : Sem (Value × Bool)); pure (if ok then Value.tuple #[v, .bool ok'] else v) : Sem Value).run P w = .ok val w ∧ VR N I ι (lookR zero ok r) val := by
    intro r r' hrr
    cases r with
    | none =>
      simp only [RR] at hrr; subst hrr
      cases ok with
      | true =>
        refine ⟨.tuple #[zv, .bool false], by simp [hz], ?_⟩
        refine .tup rfl fun k x y hx hy => ?_
        rcases k with _ | _ | k
        · simp [lookR] at hx hy; subst hx; subst hy; exact hzv
        · simp [lookR] at hx hy; subst hx; subst hy; exact .bool _
        · simp [lookR] at hx
      | false => exact ⟨zv, by simp [hz], hzv⟩
    | some p =>
      obtain ⟨j, x⟩ := p
      obtain ⟨y, rfl, hxy⟩ := hrr
      cases ok with
      | true =>
        refine ⟨.tuple #[y, .bool true], by simp, ?_⟩
        refine .tup rfl fun k x y hx hy => ?_
        rcases k with _ | _ | k
        · simp [lookR] at hx hy; subst hx; subst hy; exact hxy
        · simp [lookR] at hx hy; subst hx; subst hy; exact .bool _
        · simp [lookR] at hx
      | false => exact ⟨y, by simp, hxy⟩
  unfold lookV at hx
  split at hx
  · injection hx with hx; subst hx
    cases hm
    obtain ⟨val, h1, h2⟩ := hres none none rfl
    refine ⟨val, ?_, h2⟩
    have hf := run_findKey (P := P) hik.und (hik.plain K hpl) hks w (es := []) (r := none) (by simp [findKv])
    unfold Go.Instr.lookup
    simp only [Sem.run_bind, Go.run_underlying hu, Go.Result.andThen_ok, Sem.run_pure, hck, hf]
    simpa [hz] using h1
  · rename_i b
    split at hx
    · rename_i es hes
      simp only [Option.map_eq_some_iff] at hx
      obtain ⟨r, hfr, rfl⟩ := hx
      cases hm with
      | mp hb =>
        rename_i c
        obtain ⟨_, ents, clk, hw, hmr⟩ := hr.map _ _ _ hb hes
        have hfs := findK_sim hk (es := es) (ents := ents.toList) (i := 0) (r := r) (by simpa using hmr.1) (fun j e x he hx => hmr.2 j e x he (by simpa using hx)) hfr
        have hget : ∀ w' : World, w'.heap = w.heap → (Go.getObj c.1).run P w = .ok (.map ents clk) w := fun w' _ => by
          simp [Go.getObj, Sem.run, hw]
        obtain ⟨r', hr1, hr2⟩ : ∃ r' : Option (Nat × Value), findKv k ents.toList 0 = some r' ∧ RR N I ι r r' := by
          cases r with
          | none => exact ⟨none, hfs, rfl⟩
          | some p =>
            obtain ⟨j, x⟩ := p
            obtain ⟨m, e', _, _, g2, _, _, g5⟩ := hfs
            exact ⟨_, g5, _, rfl, g2⟩
        obtain ⟨val, h1, h2⟩ := hres r r' hr2
        refine ⟨val, ?_, h2⟩
        have hf := run_findKey (P := P) hik.und (hik.plain K hpl) hks w hr1
        unfold Go.Instr.lookup
        simp only [Sem.run_bind, Go.run_underlying hu, Go.Result.andThen_ok, Sem.run_pure, hget w rfl, hck, hf]
        cases r' with
        | none => simpa [hz] using h1
        | some p => obtain ⟨j, y⟩ := p; simpa using h1
    · cases hx
  · cases hx

theorem sameBits_self {v : Value} (h : flatV v = true) (n : Nat) : Go.Instr.sameBits n v v = true := by
  cases v <;> simp_all [flatV, Go.Instr.sameBits, baeq]

theorem run_keyThatStays {k : Value} (hf : k.cells.toList.all flatV = true) (w : World) : (Go.Instr.keyThatStays k k).run P w = .ok k w := by
  have hs : Go.Instr.sameBits 10000 k k = true := by
    cases k with
    | agg cs =>
      have hc : ∀ u ∈ cs.toList, flatV u = true := fun u hu => List.all_eq_true.1 hf u (by simpa [Value.cells] using hu)
      have key : ∀ (n : Nat), Go.Instr.sameBits (n + 1) (.agg cs) (.agg cs) = true := fun n => by
        simp only [Go.Instr.sameBits, beq_self_eq_true, Bool.true_and]
        rw [List.all_eq_true]
        rintro ⟨x, y⟩ hxy
        obtain ⟨j, hj, he⟩ := List.getElem_of_mem hxy
        simp at he hj
        obtain ⟨rfl, rfl⟩ := he
        exact sameBits_self (hc _ (by simp)) n
      exact key 9999
    | bool | int | string => exact sameBits_self (by simpa [Value.cells] using hf) 10000
    | _ => simp [Value.cells, flatV] at hf
  unfold Go.Instr.keyThatStays
  rw [if_pos hs]; rfl

theorem run_getObj {c : Nat} {ents : Array MapEntry} {clk : Nat} (hw : w.heap[c]? = some (.map ents clk)) : (Go.getObj c).run P w = .ok (.map ents clk) w := by
  simp [Go.getObj, Sem.run, hw]
theorem run_setObj {c : Nat} {ents : Array MapEntry} {clk : Nat} {o : Obj} (hw : w.heap[c]? = some (.map ents clk)) : ∃ w', (Go.setObj c o).run P w = .ok () w' ∧ Blk w w' c o := by
  have hlt : c < w.heap.size := (Array.getElem?_eq_some_iff.1 hw).1
  refine ⟨{ w with heap := w.heap.setIfInBounds c o }, by simp [Go.setObj, Sem.run, hw], ⟨by simp, by simp [hlt], fun d hd => by simp [Array.getElem?_setIfInBounds_ne (Ne.symm hd)], rfl, rfl, rfl⟩⟩

theorem key_flat {k : V} {kv : Value} (hk : VR N I ι k kv) (hf : k.cells.all V.flat = true) : kv.cells.toList.all flatV = true := by
  have hc := cells_sim hk
  rw [List.all_eq_true]
  intro u hu
  obtain ⟨j, hj, rfl⟩ := List.getElem_of_mem hu
  have hj' : j < k.cells.length := hc.1 ▸ hj
  exact flat_sim (hc.2 j _ _ (List.getElem?_eq_getElem hj') (List.getElem?_eq_getElem hj)) (List.all_eq_true.1 hf _ (List.getElem_mem hj'))

theorem sim_mupd {t ky e : TypeId} {i ik : TI} {mv kv vv : V} {m k v : Value} (hi : TIok P N t i) (hd : i.desc = .map ky e) (hik : TIok P N ky ik) {K : KS} (hpl : ik.plain = some K)
    (hr : Rel N I ι h w) (hm : VR N I ι mv m) (hk : VR N I ι kv k) (hv : VR N I ι vv v) (hn : keyOK K kv = true)
    (hx : mupdV h mv kv vv = some h') : ∃ w', (Go.Instr.mapUpdate t m k v).run P w = .ok () w' ∧ Rel N I ι h' w' ∧ Ext I ι h w I ι h' w' := by
  have hu : P.underlying t = some (.map ky e) := by rw [hi.und, hd]
  obtain ⟨hks, hck⟩ := key_ok hk (hik.plain K hpl) hn
  unfold mupdV at hx
  split at hx
  · rename_i b
    split at hx
    · rename_i es hes
      simp only [Option.map_eq_some_iff] at hx
      obtain ⟨r, hfr, hx⟩ := hx
      cases hm with
      | mp hb =>
        rename_i c
        obtain ⟨_, ents, clk, hw, hmr⟩ := hr.map _ _ _ hb hes
        have hfs := findK_sim hk (es := es) (ents := ents.toList) (i := 0) (r := r) (by simpa using hmr.1) (fun j e x he hx => hmr.2 j e x he (by simpa using hx)) hfr
        cases r with
        | none =>
          simp only at hx hfs; subst hx
          have hf := run_findKey (P := P) hik.und (hik.plain K hpl) hks w hfs
          obtain ⟨w', hso, hblk⟩ := run_setObj (P := P) (o := .map (ents.push { key := k, val := v, born := clk }) (clk + 1)) hw
          obtain ⟨g1, g2⟩ := rel_upd (ob' := .map (es ++ [(kv, vv)])) hr hb hes rfl hblk ⟨_, _, rfl, by simpa using hmr.1, fun j e x he hx => by
            rw [Array.getElem?_push] at hx
            split at hx
            · rename_i hj
              injection hx with hx; subst hx
              rw [hj, ← hmr.1, List.getElem?_append_right (Nat.le_refl _)] at he
              simp at he; subst he; exact ⟨hk, hv⟩
            · rename_i hj
              have hlt : j < ents.size := (Array.getElem?_eq_some_iff.1 hx).1
              rw [List.getElem?_append_left (by have := hmr.1; omega)] at he
              exact hmr.2 j e x he hx⟩
          refine ⟨w', ?_, g1, g2⟩
          unfold Go.Instr.mapUpdate
          simp only [Sem.run_bind, Go.run_underlying hu, Go.Result.andThen_ok, run_getObj hw, hck, hf, hso]
        | some p =>
          obtain ⟨j, x⟩ := p
          simp only at hx; subst hx
          obtain ⟨m, e', hj, g1, g2, g3, g4, g5⟩ := hfs
          have hjm : j = m := by omega
          subst hjm
          have hf := run_findKey (P := P) hik.und (hik.plain K hpl) hks w g5
          have hge : ents[j]? = some e' := by simpa using g1
          have hold : ((ents[j]?).map (·.key)).getD k = k := by rw [hge]; simp [g3]
          obtain ⟨w', hso, hblk⟩ := run_setObj (P := P) (o := .map (ents.modify j fun e => { e with key := k, val := v }) clk) hw
          obtain ⟨q1, q2⟩ := rel_upd (ob' := .map (es.set j (kv, vv))) hr hb hes rfl hblk ⟨_, _, rfl, by simpa using hmr.1, fun n e x he hx => by
            rw [Array.getElem?_modify] at hx
            rw [List.getElem?_set] at he
            split at he
            · rename_i hn
              have he' : some (kv, vv) = some e := by
                first
                  | exact he
                  | (rw [if_pos (by omega)] at he; exact he)
              rw [if_pos hn] at hx
              injection he' with he'; subst he'
              simp only [Option.map_eq_some_iff] at hx
              obtain ⟨y, _, rfl⟩ := hx
              exact ⟨hk, hv⟩
            · rename_i hn
              rw [if_neg hn] at hx
              exact hmr.2 n e x he hx⟩
          refine ⟨w', ?_, q1, q2⟩
          unfold Go.Instr.mapUpdate
          simp only [Sem.run_bind, Go.run_underlying hu, Go.Result.andThen_ok, run_getObj hw, hck, hf, hold, run_keyThatStays (key_flat hk (key_cells hn)), hso]
    · cases hx
  · cases hx

theorem set_self {b : Nat} {ob : Ob} (hb : h[b]? = some ob) : h.set b ob = h := by
  apply List.ext_getElem?
  intro n
  rw [List.getElem?_set]
  split
  · rename_i e; subst e
    rw [if_pos (List.getElem?_eq_some_iff.1 hb).1, hb]
  · rfl

theorem sim_mdel {t u ky e ty : TypeId} {i ik : TI} {mv kv : V} {m k : Value} (hi : TIok P N t i) (hd : i.desc = .map ky e) (hik : TIok P N ky ik) {K : KS} (hpl : ik.plain = some K)
    (hr : Rel N I ι h w) (hm : VR N I ι mv m) (hk : VR N I ι kv k) (hn : keyOK K kv = true)
    (hx : mdelV h mv kv = some h') : ∃ w', (Go.Builtin.delete_ #[t, u] ty #[m, k]).run P w = .ok (.tuple #[]) w' ∧ Rel N I ι h' w' ∧ Ext I ι h w I ι h' w' := by
  have hu : P.underlying t = some (.map ky e) := by rw [hi.und, hd]
  obtain ⟨hks, hck⟩ := key_ok hk (hik.plain K hpl) hn
  unfold mdelV at hx
  split at hx
  · rename_i b
    split at hx
    · rename_i es hes
      simp only [Option.map_eq_some_iff] at hx
      obtain ⟨r, hfr, hx⟩ := hx
      cases hm with
      | mp hb =>
        rename_i c
        obtain ⟨_, ents, clk, hw, hmr⟩ := hr.map _ _ _ hb hes
        have hfs := findK_sim hk (es := es) (ents := ents.toList) (i := 0) (r := r) (by simpa using hmr.1) (fun j e x he hx => hmr.2 j e x he (by simpa using hx)) hfr
        cases r with
        | none =>
          simp only at hx hfs; subst hx
          have hf := run_findKey (P := P) hik.und (hik.plain K hpl) hks w hfs
          obtain ⟨w', hso, hblk⟩ := run_setObj (P := P) (o := .map ents clk) hw
          obtain ⟨g1, g2⟩ := rel_upd (ob' := .map es) hr hb hes rfl hblk ⟨_, _, rfl, hmr⟩
          rw [set_self hes] at g1 g2
          refine ⟨w', ?_, g1, g2⟩
          unfold Go.Builtin.delete_
          simp [Go.run_underlying hu, run_getObj hw, hck, hf, hso]
        | some p =>
          obtain ⟨j, x⟩ := p
          simp only at hx; subst hx
          obtain ⟨m, e', hj, g1, g2, g3, g4, g5⟩ := hfs
          have hjm : j = m := by omega
          subst hjm
          have hf := run_findKey (P := P) hik.und (hik.plain K hpl) hks w g5
          obtain ⟨w', hso, hblk⟩ := run_setObj (P := P) (o := .map (ents.eraseIdxIfInBounds j) clk) hw
          have hjs : j < ents.size := by have := hmr.1; omega
          have hel : (ents.eraseIdxIfInBounds j).toList = ents.toList.eraseIdx j := by
            simp [Array.eraseIdxIfInBounds, hjs]
          obtain ⟨q1, q2⟩ := rel_upd (ob' := .map (es.eraseIdx j)) hr hb hes rfl hblk ⟨_, _, rfl, by
            have e1 : (ents.eraseIdxIfInBounds j).size = (ents.toList.eraseIdx j).length := by rw [← hel, Array.length_toList]
            rw [e1, List.length_eraseIdx, List.length_eraseIdx]; simp [hmr.1], fun n e x he hx => by
            rw [← Array.getElem?_toList, hel, List.getElem?_eraseIdx] at hx
            rw [List.getElem?_eraseIdx] at he
            split at he
            · rename_i hn; rw [if_pos hn] at hx; exact hmr.2 n e x he (by simpa using hx)
            · rename_i hn; rw [if_neg hn] at hx; exact hmr.2 (n + 1) e x he (by simpa using hx)⟩
          refine ⟨w', ?_, q1, q2⟩
          unfold Go.Builtin.delete_
          simp [Go.run_underlying hu, run_getObj hw, hck, hf, hso]
    · cases hx
  · cases hx
end
end Am
