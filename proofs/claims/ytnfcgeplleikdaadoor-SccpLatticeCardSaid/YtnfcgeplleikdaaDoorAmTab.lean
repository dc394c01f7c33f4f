/- The table of types, by the program; '==' and the look at a key, cell by cell. -/
import Derived.Test.YtnfcgeplleikdaaDoorAmCode
namespace Am
open Go (IntKind BinOp UnOp Obj Value World Addr Program TypeDesc TypeId Operand Act Sem Result Next)

section
variable (P : Program)
def sizeIs (t : TypeId) (n : Nat) : Bool := match P.info? t with
  | some i => i.size == n
  | none => false
def isAggT (t : TypeId) : Bool := match P.underlying t with
  | some (.struct _) => true
  | some (.array _ _) => true
  | _ => false

def plainPs (rec_ : TypeId → Option KS) : List (TypeId × Nat) → Nat → Option (List Bk)
  | [], _ => some []
  | p :: ps, off => (rec_ p.1).bind fun K => if p.2 = off ∧ 0 < K.ks.length ∧ sizeIs P p.1 K.ks.length = true ∧ isAggT P p.1 = K.ag then (plainPs rec_ ps (off + K.ks.length)).map (K.ks ++ ·) else none

def plainK : Nat → TypeId → Option KS
  | 0, _ => none
  | n + 1, t => match P.underlying t with
    | some .bool => some ⟨[.b], false⟩
    | some (.int _) => some ⟨[.i], false⟩
    | some .string => some ⟨[.s], false⟩
    | some (.struct fs) => if P.stoodInHeld t = false ∧ (fs.toList.all fun f => f.name != "_") = true then (plainPs P (plainK n) (fs.toList.map fun f => (f.type, f.offset)) 0).map (⟨·, true⟩) else none
    | some (.array len e) => match P.info? e with
      | some i => (plainPs P (plainK n) ((List.range len).map fun k => (e, k * i.size)) 0).map (⟨·, true⟩)
      | none => none
    | _ => none
end

section
variable {P : Program} {w : World}

def pval (K : KS) (cs : Array Value) (off : Nat) : Value := if K.ag = true then .agg (cs.extract off (off + K.ks.length)) else cs.getD off Go.undef

theorem eqLv_append : ∀ {A A' B B' : List Value} {r : Bool}, A.length = A'.length → eqLv (A ++ B) (A' ++ B') = some r → ∃ r1 r2, eqLv A A' = some r1 ∧ eqLv B B' = some r2 ∧ r = (r1 && r2)
  | [], [], B, B', r, _, h => ⟨true, r, rfl, h, by simp⟩
  | [], _ :: _, _, _, _, hl, _ => by simp at hl
  | _ :: _, [], _, _, _, hl, _ => by simp at hl
  | a :: A, a' :: A', B, B', r, hl, h => by
    simp only [List.cons_append, eqLv, Option.bind_eq_some_iff, Option.some.injEq] at h
    obtain ⟨b, hb, r', hr', rfl⟩ := h
    obtain ⟨r1, r2, h1, h2, rfl⟩ := eqLv_append (by simpa using hl) hr'
    exact ⟨b && r1, r2, by simp [eqLv, hb, h1], h2, by cases b <;> simp⟩
theorem eqLv_length : ∀ {A A' : List Value} {r : Bool}, eqLv A A' = some r → A.length = A'.length
  | [], [], _, _ => rfl
  | [], _ :: _, _, h => by simp [eqLv] at h
  | _ :: _, [], _, h => by simp [eqLv] at h
  | a :: A, a' :: A', r, h => by
    simp only [eqLv, Option.bind_eq_some_iff] at h
    obtain ⟨b, hb, r', hr', _⟩ := h
    simp [eqLv_length hr']
theorem fitsv_append : ∀ {ks ls : List Bk} {vs : List Value}, fitsv (ks ++ ls) vs = true → fitsv ks (vs.take ks.length) = true ∧ fitsv ls (vs.drop ks.length) = true
  | [], ls, vs, h => by simpa [fitsv] using h
  | k :: ks, ls, [], h => by simp [fitsv] at h
  | k :: ks, ls, v :: vs, h => by
    simp only [List.cons_append, fitsv, Bool.and_eq_true] at h
    have := fitsv_append h.2
    simp [fitsv, h.1, this]
theorem fitsv_length : ∀ {ks : List Bk} {vs : List Value}, fitsv ks vs = true → vs.length = ks.length
  | [], [], _ => rfl
  | [], _ :: _, h => by simp [fitsv] at h
  | _ :: _, [], h => by simp [fitsv] at h
  | k :: ks, v :: vs, h => by
    simp only [fitsv, Bool.and_eq_true] at h
    simp [fitsv_length h.2]

theorem run_isAgg {t : TypeId} (h : (P.underlying t).isSome) : (Go.isAgg t).run P w = .ok (isAggT P t) w := by
  obtain ⟨d, hd⟩ := Option.isSome_iff_exists.1 h
  simp only [Go.isAgg, Sem.run_bind, Go.run_underlying hd, Go.Result.andThen_ok, isAggT, hd]
  cases d <;> rfl

theorem part_run {t : TypeId} {K : KS} {cs : Array Value} {off : Nat} (hu : (P.underlying t).isSome) (hs : sizeIs P t K.ks.length = true) (ha : isAggT P t = K.ag) (hl : off + K.ks.length ≤ cs.size) (h1 : K.ag = false → K.ks.length = 1) :
    (Go.part t cs off).run P w = .ok (pval K cs off) w := by
  unfold sizeIs at hs
  split at hs
  · rename_i i hi
    have hsz : i.size = K.ks.length := by simpa using hs
    unfold Go.part pval
    simp only [Sem.run_bind, run_isAgg hu, Go.Result.andThen_ok, ha]
    cases hag : K.ag with
    | true => simp [Go.sizeOf, Go.typeInfo, hi, hsz]
    | false =>
      have hlt : off < cs.size := by have := h1 hag; omega
      simp [hlt]
  · cases hs

theorem forIn_all {α : Type} (b : α → Bool) : ∀ (L : List α) (body : α → (Option Bool × Unit) → Sem (ForInStep (Option Bool × Unit))), (∀ x ∈ L, ∀ s, (body x s).run P w = .ok (if b x = true then .yield (none, ()) else .done (some false, ())) w) →
    (forIn L (none, ()) body).run P w = .ok (if L.all b = true then (none, ()) else (some false, ())) w
  | [], body, _ => by simp
  | x :: L, body, h => by
    rw [List.forIn_cons]
    simp only [Sem.run_bind, h x (by simp), Go.Result.andThen_ok]
    cases hb : b x with
    | true => simp only [if_true, List.all_cons, hb, Bool.true_and]; exact forIn_all b L body fun y hy => h y (by simp [hy])
    | false => simp [hb]
theorem forIn_unit {α : Type} : ∀ (L : List α) (body : α → PUnit → Sem (ForInStep PUnit)), (∀ x ∈ L, ∀ s, (body x s).run P w = .ok (.yield PUnit.unit) w) → (forIn L PUnit.unit body).run P w = .ok PUnit.unit w
  | [], body, _ => by simp
  | x :: L, body, h => by
    rw [List.forIn_cons]
    simp only [Sem.run_bind, h x (by simp), Go.Result.andThen_ok]
    exact forIn_unit L body fun y hy => h y (by simp [hy])

def PlainEq (P : Program) (t : TypeId) (K : KS) (n : Nat) : Prop :=
  (P.underlying t).isSome ∧ (K.ag = false → K.ks.length = 1) ∧
  (∀ d x y r w, n ≤ d → keyOKv K x = true → eqKv x y = some r → (Go.Op.equalIn d t x y).run P w = .ok r w) ∧
  (∀ d b x w, n ≤ d → keyOKv K x = true → (Go.Instr.checkKey b d t x).run P w = .ok () w)

theorem drop_one {xs : Array Value} {off : Nat} (h : off < xs.size) : (xs.toList.drop off).take 1 = [xs[off]] := by
  rw [List.drop_eq_getElem_cons (by simpa using h)]; simp

theorem pval_ok {K : KS} {cs : Array Value} {off : Nat} (h1 : K.ag = false → K.ks.length = 1) (hf : fitsv K.ks ((cs.toList.drop off).take K.ks.length) = true) : keyOKv K (pval K cs off) = true := by
  have hl := fitsv_length hf
  simp at hl
  unfold keyOKv pval
  cases hag : K.ag with
  | true => simp [isAggv, Value.cells, List.extract_eq_take_drop]; simpa using hf
  | false =>
    have h2 := h1 hag
    have hlt : off < cs.size := by omega
    obtain ⟨k, hk⟩ : ∃ k, K.ks = [k] := by
      match hks : K.ks, h2 with
      | [k], _ => exact ⟨k, rfl⟩
    rw [hk] at hf
    simp only [List.length_cons, List.length_nil, Nat.zero_add, drop_one hlt, fitsv, Bool.and_true] at hf
    have hg : cs.getD off Go.undef = cs[off] := by simp [hlt]
    rw [if_neg (by decide), hg, hk]
    generalize cs[off] = v at hf
    cases k <;> cases v <;> first | (cases hf; done) | rfl

theorem pval_eq {K : KS} {xs ys : Array Value} {off : Nat} {r : Bool} (h1 : K.ag = false → K.ks.length = 1) (hf : fitsv K.ks ((xs.toList.drop off).take K.ks.length) = true) (he : eqLv ((xs.toList.drop off).take K.ks.length) ((ys.toList.drop off).take K.ks.length) = some r) :
    eqKv (pval K xs off) (pval K ys off) = some r := by
  have hl := fitsv_length hf
  have hl2 := eqLv_length he
  simp at hl hl2
  unfold pval
  cases hag : K.ag with
  | true => simp [eqKv, List.extract_eq_take_drop]; simpa using he
  | false =>
    have h2 := h1 hag
    have hlt : off < xs.size := by omega
    have hlt2 : off < ys.size := by omega
    rw [h2, drop_one hlt, drop_one hlt2] at he
    simp only [eqLv, Option.bind_eq_some_iff, Option.some.injEq] at he
    obtain ⟨b, hb, r', rfl, rfl⟩ := he
    have hg : xs.getD off Go.undef = xs[off] := by simp [hlt]
    have hg2 : ys.getD off Go.undef = ys[off] := by simp [hlt2]
    rw [if_neg (by decide), if_neg (by decide), hg, hg2]
    generalize xs[off] = u at hb
    generalize ys[off] = v at hb
    cases u <;> cases v <;> first | (cases hb; done) | (rw [Bool.and_true]; exact hb)

def bOf (rec_ : TypeId → Option KS) (xs ys : Array Value) (p : TypeId × Nat) : Bool :=
  match rec_ p.1 with
  | some K => (eqKv (pval K xs p.2) (pval K ys p.2)).getD false
  | none => false

/-- The parts of a struct or an array. -/
theorem parts_ok {n : Nat} {rec_ : TypeId → Option KS} (hrec : ∀ t K, rec_ t = some K → PlainEq P t K n) : ∀ {L : List (TypeId × Nat)} {off : Nat} {ks : List Bk}, plainPs P rec_ L off = some ks →
    (∀ xs : Array Value, fitsv ks (xs.toList.drop off) = true → ∀ p ∈ L, ∃ K, rec_ p.1 = some K ∧ (∀ w, (Go.part p.1 xs p.2).run P w = .ok (pval K xs p.2) w) ∧ keyOKv K (pval K xs p.2) = true) ∧
    (∀ xs ys : Array Value, ∀ r, fitsv ks (xs.toList.drop off) = true → eqLv (xs.toList.drop off) (ys.toList.drop off) = some r →
      (∀ p ∈ L, ∃ K, rec_ p.1 = some K ∧ (∀ w, (Go.part p.1 xs p.2).run P w = .ok (pval K xs p.2) w) ∧ (∀ w, (Go.part p.1 ys p.2).run P w = .ok (pval K ys p.2) w) ∧ keyOKv K (pval K xs p.2) = true ∧ eqKv (pval K xs p.2) (pval K ys p.2) = some (bOf rec_ xs ys p)) ∧ r = L.all (bOf rec_ xs ys))
  | [], off, ks, h => by
    simp only [plainPs, Option.some.injEq] at h; subst h
    refine ⟨fun xs _ p hp => (by cases hp), fun xs ys r hf he => ⟨fun p hp => (by cases hp), ?_⟩⟩
    have h1 := fitsv_length hf
    have h2 := eqLv_length he
    rw [h1] at h2
    rw [List.eq_nil_of_length_eq_zero h1, List.eq_nil_of_length_eq_zero h2.symm] at he
    simp only [eqLv, Option.some.injEq] at he
    simp [← he]
  | p :: L, off, ks, h => by
    simp only [plainPs, Option.bind_eq_some_iff] at h
    obtain ⟨K, hK, h⟩ := h
    split at h
    · rename_i hc
      obtain ⟨rfl, h0, hsz, hag⟩ := hc
      simp only [Option.map_eq_some_iff] at h
      obtain ⟨ls, hls, rfl⟩ := h
      obtain ⟨hu, h1, heq, hkey⟩ := hrec _ _ hK
      obtain ⟨ih1, ih2⟩ := parts_ok hrec hls
      have here : ∀ xs : Array Value, fitsv (K.ks ++ ls) (xs.toList.drop p.2) = true → fitsv K.ks ((xs.toList.drop p.2).take K.ks.length) = true ∧ fitsv ls (xs.toList.drop (p.2 + K.ks.length)) = true ∧ p.2 + K.ks.length ≤ xs.size := fun xs hf => by
        have := fitsv_append hf
        rw [List.drop_drop] at this
        have hl := fitsv_length this.1
        simp at hl
        exact ⟨this.1, this.2, by omega⟩
      refine ⟨fun xs hf q hq => ?_, fun xs ys r hf he => ?_⟩
      · obtain ⟨g1, g2, g3⟩ := here xs hf
        rcases List.mem_cons.1 hq with rfl | hq
        · exact ⟨K, hK, fun w => part_run hu hsz hag g3 h1, pval_ok h1 g1⟩
        · exact ih1 xs g2 q hq
      · obtain ⟨g1, g2, g3⟩ := here xs hf
        have hlen := eqLv_length he
        simp at hlen
        have he' := he
        rw [← List.take_append_drop K.ks.length (xs.toList.drop p.2), ← List.take_append_drop K.ks.length (ys.toList.drop p.2)] at he'
        obtain ⟨r1, r2, e1, e2, rfl⟩ := eqLv_append (by simp; omega) he'
        rw [List.drop_drop, List.drop_drop] at e2
        obtain ⟨hb, rfl⟩ := ih2 xs ys r2 g2 e2
        have e3 := pval_eq h1 g1 e1
        have e4 : bOf rec_ xs ys p = r1 := by simp [bOf, hK, e3]
        refine ⟨fun q hq => ?_, by simp [e4]⟩
        rcases List.mem_cons.1 hq with rfl | hq
        · exact ⟨K, hK, fun w => part_run hu hsz hag g3 h1, fun w => part_run hu hsz hag (by omega) h1, pval_ok h1 g1, by rw [e4]; exact e3⟩
        · exact hb q hq
    · cases h

theorem agg_cells {K : KS} {x : Value} (hk : keyOKv K x = true) (ha : K.ag = true) : ∃ cs, x = .agg cs ∧ fitsv K.ks cs.toList = true := by
  simp only [keyOKv, Bool.and_eq_true, beq_iff_eq] at hk
  cases x <;> simp_all [isAggv, Value.cells]
theorem base_cells {k : Bk} {x : Value} (hk : keyOKv ⟨[k], false⟩ x = true) : fitVv k x = true := by
  simp only [keyOKv, Bool.and_eq_true, beq_iff_eq] at hk
  cases x <;> simp_all [isAggv, Value.cells, fitsv]
theorem eqKv_agg {a : Array Value} {y : Value} {r : Bool} (h : eqKv (.agg a) y = some r) : ∃ b, y = .agg b ∧ eqLv a.toList b.toList = some r := by
  cases y <;> simp_all [eqKv, eqSv]

theorem plainK_ok : ∀ (n : Nat) (t : TypeId) (K : KS), plainK P n t = some K → PlainEq P t K n
  | 0, t, K, h => by cases h
  | n + 1, t, K, h => by
    have ih := plainK_ok n
    unfold plainK at h
    split at h
    · rename_i hu
      injection h with h; subst h
      refine ⟨by rw [hu]; rfl, fun _ => rfl, fun d x y r w hd hk he => ?_, fun d b x w hd hk => ?_⟩
      · obtain ⟨d, rfl⟩ : ∃ d', d = d' + 1 := ⟨d - 1, by omega⟩
        have hx := base_cells hk
        cases x <;> cases y <;> simp_all [fitVv, eqKv, eqSv]
        unfold Go.Op.equalIn
        simp [Go.run_underlying hu, he]
      · obtain ⟨d, rfl⟩ : ∃ d', d = d' + 1 := ⟨d - 1, by omega⟩
        unfold Go.Instr.checkKey
        simp [Go.run_underlying hu]
    · rename_i k hu
      injection h with h; subst h
      refine ⟨by rw [hu]; rfl, fun _ => rfl, fun d x y r w hd hk he => ?_, fun d b x w hd hk => ?_⟩
      · obtain ⟨d, rfl⟩ : ∃ d', d = d' + 1 := ⟨d - 1, by omega⟩
        have hx := base_cells hk
        cases x <;> cases y <;> simp_all [fitVv, eqKv, eqSv]
        unfold Go.Op.equalIn
        simp [Go.run_underlying hu, he]
      · obtain ⟨d, rfl⟩ : ∃ d', d = d' + 1 := ⟨d - 1, by omega⟩
        unfold Go.Instr.checkKey
        simp [Go.run_underlying hu]
    · rename_i hu
      injection h with h; subst h
      refine ⟨by rw [hu]; rfl, fun _ => rfl, fun d x y r w hd hk he => ?_, fun d b x w hd hk => ?_⟩
      · obtain ⟨d, rfl⟩ : ∃ d', d = d' + 1 := ⟨d - 1, by omega⟩
        have hx := base_cells hk
        cases x <;> cases y <;> simp_all [fitVv, eqKv, eqSv]
        unfold Go.Op.equalIn
        simp [Go.run_underlying hu, he]
      · obtain ⟨d, rfl⟩ : ∃ d', d = d' + 1 := ⟨d - 1, by omega⟩
        unfold Go.Instr.checkKey
        simp [Go.run_underlying hu]
    · rename_i fs hu
      split at h
      · rename_i hc
        simp only [Option.map_eq_some_iff] at h
        obtain ⟨ks, hks, rfl⟩ := h
        obtain ⟨p1, p2⟩ := parts_ok ih hks
        have hname : ∀ f ∈ fs.toList, f.name ≠ "_" := fun f hf => by simpa using List.all_eq_true.1 hc.2 f hf
        refine ⟨by rw [hu]; rfl, fun h => (by cases h), fun d x y r w hd hk he => ?_, fun d b x w hd hk => ?_⟩
        · obtain ⟨d, rfl⟩ : ∃ d', d = d' + 1 := ⟨d - 1, by omega⟩
          obtain ⟨xs, rfl, hxs⟩ := agg_cells hk rfl
          obtain ⟨ys, rfl, he2⟩ := eqKv_agg he
          obtain ⟨hb, rfl⟩ := p2 xs ys r (by simpa using hxs) (by simpa using he2)
          unfold Go.Op.equalIn
          simp only [Sem.run_bind, Go.run_underlying hu, Go.Result.andThen_ok, Go.run_program, hc.1, Bool.false_eq_true, if_false]
          rw [← Array.forIn_toList, forIn_all (fun f => bOf (plainK P n) xs ys (f.type, f.offset))]
          · simp only [Go.Result.andThen_ok]
            rw [List.all_map]
            show _ = Result.ok (fs.toList.all fun f => bOf (plainK P n) xs ys (f.type, f.offset)) w
            cases fs.toList.all fun f => bOf (plainK P n) xs ys (f.type, f.offset) <;> simp
          · intro f hf s
            obtain ⟨K, hK, g1, g2, g3, g4⟩ := hb (f.type, f.offset) (List.mem_map.2 ⟨f, hf, rfl⟩)
            have he := (ih _ _ hK).2.2.1 d _ _ _ w (by omega) g3 g4
            rw [if_pos (hname f hf)]
            simp only [Sem.run_bind, g1, g2, Go.Result.andThen_ok, he]
            cases bOf (plainK P n) xs ys (f.type, f.offset) <;> simp
        · obtain ⟨d, rfl⟩ : ∃ d', d = d' + 1 := ⟨d - 1, by omega⟩
          obtain ⟨xs, rfl, hxs⟩ := agg_cells hk rfl
          have hb := p1 xs (by simpa using hxs)
          unfold Go.Instr.checkKey
          simp only [Sem.run_bind, Go.run_underlying hu, Go.Result.andThen_ok]
          rw [← Array.forIn_toList, forIn_unit]
          · simp
          · intro f hf s
            obtain ⟨K, hK, g1, g3⟩ := hb (f.type, f.offset) (List.mem_map.2 ⟨f, hf, rfl⟩)
            have he := (ih _ _ hK).2.2.2 d b _ w (by omega) g3
            rw [if_pos (hname f hf)]
            simp only [Sem.run_bind, g1, Go.Result.andThen_ok, he, Sem.run_pure]
      · cases h
    · rename_i len e hu
      split at h
      · rename_i i hi
        simp only [Option.map_eq_some_iff] at h
        obtain ⟨ks, hks, rfl⟩ := h
        obtain ⟨p1, p2⟩ := parts_ok ih hks
        have hsz : ∀ w, (Go.sizeOf e).run P w = .ok i.size w := fun w => by simp [Go.sizeOf, Go.typeInfo, hi]
        refine ⟨by rw [hu]; rfl, fun h => (by cases h), fun d x y r w hd hk he => ?_, fun d b x w hd hk => ?_⟩
        · obtain ⟨d, rfl⟩ : ∃ d', d = d' + 1 := ⟨d - 1, by omega⟩
          obtain ⟨xs, rfl, hxs⟩ := agg_cells hk rfl
          obtain ⟨ys, rfl, he2⟩ := eqKv_agg he
          obtain ⟨hb, rfl⟩ := p2 xs ys r (by simpa using hxs) (by simpa using he2)
          unfold Go.Op.equalIn
          simp only [Sem.run_bind, Go.run_underlying hu, Go.Result.andThen_ok, hsz, Std.Legacy.Range.forIn_eq_forIn_range', Std.Legacy.Range.size, Nat.sub_zero, Nat.add_one_sub_one, Nat.div_one, ← List.range_eq_range']
          rw [forIn_all (fun k => bOf (plainK P n) xs ys (e, k * i.size))]
          · simp only [Go.Result.andThen_ok]
            rw [List.all_map]
            show _ = Result.ok ((List.range len).all fun k => bOf (plainK P n) xs ys (e, k * i.size)) w
            cases (List.range len).all fun k => bOf (plainK P n) xs ys (e, k * i.size) <;> simp
          · intro k hk' s
            obtain ⟨K, hK, g1, g2, g3, g4⟩ := hb (e, k * i.size) (List.mem_map.2 ⟨k, hk', rfl⟩)
            have he := (ih _ _ hK).2.2.1 d _ _ _ w (by omega) g3 g4
            simp only [Sem.run_bind, g1, g2, Go.Result.andThen_ok, he]
            cases bOf (plainK P n) xs ys (e, k * i.size) <;> simp
        · obtain ⟨d, rfl⟩ : ∃ d', d = d' + 1 := ⟨d - 1, by omega⟩
          obtain ⟨xs, rfl, hxs⟩ := agg_cells hk rfl
          have hb := p1 xs (by simpa using hxs)
          unfold Go.Instr.checkKey
          simp only [Sem.run_bind, Go.run_underlying hu, Go.Result.andThen_ok, Std.Legacy.Range.forIn_eq_forIn_range', Std.Legacy.Range.size, Nat.sub_zero, Nat.add_one_sub_one, Nat.div_one, ← List.range_eq_range']
          rw [forIn_unit]
          · simp
          · intro k hk' s
            obtain ⟨K, hK, g1, g3⟩ := hb (e, k * i.size) (List.mem_map.2 ⟨k, hk', rfl⟩)
            have he := (ih _ _ hK).2.2.2 d b _ w (by omega) g3
            simp only [Sem.run_bind, hsz, g1, Go.Result.andThen_ok, he, Sem.run_pure]
      · cases h
    · cases h
end

/-- What the program's own table says of a type. -/
def tabOf (P : Program) (N : Nat → Nat) (t : TypeId) : Option TI := match P.info? t, P.underlying t with
  | some i, some d => some { desc := d, size := i.size, bytes := i.bytes, zero := i.zero.bind (constV N 5), plain := if P.eqGuardType P.depth t = false then plainK P 8 t else none }
  | _, _ => none

theorem tabOf_ok {P : Program} {N : Nat → Nat} : TabOK P N (tabOf P N) := fun t i h => by
  unfold tabOf at h
  split at h
  · rename_i info d hi hd
    injection h with h; subst h
    refine ⟨hd, ⟨info, hi, rfl, rfl, fun z hz => ?_⟩, fun K hK => ?_⟩
    · simp only [Option.bind_eq_some_iff] at hz
      exact hz
    · dsimp only at hK
      split at hK
      · rename_i hg
        obtain ⟨_, _, h1, h2⟩ := plainK_ok 8 t K hK
        exact ⟨hg, fun x y r w hk he => h1 10000 x y r w (by decide) hk he, fun b x w hk => h2 10000 b x w (by decide) hk⟩
      · cases hK
  · cases h
end Am
