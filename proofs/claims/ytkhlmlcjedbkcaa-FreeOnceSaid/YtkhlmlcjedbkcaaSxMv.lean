/-
  The symbolic evaluator: maps whose keys are whole numbers or arrays of such, of any values. Own work; nothing here is trusted.
-/
import Derived.Test.YtkhlmlcjedbkcaaSxMap
import Derived.WideKeyRuns
namespace Go.Sx
noncomputable section
open Go.RowKit

variable {C : Tab} {P : Program}

/-- A map's type: that of its keys, their kind, whether they are arrays, how long, that of its elements. -/
def mapK (P : Program) (t : TypeId) : Option (TypeId × IntKind × Bool × Nat × TypeId) := match P.underlying t with
  | some (.map key elem) => match P.underlying key with
    | some (.int k) => some (key, k, false, 1, elem)
    | some (.array len e) => match P.underlying e, szOf P e with
      | some (.int k), some 1 => some (key, k, true, len, elem)
      | _, _ => none
    | _ => none
  | _ => none
def intsK (k : IntKind) : List SV → Option (List Int)
  | [] => some []
  | x :: r => match x with
    | .raw (.int k' a) => match kindEq k' k with
      | true => match intsK k r with
        | some l => some (a :: l)
        | none => none
      | false => none
    | _ => none
def keyOf (k : IntKind) (ag : Bool) (len : Nat) (x : SV) : Option (List Int) := match ag with
  | false => match x with
    | .raw (.int k' a) => match kindEq k' k with
      | true => some [a]
      | false => none
    | _ => none
  | true => match isAggS x with
    | true => match intsK k (cellsS x) with
      | some l => match Nat.beq l.length len with
        | true => some l
        | false => none
      | none => none
    | false => none
def eqI : List Int → List Int → Bool
  | [], [] => true
  | a :: r, b :: s => decide (a = b) && eqI r s
  | _, _ => false
theorem eqI_eq : ∀ {a b : List Int}, eqI a b = true ↔ a = b
  | [], [] => by simp [eqI]
  | [], _ :: _ => by simp [eqI]
  | _ :: _, [] => by simp [eqI]
  | a :: r, b :: s => by simp [eqI, eqI_eq (a := r) (b := s)]
def newK (a : List Int) : List (List Int) → Bool
  | [] => true
  | k :: r => !eqI a k && newK a r
theorem newK_mem {a : List Int} : ∀ {ks : List (List Int)}, newK a ks = true → a ∉ ks
  | [], _ => by simp
  | k :: r, h => by
    simp only [newK, Bool.and_eq_true, Bool.not_eq_true'] at h
    have h1 : ¬ a = k := fun e => by rw [eqI_eq.2 e] at h; cases h.1
    simp [h1, newK_mem h.2]

/-- The elements decode, so that a map of them is told by them. -/
def plainM (P : Program) (C : Tab) (e : TypeId) : Bool := match zeroT P e with
  | some z => match (C e).dec (cellsS (.raw z)) with
    | some _ => true
    | none => false
  | none => false

def pMakeMv (P : Program) (n : Nat) (t : TypeId) : Tr (Res C) := match mapK P t with
  | some (_, k, ag, len, _) => .leaf (.h n, [(n, .mv k ag len [] [])])
  | none => .fail
def pMake (P : Program) (n : Nat) (t : TypeId) : Tr (Res C) := match mapT P t with
  | some (k, e) => match plainM P C e with
    | true => .leaf (.h n, [(n, .mp k e [])])
    | false => pMakeMv P n t
  | none => pMakeMv P n t

def lkT (a : List Int) (z : Value) (ok : Bool) : List (List Int) → List SV → Tr (Res C)
  | k :: ks, v :: vs => .br (eqI a k) (.leaf (lkOut ok v true, [])) (lkT a z ok ks vs)
  | _, _ => .leaf (lkOut ok (.raw z) false, [])
def pLook (P : Program) (look : Nat → Option (SO C)) (t : TypeId) (x i : SV) (ok : Bool) : Tr (Res C) := match x with
  | .h id => match look id with
    | some (.mv k ag len ks vs) => match mapK P t with
      | some (_, k2, ag2, len2, e) => match kindEq k2 k && Nat.beq len2 len, ag2, ag, zeroT P e, keyOf k ag len i with
        | true, true, true, some z, some a => lkT a z ok ks vs
        | true, false, false, some z, some a => lkT a z ok ks vs
        | _, _, _, _, _ => .fail
      | none => .fail
    | _ => pLookup P look t x i ok
  | x => pLookup P look t x i ok
def pUpdate (P : Program) (look : Nat → Option (SO C)) (t : TypeId) (x i v : SV) : Tr (Res C) := match x with
  | .h id => match look id with
    | some (.mv k ag len ks vs) => match mapK P t with
      | some (_, k2, ag2, len2, _) => match kindEq k2 k && Nat.beq len2 len, ag2, ag, keyOf k ag len i with
        | true, true, true, some a => .br (newK a ks) (.leaf (.raw undef, [(id, .mv k ag len (ks ++ [a]) (vs ++ [v]))])) .fail
        | true, false, false, some a => .br (newK a ks) (.leaf (.raw undef, [(id, .mv k ag len (ks ++ [a]) (vs ++ [v]))])) .fail
        | _, _, _, _ => .fail
      | none => .fail
    | _ => pMapUpdate P look t x i v
  | x => pMapUpdate P look t x i v

/-! ### keys -/
/-- What the type of a map's keys is. -/
structure KeyT (P : Program) (key : TypeId) (k : IntKind) (ag : Bool) (len : Nat) : Prop where
  int : ag = false → P.underlying key = some (.int k) ∧ len = 1
  arr : ag = true → ∃ e, P.underlying key = some (.array len e) ∧ P.underlying e = some (.int k) ∧ szOf P e = some 1
theorem mapK_spec {t key e : TypeId} {k : IntKind} {ag : Bool} {len : Nat} (h : mapK P t = some (key, k, ag, len, e)) : P.underlying t = some (.map key e) ∧ KeyT P key k ag len := by
  unfold mapK at h
  split at h
  · rename_i key elem ht
    split at h
    · rename_i hk
      cases h
      exact ⟨ht, ⟨fun _ => ⟨hk, rfl⟩, fun h => by cases h⟩⟩
    · rename_i hk
      split at h
      · rename_i he hz
        cases h
        exact ⟨ht, ⟨(fun h => by cases h), fun _ => ⟨_, hk, he, hz⟩⟩⟩
      · cases h
    · cases h
  · cases h
theorem intsK_spec {k : IntKind} {ρ : Asg} : ∀ {l : List SV} {a : List Int} {vs : List Value}, intsK k l = some a → denL ρ l = some vs → vs = a.map (Value.int k)
  | [], a, vs, h, hd => by cases h; exact denL_nil.1 hd
  | x :: r, a, vs, h, hd => by
    obtain ⟨u, l, h1, h2, rfl⟩ := denL_cons.1 hd
    unfold intsK at h
    split at h
    · split at h
      · rename_i hk
        split at h
        · rename_i l' hl
          cases h
          cases kindEq_eq hk
          simp only [den, Option.some.injEq] at h1
          subst h1
          rw [intsK_spec hl h2]; rfl
        · cases h
      · cases h
    · cases h
theorem keyOf_spec {k : IntKind} {ag : Bool} {len : Nat} {x : SV} {a : List Int} {ρ : Asg} {v : Value} (h : keyOf k ag len x = some a) (hone : ∀ i u, ρ i = some u → u.oneCell' = true) (hd : den ρ x = some v) (hl : ag = false → len = 1) : v = keyV k ag a ∧ a.length = len := by
  unfold keyOf at h
  split at h
  · split at h
    · split at h
      · rename_i hk
        cases h; cases kindEq_eq hk
        simp only [den, Option.some.injEq] at hd
        subst hd
        exact ⟨rfl, (hl rfl).symm⟩
      · cases h
    · cases h
  · split at h
    · rename_i hag
      split at h
      · rename_i l hl2
        split at h
        · rename_i hb
          cases h
          obtain ⟨c, rfl⟩ := is_agg hd hag
          have := intsK_spec hl2 (den_cells hd hone)
          refine ⟨?_, Nat.eq_of_beq_eq_true hb⟩
          simp only [keyV]
          rw [← this]; simp [Value.cells]
        · cases h
      · cases h
    · cases h
theorem keyV_inj {k : IntKind} {ag : Bool} {a b : List Int} (h : keyV k ag a = keyV k ag b) (ha : ag = false → a.length = 1) (hb : ag = false → b.length = 1) : a = b := by
  cases ag with
  | true =>
    simp only [keyV, Value.agg.injEq] at h
    exact (List.map_inj_right (f := Value.int k) (by intro x y h; cases h; rfl)).1 (congrArg Array.toList h)
  | false =>
    have ha := ha rfl
    have hb := hb rfl
    match a, b, ha, hb with
    | [x], [y], _, _ => simp only [keyV, List.headD_cons, Value.int.injEq, true_and] at h; rw [h]

section run
variable {w : World}
theorem eqAs_ints {e : TypeId} {k : IntKind} (d : Nat) (he : P.underlying e = some (.int k)) : ∀ (m i : Nat) (xs ys : List Int), xs.length = i + m → ys.length = i + m →
    ∃ b, eqAs (eqT P (d + 1) e) 1 m i (rawL (xs.map (Value.int k))) (rawL (ys.map (Value.int k))) = some b ∧ (b = true ↔ xs.drop i = ys.drop i)
  | 0, i, xs, ys, hx, hy => ⟨true, rfl, by rw [List.drop_eq_nil_of_le (by omega), List.drop_eq_nil_of_le (by omega)]; simp⟩
  | m + 1, i, xs, ys, hx, hy => by
    obtain ⟨b, h1, h2⟩ := eqAs_ints d he m (i + 1) xs ys (by omega) (by omega)
    have seg : ∀ zs : List Int, zs.length = i + (m + 1) → ∃ z, segS (rawL (zs.map (Value.int k))) (i * 1) 1 = some [.raw (.int k z)] ∧ zs.drop i = z :: zs.drop (i + 1) := fun zs hz => by
      have hlt : i < zs.length := by omega
      refine ⟨zs[i], ?_, List.drop_eq_getElem_cons hlt⟩
      have hr : ∀ l : List Int, rawL (l.map (Value.int k)) = l.map fun z => SV.raw (.int k z) := fun l => by
        induction l with
        | nil => rfl
        | cons z l ih => simp only [List.map_cons, rawL, ih]
      have hb : Nat.ble (i * 1 + 1) (rawL (zs.map (Value.int k))).length = true := by rw [rawL_length, List.length_map]; exact Nat.ble_eq_true_of_le (by omega)
      unfold segS
      rw [hb]
      simp only [Nat.mul_one, hr]
      rw [← List.map_drop, List.drop_eq_getElem_cons hlt]; rfl
    obtain ⟨x, sx, dx⟩ := seg xs hx
    obtain ⟨y, sy, dy⟩ := seg ys hy
    refine ⟨(x == y) && b, ?_, ?_⟩
    · have hq : eqT P (d + 1) e [.raw (.int k x)] [.raw (.int k y)] = some (x == y) := by
        unfold eqT
        rw [he]
        simp only
        have : kindEq k k = true := by cases k <;> rfl
        rw [this]
      simp only [eqAs, sx, sy, hq, h1]
    · rw [dx, dy, Bool.and_eq_true, beq_iff_eq, h2, List.cons.injEq]

theorem run_keyEq {key : TypeId} {k : IntKind} {len : Nat} (hk : KeyT P key k true len) {a b : List Int} (ha : a.length = len) (hb : b.length = len) : (Op.equal key (keyV k true a) (keyV k true b)).run P w = .ok (eqI a b) w := by
  obtain ⟨e, h1, h2, h3⟩ := hk.arr rfl
  obtain ⟨r, q1, q2⟩ := eqAs_ints (P := P) 9998 h2 len 0 a b (by omega) (by omega)
  have hq : eqT P 10000 key (rawL (a.map (Value.int k))) (rawL (b.map (Value.int k))) = some r := by
    show eqT P (9999 + 1) key _ _ = _
    unfold eqT
    rw [h1]
    simp only [h3]
    exact q1
  have hr : r = eqI a b := by
    rw [Bool.eq_iff_iff, q2, eqI_eq]; rfl
  obtain ⟨x, y, v1, v2, hrun⟩ := eqT_sound _ _ _ _ _ hq (fun _ => none) _ _ w (denL_rawL _) (denL_rawL _)
  have hag := aggT_of_array h1
  have ev : ∀ {l : List Value} {v : Value}, valOf P key l v → v = .agg l.toArray := fun {l v} h => by
    rcases h with ⟨_, h⟩ | ⟨h, _⟩
    · exact h
    · rw [hag] at h; cases h
  rw [ev v1, ev v2, hr] at hrun
  exact hrun

theorem run_checkKey_mv {key : TypeId} {k : IntKind} {ag : Bool} {len : Nat} (hk : KeyT P key k ag len) {a : List Int} (ha : a.length = len) (em : Bool) : (Instr.checkKey em 10000 key (keyV k ag a)).run P w = .ok () w := by
  cases ag with
  | false => exact MapKept.run_checkKey (P := P) (w := w) (hk.int rfl).1 (k := keyV k false a) (by simp [MapKept.IsKey, keyV]) em 9999
  | true =>
    obtain ⟨e, h1, h2, h3⟩ := hk.arr rfl
    have hag : aggT P e = some false := by simp [aggT, h2]
    have step : ∀ (m i : Nat), i + m = a.length → (forIn (List.range' i m) PUnit.unit (fun i (_ : PUnit) => do
        let v ← part e (a.map (Value.int k)).toArray (i * (← sizeOf e))
        Instr.checkKey em 9999 e v
        pure (ForInStep.yield PUnit.unit)) : Sem PUnit).run P w = .ok PUnit.unit w := fun m => by
      induction m with
      | zero => intro i _; simp
      | succ m ih =>
        intro i hi
        have hlt : i < a.length := by omega
        have hpart : (part e (a.map (Value.int k)).toArray (i * 1)).run P w = .ok (.int k a[i]) w := by
          unfold part
          rw [Sem.run_bind, run_isAgg hag]
          simp [hlt]
        have hck : (Instr.checkKey em 9999 e (.int k a[i])).run P w = .ok () w := MapKept.run_checkKey (P := P) (w := w) h2 (by simp [MapKept.IsKey]) em 9998
        rw [List.range'_succ, List.forIn_cons]
        simp only [Sem.run_bind, run_sizeOf h3, Result.andThen_ok, hpart, hck, Sem.run_pure]
        exact ih (i + 1) (by omega)
    have h0 := step len 0 (by omega)
    show (Instr.checkKey em (9999 + 1) key (keyV k true a)).run P w = _
    unfold Instr.checkKey
    simp only [Sem.run_bind, run_underlying h1, Result.andThen_ok, keyV]
    rw [Std.Legacy.Range.forIn_eq_forIn_range']
    simp only [Std.Legacy.Range.size, Nat.sub_zero, Nat.add_one_sub_one, Nat.div_one]
    first
      | exact h0
      | (rw [h0]; rfl)
      | simpa using h0

/-- What is found among entries. -/
theorem find_run {key : TypeId} {k : IntKind} {ag : Bool} {len : Nat} (hk : KeyT P key k ag len) {a : List Int} (ha : a.length = len) (l : List MapEntry) (hl : ∀ e ∈ l, ∃ b : List Int, b.length = len ∧ e.key = keyV k ag b) :
    ∃ r, (Instr.findKey key (keyV k ag a) l).run P w = .ok r w ∧ (r = none → ∀ e ∈ l, e.key ≠ keyV k ag a) ∧ ∀ i v, r = some (i, v) → ∃ e ∈ l, e.key = keyV k ag a ∧ e.val = v := by
  cases ag with
  | false =>
    obtain ⟨hu, rfl⟩ := hk.int rfl
    have key1 : ∀ b : List Int, b.length = 1 → ∃ x, b = [x] := fun b hb => match b, hb with | [x], _ => ⟨x, rfl⟩
    obtain ⟨x, rfl⟩ := key1 a ha
    have go : ∀ (l : List MapEntry) (j : Nat), (∀ e ∈ l, ∃ b : List Int, b.length = 1 ∧ e.key = keyV k false b) → ∃ r, Instr.findNow (.int k) (.int k x) l j = some r ∧ (r = none → ∀ e ∈ l, e.key ≠ keyV k false [x]) ∧ ∀ i v, r = some (i, v) → ∃ e ∈ l, e.key = keyV k false [x] ∧ e.val = v := by
      intro l
      induction l with
      | nil => exact fun j _ => ⟨none, rfl, by simp, by simp⟩
      | cons e l ih =>
        intro j h
        obtain ⟨b, hb, he⟩ := h e List.mem_cons_self
        obtain ⟨y, rfl⟩ := key1 b hb
        simp only [keyV, List.headD_cons] at he
        by_cases hxy : x = y
        · subst hxy
          refine ⟨some (j, e.val), by simp [Instr.findNow, he, Instr.sameNow], by simp, fun i v h => ?_⟩
          simp only [Option.some.injEq, Prod.mk.injEq] at h
          exact ⟨e, List.mem_cons_self, by simpa [keyV] using he, h.2⟩
        · obtain ⟨r, r1, r2, r3⟩ := ih (j + 1) fun e he => h e (List.mem_cons_of_mem _ he)
          refine ⟨r, by simp [Instr.findNow, he, Instr.sameNow, beq_eq_false_iff_ne.2 hxy, r1], fun hr e' he' => ?_, fun i v hr => ?_⟩
          · rcases List.mem_cons.1 he' with rfl | he'
            · rw [he]; simp only [keyV, List.headD_cons]; intro h; cases h; exact hxy rfl
            · exact r2 hr e' he'
          · obtain ⟨e', m1, m2⟩ := r3 i v hr
            exact ⟨e', List.mem_cons_of_mem _ m1, m2⟩
    obtain ⟨r, r1, r2, r3⟩ := go l 0 hl
    exact ⟨r, MapKept.run_findKey hu r1, r2, r3⟩
  | true =>
    obtain ⟨e, h1, h2, h3⟩ := hk.arr rfl
    have go : ∀ (l : List MapEntry) (j : Nat), (∀ e ∈ l, ∃ b : List Int, b.length = len ∧ e.key = keyV k true b) → ∃ r, (Instr.findAsking key (keyV k true a) l j).run P w = .ok r w ∧ (r = none → ∀ e ∈ l, e.key ≠ keyV k true a) ∧ ∀ i v, r = some (i, v) → ∃ e ∈ l, e.key = keyV k true a ∧ e.val = v := by
      intro l
      induction l with
      | nil => exact fun j _ => ⟨none, rfl, by simp, by simp⟩
      | cons e l ih =>
        intro j h
        obtain ⟨b, hb, he⟩ := h e List.mem_cons_self
        have hq := run_keyEq (P := P) (w := w) hk ha hb
        unfold Instr.findAsking
        rw [Sem.run_bind, he, hq, Result.andThen_ok]
        cases hab : eqI a b with
        | true =>
          have := eqI_eq.1 hab
          subst this
          refine ⟨some (j, e.val), rfl, by simp, fun i v h => ?_⟩
          simp only [Option.some.injEq, Prod.mk.injEq] at h
          exact ⟨e, List.mem_cons_self, he, h.2⟩
        | false =>
          obtain ⟨r, r1, r2, r3⟩ := ih (j + 1) fun e he => h e (List.mem_cons_of_mem _ he)
          refine ⟨r, r1, fun hr e' he' => ?_, fun i v hr => ?_⟩
          · rcases List.mem_cons.1 he' with rfl | he'
            · rw [he]; intro h
              have := keyV_inj h (fun h => by cases h) (fun h => by cases h)
              rw [eqI_eq.2 this.symm] at hab; cases hab
            · exact r2 hr e' he'
          · obtain ⟨e', m1, m2⟩ := r3 i v hr
            exact ⟨e', List.mem_cons_of_mem _ m1, m2⟩
    obtain ⟨r, r1, r2, r3⟩ := go l 0 hl
    exact ⟨r, by rw [run_findKey_eq (P := P) w (by rw [h1]) _ _]; exact r1, r2, r3⟩
end run

section sound
variable {B : World} {X : Own} {ρ : Asg} {hp : Hp C} {n : Nat} {w : World}

theorem pMakeMv_sound (R : Rel B X ρ hp n w) {t : TypeId} {r : Res C} (h : (pMakeMv P n t).get = some r) : NewOk P B X ρ hp n w (Instr.makeMap t none) r := by
  unfold pMakeMv at h
  split at h
  · rename_i key k ag len e hm
    simp only [Tr.get, Option.some.injEq] at h; subst h
    obtain ⟨ht, hkt⟩ := mapK_spec hm
    refine ⟨.map (some w.heap.size), w.alloc (.map #[] 0), ρ.add n (.map (some w.heap.size)), by simp [Instr.makeMap, newObj, Sem.run, run_underlying ht], Asg.le_add ρ n _ (R.fresh n (Nat.le_refl _)), Asg.add_self ρ n _, ?_⟩
    · refine Rel.shift (R.addNew (.map #[] 0) (o := .mv k ag len [] []) (v := .map (some w.heap.size)) rfl (fun g hg => by simp [blk] at hg; exact hg.symm)
        ⟨w.heap.size, #[], 0, [], rfl, .inl R.size, rfl, heap_alloc_new w _, rfl, List.nodup_nil, fun l hl => by simp at hl, fun h => (hkt.int h).2, by simp⟩) (by omega)
  · simp [Tr.get] at h
theorem pMake_sound (R : Rel B X ρ hp n w) {t : TypeId} {r : Res C} (h : (pMake P n t).get = some r) : NewOk P B X ρ hp n w (Instr.makeMap t none) r := by
  unfold pMake at h
  split at h
  · rename_i k e hm
    split at h
    · exact pMakeMap_sound R (by unfold pMakeMap; rw [hm]; exact h)
    · exact pMakeMv_sound R h
  · exact pMakeMv_sound R h

/-- What is known of a map's entries. -/
theorem mv_keys {k : IntKind} {ag : Bool} {len : Nat} {ks : List (List Int)} {us : List Value} {es : List MapEntry} (hlen : ks.length = us.length) (hp : (es.map fun e => (e.key, e.val)).Perm ((ks.map (keyV k ag)).zip us)) (hl : ∀ l ∈ ks, l.length = len) :
    ∀ e ∈ es, ∃ b : List Int, b.length = len ∧ e.key = keyV k ag b := by
  intro e he
  have h1 : (e.key, e.val) ∈ (ks.map (keyV k ag)).zip us := hp.mem_iff.1 (List.mem_map.2 ⟨e, he, rfl⟩)
  obtain ⟨b, hb, hk⟩ := List.mem_map.1 (List.of_mem_zip h1).1
  exact ⟨b, hl b hb, hk.symm⟩

theorem lkT_spec {a : List Int} {z : Value} {ok : Bool} {k : IntKind} {ag : Bool} {ρ : Asg} {r : Res C} : ∀ {ks : List (List Int)} {vs : List SV} {us : List Value}, (lkT a z ok ks vs).get = some r → denL ρ vs = some us → ks.length = us.length →
    r.2 = [] ∧ ((a ∉ ks ∧ r.1 = lkOut ok (.raw z) false) ∨ ∃ sv u, den ρ sv = some u ∧ (keyV k ag a, u) ∈ (ks.map (keyV k ag)).zip us ∧ r.1 = lkOut ok sv true)
  | [], vs, us, h, hd, hl => by
    simp only [lkT, Tr.get, Option.some.injEq] at h; subst h
    exact ⟨rfl, .inl ⟨by simp, rfl⟩⟩
  | k0 :: ks, [], us, h, hd, hl => by
    rw [denL_nil.1 hd] at hl; simp at hl
  | k0 :: ks, v :: vs, us, h, hd, hl => by
    obtain ⟨u, l, h1, h2, rfl⟩ := denL_cons.1 hd
    unfold lkT at h
    rcases Tr.get_br.1 h with ⟨hb, h⟩ | ⟨hb, h⟩
    · simp only [Tr.get, Option.some.injEq] at h; subst h
      have := eqI_eq.1 hb
      subst this
      exact ⟨rfl, .inr ⟨v, u, h1, by simp, rfl⟩⟩
    · obtain ⟨g1, g2⟩ := lkT_spec h h2 (by simpa using hl)
      refine ⟨g1, ?_⟩
      rcases g2 with ⟨g2, g3⟩ | ⟨sv, u', g2, g3, g4⟩
      · refine .inl ⟨fun hm => ?_, g3⟩
        rcases List.mem_cons.1 hm with rfl | hm
        · rw [eqI_eq.2 rfl] at hb; cases hb
        · exact g2 hm
      · exact .inr ⟨sv, u', g2, List.mem_cons_of_mem _ g3, g4⟩

theorem zip_unique {k : IntKind} {ag : Bool} {K u v : Value} : ∀ {ks : List (List Int)} {us : List Value}, ks.Nodup → (ag = false → ∀ l ∈ ks, l.length = 1) → (K, u) ∈ (ks.map (keyV k ag)).zip us → (K, v) ∈ (ks.map (keyV k ag)).zip us → u = v
  | [], us, _, _, hu, _ => by simp at hu
  | _ :: _, [], _, _, hu, _ => by simp at hu
  | k0 :: ks, u0 :: us, hn, h1, hu, hv => by
    rw [List.map_cons, List.zip_cons_cons] at hu hv
    have hn' := List.nodup_cons.1 hn
    have no : ∀ x, (keyV k ag k0, x) ∉ (ks.map (keyV k ag)).zip us := fun x hx => by
      obtain ⟨b, hb, hk⟩ := List.mem_map.1 (List.of_mem_zip hx).1
      have := keyV_inj hk (fun e => h1 e b (List.mem_cons_of_mem _ hb)) (fun e => h1 e k0 List.mem_cons_self)
      subst this
      exact hn'.1 hb
    rcases List.mem_cons.1 hu with pu | pu <;> rcases List.mem_cons.1 hv with pv | pv
    · cases pu; cases pv; rfl
    · cases pu; exact absurd pv (no _)
    · cases pv; exact absurd pu (no _)
    · exact zip_unique hn'.2 (fun e l hl => h1 e l (List.mem_cons_of_mem _ hl)) pu pv

theorem pLook_sound (R : Rel B X ρ hp n w) {t : TypeId} {x i : SV} {commaOk : Bool} {r : Res C} {vx vi : Value} (h : (pLook P (fun i => find i hp) t x i commaOk).get = some r) (hx : den ρ x = some vx) (hi : den ρ i = some vi) :
    (∃ u, (Instr.lookup t vx vi commaOk).run P w = .ok u w ∧ den ρ r.1 = some u) ∧ r.2 = [] := by
  unfold pLook at h
  split at h
  · rename_i id
    split at h
    · rename_i k ag len ks vs hid
      split at h
      · rename_i key k2 ag2 len2 e hm
        obtain ⟨ht, hkt⟩ := mapK_spec hm
        have fin : ∀ z a, (kindEq k2 k && Nat.beq len2 len) = true → ag2 = ag → zeroT P e = some z → keyOf k ag len i = some a → (lkT (C := C) a z commaOk ks vs).get = some r → (∃ u, (Instr.lookup t vx vi commaOk).run P w = .ok u w ∧ den ρ r.1 = some u) ∧ r.2 = [] := fun z a hke hag hz ha hr => by
          rw [Bool.and_eq_true] at hke
          cases kindEq_eq hke.1; cases Nat.eq_of_beq_eq_true hke.2; subst hag
          obtain ⟨v', hv', g, es, clock, us, rfl, _, hus, hheap, hlen, hnd, hkl, hag1, hperm⟩ := R.obj id _ hid
          simp only [den] at hx; rw [hx] at hv'; cases hv'
          obtain ⟨rfl, hal⟩ := keyOf_spec ha R.one hi hag1
          obtain ⟨q, q1, q2, q3⟩ := find_run (P := P) (w := w) hkt hal es.toList (mv_keys hlen hperm hkl)
          have hck := run_checkKey_mv (P := P) (w := w) hkt hal
          obtain ⟨g1, g2⟩ := lkT_spec (k := k) (ag := ag2) hr hus hlen
          refine ⟨?_, g1⟩
          rcases g2 with ⟨g2, g3⟩ | ⟨sv, u, g2, g3, g4⟩
          · have hq : q = none := by
              cases q with
              | none => rfl
              | some p =>
                obtain ⟨e', m1, m2, _⟩ := q3 p.1 p.2 rfl
                obtain ⟨b, hb, hk⟩ := mv_keys hlen hperm hkl e' m1
                have h1 : (e'.key, e'.val) ∈ (ks.map (keyV k ag2)).zip us := hperm.mem_iff.1 (List.mem_map.2 ⟨e', m1, rfl⟩)
                obtain ⟨b2, hb2, hk2⟩ := List.mem_map.1 (List.of_mem_zip h1).1
                have := keyV_inj (hk2.trans m2) (fun e => by rw [hkl b2 hb2, hag1 e]) (fun e => by rw [hal, hag1 e])
                subst this
                exact absurd hb2 g2
            subst hq
            refine ⟨_, ?_, by rw [g3]; exact lkOut_den rfl⟩
            simp [Instr.lookup, run_underlying ht, MapKept.run_getObj_map hheap, hck, q1, run_zeroValue hz, Result.andThen]
          · obtain ⟨e0, m0, hke0⟩ : ∃ e0 ∈ es.toList, (e0.key, e0.val) = (keyV k ag2 a, u) := List.mem_map.1 (hperm.mem_iff.2 g3)
            simp only [Prod.mk.injEq] at hke0
            cases q with
            | none => exact absurd hke0.1 (q2 rfl e0 m0)
            | some p =>
              obtain ⟨i0, v0⟩ := p
              obtain ⟨e', m1, m2, m3⟩ := q3 i0 v0 rfl
              have h1 : (e'.key, e'.val) ∈ (ks.map (keyV k ag2)).zip us := hperm.mem_iff.1 (List.mem_map.2 ⟨e', m1, rfl⟩)
              rw [m2, m3] at h1
              have := zip_unique hnd (fun e l hl => by rw [hkl l hl, hag1 e]) h1 g3
              subst this
              refine ⟨_, ?_, by rw [g4]; exact lkOut_den g2⟩
              simp [Instr.lookup, run_underlying ht, MapKept.run_getObj_map hheap, hck, q1, Result.andThen]
        split at h
        · rename_i z a hke hz ha
          exact fin z a hke rfl hz ha h
        · rename_i z a hke hz ha
          exact fin z a hke rfl hz ha h
        · simp [Tr.get] at h
      · simp [Tr.get] at h
    · exact pLookup_sound R h hx hi
  · exact pLookup_sound R h hx hi

theorem zip_append_one {k : IntKind} {ag : Bool} {ks : List (List Int)} {us : List Value} {a : List Int} {u : Value} (hl : ks.length = us.length) : ((ks ++ [a]).map (keyV k ag)).zip (us ++ [u]) = (ks.map (keyV k ag)).zip us ++ [(keyV k ag a, u)] := by
  rw [List.map_append, List.zip_append (by simpa using hl)]; rfl

theorem pUpdate_sound (R : Rel B X ρ hp n w) {t : TypeId} {x i v : SV} {r : Res C} {vx vi vv : Value} (h : (pUpdate P (fun i => find i hp) t x i v).get = some r) (hx : den ρ x = some vx) (hi : den ρ i = some vi) (hv : den ρ v = some vv) :
    r.1 = .raw undef ∧ ∃ w', (Instr.mapUpdate t vx vi vv).run P w = .ok () w' ∧ Rel B X ρ (r.2 ++ hp) n w' := by
  unfold pUpdate at h
  split at h
  · rename_i id
    split at h
    · rename_i k ag len ks vs hid
      split at h
      · rename_i key k2 ag2 len2 e hm
        obtain ⟨ht, hkt⟩ := mapK_spec hm
        have fin : ∀ a, (kindEq k2 k && Nat.beq len2 len) = true → ag2 = ag → keyOf k ag len i = some a → newK a ks = true → r = (.raw undef, [(id, .mv k ag len (ks ++ [a]) (vs ++ [v]))]) → r.1 = .raw undef ∧ ∃ w', (Instr.mapUpdate t vx vi vv).run P w = .ok () w' ∧ Rel B X ρ (r.2 ++ hp) n w' := fun a hke hag ha hnew hr => by
          subst hr
          refine ⟨rfl, ?_⟩
          rw [Bool.and_eq_true] at hke
          cases kindEq_eq hke.1; cases Nat.eq_of_beq_eq_true hke.2; subst hag
          obtain ⟨v', hv', g, es, clock, us, rfl, hokb, hus, hheap, hlen, hnd, hkl, hag1, hperm⟩ := R.obj id _ hid
          have hv2 := hv'
          simp only [den] at hx; rw [hx] at hv'; cases hv'
          obtain ⟨rfl, hal⟩ := keyOf_spec ha R.one hi hag1
          obtain ⟨q, q1, q2, q3⟩ := find_run (P := P) (w := w) hkt hal es.toList (mv_keys hlen hperm hkl)
          have hck := run_checkKey_mv (P := P) (w := w) hkt hal
          have hq : q = none := by
            cases q with
            | none => rfl
            | some p =>
              obtain ⟨e', m1, m2, _⟩ := q3 p.1 p.2 rfl
              have h1 : (e'.key, e'.val) ∈ (ks.map (keyV k ag2)).zip us := hperm.mem_iff.1 (List.mem_map.2 ⟨e', m1, rfl⟩)
              obtain ⟨b2, hb2, hk2⟩ := List.mem_map.1 (List.of_mem_zip h1).1
              have := keyV_inj (hk2.trans m2) (fun e => by rw [hkl b2 hb2, hag1 e]) (fun e => by rw [hal, hag1 e])
              subst this
              exact absurd hb2 (newK_mem hnew)
          subst hq
          refine ⟨{ w with heap := w.heap.setIfInBounds g (.map (es.push { key := keyV k ag2 a, val := vv, born := clock }) (clock + 1)) }, ?_, ?_⟩
          · simp [Instr.mapUpdate, run_underlying ht, MapKept.run_getObj_map hheap, hck, q1, MapKept.run_setObj_map _ hheap, Result.andThen]
          · refine R.set hid hv2 rfl rfl rfl rfl rfl (by simp) (fun b hb => ?_) ⟨g, _, _, us ++ [vv], rfl, hokb, denL_append hus (denL_one hv), (MapKept.heap_set hheap).1, by simp [hlen], ?_, ?_, hag1, ?_⟩ (fun g' hg' => by simp [blk] at hg'; subst hg'; exact hokb)
            · have : b ≠ g := fun eq => hb (by rw [eq]; rfl)
              exact (MapKept.heap_set hheap).2 b this
            · rw [List.nodup_append]
              exact ⟨hnd, by simp, fun x hx y hy => by simp at hy; subst hy; exact fun e => newK_mem hnew (e ▸ hx)⟩
            · intro l hl
              rcases List.mem_append.1 hl with hl | hl
              · exact hkl l hl
              · simp at hl; subst hl; exact hal
            · rw [zip_append_one hlen, Array.toList_push, List.map_append]
              exact hperm.append_right _
        split at h
        · rename_i a hke ha
          obtain ⟨hb, h⟩ := Tr.get_ask.1 h
          simp only [Tr.get, Option.some.injEq] at h
          exact fin a hke rfl ha hb h.symm
        · rename_i a hke ha
          obtain ⟨hb, h⟩ := Tr.get_ask.1 h
          simp only [Tr.get, Option.some.injEq] at h
          exact fin a hke rfl ha hb h.symm
        · simp [Tr.get] at h
      · simp [Tr.get] at h
    · exact pMapUpdate_sound R h hx hi hv
  · exact pMapUpdate_sound R h hx hi hv
end sound
end
end Go.Sx
