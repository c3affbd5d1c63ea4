/-
  The symbolic evaluator: maps whose keys are whole numbers. Own work; nothing here is trusted.
-/
import Derived.Test.YtkhlmlcjedbkcaaSxApp
import Derived.MapKept
namespace Go.Sx
noncomputable section
open Go.RowKit

variable {C : Tab} {P : Program}

def lkM {α : Type} : List (Int × α) → Int → Option α
  | [], _ => none
  | (j, a) :: r, i => match decide (i = j) with
    | true => some a
    | false => lkM r i
def insM {α : Type} : List (Int × α) → Int → α → List (Int × α)
  | [], i, a => [(i, a)]
  | (j, b) :: r, i, a => match decide (i = j) with
    | true => (i, a) :: r
    | false => (j, b) :: insM r i a

def mapT (P : Program) (t : TypeId) : Option (IntKind × TypeId) := match P.underlying t with
  | some (.map key elem) => match P.underlying key with
    | some (.int k) => some (k, elem)
    | _ => none
  | _ => none
theorem mapT_spec {t : TypeId} {k : IntKind} {e : TypeId} (h : mapT P t = some (k, e)) : ∃ key, P.underlying t = some (.map key e) ∧ P.underlying key = some (.int k) := by
  unfold mapT at h
  split at h
  · rename_i key elem h1
    split at h
    · rename_i k' h2; cases h; exact ⟨key, h1, h2⟩
    · cases h
  · cases h
/-- The value of an element, symbolically. -/
def valS (c : Codec) (a : c.α) : SV := match c.ag with
  | true => .agg (rawL (c.enc a))
  | false => match c.enc a with
    | [v] => .raw v
    | _ => .raw undef
theorem valS_den {c : Codec} {a : c.α} {ρ : Asg} : den ρ (valS c a) = some (c.val a) := by
  unfold valS Codec.val
  cases h : c.ag with
  | true => simp only [den, denL_rawL, Option.map_some]
  | false =>
    have h1 := c.sg h
    have h2 := c.len a
    rw [h1] at h2
    match hx : c.enc a, h2 with
    | [v], _ => rfl
def pMakeMap (P : Program) (n : Nat) (t : TypeId) : Tr (Res C) := match mapT P t with
  | some (k, e) => .leaf (.h n, [(n, .mp k e [])])
  | none => .fail
def sameZ : Value → Value → Bool
  | .bool a, .bool b => a == b
  | .int j a, .int k b => match kindEq j k with
    | true => decide (a = b)
    | false => false
  | _, _ => false
theorem sameZ_eq {a b : Value} (h : sameZ a b = true) : a = b := by
  unfold sameZ at h
  split at h
  · rw [beq_iff_eq.1 h]
  · split at h
    · rename_i hk
      cases kindEq_eq hk
      rw [of_decide_eq_true h]
    · cases h
  · cases h
def lkOut (commaOk : Bool) (v : SV) (ok : Bool) : SV := match commaOk with
  | true => .tup [v, .raw (.bool ok)]
  | false => v
def lkGo (commaOk : Bool) (z : Value) (c : Codec) (m : List (Int × c.α)) (i : Int) : Tr (Res C) := match sameZ z (c.val c.d) with
  | true => .leaf (lkOut commaOk (valS c ((lkM m i).getD c.d)) (lkM m i).isSome, [])
  | false => .br (lkM m i).isSome (.leaf (lkOut commaOk (valS c ((lkM m i).getD c.d)) true, [])) (.leaf (lkOut commaOk (.raw z) false, []))
def pLookup (P : Program) (look : Nat → Option (SO C)) (t : TypeId) (x i : SV) (commaOk : Bool) : Tr (Res C) := match mapT P t with
  | some (k, e) => match zeroT P e with
    | some z => match i with
      | .raw (.int k' i) => match kindEq k' k with
        | true => match x with
          | .h id => match look id with
            | some (.mp k2 vt m) => match kindEq k2 k, Nat.beq vt e with
              | true, true => lkGo commaOk z (C vt) m i
              | _, _ => .fail
            | _ => .fail
          | .raw (.map none) => .leaf (lkOut commaOk (.raw z) false, [])
          | _ => .fail
        | false => .fail
      | _ => .fail
    | none => .fail
  | none => .fail
def pMapUpdate (P : Program) (look : Nat → Option (SO C)) (t : TypeId) (x i v : SV) : Tr (Res C) := match mapT P t with
  | some (k, e) => match i with
    | .raw (.int k' i) => match kindEq k' k with
      | true => match x with
        | .h id => match look id with
          | some (.mp k2 vt m) => match kindEq k2 k, Nat.beq vt e with
            | true, true => match (C vt).dec (cellsS v), Bool.and (isAggS v) (C vt).ag, Bool.or (isAggS v) (C vt).ag with
              | some a, true, _ => .leaf (.raw undef, [(id, .mp k2 vt (insM m i a))])
              | some a, _, false => .leaf (.raw undef, [(id, .mp k2 vt (insM m i a))])
              | _, _, _ => .fail
            | _, _ => .fail
          | _ => .fail
        | _ => .fail
      | false => .fail
    | _ => .fail
  | none => .fail

section sound
variable {B : World} {X : Own} {ρ : Asg} {hp : Hp C} {n : Nat} {w : World}

theorem pMakeMap_sound (R : Rel B X ρ hp n w) {t : TypeId} {r : Res C} (h : (pMakeMap P n t).get = some r) : NewOk P B X ρ hp n w (Instr.makeMap t none) r := by
  unfold pMakeMap at h
  split at h
  · rename_i k e ht
    simp only [Tr.get, Option.some.injEq] at h; subst h
    have R' := Rel.shift (n' := n + 4) (R.addNew (.map #[] 0) (o := .mp k e []) (v := .map (some w.heap.size)) rfl (fun g hg => by simp [blk] at hg; exact hg.symm)
      ⟨w.heap.size, #[], 0, rfl, .inl R.size, heap_alloc_new w _, rfl⟩) (by omega)
    exact ⟨.map (some w.heap.size), _, _, by simp [Instr.makeMap], Asg.le_add ρ n _ (R.fresh n (Nat.le_refl _)), Asg.add_self ρ n _, R'⟩
  · simp [Tr.get] at h

/-- What is found among entries. -/
theorem findNow_lk {α : Type} {k : IntKind} {f : α → Value} (i : Int) : ∀ (l : List MapEntry) (m : List (Int × α)) (j : Nat), l.map (fun e => (e.key, e.val)) = m.map (fun p => (Value.int k p.1, f p.2)) →
    (lkM m i = none ∧ Instr.findNow (.int k) (.int k i) l j = some none ∧ ∀ a : MapEntry, (l ++ [a]).map (fun e => (e.key, e.val)) = m.map (fun p => (Value.int k p.1, f p.2)) ++ [(a.key, a.val)]) ∨
    ∃ (a : α) (q : Nat) (e : MapEntry), lkM m i = some a ∧ Instr.findNow (.int k) (.int k i) l j = some (some (j + q, f a)) ∧ l[q]? = some (e : MapEntry) ∧ e.key = .int k i
  | [], [], j, _ => .inl ⟨rfl, rfl, fun a => rfl⟩
  | [], _ :: _, _, h => by simp at h
  | _ :: _, [], _, h => by simp at h
  | e :: l, (x, a) :: m, j, h => by
    simp only [List.map_cons, List.cons.injEq, Prod.mk.injEq] at h
    obtain ⟨⟨h1, h2⟩, h3⟩ := h
    by_cases hx : i = x
    · subst hx
      refine .inr ⟨a, 0, e, by simp [lkM], ?_, rfl, h1⟩
      simp [Instr.findNow, h1, Instr.sameNow, h2]
    · have hxb : (i == x) = false := beq_eq_false_iff_ne.2 hx
      rcases findNow_lk i l m (j + 1) h3 with ⟨g1, g2, g3⟩ | ⟨a', q, e', g1, g2, g3, g4⟩
      · refine .inl ⟨by simp [lkM, hx, g1], by simp [Instr.findNow, h1, Instr.sameNow, hxb, g2], fun b => ?_⟩
        simp only [List.cons_append, List.map_cons, List.cons.injEq]
        exact ⟨by rw [h1, h2], g3 b⟩
      · refine .inr ⟨a', q + 1, e', by simp [lkM, hx, g1], ?_, by simpa using g3, g4⟩
        simp [Instr.findNow, h1, Instr.sameNow, hxb, g2]; omega
theorem insM_none {α : Type} {i : Int} {a : α} : ∀ {m : List (Int × α)}, lkM m i = none → insM m i a = m ++ [(i, a)]
  | [], _ => rfl
  | (j, b) :: r, h => by
    unfold lkM at h
    split at h
    · cases h
    · rename_i hd
      simp only [insM, hd, List.cons_append, insM_none h]
theorem insM_some {α : Type} {k : IntKind} {f : α → Value} {i : Int} {a : α} {j q : Nat} : ∀ {l : List MapEntry} {m : List (Int × α)} {e : MapEntry} {v : Value}, l.map (fun e => (e.key, e.val)) = m.map (fun p => (Value.int k p.1, f p.2)) →
    Instr.findNow (.int k) (.int k i) l j = some (some (j + q, v)) → l[q]? = some e → e.key = .int k i → ∀ b : MapEntry, b.key = .int k i → b.val = f a → (l.set q b).map (fun e => (e.key, e.val)) = (insM m i a).map (fun p => (Value.int k p.1, f p.2))
  | [], _, _, _, _, h, _, _, _, _, _ => by simp [Instr.findNow] at h
  | _ :: _, [], _, _, h, _, _, _, _, _, _ => by simp at h
  | x :: l, (y, c) :: m, e, v, h, hf, he, hk, b, hb1, hb2 => by
    simp only [List.map_cons, List.cons.injEq, Prod.mk.injEq] at h
    obtain ⟨⟨h1, h2⟩, h3⟩ := h
    by_cases hy : i = y
    · subst hy
      simp [Instr.findNow, h1, Instr.sameNow] at hf
      have : q = 0 := by omega
      subst this
      simp [insM, hb1, hb2, h3]
    · have hyb : (i == y) = false := beq_eq_false_iff_ne.2 hy
      simp [Instr.findNow, h1, Instr.sameNow, hyb] at hf
      match q, he with
      | 0, he =>
        simp at he; subst he
        rw [h1] at hk; cases hk; exact absurd rfl hy
      | q + 1, he =>
        have := insM_some (j := j + 1) (q := q) (a := a) h3 (by rw [hf]; congr 3; omega) (by simpa using he) hk b hb1 hb2
        simp only [List.set_cons_succ, List.map_cons, insM, decide_eq_false hy, this, h1, h2]

theorem lkOut_den {commaOk : Bool} {v : SV} {u : Value} {ok : Bool} (h : den ρ v = some u) : den ρ (lkOut commaOk v ok) = some (if commaOk then .tuple #[u, .bool ok] else u) := by
  cases commaOk with
  | true => simp [lkOut, den, denL, h]
  | false => simpa [lkOut] using h

theorem pLookup_sound (R : Rel B X ρ hp n w) {t : TypeId} {x i : SV} {commaOk : Bool} {r : Res C} {vx vi : Value} (h : (pLookup P (fun i => find i hp) t x i commaOk).get = some r) (hx : den ρ x = some vx) (hi : den ρ i = some vi) :
    (∃ u, (Instr.lookup t vx vi commaOk).run P w = .ok u w ∧ den ρ r.1 = some u) ∧ r.2 = [] := by
  unfold pLookup at h
  split at h
  · rename_i k e ht
    obtain ⟨key, h1, h2⟩ := mapT_spec ht
    split at h
    · rename_i z hz
      have hz' := run_zeroValue hz w
      split at h
      · rename_i k' i'
        simp only [den, Option.some.injEq] at hi; subst hi
        split at h
        · rename_i hk; cases kindEq_eq hk
          have hck : ∀ em, (Instr.checkKey em 10000 key (.int k i')).run P w = .ok () w := fun em => MapKept.run_checkKey (P := P) (w := w) h2 (k := .int k i') (by simp [MapKept.IsKey]) em 9999
          split at h
          · rename_i id
            split at h
            · rename_i k2 vt m hid
              split at h
              · rename_i hk2 hvt
                cases kindEq_eq hk2; cases Nat.eq_of_beq_eq_true hvt
                obtain ⟨v', hv', g, es, clock, rfl, _, hheap, hes⟩ := R.obj id _ hid
                simp only [den] at hx; rw [hx] at hv'; cases hv'
                rcases findNow_lk (f := (C e).val) i' es.toList m 0 hes with ⟨g1, g2, _⟩ | ⟨a, q, en, g1, g2, _, _⟩
                · have hrun : (Instr.lookup t (.map (some g)) (.int k i') commaOk).run P w = .ok (if commaOk then .tuple #[z, .bool false] else z) w := by
                    simp [Instr.lookup, run_underlying h1, MapKept.run_getObj_map hheap, hck, MapKept.run_findKey h2 g2, hz', Result.andThen]
                  unfold lkGo at h
                  rw [g1] at h
                  split at h
                  · rename_i hzz
                    have hzz := sameZ_eq hzz
                    simp only [Tr.get, Option.some.injEq] at h; subst h
                    refine ⟨⟨_, hrun, ?_⟩, rfl⟩
                    simp only [Option.getD_none, Option.isSome_none]
                    rw [hzz]; exact lkOut_den valS_den
                  · simp only [Option.isSome_none, Tr.get, Option.some.injEq] at h; subst h
                    exact ⟨⟨_, hrun, lkOut_den rfl⟩, rfl⟩
                · have hrun : (Instr.lookup t (.map (some g)) (.int k i') commaOk).run P w = .ok (if commaOk then .tuple #[(C e).val a, .bool true] else (C e).val a) w := by
                    simp [Instr.lookup, run_underlying h1, MapKept.run_getObj_map hheap, hck, MapKept.run_findKey h2 g2, Result.andThen]
                  unfold lkGo at h
                  rw [g1] at h
                  split at h
                  · simp only [Tr.get, Option.some.injEq] at h; subst h
                    exact ⟨⟨_, hrun, lkOut_den valS_den⟩, rfl⟩
                  · simp only [Option.isSome_some, Tr.get, Option.some.injEq] at h; subst h
                    exact ⟨⟨_, hrun, lkOut_den valS_den⟩, rfl⟩
              · simp [Tr.get] at h
            · simp [Tr.get] at h
          · simp only [Tr.get, Option.some.injEq] at h; subst h
            simp only [den, Option.some.injEq] at hx; subst hx
            refine ⟨⟨_, ?_, lkOut_den rfl⟩, rfl⟩
            have g2 : Instr.findNow (.int k) (.int k i') [] 0 = some none := rfl
            simp [Instr.lookup, run_underlying h1, hck, MapKept.run_findKey h2 g2, hz', Result.andThen]
          · simp [Tr.get] at h
        · simp [Tr.get] at h
      · simp [Tr.get] at h
    · simp [Tr.get] at h
  · simp [Tr.get] at h

theorem insM_run (l : List MapEntry) (es : Array MapEntry) (q : Nat) (k v : Value) (hl : es.toList = l) : (es.modify q fun e => { e with key := k, val := v }).toList = match l[q]? with
    | some e => l.set q { e with key := k, val := v }
    | none => l := by
  subst hl
  rw [Array.toList_modify]
  cases h : es.toList[q]? with
  | none =>
    simp only
    have : es.toList.length ≤ q := List.getElem?_eq_none_iff.1 h
    rw [List.modify_eq_self this]
  | some e =>
    simp only
    rw [List.modify_eq_set, h]; rfl
theorem dec_val {c : Codec} {x : SV} {a : c.α} {v : Value} (hd : c.dec (cellsS x) = some a) (hg : (Bool.and (isAggS x) c.ag = true) ∨ Bool.or (isAggS x) c.ag = false) (hx : den ρ x = some v) : c.val a = v := by
  have hl := c.law _ _ hd
  unfold Codec.val
  rcases hg with hg | hg
  · have h1 : isAggS x = true := by cases h : isAggS x <;> simp_all
    have h2 : c.ag = true := by cases h : c.ag <;> simp_all
    rw [h2]
    unfold isAggS at h1
    split at h1
    · rename_i cs
      simp only [cellsS] at hl
      subst hl
      simp only [den, denL_rawL, Option.map_some, Option.some.injEq] at hx
      exact hx
    · rename_i b
      split at h1
      case h_2 => cases h1
      simp only [cellsS] at hl
      have e2 : ∀ {l l' : List Value}, rawL l = rawL l' → l = l' := by
        intro l
        induction l with
        | nil => intro l' h; cases l' with
          | nil => rfl
          | cons _ _ => simp [rawL] at h
        | cons y l ih => intro l' h; cases l' with
          | nil => simp [rawL] at h
          | cons z l' => simp only [rawL, List.cons.injEq, SV.raw.injEq] at h; rw [h.1, ih h.2]
      simp only [den, Option.some.injEq] at hx
      subst hx
      rw [← e2 hl]
    · cases h1
  · have h1 : isAggS x = false := by cases h : isAggS x <;> simp_all
    have h2 : c.ag = false := by cases h : c.ag <;> simp_all
    rw [h2]
    have h3 := c.sg h2
    have h4 := c.len a
    rw [h3] at h4
    match he : c.enc a, h4 with
    | [u], _ =>
      rw [he] at hl
      simp only [rawL] at hl
      simp only [List.headD_cons]
      cases x with
      | raw y =>
        have : cellsS (.raw y) = [.raw y] := by
          cases y <;> first | rfl | (simp [isAggS] at h1)
        rw [this] at hl
        cases hl
        simpa [den] using hx
      | agg cs => simp [isAggS] at h1
      | _ => simp [cellsS] at hl
theorem pMapUpdate_sound (R : Rel B X ρ hp n w) {t : TypeId} {x i v : SV} {r : Res C} {vx vi vv : Value} (h : (pMapUpdate P (fun i => find i hp) t x i v).get = some r) (hx : den ρ x = some vx) (hi : den ρ i = some vi) (hv : den ρ v = some vv) :
    r.1 = .raw undef ∧ ∃ w', (Instr.mapUpdate t vx vi vv).run P w = .ok () w' ∧ Rel B X ρ (r.2 ++ hp) n w' := by
  unfold pMapUpdate at h
  split at h
  · rename_i k e ht
    obtain ⟨key, h1, h2⟩ := mapT_spec ht
    split at h
    · rename_i k' i'
      simp only [den, Option.some.injEq] at hi; subst hi
      split at h
      · rename_i hk; cases kindEq_eq hk
        have hck : ∀ em, (Instr.checkKey em 10000 key (.int k i')).run P w = .ok () w := fun em => MapKept.run_checkKey (P := P) (w := w) h2 (k := .int k i') (by simp [MapKept.IsKey]) em 9999
        have hks : (Instr.keyThatStays (.int k i') (.int k i')).run P w = .ok (.int k i') w := MapKept.run_keyThatStays (d := .int k) (by simp [MapKept.IsKey])
        split at h
        · rename_i id
          split at h
          · rename_i k2 vt m hid
            split at h
            · rename_i hk2 hvt
              cases kindEq_eq hk2; cases Nat.eq_of_beq_eq_true hvt
              have fin : ∀ a : (C e).α, (C e).val a = vv → r = (.raw undef, [(id, .mp k e (insM m i' a))]) → r.1 = .raw undef ∧ ∃ w', (Instr.mapUpdate t vx (.int k i') vv).run P w = .ok () w' ∧ Rel B X ρ (r.2 ++ hp) n w' := fun a ha hr => by
                subst hr; subst ha
                refine ⟨rfl, ?_⟩
                obtain ⟨v', hv', g, es, clock, rfl, hokb, hheap, hes⟩ := R.obj id _ hid
                have hv2 := hv'
                simp only [den] at hx; rw [hx] at hv'; cases hv'
                have upd : ∀ o : Obj, okObj ρ { w with heap := w.heap.setIfInBounds g o } (okB B X) (.map (some g)) (.mp k e (insM m i' a)) → Rel B X ρ ((id, .mp k e (insM m i' a)) :: hp) n { w with heap := w.heap.setIfInBounds g o } := fun o ho =>
                  R.set hid hv2 rfl rfl rfl rfl rfl (by simp) (fun b hb => by
                    have : b ≠ g := fun eq => hb (by rw [eq]; rfl)
                    exact (MapKept.heap_set hheap).2 b this) ho (fun g' hg' => by simp [blk] at hg'; subst hg'; exact hokb)
                rcases findNow_lk (f := (C e).val) i' es.toList m 0 hes with ⟨g1, g2, g3⟩ | ⟨b, q, en, g1, g2, g3, g4⟩
                · refine ⟨{ w with heap := w.heap.setIfInBounds g (.map (es.push { key := .int k i', val := (C e).val a, born := clock }) (clock + 1)) }, ?_, upd _ ?_⟩
                  · simp [Instr.mapUpdate, run_underlying h1, MapKept.run_getObj_map hheap, hck, MapKept.run_findKey h2 g2, MapKept.run_setObj_map _ hheap, Result.andThen]
                  · refine ⟨g, _, _, rfl, hokb, (MapKept.heap_set hheap).1, ?_⟩
                    rw [insM_none g1, Array.toList_push, g3, List.map_append]; rfl
                · have hj : es[q]? = some en := by simpa using g3
                  rw [Nat.zero_add] at g2
                  refine ⟨{ w with heap := w.heap.setIfInBounds g (.map (es.modify q fun e' => { e' with key := .int k i', val := (C e).val a }) clock) }, ?_, upd _ ?_⟩
                  · simp [Instr.mapUpdate, run_underlying h1, MapKept.run_getObj_map hheap, hck, MapKept.run_findKey h2 g2, MapKept.run_setObj_map _ hheap, hj, g4, hks, Result.andThen]
                  · refine ⟨g, _, _, rfl, hokb, (MapKept.heap_set hheap).1, ?_⟩
                    rw [insM_run es.toList es q _ _ rfl, g3]
                    exact insM_some (j := 0) (q := q) hes (by rw [Nat.zero_add]; exact g2) g3 g4 _ rfl rfl
              split at h
              · rename_i a _ _ hd hg
                simp only [Tr.get, Option.some.injEq] at h
                exact fin _ (dec_val hd (.inl hg) hv) h.symm
              · rename_i a hd hg _
                simp only [Tr.get, Option.some.injEq] at h
                exact fin _ (dec_val hd (.inr hg) hv) h.symm
              · simp [Tr.get] at h
            · simp [Tr.get] at h
          · simp [Tr.get] at h
        · simp [Tr.get] at h
      · simp [Tr.get] at h
    · simp [Tr.get] at h
  · simp [Tr.get] at h
end sound
end
end Go.Sx
