/-
  The symbolic evaluator over the model, part B. Own work; nothing here is trusted.
-/
import Derived.Test.YtgepgnjjhgmfnaaSxA
import Derived.MapKept
import Derived.WideKeyRuns
import Derived.LoopN
import Derived.Orders
import Derived.KernelRfl
/-
  The symbolic evaluator: maps whose keys are whole numbers. Own work; nothing here is trusted.
-/
namespace Go.Sx
noncomputable section
open Go.RowKit

variable {C : Tab} {P : Program}

def lkM {α : Type} : List (Int × α) → Int → Option α
  | [], _ => none
  | (j, a) :: r, i => match decide (i = j) with
    | true => some a
    | false => lkM r i
def insM {α : Type} : List (Int × α) → Int → α → List (Int × α)
  | [], i, a => [(i, a)]
  | (j, b) :: r, i, a => match decide (i = j) with
    | true => (i, a) :: r
    | false => (j, b) :: insM r i a

def mapT (P : Program) (t : TypeId) : Option (IntKind × TypeId) := match P.underlying t with
  | some (.map key elem) => match P.underlying key with
    | some (.int k) => some (k, elem)
    | _ => none
  | _ => none
theorem mapT_spec {t : TypeId} {k : IntKind} {e : TypeId} (h : mapT P t = some (k, e)) : ∃ key, P.underlying t = some (.map key e) ∧ P.underlying key = some (.int k) := by
  unfold mapT at h
  split at h
  · rename_i key elem h1
    split at h
    · rename_i k' h2; cases h; exact ⟨key, h1, h2⟩
    · cases h
  · cases h
/-- The value of an element, symbolically. -/
def valS (c : Codec) (a : c.α) : SV := match c.ag with
  | true => .agg (rawL (c.enc a))
  | false => match c.enc a with
    | [v] => .raw v
    | _ => .raw undef
theorem valS_den {c : Codec} {a : c.α} {ρ : Asg} : den ρ (valS c a) = some (c.val a) := by
  unfold valS Codec.val
  cases h : c.ag with
  | true => simp only [den, denL_rawL, Option.map_some]
  | false =>
    have h1 := c.sg h
    have h2 := c.len a
    rw [h1] at h2
    match hx : c.enc a, h2 with
    | [v], _ => rfl
def pMakeMap (P : Program) (n : Nat) (t : TypeId) : Tr (Res C) := match mapT P t with
  | some (k, e) => .leaf (.h n, [(n, .mp k e [])])
  | none => .fail
def sameZ : Value → Value → Bool
  | .bool a, .bool b => a == b
  | .int j a, .int k b => match kindEq j k with
    | true => decide (a = b)
    | false => false
  | _, _ => false
theorem sameZ_eq {a b : Value} (h : sameZ a b = true) : a = b := by
  unfold sameZ at h
  split at h
  · rw [beq_iff_eq.1 h]
  · split at h
    · rename_i hk
      cases kindEq_eq hk
      rw [of_decide_eq_true h]
    · cases h
  · cases h
def lkOut (commaOk : Bool) (v : SV) (ok : Bool) : SV := match commaOk with
  | true => .tup [v, .raw (.bool ok)]
  | false => v
def lkGo (commaOk : Bool) (z : Value) (c : Codec) (m : List (Int × c.α)) (i : Int) : Tr (Res C) := match sameZ z (c.val c.d) with
  | true => .leaf (lkOut commaOk (valS c ((lkM m i).getD c.d)) (lkM m i).isSome, [])
  | false => .br (lkM m i).isSome (.leaf (lkOut commaOk (valS c ((lkM m i).getD c.d)) true, [])) (.leaf (lkOut commaOk (.raw z) false, []))
def pLookup (P : Program) (look : Nat → Option (SO C)) (t : TypeId) (x i : SV) (commaOk : Bool) : Tr (Res C) := match mapT P t with
  | some (k, e) => match zeroT P e with
    | some z => match i with
      | .raw (.int k' i) => match kindEq k' k with
        | true => match x with
          | .h id => match look id with
            | some (.mp k2 vt m) => match kindEq k2 k, Nat.beq vt e with
              | true, true => lkGo commaOk z (C vt) m i
              | _, _ => .fail
            | _ => .fail
          | .raw (.map none) => .leaf (lkOut commaOk (.raw z) false, [])
          | _ => .fail
        | false => .fail
      | _ => .fail
    | none => .fail
  | none => .fail
def pMapUpdate (P : Program) (look : Nat → Option (SO C)) (t : TypeId) (x i v : SV) : Tr (Res C) := match mapT P t with
  | some (k, e) => match i with
    | .raw (.int k' i) => match kindEq k' k with
      | true => match x with
        | .h id => match look id with
          | some (.mp k2 vt m) => match kindEq k2 k, Nat.beq vt e with
            | true, true => match (C vt).dec (cellsS v), Bool.and (isAggS v) (C vt).ag, Bool.or (isAggS v) (C vt).ag with
              | some a, true, _ => .leaf (.raw undef, [(id, .mp k2 vt (insM m i a))])
              | some a, _, false => .leaf (.raw undef, [(id, .mp k2 vt (insM m i a))])
              | _, _, _ => .fail
            | _, _ => .fail
          | _ => .fail
        | _ => .fail
      | false => .fail
    | _ => .fail
  | none => .fail

section sound
variable {B : World} {X : Own} {ρ : Asg} {hp : Hp C} {n : Nat} {w : World}

theorem pMakeMap_sound (R : Rel B X ρ hp n w) {t : TypeId} {r : Res C} (h : (pMakeMap P n t).get = some r) : NewOk P B X ρ hp n w (Instr.makeMap t none) r := by
  unfold pMakeMap at h
  split at h
  · rename_i k e ht
    simp only [Tr.get, Option.some.injEq] at h; subst h
    have R' := Rel.shift (n' := n + 4) (R.addNew (.map #[] 0) (o := .mp k e []) (v := .map (some w.heap.size)) rfl (fun g hg => by simp [blk] at hg; exact hg.symm)
      ⟨w.heap.size, #[], 0, rfl, .inl R.size, heap_alloc_new w _, rfl, stOk_nil 0⟩) (by omega)
    exact ⟨.map (some w.heap.size), _, _, by simp [Instr.makeMap], Asg.le_add ρ n _ (R.fresh n (Nat.le_refl _)), Asg.add_self ρ n _, R'⟩
  · simp [Tr.get] at h

/-- What is found among entries. -/
theorem findNow_lk {α : Type} {k : IntKind} {f : α → Value} (i : Int) : ∀ (l : List MapEntry) (m : List (Int × α)) (j : Nat), l.map (fun e => (e.key, e.val)) = m.map (fun p => (Value.int k p.1, f p.2)) →
    (lkM m i = none ∧ Instr.findNow (.int k) (.int k i) l j = some none ∧ ∀ a : MapEntry, (l ++ [a]).map (fun e => (e.key, e.val)) = m.map (fun p => (Value.int k p.1, f p.2)) ++ [(a.key, a.val)]) ∨
    ∃ (a : α) (q : Nat) (e : MapEntry), lkM m i = some a ∧ Instr.findNow (.int k) (.int k i) l j = some (some (j + q, f a)) ∧ l[q]? = some (e : MapEntry) ∧ e.key = .int k i
  | [], [], j, _ => .inl ⟨rfl, rfl, fun a => rfl⟩
  | [], _ :: _, _, h => by simp at h
  | _ :: _, [], _, h => by simp at h
  | e :: l, (x, a) :: m, j, h => by
    simp only [List.map_cons, List.cons.injEq, Prod.mk.injEq] at h
    obtain ⟨⟨h1, h2⟩, h3⟩ := h
    by_cases hx : i = x
    · subst hx
      refine .inr ⟨a, 0, e, by simp [lkM], ?_, rfl, h1⟩
      simp [Instr.findNow, h1, Instr.sameNow, h2]
    · have hxb : (i == x) = false := beq_eq_false_iff_ne.2 hx
      rcases findNow_lk i l m (j + 1) h3 with ⟨g1, g2, g3⟩ | ⟨a', q, e', g1, g2, g3, g4⟩
      · refine .inl ⟨by simp [lkM, hx, g1], by simp [Instr.findNow, h1, Instr.sameNow, hxb, g2], fun b => ?_⟩
        simp only [List.cons_append, List.map_cons, List.cons.injEq]
        exact ⟨by rw [h1, h2], g3 b⟩
      · refine .inr ⟨a', q + 1, e', by simp [lkM, hx, g1], ?_, by simpa using g3, g4⟩
        simp [Instr.findNow, h1, Instr.sameNow, hxb, g2]; omega
theorem insM_none {α : Type} {i : Int} {a : α} : ∀ {m : List (Int × α)}, lkM m i = none → insM m i a = m ++ [(i, a)]
  | [], _ => rfl
  | (j, b) :: r, h => by
    unfold lkM at h
    split at h
    · cases h
    · rename_i hd
      simp only [insM, hd, List.cons_append, insM_none h]
theorem insM_some {α : Type} {k : IntKind} {f : α → Value} {i : Int} {a : α} {j q : Nat} : ∀ {l : List MapEntry} {m : List (Int × α)} {e : MapEntry} {v : Value}, l.map (fun e => (e.key, e.val)) = m.map (fun p => (Value.int k p.1, f p.2)) →
    Instr.findNow (.int k) (.int k i) l j = some (some (j + q, v)) → l[q]? = some e → e.key = .int k i → ∀ b : MapEntry, b.key = .int k i → b.val = f a → (l.set q b).map (fun e => (e.key, e.val)) = (insM m i a).map (fun p => (Value.int k p.1, f p.2))
  | [], _, _, _, _, h, _, _, _, _, _ => by simp [Instr.findNow] at h
  | _ :: _, [], _, _, h, _, _, _, _, _, _ => by simp at h
  | x :: l, (y, c) :: m, e, v, h, hf, he, hk, b, hb1, hb2 => by
    simp only [List.map_cons, List.cons.injEq, Prod.mk.injEq] at h
    obtain ⟨⟨h1, h2⟩, h3⟩ := h
    by_cases hy : i = y
    · subst hy
      simp [Instr.findNow, h1, Instr.sameNow] at hf
      have : q = 0 := by omega
      subst this
      simp [insM, hb1, hb2, h3]
    · have hyb : (i == y) = false := beq_eq_false_iff_ne.2 hy
      simp [Instr.findNow, h1, Instr.sameNow, hyb] at hf
      match q, he with
      | 0, he =>
        simp at he; subst he
        rw [h1] at hk; cases hk; exact absurd rfl hy
      | q + 1, he =>
        have := insM_some (j := j + 1) (q := q) (a := a) h3 (by rw [hf]; congr 3; omega) (by simpa using he) hk b hb1 hb2
        simp only [List.set_cons_succ, List.map_cons, insM, decide_eq_false hy, this, h1, h2]

theorem lkOut_den {commaOk : Bool} {v : SV} {u : Value} {ok : Bool} (h : den ρ v = some u) : den ρ (lkOut commaOk v ok) = some (if commaOk then .tuple #[u, .bool ok] else u) := by
  cases commaOk with
  | true => simp [lkOut, den, denL, h]
  | false => simpa [lkOut] using h

theorem pLookup_sound (R : Rel B X ρ hp n w) {t : TypeId} {x i : SV} {commaOk : Bool} {r : Res C} {vx vi : Value} (h : (pLookup P (fun i => find i hp) t x i commaOk).get = some r) (hx : den ρ x = some vx) (hi : den ρ i = some vi) :
    (∃ u, (Instr.lookup t vx vi commaOk).run P w = .ok u w ∧ den ρ r.1 = some u) ∧ r.2 = [] := by
  unfold pLookup at h
  split at h
  · rename_i k e ht
    obtain ⟨key, h1, h2⟩ := mapT_spec ht
    split at h
    · rename_i z hz
      have hz' := run_zeroValue hz w
      split at h
      · rename_i k' i'
        simp only [den, Option.some.injEq] at hi; subst hi
        split at h
        · rename_i hk; cases kindEq_eq hk
          have hck : ∀ em, (Instr.checkKey em 10000 key (.int k i')).run P w = .ok () w := fun em => MapKept.run_checkKey (P := P) (w := w) h2 (k := .int k i') (by simp [MapKept.IsKey]) em 9999
          split at h
          · rename_i id
            split at h
            · rename_i k2 vt m hid
              split at h
              · rename_i hk2 hvt
                cases kindEq_eq hk2; cases Nat.eq_of_beq_eq_true hvt
                obtain ⟨v', hv', g, es, clock, rfl, _, hheap, hes, _⟩ := R.obj id _ hid
                simp only [den] at hx; rw [hx] at hv'; cases hv'
                rcases findNow_lk (f := (C e).val) i' es.toList m 0 hes with ⟨g1, g2, _⟩ | ⟨a, q, en, g1, g2, _, _⟩
                · have hrun : (Instr.lookup t (.map (some g)) (.int k i') commaOk).run P w = .ok (if commaOk then .tuple #[z, .bool false] else z) w := by
                    simp [Instr.lookup, run_underlying h1, MapKept.run_getObj_map hheap, hck, MapKept.run_findKey h2 g2, hz', Result.andThen]
                  unfold lkGo at h
                  rw [g1] at h
                  split at h
                  · rename_i hzz
                    have hzz := sameZ_eq hzz
                    simp only [Tr.get, Option.some.injEq] at h; subst h
                    refine ⟨⟨_, hrun, ?_⟩, rfl⟩
                    simp only [Option.getD_none, Option.isSome_none]
                    rw [hzz]; exact lkOut_den valS_den
                  · simp only [Option.isSome_none, Tr.get, Option.some.injEq] at h; subst h
                    exact ⟨⟨_, hrun, lkOut_den rfl⟩, rfl⟩
                · have hrun : (Instr.lookup t (.map (some g)) (.int k i') commaOk).run P w = .ok (if commaOk then .tuple #[(C e).val a, .bool true] else (C e).val a) w := by
                    simp [Instr.lookup, run_underlying h1, MapKept.run_getObj_map hheap, hck, MapKept.run_findKey h2 g2, Result.andThen]
                  unfold lkGo at h
                  rw [g1] at h
                  split at h
                  · simp only [Tr.get, Option.some.injEq] at h; subst h
                    exact ⟨⟨_, hrun, lkOut_den valS_den⟩, rfl⟩
                  · simp only [Option.isSome_some, Tr.get, Option.some.injEq] at h; subst h
                    exact ⟨⟨_, hrun, lkOut_den valS_den⟩, rfl⟩
              · simp [Tr.get] at h
            · simp [Tr.get] at h
          · simp only [Tr.get, Option.some.injEq] at h; subst h
            simp only [den, Option.some.injEq] at hx; subst hx
            refine ⟨⟨_, ?_, lkOut_den rfl⟩, rfl⟩
            have g2 : Instr.findNow (.int k) (.int k i') [] 0 = some none := rfl
            simp [Instr.lookup, run_underlying h1, hck, MapKept.run_findKey h2 g2, hz', Result.andThen]
          · simp [Tr.get] at h
        · simp [Tr.get] at h
      · simp [Tr.get] at h
    · simp [Tr.get] at h
  · simp [Tr.get] at h

theorem insM_run (l : List MapEntry) (es : Array MapEntry) (q : Nat) (k v : Value) (hl : es.toList = l) : (es.modify q fun e => { e with key := k, val := v }).toList = match l[q]? with
    | some e => l.set q { e with key := k, val := v }
    | none => l := by
  subst hl
  rw [Array.toList_modify]
  cases h : es.toList[q]? with
  | none =>
    simp only
    have : es.toList.length ≤ q := List.getElem?_eq_none_iff.1 h
    rw [List.modify_eq_self this]
  | some e =>
    simp only
    rw [List.modify_eq_set, h]; rfl
theorem dec_val {c : Codec} {x : SV} {a : c.α} {v : Value} (hd : c.dec (cellsS x) = some a) (hg : (Bool.and (isAggS x) c.ag = true) ∨ Bool.or (isAggS x) c.ag = false) (hx : den ρ x = some v) : c.val a = v := by
  have hl := c.law _ _ hd
  unfold Codec.val
  rcases hg with hg | hg
  · have h1 : isAggS x = true := by cases h : isAggS x <;> simp_all
    have h2 : c.ag = true := by cases h : c.ag <;> simp_all
    rw [h2]
    unfold isAggS at h1
    split at h1
    · rename_i cs
      simp only [cellsS] at hl
      subst hl
      simp only [den, denL_rawL, Option.map_some, Option.some.injEq] at hx
      exact hx
    · rename_i b
      split at h1
      case h_2 => cases h1
      simp only [cellsS] at hl
      have e2 : ∀ {l l' : List Value}, rawL l = rawL l' → l = l' := by
        intro l
        induction l with
        | nil => intro l' h; cases l' with
          | nil => rfl
          | cons _ _ => simp [rawL] at h
        | cons y l ih => intro l' h; cases l' with
          | nil => simp [rawL] at h
          | cons z l' => simp only [rawL, List.cons.injEq, SV.raw.injEq] at h; rw [h.1, ih h.2]
      simp only [den, Option.some.injEq] at hx
      subst hx
      rw [← e2 hl]
    · cases h1
  · have h1 : isAggS x = false := by cases h : isAggS x <;> simp_all
    have h2 : c.ag = false := by cases h : c.ag <;> simp_all
    rw [h2]
    have h3 := c.sg h2
    have h4 := c.len a
    rw [h3] at h4
    match he : c.enc a, h4 with
    | [u], _ =>
      rw [he] at hl
      simp only [rawL] at hl
      simp only [List.headD_cons]
      cases x with
      | raw y =>
        have : cellsS (.raw y) = [.raw y] := by
          cases y <;> first | rfl | (simp [isAggS] at h1)
        rw [this] at hl
        cases hl
        simpa [den] using hx
      | agg cs => simp [isAggS] at h1
      | _ => simp [cellsS] at hl
theorem pMapUpdate_sound (R : Rel B X ρ hp n w) {t : TypeId} {x i v : SV} {r : Res C} {vx vi vv : Value} (h : (pMapUpdate P (fun i => find i hp) t x i v).get = some r) (hx : den ρ x = some vx) (hi : den ρ i = some vi) (hv : den ρ v = some vv) :
    r.1 = .raw undef ∧ ∃ w', (Instr.mapUpdate t vx vi vv).run P w = .ok () w' ∧ Rel B X ρ (r.2 ++ hp) n w' := by
  unfold pMapUpdate at h
  split at h
  · rename_i k e ht
    obtain ⟨key, h1, h2⟩ := mapT_spec ht
    split at h
    · rename_i k' i'
      simp only [den, Option.some.injEq] at hi; subst hi
      split at h
      · rename_i hk; cases kindEq_eq hk
        have hck : ∀ em, (Instr.checkKey em 10000 key (.int k i')).run P w = .ok () w := fun em => MapKept.run_checkKey (P := P) (w := w) h2 (k := .int k i') (by simp [MapKept.IsKey]) em 9999
        have hks : (Instr.keyThatStays (.int k i') (.int k i')).run P w = .ok (.int k i') w := MapKept.run_keyThatStays (d := .int k) (by simp [MapKept.IsKey])
        split at h
        · rename_i id
          split at h
          · rename_i k2 vt m hid
            split at h
            · rename_i hk2 hvt
              cases kindEq_eq hk2; cases Nat.eq_of_beq_eq_true hvt
              have fin : ∀ a : (C e).α, (C e).val a = vv → r = (.raw undef, [(id, .mp k e (insM m i' a))]) → r.1 = .raw undef ∧ ∃ w', (Instr.mapUpdate t vx (.int k i') vv).run P w = .ok () w' ∧ Rel B X ρ (r.2 ++ hp) n w' := fun a ha hr => by
                subst hr; subst ha
                refine ⟨rfl, ?_⟩
                obtain ⟨v', hv', g, es, clock, rfl, hokb, hheap, hes, hst⟩ := R.obj id _ hid
                have hv2 := hv'
                simp only [den] at hx; rw [hx] at hv'; cases hv'
                have upd : ∀ o : Obj, okObj ρ { w with heap := w.heap.setIfInBounds g o } (okB B X) (.map (some g)) (.mp k e (insM m i' a)) → Rel B X ρ ((id, .mp k e (insM m i' a)) :: hp) n { w with heap := w.heap.setIfInBounds g o } := fun o ho =>
                  R.set hid hv2 rfl rfl rfl rfl rfl (by simp) (fun b hb => by
                    have : b ≠ g := fun eq => hb (by rw [eq]; rfl)
                    exact (MapKept.heap_set hheap).2 b this) ho (fun g' hg' => by simp [blk] at hg'; subst hg'; exact hokb)
                rcases findNow_lk (f := (C e).val) i' es.toList m 0 hes with ⟨g1, g2, g3⟩ | ⟨b, q, en, g1, g2, g3, g4⟩
                · refine ⟨{ w with heap := w.heap.setIfInBounds g (.map (es.push { key := .int k i', val := (C e).val a, born := clock }) (clock + 1)) }, ?_, upd _ ?_⟩
                  · simp [Instr.mapUpdate, run_underlying h1, MapKept.run_getObj_map hheap, hck, MapKept.run_findKey h2 g2, MapKept.run_setObj_map _ hheap, Result.andThen]
                  · refine ⟨g, _, _, rfl, hokb, (MapKept.heap_set hheap).1, ?_, stOk_push hst _ _⟩
                    rw [insM_none g1, Array.toList_push, g3, List.map_append]; rfl
                · have hj : es[q]? = some en := by simpa using g3
                  rw [Nat.zero_add] at g2
                  refine ⟨{ w with heap := w.heap.setIfInBounds g (.map (es.modify q fun e' => { e' with key := .int k i', val := (C e).val a }) clock) }, ?_, upd _ ?_⟩
                  · simp [Instr.mapUpdate, run_underlying h1, MapKept.run_getObj_map hheap, hck, MapKept.run_findKey h2 g2, MapKept.run_setObj_map _ hheap, hj, g4, hks, Result.andThen]
                  · refine ⟨g, _, _, rfl, hokb, (MapKept.heap_set hheap).1, ?_, stOk_modify hst _ _ _⟩
                    rw [insM_run es.toList es q _ _ rfl, g3]
                    exact insM_some (j := 0) (q := q) hes (by rw [Nat.zero_add]; exact g2) g3 g4 _ rfl rfl
              split at h
              · rename_i a _ _ hd hg
                simp only [Tr.get, Option.some.injEq] at h
                exact fin _ (dec_val hd (.inl hg) hv) h.symm
              · rename_i a hd hg _
                simp only [Tr.get, Option.some.injEq] at h
                exact fin _ (dec_val hd (.inr hg) hv) h.symm
              · simp [Tr.get] at h
            · simp [Tr.get] at h
          · simp [Tr.get] at h
        · simp [Tr.get] at h
      · simp [Tr.get] at h
    · simp [Tr.get] at h
  · simp [Tr.get] at h
end sound
end
end Go.Sx

/-
  The symbolic evaluator: maps whose keys are whole numbers or arrays of such, of any values. Own work; nothing here is trusted.
-/
namespace Go.Sx
noncomputable section
open Go.RowKit

variable {C : Tab} {P : Program}

/-- A map's type: that of its keys, their kind, whether they are arrays, how long, that of its elements. -/
def mapK (P : Program) (t : TypeId) : Option (TypeId × IntKind × Bool × Nat × TypeId) := match P.underlying t with
  | some (.map key elem) => match P.underlying key with
    | some (.int k) => some (key, k, false, 1, elem)
    | some (.array len e) => match P.underlying e, szOf P e with
      | some (.int k), some 1 => some (key, k, true, len, elem)
      | _, _ => none
    | _ => none
  | _ => none
def intsK (k : IntKind) : List SV → Option (List Int)
  | [] => some []
  | x :: r => match x with
    | .raw (.int k' a) => match kindEq k' k with
      | true => match intsK k r with
        | some l => some (a :: l)
        | none => none
      | false => none
    | _ => none
def keyOf (k : IntKind) (ag : Bool) (len : Nat) (x : SV) : Option (List Int) := match ag with
  | false => match x with
    | .raw (.int k' a) => match kindEq k' k with
      | true => some [a]
      | false => none
    | _ => none
  | true => match isAggS x with
    | true => match intsK k (cellsS x) with
      | some l => match Nat.beq l.length len with
        | true => some l
        | false => none
      | none => none
    | false => none
def eqI : List Int → List Int → Bool
  | [], [] => true
  | a :: r, b :: s => decide (a = b) && eqI r s
  | _, _ => false
theorem eqI_eq : ∀ {a b : List Int}, eqI a b = true ↔ a = b
  | [], [] => by simp [eqI]
  | [], _ :: _ => by simp [eqI]
  | _ :: _, [] => by simp [eqI]
  | a :: r, b :: s => by simp [eqI, eqI_eq (a := r) (b := s)]
def newK (a : List Int) : List (List Int) → Bool
  | [] => true
  | k :: r => !eqI a k && newK a r
theorem newK_mem {a : List Int} : ∀ {ks : List (List Int)}, newK a ks = true → a ∉ ks
  | [], _ => by simp
  | k :: r, h => by
    simp only [newK, Bool.and_eq_true, Bool.not_eq_true'] at h
    have h1 : ¬ a = k := fun e => by rw [eqI_eq.2 e] at h; cases h.1
    simp [h1, newK_mem h.2]

/-- The elements decode, so that a map of them is told by them. -/
def plainM (P : Program) (C : Tab) (e : TypeId) : Bool := match zeroT P e with
  | some z => match (C e).dec (cellsS (.raw z)) with
    | some _ => true
    | none => false
  | none => false

def pMakeMv (P : Program) (n : Nat) (t : TypeId) : Tr (Res C) := match mapK P t with
  | some (_, k, ag, len, _) => .leaf (.h n, [(n, .mv k ag len [] [])])
  | none => .fail
def pMake (P : Program) (n : Nat) (t : TypeId) : Tr (Res C) := match mapT P t with
  | some (k, e) => match plainM P C e with
    | true => .leaf (.h n, [(n, .mp k e [])])
    | false => pMakeMv P n t
  | none => pMakeMv P n t

def lkT (a : List Int) (z : Value) (ok : Bool) : List (List Int) → List SV → Tr (Res C)
  | k :: ks, v :: vs => .br (eqI a k) (.leaf (lkOut ok v true, [])) (lkT a z ok ks vs)
  | _, _ => .leaf (lkOut ok (.raw z) false, [])
def pLook (P : Program) (look : Nat → Option (SO C)) (t : TypeId) (x i : SV) (ok : Bool) : Tr (Res C) := match x with
  | .h id => match look id with
    | some (.mv k ag len ks vs) => match mapK P t with
      | some (_, k2, ag2, len2, e) => match kindEq k2 k && Nat.beq len2 len, ag2, ag, zeroT P e, keyOf k ag len i with
        | true, true, true, some z, some a => lkT a z ok ks vs
        | true, false, false, some z, some a => lkT a z ok ks vs
        | _, _, _, _, _ => .fail
      | none => .fail
    | _ => pLookup P look t x i ok
  | x => pLookup P look t x i ok
def pUpdate (P : Program) (look : Nat → Option (SO C)) (t : TypeId) (x i v : SV) : Tr (Res C) := match x with
  | .h id => match look id with
    | some (.mv k ag len ks vs) => match mapK P t with
      | some (_, k2, ag2, len2, _) => match kindEq k2 k && Nat.beq len2 len, ag2, ag, keyOf k ag len i with
        | true, true, true, some a => .br (newK a ks) (.leaf (.raw undef, [(id, .mv k ag len (ks ++ [a]) (vs ++ [v]))])) .fail
        | true, false, false, some a => .br (newK a ks) (.leaf (.raw undef, [(id, .mv k ag len (ks ++ [a]) (vs ++ [v]))])) .fail
        | _, _, _, _ => .fail
      | none => .fail
    | _ => pMapUpdate P look t x i v
  | x => pMapUpdate P look t x i v

/-! ### keys -/
/-- What the type of a map's keys is. -/
structure KeyT (P : Program) (key : TypeId) (k : IntKind) (ag : Bool) (len : Nat) : Prop where
  int : ag = false → P.underlying key = some (.int k) ∧ len = 1
  arr : ag = true → ∃ e, P.underlying key = some (.array len e) ∧ P.underlying e = some (.int k) ∧ szOf P e = some 1
theorem mapK_spec {t key e : TypeId} {k : IntKind} {ag : Bool} {len : Nat} (h : mapK P t = some (key, k, ag, len, e)) : P.underlying t = some (.map key e) ∧ KeyT P key k ag len := by
  unfold mapK at h
  split at h
  · rename_i key elem ht
    split at h
    · rename_i hk
      cases h
      exact ⟨ht, ⟨fun _ => ⟨hk, rfl⟩, fun h => by cases h⟩⟩
    · rename_i hk
      split at h
      · rename_i he hz
        cases h
        exact ⟨ht, ⟨(fun h => by cases h), fun _ => ⟨_, hk, he, hz⟩⟩⟩
      · cases h
    · cases h
  · cases h
theorem intsK_spec {k : IntKind} {ρ : Asg} : ∀ {l : List SV} {a : List Int} {vs : List Value}, intsK k l = some a → denL ρ l = some vs → vs = a.map (Value.int k)
  | [], a, vs, h, hd => by cases h; exact denL_nil.1 hd
  | x :: r, a, vs, h, hd => by
    obtain ⟨u, l, h1, h2, rfl⟩ := denL_cons.1 hd
    unfold intsK at h
    split at h
    · split at h
      · rename_i hk
        split at h
        · rename_i l' hl
          cases h
          cases kindEq_eq hk
          simp only [den, Option.some.injEq] at h1
          subst h1
          rw [intsK_spec hl h2]; rfl
        · cases h
      · cases h
    · cases h
theorem keyOf_spec {k : IntKind} {ag : Bool} {len : Nat} {x : SV} {a : List Int} {ρ : Asg} {v : Value} (h : keyOf k ag len x = some a) (hone : ∀ i u, ρ i = some u → u.oneCell' = true) (hd : den ρ x = some v) (hl : ag = false → len = 1) : v = keyV k ag a ∧ a.length = len := by
  unfold keyOf at h
  split at h
  · split at h
    · split at h
      · rename_i hk
        cases h; cases kindEq_eq hk
        simp only [den, Option.some.injEq] at hd
        subst hd
        exact ⟨rfl, (hl rfl).symm⟩
      · cases h
    · cases h
  · split at h
    · rename_i hag
      split at h
      · rename_i l hl2
        split at h
        · rename_i hb
          cases h
          obtain ⟨c, rfl⟩ := is_agg hd hag
          have := intsK_spec hl2 (den_cells hd hone)
          refine ⟨?_, Nat.eq_of_beq_eq_true hb⟩
          simp only [keyV]
          rw [← this]; simp [Value.cells]
        · cases h
      · cases h
    · cases h
theorem keyV_inj {k : IntKind} {ag : Bool} {a b : List Int} (h : keyV k ag a = keyV k ag b) (ha : ag = false → a.length = 1) (hb : ag = false → b.length = 1) : a = b := by
  cases ag with
  | true =>
    simp only [keyV, Value.agg.injEq] at h
    exact (List.map_inj_right (f := Value.int k) (by intro x y h; cases h; rfl)).1 (congrArg Array.toList h)
  | false =>
    have ha := ha rfl
    have hb := hb rfl
    match a, b, ha, hb with
    | [x], [y], _, _ => simp only [keyV, List.headD_cons, Value.int.injEq, true_and] at h; rw [h]

section run
variable {w : World}
theorem eqAs_ints {e : TypeId} {k : IntKind} (d : Nat) (he : P.underlying e = some (.int k)) : ∀ (m i : Nat) (xs ys : List Int), xs.length = i + m → ys.length = i + m →
    ∃ b, eqAs (eqT P (d + 1) e) 1 m i (rawL (xs.map (Value.int k))) (rawL (ys.map (Value.int k))) = some b ∧ (b = true ↔ xs.drop i = ys.drop i)
  | 0, i, xs, ys, hx, hy => ⟨true, rfl, by rw [List.drop_eq_nil_of_le (by omega), List.drop_eq_nil_of_le (by omega)]; simp⟩
  | m + 1, i, xs, ys, hx, hy => by
    obtain ⟨b, h1, h2⟩ := eqAs_ints d he m (i + 1) xs ys (by omega) (by omega)
    have seg : ∀ zs : List Int, zs.length = i + (m + 1) → ∃ z, segS (rawL (zs.map (Value.int k))) (i * 1) 1 = some [.raw (.int k z)] ∧ zs.drop i = z :: zs.drop (i + 1) := fun zs hz => by
      have hlt : i < zs.length := by omega
      refine ⟨zs[i], ?_, List.drop_eq_getElem_cons hlt⟩
      have hr : ∀ l : List Int, rawL (l.map (Value.int k)) = l.map fun z => SV.raw (.int k z) := fun l => by
        induction l with
        | nil => rfl
        | cons z l ih => simp only [List.map_cons, rawL, ih]
      have hb : Nat.ble (i * 1 + 1) (rawL (zs.map (Value.int k))).length = true := by rw [rawL_length, List.length_map]; exact Nat.ble_eq_true_of_le (by omega)
      unfold segS
      rw [hb]
      simp only [Nat.mul_one, hr]
      rw [← List.map_drop, List.drop_eq_getElem_cons hlt]; rfl
    obtain ⟨x, sx, dx⟩ := seg xs hx
    obtain ⟨y, sy, dy⟩ := seg ys hy
    refine ⟨(x == y) && b, ?_, ?_⟩
    · have hq : eqT P (d + 1) e [.raw (.int k x)] [.raw (.int k y)] = some (x == y) := by
        unfold eqT
        rw [he]
        simp only
        have : kindEq k k = true := by cases k <;> rfl
        rw [this]
      simp only [eqAs, sx, sy, hq, h1]
    · rw [dx, dy, Bool.and_eq_true, beq_iff_eq, h2, List.cons.injEq]

theorem run_keyEq {key : TypeId} {k : IntKind} {len : Nat} (hk : KeyT P key k true len) {a b : List Int} (ha : a.length = len) (hb : b.length = len) : (Op.equal key (keyV k true a) (keyV k true b)).run P w = .ok (eqI a b) w := by
  obtain ⟨e, h1, h2, h3⟩ := hk.arr rfl
  obtain ⟨r, q1, q2⟩ := eqAs_ints (P := P) 9998 h2 len 0 a b (by omega) (by omega)
  have hq : eqT P 10000 key (rawL (a.map (Value.int k))) (rawL (b.map (Value.int k))) = some r := by
    show eqT P (9999 + 1) key _ _ = _
    unfold eqT
    rw [h1]
    simp only [h3]
    exact q1
  have hr : r = eqI a b := by
    rw [Bool.eq_iff_iff, q2, eqI_eq]; rfl
  obtain ⟨x, y, v1, v2, hrun⟩ := eqT_sound _ _ _ _ _ hq (fun _ => none) _ _ w (denL_rawL _) (denL_rawL _)
  have hag := aggT_of_array h1
  have ev : ∀ {l : List Value} {v : Value}, valOf P key l v → v = .agg l.toArray := fun {l v} h => by
    rcases h with ⟨_, h⟩ | ⟨h, _⟩
    · exact h
    · rw [hag] at h; cases h
  rw [ev v1, ev v2, hr] at hrun
  exact hrun

theorem run_checkKey_mv {key : TypeId} {k : IntKind} {ag : Bool} {len : Nat} (hk : KeyT P key k ag len) {a : List Int} (ha : a.length = len) (em : Bool) : (Instr.checkKey em 10000 key (keyV k ag a)).run P w = .ok () w := by
  cases ag with
  | false => exact MapKept.run_checkKey (P := P) (w := w) (hk.int rfl).1 (k := keyV k false a) (by simp [MapKept.IsKey, keyV]) em 9999
  | true =>
    obtain ⟨e, h1, h2, h3⟩ := hk.arr rfl
    have hag : aggT P e = some false := by simp [aggT, h2]
    have step : ∀ (m i : Nat), i + m = a.length → (forIn (List.range' i m) PUnit.unit (fun i (_ : PUnit) => do
        let v ← part e (a.map (Value.int k)).toArray (i * (← sizeOf e))
        Instr.checkKey em 9999 e v
        pure (ForInStep.yield PUnit.unit)) : Sem PUnit).run P w = .ok PUnit.unit w := fun m => by
      induction m with
      | zero => intro i _; simp
      | succ m ih =>
        intro i hi
        have hlt : i < a.length := by omega
        have hpart : (part e (a.map (Value.int k)).toArray (i * 1)).run P w = .ok (.int k a[i]) w := by
          unfold part
          rw [Sem.run_bind, run_isAgg hag]
          simp [hlt]
        have hck : (Instr.checkKey em 9999 e (.int k a[i])).run P w = .ok () w := MapKept.run_checkKey (P := P) (w := w) h2 (by simp [MapKept.IsKey]) em 9998
        rw [List.range'_succ, List.forIn_cons]
        simp only [Sem.run_bind, run_sizeOf h3, Result.andThen_ok, hpart, hck, Sem.run_pure]
        exact ih (i + 1) (by omega)
    have h0 := step len 0 (by omega)
    show (Instr.checkKey em (9999 + 1) key (keyV k true a)).run P w = _
    unfold Instr.checkKey
    simp only [Sem.run_bind, run_underlying h1, Result.andThen_ok, keyV]
    rw [Std.Legacy.Range.forIn_eq_forIn_range']
    simp only [Std.Legacy.Range.size, Nat.sub_zero, Nat.add_one_sub_one, Nat.div_one]
    first
      | exact h0
      | (rw [h0]; rfl)
      | simpa using h0

/-- What is found among entries. -/
theorem find_run {key : TypeId} {k : IntKind} {ag : Bool} {len : Nat} (hk : KeyT P key k ag len) {a : List Int} (ha : a.length = len) (l : List MapEntry) (hl : ∀ e ∈ l, ∃ b : List Int, b.length = len ∧ e.key = keyV k ag b) :
    ∃ r, (Instr.findKey key (keyV k ag a) l).run P w = .ok r w ∧ (r = none → ∀ e ∈ l, e.key ≠ keyV k ag a) ∧ ∀ i v, r = some (i, v) → ∃ e ∈ l, e.key = keyV k ag a ∧ e.val = v := by
  cases ag with
  | false =>
    obtain ⟨hu, rfl⟩ := hk.int rfl
    have key1 : ∀ b : List Int, b.length = 1 → ∃ x, b = [x] := fun b hb => match b, hb with | [x], _ => ⟨x, rfl⟩
    obtain ⟨x, rfl⟩ := key1 a ha
    have go : ∀ (l : List MapEntry) (j : Nat), (∀ e ∈ l, ∃ b : List Int, b.length = 1 ∧ e.key = keyV k false b) → ∃ r, Instr.findNow (.int k) (.int k x) l j = some r ∧ (r = none → ∀ e ∈ l, e.key ≠ keyV k false [x]) ∧ ∀ i v, r = some (i, v) → ∃ e ∈ l, e.key = keyV k false [x] ∧ e.val = v := by
      intro l
      induction l with
      | nil => exact fun j _ => ⟨none, rfl, by simp, by simp⟩
      | cons e l ih =>
        intro j h
        obtain ⟨b, hb, he⟩ := h e List.mem_cons_self
        obtain ⟨y, rfl⟩ := key1 b hb
        simp only [keyV, List.headD_cons] at he
        by_cases hxy : x = y
        · subst hxy
          refine ⟨some (j, e.val), by simp [Instr.findNow, he, Instr.sameNow], by simp, fun i v h => ?_⟩
          simp only [Option.some.injEq, Prod.mk.injEq] at h
          exact ⟨e, List.mem_cons_self, by simpa [keyV] using he, h.2⟩
        · obtain ⟨r, r1, r2, r3⟩ := ih (j + 1) fun e he => h e (List.mem_cons_of_mem _ he)
          refine ⟨r, by simp [Instr.findNow, he, Instr.sameNow, beq_eq_false_iff_ne.2 hxy, r1], fun hr e' he' => ?_, fun i v hr => ?_⟩
          · rcases List.mem_cons.1 he' with rfl | he'
            · rw [he]; simp only [keyV, List.headD_cons]; intro h; cases h; exact hxy rfl
            · exact r2 hr e' he'
          · obtain ⟨e', m1, m2⟩ := r3 i v hr
            exact ⟨e', List.mem_cons_of_mem _ m1, m2⟩
    obtain ⟨r, r1, r2, r3⟩ := go l 0 hl
    exact ⟨r, MapKept.run_findKey hu r1, r2, r3⟩
  | true =>
    obtain ⟨e, h1, h2, h3⟩ := hk.arr rfl
    have go : ∀ (l : List MapEntry) (j : Nat), (∀ e ∈ l, ∃ b : List Int, b.length = len ∧ e.key = keyV k true b) → ∃ r, (Instr.findAsking key (keyV k true a) l j).run P w = .ok r w ∧ (r = none → ∀ e ∈ l, e.key ≠ keyV k true a) ∧ ∀ i v, r = some (i, v) → ∃ e ∈ l, e.key = keyV k true a ∧ e.val = v := by
      intro l
      induction l with
      | nil => exact fun j _ => ⟨none, rfl, by simp, by simp⟩
      | cons e l ih =>
        intro j h
        obtain ⟨b, hb, he⟩ := h e List.mem_cons_self
        have hq := run_keyEq (P := P) (w := w) hk ha hb
        unfold Instr.findAsking
        rw [Sem.run_bind, he, hq, Result.andThen_ok]
        cases hab : eqI a b with
        | true =>
          have := eqI_eq.1 hab
          subst this
          refine ⟨some (j, e.val), rfl, by simp, fun i v h => ?_⟩
          simp only [Option.some.injEq, Prod.mk.injEq] at h
          exact ⟨e, List.mem_cons_self, he, h.2⟩
        | false =>
          obtain ⟨r, r1, r2, r3⟩ := ih (j + 1) fun e he => h e (List.mem_cons_of_mem _ he)
          refine ⟨r, r1, fun hr e' he' => ?_, fun i v hr => ?_⟩
          · rcases List.mem_cons.1 he' with rfl | he'
            · rw [he]; intro h
              have := keyV_inj h (fun h => by cases h) (fun h => by cases h)
              rw [eqI_eq.2 this.symm] at hab; cases hab
            · exact r2 hr e' he'
          · obtain ⟨e', m1, m2⟩ := r3 i v hr
            exact ⟨e', List.mem_cons_of_mem _ m1, m2⟩
    obtain ⟨r, r1, r2, r3⟩ := go l 0 hl
    exact ⟨r, by rw [run_findKey_eq (P := P) w (by rw [h1]) _ _]; exact r1, r2, r3⟩
end run

section sound
variable {B : World} {X : Own} {ρ : Asg} {hp : Hp C} {n : Nat} {w : World}

theorem pMakeMv_sound (R : Rel B X ρ hp n w) {t : TypeId} {r : Res C} (h : (pMakeMv P n t).get = some r) : NewOk P B X ρ hp n w (Instr.makeMap t none) r := by
  unfold pMakeMv at h
  split at h
  · rename_i key k ag len e hm
    simp only [Tr.get, Option.some.injEq] at h; subst h
    obtain ⟨ht, hkt⟩ := mapK_spec hm
    refine ⟨.map (some w.heap.size), w.alloc (.map #[] 0), ρ.add n (.map (some w.heap.size)), by simp [Instr.makeMap, newObj, Sem.run, run_underlying ht], Asg.le_add ρ n _ (R.fresh n (Nat.le_refl _)), Asg.add_self ρ n _, ?_⟩
    · refine Rel.shift (R.addNew (.map #[] 0) (o := .mv k ag len [] []) (v := .map (some w.heap.size)) rfl (fun g hg => by simp [blk] at hg; exact hg.symm)
        ⟨w.heap.size, #[], 0, [], rfl, .inl R.size, rfl, heap_alloc_new w _, rfl, List.nodup_nil, fun l hl => by simp at hl, fun h => (hkt.int h).2, by simp⟩) (by omega)
  · simp [Tr.get] at h
theorem pMake_sound (R : Rel B X ρ hp n w) {t : TypeId} {r : Res C} (h : (pMake P n t).get = some r) : NewOk P B X ρ hp n w (Instr.makeMap t none) r := by
  unfold pMake at h
  split at h
  · rename_i k e hm
    split at h
    · exact pMakeMap_sound R (by unfold pMakeMap; rw [hm]; exact h)
    · exact pMakeMv_sound R h
  · exact pMakeMv_sound R h

/-- What is known of a map's entries. -/
theorem mv_keys {k : IntKind} {ag : Bool} {len : Nat} {ks : List (List Int)} {us : List Value} {es : List MapEntry} (hlen : ks.length = us.length) (hp : (es.map fun e => (e.key, e.val)).Perm ((ks.map (keyV k ag)).zip us)) (hl : ∀ l ∈ ks, l.length = len) :
    ∀ e ∈ es, ∃ b : List Int, b.length = len ∧ e.key = keyV k ag b := by
  intro e he
  have h1 : (e.key, e.val) ∈ (ks.map (keyV k ag)).zip us := hp.mem_iff.1 (List.mem_map.2 ⟨e, he, rfl⟩)
  obtain ⟨b, hb, hk⟩ := List.mem_map.1 (List.of_mem_zip h1).1
  exact ⟨b, hl b hb, hk.symm⟩

theorem lkT_spec {a : List Int} {z : Value} {ok : Bool} {k : IntKind} {ag : Bool} {ρ : Asg} {r : Res C} : ∀ {ks : List (List Int)} {vs : List SV} {us : List Value}, (lkT a z ok ks vs).get = some r → denL ρ vs = some us → ks.length = us.length →
    r.2 = [] ∧ ((a ∉ ks ∧ r.1 = lkOut ok (.raw z) false) ∨ ∃ sv u, den ρ sv = some u ∧ (keyV k ag a, u) ∈ (ks.map (keyV k ag)).zip us ∧ r.1 = lkOut ok sv true)
  | [], vs, us, h, hd, hl => by
    simp only [lkT, Tr.get, Option.some.injEq] at h; subst h
    exact ⟨rfl, .inl ⟨by simp, rfl⟩⟩
  | k0 :: ks, [], us, h, hd, hl => by
    rw [denL_nil.1 hd] at hl; simp at hl
  | k0 :: ks, v :: vs, us, h, hd, hl => by
    obtain ⟨u, l, h1, h2, rfl⟩ := denL_cons.1 hd
    unfold lkT at h
    rcases Tr.get_br.1 h with ⟨hb, h⟩ | ⟨hb, h⟩
    · simp only [Tr.get, Option.some.injEq] at h; subst h
      have := eqI_eq.1 hb
      subst this
      exact ⟨rfl, .inr ⟨v, u, h1, by simp, rfl⟩⟩
    · obtain ⟨g1, g2⟩ := lkT_spec h h2 (by simpa using hl)
      refine ⟨g1, ?_⟩
      rcases g2 with ⟨g2, g3⟩ | ⟨sv, u', g2, g3, g4⟩
      · refine .inl ⟨fun hm => ?_, g3⟩
        rcases List.mem_cons.1 hm with rfl | hm
        · rw [eqI_eq.2 rfl] at hb; cases hb
        · exact g2 hm
      · exact .inr ⟨sv, u', g2, List.mem_cons_of_mem _ g3, g4⟩

theorem zip_unique {k : IntKind} {ag : Bool} {K u v : Value} : ∀ {ks : List (List Int)} {us : List Value}, ks.Nodup → (ag = false → ∀ l ∈ ks, l.length = 1) → (K, u) ∈ (ks.map (keyV k ag)).zip us → (K, v) ∈ (ks.map (keyV k ag)).zip us → u = v
  | [], us, _, _, hu, _ => by simp at hu
  | _ :: _, [], _, _, hu, _ => by simp at hu
  | k0 :: ks, u0 :: us, hn, h1, hu, hv => by
    rw [List.map_cons, List.zip_cons_cons] at hu hv
    have hn' := List.nodup_cons.1 hn
    have no : ∀ x, (keyV k ag k0, x) ∉ (ks.map (keyV k ag)).zip us := fun x hx => by
      obtain ⟨b, hb, hk⟩ := List.mem_map.1 (List.of_mem_zip hx).1
      have := keyV_inj hk (fun e => h1 e b (List.mem_cons_of_mem _ hb)) (fun e => h1 e k0 List.mem_cons_self)
      subst this
      exact hn'.1 hb
    rcases List.mem_cons.1 hu with pu | pu <;> rcases List.mem_cons.1 hv with pv | pv
    · cases pu; cases pv; rfl
    · cases pu; exact absurd pv (no _)
    · cases pv; exact absurd pu (no _)
    · exact zip_unique hn'.2 (fun e l hl => h1 e l (List.mem_cons_of_mem _ hl)) pu pv

theorem pLook_sound (R : Rel B X ρ hp n w) {t : TypeId} {x i : SV} {commaOk : Bool} {r : Res C} {vx vi : Value} (h : (pLook P (fun i => find i hp) t x i commaOk).get = some r) (hx : den ρ x = some vx) (hi : den ρ i = some vi) :
    (∃ u, (Instr.lookup t vx vi commaOk).run P w = .ok u w ∧ den ρ r.1 = some u) ∧ r.2 = [] := by
  unfold pLook at h
  split at h
  · rename_i id
    split at h
    · rename_i k ag len ks vs hid
      split at h
      · rename_i key k2 ag2 len2 e hm
        obtain ⟨ht, hkt⟩ := mapK_spec hm
        have fin : ∀ z a, (kindEq k2 k && Nat.beq len2 len) = true → ag2 = ag → zeroT P e = some z → keyOf k ag len i = some a → (lkT (C := C) a z commaOk ks vs).get = some r → (∃ u, (Instr.lookup t vx vi commaOk).run P w = .ok u w ∧ den ρ r.1 = some u) ∧ r.2 = [] := fun z a hke hag hz ha hr => by
          rw [Bool.and_eq_true] at hke
          cases kindEq_eq hke.1; cases Nat.eq_of_beq_eq_true hke.2; subst hag
          obtain ⟨v', hv', g, es, clock, us, rfl, _, hus, hheap, hlen, hnd, hkl, hag1, hperm⟩ := R.obj id _ hid
          simp only [den] at hx; rw [hx] at hv'; cases hv'
          obtain ⟨rfl, hal⟩ := keyOf_spec ha R.one hi hag1
          obtain ⟨q, q1, q2, q3⟩ := find_run (P := P) (w := w) hkt hal es.toList (mv_keys hlen hperm hkl)
          have hck := run_checkKey_mv (P := P) (w := w) hkt hal
          obtain ⟨g1, g2⟩ := lkT_spec (k := k) (ag := ag2) hr hus hlen
          refine ⟨?_, g1⟩
          rcases g2 with ⟨g2, g3⟩ | ⟨sv, u, g2, g3, g4⟩
          · have hq : q = none := by
              cases q with
              | none => rfl
              | some p =>
                obtain ⟨e', m1, m2, _⟩ := q3 p.1 p.2 rfl
                obtain ⟨b, hb, hk⟩ := mv_keys hlen hperm hkl e' m1
                have h1 : (e'.key, e'.val) ∈ (ks.map (keyV k ag2)).zip us := hperm.mem_iff.1 (List.mem_map.2 ⟨e', m1, rfl⟩)
                obtain ⟨b2, hb2, hk2⟩ := List.mem_map.1 (List.of_mem_zip h1).1
                have := keyV_inj (hk2.trans m2) (fun e => by rw [hkl b2 hb2, hag1 e]) (fun e => by rw [hal, hag1 e])
                subst this
                exact absurd hb2 g2
            subst hq
            refine ⟨_, ?_, by rw [g3]; exact lkOut_den rfl⟩
            simp [Instr.lookup, run_underlying ht, MapKept.run_getObj_map hheap, hck, q1, run_zeroValue hz, Result.andThen]
          · obtain ⟨e0, m0, hke0⟩ : ∃ e0 ∈ es.toList, (e0.key, e0.val) = (keyV k ag2 a, u) := List.mem_map.1 (hperm.mem_iff.2 g3)
            simp only [Prod.mk.injEq] at hke0
            cases q with
            | none => exact absurd hke0.1 (q2 rfl e0 m0)
            | some p =>
              obtain ⟨i0, v0⟩ := p
              obtain ⟨e', m1, m2, m3⟩ := q3 i0 v0 rfl
              have h1 : (e'.key, e'.val) ∈ (ks.map (keyV k ag2)).zip us := hperm.mem_iff.1 (List.mem_map.2 ⟨e', m1, rfl⟩)
              rw [m2, m3] at h1
              have := zip_unique hnd (fun e l hl => by rw [hkl l hl, hag1 e]) h1 g3
              subst this
              refine ⟨_, ?_, by rw [g4]; exact lkOut_den g2⟩
              simp [Instr.lookup, run_underlying ht, MapKept.run_getObj_map hheap, hck, q1, Result.andThen]
        split at h
        · rename_i z a hke hz ha
          exact fin z a hke rfl hz ha h
        · rename_i z a hke hz ha
          exact fin z a hke rfl hz ha h
        · simp [Tr.get] at h
      · simp [Tr.get] at h
    · exact pLookup_sound R h hx hi
  · exact pLookup_sound R h hx hi

theorem zip_append_one {k : IntKind} {ag : Bool} {ks : List (List Int)} {us : List Value} {a : List Int} {u : Value} (hl : ks.length = us.length) : ((ks ++ [a]).map (keyV k ag)).zip (us ++ [u]) = (ks.map (keyV k ag)).zip us ++ [(keyV k ag a, u)] := by
  rw [List.map_append, List.zip_append (by simpa using hl)]; rfl

theorem pUpdate_sound (R : Rel B X ρ hp n w) {t : TypeId} {x i v : SV} {r : Res C} {vx vi vv : Value} (h : (pUpdate P (fun i => find i hp) t x i v).get = some r) (hx : den ρ x = some vx) (hi : den ρ i = some vi) (hv : den ρ v = some vv) :
    r.1 = .raw undef ∧ ∃ w', (Instr.mapUpdate t vx vi vv).run P w = .ok () w' ∧ Rel B X ρ (r.2 ++ hp) n w' := by
  unfold pUpdate at h
  split at h
  · rename_i id
    split at h
    · rename_i k ag len ks vs hid
      split at h
      · rename_i key k2 ag2 len2 e hm
        obtain ⟨ht, hkt⟩ := mapK_spec hm
        have fin : ∀ a, (kindEq k2 k && Nat.beq len2 len) = true → ag2 = ag → keyOf k ag len i = some a → newK a ks = true → r = (.raw undef, [(id, .mv k ag len (ks ++ [a]) (vs ++ [v]))]) → r.1 = .raw undef ∧ ∃ w', (Instr.mapUpdate t vx vi vv).run P w = .ok () w' ∧ Rel B X ρ (r.2 ++ hp) n w' := fun a hke hag ha hnew hr => by
          subst hr
          refine ⟨rfl, ?_⟩
          rw [Bool.and_eq_true] at hke
          cases kindEq_eq hke.1; cases Nat.eq_of_beq_eq_true hke.2; subst hag
          obtain ⟨v', hv', g, es, clock, us, rfl, hokb, hus, hheap, hlen, hnd, hkl, hag1, hperm⟩ := R.obj id _ hid
          have hv2 := hv'
          simp only [den] at hx; rw [hx] at hv'; cases hv'
          obtain ⟨rfl, hal⟩ := keyOf_spec ha R.one hi hag1
          obtain ⟨q, q1, q2, q3⟩ := find_run (P := P) (w := w) hkt hal es.toList (mv_keys hlen hperm hkl)
          have hck := run_checkKey_mv (P := P) (w := w) hkt hal
          have hq : q = none := by
            cases q with
            | none => rfl
            | some p =>
              obtain ⟨e', m1, m2, _⟩ := q3 p.1 p.2 rfl
              have h1 : (e'.key, e'.val) ∈ (ks.map (keyV k ag2)).zip us := hperm.mem_iff.1 (List.mem_map.2 ⟨e', m1, rfl⟩)
              obtain ⟨b2, hb2, hk2⟩ := List.mem_map.1 (List.of_mem_zip h1).1
              have := keyV_inj (hk2.trans m2) (fun e => by rw [hkl b2 hb2, hag1 e]) (fun e => by rw [hal, hag1 e])
              subst this
              exact absurd hb2 (newK_mem hnew)
          subst hq
          refine ⟨{ w with heap := w.heap.setIfInBounds g (.map (es.push { key := keyV k ag2 a, val := vv, born := clock }) (clock + 1)) }, ?_, ?_⟩
          · simp [Instr.mapUpdate, run_underlying ht, MapKept.run_getObj_map hheap, hck, q1, MapKept.run_setObj_map _ hheap, Result.andThen]
          · refine R.set hid hv2 rfl rfl rfl rfl rfl (by simp) (fun b hb => ?_) ⟨g, _, _, us ++ [vv], rfl, hokb, denL_append hus (denL_one hv), (MapKept.heap_set hheap).1, by simp [hlen], ?_, ?_, hag1, ?_⟩ (fun g' hg' => by simp [blk] at hg'; subst hg'; exact hokb)
            · have : b ≠ g := fun eq => hb (by rw [eq]; rfl)
              exact (MapKept.heap_set hheap).2 b this
            · rw [List.nodup_append]
              exact ⟨hnd, by simp, fun x hx y hy => by simp at hy; subst hy; exact fun e => newK_mem hnew (e ▸ hx)⟩
            · intro l hl
              rcases List.mem_append.1 hl with hl | hl
              · exact hkl l hl
              · simp at hl; subst hl; exact hal
            · rw [zip_append_one hlen, Array.toList_push, List.map_append]
              exact hperm.append_right _
        split at h
        · rename_i a hke ha
          obtain ⟨hb, h⟩ := Tr.get_ask.1 h
          simp only [Tr.get, Option.some.injEq] at h
          exact fin a hke rfl ha hb h.symm
        · rename_i a hke ha
          obtain ⟨hb, h⟩ := Tr.get_ask.1 h
          simp only [Tr.get, Option.some.injEq] at h
          exact fin a hke rfl ha hb h.symm
        · simp [Tr.get] at h
      · simp [Tr.get] at h
    · exact pMapUpdate_sound R h hx hi hv
  · exact pMapUpdate_sound R h hx hi hv
end sound
end
end Go.Sx

/-
  The symbolic evaluator: rows whose elements hold slices: what is read of them. Own work; nothing here is trusted.
-/
set_option linter.unusedVariables false
namespace Go.Sx
noncomputable section
open Go.RowKit

variable {C : Tab} {P : Program}

def ssD (c : Codec) {β : Type} : c.α × Option (Addr × Nat) × List β := (c.d, none, [])
/-- An inner slice that is nil, or has room for nothing: no memory is behind it. -/
def isNo (o : Option (Addr × Nat)) : Bool := match o with
  | none => true
  | some (_, c) => Nat.beq c 0
def adO (o : Option (Addr × Nat)) : Option Addr := match o with
  | none => none
  | some (a, _) => some a
def loadSs (P : Program) (look : Nat → Option (SO C)) (n : Nat) (t : TypeId) (id i sz j : Nat) : Tr (Res C) := match look id, szOf P t with
  | some (.ss e pos it ts), some k => match Nat.beq sz (C e).sz with
    | true => .br (decide (i < ts.length)) (match segS (rawL ((C e).enc (ts.getD i (ssD (C e))).1)) j k with
      | some l => match Nat.ble j pos, Nat.blt pos (j + k) with
        | true, true => .br (isNo (ts.getD i (ssD (C e))).2.1) ((mkV P t (l.set (pos - j) (.raw (.slice (adO (ts.getD i (ssD (C e))).2.1) 0 0)))).bind fun v => .leaf (v, []))
            ((mkV P t (l.set (pos - j) (.h n))).bind fun v => .leaf (v, [(n, .sl false false it (ts.getD i (ssD (C e))).2.2)]))
        | _, _ => (mkV P t l).bind fun v => .leaf (v, [])
      | none => .fail) .fail
    | false => .fail
  | _, _ => .fail
/-- A load, whatever it is of. -/
def pLoadS (P : Program) (look : Nat → Option (SO C)) (n : Nat) (t : TypeId) (ad : SV) : Tr (Res C) := match ad with
  | .el id i sz j => match look id with
    | some (.ss _ _ _ _) => loadSs P look n t id i sz j
    | _ => pLoad P look t (.el id i sz j)
  | ad => pLoad P look t ad

theorem ssFlat_length (c : Codec) {β : Type} (pos : Nat) : ∀ ts : List (c.α × Option (Addr × Nat) × List β), (ssFlat c pos ts).length = ts.length * c.sz
  | [] => by simp [ssFlat]
  | t :: r => by simp [ssFlat, ssCells, ssFlat_length c pos r, c.len, Nat.add_mul]; omega
theorem ssFlat_get (c : Codec) {β : Type} (pos : Nat) : ∀ (ts : List (c.α × Option (Addr × Nat) × List β)) (i m : Nat), i < ts.length → m < c.sz → (ssFlat c pos ts)[i * c.sz + m]? = (ssCells c pos (ts.getD i (ssD c)))[m]?
  | [], i, m, h, _ => by simp at h
  | t :: r, 0, m, _, hm => by
    show (ssCells c pos t ++ ssFlat c pos r)[0 * c.sz + m]? = (ssCells c pos t)[m]?
    rw [Nat.zero_mul, Nat.zero_add, List.getElem?_append_left (by simp [ssCells, c.len]; exact hm)]
  | t :: r, i + 1, m, h, hm => by
    show (ssCells c pos t ++ ssFlat c pos r)[(i + 1) * c.sz + m]? = (ssCells c pos (r.getD i (ssD c)))[m]?
    have hl : (ssCells c pos t).length = c.sz := by simp [ssCells, c.len]
    rw [List.getElem?_append_right (by rw [hl, Nat.add_mul]; omega), hl, show (i + 1) * c.sz + m - c.sz = i * c.sz + m by rw [Nat.add_mul]; omega]
    exact ssFlat_get c pos r i m (by simpa using h) hm

theorem denL_set {ρ : Asg} : ∀ {l : List SV} {vs : List Value} {x : SV} {u : Value} (i : Nat), denL ρ l = some vs → den ρ x = some u → denL ρ (l.set i x) = some (vs.set i u)
  | [], vs, x, u, i, h, _ => by rw [denL_nil.1 h]; rfl
  | y :: r, vs, x, u, 0, h, hx => by
    obtain ⟨a, l, h1, h2, rfl⟩ := denL_cons.1 h
    exact denL_cons.2 ⟨u, l, hx, h2, rfl⟩
  | y :: r, vs, x, u, i + 1, h, hx => by
    obtain ⟨a, l, h1, h2, rfl⟩ := denL_cons.1 h
    exact denL_cons.2 ⟨a, l.set i u, h1, denL_set i h2 hx, rfl⟩
theorem seg_in {α : Type} (l : List α) (x : α) {pos j k : Nat} (h1 : j ≤ pos) (h2 : pos < j + k) : (((l.drop j).take k).set (pos - j) x) = ((l.set pos x).drop j).take k := by
  apply List.ext_getElem?
  intro m
  rw [List.getElem?_set, List.getElem?_take, List.getElem?_take, List.getElem?_drop, List.getElem?_drop, List.getElem?_set]
  by_cases hm : m < k
  · rw [if_pos hm, if_pos hm]
    by_cases he : pos - j = m
    · have he' : pos = j + m := by omega
      rw [if_pos he, if_pos he']
      simp only [List.length_take, List.length_drop]
      by_cases hl : j + m < l.length
      · rw [if_pos (by omega), if_pos (by omega)]
      · rw [if_neg (by omega), if_neg (by omega)]
    · rw [if_neg he, if_neg (show ¬ pos = j + m by omega)]
  · rw [if_neg hm, if_neg hm, if_neg (by omega)]
theorem seg_out {α : Type} (l : List α) (x : α) {pos j k : Nat} (h : ¬ (j ≤ pos ∧ pos < j + k)) : ((l.set pos x).drop j).take k = (l.drop j).take k := by
  apply List.ext_getElem?
  intro m
  rw [List.getElem?_take, List.getElem?_take, List.getElem?_drop, List.getElem?_drop, List.getElem?_set]
  by_cases hm : m < k
  · rw [if_pos hm, if_pos hm, if_neg (by omega)]
  · rw [if_neg hm, if_neg hm]

section sound
variable {B : World} {X : Own} {ρ : Asg} {hp : Hp C} {n : Nat} {w : World}

theorem ss_cell (R : Rel B X ρ hp n w) {id : Nat} {e it : TypeId} {pos : Nat} {ts : List ((C e).α × Option (Addr × Nat) × List (C it).α)} {v : Value} (hid : find id hp = some (.ss e pos it ts)) (hv : ρ id = some v) :
    ∃ a cap, v = .slice a ts.length cap ∧ ts.length ≤ cap ∧ ∀ j x, (ssFlat (C e) pos ts)[j]? = some x → ∃ a', a = some a' ∧ w.cell? (a'.add j) = some x := by
  obtain ⟨v', hv', a, cap, rfl, hc1, hc3⟩ := R.obj id _ hid
  rw [hv] at hv'; cases hv'
  exact ⟨a, cap, rfl, hc1, hc3⟩
/-- A slice in such a row, behind a new handle. -/
theorem Rel.inner (R : Rel B X ρ hp n w) {it : TypeId} {a : Addr} {cap : Nat} {us : List (C it).α} (hl : us.length ≤ cap) (hf : X.fz a.block) (hc : ∀ j x, ((C it).flat us)[j]? = some x → B.cell? (a.add j) = some x) :
    Rel B X (ρ.add n (.slice (some a) us.length cap)) ((n, .sl false false it us) :: hp) (n + 1) w := by
  obtain ⟨h1, h2⟩ := R.fzHeap hf
  refine R.add rfl ⟨some a, cap, rfl, hl, nofun, fun j x hj => ⟨a, rfl, ?_⟩⟩ (fun g hg => by simp [blk] at hg; subst hg; exact Nat.lt_of_lt_of_le h1 R.size) (fun j oj vj g hj hlj hvj hgj hg => ?_) (fun g hg => by simp [blk] at hg; subst hg; exact .inr (.inr (.inr hf))) (fun _ => rfl)
  · rw [World.cell?_of_block (w := B) (a := a.add j) (by rw [Addr.add_block]; exact h2)]
    exact hc j x hj
  · simp [blk] at hg
    subst hg
    refine ⟨rfl, ?_⟩
    cases ho : oj.owns with
    | false => rfl
    | true => exact absurd (R.okOwn hj ho hvj hgj) (R.frz _ hf)
theorem loadSs_sound (R : Rel B X ρ hp n w) {t : TypeId} {id i sz j : Nat} {r : Res C} (h : (loadSs P (fun i => find i hp) n t id i sz j).get = some r) {v : Value} (hv : den ρ (.el id i sz j) = some v) : NewOk P B X ρ hp n w (Instr.loadAt t v) r := by
  have fin : ∀ {a : Addr} {u : Value}, (loadVar t a).run P w = .ok u w → (Instr.loadAt t (.pointer (some a))).run P w = .ok u w := fun {a u} h => by
    simp [Instr.loadAt, Instr.sureAddr, h]
  simp only [den, Option.bind_eq_some_iff, Option.map_eq_some_iff] at hv
  obtain ⟨v0, hv0, a0, ha0, rfl⟩ := hv
  unfold loadSs at h
  split at h
  · rename_i e pos it ts k hid hk
    split at h
    · rename_i hsz
      have hsz := Nat.eq_of_beq_eq_true hsz
      subst hsz
      obtain ⟨hb, h⟩ := Tr.get_ask.1 h
      have hlt : i < ts.length := by simpa using hb
      obtain ⟨a, cap, rfl, _, hcell⟩ := ss_cell R hid hv0
      have ha : a = some a0 := by
        cases a with
        | none => simp [baseOf] at ha0
        | some a => simp [baseOf] at ha0; rw [ha0]
      subst ha
      have hcell : ∀ m x, m < (C e).sz → (ssCells (C e) pos (ts.getD i (ssD (C e))))[m]? = some x → w.cell? (a0.add (i * (C e).sz + m)) = some x := fun m x hm hx => by
        rw [← ssFlat_get (C e) pos ts i m hlt hm] at hx
        obtain ⟨a', ha', hc⟩ := hcell _ x hx
        cases ha'; exact hc
      have hmem : ts.getD i (ssD (C e)) ∈ ts := by
        rw [List.getD_eq_getElem?_getD, List.getElem?_eq_getElem hlt]; exact List.getElem_mem hlt
      have hin := R.inn id _ hid _ hmem
      generalize ts.getD i (ssD (C e)) = q at h hcell hin
      obtain ⟨q1, q2, q3⟩ := q
      simp only at h hin
      split at h
      · rename_i l hl
        obtain ⟨e1, e2, e3⟩ := segS_spec hl (denL_rawL (ρ := ρ) _)
        rw [(C e).len] at e3
        have hcs : ∀ m x, ((((C e).enc q1).set pos (ssV q2 q3.length)).drop j |>.take k)[m]? = some x → w.cell? ((a0.add (i * (C e).sz + j)).add m) = some x := fun m x hx => by
          rw [List.getElem?_take] at hx
          split at hx
          · rename_i hm
            rw [List.getElem?_drop] at hx
            rw [Addr.add_add, Nat.add_assoc]
            exact hcell (j + m) x (by omega) hx
          · cases hx
        split at h
        · rename_i g1 g2
          have g1 := Nat.le_of_ble_eq_true g1
          have g2 := Nat.le_of_ble_eq_true g2
          cases q2 with
          | none =>
            rcases Tr.get_br.1 h with ⟨_, h⟩ | ⟨hb, _⟩
            · obtain ⟨sv, h1, h2⟩ := Tr.get_bind h
              simp [Tr.get] at h2; subst h2
              have hq : q3 = [] := hin.1 rfl
              subst hq
              have hd : denL ρ (l.set (pos - j) (.raw (.slice none 0 0))) = some (((((C e).enc q1).set pos (ssV none ([] : List (C it).α).length)).drop j).take k) := by
                rw [denL_set (pos - j) e2 (x := .raw (.slice none 0 0)) (u := .slice none 0 0) rfl, seg_in _ _ g1 (by omega)]; rfl
              obtain ⟨u, hu1, hu2⟩ := mkV_load (w := w) (a := a0.add (i * (C e).sz + j)) h1 (by rw [hk, List.length_set, e1]) hd hcs
              exact ⟨u, w, ρ, fin hu1, Asg.le_refl _, hu2, Rel.shift R (by omega)⟩
            · cases hb
          | some ac =>
            obtain ⟨ad, c⟩ := ac
            rcases Tr.get_br.1 h with ⟨hb, h⟩ | ⟨hb, h⟩
            · have hb : Nat.beq c 0 = true := hb
              have hb := Nat.eq_of_beq_eq_true hb
              subst hb
              obtain ⟨sv, h1, h2⟩ := Tr.get_bind h
              simp [Tr.get] at h2; subst h2
              have hq : q3 = [] := List.length_eq_zero_iff.1 (Nat.le_zero.1 (hin.2 ad 0 rfl).1)
              subst hq
              have hd : denL ρ (l.set (pos - j) (.raw (.slice (some ad) 0 0))) = some (((((C e).enc q1).set pos (ssV (some (ad, 0)) ([] : List (C it).α).length)).drop j).take k) := by
                rw [denL_set (pos - j) e2 (x := .raw (.slice (some ad) 0 0)) (u := .slice (some ad) 0 0) rfl, seg_in _ _ g1 (by omega)]; rfl
              obtain ⟨u, hu1, hu2⟩ := mkV_load (w := w) (a := a0.add (i * (C e).sz + j)) h1 (by rw [hk, List.length_set, e1]) hd hcs
              exact ⟨u, w, ρ, fin hu1, Asg.le_refl _, hu2, Rel.shift R (by omega)⟩
            · obtain ⟨sv, h1, h2⟩ := Tr.get_bind h
              simp [Tr.get] at h2; subst h2
              have hb : Nat.beq c 0 = false := hb
              have hc0 : 0 < c := by
                cases c with
                | zero => cases hb
                | succ c => exact Nat.succ_pos c
              obtain ⟨i1, i23⟩ := hin.2 ad c rfl
              obtain ⟨i2, i3⟩ := i23 hc0
              have R' := R.inner (it := it) (us := q3) i1 i2 i3
              have hle := Asg.le_add ρ n (.slice (some ad) q3.length c) (R.fresh n (Nat.le_refl _))
              have hd : denL (ρ.add n (.slice (some ad) q3.length c)) (l.set (pos - j) (.h n)) = some (((((C e).enc q1).set pos (ssV (some (ad, c)) q3.length)).drop j).take k) := by
                rw [denL_set (pos - j) (denL_mono hle _ _ e2) (x := .h n) (u := .slice (some ad) q3.length c) (Asg.add_self _ _ _), seg_in _ _ g1 (by omega)]; rfl
              obtain ⟨u, hu1, hu2⟩ := mkV_load (w := w) (a := a0.add (i * (C e).sz + j)) h1 (by rw [hk, List.length_set, e1]) hd hcs
              exact ⟨u, w, _, fin hu1, hle, hu2, Rel.shift R' (by omega)⟩
        · rename_i hno
          obtain ⟨sv, h1, h2⟩ := Tr.get_bind h
          simp [Tr.get] at h2; subst h2
          have hout : ¬ (j ≤ pos ∧ pos < j + k) := fun hc => hno (Nat.ble_eq_true_of_le hc.1) (Nat.ble_eq_true_of_le hc.2)
          rw [seg_out _ _ hout] at hcs
          obtain ⟨u, hu1, hu2⟩ := mkV_load (w := w) (a := a0.add (i * (C e).sz + j)) h1 (by rw [hk, e1]) e2 hcs
          exact ⟨u, w, ρ, fin hu1, Asg.le_refl _, hu2, Rel.shift R (by omega)⟩
      · simp [Tr.get] at h
    · simp [Tr.get] at h
  · simp [Tr.get] at h
theorem pLoadS_sound (R : Rel B X ρ hp n w) {t : TypeId} {ad : SV} {r : Res C} (h : (pLoadS P (fun i => find i hp) n t ad).get = some r) {v : Value} (hv : den ρ ad = some v) : NewOk P B X ρ hp n w (Instr.loadAt t v) r := by
  have old : ∀ {ad : SV}, (pLoad P (fun i => find i hp) t ad).get = some r → den ρ ad = some v → NewOk P B X ρ hp n w (Instr.loadAt t v) r := fun {ad} h hv => by
    obtain ⟨u, h1, h2, h3⟩ := pLoad_sound R h hv
    exact ⟨u, w, ρ, h1, Asg.le_refl _, h2, by rw [h3]; exact Rel.shift R (by omega)⟩
  unfold pLoadS at h
  split at h
  · split at h
    · exact loadSs_sound R h hv
    · exact old h hv
  · exact old h hv
end sound
end
end Go.Sx

/-
  The symbolic evaluator: one operation, whichever it is. Own work; nothing here is trusted.
-/
namespace Go.Sx
noncomputable section
open Go.RowKit

variable {C : Tab} {P : Program}

abbrev Tm := List (Nat × SV)

def evT (tm : Tm) : Operand → Option SV
  | .tmp t => find t tm
  | .const v => some (.raw v)
  | .func f => some (.raw (.func (.func f) #[] #[]))
  | .global _ => none
def evTs (tm : Tm) : List Operand → Option (List SV)
  | [] => some []
  | o :: r => match evT tm o with
    | some v => match evTs tm r with
      | some l => some (v :: l)
      | none => none
    | none => none

def TmOk (ρ : Asg) (tm : Tm) (a : Act) : Prop := ∀ t sv, find t tm = some sv → ∃ v, den ρ sv = some v ∧ a.tmps[t]? = some v

theorem TmOk.mono {ρ ρ' : Asg} {tm : Tm} {a : Act} (h : TmOk ρ tm a) (hρ : ρ.le ρ') : TmOk ρ' tm a := fun t sv ht => by
  obtain ⟨v, h1, h2⟩ := h t sv ht
  exact ⟨v, den_mono hρ _ _ h1, h2⟩

theorem evT_spec {ρ : Asg} {tm : Tm} {a : Act} (h : TmOk ρ tm a) {o : Operand} {sv : SV} (he : evT tm o = some sv) : den ρ sv = some (a.eval o) := by
  cases o with
  | tmp t =>
    obtain ⟨v, h1, h2⟩ := h t sv he
    simp [Act.eval, h1, h2]
  | const v => simp [evT] at he; subst he; rfl
  | func f => simp [evT] at he; subst he; rfl
  | global g => simp [evT] at he

theorem evTs_spec {ρ : Asg} {tm : Tm} {a : Act} (h : TmOk ρ tm a) : ∀ {os : List Operand} {vs : List SV}, evTs tm os = some vs → denL ρ vs = some (os.map a.eval)
  | [], vs, he => by simp [evTs] at he; subst he; rfl
  | o :: r, vs, he => by
    unfold evTs at he
    split at he
    · rename_i v hv
      split at he
      · rename_i l hl
        cases he
        exact denL_cons.2 ⟨_, _, evT_spec h hv, evTs_spec h hl, rfl⟩
      · cases he
    · cases he

def argsOf : Op → List Operand
  | .move x | .assign x | .box _ x | .load _ x | .unOp _ _ x | .convert _ _ x | .sliceToArrayPointer _ x | .fieldAddr _ x _ | .field _ x _ | .extract x _ | .nilCheck x => [x]
  | .pick c a b => [c, a, b]
  | .build _ ps | .buildSlice _ _ ps => ps.toList.map (·.2)
  | .store _ a v | .binOp _ _ a v _ | .makeSlice _ a v | .indexAddr _ a v | .index _ a v => [a, v]
  | .makeFunc _ _ cap => cap.toList
  | .lookup _ x i _ => [x, i]
  | .mapUpdate _ m k v | .insert _ m k v => [m, k, v]
  | .slice _ x l h m => x :: (l.toList ++ h.toList ++ m.toList)
  | .call c => c.args.toList
  | _ => []

def lift (t : Tr SV) : Tr (Res C) := t.bind fun v => .leaf (v, [])

theorem lift_get {t : Tr SV} {r : Res C} (h : (lift t).get = some r) : t.get = some r.1 ∧ r.2 = [] := by
  obtain ⟨v, h1, h2⟩ := Tr.get_bind h
  simp only [Tr.get, Option.some.injEq] at h2; subst h2
  exact ⟨h1, rfl⟩

def pNil (look : Nat → Option (SO C)) (x : SV) : Tr SV := match x with
  | .h id => match look id with
    | some (.box _ _) => .leaf x
    | _ => .fail
  | .ep _ _ => .leaf x
  | .el _ _ _ _ => .leaf x
  | .fn _ _ => .leaf x
  | .raw (.func (.func _) a _) => match a.toList with
    | [] => .leaf x
    | _ => .fail
  | _ => .fail

def pBuiltin (P : Program) (look : Nat → Option (SO C)) (n : Nat) (b : Builtin) (ts : List TypeId) (vs : List SV) : Tr (Res C) := match b with
  | .len => match ts, vs with
    | [t], [x] => lift (pLen P look t x)
    | _, _ => .fail
  | .min => match vs with
    | [x, y] => lift (pMin x y)
    | _ => .fail
  | .max => match vs with
    | [x, y] => lift (pMax x y)
    | _ => .fail
  | .append => match ts, vs with
    | [t, t'], [s, x] => pAppend P look n t t' s x
    | _, _ => .fail
  | .copy => match ts, vs with
    | [t, _], [d, x] => pCopy P look t d x
    | _, _ => .fail
  | .clear => match ts, vs with
    | [t], [d] => pClear P look t d
    | _, _ => .fail
  | .cap => match ts, vs with
    | [t], [x] => lift (pCap P look t x)
    | _, _ => .fail
  | _ => .fail

def prim (P : Program) (look : Nat → Option (SO C)) (n : Nat) (o : Op) (vs : List SV) : Tr (Res C) := match o with
  | .move _ | .assign _ => match vs with
    | [x] => .leaf (x, [])
    | _ => .fail
  | .pick _ _ _ => match vs with
    | [c, a, b] => lift (pPick c a b)
    | _ => .fail
  | .alloc t => pAlloc P n t
  | .box t _ => match vs with
    | [x] => pBox n t x
    | _ => .fail
  | .build t ps => lift (pBuild P t (ps.toList.map (·.1)) vs)
  | .buildSlice t len ps => pBuildSlice P n t len (ps.toList.map (·.1)) vs
  | .load t _ => match vs with
    | [a] => pLoadS P look n t a
    | _ => .fail
  | .store t _ _ => match vs with
    | [a, x] => pStore P look t a x
    | _ => .fail
  | .nilCheck _ => match vs with
    | [x] => lift (pNil look x)
    | _ => .fail
  | .binOp op t _ _ _ => match vs with
    | [x, y] => lift (pBin P look op t x y)
    | _ => .fail
  | .unOp op _ _ => match vs with
    | [x] => lift (pUn op x)
    | _ => .fail
  | .convert s t _ => match vs with
    | [x] => lift (pConvM P look s t x)
    | _ => .fail
  | .sliceToArrayPointer t _ => match vs with
    | [x] => lift (pArrAt P look t x)
    | _ => .fail
  | .makeFunc fn first _ => match fn, first.size with
    | .func f, 0 => .leaf (.fn f vs, [])
    | _, _ => .fail
  | .makeSlice t _ _ => match vs with
    | [l, c] => pMakeSlice P n t l c
    | _ => .fail
  | .slice t _ lo hi mx => match vs with
    | x :: bs => pSlice P look n t lo.isSome hi.isSome mx.isSome x bs
    | [] => .fail
  | .fieldAddr t _ f => match vs with
    | [x] => lift (pFieldAddr P look t x f)
    | _ => .fail
  | .field t _ f => match vs with
    | [x] => lift (pField P t x f)
    | _ => .fail
  | .indexAddr t _ _ => match vs with
    | [x, i] => lift (pIndexAddr P look t x i)
    | _ => .fail
  | .index t _ _ => match vs with
    | [x, i] => lift (pIndex P t x i)
    | _ => .fail
  | .extract _ i => match vs with
    | [x] => lift (pExtract x i)
    | _ => .fail
  | .makeMap t rs => match rs with
    | none => pMake P n t
    | some _ => .fail
  | .lookup t _ _ ok => match vs with
    | [x, i] => pLook P look t x i ok
    | _ => .fail
  | .mapUpdate t _ _ _ => match vs with
    | [x, i, v] => pUpdate P look t x i v
    | _ => .fail
  | .insert t _ _ _ => match vs with
    | [x, i, v] => pUpdate P look t x i v
    | _ => .fail
  | .call c => match c.callee with
    | .builtin b => pBuiltin P look n b c.argTypes.toList vs
    | _ => .fail
  | _ => .fail

section sound
variable {B : World} {X : Own} {ρ : Asg} {hp : Hp C} {n : Nat} {w : World} {a : Act} {tm : Tm}

/-- An operation's answer. -/
def OpOk (P : Program) (B : World) (X : Own) (ρ : Asg) (hp : Hp C) (n : Nat) (w : World) (s : Sem Next) (r : Res C) : Prop :=
  ∃ nx v w' ρ', s.run P w = .ok nx w' ∧ (nx = .value v ∨ (nx = .skip ∧ v = undef)) ∧ ρ.le ρ' ∧ den ρ' r.1 = some v ∧ Rel B X ρ' (r.2 ++ hp) (n + 4) w'

theorem OpOk.ofPure (R : Rel B X ρ hp n w) {s : Sem Value} {r : Res C} (h : PureOk P ρ w s r.1) (hr : r.2 = []) : OpOk P B X ρ hp n w (do pure (.value (← s))) r := by
  obtain ⟨u, h1, h2⟩ := h
  exact ⟨.value u, u, w, ρ, by simp [h1], .inl rfl, Asg.le_refl _, h2, by rw [hr]; exact Rel.shift R (by omega)⟩

theorem OpOk.ofNew {s : Sem Value} {r : Res C} (h : NewOk P B X ρ hp n w s r) : OpOk P B X ρ hp n w (do pure (.value (← s))) r := by
  obtain ⟨v, w', ρ', h1, h2, h3, h4⟩ := h
  exact ⟨.value v, v, w', ρ', by simp [h1], .inl rfl, h2, h3, h4⟩

theorem pNil_sound (R : Rel B X ρ hp n w) {x r : SV} {v : Value} (h : (pNil (fun i => find i hp) x).get = some r) (hx : den ρ x = some v) : r = x ∧ ((∃ b, v = .pointer (some b)) ∨ ∃ f c, v = .func (.func f) #[] c) := by
  unfold pNil at h
  split at h
  · split at h
    · rename_i hid
      simp only [Tr.get, Option.some.injEq] at h; subst h
      obtain ⟨v', hv', g, vs, rfl, _⟩ := R.obj _ _ hid
      simp only [den] at hx; rw [hx] at hv'; cases hv'
      exact ⟨rfl, .inl ⟨_, rfl⟩⟩
    · simp [Tr.get] at h
  · simp only [Tr.get, Option.some.injEq] at h; subst h
    simp only [den, Option.bind_eq_some_iff, Option.map_eq_some_iff] at hx
    obtain ⟨_, _, b, _, rfl⟩ := hx
    exact ⟨rfl, .inl ⟨_, rfl⟩⟩
  · simp only [Tr.get, Option.some.injEq] at h; subst h
    simp only [den, Option.bind_eq_some_iff, Option.map_eq_some_iff] at hx
    obtain ⟨_, _, b, _, rfl⟩ := hx
    exact ⟨rfl, .inl ⟨_, rfl⟩⟩
  · simp only [Tr.get, Option.some.injEq] at h; subst h
    simp only [den, Option.map_eq_some_iff] at hx
    obtain ⟨_, _, rfl⟩ := hx
    exact ⟨rfl, .inr ⟨_, _, rfl⟩⟩
  · split at h
    · rename_i ha
      simp only [Tr.get, Option.some.injEq] at h; subst h
      simp [den] at hx; subst hx
      simp at ha
      subst ha
      exact ⟨rfl, .inr ⟨_, _, rfl⟩⟩
    · simp [Tr.get] at h
  · simp [Tr.get] at h

theorem slice_bnds {ρ : Asg} {f : Operand → Value} {l h m : Option Operand} {bs : List SV} (hd : denL ρ bs = some ((l.toList ++ h.toList ++ m.toList).map f)) :
    ∀ a b c, bnds l.isSome h.isSome m.isSome bs = some (a, b, c) → bndV ρ a (l.map f) ∧ bndV ρ b (h.map f) ∧ bndV ρ c (m.map f) := by
  intro a b c hb
  cases l <;> cases h <;> cases m <;> simp only [Option.isSome_none, Option.isSome_some, Option.toList_none, Option.toList_some, List.nil_append, List.append_nil, List.cons_append, List.map_cons, List.map_nil] at hb hd
  all_goals
    rcases bs with _ | ⟨x, _ | ⟨y, _ | ⟨z, _ | ⟨q, bs⟩⟩⟩⟩ <;> simp only [bnds] at hb <;> first
      | (cases hb; done)
      | skip
  all_goals
    simp only [Option.some.injEq, Prod.mk.injEq] at hb
    obtain ⟨rfl, rfl, rfl⟩ := hb
    simp only [denL_cons, denL_nil] at hd
    first
      | exact ⟨trivial, trivial, trivial⟩
      | (obtain ⟨_, _, h1, rfl, e⟩ := hd; cases e; exact ⟨h1, trivial, trivial⟩)
      | (obtain ⟨_, _, h1, rfl, e⟩ := hd; cases e; exact ⟨trivial, h1, trivial⟩)
      | (obtain ⟨_, _, h1, ⟨_, _, h2, rfl, rfl⟩, e⟩ := hd; cases e; exact ⟨h1, h2, trivial⟩)
      | (obtain ⟨_, _, h1, ⟨_, _, h2, rfl, rfl⟩, e⟩ := hd; cases e; exact ⟨trivial, h1, h2⟩)
      | (obtain ⟨_, _, h1, ⟨_, _, h2, ⟨_, _, h3, rfl, rfl⟩, rfl⟩, e⟩ := hd; cases e; exact ⟨h1, h2, h3⟩)

theorem one_of {vs : List SV} {x : SV} {o : Operand} (hd : denL ρ vs = some ([o].map a.eval)) (e : vs = [x]) : den ρ x = some (a.eval o) := by
  subst e
  obtain ⟨_, _, h1, h2, h3⟩ := denL_cons.1 hd
  simp only [List.map_cons, List.map_nil, List.cons.injEq] at h3
  rw [h3.1]; exact h1
theorem two_of {vs : List SV} {x y : SV} {o p : Operand} (hd : denL ρ vs = some ([o, p].map a.eval)) (e : vs = [x, y]) : den ρ x = some (a.eval o) ∧ den ρ y = some (a.eval p) := by
  subst e
  obtain ⟨_, _, h1, h2, h3⟩ := denL_cons.1 hd
  obtain ⟨_, _, h4, h5, h6⟩ := denL_cons.1 h2
  subst h6
  simp only [List.map_cons, List.map_nil, List.cons.injEq] at h3
  rw [h3.1, h3.2.1]; exact ⟨h1, h4⟩
theorem three_of {vs : List SV} {x y z : SV} {o p q : Operand} (hd : denL ρ vs = some ([o, p, q].map a.eval)) (e : vs = [x, y, z]) : den ρ x = some (a.eval o) ∧ den ρ y = some (a.eval p) ∧ den ρ z = some (a.eval q) := by
  subst e
  obtain ⟨_, _, h1, h2, h3⟩ := denL_cons.1 hd
  obtain ⟨_, _, h4, h5, h6⟩ := denL_cons.1 h2
  obtain ⟨_, _, h7, h8, h9⟩ := denL_cons.1 h5
  subst h9; subst h6
  simp only [List.map_cons, List.map_nil, List.cons.injEq] at h3
  rw [h3.1, h3.2.1, h3.2.2.1]; exact ⟨h1, h4, h7⟩

theorem pBuiltin_sound (R : Rel B X ρ hp n w) {b : Builtin} {c : Call} {vs : List SV} {r : Res C} (hc : c.callee = .builtin b) (h : (pBuiltin P (fun i => find i hp) n b c.argTypes.toList vs).get = some r) (hd : denL ρ vs = some (c.args.toList.map a.eval)) (ty : TypeId) :
    OpOk P B X ρ hp n w (do let d ← resolve a.eval c ty; invoke d.target d.args) r := by
  have hargs : ∀ {l : List Value}, denL ρ vs = some l → c.args.map a.eval = l.toArray := fun {l} h => by
    rw [hd] at h; cases h
    apply Array.ext'; simp
  have hts : ∀ {l : List TypeId}, c.argTypes.toList = l → c.argTypes = l.toArray := fun h => by subst h; simp
  have fin : ∀ {s : Sem Value}, OpOk P B X ρ hp n w (do pure (.value (← s))) r → builtin b c.argTypes ty (c.args.map fun | .const _ => true | _ => false) (c.args.map a.eval) = (do pure (.value (← s))) → OpOk P B X ρ hp n w (do let d ← resolve a.eval c ty; invoke d.target d.args) r := fun {s} ho he => by
    have : (do let d ← resolve a.eval c ty; invoke d.target d.args : Sem Next) = (do pure (.value (← s))) := by
      rw [← he]
      simp only [resolve, hc, pure_bind, invoke]
      rfl
    rw [this]; exact ho
  unfold pBuiltin at h
  split at h
  · split at h
    · rename_i t x hts'
      obtain ⟨h1, h2⟩ := lift_get h
      obtain ⟨vx, l, hx, hl, e⟩ := denL_cons.1 hd
      rw [denL_nil.1 hl] at e
      refine fin (OpOk.ofPure R (pLen_sound R (ty := ty) h1 hx) h2) ?_
      rw [hts hts', hargs (denL_one hx)]; rfl
    · simp [Tr.get] at h
  · split at h
    · rename_i x y
      obtain ⟨h1, h2⟩ := lift_get h
      obtain ⟨vx, l, hx, hl, e⟩ := denL_cons.1 hd
      obtain ⟨vy, l', hy, hl', e'⟩ := denL_cons.1 hl
      rw [denL_nil.1 hl'] at e'; subst e'
      refine fin (OpOk.ofPure R (pMin_sound h1 hx hy c.argTypes ty) h2) ?_
      rw [hargs (denL_cons.2 ⟨vx, _, hx, hl, rfl⟩)]; rfl
    · simp [Tr.get] at h
  · split at h
    · rename_i x y
      obtain ⟨h1, h2⟩ := lift_get h
      obtain ⟨vx, l, hx, hl, e⟩ := denL_cons.1 hd
      obtain ⟨vy, l', hy, hl', e'⟩ := denL_cons.1 hl
      rw [denL_nil.1 hl'] at e'; subst e'
      refine fin (OpOk.ofPure R (pMax_sound h1 hx hy c.argTypes ty) h2) ?_
      rw [hargs (denL_cons.2 ⟨vx, _, hx, hl, rfl⟩)]; rfl
    · simp [Tr.get] at h
  · split at h
    · rename_i t t' s x hts'
      obtain ⟨vx, l, hx, hl, e⟩ := denL_cons.1 hd
      obtain ⟨vy, l', hy, hl', e'⟩ := denL_cons.1 hl
      rw [denL_nil.1 hl'] at e'; subst e'
      refine fin (OpOk.ofNew (pAppend_sound R (ty := ty) h hx hy)) ?_
      rw [hts hts', hargs (denL_cons.2 ⟨vx, _, hx, hl, rfl⟩)]; rfl
    · simp [Tr.get] at h
  · split at h
    · rename_i t t' s x hts'
      obtain ⟨vx, l, hx, hl, e⟩ := denL_cons.1 hd
      obtain ⟨vy, l', hy, hl', e'⟩ := denL_cons.1 hl
      rw [denL_nil.1 hl'] at e'; subst e'
      refine fin (OpOk.ofNew (pCopy_sound R (t' := t') (ty := ty) h hx hy)) ?_
      rw [hts hts', hargs (denL_cons.2 ⟨vx, _, hx, hl, rfl⟩)]; rfl
    · simp [Tr.get] at h
  · split at h
    · rename_i t x hts'
      obtain ⟨vx, l, hx, hl, e⟩ := denL_cons.1 hd
      rw [denL_nil.1 hl] at e
      refine fin (OpOk.ofNew (pClear_sound R (ty := ty) h hx)) ?_
      rw [hts hts', hargs (denL_one hx)]; rfl
    · simp [Tr.get] at h
  · split at h
    · rename_i t x hts'
      obtain ⟨h1, h2⟩ := lift_get h
      obtain ⟨vx, l, hx, hl, e⟩ := denL_cons.1 hd
      rw [denL_nil.1 hl] at e
      refine fin (OpOk.ofPure R (pCap_sound R (ty := ty) h1 hx) h2) ?_
      rw [hts hts', hargs (denL_one hx)]; rfl
    · simp [Tr.get] at h
  · simp [Tr.get] at h

theorem prim_sound (R : Rel B X ρ hp n w) (T : TmOk ρ tm a) {o : Oper} {vs : List SV} {r : Res C} (hv : evTs tm (argsOf o.op) = some vs) (h : (prim P (fun i => find i hp) n o.op vs).get = some r) :
    OpOk P B X ρ hp n w (execOp a.eval o) r := by
  have hd := evTs_spec T hv
  have tac : ∀ {x : SV} {v : Value}, den ρ x = some v → r = (x, []) → ∀ s : Sem Next, s = pure (.value v) → OpOk P B X ρ hp n w s r := fun {x v} hx hr s hs => by
    subst hr; subst hs
    exact ⟨.value v, v, w, ρ, rfl, .inl rfl, Asg.le_refl _, hx, Rel.shift R (by omega)⟩
  unfold prim at h
  unfold execOp
  split at h <;> rename_i ho <;> simp only [ho, argsOf] at hd ⊢
  -- move, assign
  iterate 2
    · split at h
      · rename_i x
        simp only [Tr.get, Option.some.injEq] at h; subst h
        exact tac (one_of hd rfl) rfl _ rfl
      · simp [Tr.get] at h
  -- pick
  · split at h
    · rename_i c x y
      obtain ⟨h1, h2⟩ := lift_get h
      obtain ⟨d1, d2, d3⟩ := three_of hd rfl
      obtain ⟨q, e1, e2⟩ := pPick_sound h1 d1 d2 d3
      refine ⟨_, _, w, ρ, ?_, .inl rfl, Asg.le_refl _, e2, by rw [h2]; exact Rel.shift R (by omega)⟩
      simp [e1, asBool]
    · simp [Tr.get] at h
  -- alloc
  · exact OpOk.ofNew (pAlloc_sound R h)
  -- box
  · split at h
    · exact OpOk.ofNew (pBox_sound R h (one_of hd rfl))
    · simp [Tr.get] at h
  -- build
  · rename_i t ps
    obtain ⟨h1, h2⟩ := lift_get h
    refine OpOk.ofPure R ?_ h2
    have := pBuild_sound R (pv := ps.toList.map fun (x : Nat × Operand) => (x.1, a.eval x.2)) h1 (by simp) (by rw [hd]; simp)
    have e : (ps.map fun (x : Nat × Operand) => (x.1, a.eval x.2)) = (ps.toList.map fun (x : Nat × Operand) => (x.1, a.eval x.2)).toArray := by
      apply Array.ext'; simp
    rw [← e] at this
    exact this
  -- buildSlice
  · rename_i t len ps
    refine OpOk.ofNew ?_
    have := pBuildSlice_sound R (pv := ps.toList.map fun (x : Nat × Operand) => (x.1, a.eval x.2)) h (by simp) (by rw [hd]; simp)
    have e : (ps.map fun (x : Nat × Operand) => (x.1, a.eval x.2)) = (ps.toList.map fun (x : Nat × Operand) => (x.1, a.eval x.2)).toArray := by
      apply Array.ext'; simp
    rw [← e] at this
    exact this
  -- load
  · split at h
    · exact OpOk.ofNew (pLoadS_sound R h (one_of hd rfl))
    · simp [Tr.get] at h
  -- store
  · split at h
    · obtain ⟨d1, d2⟩ := two_of hd rfl
      obtain ⟨h1, w', h2, h3⟩ := pStore_sound R h d1 d2
      exact ⟨.skip, undef, w', ρ, by simp [h2], .inr ⟨rfl, rfl⟩, Asg.le_refl _, by rw [h1]; rfl, Rel.shift h3 (by omega)⟩
    · simp [Tr.get] at h
  -- nilCheck
  · split at h
    · rename_i x
      obtain ⟨h1, h2⟩ := lift_get h
      have hx := one_of hd rfl
      obtain ⟨e1, e2⟩ := pNil_sound R h1 hx
      refine ⟨.value _, _, w, ρ, ?_, .inl rfl, Asg.le_refl _, by rw [e1]; exact hx, by rw [h2]; exact Rel.shift R (by omega)⟩
      rcases e2 with ⟨b, e⟩ | ⟨f, c, e⟩ <;> rw [e] <;> rfl
    · simp [Tr.get] at h
  -- binOp
  · split at h
    · obtain ⟨h1, h2⟩ := lift_get h
      obtain ⟨d1, d2⟩ := two_of hd rfl
      exact OpOk.ofPure R (pBin_sound R _ _ h1 d1 d2) h2
    · simp [Tr.get] at h
  -- unOp
  · split at h
    · obtain ⟨h1, h2⟩ := lift_get h
      exact OpOk.ofPure R (pUn_sound h1 (one_of hd rfl)) h2
    · simp [Tr.get] at h
  -- convert
  · split at h
    · obtain ⟨h1, h2⟩ := lift_get h
      exact OpOk.ofPure R (pConvM_sound R h1 (one_of hd rfl)) h2
    · simp [Tr.get] at h
  -- sliceToArrayPointer
  · split at h
    · obtain ⟨h1, h2⟩ := lift_get h
      exact OpOk.ofPure R (pArrAt_sound R h1 (one_of hd rfl)) h2
    · simp [Tr.get] at h
  -- makeFunc
  · split at h
    · rename_i f hf
      simp only [Tr.get, Option.some.injEq] at h; subst h
      have he : ∀ first : Array Operand, first.size = 0 → first = #[] := fun first h => Array.eq_empty_of_size_eq_zero h
      refine ⟨.value _, _, w, ρ, rfl, .inl rfl, Asg.le_refl _, ?_, Rel.shift R (by omega)⟩
      rw [he _ hf]
      simp only [den, hd, Option.map_some]
      simp [← List.map_toArray]
    · simp [Tr.get] at h
  -- makeSlice
  · split at h
    · obtain ⟨d1, d2⟩ := two_of hd rfl
      exact OpOk.ofNew (pMakeSlice_sound R h d1 d2)
    · simp [Tr.get] at h
  -- slice
  · split at h
    · rename_i x bs
      obtain ⟨vx, l, hx, hl, e⟩ := denL_cons.1 hd
      simp only [List.map_cons, List.cons.injEq] at e
      obtain ⟨e1, e2⟩ := e
      rw [← e1] at hx; rw [← e2] at hl
      exact OpOk.ofNew (pSlice_sound R h hx (slice_bnds hl))
    · simp [Tr.get] at h
  -- fieldAddr
  · split at h
    · obtain ⟨h1, h2⟩ := lift_get h
      exact OpOk.ofPure R (pFieldAddr_sound R h1 (one_of hd rfl)) h2
    · simp [Tr.get] at h
  -- field
  · split at h
    · obtain ⟨h1, h2⟩ := lift_get h
      exact OpOk.ofPure R (pField_sound R h1 (one_of hd rfl)) h2
    · simp [Tr.get] at h
  -- indexAddr
  · split at h
    · obtain ⟨h1, h2⟩ := lift_get h
      obtain ⟨d1, d2⟩ := two_of hd rfl
      exact OpOk.ofPure R (pIndexAddr_sound R h1 d1 d2) h2
    · simp [Tr.get] at h
  -- index
  · split at h
    · obtain ⟨h1, h2⟩ := lift_get h
      obtain ⟨d1, d2⟩ := two_of hd rfl
      exact OpOk.ofPure R (pIndex_sound R h1 d1 d2) h2
    · simp [Tr.get] at h
  -- extract
  · split at h
    · obtain ⟨h1, h2⟩ := lift_get h
      exact OpOk.ofPure R (pExtract_sound h1 (one_of hd rfl)) h2
    · simp [Tr.get] at h
  -- makeMap
  · split at h
    · exact OpOk.ofNew (pMake_sound R h)
    · simp [Tr.get] at h
  -- lookup
  · split at h
    · obtain ⟨d1, d2⟩ := two_of hd rfl
      obtain ⟨⟨u, h1, h2⟩, h3⟩ := pLook_sound R h d1 d2
      exact OpOk.ofPure R ⟨u, h1, h2⟩ h3
    · simp [Tr.get] at h
  -- mapUpdate
  · split at h
    · obtain ⟨d1, d2, d3⟩ := three_of hd rfl
      obtain ⟨h1, w', h2, h3⟩ := pUpdate_sound R h d1 d2 d3
      exact ⟨.skip, undef, w', ρ, by simp [h2], .inr ⟨rfl, rfl⟩, Asg.le_refl _, by rw [h1]; rfl, Rel.shift h3 (by omega)⟩
    · simp [Tr.get] at h
  -- insert
  · split at h
    · obtain ⟨d1, d2, d3⟩ := three_of hd rfl
      obtain ⟨h1, w', h2, h3⟩ := pUpdate_sound R h d1 d2 d3
      exact ⟨.skip, undef, w', ρ, by simp [h2], .inr ⟨rfl, rfl⟩, Asg.le_refl _, by rw [h1]; rfl, Rel.shift h3 (by omega)⟩
    · simp [Tr.get] at h
  -- call
  · split at h
    · rename_i c b hc
      exact pBuiltin_sound R hc h hd _
    · simp [Tr.get] at h
  · simp [Tr.get] at h
end sound
end
end Go.Sx

/-
  The symbolic evaluator: regions, code, calls. Own work; nothing here is trusted.
-/
namespace Go.Sx
noncomputable section
open Go.RowKit

variable {C : Tab} {P : Program} {R : Type}

inductive Ex where
  | normal
  | exit (id : Nat)
  | ret
def exitOf : Ex → Exit
  | .normal => .normal
  | .exit i => .exit i
  | .ret => .ret

abbrev CallF (C : Tab) (R : Type) := Nat → List SV → Hp C → Nat → (SV → Hp C → Nat → R) → R
abbrev KC (C : Tab) (R : Type) := Ex → Tm → Hp C → Nat → R

/-! Values are laid bare before they are handed on; else they pile up. -/
def forceN (n : Nat) (k : Nat → R) : R := match n with
  | 0 => k 0
  | m + 1 => k (m + 1)
theorem forceN_eq (n : Nat) (k : Nat → R) : forceN n k = k n := by cases n <;> rfl
def forceW (v : Value) (k : Value → R) : R := match v with
  | .int d n => k (.int d n)
  | .bool b => k (.bool b)
  | .string b => k (.string b)
  | v => k v
theorem forceW_eq (v : Value) (k : Value → R) : forceW v k = k v := by cases v <;> rfl
def forceV1 (v : SV) (k : SV → R) : R := match v with
  | .raw v => forceW v fun v => k (.raw v)
  | .h i => forceN i fun i => k (.h i)
  | .vs i s b o l c => forceN i fun i => k (.vs i s b o l c)
  | .agg cs => k (.agg cs)
  | .tup cs => k (.tup cs)
  | v => k v
theorem forceV1_eq (v : SV) (k : SV → R) : forceV1 v k = k v := by cases v <;> simp only [forceV1, forceW_eq, forceN_eq]
def forceL1 (l : List SV) (k : List SV → R) : R :=
  List.rec (motive := fun _ => (List SV → R) → R) (fun k => k []) (fun v _ ih k => forceV1 v fun v => ih fun r => k (v :: r)) l k
theorem forceL1_eq : ∀ (l : List SV) (k : List SV → R), forceL1 l k = k l
  | [], k => rfl
  | v :: r, k => by
    show forceV1 v (fun v => forceL1 r fun r => k (v :: r)) = _
    rw [forceV1_eq v, forceL1_eq r]
def forceV (v : SV) (k : SV → R) : R := match v with
  | .raw v => forceW v fun v => k (.raw v)
  | .h i => forceN i fun i => k (.h i)
  | .vs i s b o l c => forceN i fun i => k (.vs i s b o l c)
  | .agg cs => forceL1 cs fun cs => k (.agg cs)
  | .tup cs => forceL1 cs fun cs => k (.tup cs)
  | v => k v
theorem forceV_eq (v : SV) (k : SV → R) : forceV v k = k v := by cases v <;> simp only [forceV, forceW_eq, forceN_eq, forceL1_eq]

def putT (A : Ans R) (N : Nat) (d : Option Tmp) (v : SV) (tm : Tm) (k : Tm → R) : R := match d with
  | none => k tm
  | some t => match Nat.blt t N with
    | true => forceV v fun v => k ((t, v) :: tm)
    | false => A.bad

def consAll (r hp : Hp C) (k : Hp C → R) : R :=
  List.rec (motive := fun _ => (Hp C → R) → R) (fun k => k hp) (fun x _ ih k => ih fun h => k (x :: h)) r k
theorem consAll_eq : ∀ (r hp : Hp C) (k : Hp C → R), consAll r hp k = k (r ++ hp)
  | [], _, _ => rfl
  | x :: r, hp, k => by
    show consAll r hp (fun h => k (x :: h)) = _
    rw [consAll_eq r]; rfl

def calOf : SV → Option (Nat × List SV)
  | .fn g cap => some (g, cap)
  | .raw (.func (.func g) a c) => match a.toList, c.toList with
    | [], [] => some (g, [])
    | _, _ => none
  | _ => none
theorem calOf_spec {ρ : Asg} {x : SV} {g : Nat} {cap : List SV} {v : Value} (h : calOf x = some (g, cap)) (hd : den ρ x = some v) : ∃ cv, denL ρ cap = some cv ∧ v = .func (.func g) #[] cv.toArray := by
  unfold calOf at h
  split at h
  · cases h
    simp only [den, Option.map_eq_some_iff] at hd
    obtain ⟨cv, h1, h2⟩ := hd
    exact ⟨cv, h1, h2.symm⟩
  · rename_i g' a c
    split at h
    · rename_i ha hc
      cases h
      simp only [den, Option.some.injEq] at hd; subst hd
      refine ⟨[], rfl, ?_⟩
      cases a; cases c
      simp only at ha hc
      rw [ha, hc]
    · cases h
  · cases h
def calleeOf (tm : Tm) : Op → Option (Nat × List SV)
  | .call c => match c.callee with
    | .value f => match evT tm f with
      | some x => calOf x
      | none => none
    | _ => none
  | _ => none

/-- A function without a body that tells whether slices overlap. -/
def ovF (P : Program) (g : Nat) : Option TypeId := match P.funcs[g]? with
  | some fn => match fn.body with
    | some _ => none
    | none => match decide (fn.origin = "slices.overlaps") with
      | true => fn.params[0]?
      | false => none
  | none => none
def stepO (A : Ans R) (P : Program) (call : CallF C R) (o : Op) (tm : Tm) (hp : Hp C) (n : Nat) (k : SV → Hp C → Nat → R) : R :=
  match evTs tm (argsOf o) with
  | none => A.bad
  | some vs => match calleeOf tm o with
    | some (g, cap) => match ovF P g with
      | some t => match vs, cap with
        | [x, y], [] => (pOverlaps P (fun i => find i hp) t x y).run A fun r => consAll r.2 hp fun hp' => forceN (n + 4) fun n' => k r.1 hp' n'
        | _, _ => A.bad
      | none => call g (vs ++ cap) hp n k
    | none => (prim P (fun i => find i hp) n o vs).run A fun r => consAll r.2 hp fun hp' => forceN (n + 4) fun n' => k r.1 hp' n'

def gdst (all : List Oper) (j : Nat) : Option Tmp := match all[j]? with
  | some g => g.dst
  | none => none

def regionC (A : Ans R) (P : Program) (call : CallF C R) (N : Nat) (all : List Oper) (o : Oper) (ih : Tm → Hp C → Nat → R) (tm : Tm) (hp : Hp C) (n : Nat) : R :=
  match o.guard with
    | none => stepO A P call o.op tm hp n fun v hp n => putT A N o.dst v tm fun tm => ih tm hp n
    | some (j, want) => match gdst all j with
      | some t => match find t tm with
        | some (.raw (.bool b)) => A.br b
          (match want with
            | true => stepO A P call o.op ((t, .raw (.bool true)) :: tm) hp n fun v hp n => putT A N o.dst v ((t, .raw (.bool true)) :: tm) fun tm => ih tm hp n
            | false => putT A N o.dst (.raw undef) ((t, .raw (.bool true)) :: tm) fun tm => ih tm hp n)
          (match want with
            | false => stepO A P call o.op ((t, .raw (.bool false)) :: tm) hp n fun v hp n => putT A N o.dst v ((t, .raw (.bool false)) :: tm) fun tm => ih tm hp n
            | true => putT A N o.dst (.raw undef) ((t, .raw (.bool false)) :: tm) fun tm => ih tm hp n)
        | some (.raw _) => putT A N o.dst (.raw undef) tm fun tm => ih tm hp n
        | _ => A.bad
      | none => A.bad
def regionS (A : Ans R) (P : Program) (call : CallF C R) (N : Nat) (all : List Oper) (l : List Oper) (tm : Tm) (hp : Hp C) (n : Nat) (k : Tm → Hp C → Nat → R) : R :=
  List.rec (motive := fun _ => Tm → Hp C → Nat → R) k (fun o _ ih => regionC A P call N all o ih) l tm hp n
theorem regionS_cons (A : Ans R) (P : Program) (call : CallF C R) (N : Nat) (all : List Oper) (o : Oper) (r : List Oper) (tm : Tm) (hp : Hp C) (n : Nat) (k : Tm → Hp C → Nat → R) :
    regionS A P call N all (o :: r) tm hp n k = regionC A P call N all o (fun tm hp n => regionS A P call N all r tm hp n k) tm hp n := rfl

/-- Numbers and entries are only added. -/
def Grow (n : Nat) (hp : Hp C) (n' : Nat) (hp' : Hp C) : Prop := n ≤ n' ∧ hp <:+ hp'
theorem Grow.refl (n : Nat) (hp : Hp C) : Grow n hp n hp := ⟨Nat.le_refl _, List.suffix_refl _⟩
theorem Grow.trans {n n' n'' : Nat} {hp hp' hp'' : Hp C} (h : Grow n hp n' hp') (g : Grow n' hp' n'' hp'') : Grow n hp n'' hp'' := ⟨Nat.le_trans h.1 g.1, h.2.trans g.2⟩

def CallPost (B : World) (X : Own) (ρ : Asg) (hp : Hp C) (n : Nat) (k : SV → Hp C → Nat → Prop) (e : Ending) (w : World) : Prop :=
  ∃ ρ' v sv hp' n', e = .returned v ∧ ρ.le ρ' ∧ Grow n hp n' hp' ∧ den ρ' sv = some v ∧ Rel B X ρ' hp' n' w ∧ k sv hp' n'

def CallOk (P : Program) (I : R → Prop) (call : CallF C R) : Prop :=
  ∀ g vs hp n k B X ρ w args, I (call g vs hp n k) → Rel B X ρ hp n w → denL ρ vs = some args →
    (∃ fn, P.funcs[g]? = some fn ∧ fn.body.isSome = true) ∧ Calls P g args.toArray w (CallPost B X ρ hp n fun sv hp n => I (k sv hp n))

/-- No function of the program bears the name of the one that is not entered. -/
structure Plain (P : Program) : Prop where
  nm : ∀ (g : Nat) (fn : Func), P.funcs[g]? = some fn → (fn.name == "runtime.NumGoroutine") = false
  ov : ∀ (g : Nat) (fn : Func), P.funcs[g]? = some fn → fn.body = none → fn.origin = "slices.overlaps" → Extern.findNext fn = none ∧ Extern.find fn = some (Extern.SlicesOverlaps.overlaps fn.params fn.resultTypes)

section sound
variable {B : World} {X : Own} {ρ : Asg} {hp : Hp C} {n : Nat} {w : World} {a : Act} {tm : Tm} {call : CallF C R} {A : Ans R} {I : R → Prop}

theorem TmOk.put (T : TmOk ρ tm a) {t : Tmp} {sv : SV} {v : Value} (hd : den ρ sv = some v) (ht : t < a.tmps.size) : TmOk ρ ((t, sv) :: tm) (a.put (some t) v) := fun u sw hu => by
  rw [find_cons] at hu
  simp only [Act.put, Array.getElem?_setIfInBounds]
  split at hu
  · rename_i e; subst e
    cases hu
    exact ⟨v, hd, by simp [ht]⟩
  · rename_i e
    obtain ⟨v', h1, h2⟩ := T u sw hu
    exact ⟨v', h1, by rw [if_neg (Ne.symm e)]; exact h2⟩

theorem TmOk.lit (T : TmOk ρ tm a) {t : Tmp} {b : Bool} {c : Bool} (ht : find t tm = some (.raw (.bool b))) (e : b = c) : TmOk ρ ((t, .raw (.bool c)) :: tm) a := fun u sw hu => by
  rw [find_cons] at hu
  split at hu
  · rename_i e'; subst e'; subst e
    cases hu
    obtain ⟨v, h1, h2⟩ := T _ _ ht
    exact ⟨v, h1, h2⟩
  · exact T u sw hu

theorem putT_sound (T : TmOk ρ tm a) {N : Nat} (hN : a.tmps.size = N) {d : Option Tmp} {sv : SV} {v : Value} {k : Tm → R} (no : AnsOk A I) (h : I (putT A N d sv tm k)) (hd : den ρ sv = some v) :
    ∃ tm', I (k tm') ∧ TmOk ρ tm' (a.put d v) := by
  cases d with
  | none => exact ⟨tm, h, T⟩
  | some t =>
    simp only [putT] at h
    cases hb : Nat.blt t N with
    | true =>
      rw [hb] at h
      simp only [forceV_eq] at h
      have hlt : t < N := Nat.le_of_ble_eq_true hb
      exact ⟨_, h, T.put hd (by rw [hN]; exact hlt)⟩
    | false => rw [hb] at h; exact (no.no h).elim

theorem put_size (a : Act) (d : Option Tmp) (v : Value) : (a.put d v).tmps.size = a.tmps.size := by
  cases d <;> simp [Act.put]
theorem put_defers (a : Act) (d : Option Tmp) (v : Value) : (a.put d v).defers = a.defers := by
  cases d <;> rfl

theorem stepO_sound (hp0 : Plain P) (no : AnsOk A I) (hc : CallOk P I call) (RR : Rel B X ρ hp n w) (T : TmOk ρ tm a) {o : Oper} {k : SV → Hp C → Nat → R} (h : I (stepO A P call o.op tm hp n k))
    {next : Act → World → Prop} {Q : Exit → Act → World → Prop}
    (hk : ∀ ρ' v sv hp' n' w', ρ.le ρ' → Grow n hp n' hp' → den ρ' sv = some v → Rel B X ρ' hp' n' w' → I (k sv hp' n') → next (a.put o.dst v) w') : o.wp P a w next Q := by
  unfold stepO at h
  split at h
  · exact (no.no h).elim
  · rename_i vs hvs
    have hd := evTs_spec T hvs
    split at h
    · rename_i g cap hcal
      unfold calleeOf at hcal
      split at hcal
      · rename_i c ho
        split at hcal
        · rename_i f hf
          split at hcal
          · rename_i x hfv
            obtain ⟨cv, hcv, hfe⟩ := calOf_spec hcal (evT_spec T hfv)
            have hfe := hfe.symm
            rw [ho] at hd
            simp only [argsOf] at hd
            have hargs := denL_append hd hcv
            split at h
            · rename_i t hov
              split at h
              · rename_i x1 y1
                obtain ⟨fn, hfn, hbody, horg, hpar⟩ : ∃ fn, P.funcs[g]? = some fn ∧ fn.body = none ∧ fn.origin = "slices.overlaps" ∧ fn.params[0]? = some t := by
                  unfold ovF at hov
                  split at hov
                  · rename_i fn hfn
                    split at hov
                    · cases hov
                    · rename_i hb
                      split at hov
                      · rename_i hd; exact ⟨fn, hfn, hb, of_decide_eq_true hd, hov⟩
                      · cases hov
                  · cases hov
                obtain ⟨x1', l1, hx1, hl1, e1⟩ := denL_cons.1 hd
                obtain ⟨y1', l2, hy1, hl2, e2⟩ := denL_cons.1 hl1
                rw [denL_nil.1 hl2] at e2; subst e2
                rw [denL_nil.1 hcv] at hfe
                obtain ⟨f1, f2⟩ := hp0.ov g fn hfn hbody horg
                obtain ⟨r, h1, h2⟩ := Tr.run_get no h
                rw [consAll_eq] at h2
                rw [forceN_eq] at h2
                obtain ⟨v, w', ρ', q1, q2, q3, q4⟩ := pOverlaps_sound (P := P) (tR := fn.resultTypes) RR hpar h1 hx1 hy1
                have hargs1 : c.args.map a.eval = #[x1', y1'] := by
                  apply Array.ext'; simpa using e1
                have hrun : (execOp a.eval o).run P w = .ok (.value v) w' := by
                  simp only [execOp, ho, resolve, hf, ← hfe, Deferred.ofValue, Array.empty_append, pure_bind, invoke]
                  have hx := run_callFunc_extern (P := P) (f := g) (fn := fn) hfn (hp0.nm g fn hfn) (by rw [hbody]; rfl) f1 f2 #[x1', y1'] w
                  rw [q1, Result.andThen_ok] at hx
                  simpa [hargs1] using hx
                unfold Oper.wp
                rw [hrun]
                exact hk ρ' v r.1 _ _ w' q2 ⟨by omega, _, rfl⟩ q3 q4 h2
              · exact (no.no h).elim
            obtain ⟨⟨fn, hfn, hbody⟩, hcalls⟩ := hc g _ hp n k B X ρ w _ h RR hargs
            have hb : fn.body.isNone = false := by cases hb : fn.body <;> simp_all
            have hrun : (execOp a.eval o).run P w = .ok (.enter g (c.args.toList.map a.eval ++ cv).toArray) w := by
              have e1 : (c.args.map a.eval ++ cv.toArray) = (c.args.toList.map a.eval ++ cv).toArray := by
                apply Array.ext'; simp
              simp only [execOp, ho, resolve, hf, ← hfe, Deferred.ofValue, Array.empty_append, pure_bind, invoke, callFunc, Sem.run_bind, run_program, Result.andThen_ok, hfn, hp0.nm g fn hfn, Bool.false_eq_true, if_false, hb, Sem.run_pure, e1]
            unfold Oper.wp
            rw [hrun, Oper.upon_enter]
            refine hcalls.mono ?_
            rintro e w' ⟨ρ', v, sv, hp', n', rfl, h1, h2, h3, h4, h5⟩
            exact hk ρ' v sv hp' n' w' h1 h2 h3 h4 h5
          · cases hcal
        · cases hcal
      · cases hcal
    · obtain ⟨r, h1, h2⟩ := Tr.run_get no h
      rw [consAll_eq] at h2
      rw [forceN_eq] at h2
      obtain ⟨nx, v, w', ρ', e1, e2, e3, e4, e5⟩ := prim_sound RR T hvs h1
      unfold Oper.wp
      rw [e1]
      rcases e2 with rfl | ⟨rfl, rfl⟩
      · exact hk ρ' v r.1 _ _ w' e3 ⟨by omega, _, rfl⟩ e4 e5 h2
      · exact hk ρ' undef r.1 _ _ w' e3 ⟨by omega, _, rfl⟩ e4 e5 h2

theorem yielded_of {all : List Oper} {j : Nat} {t : Tmp} {b : Bool} (T : TmOk ρ tm a) (hg : gdst all j = some t) (ht : find t tm = some (.raw (.bool b))) : yielded all.toArray a.tmps j = some b := by
  obtain ⟨v, h1, h2⟩ := T _ _ ht
  simp [den] at h1; subst h1
  unfold gdst at hg
  split at hg
  · rename_i g hj
    simp [yielded, hj, hg, h2]
  · cases hg

theorem yielded_no {all : List Oper} {j : Nat} {t : Tmp} {u : Value} (T : TmOk ρ tm a) (hg : gdst all j = some t) (ht : find t tm = some (.raw u)) (hu : ∀ b, u ≠ .bool b) : yielded all.toArray a.tmps j = none := by
  obtain ⟨v, h1, h2⟩ := T _ _ ht
  simp [den] at h1; subst h1
  unfold gdst at hg
  split at hg
  · rename_i g hj
    cases u <;> first | (exact absurd rfl (hu _)) | simp [yielded, hj, hg, h2]
  · cases hg

theorem regionS_sound (hp0 : Plain P) (no : AnsOk A I) (hc : CallOk P I call) {N : Nat} {all : List Oper} {Q : Exit → Act → World → Prop} : ∀ (l : List Oper) {tm : Tm} {hp : Hp C} {n : Nat} {k : Tm → Hp C → Nat → R} {ρ : Asg} {a : Act} {w : World},
    I (regionS A P call N all l tm hp n k) → a.tmps.size = N → Rel B X ρ hp n w → TmOk ρ tm a →
    (∀ ρ' tm' hp' n' a' w', ρ.le ρ' → Grow n hp n' hp' → a'.tmps.size = N → a'.defers = a.defers → Rel B X ρ' hp' n' w' → TmOk ρ' tm' a' → I (k tm' hp' n') → Q .normal a' w') → wpList P all.toArray Q l a w
  | [], tm, hp, n, k, ρ, a, w, h, hN, RR, T, hk => hk ρ tm hp n a w (Asg.le_refl _) (Grow.refl _ _) hN rfl RR T h
  | o :: r, tm, hp, n, k, ρ, a, w, h, hN, RR, T, hk => by
    have go : ∀ {tm : Tm}, TmOk ρ tm a → I (stepO A P call o.op tm hp n fun v hp n => putT A N o.dst v tm fun tm => regionS A P call N all r tm hp n k) → o.wp P a w (wpList P all.toArray Q r) Q := fun {tm} T h =>
      stepO_sound hp0 no hc RR T h fun ρ' v sv hp' n' w' h1 h2 h3 h4 h5 => by
        obtain ⟨tm', h6, h7⟩ := putT_sound (T.mono h1) hN no h5 h3
        exact regionS_sound hp0 no hc r h6 (by rw [put_size]; exact hN) h4 h7 fun ρ'' tm'' hp'' n'' a'' w'' g1 g2 g3 g4 g5 g6 g7 => hk ρ'' tm'' hp'' n'' a'' w'' (Asg.le_trans h1 g1) (h2.trans g2) g3 (by rw [g4, put_defers]) g5 g6 g7
    have skip : ∀ {tm : Tm}, TmOk ρ tm a → I (putT A N o.dst (.raw undef) tm fun tm => regionS A P call N all r tm hp n k) → wpList P all.toArray Q r (a.put o.dst undef) w := fun {tm} T h => by
      obtain ⟨tm', h6, h7⟩ := putT_sound (v := undef) T hN no h rfl
      exact regionS_sound hp0 no hc r h6 (by rw [put_size]; exact hN) RR h7 fun ρ'' tm'' hp'' n'' a'' w'' g1 g2 g3 g4 g5 g6 g7 => hk ρ'' tm'' hp'' n'' a'' w'' g1 g2 g3 (by rw [g4, put_defers]) g5 g6 g7
    rw [regionS_cons] at h
    unfold regionC at h
    unfold wpList
    split at h
    · rename_i hg
      rw [if_pos (by simp [Region.wanted, hg])]
      exact .inl (go T h)
    · rename_i j want hg
      split at h
      · rename_i t ht
        split at h
        · rename_i b hb
          have hy := yielded_of T ht hb
          have h := no.br _ _ _ h
          cases b with
          | false =>
            have h := h.2 rfl
            have T' := T.lit hb rfl
            cases want with
            | false => rw [if_pos (by simp [Region.wanted, hg, hy])]; exact .inl (go T' h)
            | true => rw [if_neg (by simp [Region.wanted, hg, hy])]; exact skip T' h
          | true =>
            have h := h.1 rfl
            have T' := T.lit hb rfl
            cases want with
            | true => rw [if_pos (by simp [Region.wanted, hg, hy])]; exact .inl (go T' h)
            | false => rw [if_neg (by simp [Region.wanted, hg, hy])]; exact skip T' h
        · rename_i u hnb hb
          have hy := yielded_no T ht hb fun b e => by subst e; exact hnb b rfl
          rw [if_neg (by simp [Region.wanted, hg, hy])]; exact skip T h
        · exact (no.no h).elim
      · exact (no.no h).elim
end sound
end
end Go.Sx

/-
  The symbolic evaluator: code with branches and loops. Own work; nothing here is trusted.
-/
namespace Go.Sx
noncomputable section
open Go.RowKit

variable {C : Tab} {P : Program} {R : Type}

structure PostC (B : World) (X : Own) (ρ : Asg) (hp : Hp C) (n N : Nat) (k : KC C Prop) (e : Exit) (a : Act) (w : World) : Prop where
  ex : ∃ x ρ' tm hp' n', e = exitOf x ∧ ρ.le ρ' ∧ Grow n hp n' hp' ∧ a.tmps.size = N ∧ a.defers = [] ∧ Rel B X ρ' hp' n' w ∧ TmOk ρ' tm a ∧ k x tm hp' n'

/-- The loop goes on from here, its body once more at the head. -/
def InLoop (P : Program) (N : Nat) (c : Code) (tm : Tm) (hp : Hp C) (n : Nat) (k : KC C Prop) : Prop :=
  ∀ B X ρ w a, a.tmps.size = N → a.defers = [] → Rel B X ρ hp n w → TmOk ρ tm a → ∀ b kk cs, ∃ e a' w', PostC B X ρ hp n N k e a' w' ∧
    Arrives P (lone (b.at a (.code c :: .inLoop c :: kk)) cs w) b kk cs e a' w'

def onThen (k : KC C R) (next : Tm → Hp C → Nat → R) : KC C R := fun e tm hp n => match e with
  | .normal => next tm hp n
  | .exit i => k (.exit i) tm hp n
  | .ret => k .ret tm hp n
def onBlock (k : KC C R) (id : Nat) : KC C R := fun e tm hp n => match e with
  | .normal => k .normal tm hp n
  | .exit i => match Nat.beq i id with
    | true => k .normal tm hp n
    | false => k (.exit i) tm hp n
  | .ret => k .ret tm hp n
def iterS (body : KC C R → Tm → Hp C → Nat → R) (il : Tm → Hp C → Nat → KC C R → R) (f : Nat) (k : KC C R) (tm : Tm) (hp : Hp C) (n : Nat) : R :=
  Nat.rec (motive := fun _ => Tm → Hp C → Nat → R) (fun tm hp n => il tm hp n k) (fun _ ih => body (onThen k ih)) f tm hp n

def litT (c : Operand) (b : Bool) (tm : Tm) : Tm := match c with
  | .tmp t => (t, .raw (.bool b)) :: tm
  | _ => tm

/-- A region in a drawn order (a later text says how). -/
abbrev DrawF (C : Tab) (R : Type) := (N : Nat) → List Oper → Tm → Hp C → Nat → (Tm → Hp C → Nat → R) → R
/-- A loop that is not unrolled. -/
abbrev LoopF (C : Tab) (R : Type) := (N : Nat) → Code → Tm → Hp C → Nat → KC C R → R

abbrev CK (C : Tab) (R : Type) := Nat → KC C R → Tm → Hp C → Nat → R
def cRegion (A : Ans R) (P : Program) (call : CallF C R) (dr : DrawF C R) (N : Nat) (_ : Nat) (ops : Array Oper) (draw : Bool) : CK C R := fun _ k tm hp n => match draw with
  | false => regionS A P call N ops.toList ops.toList tm hp n (k .normal)
  | true => dr N ops.toList tm hp n (k .normal)
def cSeq (x y : CK C R) : CK C R := fun blk k => x blk (onThen k (y blk k))
def cCond (A : Ans R) (c : Operand) (x y : CK C R) : CK C R := fun blk k tm hp n => match evT tm c with
  | some (.raw (.bool t)) => A.br t (x blk k (litT c true tm) hp n) (y blk k (litT c false tm) hp n)
  | _ => A.bad
def cBlock (id : Nat) (x : CK C R) : CK C R := fun _ k => x id (onBlock k id)
def cLoop (il : Nat → LoopF C R) (N : Nat) (unr : Nat → Nat) (c : Code) (x : CK C R) : CK C R := fun blk k => iterS (x blk) (il blk N c) (unr blk) k
def cExit (id : Nat) : CK C R := fun _ k => k (.exit id)
def cNo (A : Ans R) : CK C R := fun _ _ _ _ _ => A.bad

def codeS (A : Ans R) (P : Program) (call : CallF C R) (dr : DrawF C R) (il : Nat → LoopF C R) (N : Nat) (unr : Nat → Nat) (c : Code) : CK C R :=
  Code.rec (motive := fun _ => CK C R) (fun _ k => k .normal) (cRegion A P call dr N) (fun _ _ x y => cSeq x y) (fun c _ _ x y => cCond A c x y) (fun id _ x => cBlock id x) (fun c x => cLoop il N unr c x)
    (fun _ _ _ _ _ _ => cNo A) cExit (fun _ _ => cNo A) (fun _ => cNo A) (fun _ => cNo A) (fun _ k => k .ret) (fun _ => cNo A) c

def DrawOk (P : Program) (I : R → Prop) (dr : DrawF C R) : Prop :=
  ∀ N (id : Nat) (ops : Array Oper) tm hp n k B X ρ w a, I (dr N ops.toList tm hp n k) → a.tmps.size = N → a.defers = [] → Rel B X ρ hp n w → TmOk ρ tm a →
    (Code.region id ops true).wp P (PostC B X ρ hp n N fun e tm hp n => match e with | .normal => I (k tm hp n) | _ => False) a w
def LoopOkAt (P : Program) (I : R → Prop) (N : Nat) (c : Code) (f : Tm → Hp C → Nat → KC C R → R) : Prop :=
  ∀ tm hp n k, I (f tm hp n k) → InLoop P N c tm hp n fun e tm hp n => I (k e tm hp n)
def LoopOk (P : Program) (I : R → Prop) (il : LoopF C R) : Prop := ∀ N c, LoopOkAt P I N c (il N c)
/-- The loops of a code, each with the block that encloses it. -/
def lps : Nat → Code → List (Nat × Code)
  | b, .seq x y => lps b x ++ lps b y
  | b, .cond _ x y => lps b x ++ lps b y
  | _, .block id x => lps id x
  | b, .loop c => (b, c) :: lps b c
  | _, _ => []

section sound
variable {B : World} {X : Own} {ρ : Asg} {hp : Hp C} {n : Nat} {w : World} {a : Act} {tm : Tm} {call : CallF C R} {dr : DrawF C R} {il : LoopF C R} {A : Ans R} {I : R → Prop}

theorem PostC.weaken {N : Nat} {k : KC C Prop} {ρ' : Asg} {hp' : Hp C} {n' : Nat} {e : Exit} {a : Act} {w : World} (h : PostC B X ρ' hp' n' N k e a w) (h1 : ρ.le ρ') (h2 : Grow n hp n' hp') : PostC B X ρ hp n N k e a w := by
  obtain ⟨x, ρ'', tm, hp'', n'', he, g1, g2, g3⟩ := h
  exact ⟨x, ρ'', tm, hp'', n'', he, Asg.le_trans h1 g1, h2.trans g2, g3⟩

theorem PostC.mono {N : Nat} {k k' : KC C Prop} {e : Exit} {a : Act} {w : World} (h : PostC B X ρ hp n N k e a w) (hk : ∀ x tm hp n, k x tm hp n → k' x tm hp n) : PostC B X ρ hp n N k' e a w := by
  obtain ⟨x, ρ'', tm, hp'', n'', he, g1, g2, g3, g4, g5, g6, g7⟩ := h
  exact ⟨x, ρ'', tm, hp'', n'', he, g1, g2, g3, g4, g5, g6, hk _ _ _ _ g7⟩

theorem TmOk.litT (T : TmOk ρ tm a) {c : Operand} {t b : Bool} (h : evT tm c = some (.raw (.bool t))) (e : t = b) : TmOk ρ (litT c b tm) a := by
  cases c with
  | tmp u => exact T.lit h e
  | const v => exact T
  | global g => exact T
  | func f => exact T

/-- One round, then the rest of the loop. -/
theorem inLoop_step {N : Nat} {c : Code} {k : KC C Prop} {tm : Tm} {hp : Hp C} {n : Nat} (h : ∀ B X ρ w a, a.tmps.size = N → a.defers = [] → Rel B X ρ hp n w → TmOk ρ tm a → c.wp P (PostC B X ρ hp n N fun e tm hp n => match e with
    | .normal => InLoop P N c tm hp n k
    | .exit i => k (.exit i) tm hp n
    | .ret => k .ret tm hp n) a w) : InLoop P N c tm hp n k := by
  intro B X ρ w a hN hD R T b kk cs
  obtain ⟨e, a₁, w₁, hq, harr⟩ := h B X ρ w a hN hD R T b (.inLoop c :: kk) cs
  obtain ⟨x, ρ', tm', hp', n', rfl, g1, g2, g3, g4, g5, g6, g7⟩ := hq
  cases x with
  | normal =>
    obtain ⟨e₂, a₂, w₂, hq₂, harr₂⟩ := g7 B X ρ' w₁ a₁ g3 g4 g5 g6 b kk cs
    exact ⟨e₂, a₂, w₂, hq₂.weaken g1 g2, .of_steps (Steps.trans harr (.one step_inLoop)) harr₂⟩
  | exit id => exact ⟨_, a₁, w₁, ⟨.exit id, ρ', tm', hp', n', rfl, g1, g2, g3, g4, g5, g6, g7⟩, .pass (x := .inLoop c) rfl (fun _ _ => .inl (by simp [exitOf])) harr⟩
  | ret => exact ⟨_, a₁, w₁, ⟨.ret, ρ', tm', hp', n', rfl, g1, g2, g3, g4, g5, g6, g7⟩, .pass (x := .inLoop c) rfl (fun _ _ => .inl (by simp [exitOf])) harr⟩

theorem iterS_sound {N : Nat} {c : Code} {body : KC C R → Tm → Hp C → Nat → R} (hl : LoopOkAt P I N c (il N c))
    (hb : ∀ (k : KC C R) tm hp n B X ρ w a, I (body k tm hp n) → a.tmps.size = N → a.defers = [] → Rel B X ρ hp n w → TmOk ρ tm a → c.wp P (PostC B X ρ hp n N fun e tm hp n => I (k e tm hp n)) a w) :
    ∀ (f : Nat) (k : KC C R) (tm : Tm) (hp : Hp C) (n : Nat), I (iterS body (il N c) f k tm hp n) → InLoop P N c tm hp n fun e tm hp n => I (k e tm hp n)
  | 0, k, tm, hp, n, h => hl tm hp n k h
  | f + 1, k, tm, hp, n, h => inLoop_step fun B X ρ w a hN hD R T => wp_mono (hb _ tm hp n B X ρ w a h hN hD R T) fun e a w hq => hq.mono fun x tm hp n hx => by
      cases x with
      | normal => exact iterS_sound hl hb f k tm hp n hx
      | exit i => exact hx
      | ret => exact hx

theorem codeS_sound (hp0 : Plain P) (no : AnsOk A I) (hc : CallOk P I call) (hd : DrawOk P I dr) {il : Nat → LoopF C R} {N : Nat} {unr : Nat → Nat} : ∀ (c : Code) (blk : Nat) (_ : ∀ b l, (b, l) ∈ lps blk c → LoopOkAt P I N l (il b N l)) (k : KC C R) (tm : Tm) (hp : Hp C) (n : Nat) (B : World) (X : Own) (ρ : Asg) (w : World) (a : Act),
    I (codeS A P call dr il N unr c blk k tm hp n) → a.tmps.size = N → a.defers = [] → Rel B X ρ hp n w → TmOk ρ tm a → c.wp P (PostC B X ρ hp n N fun e tm hp n => I (k e tm hp n)) a w
  | .skip, _, hl, k, tm, hp, n, B, X, ρ, w, a, h, hN, hD, R, T => wp_skip ⟨.normal, ρ, tm, hp, n, rfl, Asg.le_refl _, Grow.refl _ _, hN, hD, R, T, h⟩
  | .region id ops draw, _, hl, k, tm, hp, n, B, X, ρ, w, a, h, hN, hD, R, T => by
    cases draw with
    | false =>
      refine wp_region_list (regionS_sound (X := X) hp0 no hc ops.toList h hN R T ?_)
      intro ρ' tm' hp' n' a' w' g1 g2 g3 g4 g5 g6 g7
      exact ⟨.normal, ρ', tm', hp', n', rfl, g1, g2, g3, by rw [g4, hD], g5, g6, g7⟩
    | true =>
      refine wp_mono (hd N id ops tm hp n _ B X ρ w a h hN hD R T) fun e a w hq => hq.mono fun x tm hp n hx => ?_
      cases x with
      | normal => exact hx
      | exit i => exact hx.elim
      | ret => exact hx.elim
  | .seq x y, blk, hl, k, tm, hp, n, B, X, ρ, w, a, h, hN, hD, R, T => by
    refine wp_seq (wp_mono (codeS_sound hp0 no hc hd x blk (fun b l h => hl b l (List.mem_append_left _ h)) _ tm hp n B X ρ w a h hN hD R T) fun e a w hq => ?_)
    obtain ⟨ex, ρ', tm', hp', n', rfl, g1, g2, g3, g4, g5, g6, g7⟩ := hq
    cases ex with
    | normal => exact wp_mono (codeS_sound hp0 no hc hd y blk (fun b l h => hl b l (List.mem_append_right _ h)) k tm' hp' n' B X ρ' w a g7 g3 g4 g5 g6) fun e a w hq => hq.weaken g1 g2
    | exit i => exact ⟨.exit i, ρ', tm', hp', n', rfl, g1, g2, g3, g4, g5, g6, g7⟩
    | ret => exact ⟨.ret, ρ', tm', hp', n', rfl, g1, g2, g3, g4, g5, g6, g7⟩
  | .cond c x y, blk, hl, k, tm, hp, n, B, X, ρ, w, a, h, hN, hD, R, T => by
    have h : I (cCond A c (codeS A P call dr il N unr x) (codeS A P call dr il N unr y) blk k tm hp n) := h
    unfold cCond at h
    split at h
    · rename_i t ht
      have hd' := evT_spec T ht
      simp only [den, Option.some.injEq] at hd'
      have h := no.br _ _ _ h
      cases t with
      | false => exact wp_cond hd'.symm (codeS_sound hp0 no hc hd y blk (fun b l h => hl b l (List.mem_append_right _ h)) k _ hp n B X ρ w a (h.2 rfl) hN hD R (T.litT ht rfl))
      | true => exact wp_cond hd'.symm (codeS_sound hp0 no hc hd x blk (fun b l h => hl b l (List.mem_append_left _ h)) k _ hp n B X ρ w a (h.1 rfl) hN hD R (T.litT ht rfl))
    · exact (no.no h).elim
  | .block id c, blk, hl, k, tm, hp, n, B, X, ρ, w, a, h, hN, hD, R, T => by
    refine wp_block (wp_mono (codeS_sound hp0 no hc hd c id hl _ tm hp n B X ρ w a h hN hD R T) fun e a w hq => ?_)
    obtain ⟨ex, ρ', tm', hp', n', rfl, g1, g2, g3, g4, g5, g6, g7⟩ := hq
    cases ex with
    | normal => exact ⟨.normal, ρ', tm', hp', n', rfl, g1, g2, g3, g4, g5, g6, g7⟩
    | exit i =>
      simp only [exitOf, Exit.inBlock]
      cases hb : Nat.beq i id with
      | true =>
        have : i = id := Nat.eq_of_beq_eq_true hb
        have g7 : I (match Nat.beq i id with | true => k .normal tm' hp' n' | false => k (.exit i) tm' hp' n') := g7
        rw [hb] at g7
        rw [if_pos this]
        exact ⟨.normal, ρ', tm', hp', n', rfl, g1, g2, g3, g4, g5, g6, g7⟩
      | false =>
        have : ¬ i = id := Nat.ne_of_beq_eq_false hb
        have g7 : I (match Nat.beq i id with | true => k .normal tm' hp' n' | false => k (.exit i) tm' hp' n') := g7
        rw [hb] at g7
        rw [if_neg this]
        exact ⟨.exit i, ρ', tm', hp', n', rfl, g1, g2, g3, g4, g5, g6, g7⟩
    | ret => exact ⟨.ret, ρ', tm', hp', n', rfl, g1, g2, g3, g4, g5, g6, g7⟩
  | .loop c, blk, hl, k, tm, hp, n, B, X, ρ, w, a, h, hN, hD, R, T => by
    intro b kk cs
    obtain ⟨e, a', w', hq, harr⟩ := iterS_sound (hl blk c List.mem_cons_self) (fun k tm hp n B X ρ w a => codeS_sound hp0 no hc hd c blk (fun b l h => hl b l (List.mem_cons_of_mem _ h)) k tm hp n B X ρ w a) (unr blk) k tm hp n h B X ρ w a hN hD R T b kk cs
    exact ⟨e, a', w', hq, .of_steps (.one step_loop) harr⟩
  | .exit id, _, hl, k, tm, hp, n, B, X, ρ, w, a, h, hN, hD, R, T => wp_exit ⟨.exit id, ρ, tm, hp, n, rfl, Asg.le_refl _, Grow.refl _ _, hN, hD, R, T, h⟩
  | .ret, _, hl, k, tm, hp, n, B, X, ρ, w, a, h, hN, hD, R, T => wp_ret ⟨.ret, ρ, tm, hp, n, rfl, Asg.le_refl _, Grow.refl _ _, hN, hD, R, T, h⟩
  | .rangeFunc .., _, _, _, _, _, _, _, _, _, _, _, h, _, _, _, _ => (no.no h).elim
  | .scope _, _, _, _, _, _, _, _, _, _, _, _, h, _, _, _, _ => (no.no h).elim
  | .label _, _, _, _, _, _, _, _, _, _, _, _, h, _, _, _, _ => (no.no h).elim
  | .goto _, _, _, _, _, _, _, _, _, _, _, _, h, _, _, _, _ => (no.no h).elim
  | .refuse _, _, _, _, _, _, _, _, _, _, _, _, h, _, _, _, _ => (no.no h).elim
end sound

/-! Calls. -/

def argTm : Nat → List SV → Tm
  | _, [] => []
  | i, v :: r => (i, v) :: argTm (i + 1) r

/-- What a function gives back, read where its results lie. -/
def resVars (P : Program) (hp : Hp C) (tm : Tm) : List ResultVar → Tr (List SV)
  | [] => .leaf []
  | .tmp t :: r => match find t tm with
    | some v => (resVars P hp tm r).bind fun l => .leaf (v :: l)
    | none => .fail
  | .cell t ty :: r => match find t tm with
    | some v => (pLoad P (fun i => find i hp) ty v).bind fun (x : Res C) => (resVars P hp tm r).bind fun l => .leaf (x.1 :: l)
    | none => .fail

def packS : List SV → SV
  | [v] => v
  | l => .tup l

def retK (A : Ans R) (P : Program) (fn : Func) (k : SV → Hp C → Nat → R) : KC C R := fun e tm hp n => match e with
  | .exit _ => A.bad
  | _ => (resVars P hp tm fn.results.toList).run A fun l => k (packS l) hp n

abbrev SpecF (C : Tab) (R : Type) := Nat → Option (List SV → Hp C → Nat → (SV → Hp C → Nat → R) → R)

def callStep (A : Ans R) (P : Program) (sp : SpecF C R) (il : Nat → Nat → LoopF C R) (unr : Nat → Nat → Nat) (dr : DrawF C R) (ih : CallF C R) : CallF C R := fun g vs hp n k => match sp g with
    | some s => s vs hp n k
    | none => match P.funcs[g]? with
      | none => A.bad
      | some fn => match fn.body with
        | none => A.bad
        | some c => match Nat.ble vs.length fn.ntmps with
          | false => A.bad
          | true => codeS A P ih dr (il g) fn.ntmps (unr g) c 0 (retK A P fn k) (argTm 0 vs) hp n
def callG (A : Ans R) (P : Program) (sp : SpecF C R) (il : Nat → Nat → LoopF C R) (unr : Nat → Nat → Nat) (dr : Nat → CallF C R → DrawF C R) (d : Nat) : CallF C R :=
  Nat.rec (motive := fun _ => CallF C R) (fun _ _ _ _ _ => A.bad) (fun d ih => callStep A P sp il unr (dr d ih) ih) d

theorem find_argTm {ρ : Asg} : ∀ (vs : List SV) (i : Nat) (us : List Value), denL ρ vs = some us → ∀ t sv, find t (argTm i vs) = some sv → ∃ v, den ρ sv = some v ∧ i ≤ t ∧ us[t - i]? = some v
  | [], _, _, _, _, _, h => by simp [argTm, find] at h
  | x :: r, i, us, hd, t, sv, h => by
    obtain ⟨u, l, h1, h2, rfl⟩ := denL_cons.1 hd
    rw [argTm, find_cons] at h
    split at h
    · rename_i e; subst e
      cases h
      exact ⟨u, h1, Nat.le_refl _, by simp⟩
    · obtain ⟨v, g1, g2, g3⟩ := find_argTm r (i + 1) l h2 t sv h
      refine ⟨v, g1, by omega, ?_⟩
      have : t - i = (t - (i + 1)) + 1 := by omega
      rw [this]; simpa using g3

theorem asAddr_load {v u : Value} {t : TypeId} {w : World} (h : (Instr.loadAt t v).run P w = .ok u w) : (do loadVar t (← asAddr v) : Sem Value).run P w = .ok u w := by
  cases v with
  | pointer a =>
    cases a with
    | some a => simpa [Instr.loadAt, Instr.sureAddr, asAddr] using h
    | none => simp [Instr.loadAt, Instr.sureAddr] at h
  | _ => simp [Instr.loadAt, Instr.sureAddr] at h

theorem resVars_sound {B : World} {X : Own} {ρ : Asg} {hp : Hp C} {n : Nat} {w : World} {a : Act} {tm : Tm} (R : Rel B X ρ hp n w) (T : TmOk ρ tm a) : ∀ (rs : List ResultVar) {l : List SV}, (resVars P hp tm rs).get = some l →
    ∃ us, denL ρ l = some us ∧ (rs.mapM fun | .tmp t => pure (a.tmps.getD t undef) | .cell x t => do loadVar t (← asAddr (a.tmps.getD x undef)) : Sem (List Value)).run P w = .ok us w
  | [], l, h => by
    simp only [resVars, Tr.get, Option.some.injEq] at h; subst h
    exact ⟨[], rfl, by simp⟩
  | .tmp t :: r, l, h => by
    unfold resVars at h
    split at h
    · rename_i v hv
      obtain ⟨l', h1, h2⟩ := Tr.get_bind h
      simp only [Tr.get, Option.some.injEq] at h2; subst h2
      obtain ⟨us, g1, g2⟩ := resVars_sound R T r h1
      obtain ⟨u, g3, g4⟩ := T t v hv
      refine ⟨u :: us, denL_cons.2 ⟨u, us, g3, g1, rfl⟩, ?_⟩
      rw [List.mapM_cons]
      simp only [pure_bind, Sem.run_bind, g2, Result.andThen_ok, Sem.run_pure]
      simp [g4]
    · simp [Tr.get] at h
  | .cell t ty :: r, l, h => by
    unfold resVars at h
    split at h
    · rename_i v hv
      obtain ⟨x, h1, h2⟩ := Tr.get_bind h
      obtain ⟨l', h3, h4⟩ := Tr.get_bind h2
      simp only [Tr.get, Option.some.injEq] at h4; subst h4
      obtain ⟨us, g1, g2⟩ := resVars_sound R T r h3
      obtain ⟨u, g3, g4⟩ := T t v hv
      obtain ⟨y, g5, g6, _⟩ := pLoad_sound R h1 g3
      refine ⟨y :: us, denL_cons.2 ⟨y, us, g6, g1, rfl⟩, ?_⟩
      have hu : a.tmps.getD t undef = u := by simp [g4]
      have hl := asAddr_load g5
      rw [List.mapM_cons]
      simp only [hu]
      rw [Sem.run_bind, hl, Result.andThen_ok]
      simp only [Sem.run_bind, g2, Result.andThen_ok, Sem.run_pure]
    · simp [Tr.get] at h

theorem packS_sound {ρ : Asg} {l : List SV} {us : List Value} (h : denL ρ l = some us) : den ρ (packS l) = some (if h : us.toArray.size = 1 then us.toArray[0] else .tuple us.toArray) := by
  match l with
  | [] => rw [denL_nil.1 h]; rfl
  | [v] =>
    obtain ⟨u, r, h1, h2, rfl⟩ := denL_cons.1 h
    rw [denL_nil.1 h2]; simpa [packS] using h1
  | v :: v' :: r =>
    have hl := denL_length h
    rw [dif_neg (by simp [hl])]
    simp only [packS, den, h, Option.map_some]

theorem results_sound {B : World} {X : Own} {ρ : Asg} {hp : Hp C} {n : Nat} {w : World} {a : Act} {tm : Tm} (R : Rel B X ρ hp n w) (T : TmOk ρ tm a) {fn : Func} {l : List SV} (h : (resVars P hp tm fn.results.toList).get = some l) :
    ∃ v, den ρ (packS l) = some v ∧ (results fn a.tmps).run P w = .ok v w := by
  obtain ⟨us, h1, h2⟩ := resVars_sound R T _ h
  refine ⟨_, packS_sound h1, ?_⟩
  unfold results
  rw [← Array.toArray_toList (xs := fn.results), List.mapM_toArray, Sem.run_bind]
  simp only [Sem.run_map]
  generalize hm : Sem.run P (List.mapM _ _) w = r
  have hr : r = .ok us w := hm.symm.trans h2
  rw [hr]; rfl

def CallOk1 (P : Program) (g : Nat) (f : List SV → Hp C → Nat → (SV → Hp C → Nat → Prop) → Prop) : Prop :=
  ∀ vs hp n k B X ρ w args, f vs hp n k → Rel B X ρ hp n w → denL ρ vs = some args →
    (∃ fn, P.funcs[g]? = some fn ∧ fn.body.isSome = true) ∧ Calls P g args.toArray w (CallPost B X ρ hp n k)
def SpecOkG (P : Program) (I : R → Prop) (sp : SpecF C R) : Prop := ∀ g f, sp g = some f → CallOk1 P g fun vs hp n k => ∃ k', I (f vs hp n k') ∧ k = fun sv hp n => I (k' sv hp n)
def SpecOk (P : Program) (sp : SpecF C Prop) : Prop := ∀ g f, sp g = some f → CallOk1 P g f
theorem SpecOk.g {sp : SpecF C Prop} (h : SpecOk P sp) : SpecOkG P (fun p : Prop => p) sp := fun g f hf vs hp n k B X ρ w args ⟨k', h1, h2⟩ => by
  subst h2; exact h g f hf vs hp n k' B X ρ w args h1

theorem callStep_ok (hp0 : Plain P) {A : Ans R} {I : R → Prop} (no : AnsOk A I) {sp : SpecF C R} (hs : SpecOkG P I sp) {il : Nat → Nat → LoopF C R} (hl : ∀ g fn c, P.funcs[g]? = some fn → fn.body = some c → ∀ blk l, (blk, l) ∈ lps 0 c → LoopOkAt P I fn.ntmps l (il g blk fn.ntmps l)) {dr : DrawF C R} (hd : DrawOk P I dr) {unr : Nat → Nat → Nat} {call : CallF C R} (ih : CallOk P I call) :
    CallOk P I (callStep A P sp il unr dr call) := fun g vs hp n k B X ρ w args h RR hargs => by
    unfold callStep at h
    split at h
    · rename_i s hsp
      exact hs g s hsp vs hp n _ B X ρ w args ⟨k, h, rfl⟩ RR hargs
    · split at h
      · exact (no.no h).elim
      · rename_i fn hfn
        split at h
        · exact (no.no h).elim
        · rename_i c hc
          split at h
          · exact (no.no h).elim
          · rename_i hle
            have hle' : args.length ≤ fn.ntmps := by rw [denL_length hargs]; exact Nat.le_of_ble_eq_true hle
            refine ⟨⟨fn, hfn, by rw [hc]; rfl⟩, calls_of_wp hfn hc ?_⟩
            have hN : (args.toArray ++ Array.replicate (fn.ntmps - args.toArray.size) undef).size = fn.ntmps := by simp; omega
            refine wp_mono (codeS_sound hp0 no ih hd c 0 (hl g fn c hfn hc) _ _ hp n B X ρ w _ h hN rfl RR ?_) ?_
            · intro t sv ht
              obtain ⟨v, g1, _, g3⟩ := find_argTm vs 0 args hargs t sv ht
              refine ⟨v, g1, ?_⟩
              rw [Nat.sub_zero] at g3
              have hlt := (List.getElem?_eq_some_iff.1 g3).1
              simp [Array.getElem?_append, hlt, (List.getElem?_eq_some_iff.1 g3).2]
            · intro e a w' hq
              obtain ⟨x, ρ', tm', hp', n', rfl, g1, g2, g3, g4, g5, g6, g7⟩ := hq
              have fin : I (retK A P fn k .ret tm' hp' n') → bodyPost P fn (CallPost B X ρ hp n fun sv hp n => I (k sv hp n)) .ret a w' := fun g7 => by
                obtain ⟨l, hl1, hl2⟩ := Tr.run_get no g7
                obtain ⟨v, hv1, hv2⟩ := results_sound g5 g6 hl1
                exact ⟨g4, v, hv2, ρ', v, packS l, hp', n', rfl, g1, g2, hv1, g5, hl2⟩
              cases x with
              | normal => exact fin g7
              | ret => exact fin g7
              | exit i => exact (no.no g7).elim

theorem callG_sound (hp0 : Plain P) {A : Ans R} {I : R → Prop} (no : AnsOk A I) {sp : SpecF C R} (hs : SpecOkG P I sp) {il : Nat → Nat → LoopF C R} (hl : ∀ g fn c, P.funcs[g]? = some fn → fn.body = some c → ∀ blk l, (blk, l) ∈ lps 0 c → LoopOkAt P I fn.ntmps l (il g blk fn.ntmps l)) {dr : Nat → CallF C R → DrawF C R} (hd : ∀ d call, CallOk P I call → DrawOk P I (dr d call)) {unr : Nat → Nat → Nat} :
    ∀ d, CallOk P I (callG A P sp il unr dr d)
  | 0 => fun _ _ _ _ _ _ _ _ _ _ h => (no.no h).elim
  | d + 1 => callStep_ok hp0 no hs hl (hd d _ (callG_sound hp0 no hs hl hd d)) (callG_sound hp0 no hs hl hd d)

/-! The evaluator whose answers are statements. -/
theorem loop_ok : LoopOk P (fun p : Prop => p) (InLoop (C := C) P) := fun _ _ _ _ _ _ h => h
theorem LoopOk.all {I : R → Prop} {il : Nat → Nat → LoopF C R} (h : ∀ g blk, LoopOk P I (il g blk)) : ∀ g fn c, P.funcs[g]? = some fn → fn.body = some c → ∀ blk l, (blk, l) ∈ lps 0 c → LoopOkAt P I fn.ntmps l (il g blk fn.ntmps l) := fun g _ _ _ _ blk l _ => h g blk _ l
end
end Go.Sx

/-
  The symbolic evaluator: regions whose order is drawn. Own work; nothing here is trusted.
-/
namespace Go.Sx
noncomputable section
open Go.RowKit

variable {C : Tab} {P : Program} {R : Type}

/-! ### A part of a heap, and what is put back. -/
def cut (ρ : Asg) (m : Nat) : Asg := fun i => if i < m then ρ i else none
theorem cut_le (ρ : Asg) (m : Nat) : (cut ρ m).le ρ := fun i v h => by
  unfold cut at h
  split at h
  · exact h
  · cases h
theorem cut_mono {ρ : Asg} {m m' : Nat} (h : m ≤ m') : (cut ρ m).le (cut ρ m') := fun i v hi => by
  unfold cut at hi ⊢
  split at hi
  · rw [if_pos (by omega)]; exact hi
  · cases hi
theorem cut_some {ρ : Asg} {m i : Nat} {v : Value} (h : ρ i = some v) (hi : i < m) : cut ρ m i = some v := by
  unfold cut; rw [if_pos hi]; exact h

def denO (ρ : Asg) : SO C → Prop
  | .box cs _ => ∃ vs, denL ρ cs = some vs
  | .mv _ _ _ _ cs => ∃ vs, denL ρ cs = some vs
  | _ => True
theorem denO_mono {ρ ρ' : Asg} (h : ρ.le ρ') {o : SO C} (ho : denO ρ o) : denO ρ' o := by
  cases o with
  | box cs t => obtain ⟨vs, hv⟩ := ho; exact ⟨vs, denL_mono h _ _ hv⟩
  | mv k ag vt ks cs => obtain ⟨vs, hv⟩ := ho; exact ⟨vs, denL_mono h _ _ hv⟩
  | _ => trivial
theorem okObj.toDen {ρ : Asg} {w : World} {okb : Nat → Prop} {v : Value} {o : SO C} (h : okObj ρ w okb v o) : denO ρ o := by
  cases o with
  | box cs t => obtain ⟨g, vs, _, _, hv, _⟩ := h; exact ⟨vs, hv⟩
  | mv k ag vt ks cs => obtain ⟨g, es, clock, vs, _, _, hv, _⟩ := h; exact ⟨vs, hv⟩
  | _ => trivial

def ownOf (ρ : Asg) (U : Hp C) (lo : Nat) (F : Nat → Prop) : Own :=
  ⟨fun g => ∃ x o v, find x U = some o ∧ o.owns = true ∧ ρ x = some v ∧ blk v = some g, fun g => ∃ x o v, find x U = some o ∧ o.live = true ∧ ρ x = some v ∧ blk v = some g, cut ρ lo, lo, F⟩

def mergeA (ρ ρ1 : Asg) (lo hi : Nat) : Asg := fun x => if lo ≤ x ∧ x < hi then ρ1 x else ρ x

theorem live_of_owns {o : SO C} (h : o.owns = true) : o.live = true := by cases o <;> simp [SO.owns] at h <;> rfl

section parts
variable {B : World} {X : Own} {ρ ρ1 : Asg} {H U δ H' : Hp C} {nF lo hi : Nat} {w w1 : World}

theorem InnO.move {B w : World} {X X' : Own} {o : SO C} (h : InnO B X o) (hf : ∀ g, X.fz g → X'.fz g) (hw : ∀ g, X.fz g → w.heap[g]? = B.heap[g]?) : InnO w X' o := by
  cases o with
  | ss e pos it ts =>
    intro t ht
    obtain ⟨h1, h2⟩ := h t ht
    refine ⟨h1, fun a c e => ?_⟩
    obtain ⟨h3, h45⟩ := h2 a c e
    refine ⟨h3, fun h0 => ?_⟩
    obtain ⟨h4, h5⟩ := h45 h0
    refine ⟨hf _ h4, fun j x hx => ?_⟩
    rw [World.cell?_of_block (w := B) (a := a.add j) (by rw [Addr.add_block]; exact hw _ h4)]
    exact h5 j x hx
  | _ => trivial

def Within (ρ : Asg) (H U : Hp C) (lo : Nat) : Prop := ∀ x o, find x U = some o → find x H = some o ∧ x < lo ∧ denO (cut ρ lo) o

theorem okObj.part {ρ ρ' : Asg} {w : World} {okb okb' : Nat → Prop} {v : Value} {o : SO C} (h : okObj ρ w okb v o) (hd : denO ρ' o) (hle : ρ'.le ρ)
    (hb : o.owns = true → ∀ g, blk v = some g → okb' g) : okObj ρ' w okb' v o := by
  cases o with
  | box cs t =>
    obtain ⟨g, vs, rfl, h1, h2, h3⟩ := h
    obtain ⟨vs', hv'⟩ := hd
    have := denL_mono hle _ _ hv'
    rw [h2] at this; cases this
    exact ⟨g, vs, rfl, hb rfl g rfl, hv', h3⟩
  | sl own full e ts =>
    obtain ⟨a, cap, rfl, h1, h2, h3⟩ := h
    refine ⟨a, cap, rfl, h1, h2, ?_⟩
    cases own with
    | true =>
      exact h3.to (fun g hg _ => hb rfl g (by subst hg; rfl)) (fun _ _ => rfl)
    | false => exact h3
  | mp k vt m => obtain ⟨g, es, clock, rfl, h1, h2⟩ := h; exact ⟨g, es, clock, rfl, hb rfl g rfl, h2⟩
  | mv k ag vt ks vs =>
    obtain ⟨g, es, clock, us, rfl, h1, h2, h3⟩ := h
    obtain ⟨vs', hv'⟩ := hd
    have := denL_mono hle _ _ hv'
    rw [h2] at this; cases this
    exact ⟨g, es, clock, us, rfl, hb rfl g rfl, hv', h3⟩
  | ss e pos it ts => exact h
  | gone => trivial

theorem Rel.restrict (h : Rel B X ρ H nF w) (hU : Within ρ H U lo) : Rel w (ownOf ρ U lo X.fz) (cut ρ lo) U lo w where
  os := rfl
  tape := rfl
  out := rfl
  size := Nat.le_refl _
  old := fun _ _ _ => rfl
  nbLe := Nat.le_refl _
  agree := fun _ _ => rfl
  fresh := fun i hi => by unfold cut; rw [if_neg (by omega)]
  one := fun i v hi => h.one i v (cut_le _ _ i v hi)
  obj := fun x o hx => by
    obtain ⟨h1, h2, h3⟩ := hU x o hx
    obtain ⟨v, hv, hok⟩ := h.obj x o h1
    exact ⟨v, cut_some hv h2, hok.part h3 (cut_le _ _) fun ho g hg => .inr ⟨x, o, v, hx, ho, hv, hg⟩⟩
  sep := fun i j oi oj vi vj g hij hi hj ho hl hvi hvj hg => h.sep i j oi oj vi vj g hij (hU i oi hi).1 (hU j oj hj).1 ho hl (cut_le _ _ _ _ hvi) (cut_le _ _ _ _ hvj) hg
  blkOk := fun i o v g hi hl hv hg => h.blkOk i o v g (hU i o hi).1 hl (cut_le _ _ _ _ hv) hg
  prov := fun i o v g hi hl hv hg => .inr (.inr (.inl ⟨i, o, v, hi, hl, cut_le _ _ _ _ hv, hg⟩))
  nn := fun i o v hi hs hv => h.nn i o v (hU i o hi).1 hs (cut_le _ _ _ _ hv)
  frz := fun g hg hb => by
    rcases hb with hb | ⟨x, o, v, hx, ho, hv, hb⟩
    · have := (h.fzHeap hg).1
      have := h.size
      omega
    · exact h.frz g hg (h.okOwn (hU x o hx).1 ho hv hb)
  inn := fun i o hi => (h.inn i o (hU i o hi).1).move (fun _ h => h) fun g hg => (h.fzHeap hg).2

theorem Rel.merge (h : Rel B X ρ H nF w) (hU : Within ρ H U lo) (h1 : Rel w (ownOf ρ U lo X.fz) ρ1 (δ ++ U) hi w1) (hlh : lo ≤ hi) (hhn : hi ≤ nF) (hno : ∀ x, lo ≤ x → x < hi → ρ x = none) (hnb : X.nb ≤ lo)
    (hd : ∀ x o, find x δ = some o → find x H' = some o) (hn : ∀ x, find x δ = none → find x H' = find x H) (happ : ∀ x, find x (δ ++ U) = match find x δ with | some o => some o | none => find x U) :
    Rel B X (mergeA ρ ρ1 lo hi) H' nF w1 ∧ ρ1 = cut (mergeA ρ ρ1 lo hi) hi ∧ ρ.le (mergeA ρ ρ1 lo hi) := by
  have e1 : ρ1 = cut (mergeA ρ ρ1 lo hi) hi := by
    funext x
    unfold cut mergeA
    by_cases hx : x < hi
    · rw [if_pos hx]
      by_cases hl : lo ≤ x
      · rw [if_pos ⟨hl, hx⟩]
      · rw [if_neg (by omega), h1.agree x (show x < lo by omega)]
        show cut ρ lo x = ρ x
        unfold cut; rw [if_pos (by omega)]
    · rw [if_neg hx]; exact h1.fresh x (by omega)
  have le1 : ρ1.le (mergeA ρ ρ1 lo hi) := by intro i v hv; rw [e1] at hv; exact cut_le _ _ _ _ hv
  have le0 : ρ.le (mergeA ρ ρ1 lo hi) := fun i v hv => by
    unfold mergeA
    split
    · rename_i hi'; rw [hno i hi'.1 hi'.2] at hv; cases hv
    · exact hv
  -- an entry of the new heap: either of the step's own answer, or hidden from it
  have part : ∀ x o, find x H' = some o → find x (δ ++ U) = some o ∨ (find x δ = none ∧ find x U = none ∧ find x H = some o) := fun x o hx => by
    rw [happ]
    cases hδ : find x δ with
    | some o' => rw [hd x o' hδ] at hx; cases hx; exact .inl rfl
    | none =>
      rw [hn x hδ] at hx
      cases hu : find x U with
      | some o' => have := (hU x o' hu).1; rw [hx] at this; cases this; exact .inl rfl
      | none => exact .inr ⟨rfl, rfl, hx⟩
  have val1 : ∀ x o, find x (δ ++ U) = some o → ∃ v, ρ1 x = some v := fun x o hx => by obtain ⟨v, hv, _⟩ := h1.obj x o hx; exact ⟨v, hv⟩
  have back1 : ∀ x o v, find x (δ ++ U) = some o → mergeA ρ ρ1 lo hi x = some v → ρ1 x = some v := fun x o v hx hv => by
    obtain ⟨v', hv'⟩ := val1 x o hx
    have := le1 _ _ hv'
    rw [hv] at this; cases this; exact hv'
  have back0 : ∀ x o v, find x H = some o → mergeA ρ ρ1 lo hi x = some v → ρ x = some v := fun x o v hx hv => by
    obtain ⟨v', hv', _⟩ := h.obj x o hx
    have := le0 _ _ hv'
    rw [hv] at this; cases this; exact hv'
  have ownU : ∀ {x o v g}, find x U = some o → o.owns = true → ρ x = some v → blk v = some g → okB B X g := fun hx ho hv hg => h.okOwn (hU _ _ hx).1 ho hv hg
  have okb : ∀ g, okB w (ownOf ρ U lo X.fz) g → okB B X g := fun g hg => by
    rcases hg with hg | ⟨x, o, v, hx, ho, hv, hg⟩
    · exact .inl (Nat.le_trans h.size hg)
    · exact ownU hx ho hv hg
  have okv : ∀ g, okV w (ownOf ρ U lo X.fz) g → okV B X g := fun g hg => by
    rcases hg with hg | ⟨x, o, v, hx, ho, hv, hg⟩ | ⟨x, o, v, hx, hl, hv, hg⟩ | hg
    · exact .inl (Nat.le_trans h.size hg)
    · exact (ownU hx ho hv hg).view
    · exact h.prov x o v g (hU x o hx).1 hl hv hg
    · exact .inr (.inr (.inr hg))
  -- a hidden entry's block stands
  have hid : ∀ x o v g, find x U = none → find x H = some o → o.live = true → ρ x = some v → blk v = some g → w1.heap[g]? = w.heap[g]? := fun x o v g hxu hx hl hv hg => by
    refine h1.old g (h.blkOk x o v g hx hl hv hg) ?_
    rintro ⟨y, oy, vy, hy, hoy, hvy, hgy⟩
    have hyx : y ≠ x := fun e => by subst e; rw [hxu] at hy; cases hy
    exact h.sep y x oy o vy v g hyx (hU y oy hy).1 hx hoy hl hvy hv hgy hg
  refine ⟨?_, e1, le0⟩
  exact {
    os := h1.os.trans h.os, tape := h1.tape.trans h.tape, out := h1.out.trans h.out, size := Nat.le_trans h.size h1.size
    old := fun b hb hx => by
      rw [← h.old b hb hx]
      refine h1.old b (Nat.lt_of_lt_of_le hb h.size) ?_
      rintro ⟨y, oy, vy, hy, hoy, hvy, hgy⟩
      rcases ownU hy hoy hvy hgy with h' | h'
      · omega
      · exact hx h'
    nbLe := h.nbLe
    agree := fun i hi' => by
      unfold mergeA; rw [if_neg (by omega)]; exact h.agree i hi'
    fresh := fun i hi' => by
      unfold mergeA; rw [if_neg (by omega)]; exact h.fresh i hi'
    one := fun i v hv => by
      unfold mergeA at hv
      split at hv
      · exact h1.one i v hv
      · exact h.one i v hv
    obj := fun x o hx => by
      rcases part x o hx with hx | ⟨hxδ, hxu, hx⟩
      · obtain ⟨v, hv, hok⟩ := h1.obj x o hx
        refine ⟨v, le1 _ _ hv, ?_⟩
        have := hok.keep le1 (fun _ _ _ => rfl)
        exact this.part this.toDen (Asg.le_refl _) fun ho g hg => okb g (h1.okOwn hx ho hv hg)
      · obtain ⟨v, hv, hok⟩ := h.obj x o hx
        exact ⟨v, le0 _ _ hv, hok.keep le0 fun hl g hg => hid x o v g hxu hx hl hv hg⟩
    sep := fun i j oi oj vi vj g hij hi' hj ho hl hvi hvj hg => by
      rcases part i oi hi' with hi' | ⟨hiδ, hiu, hi'⟩ <;> rcases part j oj hj with hj | ⟨hjδ, hju, hj⟩
      · exact h1.sep i j oi oj vi vj g hij hi' hj ho hl (back1 _ _ _ hi' hvi) (back1 _ _ _ hj hvj) hg
      · intro hgj
        have hvj' := back0 _ _ _ hj hvj
        have hlt := h.blkOk j oj vj g hj hl hvj' hgj
        rcases h1.okOwn hi' ho (back1 _ _ _ hi' hvi) hg with hb | ⟨y, oy, vy, hy, hoy, hvy, hgy⟩
        · omega
        · have hyj : y ≠ j := fun e => by subst e; rw [hju] at hy; cases hy
          exact h.sep y j oy oj vy vj g hyj (hU y oy hy).1 hj hoy hl hvy hvj' hgy hgj
      · intro hgj
        have hvi' := back0 _ _ _ hi' hvi
        have hlt := h.blkOk i oi vi g hi' (live_of_owns ho) hvi' hg
        rcases h1.prov j oj vj g hj hl (back1 _ _ _ hj hvj) hgj with hb | ⟨y, oy, vy, hy, hoy, hvy, hgy⟩ | ⟨y, oy, vy, hy, hly, hvy, hgy⟩ | hfz
        · omega
        · have hyi : y ≠ i := fun e => by subst e; rw [hiu] at hy; cases hy
          exact h.sep y i oy oi vy vi g hyi (hU y oy hy).1 hi' hoy (live_of_owns ho) hvy hvi' hgy hg
        · have hyi : i ≠ y := fun e => by subst e; rw [hiu] at hy; cases hy
          exact h.sep i y oi oy vi vy g hyi hi' (hU y oy hy).1 ho hly hvi' hvy hg hgy
        · exact h.frz g hfz (h.okOwn hi' ho hvi' hg)
      · exact h.sep i j oi oj vi vj g hij hi' hj ho hl (back0 _ _ _ hi' hvi) (back0 _ _ _ hj hvj) hg
    blkOk := fun i o v g hi' hl hv hg => by
      rcases part i o hi' with hi' | ⟨_, _, hi'⟩
      · exact h1.blkOk i o v g hi' hl (back1 _ _ _ hi' hv) hg
      · exact Nat.lt_of_lt_of_le (h.blkOk i o v g hi' hl (back0 _ _ _ hi' hv) hg) h1.size
    prov := fun i o v g hi' hl hv hg => by
      rcases part i o hi' with hi' | ⟨_, _, hi'⟩
      · exact okv g (h1.prov i o v g hi' hl (back1 _ _ _ hi' hv) hg)
      · exact h.prov i o v g hi' hl (back0 _ _ _ hi' hv) hg
    nn := fun i o v hi' hs hv => by
      rcases part i o hi' with hi' | ⟨_, _, hi'⟩
      · exact h1.nn i o v hi' hs (back1 _ _ _ hi' hv)
      · exact h.nn i o v hi' hs (back0 _ _ _ hi' hv)
    frz := h.frz
    inn := fun i o hi' => by
      rcases part i o hi' with hi' | ⟨_, _, hi'⟩
      · exact (h1.inn i o hi').move (X' := X) (fun _ h => h) fun g hg => (h.fzHeap hg).2.symm
      · exact h.inn i o hi' }
end parts
end
end Go.Sx

/-
  The symbolic evaluator: a region in whatever order. Own work; nothing here is trusted.
-/
namespace Go.Sx
noncomputable section
open Go.RowKit

variable {C : Tab} {P : Program} {R : Type}

/-- What a call answers, as a datum. -/
abbrev OT (C : Tab) := Tr (SV × Hp C × Nat)

/-- What is known of an operation of the region once it is reckoned. -/
structure Rec (C : Tab) where
  ix : Nat
  dst : Option Tmp
  an : Nat
  rd : List Tmp
  sv : SV
  U : Hp C
  δ : Hp C
  lo : Nat
  hi : Nat

def recOf : List (Rec C) → Nat → Option (Rec C)
  | [], _ => none
  | r :: rs, i => match Nat.beq r.ix i with
    | true => some r
    | false => recOf rs i
def anc (recs : List (Rec C)) : List Edge → Option Nat
  | [] => some 0
  | e :: r => match Region.binds .any e with
    | false => anc recs r
    | true => match recOf recs e.on with
      | some x => match anc recs r with
        | some m => some (m ||| (x.an ||| 2 ^ e.on))
        | none => none
      | none => none
def hpBy (f : Nat → Bool) : List (Rec C) → Hp C → Hp C
  | [], hp => hp
  | r :: rs, hp => match f r.ix with
    | true => r.δ ++ hpBy f rs hp
    | false => hpBy f rs hp
def hpK (f : Nat → Bool) (recs : List (Rec C)) (hp : Hp C) (k : Hp C → R) : R :=
  List.rec (motive := fun _ => (Hp C → R) → R) (fun k => k hp) (fun r _ ih k => ih fun h => match f r.ix with
    | true => consAll r.δ h k
    | false => k h) recs k
theorem hpK_eq (f : Nat → Bool) : ∀ (recs : List (Rec C)) (hp : Hp C) (k : Hp C → R), hpK f recs hp k = k (hpBy f recs hp)
  | [], _, _ => rfl
  | r :: rs, hp, k => by
    show hpK f rs hp (fun h => match f r.ix with | true => consAll r.δ h k | false => k h) = _
    rw [hpK_eq f rs]
    cases hf : f r.ix
    · simp [hpBy, hf]
    · simp [hpBy, hf, consAll_eq]
def tmAll : List (Rec C) → Tm → Tm
  | [], tm => tm
  | r :: rs, tm => match r.dst with
    | some t => (t, r.sv) :: tmAll rs tm
    | none => tmAll rs tm
def topN (n0 : Nat) : List (Rec C) → Nat
  | [] => n0
  | r :: _ => r.hi
def pick {α : Type} : List Nat → List (Nat × α) → List (Nat × α)
  | [], _ => []
  | t :: r, l => match find t l with
    | some v => (t, v) :: pick r l
    | none => pick r l
theorem find_pick {α : Type} {l : List (Nat × α)} : ∀ {ts : List Nat} {t : Nat} {v : α}, find t (pick ts l) = some v → t ∈ ts ∧ find t l = some v
  | [], t, v, h => by simp [pick, find] at h
  | u :: r, t, v, h => by
    unfold pick at h
    split at h
    · rename_i x hx
      rw [find_cons] at h
      split at h
      · rename_i e; subst e; cases h; exact ⟨List.mem_cons_self, hx⟩
      · exact ⟨List.mem_cons_of_mem _ (find_pick h).1, (find_pick h).2⟩
    · exact ⟨List.mem_cons_of_mem _ (find_pick h).1, (find_pick h).2⟩

def opT : Operand → List Tmp
  | .tmp t => [t]
  | _ => []
def opTs : List Operand → List Tmp
  | [] => []
  | .tmp t :: r => t :: opTs r
  | _ :: r => opTs r
def calT : Op → List Tmp
  | .call c => match c.callee with
    | .value f => opT f
    | _ => []
  | _ => []
def grdT (all : List Oper) (o : Oper) : List Tmp := match o.guard with
  | some (j, _) => match gdst all j with
    | some t => [t]
    | none => []
  | none => []
def rdT (all : List Oper) (o : Oper) : List Tmp := grdT all o ++ (calT o.op ++ opTs (argsOf o.op))
def isCall : Op → Bool
  | .call c => match c.callee with
    | .value _ => true
    | _ => false
  | _ => false
def hsV : SV → List Nat → List Nat
  | .h i, r => i :: r
  | .ep i _, r => i :: r
  | .bs i _ _ _, r => i :: r
  | .vs i _ _ _ _ _, r => i :: r
  | .el i _ _ _, r => i :: r
  | _, r => r
def hsL : List SV → List Nat
  | [] => []
  | v :: r => hsV v (hsL r)
/-- Operations that look at no memory. -/
def isMov : Op → Bool
  | .move _ => true
  | .assign _ => true
  | .extract _ _ => true
  | _ => false
def uHeap (an : Nat) (recs : List (Rec C)) (hp : Hp C) (o : Oper) (tmU : Tm) (k : Hp C → R) : R :=
  hpK (Nat.testBit an) recs hp fun H => match isCall o.op with
    | true => k H
    | false => match isMov o.op with
      | true => k []
      | false => match evTs tmU (argsOf o.op) with
        | some vs => consAll (pick (hsL vs) H) [] k
        | none => k []
def stepD (P : Program) (co : CallF C (OT C)) (all : List Oper) (o : Oper) (tmU : Tm) (U : Hp C) (lo : Nat) : OT C := match o.guard with
  | none => stepO (ansT _) P co o.op tmU U lo fun sv hp n => forceV sv fun sv => .leaf (sv, hp, n)
  | some (j, want) => match gdst all j with
    | some t => match find t tmU with
      | some (.raw (.bool b)) => (ansT _).br b
        (match want with
          | true => stepO (ansT _) P co o.op tmU U lo fun sv hp n => forceV sv fun sv => .leaf (sv, hp, n)
          | false => .leaf (.raw undef, U, lo))
        (match want with
          | false => stepO (ansT _) P co o.op tmU U lo fun sv hp n => forceV sv fun sv => .leaf (sv, hp, n)
          | true => .leaf (.raw undef, U, lo))
      | some (.raw _) => .leaf (.raw undef, U, lo)
      | _ => .fail
    | none => .fail

def memN (t : Nat) : List Nat → Bool
  | [] => false
  | u :: r => match Nat.beq t u with
    | true => true
    | false => memN t r
theorem memN_mem {t : Nat} : ∀ {l : List Nat}, t ∈ l → memN t l = true
  | u :: r, h => by
    unfold memN
    split
    · rfl
    · rename_i hb
      rcases List.mem_cons.1 h with rfl | h
      · exact absurd rfl (Nat.ne_of_beq_eq_false hb)
      · exact memN_mem h
def apart (a b : Hp C) : Bool := match a with
  | [] => true
  | (x, _) :: r => match find x b with
    | some _ => false
    | none => apart r b
theorem apart_find {b : Hp C} {x : Nat} {o : SO C} (hb : find x b = some o) : ∀ {a : Hp C}, apart a b = true → find x a = none
  | [], _ => rfl
  | (y, oy) :: r, h => by
    unfold apart at h
    split at h
    · cases h
    · rename_i hy
      rw [find_cons]
      split
      · rename_i e; subst e; rw [hb] at hy; cases hy
      · exact apart_find hb h
def dstNe (a b : Option Tmp) : Bool := match a, b with
  | some t, some u => match Nat.beq t u with
    | true => false
    | false => true
  | _, _ => true
/-- Where one writes what the other reads, the one is bound behind the other. -/
def rdOk (dst : Option Tmp) (rd : List Tmp) (b : Bool) : Bool := match dst with
  | some t => match memN t rd with
    | true => b
    | false => true
  | none => true
def pairOk (an : Nat) (dst : Option Tmp) (rd : List Tmp) (U δ : Hp C) (r : Rec C) : Bool := match dstNe dst r.dst with
  | false => false
  | true => match Nat.testBit an r.ix with
    | true => true
    | false => match rdOk dst r.rd false with
      | false => false
      | true => match rdOk r.dst rd false with
        | false => false
        | true => match apart δ r.U with
          | false => false
          | true => match apart r.δ U with
            | false => false
            | true => apart r.δ δ
def allOk (an : Nat) (dst : Option Tmp) (rd : List Tmp) (U δ : Hp C) : List (Rec C) → Bool
  | [] => true
  | r :: rs => match pairOk an dst rd U δ r with
    | true => allOk an dst rd U δ rs
    | false => false
def dstOk (N : Nat) : Option Tmp → Bool
  | none => true
  | some t => Nat.blt t N
def putD (d : Option Tmp) (v : SV) (tm : Tm) : Tm := match d with
  | some t => (t, v) :: tm
  | none => tm
def takeK (h : Hp C) (m : Nat) (k : Hp C → R) : R :=
  List.rec (motive := fun _ => Nat → (Hp C → R) → R) (fun _ k => k []) (fun x _ ih m k => match m with
    | 0 => k []
    | m + 1 => ih m fun l => k (x :: l)) h m k
theorem takeK_eq : ∀ (h : Hp C) (m : Nat) (k : Hp C → R), takeK h m k = k (h.take m)
  | [], m, k => by cases m <;> rfl
  | x :: r, 0, k => rfl
  | x :: r, m + 1, k => by
    show takeK r m (fun l => k (x :: l)) = _
    rw [takeK_eq r]; rfl

/-- Does a later operation hang on this one's answer? -/
def isGrd (i : Nat) : List Oper → Bool
  | [] => false
  | o :: r => match o.guard with
    | some (j, _) => match Nat.beq i j with
      | true => true
      | false => isGrd i r
    | none => isGrd i r
/-- Where others hang on it, the answer is taken apart. -/
def litK (A : Ans R) (all : List Oper) (i : Nat) (sv : SV) (k : SV → R) : R := match sv with
  | .raw (.bool b) => match isGrd i all with
    | true => A.br b (k (.raw (.bool true))) (k (.raw (.bool false)))
    | false => k (.raw (.bool b))
  | sv => k sv
theorem litK_spec {A : Ans R} {I : R → Prop} (hA : AnsOk A I) {all : List Oper} {i : Nat} {sv : SV} {k : SV → R} (h : I (litK A all i sv k)) : ∃ sv', sv' = sv ∧ I (k sv') := by
  unfold litK at h
  split at h
  · rename_i b
    split at h
    · have h := hA.br _ _ _ h
      cases b with
      | true => exact ⟨_, rfl, h.1 rfl⟩
      | false => exact ⟨_, rfl, h.2 rfl⟩
    · exact ⟨_, rfl, h⟩
  · exact ⟨_, rfl, h⟩
def drawC (A : Ans R) (P : Program) (co : CallF C (OT C)) (N : Nat) (all : List Oper) (hp0 : Hp C) (o : Oper) (ih : Nat → Tm → List (Rec C) → Nat → R) (i : Nat) (tm : Tm) (recs : List (Rec C)) (n : Nat) : R :=
  match anc recs o.after.toList with
  | none => A.bad
  | some an => match dstOk N o.dst with
    | false => A.bad
    | true => uHeap an recs hp0 o (pick (rdT all o) tm) fun U => (stepD P co all o (pick (rdT all o) tm) U n).run A fun x => match Nat.ble n x.2.2 with
        | false => A.bad
        | true => takeK x.2.1 (x.2.1.length - U.length) fun δ => match allOk an o.dst (rdT all o) U δ recs with
          | false => A.bad
          | true => litK A all i x.1 fun sv => forceN (i + 1) fun i' => ih i' (putD o.dst sv tm) (⟨i, o.dst, an, rdT all o, sv, U, δ, n, x.2.2⟩ :: recs) x.2.2
def drawGo (A : Ans R) (P : Program) (co : CallF C (OT C)) (N : Nat) (all : List Oper) (hp0 : Hp C) (l : List Oper) (i : Nat) (tm : Tm) (recs : List (Rec C)) (n : Nat) (k : Tm → List (Rec C) → Nat → R) : R :=
  List.rec (motive := fun _ => Nat → Tm → List (Rec C) → Nat → R) (fun _ tm recs n => k tm recs n) (fun o _ ih => drawC A P co N all hp0 o ih) l i tm recs n
/-! Slices that the region cuts are made views ahead of it: so two cuts of one do not meet. What is guessed here is not leant on. -/
def Tr.guess {α : Type} : Tr α → Option α
  | .leaf a => some a
  | .br _ t f => match t.guess with
    | some a => some a
    | none => f.guess
  | .fail => none
/-- What is cut off an owner is told as a part of it: nothing is made a view ahead of a region. -/
def hasCut (_ : List Oper) : Bool := false
def goes (all : List Oper) (o : Oper) (tm : Tm) : Bool := match o.guard with
  | none => true
  | some (j, want) => match gdst all j with
    | some t => match find t tm with
      | some (.raw (.bool b)) => match b, want with
        | true, true => true
        | false, false => true
        | _, _ => false
      | _ => false
    | none => false
def cutOf (o : Op) (vs : List SV) (acc : List Nat) : List Nat := match o with
  | .slice _ _ _ _ _ => match vs with
    | .h x :: _ => x :: acc
    | _ => acc
  | _ => acc
def preGo (P : Program) (all : List Oper) : List Oper → Tm → Hp C → Nat → List Nat → List Nat
  | [], _, _, _, acc => acc
  | o :: r, tm, hp, n, acc => match isCall o.op with
    | true => preGo P all r tm hp n acc
    | false => match goes all o tm with
      | false => preGo P all r tm hp n acc
      | true => match evTs tm (argsOf o.op) with
        | none => preGo P all r tm hp n acc
        | some vs => match (prim P (fun i => find i hp) n o.op vs).guess with
          | none => preGo P all r tm hp n (cutOf o.op vs acc)
          | some x => preGo P all r (putD o.dst x.1 tm) (x.2 ++ hp) (n + 4) (cutOf o.op vs acc)
def demK (l : List Nat) (hp : Hp C) (k : Hp C → R) : R :=
  List.rec (motive := fun _ => Hp C → R) (fun hp => k hp) (fun x _ ih hp => match find x hp with
    | some (.sl true full e ts) => ih ((x, .sl false full e ts) :: hp)
    | _ => ih hp) l hp
def drawS (A : Ans R) (P : Program) (co : CallF C (OT C)) : DrawF C R := fun N ops tm hp n k => match hasCut ops with
  | false => drawGo A P co N ops hp ops 0 tm [] n fun tm' recs n' => hpK (fun _ => true) recs hp fun hp' => k tm' hp' n'
  | true => demK (preGo P ops ops tm hp n []) hp fun hp => drawGo A P co N ops hp ops 0 tm [] n fun tm' recs n' => hpK (fun _ => true) recs hp fun hp' => k tm' hp' n'

theorem demK_spec {I : R → Prop} {k : Hp C → R} {B : World} {X : Own} {ρ : Asg} {n : Nat} {w : World} : ∀ (l : List Nat) (hp : Hp C), I (demK l hp k) → Rel B X ρ hp n w → ∃ hp', I (k hp') ∧ Rel B X ρ hp' n w ∧ hp <:+ hp'
  | [], hp, h, RR => ⟨hp, h, RR, List.suffix_refl _⟩
  | x :: l, hp, h, RR => by
    have h : I (match find x hp with
      | some (.sl true full e ts) => demK l ((x, .sl false full e ts) :: hp) k
      | _ => demK l hp k) := h
    split at h
    · rename_i full e ts hx
      obtain ⟨v, hv, _⟩ := RR.obj x _ hx
      obtain ⟨hp', h1, h2, h3⟩ := demK_spec l _ h (RR.demote hx hv)
      exact ⟨hp', h1, h2, (List.suffix_cons _ _).trans h3⟩
    · exact demK_spec l hp h RR

/-! ### What a run through the region has shown. -/
structure RecOk (P : Program) (co : CallF C (OT C)) (all : List Oper) (N : Nat) (hp0 : Hp C) (tm0 : Tm) (n0 : Nat) (r : Rec C) (rs : List (Rec C)) (o : Oper) : Prop where
  op : all[r.ix]? = some o
  ix : r.ix = rs.length
  dst : r.dst = o.dst
  lt : ∀ t, o.dst = some t → t < N
  an : anc rs o.after.toList = some r.an
  sub : ∀ x v, find x r.U = some v → find x (hpBy (Nat.testBit r.an) rs hp0) = some v
  step : ∃ h', (stepD P co all o (pick r.rd (tmAll rs tm0)) r.U r.lo).get = some (r.sv, h', r.hi) ∧ r.δ = h'.take (h'.length - r.U.length)
  le : r.lo ≤ r.hi
  lo : r.lo = topN n0 rs
  all : allOk r.an r.dst r.rd r.U r.δ rs = true
def Chain (P : Program) (co : CallF C (OT C)) (all : List Oper) (N : Nat) (hp0 : Hp C) (tm0 : Tm) (n0 : Nat) : List (Rec C) → Prop
  | [] => True
  | r :: rs => (∃ o, RecOk P co all N hp0 tm0 n0 r rs o) ∧ Chain P co all N hp0 tm0 n0 rs

theorem uHeap_spec {I : R → Prop} {an : Nat} {recs : List (Rec C)} {hp : Hp C} {o : Oper} {tmU : Tm} {k : Hp C → R} (h : I (uHeap an recs hp o tmU k)) :
    ∃ U, (∀ x v, find x U = some v → find x (hpBy (Nat.testBit an) recs hp) = some v) ∧ I (k U) := by
  unfold uHeap at h
  rw [hpK_eq] at h
  split at h
  · exact ⟨_, fun x v hx => hx, h⟩
  · split at h
    · exact ⟨[], fun x v hx => (by simp [find] at hx), h⟩
    · split at h
      · rw [consAll_eq, List.append_nil] at h
        exact ⟨_, fun x v hx => (find_pick hx).2, h⟩
      · exact ⟨[], fun x v hx => (by simp [find] at hx), h⟩

theorem drawGo_spec {A : Ans R} {I : R → Prop} (no : AnsOk A I) {co : CallF C (OT C)} {N : Nat} {all : List Oper} {hp0 : Hp C} {tm0 : Tm} {n0 : Nat} {k : Tm → List (Rec C) → Nat → R} :
    ∀ (l : List Oper) (i : Nat) (tm : Tm) (recs : List (Rec C)) (n : Nat), I (drawGo A P co N all hp0 l i tm recs n k) → Chain P co all N hp0 tm0 n0 recs → i = recs.length → i ≤ all.length → all.drop i = l → tm = tmAll recs tm0 → n = topN n0 recs →
    ∃ recs', Chain P co all N hp0 tm0 n0 recs' ∧ recs'.length = all.length ∧ I (k (tmAll recs' tm0) recs' (topN n0 recs'))
  | [], i, tm, recs, n, h, hc, hi, hle0, hl, ht, hn => by
    subst ht; subst hn
    have hle : all.length ≤ i := by simpa using List.drop_eq_nil_iff.1 hl
    exact ⟨recs, hc, by omega, h⟩
  | o :: r, i, tm, recs, n, h, hc, hi, hle0, hl, ht, hn => by
    have h : I (drawC A P co N all hp0 o (fun i tm recs n => drawGo A P co N all hp0 r i tm recs n k) i tm recs n) := h
    have ho : all[i]? = some o := by
      have := congrArg (fun l => l[0]?) hl
      simpa using this
    have hr : all.drop (i + 1) = r := by
      have := congrArg List.tail hl
      simpa using this
    unfold drawC at h
    split at h
    · exact (no.no h).elim
    · rename_i an han
      split at h
      · exact (no.no h).elim
      · rename_i hdst
        obtain ⟨U, hU, h⟩ := uHeap_spec h
        obtain ⟨⟨sv, h', n'⟩, hst, h⟩ := Tr.run_get no h
        · split at h
          · exact (no.no h).elim
          · rename_i hble
            rw [takeK_eq] at h
            split at h
            · exact (no.no h).elim
            · rename_i hall
              obtain ⟨_, rfl, h⟩ := litK_spec no h
              rw [forceN_eq] at h
              subst hi; subst ht; subst hn
              refine drawGo_spec no r _ _ _ _ h ⟨⟨o, ⟨ho, rfl, rfl, ?_, han, hU, ⟨h', hst, rfl⟩, Nat.le_of_ble_eq_true hble, rfl, hall⟩⟩, hc⟩ (by simp) (by have := (List.getElem?_eq_some_iff.1 ho).1; omega) hr ?_ rfl
              · intro t ht
                rw [ht] at hdst
                exact Nat.le_of_ble_eq_true hdst
              · simp only [tmAll, putD]
end
end Go.Sx

/-
  The symbolic evaluator: a region in whatever order: why that is sound. Own work; nothing here is trusted.
-/
namespace Go.Sx
noncomputable section
open Go.RowKit

variable {C : Tab} {P : Program} {R : Type}

section stat
variable {co : CallF C (OT C)} {all : List Oper} {N : Nat} {hp0 : Hp C} {tm0 : Tm} {n0 : Nat}

theorem Chain.drop : ∀ {pre rs : List (Rec C)}, Chain P co all N hp0 tm0 n0 (pre ++ rs) → Chain P co all N hp0 tm0 n0 rs
  | [], _, h => h
  | _ :: pre, _, h => Chain.drop (pre := pre) h.2
theorem Chain.at {pre rs : List (Rec C)} {r : Rec C} (h : Chain P co all N hp0 tm0 n0 (pre ++ r :: rs)) : ∃ o, RecOk P co all N hp0 tm0 n0 r rs o := (Chain.drop h).1
theorem Chain.num : ∀ {rs : List (Rec C)}, Chain P co all N hp0 tm0 n0 rs → n0 ≤ topN n0 rs ∧ ∀ r ∈ rs, n0 ≤ r.lo ∧ r.lo ≤ r.hi ∧ r.hi ≤ topN n0 rs
  | [], _ => ⟨Nat.le_refl _, fun r hr => by cases hr⟩
  | x :: rs, ⟨⟨o, h⟩, hc⟩ => by
    obtain ⟨h1, h2⟩ := Chain.num hc
    have := h.le
    have h3 : x.lo = topN n0 rs := h.lo
    have ht : topN n0 (x :: rs) = x.hi := rfl
    refine ⟨by omega, fun r hr => ?_⟩
    rcases List.mem_cons.1 hr with rfl | hr
    · omega
    · have := h2 r hr; omega
theorem Chain.ix_lt : ∀ {rs : List (Rec C)}, Chain P co all N hp0 tm0 n0 rs → ∀ r ∈ rs, r.ix < rs.length
  | [], _, r, hr => by cases hr
  | x :: rs, ⟨⟨o, h⟩, hc⟩, r, hr => by
    have h3 : x.ix = rs.length := h.ix
    simp only [List.length_cons]
    rcases List.mem_cons.1 hr with rfl | hr
    · omega
    · have := Chain.ix_lt hc r hr; omega
theorem Chain.ix_ex : ∀ {rs : List (Rec C)}, Chain P co all N hp0 tm0 n0 rs → ∀ i, i < rs.length → ∃ r ∈ rs, r.ix = i
  | [], _, i, hi => by simp at hi
  | x :: rs, ⟨⟨o, h⟩, hc⟩, i, hi => by
    have h3 : x.ix = rs.length := h.ix
    simp only [List.length_cons] at hi
    by_cases hx : i = rs.length
    · exact ⟨x, List.mem_cons_self, by omega⟩
    · obtain ⟨r, hr, he⟩ := Chain.ix_ex hc i (by omega)
      exact ⟨r, List.mem_cons_of_mem _ hr, he⟩
/-- Those that come later in the region stand ahead in the list. -/
theorem Chain.later {pre rs : List (Rec C)} {r : Rec C} (h : Chain P co all N hp0 tm0 n0 (pre ++ r :: rs)) {r' : Rec C} (hr : r' ∈ pre) : r.ix < r'.ix ∧ r.hi ≤ r'.lo ∧ pairOk r'.an r'.dst r'.rd r'.U r'.δ r = true := by
  obtain ⟨p1, p2, rfl⟩ := List.append_of_mem hr
  rw [List.append_assoc, List.cons_append] at h
  obtain ⟨o, ho⟩ := h.at
  have hc : Chain P co all N hp0 tm0 n0 (p2 ++ r :: rs) := (Chain.drop h).2
  have hm : r ∈ p2 ++ r :: rs := by simp
  refine ⟨by have := hc.ix_lt r hm; rw [ho.ix]; exact this, by rw [ho.lo]; exact (hc.num.2 r hm).2.2, ?_⟩
  have : ∀ l : List (Rec C), r ∈ l → allOk r'.an r'.dst r'.rd r'.U r'.δ l = true → pairOk r'.an r'.dst r'.rd r'.U r'.δ r = true := by
    intro l
    induction l with
    | nil => intro h; cases h
    | cons y l ih =>
      intro hy ha
      unfold allOk at ha
      split at ha
      · rename_i hp
        rcases List.mem_cons.1 hy with rfl | hy
        · exact hp
        · exact ih hy ha
      · cases ha
  exact this _ hm ho.all
theorem Chain.pair {pre rs : List (Rec C)} {r : Rec C} (h : Chain P co all N hp0 tm0 n0 (pre ++ r :: rs)) {r' : Rec C} (hr : r' ∈ rs) : r'.ix < r.ix ∧ r'.hi ≤ r.lo ∧ pairOk r.an r.dst r.rd r.U r.δ r' = true := by
  obtain ⟨p1, p2, rfl⟩ := List.append_of_mem hr
  have : pre ++ r :: (p1 ++ r' :: p2) = (pre ++ r :: p1) ++ r' :: p2 := by simp
  rw [this] at h
  exact h.later (r' := r) (by simp)

structure PairFacts (an : Nat) (dst : Option Tmp) (rd : List Tmp) (U δ : Hp C) (r : Rec C) : Prop where
  ne : ∀ t, dst = some t → r.dst ≠ some t
  un : an.testBit r.ix = false → (∀ t, dst = some t → t ∉ r.rd) ∧ (∀ t, r.dst = some t → t ∉ rd) ∧ (∀ x o, find x r.U = some o → find x δ = none) ∧ (∀ x o, find x U = some o → find x r.δ = none) ∧ (∀ x o, find x δ = some o → find x r.δ = none)
theorem rdOk_spec {dst : Option Tmp} {rd : List Tmp} (h : rdOk dst rd false = true) : ∀ t, dst = some t → t ∉ rd := by
  intro t ht hm
  subst ht
  unfold rdOk at h
  simp only [memN_mem hm] at h
  cases h
theorem pairOk_spec {an : Nat} {dst : Option Tmp} {rd : List Tmp} {U δ : Hp C} {r : Rec C} (h : pairOk an dst rd U δ r = true) : PairFacts an dst rd U δ r := by
  unfold pairOk at h
  split at h
  · cases h
  · rename_i hne
    refine ⟨?_, ?_⟩
    · intro t ht hr
      rw [ht, hr] at hne
      unfold dstNe at hne
      simp at hne
    · intro hb
      rw [hb] at h
      simp only at h
      split at h
      · cases h
      · rename_i h1
        split at h
        · cases h
        · rename_i h2
          split at h
          · cases h
          · rename_i h3
            split at h
            · cases h
            · rename_i h4
              exact ⟨rdOk_spec h1, rdOk_spec h2, fun x o hx => apart_find hx h3, fun x o hx => apart_find hx h4, fun x o hx => apart_find hx h⟩

theorem recOf_mem : ∀ {rs : List (Rec C)} {i : Nat} {r : Rec C}, recOf rs i = some r → r ∈ rs ∧ r.ix = i
  | x :: rs, i, r, h => by
    unfold recOf at h
    split at h
    · rename_i hb; cases h; exact ⟨List.mem_cons_self, Nat.eq_of_beq_eq_true hb⟩
    · have := recOf_mem h; exact ⟨List.mem_cons_of_mem _ this.1, this.2⟩
theorem anc_spec {rs : List (Rec C)} : ∀ {es : List Edge} {m : Nat}, anc rs es = some m →
    (∀ x, m.testBit x = true → ∃ e ∈ es, Region.binds .any e = true ∧ (x = e.on ∨ ∃ r ∈ rs, r.ix = e.on ∧ r.an.testBit x = true)) ∧ ∀ e ∈ es, Region.binds .any e = true → ∃ r ∈ rs, r.ix = e.on
  | [], m, h => by
    simp only [anc, Option.some.injEq] at h; subst h
    exact ⟨fun x hx => by simp at hx, fun e he => by cases he⟩
  | e :: es, m, h => by
    unfold anc at h
    split at h
    · rename_i hb
      obtain ⟨h1, h2⟩ := anc_spec h
      refine ⟨fun x hx => ?_, fun e' he hb' => ?_⟩
      · obtain ⟨e', he', h3⟩ := h1 x hx; exact ⟨e', List.mem_cons_of_mem _ he', h3⟩
      · rcases List.mem_cons.1 he with rfl | he
        · rw [hb] at hb'; cases hb'
        · exact h2 e' he hb'
    · rename_i hb
      split at h
      · rename_i r hr
        split at h
        · rename_i m' hm'
          simp only [Option.some.injEq] at h; subst h
          obtain ⟨h1, h2⟩ := anc_spec hm'
          obtain ⟨hr1, hr2⟩ := recOf_mem hr
          refine ⟨fun x hx => ?_, fun e' he hb' => ?_⟩
          · rw [Nat.testBit_or, Nat.testBit_or, Nat.testBit_two_pow, Bool.or_eq_true, Bool.or_eq_true, decide_eq_true_eq] at hx
            rcases hx with hx | hx | hx
            · obtain ⟨e', he', h3⟩ := h1 x hx; exact ⟨e', List.mem_cons_of_mem _ he', h3⟩
            · exact ⟨e, List.mem_cons_self, hb, .inr ⟨r, hr1, hr2, hx⟩⟩
            · exact ⟨e, List.mem_cons_self, hb, .inl hx.symm⟩
          · rcases List.mem_cons.1 he with rfl | he
            · exact ⟨r, hr1, hr2⟩
            · exact h2 e' he hb'
        · cases h
      · cases h

theorem find_by_congr {f g : Nat → Bool} {x : Nat} {hp : Hp C} : ∀ {l : List (Rec C)}, (∀ r ∈ l, f r.ix = g r.ix ∨ find x r.δ = none) → find x (hpBy f l hp) = find x (hpBy g l hp)
  | [], _ => rfl
  | r :: l, h => by
    have ih := find_by_congr (f := f) (g := g) (x := x) (hp := hp) (l := l) fun r hr => h r (List.mem_cons_of_mem _ hr)
    unfold hpBy
    rcases h r List.mem_cons_self with h | h
    · rw [h]
      split
      · rw [find_append, find_append, ih]
      · exact ih
    · have e : ∀ H : Hp C, find x (r.δ ++ H) = find x H := fun H => by rw [find_append, h]
      split <;> split <;> simp only [e, ih]
theorem hpBy_cons (f : Nat → Bool) (r : Rec C) (l : List (Rec C)) (hp : Hp C) : hpBy f (r :: l) hp = match f r.ix with
  | true => r.δ ++ hpBy f l hp
  | false => hpBy f l hp := rfl
theorem find_by_pre {f : Nat → Bool} {x : Nat} {hp : Hp C} {l : List (Rec C)} : ∀ {pre : List (Rec C)}, (∀ r ∈ pre, f r.ix = false ∨ find x r.δ = none) → find x (hpBy f (pre ++ l) hp) = find x (hpBy f l hp)
  | [], _ => rfl
  | r :: pre, h => by
    have ih := find_by_pre (f := f) (x := x) (hp := hp) (l := l) (pre := pre) fun r hr => h r (List.mem_cons_of_mem _ hr)
    rw [List.cons_append, hpBy_cons]
    rcases h r List.mem_cons_self with h | h
    · rw [h]; exact ih
    · split
      · rw [find_append, h]; exact ih
      · exact ih
theorem find_by_cases {f : Nat → Bool} {x : Nat} {hp : Hp C} {o : SO C} : ∀ {l : List (Rec C)}, find x (hpBy f l hp) = some o → (∃ r ∈ l, f r.ix = true ∧ find x r.δ = some o) ∨ find x hp = some o
  | [], h => .inr h
  | r :: l, h => by
    unfold hpBy at h
    split at h
    · rename_i hf
      rw [find_append] at h
      split at h
      · rename_i o' ho; cases h; exact .inl ⟨r, List.mem_cons_self, hf, ho⟩
      · rcases find_by_cases h with ⟨r', hr, h'⟩ | h'
        · exact .inl ⟨r', List.mem_cons_of_mem _ hr, h'⟩
        · exact .inr h'
    · rcases find_by_cases h with ⟨r', hr, h'⟩ | h'
      · exact .inl ⟨r', List.mem_cons_of_mem _ hr, h'⟩
      · exact .inr h'
theorem by_suffix {f : Nat → Bool} {hp : Hp C} : ∀ (l : List (Rec C)), hp <:+ hpBy f l hp
  | [] => List.suffix_refl _
  | r :: l => by
    unfold hpBy
    split
    · exact (by_suffix l).trans (List.suffix_append _ _)
    · exact by_suffix l
theorem find_tmAll {t : Tmp} {sv : SV} {tm : Tm} : ∀ {l : List (Rec C)}, find t (tmAll l tm) = some sv → (∃ r ∈ l, r.dst = some t ∧ r.sv = sv) ∨ (find t tm = some sv ∧ ∀ r ∈ l, r.dst ≠ some t)
  | [], h => .inr ⟨h, fun r hr => by cases hr⟩
  | r :: l, h => by
    unfold tmAll at h
    split at h
    · rename_i u hu
      rw [find_cons] at h
      split at h
      · rename_i e; subst e; cases h; exact .inl ⟨r, List.mem_cons_self, hu, rfl⟩
      · rename_i hne
        rcases find_tmAll h with ⟨r', hr, h'⟩ | ⟨h1, h2⟩
        · exact .inl ⟨r', List.mem_cons_of_mem _ hr, h'⟩
        · refine .inr ⟨h1, fun r' hr => ?_⟩
          rcases List.mem_cons.1 hr with rfl | hr
          · rw [hu]; intro e; cases e; exact hne rfl
          · exact h2 r' hr
    · rename_i hu
      rcases find_tmAll h with ⟨r', hr, h'⟩ | ⟨h1, h2⟩
      · exact .inl ⟨r', List.mem_cons_of_mem _ hr, h'⟩
      · refine .inr ⟨h1, fun r' hr => ?_⟩
        rcases List.mem_cons.1 hr with rfl | hr
        · rw [hu]; intro e; cases e
        · exact h2 r' hr

def lis (listed : Array Bool) (x : Nat) : Bool := listed.getD x false
theorem lis_set {listed : Array Bool} {i : Nat} (hi : i < listed.size) (x : Nat) : lis (listed.setIfInBounds i true) x = if x = i then true else lis listed x := by
  unfold lis
  by_cases h : x = i
  · subst h; simp [hi]
  · rw [if_neg h, getD_set_ne false (Ne.symm h)]

structure Inv (co : CallF C (OT C)) (all : List Oper) (N : Nat) (hp0 : Hp C) (tm0 : Tm) (n0 : Nat) (ρ0 : Asg) (B : World) (X : Own) (recs : List (Rec C)) (listed : Array Bool) (a : Act) (w : World) (ρ : Asg) : Prop where
  size : a.tmps.size = N
  defers : a.defers = []
  lsz : listed.size = recs.length
  rel : Rel B X ρ (hpBy (lis listed) recs hp0) (topN n0 recs) w
  base : cut ρ n0 = ρ0
  closed : ∀ r ∈ recs, lis listed r.ix = true → ∀ x, r.an.testBit x = true → lis listed x = true
  unas : ∀ r ∈ recs, lis listed r.ix = false → ∀ x, r.lo ≤ x → x < r.hi → ρ x = none
  val : ∀ r ∈ recs, lis listed r.ix = true → ∃ v, den (cut ρ r.hi) r.sv = some v ∧ ∀ t, r.dst = some t → a.tmps[t]? = some v
  ent : ∀ r ∈ recs, lis listed r.ix = true → ∀ x o, find x r.δ = some o → x < r.hi ∧ denO (cut ρ r.hi) o
  btm : ∀ t sv, find t tm0 = some sv → (∀ r ∈ recs, lis listed r.ix = true → r.dst ≠ some t) → ∃ v, den ρ0 sv = some v ∧ a.tmps[t]? = some v
end stat

section step
variable {co : CallF C (OT C)} {all : List Oper} {N : Nat} {hp0 : Hp C} {tm0 : Tm} {n0 : Nat} {ρ0 : Asg} {B : World} {X : Own} {pre rs : List (Rec C)} {r : Rec C} {listed : Array Bool} {a : Act} {w : World} {ρ : Asg}

/-- What of the operation's surroundings stands as it was reckoned. -/
structure Ready (co : CallF C (OT C)) (all : List Oper) (N : Nat) (hp0 : Hp C) (tm0 : Tm) (n0 : Nat) (ρ0 : Asg) (B : World) (X : Own) (pre rs : List (Rec C)) (r : Rec C) (listed : Array Bool) (a : Act) (w : World) (ρ : Asg) : Prop where
  chain : Chain P co all N hp0 tm0 n0 (pre ++ r :: rs)
  inv : Inv co all N hp0 tm0 n0 ρ0 B X (pre ++ r :: rs) listed a w ρ
  off : lis listed r.ix = false
  anc : ∀ x, r.an.testBit x = true → lis listed x = true
  hb : ∀ x o, find x hp0 = some o → x < n0 ∧ denO ρ0 o
  nb : X.nb ≤ n0

theorem Ready.loN (h : Ready (P := P) co all N hp0 tm0 n0 ρ0 B X pre rs r listed a w ρ) : n0 ≤ r.lo ∧ r.lo ≤ r.hi ∧ r.hi ≤ topN n0 (pre ++ r :: rs) := h.chain.num.2 r (by simp)

theorem Ready.pre_un (h : Ready (P := P) co all N hp0 tm0 n0 ρ0 B X pre rs r listed a w ρ) {r' : Rec C} (hr : r' ∈ pre) (hl : lis listed r'.ix = true) : r'.an.testBit r.ix = false := by
  cases hb : r'.an.testBit r.ix with
  | false => rfl
  | true => have := h.inv.closed r' (by simp [hr]) hl r.ix hb; rw [h.off] at this; cases this

theorem Ready.within (h : Ready (P := P) co all N hp0 tm0 n0 ρ0 B X pre rs r listed a w ρ) : Within ρ (hpBy (lis listed) (pre ++ r :: rs) hp0) r.U r.lo := by
  obtain ⟨o, ho⟩ := h.chain.at
  obtain ⟨l1, l2, l3⟩ := h.loN
  intro x ob hx
  have h1 := ho.sub x ob hx
  have e1 : find x (hpBy (lis listed) (pre ++ r :: rs) hp0) = find x (hpBy (lis listed) (r :: rs) hp0) := find_by_pre fun r' hr => by
    cases hl : lis listed r'.ix with
    | false => exact .inl rfl
    | true => exact .inr (((pairOk_spec (h.chain.later hr).2.2).un (h.pre_un hr hl)).2.2.1 x ob hx)
  have e2 : find x (hpBy (lis listed) (r :: rs) hp0) = find x (hpBy (lis listed) rs hp0) := find_by_pre (pre := [r]) fun r' hr => by
    simp only [List.mem_singleton] at hr; subst hr; exact .inl h.off
  have e3 : find x (hpBy (lis listed) rs hp0) = find x (hpBy (Nat.testBit r.an) rs hp0) := find_by_congr fun r' hr => by
    cases hb : r.an.testBit r'.ix with
    | true => exact .inl (h.anc _ hb)
    | false => exact .inr (((pairOk_spec (h.chain.pair hr).2.2).un hb).2.2.2.1 x ob hx)
  refine ⟨by rw [e1, e2, e3]; exact h1, ?_⟩
  rcases find_by_cases h1 with ⟨r', hr, hb, hd⟩ | hd
  · obtain ⟨g1, g2⟩ := h.inv.ent r' (by simp [hr]) (h.anc _ hb) x ob hd
    have := (h.chain.pair hr).2.1
    exact ⟨by omega, denO_mono (cut_mono this) g2⟩
  · obtain ⟨g1, g2⟩ := h.hb x ob hd
    rw [← h.inv.base] at g2
    exact ⟨by omega, denO_mono (cut_mono l1) g2⟩

theorem Ready.tm (h : Ready (P := P) co all N hp0 tm0 n0 ρ0 B X pre rs r listed a w ρ) : TmOk (cut ρ r.lo) (pick r.rd (tmAll rs tm0)) a := by
  obtain ⟨l1, l2, l3⟩ := h.loN
  intro t sv ht
  obtain ⟨hm, ht⟩ := find_pick ht
  rcases find_tmAll ht with ⟨r', hr, hd, rfl⟩ | ⟨ht, hno⟩
  · obtain ⟨_, hle, hp⟩ := h.chain.pair hr
    have hbit : r.an.testBit r'.ix = true := by
      cases hb : r.an.testBit r'.ix with
      | true => rfl
      | false => exact absurd hm (((pairOk_spec hp).un hb).2.1 t hd)
    obtain ⟨v, h1, h2⟩ := h.inv.val r' (by simp [hr]) (h.anc _ hbit)
    exact ⟨v, den_mono (cut_mono hle) _ _ h1, h2 t hd⟩
  · obtain ⟨v, h1, h2⟩ := h.inv.btm t sv ht fun r' hr hl => by
      rcases List.mem_append.1 hr with hr | hr
      · intro e
        exact ((pairOk_spec (h.chain.later hr).2.2).un (h.pre_un hr hl)).1 t e hm
      · rcases List.mem_cons.1 hr with rfl | hr
        · rw [h.off] at hl; cases hl
        · exact hno r' hr
    rw [← h.inv.base] at h1
    exact ⟨v, den_mono (cut_mono l1) _ _ h1, h2⟩

theorem Ready.next (h : Ready (P := P) co all N hp0 tm0 n0 ρ0 B X pre rs r listed a w ρ) {ρ1 : Asg} {v : Value} {w1 : World} (hden : den ρ1 r.sv = some v) (hrel : Rel w (ownOf ρ r.U r.lo X.fz) ρ1 (r.δ ++ r.U) r.hi w1) :
    ∃ ρ', Inv co all N hp0 tm0 n0 ρ0 B X (pre ++ r :: rs) (listed.setIfInBounds r.ix true) (a.put r.dst v) w1 ρ' := by
  obtain ⟨o, ho⟩ := h.chain.at
  obtain ⟨l1, l2, l3⟩ := h.loN
  have hmem : r ∈ pre ++ r :: rs := by simp
  have hix : r.ix < listed.size := by rw [h.inv.lsz]; exact h.chain.ix_lt r hmem
  have hset := lis_set hix
  have hother : ∀ r' ∈ pre ++ r :: rs, r'.ix ≠ r.ix → r' ∈ pre ∨ r' ∈ rs := fun r' hr hne => by
    rcases List.mem_append.1 hr with hr | hr
    · exact .inl hr
    · rcases List.mem_cons.1 hr with rfl | hr
      · exact absurd rfl hne
      · exact .inr hr
  have hsame : ∀ r' ∈ pre ++ r :: rs, r'.ix = r.ix → r' = r := fun r' hr he => by
    rcases List.mem_append.1 hr with hr | hr
    · have := (h.chain.later hr).1; omega
    · rcases List.mem_cons.1 hr with rfl | hr
      · rfl
      · have := (h.chain.pair hr).1; omega
  obtain ⟨m1, m2, m3⟩ := Rel.merge (H' := hpBy (lis (listed.setIfInBounds r.ix true)) (pre ++ r :: rs) hp0) h.inv.rel h.within hrel l2 l3 (h.inv.unas r hmem h.off) (by have := h.nb; omega)
    (fun x ob hx => by
      rw [find_by_pre fun r' hr => ?_]
      · unfold hpBy
        rw [hset, if_pos rfl]
        simp only [find_append, hx]
      · have hlt := (h.chain.later hr).1
        rw [hset, if_neg (by omega)]
        cases hl : lis listed r'.ix with
        | false => exact .inl rfl
        | true =>
          right
          cases hd : find x r'.δ with
          | none => rfl
          | some o' =>
            have := ((pairOk_spec (h.chain.later hr).2.2).un (h.pre_un hr hl)).2.2.2.2 x o' hd
            rw [hx] at this; cases this)
    (fun x hx => find_by_congr fun r' hr => by
      rw [hset]
      by_cases he : r'.ix = r.ix
      · rw [hsame r' hr he]; exact .inr hx
      · rw [if_neg he]; exact .inl rfl)
    (fun x => by rw [find_append]; cases find x r.δ <;> rfl)
  refine ⟨mergeA ρ ρ1 r.lo r.hi, ?_⟩
  have hputs : ∀ t, r.dst ≠ some t → (a.put r.dst v).tmps[t]? = a.tmps[t]? := fun t ht => by
    cases hd : r.dst with
    | none => rfl
    | some u =>
      have : u ≠ t := fun e => ht (by rw [hd, e])
      simp [Act.put, Array.getElem?_setIfInBounds_ne this]
  constructor
  · rw [put_size]; exact h.inv.size
  · rw [put_defers]; exact h.inv.defers
  · rw [Array.size_setIfInBounds]; exact h.inv.lsz
  · exact m1
  · rw [← h.inv.base]
    funext x
    unfold cut mergeA
    by_cases hx : x < n0
    · rw [if_pos hx, if_pos hx, if_neg (by omega)]
    · rw [if_neg hx, if_neg hx]
  · intro r' hr hl x hx
    rw [hset] at hl ⊢
    by_cases hxi : x = r.ix
    · rw [if_pos hxi]
    · rw [if_neg hxi]
      by_cases he : r'.ix = r.ix
      · rw [hsame r' hr he] at hx; exact h.anc x hx
      · rw [if_neg he] at hl; exact h.inv.closed r' hr hl x hx
  · intro r' hr hl x hx1 hx2
    rw [hset] at hl
    by_cases he : r'.ix = r.ix
    · rw [if_pos he] at hl; cases hl
    · rw [if_neg he] at hl
      unfold mergeA
      have : ¬ (r.lo ≤ x ∧ x < r.hi) := by
        rcases hother r' hr he with hr | hr
        · have := (h.chain.later hr).2.1; omega
        · have := (h.chain.pair hr).2.1; omega
      rw [if_neg this]
      exact h.inv.unas r' hr hl x hx1 hx2
  · intro r' hr hl
    rw [hset] at hl
    by_cases he : r'.ix = r.ix
    · rw [hsame r' hr he]
      refine ⟨v, by rw [← m2]; exact hden, fun t ht => ?_⟩
      have : t < N := ho.lt t (by rw [← ho.dst]; exact ht)
      rw [ht]
      simp [Act.put, h.inv.size, this]
    · rw [if_neg he] at hl
      obtain ⟨u, h1, h2⟩ := h.inv.val r' hr hl
      have hle : (cut ρ r'.hi).le (cut (mergeA ρ ρ1 r.lo r.hi) r'.hi) := fun i x hi => by
        unfold cut at hi ⊢
        split at hi
        · rename_i hlt; rw [if_pos hlt]; exact m3 _ _ hi
        · cases hi
      refine ⟨u, den_mono hle _ _ h1, fun t ht => ?_⟩
      rw [hputs t ?_]
      · exact h2 t ht
      · intro e
        rcases hother r' hr he with hr | hr
        · exact (pairOk_spec (h.chain.later hr).2.2).ne t ht e
        · exact (pairOk_spec (h.chain.pair hr).2.2).ne t e ht
  · intro r' hr hl x ob hx
    rw [hset] at hl
    by_cases he : r'.ix = r.ix
    · rw [hsame r' hr he] at hx ⊢
      have hx' : find x (r.δ ++ r.U) = some ob := by rw [find_append, hx]
      obtain ⟨u, hu, hok⟩ := hrel.obj x ob hx'
      refine ⟨?_, by rw [← m2]; exact hok.toDen⟩
      by_cases hlt : x < r.hi
      · exact hlt
      · rw [hrel.fresh x (by omega)] at hu; cases hu
    · rw [if_neg he] at hl
      obtain ⟨h1, h2⟩ := h.inv.ent r' hr hl x ob hx
      refine ⟨h1, denO_mono (fun i x hi => ?_) h2⟩
      unfold cut at hi ⊢
      split at hi
      · rename_i hlt; rw [if_pos hlt]; exact m3 _ _ hi
      · cases hi
  · intro t sv ht hno
    obtain ⟨u, h1, h2⟩ := h.inv.btm t sv ht fun r' hr hl => hno r' hr (by rw [hset]; split <;> first | rfl | exact hl)
    refine ⟨u, h1, ?_⟩
    rw [hputs t (hno r hmem (by rw [hset, if_pos rfl]))]
    exact h2
end step
end
end Go.Sx

/-
  The symbolic evaluator: a region in whatever order: its rule. Own work; nothing here is trusted.
-/
namespace Go.Sx
noncomputable section
open Go.RowKit

variable {C : Tab} {P : Program} {R : Type}
section fin
variable {co : CallF C (OT C)} {N : Nat} {hp0 : Hp C} {tm0 : Tm} {n0 : Nat} {ρ0 : Asg} {B : World} {X : Own} {recs pre rs : List (Rec C)} {r : Rec C} {listed : Array Bool} {a : Act} {w : World} {ρ : Asg} {ops : Array Oper} {Q : Exit → Act → World → Prop}

theorem Ready.wpOp (hp0' : Plain P) (hco : ∀ x : SV × Hp C × Nat, CallOk P (fun y : OT C => y.get = some x) co) (h : Ready (P := P) co ops.toList N hp0 tm0 n0 ρ0 B X pre rs r listed a w ρ) {K : Act → World → Prop}
    (hK : ∀ a' w', (∃ ρ', Inv co ops.toList N hp0 tm0 n0 ρ0 B X (pre ++ r :: rs) (listed.setIfInBounds r.ix true) a' w' ρ') → K a' w') : Go.wpOp P ops Q r.ix K a w := by
  obtain ⟨o, ho⟩ := h.chain.at
  have hop : ops[r.ix]? = some o := by have := ho.op; rwa [Array.getElem?_toList] at this
  obtain ⟨h', hst, hδ⟩ := ho.step
  have RR := h.inv.rel.restrict h.within
  have T := h.tm
  have no := ansT_ok (r.sv, h', r.hi)
  have go : (stepO (ansT _) P co o.op (pick r.rd (tmAll rs tm0)) r.U r.lo (fun sv hp n => forceV sv fun sv => .leaf (sv, hp, n))).get = some (r.sv, h', r.hi) → o.wp P a w K Q := fun hs =>
    stepO_sound (I := fun y : OT C => y.get = some (r.sv, h', r.hi)) hp0' no (hco _) RR T hs fun ρ1 v sv hp1 n1 w1 g1 g2 g3 g4 g5 => by
      have g5 : (forceV sv (fun sv => (.leaf (sv, hp1, n1) : OT C))).get = some (r.sv, h', r.hi) := g5
      rw [forceV_eq] at g5
      simp only [Tr.get, Option.some.injEq, Prod.mk.injEq] at g5
      obtain ⟨rfl, rfl, rfl⟩ := g5
      obtain ⟨d, hd⟩ := g2.2
      have hδ' : r.δ = d := by rw [hδ, ← hd]; simp
      rw [← hd, ← hδ'] at g4
      rw [← ho.dst]
      exact hK _ _ (h.next g3 g4)
  have skip : (Tr.leaf (.raw undef, r.U, r.lo) : OT C).get = some (r.sv, h', r.hi) → K (a.put o.dst undef) w := fun hs => by
    simp only [Tr.get, Option.some.injEq, Prod.mk.injEq] at hs
    obtain ⟨e1, e2, e3⟩ := hs
    have hδ' : r.δ = [] := by rw [hδ, ← e2]; simp
    rw [← ho.dst]
    refine hK _ _ (h.next (ρ1 := cut ρ r.lo) (v := undef) (by rw [← e1]; rfl) ?_)
    rw [hδ', ← e3]
    exact RR
  unfold Go.wpOp
  rw [hop]
  simp only
  unfold stepD at hst
  split at hst
  · rename_i hg
    rw [if_pos (by simp [Region.wanted, hg])]
    exact .inl (go hst)
  · rename_i j want hg
    split at hst
    · rename_i t ht
      split at hst
      · rename_i b hb
        have hy := yielded_of T ht hb
        rw [Array.toArray_toList] at hy
        have hst := no.br _ _ _ hst
        cases b with
        | true =>
          have hst := hst.1 rfl
          cases want with
          | true => rw [if_pos (by simp [Region.wanted, hg, hy])]; exact .inl (go hst)
          | false => rw [if_neg (by simp [Region.wanted, hg, hy])]; exact skip hst
        | false =>
          have hst := hst.2 rfl
          cases want with
          | false => rw [if_pos (by simp [Region.wanted, hg, hy])]; exact .inl (go hst)
          | true => rw [if_neg (by simp [Region.wanted, hg, hy])]; exact skip hst
      · rename_i u hnb hb
        have hy := yielded_no T ht hb fun b e => by subst e; exact hnb b rfl
        rw [Array.toArray_toList] at hy
        rw [if_neg (by simp [Region.wanted, hg, hy])]
        exact skip hst
      · cases hst
    · cases hst

def cnt (listed : Array Bool) (n : Nat) : Nat := (List.range n).countP fun i => !(lis listed i)
theorem countP_lt {p p' : Nat → Bool} (hle : ∀ x, p' x = true → p x = true) {i : Nat} (hp : p i = true) (hp' : p' i = false) : ∀ {l : List Nat}, i ∈ l → l.countP p' < l.countP p
  | x :: l, h => by
    have mono : ∀ l : List Nat, l.countP p' ≤ l.countP p := fun l => List.countP_mono_left fun x _ hx => hle x hx
    rw [List.countP_cons, List.countP_cons]
    rcases List.mem_cons.1 h with rfl | h
    · rw [hp, hp']; have := mono l; simp; omega
    · have ih := countP_lt hle hp hp' h
      cases hx : p' x
      · by_cases hpx : p x = true <;> simp [hpx] <;> omega
      · rw [hle x hx]; simp; omega

theorem Inv.any (hp0' : Plain P) (hco : ∀ x : SV × Hp C × Nat, CallOk P (fun y : OT C => y.get = some x) co) (hch : Chain P co ops.toList N hp0 tm0 n0 recs) (hlen : recs.length = ops.size)
    (hb : ∀ x o, find x hp0 = some o → x < n0 ∧ denO ρ0 o) (nb : X.nb ≤ n0)
    (hQ : ∀ listed a w ρ, Inv co ops.toList N hp0 tm0 n0 ρ0 B X recs listed a w ρ → (∀ r ∈ recs, lis listed r.ix = true) → Q .normal a w) :
    ∀ (fuel : Nat) (listed : Array Bool) (a : Act) (w : World), (∃ ρ, Inv co ops.toList N hp0 tm0 n0 ρ0 B X recs listed a w ρ) → cnt listed ops.size ≤ fuel → wpAny P .any ops Q fuel listed a w := by
  have offOf : ∀ {listed : Array Bool} {i : Nat}, listed.size = ops.size → i < ops.size → listed.getD i true = false → lis listed i = false := fun {listed i} hs hi h => by
    unfold lis
    simp only [Array.getD_eq_getD_getElem?] at h ⊢
    rw [Array.getElem?_eq_getElem (by omega)] at h ⊢
    exact h
  have onOf : ∀ {listed : Array Bool} {i : Nat}, listed.size = ops.size → i < ops.size → lis listed i = false → listed.getD i true = false := fun {listed i} hs hi h => by
    unfold lis at h
    simp only [Array.getD_eq_getD_getElem?] at h ⊢
    rw [Array.getElem?_eq_getElem (by omega)] at h ⊢
    exact h
  have allOn : ∀ (listed : Array Bool), listed.size = ops.size → Region.ready .any ops listed = [] → ∀ r ∈ recs, lis listed r.ix = true := fun listed hs hr => by
    have : ∀ i, i < ops.size → lis listed i = true := by
      intro i
      induction i using Nat.strongRecOn with
      | ind i ih =>
        intro hi
        cases hl : lis listed i with
        | true => rfl
        | false =>
          obtain ⟨r, hm, rfl⟩ := hch.ix_ex i (by omega)
          obtain ⟨pre, rs, rfl⟩ := List.append_of_mem hm
          obtain ⟨o, ho⟩ := hch.at
          have hop : ops[r.ix]? = some o := by have := ho.op; rwa [Array.getElem?_toList] at this
          have : r.ix ∈ Region.ready .any ops listed := mem_ready.2 ⟨onOf hs hi hl, o, hop, fun e he hbd => by
            obtain ⟨r', hr', hx⟩ := (anc_spec ho.an).2 e (by simpa using he) hbd
            have := (hch.pair hr').1
            have := ih e.on (by omega) (by omega)
            exact this⟩
          rw [hr] at this; cases this
    exact fun r hm => this r.ix (by have := hch.ix_lt r hm; omega)
  intro fuel
  induction fuel with
  | zero =>
    intro listed a w ⟨ρ, hi⟩ hc
    have hs : listed.size = ops.size := by rw [hi.lsz, hlen]
    have hready : Region.ready .any ops listed = [] := by
      rw [List.eq_nil_iff_forall_not_mem]
      intro j hj
      obtain ⟨hun, o, ho, _⟩ := mem_ready.1 hj
      have hlt : j < ops.size := (Array.getElem?_eq_some_iff.1 ho).1
      have : 0 < cnt listed ops.size := List.countP_pos_iff.2 ⟨j, List.mem_range.2 hlt, by simp [offOf hs hlt hun]⟩
      omega
    exact ⟨hready, hQ listed a w ρ hi (allOn listed hs hready)⟩
  | succ fuel ih =>
    intro listed a w ⟨ρ, hi⟩ hc
    have hs : listed.size = ops.size := by rw [hi.lsz, hlen]
    refine ⟨fun hready => hQ listed a w ρ hi (allOn listed hs hready), fun i hri => ?_⟩
    obtain ⟨hun, o, hop, haft⟩ := mem_ready.1 hri
    have hlt : i < ops.size := (Array.getElem?_eq_some_iff.1 hop).1
    have hoff := offOf hs hlt hun
    obtain ⟨r, hm, rfl⟩ := hch.ix_ex i (by omega)
    obtain ⟨pre, rs, rfl⟩ := List.append_of_mem hm
    obtain ⟨o', ho'⟩ := hch.at
    have hop' : ops[r.ix]? = some o' := by have := ho'.op; rwa [Array.getElem?_toList] at this
    rw [hop] at hop'; cases hop'
    have hanc : ∀ x, r.an.testBit x = true → lis listed x = true := fun x hx => by
      obtain ⟨e, he, hbd, hx⟩ := (anc_spec ho'.an).1 x hx
      have hon : lis listed e.on = true := haft e (by simpa using he) hbd
      rcases hx with rfl | ⟨r', hr', he', hx⟩
      · exact hon
      · exact hi.closed r' (by simp [hr']) (by rw [he']; exact hon) x hx
    refine Ready.wpOp hp0' hco ⟨hch, hi, hoff, hanc, hb, nb⟩ fun a' w' hi' => ih _ a' w' hi' ?_
    have hset := lis_set (listed := listed) (i := r.ix) (by omega)
    have : cnt (listed.setIfInBounds r.ix true) ops.size < cnt listed ops.size := by
      refine countP_lt (i := r.ix) (fun x hx => ?_) (by simp [hoff]) (by simp [hset]) (List.mem_range.2 hlt)
      rw [hset] at hx
      split at hx
      · simp at hx
      · exact hx
    omega

theorem drawS_ok1 (hp0' : Plain P) (hm : P.follows .mixedOrders = true) {A : Ans R} {I : R → Prop} (no : AnsOk A I) (hco : ∀ x : SV × Hp C × Nat, CallOk P (fun y : OT C => y.get = some x) co) :
    DrawOk P I (fun N ops tm hp n k => drawGo A P co N ops hp ops 0 tm [] n fun tm' recs n' => hpK (fun _ => true) recs hp fun hp' => k tm' hp' n') := by
  intro N id ops tm hp n k B X ρ w a h hN hD RR T
  obtain ⟨recs, hch, hlen, hk⟩ := drawGo_spec (tm0 := tm) (n0 := n) no ops.toList 0 tm [] n h trivial rfl (Nat.zero_le _) rfl rfl rfl
  rw [hpK_eq] at hk
  have hlen : recs.length = ops.size := by rw [hlen]; simp
  have hbase : cut ρ n = ρ := by
    funext x
    unfold cut
    split
    · rfl
    · exact (RR.fresh x (by omega)).symm
  have hlis0 : ∀ x, lis (Array.replicate ops.size false) x = false := fun x => by
    unfold lis
    simp only [Array.getD_eq_getD_getElem?, Array.getElem?_replicate]
    split <;> rfl
  have hnil : ∀ l : List (Rec C), hpBy (lis (Array.replicate ops.size false)) l hp = hp := by
    intro l
    induction l with
    | nil => rfl
    | cons r l ih => rw [hpBy_cons, hlis0]; exact ih
  have hb : ∀ x o, find x hp = some o → x < n ∧ denO ρ o := fun x o hx => by
    obtain ⟨v, hv, hok⟩ := RR.obj x o hx
    refine ⟨?_, hok.toDen⟩
    by_cases hlt : x < n
    · exact hlt
    · rw [RR.fresh x (by omega)] at hv; cases hv
  refine wp_region_any hm (Inv.any (B := B) (X := X) (ρ0 := ρ) hp0' hco hch hlen hb RR.nbLe ?_ ops.size _ a _ ⟨ρ, ?_⟩ ?_)
  · intro listed a' w' ρ' hi hon
    have hall : hpBy (lis listed) recs hp = hpBy (fun _ => true) recs hp := by
      have : ∀ l : List (Rec C), (∀ r ∈ l, lis listed r.ix = true) → hpBy (lis listed) l hp = hpBy (fun _ => true) l hp := by
        intro l
        induction l with
        | nil => intro _; rfl
        | cons r l ih =>
          intro hl
          rw [hpBy_cons, hpBy_cons, hl r List.mem_cons_self, ih fun r' hr => hl r' (List.mem_cons_of_mem _ hr)]
      exact this recs hon
    have hle : ρ.le ρ' := by rw [← hi.base]; exact cut_le _ _
    refine ⟨.normal, ρ', _, _, _, rfl, hle, ⟨hch.num.1, by_suffix recs⟩, hi.size, hi.defers, by rw [← hall]; exact hi.rel, ?_, hk⟩
    intro t sv ht
    rcases find_tmAll ht with ⟨r, hr, hd, rfl⟩ | ⟨ht, hno⟩
    · obtain ⟨v, h1, h2⟩ := hi.val r hr (hon r hr)
      exact ⟨v, den_mono (cut_le _ _) _ _ h1, h2 t hd⟩
    · obtain ⟨v, h1, h2⟩ := hi.btm t sv ht fun r hr _ => hno r hr
      exact ⟨v, den_mono hle _ _ h1, h2⟩
  · constructor
    · exact hN
    · exact hD
    · simp [hlen]
    · rw [hnil]; exact Rel.shift RR.drew hch.num.1
    · exact hbase
    · intro r _ hl; rw [hlis0] at hl; cases hl
    · intro r hr _ x hx _
      exact RR.fresh x (by have := (hch.num.2 r hr).1; omega)
    · intro r _ hl; rw [hlis0] at hl; cases hl
    · intro r _ hl; rw [hlis0] at hl; cases hl
    · intro t sv ht _; exact T t sv ht
  · unfold cnt
    exact Nat.le_trans List.countP_le_length (by simp)
theorem drawS_ok (hp0' : Plain P) (hm : P.follows .mixedOrders = true) {A : Ans R} {I : R → Prop} (no : AnsOk A I) (hco : ∀ x : SV × Hp C × Nat, CallOk P (fun y : OT C => y.get = some x) co) : DrawOk P I (drawS (C := C) A P co) := by
  intro N id ops tm hp n k B X ρ w a h hN hD RR T
  unfold drawS at h
  split at h
  · exact drawS_ok1 hp0' hm no hco N id ops tm hp n k B X ρ w a h hN hD RR T
  · obtain ⟨hp', h1, h2, h3⟩ := demK_spec _ _ h RR
    refine wp_mono (drawS_ok1 hp0' hm no hco N id ops tm hp' n k B X ρ w a h1 hN hD h2 T) fun e a w hq => ?_
    exact hq.weaken (Asg.le_refl _) ⟨Nat.le_refl _, h3⟩
end fin

/-! The evaluator whose answers are data; its own drawn regions go by it. -/
def noLoop : Nat → Nat → LoopF C (OT C) := fun _ _ _ _ _ _ _ _ => .fail
theorem noLoop_ok {x : SV × Hp C × Nat} (g blk : Nat) : LoopOk P (fun y : OT C => y.get = some x) (noLoop (C := C) g blk) := fun _ _ _ _ _ _ h => by cases h
def callO (C : Tab) (P : Program) (unr : Nat → Nat → Nat) (d : Nat) : CallF C (OT C) := callG (ansT _) P (fun _ => none) noLoop unr (fun _ ih => drawS (ansT _) P ih) d
theorem callO_ok (hp0' : Plain P) (hm : P.follows .mixedOrders = true) {unr : Nat → Nat → Nat} : ∀ (d : Nat) (x : SV × Hp C × Nat), CallOk P (fun y : OT C => y.get = some x) (callO C P unr d)
  | 0, x => fun _ _ _ _ _ _ _ _ _ _ h => by cases h
  | d + 1, x => by
    have no := ansT_ok x
    have hs : SpecOkG (C := C) P (fun y : OT C => y.get = some x) (fun _ => none) := fun g f hf => by cases hf
    exact callStep_ok (I := fun y : OT C => y.get = some x) hp0' no hs (LoopOk.all noLoop_ok) (drawS_ok (I := fun y : OT C => y.get = some x) hp0' hm no (callO_ok hp0' hm d)) (callO_ok hp0' hm d x)

/-- Drawn regions of the evaluator whose answers are statements. -/
def drawP (P : Program) (unr : Nat → Nat → Nat) : Nat → CallF C Prop → DrawF C Prop := fun d _ => drawS ansP P (callO C P unr d)
theorem drawP_ok (hp0' : Plain P) (hm : P.follows .mixedOrders = true) {unr : Nat → Nat → Nat} (d : Nat) (call : CallF C Prop) : DrawOk P (fun p : Prop => p) (drawP (C := C) P unr d call) :=
  drawS_ok hp0' hm ansP_ok (callO_ok hp0' hm d)
end
end Go.Sx

/-
  The symbolic evaluator: how a call of a statement's function is read off. Own work; nothing here is trusted.
-/
namespace Go.Sx
noncomputable section
open Go.RowKit

variable {C : Tab} {P : Program}

/-- Elements that are numbers of one kind. -/
def cInt (k : IntKind) : Codec where
  α := Int
  ag := false
  sz := 1
  enc x := [.int k x]
  dec l := match l with
    | [.raw (.int k' x)] => match kindEq k' k with
      | true => some x
      | false => none
    | _ => none
  d := 0
  pos := by decide
  len := fun _ => rfl
  one := fun _ v h => by simp at h; subst h; rfl
  law := fun cs a h => by
    split at h
    · rename_i k' x
      split at h
      · rename_i hk
        cases h; cases kindEq_eq hk; rfl
      · cases h
    · cases h
  sg := fun _ => rfl

def cBool : Codec where
  α := Bool
  ag := false
  sz := 1
  enc x := [.bool x]
  dec l := match l with
    | [.raw (.bool x)] => some x
    | _ => none
  d := false
  pos := by decide
  len := fun _ => rfl
  one := fun _ v h => by simp at h; subst h; rfl
  law := fun cs a h => by
    split at h
    · cases h; rfl
    · cases h
  sg := fun _ => rfl

/-- The evaluator of statements: calls, with specifications and with drawn regions. -/
def callS (P : Program) (sp : SpecF C Prop) (dr : Nat → CallF C Prop → DrawF C Prop) (unr : Nat → Nat → Nat) (d : Nat) : CallF C Prop := callG ansP P sp (fun _ _ => InLoop P) unr dr d
theorem callS_sound (hp0 : Plain P) {sp : SpecF C Prop} (hs : SpecOk P sp) {dr : Nat → CallF C Prop → DrawF C Prop} (hd : ∀ d call, CallOk P (fun p : Prop => p) call → DrawOk P (fun p : Prop => p) (dr d call)) {unr : Nat → Nat → Nat} (d : Nat) : CallOk P (fun p : Prop => p) (callS P sp dr unr d) :=
  callG_sound hp0 ansP_ok hs.g (LoopOk.all fun _ _ => loop_ok) hd d

abbrev CallP (P : Program) (call : CallF C Prop) : Prop := CallOk P (fun p : Prop => p) call
/-- With drawn regions; every loop is unrolled at most so often as 'unr' says. -/
abbrev evalS (P : Program) (sp : SpecF C Prop) (unr : Nat → Nat → Nat) (d : Nat) : CallF C Prop := callS P sp (drawP P unr) unr d
theorem evalS_ok (hp0 : Plain P) (hm : P.follows .mixedOrders = true) {sp : SpecF C Prop} (hs : SpecOk P sp) {unr : Nat → Nat → Nat} (d : Nat) : CallP P (evalS P sp unr d) :=
  callS_sound hp0 hs (fun d call _ => drawP_ok hp0 hm d call) d

def noDraw : Nat → CallF C Prop → DrawF C Prop := fun _ _ _ _ _ _ _ _ => False
theorem noDraw_ok (d : Nat) (call : CallF C Prop) (_ : CallP P call) : DrawOk P (fun p : Prop => p) (noDraw d call) := fun _ _ _ _ _ _ _ _ _ _ _ _ h => h.elim

def noSpec : SpecF C Prop := fun _ => none
theorem noSpec_ok : SpecOk P (C := C) noSpec := fun _ _ h => by cases h

def isT : SV → Hp C → Nat → Prop := fun v _ _ => match v with
  | .raw (.bool b) => b = true
  | _ => False

/-- No row of the table of outside functions bears this name. -/
def freeName (n : String) : Bool := (Extern.allGenericRows.lookup n).isNone && ((Extern.allTypedRows.lookup n).isNone && ((Extern.allRows.lookup n).isNone && (Extern.allNextRows.lookup n).isNone))
def ovOk (fn : Func) : Bool := match fn.body with
  | some _ => true
  | none => match decide (fn.origin = "slices.overlaps") with
    | true => freeName fn.name
    | false => true
def plainB (P : Program) : Bool := P.funcs.all fun fn => !(fn.name == "runtime.NumGoroutine") && ovOk fn
theorem ov_rows : Extern.allGenericRows.lookup "slices.overlaps" = none ∧ Extern.allTypedRows.lookup "slices.overlaps" = some Extern.SlicesOverlaps.overlaps ∧ Extern.allNextRows.lookup "slices.overlaps" = none := by
  refine ⟨?_, ?_, ?_⟩ <;> kernel_rfl
theorem plain_of {P : Program} (h : plainB P = true) : Plain P := by
  unfold plainB at h
  rw [Array.all_eq_true] at h
  have hall : ∀ (g : Nat) (fn : Func), P.funcs[g]? = some fn → (!(fn.name == "runtime.NumGoroutine")) = true ∧ ovOk fn = true := fun g fn hg => by
    obtain ⟨hlt, rfl⟩ := Array.getElem?_eq_some_iff.1 hg
    exact Bool.and_eq_true_iff.1 (h g hlt)
  refine ⟨fun g fn hg => by simpa using (hall g fn hg).1, fun g fn hg hb ho => ?_⟩
  have h2 := (hall g fn hg).2
  unfold ovOk at h2
  rw [hb, ho] at h2
  simp only [decide_true] at h2
  unfold freeName at h2
  simp only [Bool.and_eq_true, Option.isNone_iff_eq_none] at h2
  obtain ⟨h3, h4, h5, h6⟩ := h2
  obtain ⟨r1, r2, r3⟩ := ov_rows
  exact ⟨by simp [Extern.findNext, h6, ho, r3], by simp [Extern.find, h3, h4, h5, ho, r1, r2]⟩

theorem brT {X Y : Prop} {b : Bool} (h1 : b = true → X) (h2 : b = false → Y) : Bool.rec (motive := fun _ => Prop) Y X b := by
  cases b
  · exact h2 rfl
  · exact h1 rfl

theorem brOn {X Y : Prop} {b : Bool} (h : b = true) (h1 : X) : Bool.rec (motive := fun _ => Prop) Y X b := by
  subst h; exact h1
theorem brOff {X Y : Prop} {b : Bool} (h : b = false) (h1 : Y) : Bool.rec (motive := fun _ => Prop) Y X b := by
  subst h; exact h1

theorem brD {X Y p : Prop} [d : Decidable p] (h1 : p → X) (h2 : ¬ p → Y) : Bool.rec (motive := fun _ => Prop) Y X (decide p) := by
  by_cases h : p
  · rw [decide_eq_true h]; exact h1 h
  · rw [decide_eq_false h]; exact h2 h
theorem brE {X Y : Prop} {a b : Int} (h1 : a = b → X) (h2 : a ≠ b → Y) : Bool.rec (motive := fun _ => Prop) Y X (a == b) := by
  by_cases h : a = b
  · rw [beq_iff_eq.2 h]; exact h1 h
  · rw [beq_eq_false_iff_ne.2 h]; exact h2 h
theorem inR64_off {r : Int} (h : r < -9223372036854775808 ∨ 9223372036854775807 < r) : inR64 r = false := by
  cases hr : inR64 r with
  | false => rfl
  | true =>
    unfold inR64 at hr
    simp only [Bool.and_eq_true, decide_eq_true_eq] at hr
    omega
theorem brR {X Y : Prop} {r : Int} (h1 : -9223372036854775808 ≤ r ∧ r ≤ 9223372036854775807 → X) (h2 : ¬ (-9223372036854775808 ≤ r ∧ r ≤ 9223372036854775807) → Y) : Bool.rec (motive := fun _ => Prop) Y X (inR64 r) := by
  by_cases h : -9223372036854775808 ≤ r ∧ r ≤ 9223372036854775807
  · rw [inR64_mk h]; exact h1 h
  · rw [inR64_off (by omega)]; exact h2 h

/-- A branch of a statement, as it is written down. -/
def brc (b : Bool) (t f : Prop) : Prop := Bool.rec (motive := fun _ => Prop) f t b
@[simp] theorem brc_true (t f : Prop) : brc true t f = t := rfl
@[simp] theorem brc_false (t f : Prop) : brc false t f = f := rfl
theorem brc_on {b : Bool} {t f : Prop} (hb : b = true) (h : t) : brc b t f := by subst hb; exact h
theorem brc_off {b : Bool} {t f : Prop} (hb : b = false) (h : f) : brc b t f := by subst hb; exact h
mutual
def flatV : SV → Bool
  | .raw _ => true
  | .agg cs => flatL cs
  | .tup cs => flatL cs
  | .fn _ cs => flatL cs
  | _ => false
def flatL : List SV → Bool
  | [] => true
  | v :: r => match flatV v with
    | true => flatL r
    | false => false
end
mutual
theorem den_flat (ρ ρ' : Asg) : ∀ (v : SV), flatV v = true → den ρ v = den ρ' v
  | .raw _, _ => rfl
  | .agg cs, h => by simp only [den, denL_flat ρ ρ' cs h]
  | .tup cs, h => by simp only [den, denL_flat ρ ρ' cs h]
  | .fn _ cs, h => by simp only [den, denL_flat ρ ρ' cs h]
  | .h _, h | .ep _ _, h | .bs _ _ _ _, h | .el _ _ _ _, h | .vs _ _ _ _ _ _, h => by simp [flatV] at h
theorem denL_flat (ρ ρ' : Asg) : ∀ (l : List SV), flatL l = true → denL ρ l = denL ρ' l
  | [], _ => rfl
  | v :: r, h => by
    simp only [flatL] at h
    split at h
    · rename_i hv
      simp only [denL, den_flat ρ ρ' v hv, denL_flat ρ ρ' r h]
    · cases h
end

theorem Rel.below_start {w w' : World} {ρ : Asg} {hp : Hp C} {n : Nat} (h : Rel w Own.no ρ hp n w') : Below w.heap.size w w' :=
  { os := h.os, tape := h.tape, output := h.out, size := h.size, block := fun b hb => h.old b hb (fun h => h) }

/-- A call that is evaluated from the start, no memory taken in. -/
theorem run_true {P : Program} {call : CallF C Prop} (hc : CallOk P (fun p : Prop => p) call) {g : Nat} {args : List Value} (h : call g (rawL args) [] 0 isT) (w : World) :
    Calls P g args.toArray w fun e w' => e = .returned (.bool true) ∧ Below w.heap.size w w' := by
  refine (hc g (rawL args) [] 0 isT w Own.no (fun _ => none) w args h (Rel.start w _ rfl) (denL_rawL args)).2.mono ?_
  rintro e w' ⟨ρ', v, sv, hp', n', rfl, h1, h2, h3, h4, h5⟩
  refine ⟨?_, h4.below_start⟩
  cases sv with
  | raw u =>
    simp [den] at h3; subst h3
    cases u <;> simp_all [isT]
  | _ => simp [isT] at h5

/-- A call whose answer is known, and that lays at most new blocks. -/
theorem const_ok {P : Program} {g : Nat} {v : Value} {args0 : List Value} (hb : (match P.funcs[g]? with | some fn => fn.body.isSome | none => false) = true)
    (h : ∀ w, Calls P g args0.toArray w fun e w' => e = .returned v ∧ Below w.heap.size w w') :
    CallOk1 (C := C) P g fun vs hp n k => (∀ ρ, denL ρ vs = some args0) ∧ k (.raw v) hp n := by
  intro vs hp n k B X ρ w args hk R hargs
  have e : args = args0 := by have := hk.1 ρ; rw [hargs] at this; exact Option.some.inj this
  subst e
  constructor
  · split at hb
    · rename_i fn hfn; exact ⟨fn, hfn, hb⟩
    · cases hb
  · refine (h w).mono ?_
    rintro e w' ⟨rfl, hbel⟩
    exact ⟨ρ, v, .raw v, hp, n, rfl, Asg.le_refl _, Grow.refl _ _, rfl, R.below hbel, hk.2⟩

/-- A function of values without memory, whose answers hold none either: 'F' tells the answers. -/
def flatF (F : List SV → (SV → Prop) → Prop) : List SV → Hp C → Nat → (SV → Hp C → Nat → Prop) → Prop := fun vs hp n k => F vs fun v => k v hp n
def hasBody (P : Program) (g : Nat) : Bool := match P.funcs[g]? with
  | some fn => fn.body.isSome
  | none => false
theorem flatF_ok {P : Program} {C' : Tab} {call : CallF C' Prop} (hc : CallOk P (fun p : Prop => p) call) {g : Nat} {F : List SV → (SV → Prop) → Prop}
    (h : ∀ vs K, F vs K → flatL vs = true ∧ call g vs [] 0 (fun sv _ _ => flatV sv = true ∧ K sv)) : CallOk1 (C := C) P g (flatF F) := by
  intro vs hp n k B X ρ w args hk R hargs
  obtain ⟨h1, h2⟩ := h vs _ hk
  have hd : denL (fun _ => none) vs = some args := by rw [denL_flat _ ρ vs h1]; exact hargs
  obtain ⟨h3, h4⟩ := hc g vs [] 0 _ w Own.no (fun _ => none) w args h2 (Rel.start w _ rfl) hd
  refine ⟨h3, h4.mono ?_⟩
  rintro e w' ⟨ρ', v, sv, hp', n', rfl, _, _, g3, g4, g5, g6⟩
  exact ⟨ρ, v, sv, hp, n, rfl, Asg.le_refl _, Grow.refl _ _, by rw [den_flat ρ ρ' sv g5]; exact g3, R.below g4.below_start, g6⟩

def spec1 (g : Nat) (f : List SV → Hp C → Nat → (SV → Hp C → Nat → Prop) → Prop) (r : SpecF C Prop) : SpecF C Prop := fun i => match Nat.beq i g with
  | true => some f
  | false => r i
theorem spec1_ok {g : Nat} {f : List SV → Hp C → Nat → (SV → Hp C → Nat → Prop) → Prop} {r : SpecF C Prop} (h : CallOk1 P g f) (hr : SpecOk P r) : SpecOk P (spec1 g f r) := fun i f' hf => by
  unfold spec1 at hf
  split at hf
  · rename_i hb
    cases hf; cases Nat.eq_of_beq_eq_true hb; exact h
  · exact hr i f' hf

/-- A function without parameters. -/
def const0 (v : Value) : List SV → Hp C → Nat → (SV → Hp C → Nat → Prop) → Prop := fun vs hp n k => match vs with
  | [] => k (.raw v) hp n
  | _ => False
theorem const0_ok {P : Program} {g : Nat} {v : Value} (hb : (match P.funcs[g]? with | some fn => fn.body.isSome | none => false) = true)
    (h : ∀ w, Calls P g #[] w fun e w' => e = .returned v ∧ Below w.heap.size w w') : CallOk1 (C := C) P g (const0 v) := by
  intro vs hp n k B X ρ w args hk R hargs
  match vs, hk with
  | [], hk => exact const_ok (args0 := []) hb h [] hp n k B X ρ w args ⟨fun _ => rfl, hk⟩ R hargs

end
end Go.Sx

/-
  The symbolic evaluator: functions that answer by a closed form, also where an order is drawn. Own work; nothing here is trusted.
-/
namespace Go.Sx
noncomputable section
open Go.RowKit

variable {C : Tab} {P : Program} {R : Type}

/-- The evaluator whose answers are data, with specifications. -/
def callOS (C : Tab) (P : Program) (so : SpecF C (OT C)) (unr : Nat → Nat → Nat) (d : Nat) : CallF C (OT C) := callG (ansT _) P so noLoop unr (fun _ ih => drawS (ansT _) P ih) d
def SpecO (P : Program) (so : SpecF C (OT C)) : Prop := ∀ x : SV × Hp C × Nat, SpecOkG P (fun y : OT C => y.get = some x) so
theorem callOS_ok (hp0' : Plain P) (hm : P.follows .mixedOrders = true) {so : SpecF C (OT C)} (hs : SpecO P so) {unr : Nat → Nat → Nat} : ∀ (d : Nat) (x : SV × Hp C × Nat), CallOk P (fun y : OT C => y.get = some x) (callOS C P so unr d)
  | 0, x => fun _ _ _ _ _ _ _ _ _ _ h => by cases h
  | d + 1, x => by
    have no := ansT_ok x
    exact callStep_ok (I := fun y : OT C => y.get = some x) hp0' no (hs x) (LoopOk.all noLoop_ok) (drawS_ok (I := fun y : OT C => y.get = some x) hp0' hm no (callOS_ok hp0' hm hs d)) (callOS_ok hp0' hm hs d x)
def drawPS (P : Program) (so : SpecF C (OT C)) (unr : Nat → Nat → Nat) : Nat → CallF C Prop → DrawF C Prop := fun d _ => drawS ansP P (callOS C P so unr d)
theorem drawPS_ok (hp0' : Plain P) (hm : P.follows .mixedOrders = true) {so : SpecF C (OT C)} (hs : SpecO P so) {unr : Nat → Nat → Nat} (d : Nat) (call : CallF C Prop) : DrawOk P (fun p : Prop => p) (drawPS (C := C) P so unr d call) :=
  drawS_ok hp0' hm ansP_ok (callOS_ok hp0' hm hs d)
abbrev evalSS (P : Program) (sp : SpecF C Prop) (so : SpecF C (OT C)) (unr : Nat → Nat → Nat) (d : Nat) : CallF C Prop := callS P sp (drawPS P so unr) unr d
theorem evalSS_ok (hp0 : Plain P) (hm : P.follows .mixedOrders = true) {sp : SpecF C Prop} (hs : SpecOk P sp) {so : SpecF C (OT C)} (ho : SpecO P so) {unr : Nat → Nat → Nat} (d : Nat) : CallP P (evalSS P sp so unr d) :=
  callS_sound hp0 hs (fun d call _ => drawPS_ok hp0 hm ho d call) d

/-- A function of values without memory that answers by a closed form. -/
def FnOk (P : Program) (g : Nat) (F : List SV → Option SV) : Prop := ∀ vs v, F vs = some v → flatL vs = true ∧ flatV v = true ∧
  ∀ (w : World) (args : List Value), denL (fun _ => none) vs = some args → (∃ fn, P.funcs[g]? = some fn ∧ fn.body.isSome = true) ∧ Calls P g args.toArray w fun e w' => ∃ u, e = .returned u ∧ den (fun _ => none) v = some u ∧ Below w.heap.size w w'
theorem FnOk.of {call : CallF C Prop} (hc : CallP P call) {g : Nat} {F : List SV → Option SV} (h : ∀ vs v, F vs = some v → flatL vs = true ∧ flatV v = true ∧ call g vs [] 0 (fun sv _ _ => sv = v)) : FnOk P g F := fun vs v hv => by
  obtain ⟨h1, h2, h3⟩ := h vs v hv
  refine ⟨h1, h2, fun w args hd => ?_⟩
  obtain ⟨g1, g2⟩ := hc g vs [] 0 _ w Own.no (fun _ => none) w args h3 (Rel.start w _ rfl) hd
  refine ⟨g1, g2.mono ?_⟩
  rintro e w' ⟨ρ', u, sv, hp', n', rfl, _, _, g3, g4, g5⟩
  have g5 : sv = v := g5
  subst g5
  exact ⟨u, rfl, by rw [den_flat _ ρ' sv h2]; exact g3, g4.below_start⟩
theorem FnOk.call1 {g : Nat} {F : List SV → Option SV} (h : FnOk P g F) {vs : List SV} {v : SV} (hv : F vs = some v) {hp : Hp C} {n : Nat} {k : SV → Hp C → Nat → Prop} (hk : k v hp n) {B : World} {X : Own} {ρ : Asg} {w : World} {args : List Value}
    (RR : Rel B X ρ hp n w) (hargs : denL ρ vs = some args) : (∃ fn, P.funcs[g]? = some fn ∧ fn.body.isSome = true) ∧ Calls P g args.toArray w (CallPost B X ρ hp n k) := by
  obtain ⟨h1, h2, h3⟩ := h vs v hv
  have hd : denL (fun _ => none) vs = some args := by rw [denL_flat _ ρ vs h1]; exact hargs
  obtain ⟨g1, g2⟩ := h3 w args hd
  refine ⟨g1, g2.mono ?_⟩
  rintro e w' ⟨u, rfl, g3, g4⟩
  exact ⟨ρ, u, v, hp, n, rfl, Asg.le_refl _, Grow.refl _ _, by rw [den_flat ρ (fun _ => none) v h2]; exact g3, RR.below g4, hk⟩

/-- The closed form as a specification, in either evaluator. -/
def byF (bad : R) (F : List SV → Option SV) : List SV → Hp C → Nat → (SV → Hp C → Nat → R) → R := fun vs hp n k => match F vs with
  | some v => k v hp n
  | none => bad
theorem byF_ok {g : Nat} {F : List SV → Option SV} (h : FnOk P g F) : CallOk1 (C := C) P g (byF False F) := fun vs hp n k B X ρ w args hk RR hargs => by
  unfold byF at hk
  split at hk
  · rename_i v hv; exact h.call1 hv hk RR hargs
  · exact hk.elim
def specG (g : Nat) (f : List SV → Hp C → Nat → (SV → Hp C → Nat → R) → R) (r : SpecF C R) : SpecF C R := fun i => match Nat.beq i g with
  | true => some f
  | false => r i
def noSpecO : SpecF C (OT C) := fun _ => none
theorem noSpecO_ok : SpecO P (noSpecO (C := C)) := fun x g f hf => by cases hf
theorem specO_ok {g : Nat} {F : List SV → Option SV} {r : SpecF C (OT C)} (h : FnOk P g F) (hr : SpecO P r) : SpecO P (specG g (byF .fail F) r) := fun x i f hf => by
  unfold specG at hf
  split at hf
  · rename_i hb
    cases hf
    cases Nat.eq_of_beq_eq_true hb
    intro vs hp n k B X ρ w args ⟨k', hk, he⟩ RR hargs
    subst he
    unfold byF at hk
    split at hk
    · rename_i v hv; exact h.call1 hv hk RR hargs
    · cases hk
  · exact hr x i f hf
end
end Go.Sx

/-
  The symbolic evaluator: handles under other numbers, and a part of a run laid into a greater one. Own work; nothing here is trusted.
-/
namespace Go.Sx
noncomputable section
open Go.RowKit

variable {C : Tab} {P : Program} {R : Type}

mutual
def renV (f : Nat → Nat) : SV → SV
  | .raw v => .raw v
  | .h i => .h (f i)
  | .ep i o => .ep (f i) o
  | .bs i o l c => .bs (f i) o l c
  | .vs i s b o l c => .vs (f i) s b o l c
  | .el i a s j => .el (f i) a s j
  | .agg cs => .agg (renL f cs)
  | .tup cs => .tup (renL f cs)
  | .fn g cs => .fn g (renL f cs)
def renL (f : Nat → Nat) : List SV → List SV
  | [] => []
  | v :: r => renV f v :: renL f r
end
def renO (f : Nat → Nat) : SO C → SO C
  | .box cs t => .box (renL f cs) t
  | .mv k ag vt ks vs => .mv k ag vt ks (renL f vs)
  | o => o
mutual
theorem den_ren (ρ : Asg) (f : Nat → Nat) : ∀ (v : SV), den (fun i => ρ (f i)) v = den ρ (renV f v)
  | .raw _ => rfl
  | .h _ => rfl
  | .ep _ _ => rfl
  | .bs _ _ _ _ => rfl
  | .vs _ _ _ _ _ _ => rfl
  | .el _ _ _ _ => rfl
  | .agg cs => by simp only [den, renV, denL_ren ρ f cs]
  | .tup cs => by simp only [den, renV, denL_ren ρ f cs]
  | .fn _ cs => by simp only [den, renV, denL_ren ρ f cs]
theorem denL_ren (ρ : Asg) (f : Nat → Nat) : ∀ (l : List SV), denL (fun i => ρ (f i)) l = denL ρ (renL f l)
  | [] => rfl
  | v :: r => by simp only [denL, renL, den_ren ρ f v, denL_ren ρ f r]
end

/-- What may be seen of an object: a slice that is owned may be seen as a view; anything may be given up. -/
def subO : SO C → SO C → Prop
  | .gone, _ => True
  | .sl own full e ts, .sl own' full' e' ts' => (own = true → own' = true) ∧ (full = true → full' = true) ∧ e = e' ∧ HEq ts ts'
  | o, o' => o = o'
theorem subO.refl (o : SO C) : subO o o := by
  cases o with
  | sl own full e ts => exact ⟨fun h => h, fun h => h, rfl, HEq.rfl⟩
  | gone => trivial
  | _ => rfl
theorem subO.owns {o o' : SO C} (h : subO o o') (ho : o.owns = true) : o'.owns = true := by
  cases o with
  | sl own full e ts =>
    cases o' with
    | sl own' full' e' ts' => exact h.1 ho
    | _ => simp [subO] at h
  | box cs t => cases o' <;> simp [subO] at h; rfl
  | mp k vt m => cases o' <;> simp [subO] at h; rfl
  | mv k ag vt ks vs => cases o' <;> simp [subO] at h; rfl
  | ss e pos it ts => simp [SO.owns] at ho
  | gone => simp [SO.owns] at ho
theorem subO.inn {B : World} {X : Own} {f : Nat → Nat} {o o' : SO C} (h : subO (renO f o) o') (hi : InnO B X o') : InnO B X o := by
  cases o with
  | ss e pos it ts =>
    have e : SO.ss e pos it ts = o' := by cases o' <;> first | exact h | simp [renO, subO] at h
    subst e; exact hi
  | _ => trivial
theorem renO_inn {B : World} {X : Own} {f : Nat → Nat} {o : SO C} (h : InnO B X o) : InnO B X (renO f o) := by
  cases o with
  | ss e pos it ts => exact h
  | _ => trivial
theorem subO.live {o o' : SO C} (h : subO o o') : o.live = true → o'.live = true := by
  cases o <;> cases o' <;> simp [subO] at h <;> simp [SO.live]
theorem subO.isSl {o o' : SO C} (h : subO o o') : o.isSl = true → o'.isSl = true := by
  cases o <;> cases o' <;> simp [subO] at h <;> simp [SO.isSl]
theorem renO_owns (f : Nat → Nat) (o : SO C) : (renO f o).owns = o.owns := by cases o <;> rfl
theorem renO_live (f : Nat → Nat) (o : SO C) : (renO f o).live = o.live := by cases o <;> rfl
theorem renO_isSl (f : Nat → Nat) (o : SO C) : (renO f o).isSl = o.isSl := by cases o <;> rfl

theorem okObj.ren {ρ : Asg} {f : Nat → Nat} {w : World} {okb : Nat → Prop} {v : Value} {o : SO C} : okObj (fun i => ρ (f i)) w okb v o ↔ okObj ρ w okb v (renO f o) := by
  cases o with
  | box cs t => simp only [okObj, renO, denL_ren]
  | mv k ag vt ks vs => simp only [okObj, renO, denL_ren]
  | _ => exact Iff.rfl
theorem okObj.sub {ρ : Asg} {w : World} {okb okb' : Nat → Prop} {v : Value} {o o' : SO C} (h : okObj ρ w okb v o') (hs : subO o o') (hb : o.owns = true → ∀ g, blk v = some g → okb' g) : okObj ρ w okb' v o := by
  have view : ∀ {own' full' : Bool} {e : TypeId} {ts : List (C e).α} {a : Option Addr} {cap : Nat}, (match own' with
      | true => ownsL w okb (C e) e a cap ts
      | false => ∀ j x, ((C e).flat ts)[j]? = some x → ∃ a', a = some a' ∧ w.cell? (a'.add j) = some x) → ∀ j x, ((C e).flat ts)[j]? = some x → ∃ a', a = some a' ∧ w.cell? (a'.add j) = some x := by
    intro own' full' e ts a cap h3
    cases own' with
    | false => exact h3
    | true => exact h3.cell
  cases o with
  | box cs t =>
    cases o' <;> simp [subO] at hs
    obtain ⟨rfl, rfl⟩ := hs
    obtain ⟨g, vs, rfl, h1, h2, h3⟩ := h
    exact ⟨g, vs, rfl, hb rfl g rfl, h2, h3⟩
  | mp k vt m =>
    have e : SO.mp k vt m = o' := by cases o' <;> first | exact hs | simp [subO] at hs
    subst e
    obtain ⟨g, es, clock, rfl, h1, h2⟩ := h
    exact ⟨g, es, clock, rfl, hb rfl g rfl, h2⟩
  | mv k ag vt ks vs =>
    have e : SO.mv k ag vt ks vs = o' := by cases o' <;> first | exact hs | simp [subO] at hs
    subst e
    obtain ⟨g, es, clock, us, rfl, h1, h2⟩ := h
    exact ⟨g, es, clock, us, rfl, hb rfl g rfl, h2⟩
  | ss e pos it ts =>
    have e : SO.ss e pos it ts = o' := by cases o' <;> first | exact hs | simp [subO] at hs
    subst e; exact h
  | gone => trivial
  | sl own full e ts =>
    cases o' with
    | sl own' full' e' ts' =>
      obtain ⟨s1, s2, rfl, s3⟩ := hs
      cases s3
      obtain ⟨a, cap, rfl, h1, h2, h3⟩ := h
      refine ⟨a, cap, rfl, h1, fun hf => h2 (s2 hf), ?_⟩
      cases own with
      | false => exact view (full' := full') h3
      | true =>
        have := s1 rfl; subst this
        exact h3.to (fun g hg _ => hb rfl g (by subst hg; rfl)) (fun _ _ => rfl)
    | _ => simp [subO] at hs

/-- Other numbers: entries are left out, owners made views. -/
structure Renum (hp : Hp C) (f : Nat → Nat) (hp' : Hp C) : Prop where
  ent : ∀ j o, find j hp' = some o → ∃ O, find (f j) hp = some O ∧ subO (renO f o) O
  inj : ∀ i j oi oj, find i hp' = some oi → find j hp' = some oj → i ≠ j → oi.owns = true → oj.live = true → f i ≠ f j

section rel
variable {B : World} {X : Own} {ρ : Asg} {hp hp' : Hp C} {n : Nat} {w : World} {f : Nat → Nat}

/-- The handles of a run under other numbers; the base keeps its own. -/
theorem Rel.ren (h : Rel B X ρ hp n w) (hr : Renum hp f hp') {n' : Nat} (hnb : X.nb ≤ n') (hbase : ∀ i, i < X.nb → f i = i) (hfresh : ∀ i, n' ≤ i → n ≤ f i) : Rel B X (fun i => ρ (f i)) hp' n' w where
  os := h.os
  tape := h.tape
  out := h.out
  size := h.size
  old := h.old
  nbLe := hnb
  agree := fun i hi => by show ρ (f i) = _; rw [hbase i hi]; exact h.agree i hi
  fresh := fun i hi => h.fresh _ (hfresh i hi)
  one := fun i v hv => h.one _ v hv
  obj := fun j o hj => by
    obtain ⟨O, h1, h2⟩ := hr.ent j o hj
    obtain ⟨v, hv, hok⟩ := h.obj _ O h1
    exact ⟨v, hv, okObj.ren.2 (hok.sub h2 fun ho g hg => h.okOwn h1 (h2.owns ho) hv hg)⟩
  sep := fun i j oi oj vi vj g hij hi hj ho hl hvi hvj hg => by
    obtain ⟨Oi, h1, h2⟩ := hr.ent i oi hi
    obtain ⟨Oj, h3, h4⟩ := hr.ent j oj hj
    exact h.sep (f i) (f j) Oi Oj vi vj g (hr.inj i j oi oj hi hj hij ho hl) h1 h3 (h2.owns (by rw [renO_owns]; exact ho)) (h4.live (by rw [renO_live]; exact hl)) hvi hvj hg
  blkOk := fun i o v g hi hl hv hg => by
    obtain ⟨O, h1, h2⟩ := hr.ent i o hi
    exact h.blkOk (f i) O v g h1 (h2.live (by rw [renO_live]; exact hl)) hv hg
  prov := fun i o v g hi hl hv hg => by
    obtain ⟨O, h1, h2⟩ := hr.ent i o hi
    exact h.prov (f i) O v g h1 (h2.live (by rw [renO_live]; exact hl)) hv hg
  nn := fun i o v hi hs hv => by
    obtain ⟨O, h1, h2⟩ := hr.ent i o hi
    exact h.nn (f i) O v h1 (h2.isSl (by rw [renO_isSl]; exact hs)) hv
  frz := h.frz
  inn := fun i o hi => by
    obtain ⟨O, h1, h2⟩ := hr.ent i o hi
    exact h2.inn (h.inn _ O h1)

/-- A part of a heap, by its own numbers, as the start of a run of its own. -/
theorem Rel.down (h : Rel B X ρ hp n w) {m nb : Nat} (hnb : nb ≤ m) (hr : Renum hp f hp') (hfresh : ∀ i, m ≤ i → n ≤ f i) : Rel w (ownOf (fun i => ρ (f i)) hp' nb X.fz) (fun i => ρ (f i)) hp' m w where
  os := rfl
  tape := rfl
  out := rfl
  size := Nat.le_refl _
  old := fun _ _ _ => rfl
  nbLe := hnb
  agree := fun i hi => (if_pos hi).symm
  fresh := fun i hi => h.fresh _ (hfresh i hi)
  one := fun i v hv => h.one _ v hv
  obj := fun j o hj => by
    obtain ⟨O, h1, h2⟩ := hr.ent j o hj
    obtain ⟨v, hv, hok⟩ := h.obj _ O h1
    exact ⟨v, hv, okObj.ren.2 (hok.sub h2 fun ho g hg => .inr ⟨j, o, v, hj, by rw [renO_owns] at ho; exact ho, hv, hg⟩)⟩
  sep := fun i j oi oj vi vj g hij hi hj ho hl hvi hvj hg => by
    obtain ⟨Oi, h1, h2⟩ := hr.ent i oi hi
    obtain ⟨Oj, h3, h4⟩ := hr.ent j oj hj
    exact h.sep (f i) (f j) Oi Oj vi vj g (hr.inj i j oi oj hi hj hij ho hl) h1 h3 (h2.owns (by rw [renO_owns]; exact ho)) (h4.live (by rw [renO_live]; exact hl)) hvi hvj hg
  blkOk := fun i o v g hi hl hv hg => by
    obtain ⟨O, h1, h2⟩ := hr.ent i o hi
    exact h.blkOk (f i) O v g h1 (h2.live (by rw [renO_live]; exact hl)) hv hg
  prov := fun i o v g hi hl hv hg => .inr (.inr (.inl ⟨i, o, v, hi, hl, hv, hg⟩))
  nn := fun i o v hi hs hv => by
    obtain ⟨O, h1, h2⟩ := hr.ent i o hi
    exact h.nn (f i) O v h1 (h2.isSl (by rw [renO_isSl]; exact hs)) hv
  frz := fun g hg hb => by
    rcases hb with hb | ⟨x, o, v, hx, ho, hv, hb⟩
    · have := (h.fzHeap hg).1
      have := h.size
      omega
    · obtain ⟨O, h1, h2⟩ := hr.ent x o hx
      exact h.frz g hg (h.okOwn h1 (h2.owns (by rw [renO_owns]; exact ho)) hv hb)
  inn := fun i o hi => by
    obtain ⟨O, h1, h2⟩ := hr.ent i o hi
    exact (h2.inn (h.inn _ O h1)).move (fun _ h => h) fun g hg => (h.fzHeap hg).2

def upHp (f : Nat → Nat) : Hp C → Hp C
  | [] => []
  | (j, o) :: r => (f j, renO f o) :: upHp f r
theorem find_up {f : Nat → Nat} {x : Nat} : ∀ {H : Hp C} {O : SO C}, find x (upHp f H) = some O → ∃ j o, find j H = some o ∧ f j = x ∧ O = renO f o
  | (j, o) :: r, O, h => by
    unfold upHp at h
    rw [find_cons] at h
    split at h
    · rename_i e; cases h; exact ⟨j, o, by rw [find_cons, if_pos rfl], e.symm, rfl⟩
    · rename_i e
      obtain ⟨j', o', h1, h2, h3⟩ := find_up h
      have hne : j' ≠ j := fun e' => e (by rw [← e', h2])
      exact ⟨j', o', by rw [find_cons, if_neg hne]; exact h1, h2, h3⟩
theorem up_some {f : Nat → Nat} {j : Nat} : ∀ {H : Hp C} {o : SO C}, find j H = some o → ∃ O, find (f j) (upHp f H) = some O
  | (i, o) :: r, O, h => by
    unfold upHp
    rw [find_cons]
    split
    · exact ⟨_, rfl⟩
    · rename_i hne
      rw [find_cons] at h
      split at h
      · rename_i e; subst e; exact absurd rfl hne
      · exact up_some h

/-- What a run of its own leaves, laid back. -/
def backA (ρ ρ1 : Asg) (n m : Nat) : Asg := fun x => if x < n then ρ x else ρ1 (x - n + m)
theorem Rel.up (h : Rel B X ρ hp n w) {fd fu : Nat → Nat} {m : Nat} (hr : Renum hp fd hp') (hfu : ∀ j, m ≤ j → fu j = n + (j - m)) (hfb : ∀ j, j < m → fu j = fd j ∧ fd j < n)
    {hpG : Hp C} (hG : ∀ x O, find x hpG = some O → find x hp = some O ∨ (O = .gone ∧ ∃ O', find x hp = some O'))
    {ρ1 : Asg} {hp1 : Hp C} {n1 : Nat} {w1 : World} (h1 : Rel w (ownOf (fun i => ρ (fd i)) hp' m X.fz) ρ1 hp1 n1 w1)
    (hex : ∀ j o, find j hp1 = some o → (j < m → ∃ o0, find j hp' = some o0 ∧ (o.owns = true → o0.owns = true) ∧ (o.live = true → o0.live = true)) ∧ (m ≤ j → o.owns = true ∨ o.live = false ∨ ∀ j o O, find j hp' = some o → o.live = true → o.owns = false → find (fd j) hp = some O → O.owns = false))
    (hall : ∀ j o, find j hp' = some o → o.owns = true → (j < m ∧ ∃ o1, find j hp1 = some o1) ∨ find (fd j) hpG = some .gone) :
    Rel B X (backA ρ ρ1 n m) (upHp fu hp1 ++ hpG) (n + (n1 - m)) w1 ∧ ρ.le (backA ρ ρ1 n m) ∧ ∀ j, backA ρ ρ1 n m (fu j) = ρ1 j := by
  have hmn : m ≤ n1 := h1.nbLe
  have e1 : ∀ j, backA ρ ρ1 n m (fu j) = ρ1 j := fun j => by
    unfold backA
    by_cases hj : j < m
    · rw [(hfb j hj).1, if_pos (hfb j hj).2, h1.agree j hj]
      exact (if_pos hj).symm
    · rw [if_neg (by rw [hfu j (by omega)]; omega), hfu j (by omega)]
      congr 1; omega
  have le0 : ρ.le (backA ρ ρ1 n m) := fun i v hv => by
    unfold backA
    have : i < n := by
      by_cases hlt : i < n
      · exact hlt
      · rw [h.fresh i (by omega)] at hv; cases hv
    rw [if_pos this]; exact hv
  have low : ∀ x o v, find x hp = some o → backA ρ ρ1 n m x = some v → ρ x = some v := fun x o v hx hv => by
    obtain ⟨v', hv', _⟩ := h.obj x o hx
    have := le0 _ _ hv'
    rw [hv] at this; cases this; exact hv'
  have part : ∀ x O, find x (upHp fu hp1 ++ hpG) = some O → (∃ j o, find j hp1 = some o ∧ fu j = x ∧ O = renO fu o) ∨ (find x hp = some O ∧ ∀ j o, find j hp' = some o → o.owns = true → fd j ≠ x) ∨ (O = .gone ∧ ∃ O', find x hp = some O') := fun x O hx => by
    rw [find_append] at hx
    split at hx
    · rename_i o' ho'; cases hx; exact .inl (find_up ho')
    · rename_i hno
      rcases hG x O hx with hG' | hG'
      · by_cases hg : O = .gone
        · exact .inr (.inr ⟨hg, O, hG'⟩)
        · refine .inr (.inl ⟨hG', fun j o hj ho e => ?_⟩)
          rcases hall j o hj ho with ⟨hlt, o1, ho1⟩ | hgone
          · obtain ⟨O', hO'⟩ := up_some (f := fu) ho1
            rw [(hfb j hlt).1, e, hno] at hO'; cases hO'
          · rw [e, hx] at hgone; cases hgone; exact hg rfl
      · exact .inr (.inr hG')
  -- who owns a block of the part
  have wrOld : ∀ {g}, (ownOf (fun i => ρ (fd i)) hp' m X.fz).wr g → ∃ j o O v, find j hp' = some o ∧ o.owns = true ∧ find (fd j) hp = some O ∧ O.owns = true ∧ ρ (fd j) = some v ∧ blk v = some g := fun {g} hg => by
    obtain ⟨j, o, v, hj, ho, hv, hb⟩ := hg
    obtain ⟨O, h2, h3⟩ := hr.ent j o hj
    exact ⟨j, o, O, v, hj, ho, h2, h3.owns (by rw [renO_owns]; exact ho), hv, hb⟩
  have wrB : ∀ {g}, (ownOf (fun i => ρ (fd i)) hp' m X.fz).wr g → okB B X g := fun {g} hg => by
    obtain ⟨j, o, O, v, _, _, h2, h3, hv, hb⟩ := wrOld hg
    exact h.okOwn h2 h3 hv hb
  have okb : ∀ g, okB w (ownOf (fun i => ρ (fd i)) hp' m X.fz) g → okB B X g := fun g hg => by
    rcases hg with hg | hg
    · exact .inl (Nat.le_trans h.size hg)
    · exact wrB hg
  have val0 : ∀ {j v}, j < m → ρ1 j = some v → ρ (fd j) = some v := fun {j v} hlt hv => by
    have := h1.agree j hlt
    rw [hv] at this
    have e : (ownOf (fun i => ρ (fd i)) hp' m X.fz).ba j = ρ (fd j) := if_pos hlt
    rw [e] at this
    exact this.symm
  have blk1 : ∀ {j o v g}, find j hp1 = some o → o.owns = true → ρ1 j = some v → blk v = some g → okB w (ownOf (fun i => ρ (fd i)) hp' m X.fz) g := fun {j o v g} hj hl hv hb => by
    by_cases hlt : j < m
    · obtain ⟨o0, h2, h3, _⟩ := (hex j o hj).1 hlt
      exact .inr ⟨j, o0, v, h2, h3 hl, val0 hlt hv, hb⟩
    · exact h1.okOwn hj hl hv hb
  have blk2 : ∀ {j o v g}, find j hp1 = some o → o.live = true → ρ1 j = some v → blk v = some g → okB w (ownOf (fun i => ρ (fd i)) hp' m X.fz) g ∨ (j < m ∧ ∃ O, find (fd j) hp = some O ∧ O.live = true ∧ ρ (fd j) = some v) ∨ (∃ x0 O v0, find x0 hp = some O ∧ O.live = true ∧ O.owns = false ∧ ρ x0 = some v0 ∧ blk v0 = some g) ∨ X.fz g := fun {j o v g} hj hl hv hb => by
    by_cases hlt : j < m
    · obtain ⟨o0, h2, _, h3⟩ := (hex j o hj).1 hlt
      obtain ⟨O, h4, h5⟩ := hr.ent j o0 h2
      exact .inr (.inl ⟨hlt, O, h4, h5.live (by rw [renO_live]; exact h3 hl), val0 hlt hv⟩)
    · rcases (hex j o hj).2 (by omega) with ho | ho | hvw
      · exact .inl (h1.okOwn hj ho hv hb)
      · rw [ho] at hl; cases hl
      · rcases h1.prov j o v g hj hl hv hb with hg | hg | ⟨i0, o0, v0, q1, q2, q3, q4⟩ | hg
        · exact .inl (.inl hg)
        · exact .inl (.inr hg)
        · cases ho0 : o0.owns with
          | true => exact .inl (.inr ⟨i0, o0, v0, q1, ho0, q3, q4⟩)
          | false =>
            obtain ⟨O, h4, h5⟩ := hr.ent i0 o0 q1
            exact .inr (.inr (.inl ⟨fd i0, O, v0, h4, h5.live (by rw [renO_live]; exact q2), hvw i0 o0 O q1 q2 ho0 h4, q3, q4⟩))
        · exact .inr (.inr (.inr hg))
  have hid : ∀ {x O v g}, find x hp = some O → (∀ j o, find j hp' = some o → o.owns = true → fd j ≠ x) → O.live = true → ρ x = some v → blk v = some g → w1.heap[g]? = w.heap[g]? ∧ ¬ okB w (ownOf (fun i => ρ (fd i)) hp' m X.fz) g := fun {x O v g} hx hno hl hv hb => by
    have hlt := h.blkOk x O v g hx hl hv hb
    have hnw : ¬ (ownOf (fun i => ρ (fd i)) hp' m X.fz).wr g := fun hg => by
      obtain ⟨j, o, O', v', hj, ho, h2, h3, hv', hb'⟩ := wrOld hg
      exact h.sep (fd j) x O' O v' v g (hno j o hj ho) h2 hx h3 hl hv' hv hb' hb
    refine ⟨h1.old g hlt hnw, fun hg => ?_⟩
    rcases hg with hg | hg
    · omega
    · exact hnw hg
  refine ⟨?_, le0, e1⟩
  exact {
    os := h1.os.trans h.os, tape := h1.tape.trans h.tape, out := h1.out.trans h.out, size := Nat.le_trans h.size h1.size
    old := fun b hb hx => by
      rw [← h.old b hb hx]
      refine h1.old b (Nat.lt_of_lt_of_le hb h.size) fun hg => ?_
      rcases wrB hg with h' | h'
      · omega
      · exact hx h'
    nbLe := Nat.le_trans h.nbLe (Nat.le_add_right _ _)
    agree := fun i hi => by
      have := h.nbLe
      unfold backA; rw [if_pos (by omega)]; exact h.agree i hi
    fresh := fun i hi => by
      unfold backA; rw [if_neg (by omega)]; exact h1.fresh _ (by omega)
    one := fun i v hv => by
      unfold backA at hv
      split at hv
      · exact h.one i v hv
      · exact h1.one _ v hv
    obj := fun x O hx => by
      rcases part x O hx with ⟨j, o, hj, rfl, rfl⟩ | ⟨hx, hno⟩ | ⟨rfl, O', hx⟩
      · obtain ⟨v, hv, hok⟩ := h1.obj j o hj
        refine ⟨v, by rw [e1]; exact hv, ?_⟩
        have hok' : okObj (fun i => backA ρ ρ1 n m (fu i)) w1 (okB w (ownOf (fun i => ρ (fd i)) hp' m X.fz)) v o := by
          have : (fun i => backA ρ ρ1 n m (fu i)) = ρ1 := funext e1
          rw [this]; exact hok
        exact (okObj.ren.1 hok').sub (subO.refl _) fun ho g hg => okb g (h1.okOwn hj (by rw [renO_owns] at ho; exact ho) hv hg)
      · obtain ⟨v, hv, hok⟩ := h.obj x O hx
        exact ⟨v, le0 _ _ hv, hok.keep le0 fun hl g hg => (hid hx hno hl hv hg).1⟩
      · obtain ⟨v, hv, _⟩ := h.obj x O' hx
        exact ⟨v, le0 _ _ hv, trivial⟩
    sep := fun i j oi oj vi vj g hij hi hj ho hl hvi hvj hg => by
      rcases part i oi hi with ⟨i', oi', hi', rfl, rfl⟩ | ⟨hi', hino⟩ | ⟨rfl, _⟩ <;> rcases part j oj hj with ⟨j', oj', hj', rfl, rfl⟩ | ⟨hj', hjno⟩ | ⟨rfl, _⟩
      · rw [e1] at hvi hvj
        rw [renO_owns] at ho; rw [renO_live] at hl
        exact h1.sep i' j' oi' oj' vi vj g (fun e => hij (by rw [e])) hi' hj' ho hl hvi hvj hg
      · intro hgj
        rw [e1] at hvi
        rw [renO_owns] at ho
        exact (hid hj' hjno hl (low _ _ _ hj' hvj) hgj).2 (blk1 hi' ho hvi hg)
      · simp [SO.live] at hl
      · intro hgj
        rw [e1] at hvj
        rw [renO_live] at hl
        rcases blk2 hj' hl hvj hgj with hb | ⟨hlt, O, h2, h3, h4⟩ | ⟨x0, O, v0, h2, h3, h3', h4, h5⟩ | hfz
        · exact (hid hi' hino (live_of_owns ho) (low _ _ _ hi' hvi) hg).2 hb
        · exact h.sep i (fd j') oi O vi vj g (fun e => hij (by rw [e, (hfb j' hlt).1])) hi' h2 ho h3 (low _ _ _ hi' hvi) h4 hg hgj
        · exact h.sep i x0 oi O vi v0 g (fun e => by subst e; rw [h2] at hi'; cases hi'; rw [h3'] at ho; cases ho) hi' h2 ho h3 (low _ _ _ hi' hvi) h4 hg h5
        · exact h.frz g hfz (h.okOwn hi' ho (low _ _ _ hi' hvi) hg)
      · exact h.sep i j oi oj vi vj g hij hi' hj' ho hl (low _ _ _ hi' hvi) (low _ _ _ hj' hvj) hg
      · simp [SO.live] at hl
      all_goals simp [SO.owns] at ho
    blkOk := fun i o v g hi hl hv hg => by
      rcases part i o hi with ⟨i', oi', hi', rfl, rfl⟩ | ⟨hi', _⟩ | ⟨rfl, _⟩
      · rw [e1] at hv; rw [renO_live] at hl
        exact h1.blkOk i' oi' v g hi' hl hv hg
      · exact Nat.lt_of_lt_of_le (h.blkOk i o v g hi' hl (low _ _ _ hi' hv) hg) h1.size
      · simp [SO.live] at hl
    prov := fun i o v g hi hl hv hg => by
      rcases part i o hi with ⟨i', oi', hi', rfl, rfl⟩ | ⟨hi', _⟩ | ⟨rfl, _⟩
      · rw [e1] at hv; rw [renO_live] at hl
        rcases blk2 hi' hl hv hg with hb | ⟨_, O, h2, h3, h4⟩ | ⟨x0, O, v0, h2, h3, _, h4, h5⟩ | hfz
        · exact (okb g hb).view
        · exact h.prov _ O v g h2 h3 h4 hg
        · exact h.prov x0 O v0 g h2 h3 h4 h5
        · exact .inr (.inr (.inr hfz))
      · exact h.prov i o v g hi' hl (low _ _ _ hi' hv) hg
      · simp [SO.live] at hl
    nn := fun i o v hi hs hv => by
      rcases part i o hi with ⟨i', oi', hi', rfl, rfl⟩ | ⟨hi', _⟩ | ⟨rfl, _⟩
      · rw [e1] at hv; rw [renO_isSl] at hs
        exact h1.nn i' oi' v hi' hs hv
      · exact h.nn i o v hi' hs (low _ _ _ hi' hv)
      · simp [SO.isSl] at hs
    frz := h.frz
    inn := fun i o hi => by
      rcases part i o hi with ⟨i', oi', hi', rfl, rfl⟩ | ⟨hi', _⟩ | ⟨rfl, _⟩
      · exact renO_inn ((h1.inn i' oi' hi').move (X' := X) (fun _ h => h) fun g hg => (h.fzHeap hg).2.symm)
      · exact h.inn i o hi'
      · trivial }
end rel
end
end Go.Sx

/-
  The symbolic evaluator whose answers are trees, with functions and loops told by trees. Own work; nothing here is trusted.
-/
namespace Go.Sx
noncomputable section
open Go.RowKit

variable {C : Tab} {P : Program} {R : Type}

/-- What a function answers, told by a tree. -/
abbrev SpecT (C : Tab) := Nat → Option (List SV → Hp C → Nat → OT C)
abbrev LT (C : Tab) := Tr (Ex × Tm × Hp C × Nat)
/-- Where a loop ends, told by a tree: by function and enclosing block. -/
abbrev LoopT (C : Tab) := Nat → Nat → Option (Tm → Hp C → Nat → LT C)

def toF (A : Ans R) (sp : SpecT C) : SpecF C R := fun g => match sp g with
  | some f => some fun vs hp n k => (f vs hp n).run A fun r => k r.1 r.2.1 r.2.2
  | none => none
def toL (A : Ans R) (ls : LoopT C) : Nat → Nat → LoopF C R := fun g blk _ _ tm hp n k => match ls g blk with
  | some f => (f tm hp n).run A fun r => k r.1 r.2.1 r.2.2.1 r.2.2.2
  | none => A.bad

def FnAns (P : Program) (g : Nat) (vs : List SV) (hp : Hp C) (n : Nat) (r : SV × Hp C × Nat) : Prop :=
  ∀ B X ρ w args, Rel B X ρ hp n w → denL ρ vs = some args → (∃ fn, P.funcs[g]? = some fn ∧ fn.body.isSome = true) ∧ Calls P g args.toArray w (CallPost B X ρ hp n fun sv hp n => (sv, hp, n) = r)
def SpecTOk (P : Program) (sp : SpecT C) : Prop := ∀ g f, sp g = some f → ∀ vs hp n r, (f vs hp n).get = some r → FnAns P g vs hp n r
def LoopTOk (P : Program) (ls : LoopT C) : Prop := ∀ g blk f fn c l, ls g blk = some f → P.funcs[g]? = some fn → fn.body = some c → (blk, l) ∈ lps 0 c →
  ∀ tm hp n r, (f tm hp n).get = some r → InLoop P fn.ntmps l tm hp n fun e tm hp n => (e, tm, hp, n) = r

theorem SpecTOk.f {A : Ans R} {I : R → Prop} (hA : AnsOk A I) {sp : SpecT C} (h : SpecTOk P sp) : SpecOkG P I (toF A sp) := fun g f hf => by
  unfold toF at hf
  split at hf
  · rename_i f' hg
    cases hf
    rintro vs hp n k B X ρ w args ⟨k', hk, he⟩ RR hargs
    subst he
    obtain ⟨r, h1, h2⟩ := Tr.run_get hA hk
    obtain ⟨h3, h4⟩ := h g f' hg vs hp n r h1 B X ρ w args RR hargs
    refine ⟨h3, h4.mono ?_⟩
    rintro e w' ⟨ρ', v, sv, hp', n', h5, h6, h7, h8, h9, h10⟩
    subst h10
    exact ⟨ρ', v, sv, hp', n', h5, h6, h7, h8, h9, h2⟩
  · cases hf
theorem LoopTOk.f {A : Ans R} {I : R → Prop} (hA : AnsOk A I) {ls : LoopT C} (h : LoopTOk P ls) : ∀ g fn c, P.funcs[g]? = some fn → fn.body = some c → ∀ blk l, (blk, l) ∈ lps 0 c → LoopOkAt P I fn.ntmps l (toL A ls g blk fn.ntmps l) := fun g fn c hfn hc blk l hl tm hp n k hk => by
  unfold toL at hk
  split at hk
  · rename_i f hf
    obtain ⟨r, h1, h2⟩ := Tr.run_get hA hk
    intro B X ρ w a hN hD RR T b kk cs
    obtain ⟨e, a', w', h3, h4⟩ := h g blk f fn c l hf hfn hc hl tm hp n r h1 B X ρ w a hN hD RR T b kk cs
    refine ⟨e, a', w', h3.mono fun x tm hp n hx => ?_, h4⟩
    subst hx; exact h2
  · exact (hA.no hk).elim

def noSp : SpecT C := fun _ => none
theorem noSp_ok : SpecTOk P (noSp (C := C)) := fun _ _ h => nomatch h
def noLs : LoopT C := fun _ _ => none
theorem noLs_ok : LoopTOk P (noLs (C := C)) := fun _ _ _ _ _ _ h => nomatch h
def addS (g : Nat) (f : List SV → Hp C → Nat → OT C) (r : SpecT C) : SpecT C := fun i => match Nat.beq i g with
  | true => some f
  | false => r i
def addL (g blk : Nat) (f : Tm → Hp C → Nat → LT C) (r : LoopT C) : LoopT C := fun i b => match Nat.beq i g, Nat.beq b blk with
  | true, true => some f
  | _, _ => r i b
theorem addS_ok {g : Nat} {f : List SV → Hp C → Nat → OT C} {r : SpecT C} (h : ∀ vs hp n x, (f vs hp n).get = some x → FnAns P g vs hp n x) (hr : SpecTOk P r) : SpecTOk P (addS g f r) := fun i f' hf => by
  unfold addS at hf
  split at hf
  · rename_i hb
    cases hf; cases Nat.eq_of_beq_eq_true hb; exact h
  · exact hr i f' hf
/-- The one loop whose enclosing block is this. -/
def pickL (blk : Nat) : List (Nat × Code) → List Code
  | [] => []
  | (b, l) :: r => match Nat.beq b blk with
    | true => l :: pickL blk r
    | false => pickL blk r
def onlyL (blk : Nat) (ls : List (Nat × Code)) : Option Code := match pickL blk ls with
  | [l] => some l
  | _ => none
theorem pickL_mem {blk : Nat} {l : Code} : ∀ {ls : List (Nat × Code)}, (blk, l) ∈ ls → l ∈ pickL blk ls
  | (b, x) :: r, h => by
    unfold pickL
    rcases List.mem_cons.1 h with e | h
    · cases e; rw [Nat.beq_refl]; exact List.mem_cons_self
    · split
      · exact List.mem_cons_of_mem _ (pickL_mem h)
      · exact pickL_mem h
theorem onlyL_mem {blk : Nat} {l l' : Code} {ls : List (Nat × Code)} (h : onlyL blk ls = some l) (hm : (blk, l') ∈ ls) : l' = l := by
  have := pickL_mem hm
  unfold onlyL at h
  split at h
  · rename_i x hx
    cases h
    rw [hx] at this
    exact List.mem_singleton.1 this
  · cases h
/-- The loop of a function in a block of its own. -/
def loopOf (P : Program) (g blk : Nat) : Option (Nat × Code) := match P.funcs[g]? with
  | some fn => match fn.body with
    | some c => match onlyL blk (lps 0 c) with
      | some l => some (fn.ntmps, l)
      | none => none
    | none => none
  | none => none
theorem addL_ok {g blk : Nat} {f : Tm → Hp C → Nat → LT C} {r : LoopT C} {N : Nat} {l : Code} (hl : loopOf P g blk = some (N, l)) (h : ∀ tm hp n x, (f tm hp n).get = some x → InLoop P N l tm hp n fun e tm hp n => (e, tm, hp, n) = x) (hr : LoopTOk P r) : LoopTOk P (addL g blk f r) := fun i b f' fn c l' hf hfn hc hm => by
  unfold addL at hf
  split at hf
  · rename_i h1 h2
    cases hf; cases Nat.eq_of_beq_eq_true h1; cases Nat.eq_of_beq_eq_true h2
    unfold loopOf at hl
    rw [hfn] at hl
    simp only [hc] at hl
    split at hl
    · rename_i l2 h3
      cases hl
      cases onlyL_mem h3 hm
      exact h
    · cases hl
  · exact hr i b f' fn c l' hf hfn hc hm

/-- The evaluator. -/
def evalT (C : Tab) (P : Program) (sp : SpecT C) (ls : LoopT C) (unr : Nat → Nat → Nat) (d : Nat) : CallF C (OT C) := callG (ansT _) P (toF (ansT _) sp) (toL (ansT _) ls) unr (fun _ ih => drawS (ansT _) P ih) d
theorem evalT_ok (hp0' : Plain P) (hm : P.follows .mixedOrders = true) {sp : SpecT C} (hs : SpecTOk P sp) {ls : LoopT C} (hl : LoopTOk P ls) {unr : Nat → Nat → Nat} : ∀ (d : Nat) (x : SV × Hp C × Nat), CallOk P (fun y : OT C => y.get = some x) (evalT C P sp ls unr d)
  | 0, x => fun _ _ _ _ _ _ _ _ _ _ h => by cases h
  | d + 1, x => by
    have no := ansT_ok x
    exact callStep_ok (I := fun y : OT C => y.get = some x) hp0' no (hs.f no) (hl.f no) (drawS_ok (I := fun y : OT C => y.get = some x) hp0' hm no (evalT_ok hp0' hm hs hl d)) (evalT_ok hp0' hm hs hl d x)
end
end Go.Sx

/-
  The symbolic evaluator: what functions answer to slices that are seen, told by their elements alone. Own work; nothing here is trusted.
-/
namespace Go.Sx
noncomputable section
open Go.RowKit

variable {C : Tab} {P : Program} {R : Type}

/-! Handles numbered in the order in which they stand. -/
mutual
def relV : SV → Nat → SV × List Nat
  | .raw v, _ => (.raw v, [])
  | .h i, m => (.h m, [i])
  | .ep i o, m => (.ep m o, [i])
  | .bs i o l c, m => (.bs m o l c, [i])
  | .vs i s b o l c, m => (.vs m s b o l c, [i])
  | .el i a s j, m => (.el m a s j, [i])
  | .agg cs, m => (.agg (relL cs m).1, (relL cs m).2)
  | .tup cs, m => (.tup (relL cs m).1, (relL cs m).2)
  | .fn g cs, m => (.fn g (relL cs m).1, (relL cs m).2)
def relL : List SV → Nat → List SV × List Nat
  | [], _ => ([], [])
  | v :: r, m => ((relV v m).1 :: (relL r (m + (relV v m).2.length)).1, (relV v m).2 ++ (relL r (m + (relV v m).2.length)).2)
end
mutual
theorem renV_rel (f : Nat → Nat) : ∀ (v : SV) (m : Nat), (∀ i x, (relV v m).2[i]? = some x → f (m + i) = x) → renV f (relV v m).1 = v
  | .raw _, _, _ => rfl
  | .h i, m, h => by have := h 0 i rfl; simp only [relV, renV]; rw [← this]; rfl
  | .ep i o, m, h => by have := h 0 i rfl; simp only [relV, renV]; rw [← this]; rfl
  | .bs i o l c, m, h => by have := h 0 i rfl; simp only [relV, renV]; rw [← this]; rfl
  | .vs i s b o l c, m, h => by have := h 0 i rfl; simp only [relV, renV]; rw [← this]; rfl
  | .el i a s j, m, h => by have := h 0 i rfl; simp only [relV, renV]; rw [← this]; rfl
  | .agg cs, m, h => by simp only [relV, renV]; rw [renL_rel f cs m (fun i x hx => h i x hx)]
  | .tup cs, m, h => by simp only [relV, renV]; rw [renL_rel f cs m (fun i x hx => h i x hx)]
  | .fn g cs, m, h => by simp only [relV, renV]; rw [renL_rel f cs m (fun i x hx => h i x hx)]
theorem renL_rel (f : Nat → Nat) : ∀ (l : List SV) (m : Nat), (∀ i x, (relL l m).2[i]? = some x → f (m + i) = x) → renL f (relL l m).1 = l
  | [], _, _ => rfl
  | v :: r, m, h => by
    simp only [relL, renL]
    rw [renV_rel f v m, renL_rel f r]
    · intro i x hx
      have := h ((relV v m).2.length + i) x (by simp only [relL]; rw [List.getElem?_append_right (by omega)]; simpa using hx)
      rw [← this]; congr 1; omega
    · intro i x hx
      refine h i x ?_
      simp only [relL]
      rw [List.getElem?_append_left (List.getElem?_eq_some_iff.1 hx).1]
      exact hx
end

def numH (m : Nat) : List (SO C) → Hp C
  | [] => []
  | o :: r => (m, o) :: numH (m + 1) r
theorem find_num {j : Nat} {o : SO C} : ∀ {os : List (SO C)} {m : Nat}, find j (numH m os) = some o → m ≤ j ∧ os[j - m]? = some o
  | [], m, h => by cases h
  | x :: r, m, h => by
    unfold numH at h
    rw [find_cons] at h
    split at h
    · rename_i e; subst e; cases h; exact ⟨Nat.le_refl _, by simp⟩
    · obtain ⟨h1, h2⟩ := find_num h
      refine ⟨by omega, ?_⟩
      have : j - m = (j - (m + 1)) + 1 := by omega
      rw [this]; simpa using h2
theorem num_find {o : SO C} : ∀ {os : List (SO C)} {m i : Nat}, os[i]? = some o → find (m + i) (numH m os) = some o
  | [], m, i, h => by simp at h
  | x :: r, m, 0, h => by
    simp at h; subst h
    unfold numH; rw [find_cons, if_pos (by omega)]
  | x :: r, m, i + 1, h => by
    unfold numH; rw [find_cons, if_neg (by omega)]
    have := num_find (m := m + 1) (show r[i]? = some o by simpa using h)
    rw [show m + (i + 1) = m + 1 + i by omega]; exact this
/-- The slices behind handles, as views. -/
def views (hp : Hp C) : List Nat → Option (List (SO C))
  | [] => some []
  | i :: r => match find i hp with
    | some (.sl _ full e ts) => match views hp r with
      | some os => some (.sl false full e ts :: os)
      | none => none
    | _ => none
theorem views_at {hp : Hp C} : ∀ {ids : List Nat} {os : List (SO C)}, views hp ids = some os → os.length = ids.length ∧ ∀ (j : Nat) (o : SO C), os[j]? = some o → ∃ i own full e ts, ids[j]? = some i ∧ find i hp = some (.sl own full e ts) ∧ o = .sl false full e ts
  | [], os, h => by simp only [views, Option.some.injEq] at h; subst h; exact ⟨rfl, fun j o h => by simp at h⟩
  | i :: r, os, h => by
    unfold views at h
    split at h
    · rename_i own full e ts hi
      split at h
      · rename_i os' hos
        cases h
        obtain ⟨h1, h2⟩ := views_at hos
        refine ⟨by simp [h1], fun j o hj => ?_⟩
        match j with
        | 0 => simp at hj; subst hj; exact ⟨i, own, full, e, ts, rfl, hi, rfl⟩
        | j + 1 => simpa using h2 j o (by simpa using hj)
      · cases h
    · cases h

mutual
theorem renV_flat (f : Nat → Nat) : ∀ (v : SV), flatV v = true → renV f v = v
  | .raw _, _ => rfl
  | .h _, h | .ep _ _, h | .bs _ _ _ _, h | .el _ _ _ _, h | .vs _ _ _ _ _ _, h => by simp [flatV] at h
  | .agg cs, h => by simp only [flatV] at h; simp only [renV, renL_flat f cs h]
  | .tup cs, h => by simp only [flatV] at h; simp only [renV, renL_flat f cs h]
  | .fn _ cs, h => by simp only [flatV] at h; simp only [renV, renL_flat f cs h]
theorem renL_flat (f : Nat → Nat) : ∀ (l : List SV), flatL l = true → renL f l = l
  | [], _ => rfl
  | v :: r, h => by
    simp only [flatL] at h
    split at h
    · rename_i hv; simp only [renL, renV_flat f v hv, renL_flat f r h]
    · cases h
end
/-- New slices and maps. -/
def isNew : SO C → Bool
  | .sl own _ _ _ => own
  | .mp _ _ _ => true
  | .mv _ _ _ _ vs => flatL vs
  | _ => false
theorem isNew_spec {o : SO C} (h : isNew o = true) : o.owns = true ∧ ∀ f, renO f o = o := by
  cases o <;> simp [isNew] at h
  · exact ⟨h, fun _ => rfl⟩
  · exact ⟨rfl, fun _ => rfl⟩
  · exact ⟨rfl, fun f => by simp only [renO, renL_flat f _ h]⟩
def allOwn : List (SO C) → Bool
  | [] => true
  | o :: r => match isNew o with
    | true => allOwn r
    | false => false
theorem allOwn_at : ∀ {os : List (SO C)}, allOwn os = true → ∀ (j : Nat) (o : SO C), os[j]? = some o → isNew o = true
  | [], _, j, o, h => by simp at h
  | x :: r, h, j, o, hj => by
    unfold allOwn at h
    split at h
    · rename_i hx
      match j with
      | 0 => simp at hj; subst hj; exact hx
      | j + 1 => exact allOwn_at (os := r) h j o (by simpa using hj)
    · cases h
def mapN (ids : List Nat) (n : Nat) : Nat → Nat := fun j => match ids[j]? with
  | some i => i
  | none => n + (j - ids.length)

/-- What a function answers that sees slices and lays new ones. -/
abbrev FnF (C : Tab) := List SV → List (SO C) → Tr (SV × List (SO C))
def Fn0 (P : Program) (g : Nat) (args : List SV) (os : List (SO C)) (r : SV × List (SO C)) : Prop :=
  ∀ B X ρ w vals, X.nb = os.length → Rel B X ρ (numH 0 os) os.length w → denL ρ args = some vals →
    (∃ fn, P.funcs[g]? = some fn ∧ fn.body.isSome = true) ∧ Calls P g vals.toArray w fun e w' => ∃ ρ' v, e = .returned v ∧ Rel B X ρ' (numH os.length r.2) (os.length + r.2.length) w' ∧ den ρ' r.1 = some v
def viewS (F : FnF C) : List SV → Hp C → Nat → OT C := fun vs hp n => match views hp (relL vs 0).2 with
  | none => .fail
  | some os => (F (relL vs 0).1 os).bind fun r => match allOwn r.2 with
    | true => .leaf (renV (mapN (relL vs 0).2 n) r.1, numH n r.2 ++ hp, n + r.2.length)
    | false => .fail
theorem viewS_ok {g : Nat} {F : FnF C} (hF : ∀ args os r, (F args os).get = some r → Fn0 P g args os r) : ∀ vs hp n x, (viewS F vs hp n).get = some x → FnAns P g vs hp n x := fun vs hp n x h B X ρ w args RR hargs => by
  unfold viewS at h
  split at h
  · cases h
  · rename_i os hos
    obtain ⟨r, h1, h2⟩ := Tr.get_bind h
    split at h2
    · rename_i hown
      simp only [Tr.get, Option.some.injEq] at h2
      subst h2
      obtain ⟨hlen, hat⟩ := views_at hos
      generalize hids : (relL vs 0).2 = ids at *
      have hlt : ∀ j i, ids[j]? = some i → i < n := fun j i hj => by
        have : j < os.length := by rw [hlen]; exact (List.getElem?_eq_some_iff.1 hj).1
        obtain ⟨i', own, full, e, ts, g1, g2, _⟩ := hat j _ (List.getElem?_eq_getElem this)
        rw [hj] at g1; cases g1
        obtain ⟨v, hv, _⟩ := RR.obj i _ g2
        by_cases hlt : i < n
        · exact hlt
        · rw [RR.fresh i (by omega)] at hv; cases hv
      have hlo : ∀ j, j < os.length → ∃ i, ids[j]? = some i ∧ mapN ids n j = i ∧ i < n := fun j hj => by
        have hj' : ids[j]? = some (ids[j]'(by omega)) := List.getElem?_eq_getElem (by omega)
        refine ⟨_, hj', ?_, hlt j _ hj'⟩
        unfold mapN; rw [hj']
      have hhi : ∀ j, os.length ≤ j → mapN ids n j = n + (j - os.length) := fun j hj => by
        unfold mapN
        rw [List.getElem?_eq_none (by omega), hlen]
      have hren : renL (mapN ids n) (relL vs 0).1 = vs := renL_rel _ vs 0 fun i x hx => by
        rw [hids] at hx
        rw [Nat.zero_add]
        unfold mapN; rw [hx]
      have hr : Renum hp (mapN ids n) (numH 0 os) := ⟨fun j o hj => by
        obtain ⟨_, g2⟩ := find_num hj
        rw [Nat.sub_zero] at g2
        obtain ⟨i, own, full, e, ts, g3, g4, rfl⟩ := hat j o g2
        refine ⟨.sl own full e ts, ?_, ⟨nofun, fun h => h, rfl, HEq.rfl⟩⟩
        unfold mapN; rw [g3]; exact g4, fun i j oi oj hi hj hij ho => by
        obtain ⟨_, g2⟩ := find_num hi
        obtain ⟨_, own, full, e, ts, _, _, rfl⟩ := hat _ oi g2
        cases ho⟩
      have RD := RR.down (m := os.length) (nb := os.length) (Nat.le_refl _) hr (fun i hi => by rw [hhi i hi]; omega)
      have hd : denL (fun i => ρ (mapN ids n i)) (relL vs 0).1 = some args := by rw [denL_ren, hren]; exact hargs
      obtain ⟨g1, g2⟩ := hF _ _ _ h1 w _ _ w args rfl RD hd
      refine ⟨g1, g2.mono ?_⟩
      rintro e w' ⟨ρ1, v, rfl, R1, hv⟩
      obtain ⟨u1, u2, u3⟩ := RR.up (fu := mapN ids n) (hpG := hp) hr hhi (fun j hj => by obtain ⟨i, _, e, hi⟩ := hlo j hj; exact ⟨rfl, by rw [e]; exact hi⟩) (fun x O hx => .inl hx) R1
        (fun j o hj => by
          obtain ⟨g3, g4⟩ := find_num hj
          exact ⟨fun hlt => by omega, fun _ => .inl (isNew_spec (allOwn_at hown _ o g4)).1⟩)
        (fun j o hj ho => by
          obtain ⟨_, g3⟩ := find_num hj
          obtain ⟨_, own, full, e, ts, _, _, rfl⟩ := hat _ o g3
          cases ho)
      have hup : ∀ (l : List (SO C)) (k : Nat), allOwn l = true → os.length ≤ k → upHp (mapN ids n) (numH k l) = numH (n + (k - os.length)) l := by
        intro l
        induction l with
        | nil => intro _ _ _; rfl
        | cons o l ih =>
          intro k ho hk
          unfold allOwn at ho
          split at ho
          · rename_i hno
            have := ih (k + 1) ho (by omega)
            simp only [numH, upHp, this, (isNew_spec hno).2, hhi k hk]
            rw [show n + (k - os.length) + 1 = n + (k + 1 - os.length) by omega]
          · cases ho
      rw [hup r.2 os.length hown (Nat.le_refl _), Nat.sub_self, Nat.add_zero, Nat.add_sub_cancel_left] at u1
      exact ⟨_, v, _, _, _, rfl, u2, ⟨by omega, List.suffix_append _ _⟩, by rw [← den_ren]; rw [show (fun i => backA ρ ρ1 n os.length (mapN ids n i)) = ρ1 from funext u3]; exact hv, u1, rfl⟩
    · cases h2

/-- From an evaluation by the function's own numbers. -/
theorem Fn0.of {call : CallF C (OT C)} (hc : ∀ x, CallOk P (fun y : OT C => y.get = some x) call) {g : Nat} {args : List SV} {os : List (SO C)} {q : SV × Hp C × Nat} (h : (call g args (numH 0 os) os.length (fun sv hp n => .leaf (sv, hp, n))).get = some q)
    {r : SV × List (SO C)} (ks : List Nat) (hlen : ks.length = r.2.length) (hsv : q.1 = renV (mapN (List.range os.length ++ ks) (q.2.2)) r.1)
    (hos : ∀ (i k : Nat) (o : SO C), ks[i]? = some k → r.2[i]? = some o → find k q.2.1 = some o ∧ renO (mapN (List.range os.length ++ ks) (q.2.2)) o = o) (hnd : ks.Nodup) : Fn0 P g args os r := fun B X ρ w vals hX RR hd => by
  obtain ⟨h1, h2⟩ := hc q g args (numH 0 os) os.length _ B X ρ w vals h RR hd
  refine ⟨h1, h2.mono ?_⟩
  rintro e w' ⟨ρ', v, sv, hp', n', rfl, h3, h4, h5, h6, h7⟩
  have h7 : (sv, hp', n') = q := by simpa [Tr.get] using h7
  subst h7
  generalize hf : mapN (List.range os.length ++ ks) n' = f at *
  have hn := h4.1
  have flo : ∀ i, i < os.length → f i = i := fun i hi => by
    rw [← hf]; unfold mapN
    rw [List.getElem?_append_left (by simpa using hi), List.getElem?_range hi]
  have fmid : ∀ i k, ks[i]? = some k → f (os.length + i) = k := fun i k hk => by
    rw [← hf]; unfold mapN
    rw [List.getElem?_append_right (by simp)]
    simp only [List.length_range, Nat.add_sub_cancel_left, hk]
  have fhi : ∀ i, os.length + r.2.length ≤ i → n' ≤ f i := fun i hi => by
    rw [← hf]; unfold mapN
    rw [List.getElem?_eq_none (by simp; omega)]
    exact Nat.le_add_right _ _
  have hR := h6.ren (hp' := numH os.length r.2) (n' := os.length + r.2.length) (f := f) ⟨fun j o hj => by
      obtain ⟨g1, g2⟩ := find_num hj
      have hlt := (List.getElem?_eq_some_iff.1 g2).1
      have hk : ks[j - os.length]? = some (ks[j - os.length]'(by omega)) := List.getElem?_eq_getElem (by omega)
      obtain ⟨g3, g4⟩ := hos _ _ o hk g2
      refine ⟨o, ?_, by rw [g4]; exact subO.refl _⟩
      have := fmid _ _ hk
      rw [show os.length + (j - os.length) = j by omega] at this
      rw [this]; exact g3, fun i j oi oj hi hj hij _ _ e => by
      obtain ⟨g1, g2⟩ := find_num hi
      obtain ⟨g3, g4⟩ := find_num hj
      have l1 := (List.getElem?_eq_some_iff.1 g2).1
      have l2 := (List.getElem?_eq_some_iff.1 g4).1
      have e1 := fmid (i - os.length) _ (List.getElem?_eq_getElem (by omega))
      have e2 := fmid (j - os.length) _ (List.getElem?_eq_getElem (by omega))
      rw [show os.length + (i - os.length) = i by omega] at e1
      rw [show os.length + (j - os.length) = j by omega] at e2
      rw [e1, e2] at e
      have hp := List.pairwise_iff_getElem.1 hnd
      rcases Nat.lt_trichotomy (i - os.length) (j - os.length) with hl | hl | hl
      · exact hp _ _ (by omega) (by omega) hl e
      · omega
      · exact hp _ _ (by omega) (by omega) hl e.symm⟩ (by omega) (fun i hi => flo i (by omega)) fhi
  refine ⟨_, v, rfl, hR, ?_⟩
  rw [den_ren, ← hsv]; exact h5
end
end Go.Sx
