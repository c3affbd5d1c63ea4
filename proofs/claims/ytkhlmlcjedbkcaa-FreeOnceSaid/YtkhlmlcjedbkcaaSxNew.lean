/-
  The symbolic evaluator: operations that lay new memory. Own work; nothing here is trusted.
-/
import Derived.Test.YtkhlmlcjedbkcaaSxOps2
namespace Go.Sx
noncomputable section
open Go.RowKit

variable {C : Tab} {P : Program}

/-- An operation's answer: a value, and a world in which the changed symbolic heap holds. -/
def NewOk (P : Program) (B : World) (X : Own) (ρ : Asg) (hp : Hp C) (n : Nat) (w : World) (s : Sem Value) (r : Res C) : Prop :=
  ∃ v w' ρ', s.run P w = .ok v w' ∧ ρ.le ρ' ∧ den ρ' r.1 = some v ∧ Rel B X ρ' (r.2 ++ hp) (n + 4) w'

def pAlloc (P : Program) (n : Nat) (t : TypeId) : Tr (Res C) := match zeroT P t with
  | some z => .leaf (.h n, [(n, .box (cellsS (.raw z)) t)])
  | none => .fail

def pBox (n : Nat) (t : TypeId) (x : SV) : Tr (Res C) := forceL (cellsS x) fun l => .leaf (.h n, [(n, .box l t)])

section sound
variable {B : World} {X : Own} {ρ : Asg} {hp : Hp C} {n : Nat} {w : World}

theorem newBox (R : Rel B X ρ hp n w) {l : List SV} {vs : List Value} {t : TypeId} (hd : denL ρ l = some vs) :
    Rel B X (ρ.add n (.pointer (some ⟨w.heap.size, 0, none⟩))) ((n, .box l t) :: hp) (n + 4) (w.alloc (.cells vs.toArray t)) :=
  Rel.shift (R.addNew (.cells vs.toArray t) (o := .box l t) (v := .pointer (some ⟨w.heap.size, 0, none⟩)) rfl (fun g hg => by simp [blk] at hg; exact hg.symm)
    ⟨w.heap.size, vs, rfl, .inl R.size, hd, heap_alloc_new w _⟩) (by omega)

theorem newVar_run {t : TypeId} {v : Value} : (newVar t v).run P w = .ok ⟨w.heap.size, 0, none⟩ (w.alloc (.cells v.cells t)) := by
  simp [newVar, newRow]

theorem pAlloc_sound (R : Rel B X ρ hp n w) {t : TypeId} {r : Res C} (h : (pAlloc P n t).get = some r) : NewOk P B X ρ hp n w (Instr.alloc t true (.tuple #[])) r := by
  unfold pAlloc at h
  split at h
  · rename_i z hz
    simp only [Tr.get, Option.some.injEq] at h; subst h
    have hc : denL ρ (cellsS (.raw z)) = some z.cells.toList := den_cells (v := z) rfl R.one
    have := newBox R (t := t) hc
    simp only [Array.toArray_toList] at this
    refine ⟨.pointer (some ⟨w.heap.size, 0, none⟩), _, _, ?_, Asg.le_add ρ n _ (R.fresh n (Nat.le_refl _)), Asg.add_self ρ n _, this⟩
    simp only [Instr.alloc, Sem.run_bind, run_zeroValue hz, Result.andThen_ok, newVar_run, Sem.run_pure]
  · simp [Tr.get] at h

theorem pBox_sound (R : Rel B X ρ hp n w) {t : TypeId} {x : SV} {r : Res C} {v : Value} (h : (pBox n t x).get = some r) (hx : den ρ x = some v) : NewOk P B X ρ hp n w (Instr.box t v) r := by
  unfold pBox at h
  rw [forceL_eq] at h
  simp only [Tr.get, Option.some.injEq] at h; subst h
  have := newBox R (t := t) (den_cells hx R.one)
  simp only [Array.toArray_toList] at this
  refine ⟨.pointer (some ⟨w.heap.size, 0, none⟩), _, _, ?_, Asg.le_add ρ n _ (R.fresh n (Nat.le_refl _)), Asg.add_self ρ n _, this⟩
  simp only [Instr.box, Sem.run_bind, Result.andThen_ok, newVar_run, Sem.run_pure]
end sound

/-! ### composites -/
def fillS (place : Nat → Option (Nat × Nat)) (cells : List SV) : List (Nat × SV) → Option (List SV)
  | [] => some cells
  | (i, v) :: rest => match place i with
    | none => none
    | some (off, size) => match Nat.beq (cellsS v).length size with
      | true => match Nat.ble (off + (cellsS v).length) cells.length with
        | true => fillS place (spliceS cells off (cellsS v)) rest
        | false => none
      | false => none

theorem foldl_set (off : Nat) : ∀ (l : List Value) (k : Nat) (cs : Array Value), off + k + l.length ≤ cs.size →
    (l.zipIdx k).foldl (fun cs (x : Value × Nat) => cs.setIfInBounds (off + x.2) x.1) cs = (cs.toList.take (off + k) ++ l ++ cs.toList.drop (off + k + l.length)).toArray
  | [], k, cs, _ => by simp
  | v :: rest, k, cs, h => by
    simp only [List.zipIdx_cons, List.foldl_cons]
    rw [foldl_set off rest (k + 1) _ (by simp at h ⊢; omega)]
    congr 1
    have e := list_seg_step cs.toList (off + k) v rest (by simp at h ⊢; omega)
    simpa [Array.toList_setIfInBounds, Nat.add_assoc] using e

section sound
variable {ρ : Asg}

theorem fillS_sound (hone : ∀ i u, ρ i = some u → u.oneCell' = true) {place : Nat → Option (Nat × Nat)} : ∀ {parts : List (Nat × SV)} {cells l : List SV} {vs : List Value} {pv : List (Nat × Value)},
    fillS place cells parts = some l → denL ρ cells = some vs → pv.map (·.1) = parts.map (·.1) → denL ρ (parts.map (·.2)) = some (pv.map (·.2)) →
    ∃ us, denL ρ l = some us ∧ us.length = vs.length ∧ Instr.fill place vs.toArray pv = some us.toArray
  | [], cells, l, vs, pv, h, hd, hi, _ => by
    simp [fillS] at h; subst h
    have : pv = [] := by simpa using hi
    subst this
    exact ⟨vs, hd, rfl, rfl⟩
  | (i, v) :: rest, cells, l, vs, pv, h, hd, hi, hv => by
    cases pv with
    | nil => simp at hi
    | cons p pr =>
      obtain ⟨i', u⟩ := p
      simp only [List.map_cons, List.cons.injEq] at hi
      obtain ⟨rfl, hi⟩ := hi
      simp only [List.map_cons] at hv
      obtain ⟨u', l', h1, h2, h3⟩ := denL_cons.1 hv
      simp only [List.cons.injEq] at h3
      obtain ⟨rfl, rfl⟩ := h3
      unfold fillS at h
      split at h
      · cases h
      · rename_i off size hp
        split at h
        · rename_i hb
          split at h
          · rename_i hb2
            have e1 := Nat.eq_of_beq_eq_true hb
            have e2 := Nat.le_of_ble_eq_true hb2
            have hc := den_cells h1 hone
            have hl := denL_length hc
            have hlc := denL_length hd
            obtain ⟨us, h4, h5, h6⟩ := fillS_sound hone h (denL_splice hd hc) hi h2
            refine ⟨us, h4, ?_, ?_⟩
            · rw [h5]; simp at hl ⊢; omega
            · unfold Instr.fill
              rw [hp]
              have c1 : ¬ (u.cells.size ≠ size ∨ off + u.cells.size > vs.toArray.size) := by
                simp at hl ⊢; omega
              have c1' : (decide (u.cells.size ≠ size) || decide (off + u.cells.size > vs.toArray.size)) = false := by
                simp at hl ⊢; omega
              simp only [c1', Bool.false_eq_true, if_false]
              have e3 : (u.cells.zipIdx.foldl (fun cs (x : Value × Nat) => cs.setIfInBounds (off + x.2) x.1) vs.toArray) = (vs.take off ++ u.cells.toList ++ vs.drop (off + u.cells.toList.length)).toArray := by
                rw [← Array.foldl_toList, Array.toList_zipIdx]
                have := foldl_set off u.cells.toList 0 vs.toArray (by simp at hl ⊢; omega)
                simpa using this
              rw [e3]
              exact h6
          · cases h
        · cases h
end sound

def placesS (P : Program) : List Field → Option (List (Nat × Nat))
  | [] => some []
  | f :: r => match szOf P f.type, placesS P r with
    | some k, some l => some ((f.offset, k) :: l)
    | _, _ => none

theorem placesS_run : ∀ {fs : List Field} {l : List (Nat × Nat)}, placesS P fs = some l → ∀ w : World, (fs.mapM (m := Sem) fun f => do pure (f.offset, ← sizeOf f.type)).run P w = .ok l w
  | [], l, h, w => by simp [placesS] at h; subst h; simp
  | f :: r, l, h, w => by
    unfold placesS at h
    split at h
    · rename_i k l' hk hl
      cases h
      have ih := placesS_run hl w
      simp only [List.mapM_cons, Sem.run_bind, run_sizeOf hk, Result.andThen_ok, Sem.run_pure, ih]
    · cases h

def zipP : List Nat → List SV → List (Nat × SV)
  | i :: r, v :: s => (i, v) :: zipP r s
  | _, _ => []

def pBuild (P : Program) (t : TypeId) (idx : List Nat) (vs : List SV) : Tr SV := match zeroT P t, P.underlying t with
  | some z, some (.struct fs) => match placesS P fs.toList with
    | some ps => match fillS (fun i => ps[i]?) (cellsS (.raw z)) (zipP idx vs) with
      | some l => forceL l fun l => .leaf (.agg l)
      | none => .fail
    | none => .fail
  | some z, some (.array _ e) => match szOf P e with
    | some k => match fillS (fun i => some (i * k, k)) (cellsS (.raw z)) (zipP idx vs) with
      | some l => forceL l fun l => .leaf (.agg l)
      | none => .fail
    | none => .fail
  | _, _ => .fail

section sound
variable {B : World} {X : Own} {ρ : Asg} {hp : Hp C} {n : Nat} {w : World}

theorem zipP_fst : ∀ {idx : List Nat} {vs : List SV}, idx.length = vs.length → (zipP idx vs).map (·.1) = idx
  | [], [], _ => rfl
  | i :: r, v :: s, h => by simp [zipP, zipP_fst (idx := r) (vs := s) (by simpa using h)]
theorem zipP_snd : ∀ {idx : List Nat} {vs : List SV}, idx.length = vs.length → (zipP idx vs).map (·.2) = vs
  | [], [], _ => rfl
  | i :: r, v :: s, h => by simp [zipP, zipP_snd (idx := r) (vs := s) (by simpa using h)]

theorem pBuild_sound (R : Rel B X ρ hp n w) {t : TypeId} {idx : List Nat} {vs : List SV} {r : SV} {pv : List (Nat × Value)} (h : (pBuild P t idx vs).get = some r) (hi : pv.map (·.1) = idx) (hv : denL ρ vs = some (pv.map (·.2))) :
    PureOk P ρ w (Instr.build t pv.toArray) r := by
  have hlen : idx.length = vs.length := by rw [← hi, ← denL_length hv]; simp
  unfold pBuild at h
  split at h
  · rename_i z fs hz ht
    split at h
    · rename_i ps hps
      split at h
      · rename_i l hl
        rw [forceL_eq] at h
        simp only [Tr.get, Option.some.injEq] at h; subst h
        obtain ⟨us, h1, h2, h3⟩ := fillS_sound R.one (pv := pv) hl (den_cells (v := z) rfl R.one) (by rw [zipP_fst hlen, hi]) (by rw [zipP_snd hlen, hv])
        refine ⟨.agg us.toArray, ?_, by simp [den, h1]⟩
        have hpl := placesS_run hps w
        simp only [Array.toArray_toList] at h3
        have hpl' : (fs.mapM (m := Sem) fun f => do pure (f.offset, ← sizeOf f.type)).run P w = .ok ps.toArray w := by
          rw [Array.mapM_eq_mapM_toList]
          simp only [Sem.run_map, hpl, Result.andThen_ok]
        simp only [Instr.build, Sem.run_bind, run_zeroValue hz, Result.andThen_ok, run_underlying ht, hpl']
        have e : (fun i : Nat => ps.toArray[i]?) = fun i => ps[i]? := by funext i; simp
        rw [e, h3]
        rfl
      · simp [Tr.get] at h
    · simp [Tr.get] at h
  · rename_i z m e hz ht
    split at h
    · rename_i k hk
      split at h
      · rename_i l hl
        rw [forceL_eq] at h
        simp only [Tr.get, Option.some.injEq] at h; subst h
        obtain ⟨us, h1, h2, h3⟩ := fillS_sound R.one (pv := pv) hl (den_cells (v := z) rfl R.one) (by rw [zipP_fst hlen, hi]) (by rw [zipP_snd hlen, hv])
        refine ⟨.agg us.toArray, ?_, by simp [den, h1]⟩
        simp only [Array.toArray_toList] at h3
        simp only [Instr.build, Sem.run_bind, run_zeroValue hz, Result.andThen_ok, run_underlying ht, run_sizeOf hk]
        rw [h3]
        rfl
      · simp [Tr.get] at h
    · simp [Tr.get] at h
  · simp [Tr.get] at h
end sound
end
end Go.Sx
