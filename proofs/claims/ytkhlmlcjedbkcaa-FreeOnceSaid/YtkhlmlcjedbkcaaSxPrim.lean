/-
  The symbolic evaluator, second part: what each operation does to symbolic values and to the symbolic heap, as a decision tree. Own work; nothing here is trusted.
-/
import Derived.Test.YtkhlmlcjedbkcaaSxBase
namespace Go.Sx
noncomputable section
open Go.RowKit

/-- A decision tree. -/
inductive Tr (α : Type) where
  | leaf (a : α)
  | br (b : Bool) (t f : Tr α)
  | fail

/-! What answers a 'Prop' is written by its recursor: so the elaborator's reduction and the kernel's meet in one form. -/
/-- What the evaluator may answer: how it fails, how it branches. -/
structure Ans (R : Type) where
  bad : R
  br : Bool → R → R → R
structure AnsOk {R : Type} (A : Ans R) (I : R → Prop) : Prop where
  no : ¬ I A.bad
  br : ∀ b t f, I (A.br b t f) → (b = true → I t) ∧ (b = false → I f)
/-- Answers that are statements. -/
def ansP : Ans Prop := ⟨False, fun b t f => Bool.rec (motive := fun _ => Prop) f t b⟩
theorem ansP_ok : AnsOk ansP (fun p : Prop => p) where
  no h := h
  br b t f h := by
    cases b
    · exact ⟨nofun, fun _ => h⟩
    · exact ⟨fun _ => h, nofun⟩
/-- Answers that are trees. -/
def ansT (α : Type) : Ans (Tr α) := ⟨.fail, .br⟩

def Tr.run {α R : Type} (A : Ans R) (t : Tr α) (k : α → R) : R :=
  Tr.rec (motive := fun _ => R) (fun a => k a) (fun b _ _ iht ihf => A.br b iht ihf) A.bad t

def Tr.get {α : Type} : Tr α → Option α
  | .leaf a => some a
  | .br b t f => match b with
    | true => t.get
    | false => f.get
  | .fail => none

def Tr.bind {α β : Type} (t : Tr α) (g : α → Tr β) : Tr β :=
  Tr.rec (motive := fun _ => Tr β) (fun a => g a) (fun b _ _ iht ihf => .br b iht ihf) .fail t

theorem ansT_ok {α : Type} (x : α) : AnsOk (ansT α) (fun t => t.get = some x) where
  no h := nomatch h
  br b t f h := by
    cases b
    · exact ⟨nofun, fun _ => h⟩
    · exact ⟨fun _ => h, nofun⟩
theorem Tr.run_get {α R : Type} {A : Ans R} {I : R → Prop} (hA : AnsOk A I) {k : α → R} : ∀ {t : Tr α}, I (t.run A k) → ∃ a, t.get = some a ∧ I (k a)
  | .leaf a, h => ⟨a, rfl, h⟩
  | .br true t f, h => Tr.run_get hA (t := t) ((hA.br true _ _ h).1 rfl)
  | .br false t f, h => Tr.run_get hA (t := f) ((hA.br false _ _ h).2 rfl)
  | .fail, h => (hA.no h).elim

theorem Tr.get_bind {α β : Type} {g : α → Tr β} {b : β} : ∀ {t : Tr α}, (t.bind g).get = some b → ∃ a, t.get = some a ∧ (g a).get = some b
  | .leaf a, h => ⟨a, rfl, h⟩
  | .br true t f, h => Tr.get_bind (t := t) h
  | .br false t f, h => Tr.get_bind (t := f) h
  | .fail, h => by cases h

theorem Tr.bind_get {α β : Type} {g : α → Tr β} {b : β} {a : α} : ∀ {t : Tr α}, t.get = some a → (g a).get = some b → (t.bind g).get = some b
  | .leaf a, h, h' => by cases h; exact h'
  | .br true t f, h, h' => Tr.bind_get (t := t) h h'
  | .br false t f, h, h' => Tr.bind_get (t := f) h h'
  | .fail, h, _ => by cases h

theorem Tr.get_br {α : Type} {b : Bool} {t f : Tr α} {a : α} : (Tr.br b t f).get = some a ↔ (b = true ∧ t.get = some a) ∨ (b = false ∧ f.get = some a) := by
  cases b <;> simp [Tr.get]

/-- Where a test is asked and the other way fails. -/
theorem Tr.get_ask {α : Type} {b : Bool} {t : Tr α} {a : α} : (Tr.br b t .fail).get = some a ↔ b = true ∧ t.get = some a := by
  cases b <;> simp [Tr.get]

def Tr.ofOpt {α : Type} : Option α → Tr α
  | some a => .leaf a
  | none => .fail
theorem Tr.get_ofOpt {α : Type} {o : Option α} {a : α} : (Tr.ofOpt o).get = some a ↔ o = some a := by
  cases o <;> simp [Tr.ofOpt, Tr.get]

variable {C : Tab} {P : Program}
abbrev Res (C : Tab) := SV × Hp C

/-! ### types -/
def szOf (P : Program) (t : TypeId) : Option Nat := match P.info? t with
  | some i => some i.size
  | none => none
def aggT (P : Program) (t : TypeId) : Option Bool := match P.underlying t with
  | some (.struct _) => some true
  | some (.array _ _) => some true
  | some _ => some false
  | none => none
def zeroT (P : Program) (t : TypeId) : Option Value := match P.info? t with
  | some i => i.zero
  | none => none

theorem run_sizeOf {t : TypeId} {k : Nat} (h : szOf P t = some k) (w : World) : (sizeOf t).run P w = .ok k w := by
  unfold szOf at h
  split at h
  · rename_i i hi; cases h; simp [sizeOf, typeInfo, hi]
  · cases h

theorem run_zeroValue {t : TypeId} {z : Value} (h : zeroT P t = some z) (w : World) : (zeroValue t).run P w = .ok z w := by
  unfold zeroT at h
  split at h
  · rename_i i hi; simp [zeroValue, typeInfo, hi, h]
  · cases h

theorem run_isAgg {t : TypeId} {b : Bool} (h : aggT P t = some b) (w : World) : (isAgg t).run P w = .ok b w := by
  unfold aggT at h
  unfold isAgg
  split at h
  · rename_i d hd; rw [Sem.run_bind, run_underlying hd w]; simp at h ⊢; exact h
  · rename_i d e hd; rw [Sem.run_bind, run_underlying hd w]; simp at h ⊢; exact h
  · rename_i d h1 h2 hd
    rw [Sem.run_bind, run_underlying hd w]
    cases h
    cases d <;> first | rfl | exact absurd rfl (h1 _) | exact absurd rfl (h2 _ _)
  · cases h

/-- A value out of cells, by its type. -/
def mkV (P : Program) (t : TypeId) (cs : List SV) : Tr SV := match aggT P t with
  | some true => .leaf (.agg cs)
  | some false => match cs with
    | [c] => .leaf c
    | _ => .fail
  | none => .fail

theorem mkV_load {t : TypeId} {cs : List SV} {sv : SV} {ρ : Asg} {vs : List Value} {w : World} {a : Addr} (h : (mkV P t cs).get = some sv) (hsz : szOf P t = some cs.length)
    (hd : denL ρ cs = some vs) (hc : ∀ j x, vs[j]? = some x → w.cell? (a.add j) = some x) : ∃ u, (loadVar t a).run P w = .ok u w ∧ den ρ sv = some u := by
  have hl := denL_length hd
  unfold mkV at h
  split at h
  · rename_i hag
    simp [Tr.get] at h; subst h
    refine ⟨.agg vs.toArray, ?_, by simp [den, hd]⟩
    unfold loadVar
    rw [Sem.run_bind, run_isAgg hag]
    simp only [Result.andThen_ok, if_true]
    rw [Sem.run_bind, run_sizeOf hsz, Result.andThen_ok, Sem.run_bind, ← hl, run_loadCells_list w a vs hc]
    rfl
  · rename_i hag
    split at h
    · rename_i c
      simp [Tr.get] at h; subst h
      obtain ⟨u, l, h1, h2, rfl⟩ := denL_cons.1 hd
      rw [denL_nil.1 h2] at hc
      have h0 := hc 0 u rfl
      rw [Addr.add_zero] at h0
      refine ⟨u, ?_, h1⟩
      unfold loadVar
      rw [Sem.run_bind, run_isAgg hag]
      simp [h0]
    · simp [Tr.get] at h
  · simp [Tr.get] at h

def segS (cs : List SV) (off k : Nat) : Option (List SV) := match Nat.ble (off + k) cs.length with
  | true => some ((cs.drop off).take k)
  | false => none

theorem segS_spec {cs : List SV} {off k : Nat} {l : List SV} {ρ : Asg} {vs : List Value} (h : segS cs off k = some l) (hd : denL ρ cs = some vs) :
    l.length = k ∧ denL ρ l = some ((vs.drop off).take k) ∧ off + k ≤ vs.length := by
  unfold segS at h
  split at h
  · rename_i hb
    cases h
    have hb' := Nat.le_of_ble_eq_true hb
    refine ⟨by simp; omega, denL_take k (denL_drop off hd), by rw [denL_length hd]; exact hb'⟩
  · cases h

/-! ### load -/
def loadBox (P : Program) (look : Nat → Option (SO C)) (t : TypeId) (id off : Nat) : Tr (Res C) :=
  match look id, szOf P t with
  | some (.box cs _), some k => match segS cs off k with
    | some l => (mkV P t l).bind fun v => .leaf (v, [])
    | none => .fail
  | _, _ => .fail
/-- The cells of so many elements. -/
def spanC (c : Codec) (ts : List c.α) : Nat → Nat → List Value
  | _, 0 => []
  | i, m + 1 => c.enc (ts.getD i c.d) ++ spanC c ts (i + 1) m
theorem spanC_eq (c : Codec) (ts : List c.α) : ∀ (m i : Nat), i + m ≤ ts.length → spanC c ts i m = ((c.flat ts).drop (i * c.sz)).take (m * c.sz)
  | 0, i, _ => by simp [spanC]
  | m + 1, i, h => by
    have hd := c.flat_at ts i (by omega)
    have ih := spanC_eq c ts m (i + 1) (by omega)
    rw [hd, List.take_append, c.len, List.take_of_length_le (by rw [c.len, Nat.add_mul]; omega)]
    simp only [spanC]
    rw [ih]
    congr 1
    rw [← c.flat_drop, show (m + 1) * c.sz - c.sz = m * c.sz by rw [Nat.add_mul]; omega]
def loadEl (P : Program) (look : Nat → Option (SO C)) (t : TypeId) (id i sz j : Nat) : Tr (Res C) :=
  match look id, szOf P t with
  | some (.sl _ _ e ts), some k => match Nat.beq sz (C e).sz with
    | true => .br (decide (i < ts.length)) (match segS (rawL ((C e).enc (ts.getD i (C e).d))) j k with
      | some l => (mkV P t l).bind fun v => .leaf (v, [])
      | none => match Nat.beq j 0, Nat.beq (k / (C e).sz * (C e).sz) k with
        | true, true => .br (decide (i + k / (C e).sz ≤ ts.length)) ((mkV P t (rawL (spanC (C e) ts i (k / (C e).sz)))).bind fun v => .leaf (v, [])) .fail
        | _, _ => .fail) .fail
    | false => .fail
  | _, _ => .fail
def pLoad (P : Program) (look : Nat → Option (SO C)) (t : TypeId) : SV → Tr (Res C)
  | .h id => loadBox P look t id 0
  | .ep id off => loadBox P look t id off
  | .el id i sz j => loadEl P look t id i sz j
  | _ => .fail

section sound
variable {B : World} {X : Own} {ρ : Asg} {hp : Hp C} {n : Nat} {w : World}

theorem loadBox_sound (R : Rel B X ρ hp n w) {t : TypeId} {id off : Nat} {r : Res C} (h : (loadBox P (fun i => find i hp) t id off).get = some r) {v : Value} (hv : ρ id = some v) :
    ∃ a, baseOf v = some a ∧ ∃ u, (loadVar t (a.add off)).run P w = .ok u w ∧ den ρ r.1 = some u ∧ r.2 = [] := by
  unfold loadBox at h
  split at h
  · rename_i cs ty k hid hk
    split at h
    · rename_i l hl
      obtain ⟨sv, h1, h2⟩ := Tr.get_bind h
      simp [Tr.get] at h2; subst h2
      obtain ⟨v', hv', g, vs, rfl, _, hden, hheap⟩ := R.obj id _ hid
      rw [hv] at hv'; cases hv'
      obtain ⟨e1, e2, e3⟩ := segS_spec hl hden
      refine ⟨_, rfl, ?_⟩
      obtain ⟨u, hu1, hu2⟩ := mkV_load (w := w) (a := (⟨g, 0, none⟩ : Addr).add off) h1 (by rw [hk, e1]) e2 (fun j x hx => by
        rw [Addr.add_add, Addr.add_at, cell_of_row w g _ _ _ _ hheap]
        rw [List.getElem?_take] at hx
        split at hx
        · rw [List.getElem?_drop] at hx; simpa using hx
        · cases hx)
      exact ⟨u, hu1, hu2, rfl⟩
    · simp [Tr.get] at h
  · simp [Tr.get] at h

theorem flat_cell (R : Rel B X ρ hp n w) {id : Nat} {own full : Bool} {e : TypeId} {ts : List (C e).α} {v : Value} (hid : find id hp = some (.sl own full e ts)) (hv : ρ id = some v) :
    ∃ a cap, v = .slice a ts.length cap ∧ ts.length ≤ cap ∧ ∀ j x, ((C e).flat ts)[j]? = some x → ∃ a', a = some a' ∧ w.cell? (a'.add j) = some x := by
  obtain ⟨v', hv', a, cap, rfl, hc1, hc2, hc3⟩ := R.obj id _ hid
  rw [hv] at hv'; cases hv'
  refine ⟨a, cap, rfl, hc1, ?_⟩
  cases own with
  | false => exact hc3
  | true => exact hc3.cell

theorem vs_den (R : Rel B X ρ hp n w) {id sz bs off len : Nat} {cap : Option Nat} {own full : Bool} {e : TypeId} {ts : List (C e).α} {v : Value} (hid : find id hp = some (.sl own full e ts)) (hx : den ρ (.vs id sz bs off len cap) = some v) :
    ∃ a c, ρ id = some (.slice (some a) ts.length c) ∧ ts.length ≤ c ∧ (full = true → c = ts.length) ∧ v = .slice (some (if off = c then a.add (Nat.min bs off * sz) else a.add (off * sz))) len (capO cap (c - off)) ∧
      ∀ j x, ((C e).flat ts)[j]? = some x → w.cell? (a.add j) = some x := by
  simp only [den, Option.bind_eq_some_iff] at hx
  obtain ⟨u, hu, hx⟩ := hx
  obtain ⟨v', hv', a, c, rfl, h1, h2, h3⟩ := R.obj id _ hid
  rw [hu] at hv'; cases hv'
  obtain ⟨a', c', he, _, hcell⟩ := flat_cell R hid hu
  cases he
  unfold vsV at hx
  split at hx
  · rename_i a0 l0 c0 e0
    cases e0
    cases hx
    refine ⟨a0, _, hu, h1, h2, rfl, fun j x hj => ?_⟩
    obtain ⟨b, hb, hc⟩ := hcell j x hj
    cases hb; exact hc
  · cases hx

theorem loadEl_sound (R : Rel B X ρ hp n w) {t : TypeId} {id i sz j : Nat} {r : Res C} (h : (loadEl P (fun i => find i hp) t id i sz j).get = some r) {v : Value} (hv : ρ id = some v) :
    ∃ a, baseOf v = some a ∧ ∃ u, (loadVar t (a.add (i * sz + j))).run P w = .ok u w ∧ den ρ r.1 = some u ∧ r.2 = [] := by
  unfold loadEl at h
  split at h
  · rename_i own full e ts k hid hk
    split at h
    · rename_i hsz
      have hsz := Nat.eq_of_beq_eq_true hsz
      subst hsz
      obtain ⟨hb, h⟩ := Tr.get_ask.1 h
      have hlt : i < ts.length := by simpa using hb
      cases hseg : segS (rawL ((C e).enc (ts.getD i (C e).d))) j k with
      | some l =>
        rw [hseg] at h
        have hl := hseg
        obtain ⟨sv, h1, h2⟩ := Tr.get_bind h
        simp [Tr.get] at h2; subst h2
        obtain ⟨a, cap, rfl, _, hcell⟩ := flat_cell R hid hv
        obtain ⟨e1, e2, e3⟩ := segS_spec hl (denL_rawL (ρ := ρ) _)
        rw [(C e).len] at e3
        have hpos := (C e).pos
        have hx0 : ((C e).flat ts)[i * (C e).sz + 0]? = ((C e).enc (ts.getD i (C e).d))[0]? := (C e).flat_get ts i 0 hlt hpos
        have hsome : ∃ x, ((C e).enc (ts.getD i (C e).d))[0]? = some x := ⟨_, List.getElem?_eq_getElem (by rw [(C e).len]; exact hpos)⟩
        obtain ⟨x0, hx0'⟩ := hsome
        obtain ⟨a', rfl, _⟩ := hcell _ x0 (hx0.trans hx0')
        refine ⟨a', rfl, ?_⟩
        obtain ⟨u, hu1, hu2⟩ := mkV_load (w := w) (a := a'.add (i * (C e).sz + j)) h1 (by rw [hk, e1]) e2 (fun m x hx => by
          rw [Addr.add_add, Nat.add_assoc]
          rw [List.getElem?_take] at hx
          split at hx
          · rename_i hm
            rw [List.getElem?_drop] at hx
            obtain ⟨a2, ha2, hc⟩ := hcell (i * (C e).sz + (j + m)) x (by rw [(C e).flat_get ts i (j + m) hlt (by omega)]; exact hx)
            cases ha2
            exact hc
          · cases hx)
        exact ⟨u, hu1, hu2, rfl⟩
      | none =>
        rw [hseg] at h
        simp only at h
        split at h
        · rename_i hj0 hkm
          have hj0 := Nat.eq_of_beq_eq_true hj0
          have hkm := Nat.eq_of_beq_eq_true hkm
          obtain ⟨hb2, h9⟩ := Tr.get_ask.1 h
          have hb2 := of_decide_eq_true hb2
          obtain ⟨sv, h1, h2⟩ := Tr.get_bind h9
          subst hj0
          simp [Tr.get] at h2; subst h2
          obtain ⟨a, cap, rfl, _, hcell⟩ := flat_cell R hid hv
          have hpos := (C e).pos
          have hx0 : ((C e).flat ts)[i * (C e).sz + 0]? = ((C e).enc (ts.getD i (C e).d))[0]? := (C e).flat_get ts i 0 hlt hpos
          have hsome : ∃ x, ((C e).enc (ts.getD i (C e).d))[0]? = some x := ⟨_, List.getElem?_eq_getElem (by rw [(C e).len]; exact hpos)⟩
          obtain ⟨x0, hx0'⟩ := hsome
          obtain ⟨a', rfl, _⟩ := hcell _ x0 (hx0.trans hx0')
          refine ⟨a', rfl, ?_⟩
          have hsp := spanC_eq (C e) ts (k / (C e).sz) i hb2
          have hle : i * (C e).sz + k / (C e).sz * (C e).sz ≤ ts.length * (C e).sz := by
            rw [← Nat.add_mul]; exact Nat.mul_le_mul_right _ hb2
          have hl : (rawL (spanC (C e) ts i (k / (C e).sz))).length = k := by
            rw [rawL_length, hsp, List.length_take, List.length_drop, (C e).flat_length]; omega
          obtain ⟨u, hu1, hu2⟩ := mkV_load (w := w) (a := a'.add (i * (C e).sz + 0)) h1 (by rw [hk, hl]) (denL_rawL (ρ := ρ) _) (fun m x hx => by
            rw [Addr.add_add, Nat.add_zero]
            rw [hsp, List.getElem?_take] at hx
            split at hx
            · rw [List.getElem?_drop] at hx
              obtain ⟨a2, ha2, hc⟩ := hcell (i * (C e).sz + m) x hx
              cases ha2
              exact hc
            · cases hx)
          exact ⟨u, hu1, hu2, rfl⟩
        · simp [Tr.get] at h
    · simp [Tr.get] at h
  · simp [Tr.get] at h

theorem pLoad_sound (R : Rel B X ρ hp n w) {t : TypeId} {sv : SV} {r : Res C} (h : (pLoad P (fun i => find i hp) t sv).get = some r) {v : Value} (hv : den ρ sv = some v) :
    ∃ u, (Instr.loadAt t v).run P w = .ok u w ∧ den ρ r.1 = some u ∧ r.2 = [] := by
  have fin : ∀ {a : Addr} {u : Value}, (loadVar t a).run P w = .ok u w → (Instr.loadAt t (.pointer (some a))).run P w = .ok u w := fun {a u} h => by
    simp [Instr.loadAt, Instr.sureAddr, h]
  unfold pLoad at h
  split at h
  · rename_i id
    obtain ⟨a, ha, u, h1, h2⟩ := loadBox_sound R h hv
    rw [Addr.add_zero] at h1
    have : v = .pointer (some a) := by
      unfold loadBox at h
      split at h
      · rename_i hid _
        obtain ⟨v', hv', g, vs, rfl, _⟩ := R.obj id _ hid
        simp only [den] at hv
        rw [hv] at hv'; cases hv'
        simp [baseOf] at ha; subst ha; rfl
      · simp [Tr.get] at h
    subst this
    exact ⟨u, fin h1, h2⟩
  · rename_i id off
    simp only [den, Option.bind_eq_some_iff, Option.map_eq_some_iff] at hv
    obtain ⟨v0, hv0, a, ha, rfl⟩ := hv
    obtain ⟨a', ha', u, h1, h2⟩ := loadBox_sound R h hv0
    rw [ha] at ha'; cases ha'
    exact ⟨u, fin h1, h2⟩
  · rename_i id i sz j
    simp only [den, Option.bind_eq_some_iff, Option.map_eq_some_iff] at hv
    obtain ⟨v0, hv0, a, ha, rfl⟩ := hv
    obtain ⟨a', ha', u, h1, h2⟩ := loadEl_sound R h hv0
    rw [ha] at ha'; cases ha'
    exact ⟨u, fin h1, h2⟩
  · simp [Tr.get] at h
end sound

end
end Go.Sx
