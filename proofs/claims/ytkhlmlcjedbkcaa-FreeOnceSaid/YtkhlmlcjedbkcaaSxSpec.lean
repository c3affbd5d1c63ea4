/-
  The symbolic evaluator: functions that answer by a closed form, also where an order is drawn. Own work; nothing here is trusted.
-/
import Derived.Test.YtkhlmlcjedbkcaaSxTop
namespace Go.Sx
noncomputable section
open Go.RowKit

variable {C : Tab} {P : Program} {R : Type}

/-- The evaluator whose answers are data, with specifications. -/
def callOS (C : Tab) (P : Program) (so : SpecF C (OT C)) (unr : Nat → Nat → Nat) (d : Nat) : CallF C (OT C) := callG (ansT _) P so noLoop unr (fun _ ih => drawS (ansT _) P ih) d
def SpecO (P : Program) (so : SpecF C (OT C)) : Prop := ∀ x : SV × Hp C × Nat, SpecOkG P (fun y : OT C => y.get = some x) so
theorem callOS_ok (hp0' : Plain P) (hm : P.follows .mixedOrders = true) {so : SpecF C (OT C)} (hs : SpecO P so) {unr : Nat → Nat → Nat} : ∀ (d : Nat) (x : SV × Hp C × Nat), CallOk P (fun y : OT C => y.get = some x) (callOS C P so unr d)
  | 0, x => fun _ _ _ _ _ _ _ _ _ _ h => by cases h
  | d + 1, x => by
    have no := ansT_ok x
    exact callStep_ok (I := fun y : OT C => y.get = some x) hp0' no (hs x) (LoopOk.all noLoop_ok) (drawS_ok (I := fun y : OT C => y.get = some x) hp0' hm no (callOS_ok hp0' hm hs d)) (callOS_ok hp0' hm hs d x)
def drawPS (P : Program) (so : SpecF C (OT C)) (unr : Nat → Nat → Nat) : Nat → CallF C Prop → DrawF C Prop := fun d _ => drawS ansP P (callOS C P so unr d)
theorem drawPS_ok (hp0' : Plain P) (hm : P.follows .mixedOrders = true) {so : SpecF C (OT C)} (hs : SpecO P so) {unr : Nat → Nat → Nat} (d : Nat) (call : CallF C Prop) : DrawOk P (fun p : Prop => p) (drawPS (C := C) P so unr d call) :=
  drawS_ok hp0' hm ansP_ok (callOS_ok hp0' hm hs d)
abbrev evalSS (P : Program) (sp : SpecF C Prop) (so : SpecF C (OT C)) (unr : Nat → Nat → Nat) (d : Nat) : CallF C Prop := callS P sp (drawPS P so unr) unr d
theorem evalSS_ok (hp0 : Plain P) (hm : P.follows .mixedOrders = true) {sp : SpecF C Prop} (hs : SpecOk P sp) {so : SpecF C (OT C)} (ho : SpecO P so) {unr : Nat → Nat → Nat} (d : Nat) : CallP P (evalSS P sp so unr d) :=
  callS_sound hp0 hs (fun d call _ => drawPS_ok hp0 hm ho d call) d

/-- A function of values without memory that answers by a closed form. -/
def FnOk (P : Program) (g : Nat) (F : List SV → Option SV) : Prop := ∀ vs v, F vs = some v → flatL vs = true ∧ flatV v = true ∧
  ∀ (w : World) (args : List Value), denL (fun _ => none) vs = some args → (∃ fn, P.funcs[g]? = some fn ∧ fn.body.isSome = true) ∧ Calls P g args.toArray w fun e w' => ∃ u, e = .returned u ∧ den (fun _ => none) v = some u ∧ Below w.heap.size w w'
theorem FnOk.of {call : CallF C Prop} (hc : CallP P call) {g : Nat} {F : List SV → Option SV} (h : ∀ vs v, F vs = some v → flatL vs = true ∧ flatV v = true ∧ call g vs [] 0 (fun sv _ _ => sv = v)) : FnOk P g F := fun vs v hv => by
  obtain ⟨h1, h2, h3⟩ := h vs v hv
  refine ⟨h1, h2, fun w args hd => ?_⟩
  obtain ⟨g1, g2⟩ := hc g vs [] 0 _ w Own.no (fun _ => none) w args h3 (Rel.start w _ rfl) hd
  refine ⟨g1, g2.mono ?_⟩
  rintro e w' ⟨ρ', u, sv, hp', n', rfl, _, _, g3, g4, g5⟩
  have g5 : sv = v := g5
  subst g5
  exact ⟨u, rfl, by rw [den_flat _ ρ' sv h2]; exact g3, g4.below_start⟩
theorem FnOk.call1 {g : Nat} {F : List SV → Option SV} (h : FnOk P g F) {vs : List SV} {v : SV} (hv : F vs = some v) {hp : Hp C} {n : Nat} {k : SV → Hp C → Nat → Prop} (hk : k v hp n) {B : World} {X : Own} {ρ : Asg} {w : World} {args : List Value}
    (RR : Rel B X ρ hp n w) (hargs : denL ρ vs = some args) : (∃ fn, P.funcs[g]? = some fn ∧ fn.body.isSome = true) ∧ Calls P g args.toArray w (CallPost B X ρ hp n k) := by
  obtain ⟨h1, h2, h3⟩ := h vs v hv
  have hd : denL (fun _ => none) vs = some args := by rw [denL_flat _ ρ vs h1]; exact hargs
  obtain ⟨g1, g2⟩ := h3 w args hd
  refine ⟨g1, g2.mono ?_⟩
  rintro e w' ⟨u, rfl, g3, g4⟩
  exact ⟨ρ, u, v, hp, n, rfl, Asg.le_refl _, Grow.refl _ _, by rw [den_flat ρ (fun _ => none) v h2]; exact g3, RR.below g4, hk⟩

/-- The closed form as a specification, in either evaluator. -/
def byF (bad : R) (F : List SV → Option SV) : List SV → Hp C → Nat → (SV → Hp C → Nat → R) → R := fun vs hp n k => match F vs with
  | some v => k v hp n
  | none => bad
theorem byF_ok {g : Nat} {F : List SV → Option SV} (h : FnOk P g F) : CallOk1 (C := C) P g (byF False F) := fun vs hp n k B X ρ w args hk RR hargs => by
  unfold byF at hk
  split at hk
  · rename_i v hv; exact h.call1 hv hk RR hargs
  · exact hk.elim
def specG (g : Nat) (f : List SV → Hp C → Nat → (SV → Hp C → Nat → R) → R) (r : SpecF C R) : SpecF C R := fun i => match Nat.beq i g with
  | true => some f
  | false => r i
def noSpecO : SpecF C (OT C) := fun _ => none
theorem noSpecO_ok : SpecO P (noSpecO (C := C)) := fun x g f hf => by cases hf
theorem specO_ok {g : Nat} {F : List SV → Option SV} {r : SpecF C (OT C)} (h : FnOk P g F) (hr : SpecO P r) : SpecO P (specG g (byF .fail F) r) := fun x i f hf => by
  unfold specG at hf
  split at hf
  · rename_i hb
    cases hf
    cases Nat.eq_of_beq_eq_true hb
    intro vs hp n k B X ρ w args ⟨k', hk, he⟩ RR hargs
    subst he
    unfold byF at hk
    split at hk
    · rename_i v hv; exact h.call1 hv hk RR hargs
    · cases hk
  · exact hr x i f hf
end
end Go.Sx
