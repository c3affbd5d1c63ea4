/-
  The symbolic evaluator: how a call of a statement's function is read off. Own work; nothing here is trusted.
-/
import Derived.Test.YtkhlmlcjedbkcaaSxAny3
import Derived.KernelRfl
namespace Go.Sx
noncomputable section
open Go.RowKit

variable {C : Tab} {P : Program}

/-- Elements that are numbers of one kind. -/
def cInt (k : IntKind) : Codec where
  α := Int
  ag := false
  sz := 1
  enc x := [.int k x]
  dec l := match l with
    | [.raw (.int k' x)] => match kindEq k' k with
      | true => some x
      | false => none
    | _ => none
  d := 0
  pos := by decide
  len := fun _ => rfl
  one := fun _ v h => by simp at h; subst h; rfl
  law := fun cs a h => by
    split at h
    · rename_i k' x
      split at h
      · rename_i hk
        cases h; cases kindEq_eq hk; rfl
      · cases h
    · cases h
  sg := fun _ => rfl

def cBool : Codec where
  α := Bool
  ag := false
  sz := 1
  enc x := [.bool x]
  dec l := match l with
    | [.raw (.bool x)] => some x
    | _ => none
  d := false
  pos := by decide
  len := fun _ => rfl
  one := fun _ v h => by simp at h; subst h; rfl
  law := fun cs a h => by
    split at h
    · cases h; rfl
    · cases h
  sg := fun _ => rfl

/-- The evaluator of statements: calls, with specifications and with drawn regions. -/
def callS (P : Program) (sp : SpecF C Prop) (dr : Nat → CallF C Prop → DrawF C Prop) (unr : Nat → Nat → Nat) (d : Nat) : CallF C Prop := callG ansP P sp (fun _ _ => InLoop P) unr dr d
theorem callS_sound (hp0 : Plain P) {sp : SpecF C Prop} (hs : SpecOk P sp) {dr : Nat → CallF C Prop → DrawF C Prop} (hd : ∀ d call, CallOk P (fun p : Prop => p) call → DrawOk P (fun p : Prop => p) (dr d call)) {unr : Nat → Nat → Nat} (d : Nat) : CallOk P (fun p : Prop => p) (callS P sp dr unr d) :=
  callG_sound hp0 ansP_ok hs.g (LoopOk.all fun _ _ => loop_ok) hd d

abbrev CallP (P : Program) (call : CallF C Prop) : Prop := CallOk P (fun p : Prop => p) call
/-- With drawn regions; every loop is unrolled at most so often as 'unr' says. -/
abbrev evalS (P : Program) (sp : SpecF C Prop) (unr : Nat → Nat → Nat) (d : Nat) : CallF C Prop := callS P sp (drawP P unr) unr d
theorem evalS_ok (hp0 : Plain P) (hm : P.follows .mixedOrders = true) {sp : SpecF C Prop} (hs : SpecOk P sp) {unr : Nat → Nat → Nat} (d : Nat) : CallP P (evalS P sp unr d) :=
  callS_sound hp0 hs (fun d call _ => drawP_ok hp0 hm d call) d

def noDraw : Nat → CallF C Prop → DrawF C Prop := fun _ _ _ _ _ _ _ _ => False
theorem noDraw_ok (d : Nat) (call : CallF C Prop) (_ : CallP P call) : DrawOk P (fun p : Prop => p) (noDraw d call) := fun _ _ _ _ _ _ _ _ _ _ _ _ h => h.elim

def noSpec : SpecF C Prop := fun _ => none
theorem noSpec_ok : SpecOk P (C := C) noSpec := fun _ _ h => by cases h

def isT : SV → Hp C → Nat → Prop := fun v _ _ => match v with
  | .raw (.bool b) => b = true
  | _ => False

/-- No row of the table of outside functions bears this name. -/
def freeName (n : String) : Bool := (Extern.allGenericRows.lookup n).isNone && ((Extern.allTypedRows.lookup n).isNone && ((Extern.allRows.lookup n).isNone && (Extern.allNextRows.lookup n).isNone))
def ovOk (fn : Func) : Bool := match fn.body with
  | some _ => true
  | none => match decide (fn.origin = "slices.overlaps") with
    | true => freeName fn.name
    | false => true
def plainB (P : Program) : Bool := P.funcs.all fun fn => !(fn.name == "runtime.NumGoroutine") && ovOk fn
theorem ov_rows : Extern.allGenericRows.lookup "slices.overlaps" = none ∧ Extern.allTypedRows.lookup "slices.overlaps" = some Extern.SlicesOverlaps.overlaps ∧ Extern.allNextRows.lookup "slices.overlaps" = none := by
  refine ⟨?_, ?_, ?_⟩ <;> kernel_rfl
theorem plain_of {P : Program} (h : plainB P = true) : Plain P := by
  unfold plainB at h
  rw [Array.all_eq_true] at h
  have hall : ∀ (g : Nat) (fn : Func), P.funcs[g]? = some fn → (!(fn.name == "runtime.NumGoroutine")) = true ∧ ovOk fn = true := fun g fn hg => by
    obtain ⟨hlt, rfl⟩ := Array.getElem?_eq_some_iff.1 hg
    exact Bool.and_eq_true_iff.1 (h g hlt)
  refine ⟨fun g fn hg => by simpa using (hall g fn hg).1, fun g fn hg hb ho => ?_⟩
  have h2 := (hall g fn hg).2
  unfold ovOk at h2
  rw [hb, ho] at h2
  simp only [decide_true] at h2
  unfold freeName at h2
  simp only [Bool.and_eq_true, Option.isNone_iff_eq_none] at h2
  obtain ⟨h3, h4, h5, h6⟩ := h2
  obtain ⟨r1, r2, r3⟩ := ov_rows
  exact ⟨by simp [Extern.findNext, h6, ho, r3], by simp [Extern.find, h3, h4, h5, ho, r1, r2]⟩

theorem brT {X Y : Prop} {b : Bool} (h1 : b = true → X) (h2 : b = false → Y) : Bool.rec (motive := fun _ => Prop) Y X b := by
  cases b
  · exact h2 rfl
  · exact h1 rfl

theorem brOn {X Y : Prop} {b : Bool} (h : b = true) (h1 : X) : Bool.rec (motive := fun _ => Prop) Y X b := by
  subst h; exact h1
theorem brOff {X Y : Prop} {b : Bool} (h : b = false) (h1 : Y) : Bool.rec (motive := fun _ => Prop) Y X b := by
  subst h; exact h1

theorem brD {X Y p : Prop} [d : Decidable p] (h1 : p → X) (h2 : ¬ p → Y) : Bool.rec (motive := fun _ => Prop) Y X (decide p) := by
  by_cases h : p
  · rw [decide_eq_true h]; exact h1 h
  · rw [decide_eq_false h]; exact h2 h
theorem brE {X Y : Prop} {a b : Int} (h1 : a = b → X) (h2 : a ≠ b → Y) : Bool.rec (motive := fun _ => Prop) Y X (a == b) := by
  by_cases h : a = b
  · rw [beq_iff_eq.2 h]; exact h1 h
  · rw [beq_eq_false_iff_ne.2 h]; exact h2 h
theorem inR64_off {r : Int} (h : r < -9223372036854775808 ∨ 9223372036854775807 < r) : inR64 r = false := by
  cases hr : inR64 r with
  | false => rfl
  | true =>
    unfold inR64 at hr
    simp only [Bool.and_eq_true, decide_eq_true_eq] at hr
    omega
theorem brR {X Y : Prop} {r : Int} (h1 : -9223372036854775808 ≤ r ∧ r ≤ 9223372036854775807 → X) (h2 : ¬ (-9223372036854775808 ≤ r ∧ r ≤ 9223372036854775807) → Y) : Bool.rec (motive := fun _ => Prop) Y X (inR64 r) := by
  by_cases h : -9223372036854775808 ≤ r ∧ r ≤ 9223372036854775807
  · rw [inR64_mk h]; exact h1 h
  · rw [inR64_off (by omega)]; exact h2 h

/-- A branch of a statement, as it is written down. -/
def brc (b : Bool) (t f : Prop) : Prop := Bool.rec (motive := fun _ => Prop) f t b
@[simp] theorem brc_true (t f : Prop) : brc true t f = t := rfl
@[simp] theorem brc_false (t f : Prop) : brc false t f = f := rfl
theorem brc_on {b : Bool} {t f : Prop} (hb : b = true) (h : t) : brc b t f := by subst hb; exact h
theorem brc_off {b : Bool} {t f : Prop} (hb : b = false) (h : f) : brc b t f := by subst hb; exact h
mutual
def flatV : SV → Bool
  | .raw _ => true
  | .agg cs => flatL cs
  | .tup cs => flatL cs
  | .fn _ cs => flatL cs
  | _ => false
def flatL : List SV → Bool
  | [] => true
  | v :: r => match flatV v with
    | true => flatL r
    | false => false
end
mutual
theorem den_flat (ρ ρ' : Asg) : ∀ (v : SV), flatV v = true → den ρ v = den ρ' v
  | .raw _, _ => rfl
  | .agg cs, h => by simp only [den, denL_flat ρ ρ' cs h]
  | .tup cs, h => by simp only [den, denL_flat ρ ρ' cs h]
  | .fn _ cs, h => by simp only [den, denL_flat ρ ρ' cs h]
  | .h _, h | .ep _ _, h | .bs _ _ _ _, h | .el _ _ _ _, h | .vs _ _ _ _ _ _, h => by simp [flatV] at h
theorem denL_flat (ρ ρ' : Asg) : ∀ (l : List SV), flatL l = true → denL ρ l = denL ρ' l
  | [], _ => rfl
  | v :: r, h => by
    simp only [flatL] at h
    split at h
    · rename_i hv
      simp only [denL, den_flat ρ ρ' v hv, denL_flat ρ ρ' r h]
    · cases h
end

theorem Rel.below_start {w w' : World} {ρ : Asg} {hp : Hp C} {n : Nat} (h : Rel w Own.no ρ hp n w') : Below w.heap.size w w' :=
  { os := h.os, tape := h.tape, output := h.out, size := h.size, block := fun b hb => h.old b hb (fun h => h) }

/-- A call that is evaluated from the start, no memory taken in. -/
theorem run_true {P : Program} {call : CallF C Prop} (hc : CallOk P (fun p : Prop => p) call) {g : Nat} {args : List Value} (h : call g (rawL args) [] 0 isT) (w : World) :
    Calls P g args.toArray w fun e w' => e = .returned (.bool true) ∧ Below w.heap.size w w' := by
  refine (hc g (rawL args) [] 0 isT w Own.no (fun _ => none) w args h (Rel.start w _ rfl) (denL_rawL args)).2.mono ?_
  rintro e w' ⟨ρ', v, sv, hp', n', rfl, h1, h2, h3, h4, h5⟩
  refine ⟨?_, h4.below_start⟩
  cases sv with
  | raw u =>
    simp [den] at h3; subst h3
    cases u <;> simp_all [isT]
  | _ => simp [isT] at h5

/-- A call whose answer is known, and that lays at most new blocks. -/
theorem const_ok {P : Program} {g : Nat} {v : Value} {args0 : List Value} (hb : (match P.funcs[g]? with | some fn => fn.body.isSome | none => false) = true)
    (h : ∀ w, Calls P g args0.toArray w fun e w' => e = .returned v ∧ Below w.heap.size w w') :
    CallOk1 (C := C) P g fun vs hp n k => (∀ ρ, denL ρ vs = some args0) ∧ k (.raw v) hp n := by
  intro vs hp n k B X ρ w args hk R hargs
  have e : args = args0 := by have := hk.1 ρ; rw [hargs] at this; exact Option.some.inj this
  subst e
  constructor
  · split at hb
    · rename_i fn hfn; exact ⟨fn, hfn, hb⟩
    · cases hb
  · refine (h w).mono ?_
    rintro e w' ⟨rfl, hbel⟩
    exact ⟨ρ, v, .raw v, hp, n, rfl, Asg.le_refl _, Grow.refl _ _, rfl, R.below hbel, hk.2⟩

/-- A function of values without memory, whose answers hold none either: 'F' tells the answers. -/
def flatF (F : List SV → (SV → Prop) → Prop) : List SV → Hp C → Nat → (SV → Hp C → Nat → Prop) → Prop := fun vs hp n k => F vs fun v => k v hp n
def hasBody (P : Program) (g : Nat) : Bool := match P.funcs[g]? with
  | some fn => fn.body.isSome
  | none => false
theorem flatF_ok {P : Program} {C' : Tab} {call : CallF C' Prop} (hc : CallOk P (fun p : Prop => p) call) {g : Nat} {F : List SV → (SV → Prop) → Prop}
    (h : ∀ vs K, F vs K → flatL vs = true ∧ call g vs [] 0 (fun sv _ _ => flatV sv = true ∧ K sv)) : CallOk1 (C := C) P g (flatF F) := by
  intro vs hp n k B X ρ w args hk R hargs
  obtain ⟨h1, h2⟩ := h vs _ hk
  have hd : denL (fun _ => none) vs = some args := by rw [denL_flat _ ρ vs h1]; exact hargs
  obtain ⟨h3, h4⟩ := hc g vs [] 0 _ w Own.no (fun _ => none) w args h2 (Rel.start w _ rfl) hd
  refine ⟨h3, h4.mono ?_⟩
  rintro e w' ⟨ρ', v, sv, hp', n', rfl, _, _, g3, g4, g5, g6⟩
  exact ⟨ρ, v, sv, hp, n, rfl, Asg.le_refl _, Grow.refl _ _, by rw [den_flat ρ ρ' sv g5]; exact g3, R.below g4.below_start, g6⟩

def spec1 (g : Nat) (f : List SV → Hp C → Nat → (SV → Hp C → Nat → Prop) → Prop) (r : SpecF C Prop) : SpecF C Prop := fun i => match Nat.beq i g with
  | true => some f
  | false => r i
theorem spec1_ok {g : Nat} {f : List SV → Hp C → Nat → (SV → Hp C → Nat → Prop) → Prop} {r : SpecF C Prop} (h : CallOk1 P g f) (hr : SpecOk P r) : SpecOk P (spec1 g f r) := fun i f' hf => by
  unfold spec1 at hf
  split at hf
  · rename_i hb
    cases hf; cases Nat.eq_of_beq_eq_true hb; exact h
  · exact hr i f' hf

/-- A function without parameters. -/
def const0 (v : Value) : List SV → Hp C → Nat → (SV → Hp C → Nat → Prop) → Prop := fun vs hp n k => match vs with
  | [] => k (.raw v) hp n
  | _ => False
theorem const0_ok {P : Program} {g : Nat} {v : Value} (hb : (match P.funcs[g]? with | some fn => fn.body.isSome | none => false) = true)
    (h : ∀ w, Calls P g #[] w fun e w' => e = .returned v ∧ Below w.heap.size w w') : CallOk1 (C := C) P g (const0 v) := by
  intro vs hp n k B X ρ w args hk R hargs
  match vs, hk with
  | [], hk => exact const_ok (args0 := []) hb h [] hp n k B X ρ w args ⟨fun _ => rfl, hk⟩ R hargs

end
end Go.Sx
