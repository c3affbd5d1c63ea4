/-
  The symbolic evaluator: how a call of a statement's function is read off. Own work; nothing here is trusted.
-/
import Derived.Test.YtedhjmfobbmpoaaSxLoop
import Derived.KernelRfl
namespace Go.Sx
open Go.RowKit

variable {C : Tab} {P : Program}

/-- Elements that are numbers of one kind. -/
def cInt (k : IntKind) : Codec where
  α := Int
  ag := false
  sz := 1
  enc x := [.int k x]
  dec l := match l with
    | [.raw (.int k' x)] => match kindEq k' k with
      | true => some x
      | false => none
    | _ => none
  d := 0
  pos := by decide
  len := fun _ => rfl
  one := fun _ v h => by simp at h; subst h; rfl
  law := fun cs a h => by
    split at h
    · rename_i k' x
      split at h
      · rename_i hk
        cases h; cases kindEq_eq hk; rfl
      · cases h
    · cases h
  sg := fun _ => rfl

def cBool : Codec where
  α := Bool
  ag := false
  sz := 1
  enc x := [.bool x]
  dec l := match l with
    | [.raw (.bool x)] => some x
    | _ => none
  d := false
  pos := by decide
  len := fun _ => rfl
  one := fun _ v h => by simp at h; subst h; rfl
  law := fun cs a h => by
    split at h
    · cases h; rfl
    · cases h
  sg := fun _ => rfl

def noDraw : CallF C → DrawF C := fun _ _ _ _ _ _ _ => False
theorem noDraw_ok (call : CallF C) : DrawOk P (noDraw call) := fun _ _ _ _ _ _ _ _ _ _ _ _ h => h.elim

def noSpec : SpecF C := fun _ => none
theorem noSpec_ok : SpecOk P (C := C) noSpec := fun _ _ h => by cases h

def isT : SV → Hp C → Nat → Prop := fun v _ _ => match v with
  | .raw (.bool b) => b = true
  | _ => False

def plainB (P : Program) : Bool := P.funcs.all fun fn => !(fn.name == "runtime.NumGoroutine")
theorem plain_of {P : Program} (h : plainB P = true) : Plain P := fun g fn hg => by
  unfold plainB at h
  rw [Array.all_eq_true] at h
  obtain ⟨hlt, rfl⟩ := Array.getElem?_eq_some_iff.1 hg
  simpa using h g hlt

theorem brT {X Y : Prop} {b : Bool} (h1 : b = true → X) (h2 : b = false → Y) : Bool.rec (motive := fun _ => Prop) Y X b := by
  cases b
  · exact h2 rfl
  · exact h1 rfl

theorem Rel.below_start {w w' : World} {ρ : Asg} {hp : Hp C} {n : Nat} (h : Rel w (fun _ => False) ρ hp n w') : Below w.heap.size w w' :=
  { os := h.os, tape := h.tape, output := h.out, size := h.size, block := fun b hb => h.old b hb (fun h => h) }

/-- A call that is evaluated from the start, no memory taken in. -/
theorem run_true {P : Program} {call : CallF C} (hc : CallOk P call) {g : Nat} {args : List Value} (h : call g (rawL args) [] 0 isT) (w : World) :
    Calls P g args.toArray w fun e w' => e = .returned (.bool true) ∧ Below w.heap.size w w' := by
  refine (hc g (rawL args) [] 0 isT w (fun _ => False) (fun _ => none) w args h (Rel.start w _) (denL_rawL args)).2.mono ?_
  rintro e w' ⟨ρ', v, sv, hp', n', rfl, h1, h2, h3, h4, h5⟩
  refine ⟨?_, h4.below_start⟩
  cases sv with
  | raw u =>
    simp [den] at h3; subst h3
    cases u <;> simp_all [isT]
  | _ => simp [isT] at h5

end Go.Sx
