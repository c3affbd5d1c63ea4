/-
  The symbolic evaluator whose answers are trees, with functions and loops told by trees. Own work; nothing here is trusted.
-/
import Derived.Test.YtkhlmlcjedbkcaaSxLift
namespace Go.Sx
noncomputable section
open Go.RowKit

variable {C : Tab} {P : Program} {R : Type}

/-- What a function answers, told by a tree. -/
abbrev SpecT (C : Tab) := Nat → Option (List SV → Hp C → Nat → OT C)
abbrev LT (C : Tab) := Tr (Ex × Tm × Hp C × Nat)
/-- Where a loop ends, told by a tree: by function and enclosing block. -/
abbrev LoopT (C : Tab) := Nat → Nat → Option (Tm → Hp C → Nat → LT C)

def toF (A : Ans R) (sp : SpecT C) : SpecF C R := fun g => match sp g with
  | some f => some fun vs hp n k => (f vs hp n).run A fun r => k r.1 r.2.1 r.2.2
  | none => none
def toL (A : Ans R) (ls : LoopT C) : Nat → Nat → LoopF C R := fun g blk _ _ tm hp n k => match ls g blk with
  | some f => (f tm hp n).run A fun r => k r.1 r.2.1 r.2.2.1 r.2.2.2
  | none => A.bad

def FnAns (P : Program) (g : Nat) (vs : List SV) (hp : Hp C) (n : Nat) (r : SV × Hp C × Nat) : Prop :=
  ∀ B X ρ w args, Rel B X ρ hp n w → denL ρ vs = some args → (∃ fn, P.funcs[g]? = some fn ∧ fn.body.isSome = true) ∧ Calls P g args.toArray w (CallPost B X ρ hp n fun sv hp n => (sv, hp, n) = r)
def SpecTOk (P : Program) (sp : SpecT C) : Prop := ∀ g f, sp g = some f → ∀ vs hp n r, (f vs hp n).get = some r → FnAns P g vs hp n r
def LoopTOk (P : Program) (ls : LoopT C) : Prop := ∀ g blk f fn c l, ls g blk = some f → P.funcs[g]? = some fn → fn.body = some c → (blk, l) ∈ lps 0 c →
  ∀ tm hp n r, (f tm hp n).get = some r → InLoop P fn.ntmps l tm hp n fun e tm hp n => (e, tm, hp, n) = r

theorem SpecTOk.f {A : Ans R} {I : R → Prop} (hA : AnsOk A I) {sp : SpecT C} (h : SpecTOk P sp) : SpecOkG P I (toF A sp) := fun g f hf => by
  unfold toF at hf
  split at hf
  · rename_i f' hg
    cases hf
    rintro vs hp n k B X ρ w args ⟨k', hk, he⟩ RR hargs
    subst he
    obtain ⟨r, h1, h2⟩ := Tr.run_get hA hk
    obtain ⟨h3, h4⟩ := h g f' hg vs hp n r h1 B X ρ w args RR hargs
    refine ⟨h3, h4.mono ?_⟩
    rintro e w' ⟨ρ', v, sv, hp', n', h5, h6, h7, h8, h9, h10⟩
    subst h10
    exact ⟨ρ', v, sv, hp', n', h5, h6, h7, h8, h9, h2⟩
  · cases hf
theorem LoopTOk.f {A : Ans R} {I : R → Prop} (hA : AnsOk A I) {ls : LoopT C} (h : LoopTOk P ls) : ∀ g fn c, P.funcs[g]? = some fn → fn.body = some c → ∀ blk l, (blk, l) ∈ lps 0 c → LoopOkAt P I fn.ntmps l (toL A ls g blk fn.ntmps l) := fun g fn c hfn hc blk l hl tm hp n k hk => by
  unfold toL at hk
  split at hk
  · rename_i f hf
    obtain ⟨r, h1, h2⟩ := Tr.run_get hA hk
    intro B X ρ w a hN hD RR T b kk cs
    obtain ⟨e, a', w', h3, h4⟩ := h g blk f fn c l hf hfn hc hl tm hp n r h1 B X ρ w a hN hD RR T b kk cs
    refine ⟨e, a', w', h3.mono fun x tm hp n hx => ?_, h4⟩
    subst hx; exact h2
  · exact (hA.no hk).elim

def noSp : SpecT C := fun _ => none
theorem noSp_ok : SpecTOk P (noSp (C := C)) := fun _ _ h => nomatch h
def noLs : LoopT C := fun _ _ => none
theorem noLs_ok : LoopTOk P (noLs (C := C)) := fun _ _ _ _ _ _ h => nomatch h
def addS (g : Nat) (f : List SV → Hp C → Nat → OT C) (r : SpecT C) : SpecT C := fun i => match Nat.beq i g with
  | true => some f
  | false => r i
def addL (g blk : Nat) (f : Tm → Hp C → Nat → LT C) (r : LoopT C) : LoopT C := fun i b => match Nat.beq i g, Nat.beq b blk with
  | true, true => some f
  | _, _ => r i b
theorem addS_ok {g : Nat} {f : List SV → Hp C → Nat → OT C} {r : SpecT C} (h : ∀ vs hp n x, (f vs hp n).get = some x → FnAns P g vs hp n x) (hr : SpecTOk P r) : SpecTOk P (addS g f r) := fun i f' hf => by
  unfold addS at hf
  split at hf
  · rename_i hb
    cases hf; cases Nat.eq_of_beq_eq_true hb; exact h
  · exact hr i f' hf
/-- The one loop whose enclosing block is this. -/
def pickL (blk : Nat) : List (Nat × Code) → List Code
  | [] => []
  | (b, l) :: r => match Nat.beq b blk with
    | true => l :: pickL blk r
    | false => pickL blk r
def onlyL (blk : Nat) (ls : List (Nat × Code)) : Option Code := match pickL blk ls with
  | [l] => some l
  | _ => none
theorem pickL_mem {blk : Nat} {l : Code} : ∀ {ls : List (Nat × Code)}, (blk, l) ∈ ls → l ∈ pickL blk ls
  | (b, x) :: r, h => by
    unfold pickL
    rcases List.mem_cons.1 h with e | h
    · cases e; rw [Nat.beq_refl]; exact List.mem_cons_self
    · split
      · exact List.mem_cons_of_mem _ (pickL_mem h)
      · exact pickL_mem h
theorem onlyL_mem {blk : Nat} {l l' : Code} {ls : List (Nat × Code)} (h : onlyL blk ls = some l) (hm : (blk, l') ∈ ls) : l' = l := by
  have := pickL_mem hm
  unfold onlyL at h
  split at h
  · rename_i x hx
    cases h
    rw [hx] at this
    exact List.mem_singleton.1 this
  · cases h
/-- The loop of a function in a block of its own. -/
def loopOf (P : Program) (g blk : Nat) : Option (Nat × Code) := match P.funcs[g]? with
  | some fn => match fn.body with
    | some c => match onlyL blk (lps 0 c) with
      | some l => some (fn.ntmps, l)
      | none => none
    | none => none
  | none => none
theorem addL_ok {g blk : Nat} {f : Tm → Hp C → Nat → LT C} {r : LoopT C} {N : Nat} {l : Code} (hl : loopOf P g blk = some (N, l)) (h : ∀ tm hp n x, (f tm hp n).get = some x → InLoop P N l tm hp n fun e tm hp n => (e, tm, hp, n) = x) (hr : LoopTOk P r) : LoopTOk P (addL g blk f r) := fun i b f' fn c l' hf hfn hc hm => by
  unfold addL at hf
  split at hf
  · rename_i h1 h2
    cases hf; cases Nat.eq_of_beq_eq_true h1; cases Nat.eq_of_beq_eq_true h2
    unfold loopOf at hl
    rw [hfn] at hl
    simp only [hc] at hl
    split at hl
    · rename_i l2 h3
      cases hl
      cases onlyL_mem h3 hm
      exact h
    · cases hl
  · exact hr i b f' fn c l' hf hfn hc hm

/-- The evaluator. -/
def evalT (C : Tab) (P : Program) (sp : SpecT C) (ls : LoopT C) (unr : Nat → Nat → Nat) (d : Nat) : CallF C (OT C) := callG (ansT _) P (toF (ansT _) sp) (toL (ansT _) ls) unr (fun _ ih => drawS (ansT _) P ih) d
theorem evalT_ok (hp0' : Plain P) (hm : P.follows .mixedOrders = true) {sp : SpecT C} (hs : SpecTOk P sp) {ls : LoopT C} (hl : LoopTOk P ls) {unr : Nat → Nat → Nat} : ∀ (d : Nat) (x : SV × Hp C × Nat), CallOk P (fun y : OT C => y.get = some x) (evalT C P sp ls unr d)
  | 0, x => fun _ _ _ _ _ _ _ _ _ _ h => by cases h
  | d + 1, x => by
    have no := ansT_ok x
    exact callStep_ok (I := fun y : OT C => y.get = some x) hp0' no (hs.f no) (hl.f no) (drawS_ok (I := fun y : OT C => y.get = some x) hp0' hm no (evalT_ok hp0' hm hs hl d)) (evalT_ok hp0' hm hs hl d x)
end
end Go.Sx
