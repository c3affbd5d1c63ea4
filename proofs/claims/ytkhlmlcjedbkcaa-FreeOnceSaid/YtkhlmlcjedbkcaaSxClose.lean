/-
  Parts of owned slices that stand in a loop's slots are made slices of their own ahead of the loop. Own work; nothing here is trusted.
-/
import Derived.Test.YtkhlmlcjedbkcaaSxIns
import Derived.Test.YtkhlmlcjedbkcaaSxArg
set_option linter.unusedVariables false
set_option linter.unusedSimpArgs false
namespace Go.Sx
open Go Go.RowKit
noncomputable section
variable {C : Tab} {P : Program}
def shut1 {α : Type} (v : SV) (hp : Hp C) (n : Nat) (k : SV → Hp C → Nat → Tr α) : Tr α := match v with
  | .vs id sz bs off len cap => match find id hp with
    | some (.sl true _ e ts) => match Nat.beq sz (C e).sz with
      | true => .br (Nat.beq off 0) (.br (shutB len ts.length cap) (k (.h n) ((n, .sl true false e (ts.take len)) :: (id, .gone) :: hp) (n + 1)) .fail) (k (.vs id sz bs off len cap) hp n)
      | false => k (.vs id sz bs off len cap) hp n
    | _ => k (.vs id sz bs off len cap) hp n
  | v => k v hp n
theorem shut1_spec {α : Type} {r : α} (v : SV) (hp : Hp C) (n : Nat) (k : SV → Hp C → Nat → Tr α) (h : (shut1 v hp n k).get = some r) : ∃ v' hp' n', (k v' hp' n').get = some r ∧ Same1 v hp n v' hp' n' ∧ Grow n hp n' hp' := by
  unfold shut1 at h
  split at h
  · rename_i id sz bs off len cap
    split at h
    · rename_i full e ts hid
      split at h
      · rename_i hsz
        have hsz := Nat.eq_of_beq_eq_true hsz
        subst hsz
        rcases Tr.get_br.1 h with ⟨h0, h⟩ | ⟨_, h⟩
        · obtain ⟨hs, h⟩ := Tr.get_ask.1 h
          exact ⟨_, _, _, h, fun B X ρ w u RR hd => ⟨ρ.add n u, Asg.le_add ρ n u (RR.fresh n (Nat.le_refl _)), RR.shut hid hd (Nat.eq_of_beq_eq_true h0) hs, Asg.add_self ρ n u⟩, Nat.le_succ _, (List.suffix_cons _ _).trans (List.suffix_cons _ _)⟩
        · exact ⟨_, _, _, h, Same1.refl _ _ _, Grow.refl _ _⟩
      · exact ⟨_, _, _, h, Same1.refl _ _ _, Grow.refl _ _⟩
    · exact ⟨_, _, _, h, Same1.refl _ _ _, Grow.refl _ _⟩
  · exact ⟨_, _, _, h, Same1.refl _ _ _, Grow.refl _ _⟩
def closeK {α : Type} : List Tmp → Tm → Hp C → Nat → (Tm → Hp C → Nat → Tr α) → Tr α
  | [], tm, hp, n, k => k tm hp n
  | t :: r, tm, hp, n, k => match find t tm with
    | some v => shut1 v hp n fun v hp n => closeK r ((t, v) :: tm) hp n k
    | none => .fail
theorem closeK_spec {α : Type} {x : α} : ∀ (l : List Tmp) (tm : Tm) (hp : Hp C) (n : Nat) (k : Tm → Hp C → Nat → Tr α), (closeK l tm hp n k).get = some x → ∃ tm' hp' n', (k tm' hp' n').get = some x ∧ Grow n hp n' hp' ∧
    ∀ B X ρ w a, Rel B X ρ hp n w → TmOk ρ tm a → ∃ ρ', ρ.le ρ' ∧ Rel B X ρ' hp' n' w ∧ TmOk ρ' tm' a
  | [], tm, hp, n, k, h => ⟨_, _, _, h, Grow.refl _ _, fun _ _ ρ _ _ RR T => ⟨ρ, Asg.le_refl _, RR, T⟩⟩
  | t :: r, tm, hp, n, k, h => by
    unfold closeK at h
    split at h
    · rename_i v hv
      obtain ⟨v', hp1, n1, h1, s1, g1⟩ := shut1_spec v hp n _ h
      obtain ⟨tm', hp2, n2, h2, g2, s2⟩ := closeK_spec r _ _ _ k h1
      refine ⟨tm', hp2, n2, h2, g1.trans g2, fun B X ρ w a RR T => ?_⟩
      obtain ⟨u, d1, d2⟩ := T t v hv
      obtain ⟨ρ1, l1, R1, e1⟩ := s1 B X ρ w u RR d1
      obtain ⟨ρ2, l2, R2, T2⟩ := s2 B X ρ1 w a R1 fun t' sv hs => by
        rw [find_cons] at hs
        split at hs
        · rename_i e; subst e; cases hs; exact ⟨u, e1, d2⟩
        · exact T.mono l1 t' sv hs
      exact ⟨ρ2, Asg.le_trans l1 l2, R2, T2⟩
    · simp [Tr.get] at h
/-- A loop told by a function, parts in its slots made slices ahead of it. -/
def loopH (cs bs ks : List Tmp) (F : LoopFn C) : Tm → Hp C → Nat → LT C := fun tm hp n => closeK cs tm hp n fun tm hp n => loopS bs ks F tm hp n
theorem loopH_ok {N : Nat} {c : Code} {cs bs ks : List Tmp} {F : LoopFn C} (h : ∀ tm hp n x, (loopS bs ks F tm hp n).get = some x → InLoop P N c tm hp n fun e tm hp n => (e, tm, hp, n) = x) :
    ∀ tm hp n x, (loopH cs bs ks F tm hp n).get = some x → InLoop P N c tm hp n fun e tm hp n => (e, tm, hp, n) = x := fun tm hp n x hx => by
  obtain ⟨tm', hp', n', h1, g, s⟩ := closeK_spec cs tm hp n _ hx
  intro B X ρ w a hN hD RR T b kk ks
  obtain ⟨ρ', l1, R1, T1⟩ := s B X ρ w a RR T
  obtain ⟨e, a', w', p, arr⟩ := h tm' hp' n' x h1 B X ρ' w a hN hD R1 T1 b kk ks
  exact ⟨e, a', w', p.weaken l1 g, arr⟩
end
end Go.Sx
