/-
  Chapter 11: lists of tokens and of events that may be nil; states of the loops of Check and of the search. Own work; nothing here is trusted.
-/
import Derived.Test.YtiaboemkgpkcpaaCh11Spec
import Derived.Test.YtiaboemkgpkcpaaSxC
namespace Go.Proofs.Ytiaboemkgpkcpaa
open Go Go.Sx Go.RowKit
set_option maxRecDepth 1000000
set_option maxHeartbeats 8000000
set_option linter.unusedVariables false
set_option linter.unusedSimpArgs false
noncomputable section
/-- A token with its state, or an event: three numbers. -/
abbrev Tk := Int × Int × Int
abbrev tk0 : Tk := (0, 0, 0)
abbrev elT (ts : List Tk) (k : Int) : Tk := ts.getD k.toNat tk0
/-- A list that may be nil. -/
abbrev Lo (α : Type) := Option (Bool × Bool × List α)
@[reducible] def hS {α : Type} (o : Lo α) (k : Nat) : SV := match o with
  | none => .raw (.slice none 0 0)
  | some _ => .h k
@[reducible] def nx {α : Type} (o : Lo α) (k : Nat) : Nat := match o with
  | none => k
  | some _ => k + 1
@[reducible] def lo {α : Type} (o : Lo α) : List α := match o with
  | none => []
  | some x => x.2.2
@[reducible] def obT (o : Lo Tk) : List (SO C11) := match o with
  | none => []
  | some x => [.sl x.1 x.2.1 47 x.2.2]
@[reducible] def obE (o : Lo Tk) : List (SO C11) := match o with
  | none => []
  | some x => [.sl x.1 x.2.1 34 x.2.2]
def decT (s : SV) (k : Nat) (os : List (SO C11)) : Option (Lo Tk × List (SO C11)) := match s with
  | .raw (.slice none 0 0) => some (none, os)
  | .h i => match Nat.beq i k with
    | true => match os with
      | .sl a b 47 ts :: r => some (some (a, b, ts), r)
      | _ => none
    | false => none
  | _ => none
def decE (s : SV) (k : Nat) (os : List (SO C11)) : Option (Lo Tk × List (SO C11)) := match s with
  | .raw (.slice none 0 0) => some (none, os)
  | .h i => match Nat.beq i k with
    | true => match os with
      | .sl a b 34 ts :: r => some (some (a, b, ts), r)
      | _ => none
    | false => none
  | _ => none
theorem decT_eq {s : SV} {k : Nat} {os r : List (SO C11)} {o : Lo Tk} (h : decT s k os = some (o, r)) : s = hS o k ∧ os = obT o ++ r := by
  unfold decT at h
  split at h
  · cases h; exact ⟨rfl, rfl⟩
  · split at h
    · rename_i i hi
      split at h
      · cases h
        have := Nat.eq_of_beq_eq_true hi
        subst this
        exact ⟨rfl, rfl⟩
      · cases h
    · cases h
  · cases h
theorem decE_eq {s : SV} {k : Nat} {os r : List (SO C11)} {o : Lo Tk} (h : decE s k os = some (o, r)) : s = hS o k ∧ os = obE o ++ r := by
  unfold decE at h
  split at h
  · cases h; exact ⟨rfl, rfl⟩
  · split at h
    · rename_i i hi
      split at h
      · cases h
        have := Nat.eq_of_beq_eq_true hi
        subst this
        exact ⟨rfl, rfl⟩
      · cases h
    · cases h
  · cases h
def withL {α β : Type} (o : Lo α) (k : List α → β) : β := match o with
  | none => k []
  | some (_, _, l) => k l
theorem withL_eq {α β : Type} (o : Lo α) (k : List α → β) : withL o k = k (lo o) := by cases o <;> rfl
theorem keeps_same {nb : Nat} {os : List (SO C11)} (h : nb = os.length) : Keeps nb os os := by
  subst h
  exact Keeps.of (Nat.le_refl _) rfl (fun o ho => by rw [List.drop_length] at ho; cases ho)
/-! ### Check's loop -/
abbrev cSl : List Nat := [1, 6, 7, 8, 2]
@[reducible] def cSt (v : Lo Tk) (K R : Int) : List SV × List (SO C11) := ([.h 0, hS v 1, .raw (.int .i64 ((lo v).length : Int)), .raw (.int .i64 K), .raw (.int .i64 R)], .box [hS v 1] 26 :: obT v)
abbrev cRound (v : Lo Tk) (K : Int) := roundG C11 Try.prog noSp noLs (fun _ _ => 20) 10 9 0 cSl ⟨(cSt v K 0).1, nx v 1, (cSt v K 0).2⟩
/-! ### the search -/
abbrev fSl : List Nat := [0, 1, 2, 8, 9, 10]
@[reducible] def fSt (v : Lo Tk) (x i j : Int) : List SV × List (SO C11) := ([hS v 0, .raw (.int .i64 x), .raw (.func (.func 24) #[] #[]), .raw (.int .i64 ((lo v).length : Int)), .raw (.int .i64 i), .raw (.int .i64 j)], obT v)
abbrev fRound (v : Lo Tk) (x i j : Int) := roundG C11 Try.prog noSp noLs (fun _ _ => 20) 10 23 0 fSl ⟨(fSt v x i j).1, nx v 0, (fSt v x i j).2⟩
/-! ### Equal -/
abbrev eSl : List Nat := [0, 1, 12, 13, 4]
@[reducible] def eSt (v w : Lo Tk) (K : Int) : List SV × List (SO C11) := ([hS v 0, hS w (nx v 0), .raw (.int .i64 ((lo v).length : Int)), .raw (.int .i64 K), .raw (.bool false)], obT v ++ obT w)
abbrev eRound (v w : Lo Tk) (K : Int) := roundG C11 Try.prog noSp noLs (fun _ _ => 20) 10 17 0 eSl ⟨(eSt v w K).1, nx w (nx v 0), (eSt v w K).2⟩
abbrev hI (i j : Int) : Int := shrV IntKind.u64 ((i + j) % 18446744073709551616) 1
end
end Go.Proofs.Ytiaboemkgpkcpaa
