/-
  Chapter 24: commands that tell addresses, states of their loops. Own work; nothing here is trusted.
-/
import Derived.Test.YtgepgnjjhgmfnaaCh24Fns
namespace Go.Proofs.Ytgepgnjjhgmfnaa
open Go Go.Sx Go.RowKit
set_option maxRecDepth 1000000
set_option maxHeartbeats 8000000
set_option linter.unusedVariables false
set_option linter.unusedSimpArgs false
noncomputable section
abbrev mkS (g l : Lo Mac) (bs : List Int) (n K : Int) : List SV × List (SO C24) := ([hS l 0, .raw (.int .i64 n), .raw (.int .i64 K), .h (nx l 0)], obM l ++ [.sl true false 5 bs])
abbrev mkN (g l : Lo Mac) : Nat := nx l 0
abbrev mkR (g l : Lo Mac) (bs : List Int) (n K : Int) := roundG C24 Try.prog noSp noLs (fun _ _ => 20) 10 53 0 [1, 5, 6, 0] ⟨(mkS g l bs n K).1, mkN g l, (mkS g l bs n K).2⟩
abbrev mpS (g l : Lo Mac) (bs : List Int) (n K : Int) : List SV × List (SO C24) := ([.agg [hS l 0, hS g (nx l 0)], .raw (.int .i64 0), hS l 0, .raw (.int .i64 n), .raw (.int .i64 K), .h (nx g (nx l 0))], obM l ++ (obM g ++ [.sl true false 5 bs]))
abbrev mpN (g l : Lo Mac) : Nat := nx g (nx l 0)
abbrev mpR (g l : Lo Mac) (bs : List Int) (n K : Int) := roundG C24 Try.prog noSp noLs (fun _ _ => 20) 10 20 2 [14, 15, 34, 35, 36, 5] ⟨(mpS g l bs n K).1, mpN g l, (mpS g l bs n K).2⟩
abbrev mqS (g l : Lo Mac) (bs : List Int) (n K : Int) : List SV × List (SO C24) := ([.agg [hS g 0, hS l (nx g 0)], .raw (.int .i64 1), hS l (nx g 0), .raw (.int .i64 n), .raw (.int .i64 K), .h (nx l (nx g 0))], obM g ++ (obM l ++ [.sl true false 5 bs]))
abbrev mqN (g l : Lo Mac) : Nat := nx l (nx g 0)
abbrev mqR (g l : Lo Mac) (bs : List Int) (n K : Int) := roundG C24 Try.prog noSp noLs (fun _ _ => 20) 10 20 2 [14, 15, 34, 35, 36, 5] ⟨(mqS g l bs n K).1, mqN g l, (mqS g l bs n K).2⟩
/-- Does a value stand for a list? -/
def isS {α : Type} (o : Lo α) (k : Nat) : SV → Bool
  | .h j => (match o with | none => false | some _ => Nat.beq j k)
  | .raw (.slice none 0 0) => (match o with | none => true | some _ => false)
  | _ => false
theorem isS_eq {α : Type} {o : Lo α} {k : Nat} {s : SV} (h : isS o k s = true) : s = hS o k := by
  unfold isS at h
  split at h
  · cases o with
    | none => cases h
    | some x => rw [Nat.eq_of_beq_eq_true h]
  · cases o with
    | none => rfl
    | some x => cases h
  · cases h
end
end Go.Proofs.Ytgepgnjjhgmfnaa
