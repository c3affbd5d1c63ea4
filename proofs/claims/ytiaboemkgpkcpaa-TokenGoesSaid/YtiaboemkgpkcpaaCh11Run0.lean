/-
  Chapter 11: Run's loop, states. Own work; nothing here is trusted.
-/
import Derived.Test.YtiaboemkgpkcpaaCh11Step
namespace Go.Proofs.Ytiaboemkgpkcpaa
open Go Go.Sx Go.RowKit
set_option maxRecDepth 1000000
set_option maxHeartbeats 8000000
set_option linter.unusedVariables false
noncomputable section
def sfR : SpecT C11 := addS 13 (seeS stepT) noSp
theorem sfR_ok : SpecTOk Try.prog sfR := addS_ok (seeS_ok stepT_ok) noSp_ok
abbrev rSl : List Nat := [5, 10, 11, 12, 2, 3, 4]
abbrev nlB : SO C11 := .box [.raw (.slice none 0 0)] 26
@[reducible] def rA (v : Lo Tk) (K : Int) : List SV × List (SO C11) := ([.h 0, hS v 1, .raw (.int .i64 ((lo v).length : Int)), .raw (.int .i64 K), .h (nx v 1), .raw (.int .i64 0), .raw (.int .i64 0)], nlB :: (obE v ++ [nlB]))
@[reducible] def rB (v : Lo Tk) (ts : List Tk) (K : Int) : List SV × List (SO C11) := ([.h 0, hS v 1, .raw (.int .i64 ((lo v).length : Int)), .raw (.int .i64 K), .h (nx v 1), .raw (.int .i64 0), .raw (.int .i64 0)], .box [.h (nx v 1 + 1)] 26 :: (obE v ++ [nlB, .sl true false 47 ts]))
abbrev rRA (v : Lo Tk) (K : Int) := roundG C11 Try.prog sfR noLs (fun _ _ => 20) 10 7 0 rSl ⟨(rA v K).1, nx v 1 + 1, (rA v K).2⟩
abbrev rRB (v : Lo Tk) (ts : List Tk) (K : Int) := roundG C11 Try.prog sfR noLs (fun _ _ => 20) 10 7 0 rSl ⟨(rB v ts K).1, nx v 1 + 1, (rB v ts K).2⟩
end
end Go.Proofs.Ytiaboemkgpkcpaa
