/-
  Chapter 18: New, states of its loop. Own work; nothing here is trusted.
-/
import Derived.Test.YtknkemjbikbhgaaCh18Ops
namespace Go.Proofs.Ytknkemjbikbhgaa
open Go Go.Sx Go.RowKit
set_option maxRecDepth 1000000
set_option maxHeartbeats 8000000
set_option linter.unusedVariables false
set_option linter.unusedSimpArgs false
noncomputable section
abbrev nSl8 : List Nat := [8, 12, 32, 33, 34, 9]
abbrev nV (n i : Int) : List SV := [.h 0, .h 1, .h 2, .raw (.int .i64 n), .raw (.int .i64 i), .raw (.int .i64 0)]
abbrev zB8 : SO C18 := rgB 0 0 0 0 0 0 nlS nlS 0 0
/-- No queue yet. -/
@[reducible] def nA8 (k o : Int) (f : Bool) (ls : List Int) (cb : CB) (i : Int) : List SV × List (SO C18) := match cb with
  | some (f2, cf) => (nV (ls.length : Int) i, [zB8, rgB k o 0 0 0 0 nlS (.h 3) 0 0, .sl false f 3 ls, .sl true f2 5 cf])
  | none => (nV (ls.length : Int) i, [zB8, rgB k o 0 0 0 0 nlS nlS 0 0, .sl false f 3 ls])
@[reducible] def nB8 (k o : Int) (f : Bool) (ls : List Int) (cb : CB) (qs : List Qe) (i : Int) : List SV × List (SO C18) := match cb with
  | some (f2, cf) => (nV (ls.length : Int) i, [zB8, rgB k o 0 0 0 0 (.h 4) (.h 3) 0 0, .sl false f 3 ls, .sl true f2 5 cf, .sl true false 77 qs])
  | none => (nV (ls.length : Int) i, [zB8, rgB k o 0 0 0 0 (.h 3) nlS 0 0, .sl false f 3 ls, .sl true false 77 qs])
abbrev nRA8 (k o : Int) (f : Bool) (ls : List Int) (cb : CB) (i : Int) := roundG C18 Try.prog noSp noLs (fun _ _ => 20) 10 42 0 nSl8 ⟨(nA8 k o f ls cb i).1, cbN 3 cb, (nA8 k o f ls cb i).2⟩
abbrev nRB8 (k o : Int) (f : Bool) (ls : List Int) (cb : CB) (qs : List Qe) (i : Int) := roundG C18 Try.prog noSp noLs (fun _ _ => 20) 10 42 0 nSl8 ⟨(nB8 k o f ls cb qs i).1, cbN 3 cb, (nB8 k o f ls cb qs i).2⟩
end
end Go.Proofs.Ytknkemjbikbhgaa
