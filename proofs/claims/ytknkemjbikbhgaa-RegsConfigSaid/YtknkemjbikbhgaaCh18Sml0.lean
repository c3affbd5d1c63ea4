/-
  Chapter 18: acts that are handed over. Own work; nothing here is trusted.
-/
import Derived.Test.YtknkemjbikbhgaaCh18Law
import Derived.Test.YtknkemjbikbhgaaSxC
namespace Go.Proofs.Ytknkemjbikbhgaa
open Go Go.Sx Go.RowKit
set_option maxRecDepth 1000000
set_option maxHeartbeats 8000000
set_option linter.unusedVariables false
set_option linter.unusedSimpArgs false
noncomputable section
/-- An act: Act, Reg, Word, N; and its bytes. -/
abbrev Wt := (Int × Int × Int × Int) × Option (Addr × Nat) × List Int
abbrev elW (l : List Wt) (i : Int) : Wt := l.getD i.toNat ((0, 0, 0, 0), none, [])
abbrev mSl : List Nat := [0, 3, 2]
abbrev mSt (l : List Wt) (i : Int) : List SV × List (SO C18) := ([.h 0, .raw (.int .i64 i), .raw (.bool false)], [.ss 71 4 5 l])
abbrev mRd (l : List Wt) (i : Int) := roundG C18 Try.prog noSp noLs (fun _ _ => 20) 10 41 0 mSl ⟨(mSt l i).1, 1, (mSt l i).2⟩
end
end Go.Proofs.Ytknkemjbikbhgaa
