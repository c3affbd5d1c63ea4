/-
  Chapter 24: the loop that reads addresses, states. Own work; nothing here is trusted.
-/
import Derived.Test.YtgepgnjjhgmfnaaCh24Pass
namespace Go.Proofs.Ytgepgnjjhgmfnaa
open Go Go.Sx Go.RowKit
set_option maxRecDepth 1000000
set_option maxHeartbeats 8000000
set_option linter.unusedVariables false
noncomputable section
abbrev mSlots : List Nat := [0, 3, 4, 7]
/-- Nothing read; the first one missed; some read. -/
abbrev mStA (o f bad : Bool) (r : List Int) (n K : Int) : List SV × List (SO C24) := ([.h 0, .raw (.slice none 0 0), .raw (.int .u64 n), .raw (.int .u64 K)], [.box [.h 1, .raw (.bool bad)] 62, .sl o f 5 r])
abbrev mStM (o f g : Bool) (r : List Int) (ms : List Mac) (n K : Int) : List SV × List (SO C24) := ([.h 0, .h 2, .raw (.int .u64 n), .raw (.int .u64 K)], [.box [.h 1, .raw (.bool true)] 62, .sl o f 5 r, .sl true g 22 ms])
abbrev mStB (o f g bad : Bool) (r s : List Int) (ms : List Mac) (n K : Int) : List SV × List (SO C24) := ([.h 0, .h 2, .raw (.int .u64 n), .raw (.int .u64 K)], [.box [.h 3, .raw (.bool bad)] 62, .sl o f 5 r, .sl true g 22 ms, .sl false f 5 s])
abbrev mRA (o f bad : Bool) (r : List Int) (n K : Int) := roundG C24 Try.prog noSp noLs (fun _ _ => 20) 10 59 2 mSlots ⟨(mStA o f bad r n K).1, 2, (mStA o f bad r n K).2⟩
abbrev mRM (o f g : Bool) (r : List Int) (ms : List Mac) (n K : Int) := roundG C24 Try.prog noSp noLs (fun _ _ => 20) 10 59 2 mSlots ⟨(mStM o f g r ms n K).1, 2, (mStM o f g r ms n K).2⟩
abbrev mRB (o f g bad : Bool) (r s : List Int) (ms : List Mac) (n K : Int) := roundG C24 Try.prog noSp noLs (fun _ _ => 20) 10 59 2 mSlots ⟨(mStB o f g bad r s ms n K).1, 2, (mStB o f g bad r s ms n K).2⟩
/-- The first six bytes, and the rest. -/
abbrev c6 (r : List Int) : List Int := List.take (Int.toNat 6) r
abbrev d6 (r : List Int) : List Int := List.drop (Int.toNat 6) r
abbrev macAt (l : List Int) : Mac := (l.getD 0 0, l.getD (0 + 1) 0, l.getD (0 + 1 + 1) 0, l.getD (0 + 1 + 1 + 1) 0, l.getD (0 + 1 + 1 + 1 + 1) 0, l.getD (0 + 1 + 1 + 1 + 1 + 1) 0)
end
end Go.Proofs.Ytgepgnjjhgmfnaa
