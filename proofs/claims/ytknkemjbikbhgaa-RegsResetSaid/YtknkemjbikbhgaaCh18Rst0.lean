/-
  Chapter 18: RegsReset, states of its loops. Own work; nothing here is trusted.
-/
import Derived.Test.YtknkemjbikbhgaaCh18Don
namespace Go.Proofs.Ytknkemjbikbhgaa
open Go Go.Sx Go.RowKit
set_option maxRecDepth 1000000
set_option maxHeartbeats 8000000
set_option linter.unusedVariables false
set_option linter.unusedSimpArgs false
noncomputable section
def sfR8 : SpecT C18 := addS 47 (seeS cpyT) (addS 49 (ownS donT) noSp)
theorem sfR8_ok : SpecTOk Try.prog sfR8 := addS_ok (seeS_ok cpyT_ok) (addS_ok (ownS_ok donT_ok) noSp_ok)
abbrev aSl8 : List Nat := [3, 4, 11, 13, 14]
/-- Further acts, or nil. -/
abbrev MB := Option (List Wt)
@[reducible] def a8N : MB → Nat
  | some _ => 6
  | none => 5
@[reducible] def a8A (l : List Wt) (mb : MB) (r : Rg) (i : Int) : List SV × List (SO C18) := match mb with
  | some m => ([.h 0, .h 1, .h 2, .h 3, .raw (.int .i64 i)], [.ss 71 4 5 l, .ss 71 4 5 m, rB r (.h 4) (.h 5), rB r (.h 4) (.h 5), .sl true false 77 r.qs, .sl true false 5 r.cf])
  | none => ([.h 0, nlS, .h 1, .h 2, .raw (.int .i64 i)], [.ss 71 4 5 l, rB r (.h 3) (.h 4), rB r (.h 3) (.h 4), .sl true false 77 r.qs, .sl true false 5 r.cf])
@[reducible] def a8B (l : List Wt) (mb : MB) (r n : Rg) (i : Int) : List SV × List (SO C18) := match mb with
  | some m => ([.h 0, .h 1, .h 2, .h 3, .raw (.int .i64 i)], [.ss 71 4 5 l, .ss 71 4 5 m, rB r (.h 4) (.h 5), rB n (.h 6) (.h 7), .sl true false 77 r.qs, .sl true false 5 r.cf, .sl true false 77 n.qs, .sl true false 5 n.cf])
  | none => ([.h 0, nlS, .h 1, .h 2, .raw (.int .i64 i)], [.ss 71 4 5 l, rB r (.h 3) (.h 4), rB n (.h 5) (.h 6), .sl true false 77 r.qs, .sl true false 5 r.cf, .sl true false 77 n.qs, .sl true false 5 n.cf])
abbrev a8R (mb : MB) (s : List SV × List (SO C18)) := roundG C18 Try.prog sfR8 noLs (fun _ _ => 20) 10 15 0 aSl8 ⟨s.1, a8N mb, s.2⟩
abbrev b8Sl : List Nat := [4, 11, 13, 15]
abbrev b8V (i : Int) : List SV := [.h 0, .h 1, .h 2, .raw (.int .i64 i)]
abbrev b8A (m : List Wt) (r : Rg) (i : Int) : List SV × List (SO C18) := (b8V i, [.ss 71 4 5 m, rB r (.h 3) (.h 4), rB r (.h 5) (.h 6), .sl true false 77 r.qs, .sl true false 5 r.cf, .sl true false 77 r.qs, .sl true false 5 r.cf])
abbrev b8B (m : List Wt) (r n : Rg) (i : Int) : List SV × List (SO C18) := (b8V i, [.ss 71 4 5 m, rB n (.h 7) (.h 8), rB n (.h 9) (.h 10), .sl true false 77 r.qs, .sl true false 5 r.cf, .sl true false 77 r.qs, .sl true false 5 r.cf, .sl true false 77 n.qs, .sl true false 5 n.cf, .sl true false 77 n.qs, .sl true false 5 n.cf])
abbrev b8R (s : List SV × List (SO C18)) := roundG C18 Try.prog sfR8 noLs (fun _ _ => 20) 10 15 2 b8Sl ⟨s.1, 7, s.2⟩
end
end Go.Proofs.Ytknkemjbikbhgaa
