/-
  Chapter 18: RegsApart, states of its loops. Own work; nothing here is trusted.
-/
import Derived.Test.YtknkemjbikbhgaaCh18Sml
namespace Go.Proofs.Ytknkemjbikbhgaa
open Go Go.Sx Go.RowKit
set_option maxRecDepth 1000000
set_option maxHeartbeats 8000000
set_option linter.unusedVariables false
set_option linter.unusedSimpArgs false
noncomputable section
def sfP : SpecT C18 := addS 47 (seeS cpyT) (addS 46 (seeS wriT) (addS 48 (seeS samT) noSp))
theorem sfP_ok : SpecTOk Try.prog sfP := addS_ok (seeS_ok cpyT_ok) (addS_ok (seeS_ok wriT_ok) (addS_ok (seeS_ok samT_ok) noSp_ok))
abbrev pSl : List Nat := [3, 9, 11, 8]
abbrev iSl8 : List Nat := [3, 9, 11, 12, 13, 8]
abbrev pA8 (l : List Wt) (r : Rg) (i : Int) : List SV × List (SO C18) := ([.h 0, .h 1, .raw (.int .i64 i), .raw (.bool false)], [.ss 71 4 5 l, rB r (.h 2) nlS, .sl true false 77 r.qs])
abbrev pB8 (l : List Wt) (qs0 : List Qe) (r : Rg) (i : Int) : List SV × List (SO C18) := ([.h 0, .h 1, .raw (.int .i64 i), .raw (.bool false)], [.ss 71 4 5 l, rB r (.h 3) (.h 4), .sl true false 77 qs0, .sl true false 77 r.qs, .sl true false 5 r.cf])
abbrev unP (g b : Nat) : Nat := match g, b with
  | 12, 3 => 0 | _, _ => 20
abbrev pRA (F : LoopFn C18) (l : List Wt) (r : Rg) (i : Int) := roundG C18 Try.prog sfP (Sx.addL 12 3 (loopS iSl8 [] F) noLs) unP 10 12 0 pSl ⟨(pA8 l r i).1, 3, (pA8 l r i).2⟩
abbrev pRB (F : LoopFn C18) (l : List Wt) (qs0 : List Qe) (r : Rg) (i : Int) := roundG C18 Try.prog sfP (Sx.addL 12 3 (loopS iSl8 [] F) noLs) unP 10 12 0 pSl ⟨(pB8 l qs0 r i).1, 3, (pB8 l qs0 r i).2⟩
end
end Go.Proofs.Ytknkemjbikbhgaa
