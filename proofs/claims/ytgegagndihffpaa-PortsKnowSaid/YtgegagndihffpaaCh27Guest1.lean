/-
  Chapter 27: Guest, what it stands on. Own work; nothing here is trusted.
-/
import Derived.Test.YtgegagndihffpaaCh27Ready
namespace Go.Proofs.Ytgegagndihffpaa
open Go Go.Sx Go.RowKit
set_option maxRecDepth 1000000
set_option maxHeartbeats 8000000
set_option linter.unusedVariables false
noncomputable section
def sfG : SpecT C27 := addS 14 (seeS bytT) sfA
theorem sfG_ok : SpecTOk Try.prog sfG := addS_ok (seeS_ok bytT_ok) sfA_ok
def lsG : LoopT C27 := Sx.addL 30 0 (loopS [1, 2, 4, 6, 18, 19] [] rLoop) noLs
theorem lsG_ok : LoopTOk Try.prog lsG := addL_ok r_loop rLoop_ok noLs_ok
abbrev unG (g b : Nat) : Nat := match g, b with
  | 30, 0 => 0 | _, _ => 20
abbrev fG := fnC C27 Try.prog sfG lsG unG 10
end
end Go.Proofs.Ytgegagndihffpaa
