/-
  Chapter 11: TokenGoes, told as a whole. Own work; nothing here is trusted.
-/
import Derived.Test.YtiaboemkgpkcpaaCh11Go1
import Derived.Test.YtiaboemkgpkcpaaCh11Cnt
import Derived.Test.YtiaboemkgpkcpaaCh11RunT
import Derived.Test.YtiaboemkgpkcpaaCh11Ap0
namespace Go.Proofs.Ytiaboemkgpkcpaa
open Go Go.Sx Go.RowKit
set_option maxRecDepth 1000000
set_option maxHeartbeats 8000000
set_option linter.unusedVariables false
noncomputable section
def sfG : SpecT C11 := addS 6 (seeS livT) (addS 7 (seeS runT) (addS 8 (seeS stateT) (addS 9 (seeS chkT) (addS 10 (seeS countT) noSp))))
theorem sfG_ok : SpecTOk Try.prog sfG := addS_ok (seeS_ok livT_ok) (addS_ok (seeS_ok runT_ok) (addS_ok (seeS_ok stateT_ok) (addS_ok (seeS_ok chkT_ok) (addS_ok (seeS_ok countT_ok) noSp_ok))))
def lsG : LoopT C11 := Sx.addL 3 0 (loopD [0, 2, 5, 6, 7, 8, 9] [3] [] lLoop) noLs
theorem lsG_ok : LoopTOk Try.prog lsG := addL_ok l_loop lLoop_ok noLs_ok
abbrev unG (g b : Nat) : Nat := match g, b with
  | 3, 0 => 0 | _, _ => 20
abbrev fG (f : Bool) (es : List Tk) := fnH C11 Try.prog hkG sfG lsG unG 10 3 [.h 0] [.sl false f 34 es]
abbrev fG0 := fnH C11 Try.prog hkG sfG lsG unG 10 3 [.raw (.slice none 0 0)] []
end
end Go.Proofs.Ytiaboemkgpkcpaa
