/-
  Chapter 24: FilterVlans, what it stands on. Own work; nothing here is trusted.
-/
import Derived.Test.YtgepgnjjhgmfnaaCh24CtrV
import Derived.Test.YtgepgnjjhgmfnaaCh24Vln
import Derived.Test.YtgepgnjjhgmfnaaCh24Pas0
namespace Go.Proofs.Ytgepgnjjhgmfnaa
open Go Go.Sx Go.RowKit
set_option maxRecDepth 1000000
set_option maxHeartbeats 8000000
set_option linter.unusedVariables false
noncomputable section
def sfV : SpecT C24 := addS 9 (seeS livT) (addS 10 (seeS lightT) (addS 11 (seeS chkT) (addS 12 (seeS ctrlV) (addS 13 (seeS ownT) (addS 16 (seeS passT) (addS 18 (seeS pickT) (addS 23 (seeS intsT) (addS 26 (seeS sameT) noSp))))))))
theorem sfV_ok : SpecTOk Try.prog sfV := addS_ok (seeS_ok livT_ok) (addS_ok (seeS_ok lightT_ok) (addS_ok (seeS_ok chkT_ok) (addS_ok (seeS_ok ctrlV_ok) (addS_ok (seeS_ok ownT_ok) (addS_ok (seeS_ok passT_ok) (addS_ok (seeS_ok pickT_ok) (addS_ok (seeS_ok intsT_ok) (addS_ok (seeS_ok sameT_ok) noSp_ok))))))))
def lsV : LoopT C24 := Sx.addL 7 0 (loopS vSl [] vLoop) noLs
theorem lsV_ok : LoopTOk Try.prog lsV := addL_ok v_loop vLoop_ok noLs_ok
abbrev unV (g b : Nat) : Nat := match g, b with
  | 7, 0 => 0 | _, _ => 20
abbrev fV7 (F : Fv) (a b : Int) (x : Rv) := fnC C24 Try.prog sfV lsV unV 10 7 [.agg (fltC F 0), .raw (.int .i64 a), .raw (.int .i64 b), .agg (frmC x (fltN F 0))] (fltO F ++ obB x.2.2.2.2)
end
end Go.Proofs.Ytgepgnjjhgmfnaa
