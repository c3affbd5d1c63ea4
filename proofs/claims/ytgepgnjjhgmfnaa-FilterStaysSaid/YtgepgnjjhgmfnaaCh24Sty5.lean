/-
  Chapter 24: FilterStays, the whole function. Own work; nothing here is trusted.
-/
import Derived.Test.YtgepgnjjhgmfnaaCh24Sty4
namespace Go.Proofs.Ytgepgnjjhgmfnaa
open Go Go.Sx Go.RowKit
set_option maxRecDepth 1000000
set_option maxHeartbeats 8000000
set_option linter.unusedVariables false
set_option linter.unusedSimpArgs false
noncomputable section
def lsY : LoopT C24 := Sx.addL 3 0 (loopS ySl [] yLoop) noLs
theorem lsY_ok : LoopTOk Try.prog lsY := addL_ok y_loop yLoop_ok noLs_ok
abbrev unY (g b : Nat) : Nat := match g, b with
  | 3, 0 => 0 | _, _ => 20
abbrev fY (F : Fv) (feats : Int) (l : Bs) := fnC C24 Try.prog sfY lsY unY 10 3 [.agg (fltC F 0), .raw (.int .u64 feats), .h (fltN F 0)] (fltO F ++ [.ss 33 0 5 l])
abbrev fYn (F : Fv) (feats : Int) := fnC C24 Try.prog sfY noLs (fun _ _ => 20) 10 3 [.agg (fltC F 0), .raw (.int .u64 feats), .raw (.slice none 0 0)] (fltO F)
end
end Go.Proofs.Ytgepgnjjhgmfnaa
