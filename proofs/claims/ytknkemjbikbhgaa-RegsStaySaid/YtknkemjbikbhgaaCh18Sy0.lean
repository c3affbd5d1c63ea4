/-
  Chapter 18: RegsStay, what the whole stands on. Own work; nothing here is trusted.
-/
import Derived.Test.YtknkemjbikbhgaaCh18Sty
namespace Go.Proofs.Ytknkemjbikbhgaa
open Go Go.Sx Go.RowKit
set_option maxRecDepth 1000000
set_option maxHeartbeats 8000000
set_option linter.unusedVariables false
set_option linter.unusedSimpArgs false
noncomputable section
def sfS8 : SpecT C18 := addS 40 (seeS liv8) (addS 42 (seeS newT) noSp)
theorem sfS8_ok : SpecTOk Try.prog sfS8 := addS_ok (seeS_ok liv8_ok) (addS_ok (seeS_ok newT_ok) noSp_ok)
def lsS8 : LoopT C18 := Sx.addL 41 0 (loopS mSl [] mLoop) (Sx.addL 13 0 (loopS zSl8 [] z8Loop) noLs)
theorem lsS8_ok : LoopTOk Try.prog lsS8 := addL_ok m_loop mLoop_ok (addL_ok z8_loop z8Loop_ok noLs_ok)
abbrev fS8vv (k o : Int) (f : Bool) (ls : List Int) (l : List Wt) := fnC C18 Try.prog sfS8 lsS8 (fun g b => match g, b with | 41, 0 => 0 | 13, 0 => 0 | _, _ => 20) 10 13 [.raw (.int .i64 k), .raw (.int .u64 o), .h 0, .h 1] [.sl false f 3 ls, .ss 71 4 5 l]
abbrev fS8vn (k o : Int) (f : Bool) (ls : List Int) := fnC C18 Try.prog sfS8 lsS8 (fun g b => match g, b with | 41, 0 => 0 | 13, 0 => 20 | _, _ => 20) 10 13 [.raw (.int .i64 k), .raw (.int .u64 o), .h 0, nlS] [.sl false f 3 ls]
abbrev fS8nv (k o : Int) (l : List Wt) := fnC C18 Try.prog sfS8 lsS8 (fun g b => match g, b with | 41, 0 => 0 | 13, 0 => 0 | _, _ => 20) 10 13 [.raw (.int .i64 k), .raw (.int .u64 o), nlS, .h 0] [.ss 71 4 5 l]
abbrev fS8nn (k o : Int) := fnC C18 Try.prog sfS8 lsS8 (fun g b => match g, b with | 41, 0 => 0 | 13, 0 => 20 | _, _ => 20) 10 13 [.raw (.int .i64 k), .raw (.int .u64 o), nlS, nlS] []
end
end Go.Proofs.Ytknkemjbikbhgaa
