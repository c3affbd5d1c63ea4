/-
  Chapter 18: RegsReset, what the whole stands on. Own work; nothing here is trusted.
-/
import Derived.Test.YtknkemjbikbhgaaCh18Rst
namespace Go.Proofs.Ytknkemjbikbhgaa
open Go Go.Sx Go.RowKit
set_option maxRecDepth 1000000
set_option maxHeartbeats 8000000
set_option linter.unusedVariables false
set_option linter.unusedSimpArgs false
noncomputable section
def sfQ8 : SpecT C18 := addS 40 (seeS liv8) (addS 42 (seeS newT) (addS 43 (seeS onT) (addS 46 (seeS wriT) (addS 47 (seeS cpyT) (addS 48 (seeS samT) noSp)))))
theorem sfQ8_ok : SpecTOk Try.prog sfQ8 := addS_ok (seeS_ok liv8_ok) (addS_ok (seeS_ok newT_ok) (addS_ok (seeS_ok onT_ok) (addS_ok (seeS_ok wriT_ok) (addS_ok (seeS_ok cpyT_ok) (addS_ok (seeS_ok samT_ok) noSp_ok)))))
def lsQ8 : LoopT C18 := Sx.addL 41 0 (loopS mSl [] mLoop) (Sx.addL 15 0 (loopS aSl8 [] a8Loop) (Sx.addL 15 2 (loopS b8Sl [] b8Loop) noLs))
theorem lsQ8_ok : LoopTOk Try.prog lsQ8 := addL_ok m_loop mLoop_ok (addL_ok a8_loop a8Loop_ok (addL_ok b8_loop b8Loop_ok noLs_ok))
abbrev fQ8vvv (k o : Int) (f : Bool) (ls : List Int) (l : List Wt) (m : List Wt) := fnC C18 Try.prog sfQ8 lsQ8 (fun g b => match g, b with | 41, 0 => 0 | 15, 0 => 0 | 15, 2 => 0 | _, _ => 20) 10 15 [.raw (.int .i64 k), .raw (.int .u64 o), .h 0, .h 1, .h 2] [.sl false f 3 ls, .ss 71 4 5 l, .ss 71 4 5 m]
abbrev fQ8vvn (k o : Int) (f : Bool) (ls : List Int) (l : List Wt) := fnC C18 Try.prog sfQ8 lsQ8 (fun g b => match g, b with | 41, 0 => 0 | 15, 0 => 0 | 15, 2 => 20 | _, _ => 20) 10 15 [.raw (.int .i64 k), .raw (.int .u64 o), .h 0, .h 1, nlS] [.sl false f 3 ls, .ss 71 4 5 l]
abbrev fQ8vnv (k o : Int) (f : Bool) (ls : List Int) (m : List Wt) := fnC C18 Try.prog sfQ8 lsQ8 (fun g b => match g, b with | 41, 0 => 0 | 15, 0 => 20 | 15, 2 => 0 | _, _ => 20) 10 15 [.raw (.int .i64 k), .raw (.int .u64 o), .h 0, nlS, .h 1] [.sl false f 3 ls, .ss 71 4 5 m]
abbrev fQ8vnn (k o : Int) (f : Bool) (ls : List Int) := fnC C18 Try.prog sfQ8 lsQ8 (fun g b => match g, b with | 41, 0 => 0 | 15, 0 => 20 | 15, 2 => 20 | _, _ => 20) 10 15 [.raw (.int .i64 k), .raw (.int .u64 o), .h 0, nlS, nlS] [.sl false f 3 ls]
abbrev fQ8nvv (k o : Int) (l : List Wt) (m : List Wt) := fnC C18 Try.prog sfQ8 lsQ8 (fun g b => match g, b with | 41, 0 => 0 | 15, 0 => 0 | 15, 2 => 0 | _, _ => 20) 10 15 [.raw (.int .i64 k), .raw (.int .u64 o), nlS, .h 0, .h 1] [.ss 71 4 5 l, .ss 71 4 5 m]
abbrev fQ8nvn (k o : Int) (l : List Wt) := fnC C18 Try.prog sfQ8 lsQ8 (fun g b => match g, b with | 41, 0 => 0 | 15, 0 => 0 | 15, 2 => 20 | _, _ => 20) 10 15 [.raw (.int .i64 k), .raw (.int .u64 o), nlS, .h 0, nlS] [.ss 71 4 5 l]
abbrev fQ8nnv (k o : Int) (m : List Wt) := fnC C18 Try.prog sfQ8 lsQ8 (fun g b => match g, b with | 41, 0 => 0 | 15, 0 => 20 | 15, 2 => 0 | _, _ => 20) 10 15 [.raw (.int .i64 k), .raw (.int .u64 o), nlS, nlS, .h 0] [.ss 71 4 5 m]
abbrev fQ8nnn (k o : Int) := fnC C18 Try.prog sfQ8 lsQ8 (fun g b => match g, b with | 41, 0 => 0 | 15, 0 => 20 | 15, 2 => 20 | _, _ => 20) 10 15 [.raw (.int .i64 k), .raw (.int .u64 o), nlS, nlS, nlS] []
end
end Go.Proofs.Ytknkemjbikbhgaa
