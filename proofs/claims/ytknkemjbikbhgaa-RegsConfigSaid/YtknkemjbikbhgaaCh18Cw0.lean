/-
  Chapter 18: RegsConfig, what the whole stands on. Own work; nothing here is trusted.
-/
import Derived.Test.YtknkemjbikbhgaaCh18Cgo
namespace Go.Proofs.Ytknkemjbikbhgaa
open Go Go.Sx Go.RowKit
set_option maxRecDepth 1000000
set_option maxHeartbeats 8000000
set_option linter.unusedVariables false
set_option linter.unusedSimpArgs false
noncomputable section
def sfH8 : SpecT C18 := addS 40 (seeS liv8) (addS 42 (seeS newT) (addS 43 (seeS onT) (addS 44 (seeS redT) noSp)))
theorem sfH8_ok : SpecTOk Try.prog sfH8 := addS_ok (seeS_ok liv8_ok) (addS_ok (seeS_ok newT_ok) (addS_ok (seeS_ok onT_ok) (addS_ok (seeS_ok redT_ok) noSp_ok)))
def lsH8 : LoopT C18 := Sx.addL 41 0 (loopS mSl [] mLoop) (Sx.addL 11 0 (loopS gSl8 [] g8Loop) noLs)
theorem lsH8_ok : LoopTOk Try.prog lsH8 := addL_ok m_loop mLoop_ok (addL_ok g8_loop g8Loop_ok noLs_ok)
abbrev fH8vvv (fc : Bool) (cfg : List Int) (fb : Bool) (bt : List Int) (l : List Wt) := fnC C18 Try.prog sfH8 lsH8 (fun g b => match g, b with | 41, 0 => 0 | 11, 0 => 0 | _, _ => 20) 10 11 [.h 0, .h 1, .h 2] [.sl false fc 5 cfg, .sl false fb 3 bt, .ss 71 4 5 l]
abbrev fH8vvn (fc : Bool) (cfg : List Int) (fb : Bool) (bt : List Int) := fnC C18 Try.prog sfH8 lsH8 (fun g b => match g, b with | 41, 0 => 0 | 11, 0 => 0 | _, _ => 20) 10 11 [.h 0, .h 1, nlS] [.sl false fc 5 cfg, .sl false fb 3 bt]
abbrev fH8vnv (fc : Bool) (cfg : List Int) (l : List Wt) := fnC C18 Try.prog sfH8 lsH8 (fun g b => match g, b with | 41, 0 => 0 | 11, 0 => 0 | _, _ => 20) 10 11 [.h 0, nlS, .h 1] [.sl false fc 5 cfg, .ss 71 4 5 l]
abbrev fH8vnn (fc : Bool) (cfg : List Int) := fnC C18 Try.prog sfH8 lsH8 (fun g b => match g, b with | 41, 0 => 0 | 11, 0 => 0 | _, _ => 20) 10 11 [.h 0, nlS, nlS] [.sl false fc 5 cfg]
abbrev fH8nvv (fb : Bool) (bt : List Int) (l : List Wt) := fnC C18 Try.prog sfH8 lsH8 (fun g b => match g, b with | 41, 0 => 0 | 11, 0 => 20 | _, _ => 20) 10 11 [nlS, .h 0, .h 1] [.sl false fb 3 bt, .ss 71 4 5 l]
abbrev fH8nvn (fb : Bool) (bt : List Int) := fnC C18 Try.prog sfH8 lsH8 (fun g b => match g, b with | 41, 0 => 0 | 11, 0 => 20 | _, _ => 20) 10 11 [nlS, .h 0, nlS] [.sl false fb 3 bt]
abbrev fH8nnv (l : List Wt) := fnC C18 Try.prog sfH8 lsH8 (fun g b => match g, b with | 41, 0 => 0 | 11, 0 => 20 | _, _ => 20) 10 11 [nlS, nlS, .h 0] [.ss 71 4 5 l]
abbrev fH8nnn  := fnC C18 Try.prog sfH8 lsH8 (fun g b => match g, b with | 41, 0 => 0 | 11, 0 => 20 | _, _ => 20) 10 11 [nlS, nlS, nlS] []
end
end Go.Proofs.Ytknkemjbikbhgaa
