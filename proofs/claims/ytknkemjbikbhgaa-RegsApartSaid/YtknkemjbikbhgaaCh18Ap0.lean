/-
  Chapter 18: RegsApart, what the whole stands on. Own work; nothing here is trusted.
-/
import Derived.Test.YtknkemjbikbhgaaCh18Apa
namespace Go.Proofs.Ytknkemjbikbhgaa
open Go Go.Sx Go.RowKit
set_option maxRecDepth 1000000
set_option maxHeartbeats 8000000
set_option linter.unusedVariables false
set_option linter.unusedSimpArgs false
noncomputable section
def sfA8 : SpecT C18 := addS 40 (seeS liv8) (addS 42 (seeS newT) noSp)
theorem sfA8_ok : SpecTOk Try.prog sfA8 := addS_ok (seeS_ok liv8_ok) (addS_ok (seeS_ok newT_ok) noSp_ok)
def lsA8 : LoopT C18 := Sx.addL 41 0 (loopS mSl [] mLoop) (Sx.addL 12 0 (loopS pSl [] p8Loop) noLs)
theorem lsA8_ok : LoopTOk Try.prog lsA8 := addL_ok m_loop mLoop_ok (addL_ok p8_loop p8Loop_ok noLs_ok)
abbrev unA8 (g b : Nat) : Nat := match g, b with
  | 41, 0 => 0 | 12, 0 => 0 | _, _ => 20
/-- Sizes that are handed over. -/
abbrev fA8ll (k o : Int) (f : Bool) (ls : List Int) (l : List Wt) := fnC C18 Try.prog sfA8 lsA8 unA8 10 12 [.raw (.int .i64 k), .raw (.int .u64 o), .h 0, .h 1] [.sl false f 3 ls, .ss 71 4 5 l]
abbrev fA8ln (k o : Int) (f : Bool) (ls : List Int) := fnC C18 Try.prog sfA8 noLs (fun _ _ => 20) 10 12 [.raw (.int .i64 k), .raw (.int .u64 o), .h 0, nlS] [.sl false f 3 ls]
abbrev fA8nl (k o : Int) (l : List Wt) := fnC C18 Try.prog sfA8 lsA8 unA8 10 12 [.raw (.int .i64 k), .raw (.int .u64 o), nlS, .h 0] [.ss 71 4 5 l]
abbrev fA8nn (k o : Int) := fnC C18 Try.prog sfA8 noLs (fun _ _ => 20) 10 12 [.raw (.int .i64 k), .raw (.int .u64 o), nlS, nlS] []
end
end Go.Proofs.Ytknkemjbikbhgaa
