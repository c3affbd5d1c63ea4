/-
  Chapter 24: Check and Pass, evaluated. Own work; nothing here is trusted.
-/
import Derived.Test.YtgepgnjjhgmfnaaCh24Find
namespace Go.Proofs.Ytgepgnjjhgmfnaa
open Go Go.Sx Go.RowKit
set_option maxRecDepth 1000000
set_option maxHeartbeats 8000000
set_option linter.unusedVariables false
noncomputable section
abbrev f24C (F : Fv) := fnC C24 Try.prog noSp lsF unF 10 11 [.agg (fltC F 0)] (fltO F)
abbrev f24L (F : Fv) := fnC C24 Try.prog noSp lsF unF 10 10 [.agg (fltC F 0)] (fltO F)
abbrev f24O (F : Fv) := fnC C24 Try.prog noSp lsF unF 10 13 [.agg (fltC F 0)] (fltO F)
end
end Go.Proofs.Ytgepgnjjhgmfnaa
