/-
  Chapter 24: filters that are compared. Own work; nothing here is trusted.
-/
import Derived.Test.YtgepgnjjhgmfnaaCh24Eq
import Derived.Test.YtgepgnjjhgmfnaaCh24Pass
namespace Go.Proofs.Ytgepgnjjhgmfnaa
open Go Go.Sx Go.RowKit
set_option maxRecDepth 1000000
set_option maxHeartbeats 8000000
set_option linter.unusedVariables false
noncomputable section
def sfQ : SpecT C24 := addS 23 (seeS intsT) (addS 46 (seeS eqiT) (addS 25 (seeS macsT) (addS 45 (seeS eqmT) noSp)))
theorem sfQ_ok : SpecTOk Try.prog sfQ := addS_ok (seeS_ok intsT_ok) (addS_ok (seeS_ok eqiT_ok) (addS_ok (seeS_ok macsT_ok) (addS_ok (seeS_ok eqmT_ok) noSp_ok)))
abbrev fSm (g : Nat) (F G : Fv) := fnC C24 Try.prog sfQ noLs (fun _ _ => 20) 10 g [.agg (fltC F 0), .agg (fltC G (fltN F 0))] (fltO F ++ fltO G)
end
end Go.Proofs.Ytgepgnjjhgmfnaa
