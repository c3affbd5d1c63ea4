/-
  Chapter 8: FreeOrders as a tree. Own work; nothing here is trusted.
-/
import Derived.Test.YtkhlmlcjedbkcaaCh08Free5
namespace Go.Proofs.Ytkhlmlcjedbkcaa
open Go Go.Sx Go.RowKit
set_option maxRecDepth 1000000
set_option maxHeartbeats 8000000
set_option linter.unusedVariables false
set_option linter.unusedSimpArgs false
noncomputable section
def sfO : SpecT C8 := addS 6 (viewS lv8T) (addS 7 (viewS pk8T) (addS 8 (viewS newT) (addS 9 (viewS takeT) (addS 10 (viewS giveT) (addS 11 (viewS intsT) (addS 12 (viewS sameT) noSp))))))
theorem sfO_ok : SpecTOk Try.prog sfO := addS_ok (viewS_ok lv8T_ok) (addS_ok (viewS_ok pk8T_ok) (addS_ok (viewS_ok newT_ok) (addS_ok (viewS_ok takeT_ok) (addS_ok (viewS_ok giveT_ok) (addS_ok (viewS_ok intsT_ok) (addS_ok (viewS_ok sameT_ok) noSp_ok))))))
def sfO2 : SpecT C8 := addS 6 (viewS lv8T) (addS 7 (viewS pk8T) (addS 8 (viewS newT) (addS 9 (viewS takeT) (addS 17 (viewS bmT) (addS 11 (viewS intsT) (addS 12 (viewS sameT) noSp))))))
theorem sfO2_ok : SpecTOk Try.prog sfO2 := addS_ok (viewS_ok lv8T_ok) (addS_ok (viewS_ok pk8T_ok) (addS_ok (viewS_ok newT_ok) (addS_ok (viewS_ok takeT_ok) (addS_ok (viewS_ok bmT_ok) (addS_ok (viewS_ok intsT_ok) (addS_ok (viewS_ok sameT_ok) noSp_ok))))))
abbrev fo1 := fnC C8 Try.prog sfO l8 un8 10
abbrev fo2 := fnC C8 Try.prog sfO2 l8 un8 10
end
end Go.Proofs.Ytkhlmlcjedbkcaa
