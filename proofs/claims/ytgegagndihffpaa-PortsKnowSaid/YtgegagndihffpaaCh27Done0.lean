/-
  Chapter 27: one act, what it stands on. Own work; nothing here is trusted.
-/
import Derived.Test.YtgegagndihffpaaCh27Guest
namespace Go.Proofs.Ytgegagndihffpaa
open Go Go.Sx Go.RowKit
set_option maxRecDepth 1000000
set_option maxHeartbeats 8000000
set_option linter.unusedVariables false
noncomputable section
def sfD : SpecT C27 := addS 13 (seeS chkT) (addS 28 (seeS atT) (addS 19 (seeS lownT) (addS 20 (seeS addT) (addS 21 (seeS remT) (addS 26 (seeS openT) (addS 18 (seeS guestT) noSp))))))
theorem sfD_ok : SpecTOk Try.prog sfD := addS_ok (seeS_ok chkT_ok) (addS_ok (seeS_ok atT_ok) (addS_ok (seeS_ok lownT_ok) (addS_ok (seeS_ok addT_ok) (addS_ok (seeS_ok remT_ok) (addS_ok (seeS_ok openT_ok) (addS_ok (seeS_ok guestT_ok) noSp_ok))))))
abbrev fD := fnC C27 Try.prog sfD noLs (fun _ _ => 20) 10
abbrev Ac := Int × Int × ByteArray × Bool × Int × Int × Int × ByteArray
abbrev aS (kind id : Int) (nm : ByteArray) (on : Bool) (a b c : Int) (s : ByteArray) : SV := .agg [.raw (.int .i64 kind), .raw (.int .i64 id), .raw (.string nm), .raw (.bool on), .raw (.int .u32 a), .raw (.int .u16 b), .raw (.int .u16 c), .raw (.string s)]
end
end Go.Proofs.Ytgegagndihffpaa
