/-
  Chapter 27: PortsBack, its calls. Own work; nothing here is trusted.
-/
import Derived.Test.YtgegagndihffpaaCh27BackL
namespace Go.Proofs.Ytgegagndihffpaa
open Go Go.Sx Go.RowKit
set_option maxRecDepth 1000000
set_option maxHeartbeats 8000000
set_option linter.unusedVariables false
noncomputable section
def sfB : SpecT C27 := addS 8 (seeS livT) (addS 14 (seeS bytT) (addS 16 (seeS readT) (addS 13 (seeS chkT) (addS 19 (seeS lownT) (addS 18 (seeS guestT) noSp)))))
theorem sfB_ok : SpecTOk Try.prog sfB := addS_ok (seeS_ok livT_ok) (addS_ok (seeS_ok bytT_ok) (addS_ok (seeS_ok readT_ok) (addS_ok (seeS_ok chkT_ok) (addS_ok (seeS_ok lownT_ok) (addS_ok (seeS_ok guestT_ok) noSp_ok)))))
abbrev fB := fnC C27 Try.prog sfB lsB lsBu 10 4
abbrev fBn := fnC C27 Try.prog sfB noLs (fun _ _ => 20) 10 4
abbrev fB11 (fb : Bool) (bs : List Int) (f : Bool) (most : Int) (rdy : Bool) (ts : List Pt) (a b c : Int) (s : ByteArray) := fB [mS a b c s, .h 0, pA most rdy (.h 1)] [.sl false fb 5 bs, .sl false f 46 ts]
abbrev fB01 (f : Bool) (most : Int) (rdy : Bool) (ts : List Pt) (a b c : Int) (s : ByteArray) := fB [mS a b c s, nlS, pA most rdy (.h 0)] [.sl false f 46 ts]
abbrev fB10 (fb : Bool) (bs : List Int) (most : Int) (rdy : Bool) (a b c : Int) (s : ByteArray) := fBn [mS a b c s, .h 0, pA most rdy nlS] [.sl false fb 5 bs]
abbrev fB00 (most : Int) (rdy : Bool) (a b c : Int) (s : ByteArray) := fBn [mS a b c s, nlS, pA most rdy nlS] []
abbrev gQ (most : Int) (rdy : Bool) (ts : List Pt) := guestR most rdy ts (0, 0, 0, ByteArray.empty)
abbrev gR (most : Int) (rdy : Bool) (ts : List Pt) := guestR most (gQ most rdy ts).1 (gQ most rdy ts).2.1 (0, 0, 1, ByteArray.empty)
/-- Bytes to a string, as it is reckoned. -/
abbrev strX (l : List Int) : ByteArray := strOf (List.map (fun x => x) l)
end
end Go.Proofs.Ytgegagndihffpaa
