/-
  Chapter 27: PortsStay, the loop over acts, states. Own work; nothing here is trusted.
-/
import Derived.Test.YtgegagndihffpaaCh27StayM
namespace Go.Proofs.Ytgegagndihffpaa
open Go Go.Sx Go.RowKit
set_option maxRecDepth 1000000
set_option maxHeartbeats 8000000
set_option linter.unusedVariables false
noncomputable section
abbrev ySlots : List Nat := [1, 5, 7, 4]
abbrev yStA (f : Bool) (ls : List Ac) (mp k : Int) : List SV × List (SO C27) := ([.h 0, .h 1, .raw (.int .i64 k), .raw (.bool false)], [.sl false f 40 ls, .box [.raw (.int .i64 mp), .raw (.bool false), .raw (.slice none 0 0)] 27])
abbrev yStB (f f2 : Bool) (ls : List Ac) (mp : Int) (rp : Bool) (ps : List Pt) (k : Int) : List SV × List (SO C27) := ([.h 0, .h 1, .raw (.int .i64 k), .raw (.bool false)], [.sl false f 40 ls, .box [.raw (.int .i64 mp), .raw (.bool rp), .h 2] 27, .sl true f2 46 ps])
abbrev yA (f : Bool) (ls : List Ac) (mp k : Int) := roundG C27 Try.prog sfS lsM lsMu 10 3 0 ySlots ⟨(yStA f ls mp k).1, 2, (yStA f ls mp k).2⟩
abbrev yB (f f2 : Bool) (ls : List Ac) (mp : Int) (rp : Bool) (ps : List Pt) (k : Int) := roundG C27 Try.prog sfS lsM lsMu 10 3 0 ySlots ⟨(yStB f f2 ls mp rp ps k).1, 2, (yStB f f2 ls mp rp ps k).2⟩
abbrev elC (ls : List Ac) (k : Int) : Ac := ls.getD k.toNat (0, 0, ByteArray.empty, false, 0, 0, 0, ByteArray.empty)
abbrev dA (ls : List Ac) (mp k : Int) : DR := doneR mp false [] (elC ls k)
abbrev dB (ls : List Ac) (mp : Int) (rp : Bool) (ps : List Pt) (k : Int) : DR := doneR mp rp ps (elC ls k)
end
end Go.Proofs.Ytgegagndihffpaa
