/-
  Chapter 27: the loop of PortsBack, states. Own work; nothing here is trusted.
-/
import Derived.Test.YtgegagndihffpaaCh27Back2
namespace Go.Proofs.Ytgegagndihffpaa
open Go Go.Sx Go.RowKit
set_option maxRecDepth 1000000
set_option maxHeartbeats 8000000
set_option linter.unusedVariables false
set_option linter.unusedSimpArgs false
noncomputable section

abbrev bSlots : List Nat := [5, 14, 17, 18, 6]
abbrev bSt (mp : Int) (rp : Bool) (mq : Int) (rq : Bool) (om : Bool) (fm : Bool) (ms : List Mg) (op : Bool) (fp : Bool) (ts : List Pt) (oq : Bool) (fq : Bool) (us : List Pt) (K : Int) (R : Bool) : List SV × List (SO C27) := ([.h 0, .h 1, .h 2, .raw (.int .i64 K), .raw (.bool R)], [.box [.raw (.int .i64 mp), .raw (.bool rp), .h 3] 27, .box [.raw (.int .i64 mq), .raw (.bool rq), .h 4] 27, .sl om fm 38 ms, .sl op fp 46 ts, .sl oq fq 46 us])
abbrev bRound (mp : Int) (rp : Bool) (mq : Int) (rq : Bool) (om : Bool) (fm : Bool) (ms : List Mg) (op : Bool) (fp : Bool) (ts : List Pt) (oq : Bool) (fq : Bool) (us : List Pt) (K : Int) := roundG C27 Try.prog noSp noLs (fun _ _ => 20) 10 4 0 bSlots ⟨(bSt mp rp mq rq om fm ms op fp ts oq fq us K false).1, 5, (bSt mp rp mq rq om fm ms op fp ts oq fq us K false).2⟩
abbrev bNSlots : List Nat := [5, 14, 17, 18, 6]
abbrev bNSt (mp : Int) (rp : Bool) (mq : Int) (rq : Bool) (op : Bool) (fp : Bool) (ts : List Pt) (oq : Bool) (fq : Bool) (us : List Pt) (K : Int) (R : Bool) : List SV × List (SO C27) := ([.h 0, .h 1, .raw (.slice none 0 0), .raw (.int .i64 K), .raw (.bool R)], [.box [.raw (.int .i64 mp), .raw (.bool rp), .h 2] 27, .box [.raw (.int .i64 mq), .raw (.bool rq), .h 3] 27, .sl op fp 46 ts, .sl oq fq 46 us])
abbrev bNRound (mp : Int) (rp : Bool) (mq : Int) (rq : Bool) (op : Bool) (fp : Bool) (ts : List Pt) (oq : Bool) (fq : Bool) (us : List Pt) (K : Int) := roundG C27 Try.prog noSp noLs (fun _ _ => 20) 10 4 0 bNSlots ⟨(bNSt mp rp mq rq op fp ts oq fq us K false).1, 4, (bNSt mp rp mq rq op fp ts oq fq us K false).2⟩
end
end Go.Proofs.Ytgegagndihffpaa
