/-
  Chapter 27: PortsStay, the loop over messages, states. Own work; nothing here is trusted.
-/
import Derived.Test.YtgegagndihffpaaCh27Stay0
namespace Go.Proofs.Ytgegagndihffpaa
open Go Go.Sx Go.RowKit
set_option maxRecDepth 1000000
set_option maxHeartbeats 8000000
set_option linter.unusedVariables false
set_option linter.unusedSimpArgs false
noncomputable section
theorem all_el {ms : List Mg} {k : Nat} (h : (ms.all fun m => inR64 m.1) = true) (hk : k < ms.length) : inR64 (elM ms (k : Int)).1 = true := by
  have h1 := List.all_eq_true.1 h (ms[k]'hk) (List.getElem_mem hk)
  have h2 : elM ms (k : Int) = ms[k]'hk := by
    show ms.getD k _ = _
    rw [List.getD_eq_getElem?_getD, List.getElem?_eq_getElem hk]; rfl
  rw [h2]; exact h1

abbrev mASlots : List Nat := [1, 5, 7, 8, 9, 11, 4]
abbrev mASt (f0 : Bool) (ls : List Ac) (mp : Int) (rp : Bool) (mq : Int) (rq : Bool) (om : Bool) (fm : Bool) (ms : List Mg) (oq : Bool) (fq : Bool) (us : List Pt) (i : Int) (K : Int) (R : Bool) : List SV × List (SO C27) := ([.h 0, .h 1, .raw (.int .i64 i), .h 2, .h 3, .raw (.int .i64 K), .raw (.bool R)], [.sl false f0 40 ls, .box [.raw (.int .i64 mp), .raw (.bool rp), .raw (.slice none 0 0)] 27, .box [.raw (.int .i64 mq), .raw (.bool rq), .h 4] 27, .sl om fm 38 ms, .sl oq fq 46 us])
abbrev mARound (f0 : Bool) (ls : List Ac) (mp : Int) (rp : Bool) (mq : Int) (rq : Bool) (om : Bool) (fm : Bool) (ms : List Mg) (oq : Bool) (fq : Bool) (us : List Pt) (i : Int) (K : Int) := roundG C27 Try.prog sfS noLs (fun _ _ => 20) 10 3 2 mASlots ⟨(mASt f0 ls mp rp mq rq om fm ms oq fq us i K false).1, 5, (mASt f0 ls mp rp mq rq om fm ms oq fq us i K false).2⟩
abbrev mBSlots : List Nat := [1, 5, 7, 8, 9, 11, 4]
abbrev mBSt (f0 : Bool) (ls : List Ac) (mp : Int) (rp : Bool) (mq : Int) (rq : Bool) (om : Bool) (fm : Bool) (ms : List Mg) (op : Bool) (fp : Bool) (ps : List Pt) (oq : Bool) (fq : Bool) (us : List Pt) (i : Int) (K : Int) (R : Bool) : List SV × List (SO C27) := ([.h 0, .h 1, .raw (.int .i64 i), .h 2, .h 3, .raw (.int .i64 K), .raw (.bool R)], [.sl false f0 40 ls, .box [.raw (.int .i64 mp), .raw (.bool rp), .h 4] 27, .box [.raw (.int .i64 mq), .raw (.bool rq), .h 5] 27, .sl om fm 38 ms, .sl op fp 46 ps, .sl oq fq 46 us])
abbrev mBRound (f0 : Bool) (ls : List Ac) (mp : Int) (rp : Bool) (mq : Int) (rq : Bool) (om : Bool) (fm : Bool) (ms : List Mg) (op : Bool) (fp : Bool) (ps : List Pt) (oq : Bool) (fq : Bool) (us : List Pt) (i : Int) (K : Int) := roundG C27 Try.prog sfS noLs (fun _ _ => 20) 10 3 2 mBSlots ⟨(mBSt f0 ls mp rp mq rq om fm ms op fp ps oq fq us i K false).1, 6, (mBSt f0 ls mp rp mq rq om fm ms op fp ps oq fq us i K false).2⟩
abbrev mCSlots : List Nat := [1, 5, 7, 8, 9, 11, 4]
abbrev mCSt (f0 : Bool) (ls : List Ac) (mp : Int) (rp : Bool) (mq : Int) (rq : Bool) (oq : Bool) (fq : Bool) (us : List Pt) (i : Int) (K : Int) (R : Bool) : List SV × List (SO C27) := ([.h 0, .h 1, .raw (.int .i64 i), .h 2, .raw (.slice none 0 0), .raw (.int .i64 K), .raw (.bool R)], [.sl false f0 40 ls, .box [.raw (.int .i64 mp), .raw (.bool rp), .raw (.slice none 0 0)] 27, .box [.raw (.int .i64 mq), .raw (.bool rq), .h 3] 27, .sl oq fq 46 us])
abbrev mCRound (f0 : Bool) (ls : List Ac) (mp : Int) (rp : Bool) (mq : Int) (rq : Bool) (oq : Bool) (fq : Bool) (us : List Pt) (i : Int) (K : Int) := roundG C27 Try.prog sfS noLs (fun _ _ => 20) 10 3 2 mCSlots ⟨(mCSt f0 ls mp rp mq rq oq fq us i K false).1, 4, (mCSt f0 ls mp rp mq rq oq fq us i K false).2⟩
abbrev mDSlots : List Nat := [1, 5, 7, 8, 9, 11, 4]
abbrev mDSt (f0 : Bool) (ls : List Ac) (mp : Int) (rp : Bool) (mq : Int) (rq : Bool) (op : Bool) (fp : Bool) (ps : List Pt) (oq : Bool) (fq : Bool) (us : List Pt) (i : Int) (K : Int) (R : Bool) : List SV × List (SO C27) := ([.h 0, .h 1, .raw (.int .i64 i), .h 2, .raw (.slice none 0 0), .raw (.int .i64 K), .raw (.bool R)], [.sl false f0 40 ls, .box [.raw (.int .i64 mp), .raw (.bool rp), .h 3] 27, .box [.raw (.int .i64 mq), .raw (.bool rq), .h 4] 27, .sl op fp 46 ps, .sl oq fq 46 us])
abbrev mDRound (f0 : Bool) (ls : List Ac) (mp : Int) (rp : Bool) (mq : Int) (rq : Bool) (op : Bool) (fp : Bool) (ps : List Pt) (oq : Bool) (fq : Bool) (us : List Pt) (i : Int) (K : Int) := roundG C27 Try.prog sfS noLs (fun _ _ => 20) 10 3 2 mDSlots ⟨(mDSt f0 ls mp rp mq rq op fp ps oq fq us i K false).1, 5, (mDSt f0 ls mp rp mq rq op fp ps oq fq us i K false).2⟩
end
end Go.Proofs.Ytgegagndihffpaa
