/-
  Chapter 27: plain names for what stands in the ways. Own work; nothing here is trusted.
-/
import Derived.Test.YtgegagndihffpaaCh27Spec
import Derived.Test.YtgegagndihffpaaSxC
namespace Go.Proofs.Ytgegagndihffpaa
open Go Go.Sx Go.RowKit
set_option maxRecDepth 1000000
set_option maxHeartbeats 8000000
set_option linter.unusedVariables false
noncomputable section
abbrev Pt := Int × ByteArray × Bool × Bool × Bool × Bool
abbrev Mg := Int × Int × Int × ByteArray
/-! ### Check -/
abbrev kSlots : List Nat := [1, 14, 15, 16, 2]
abbrev kSt (own full : Bool) (most : Int) (rdy : Bool) (ts : List Pt) (k : Int) (r : Int) : List SV × List (SO C27) := ([.h 0, .h 1, .raw (.int .i64 (ts.length : Int)), .raw (.int .i64 k), .raw (.int .i64 r)], [.box [.raw (.int .i64 most), .raw (.bool rdy), .h 1] 27, .sl own full 46 ts])
abbrev kRound (own full : Bool) (most : Int) (rdy : Bool) (ts : List Pt) (k : Int) := roundG C27 Try.prog noSp noLs (fun _ _ => 20) 10 13 0 kSlots ⟨(kSt own full most rdy ts k 0).1, 2, (kSt own full most rdy ts k 0).2⟩
/-- The element at a place. -/
abbrev elP (ts : List Pt) (k : Int) : Pt := ts.getD k.toNat (0, ByteArray.empty, false, false, false, false)
end
end Go.Proofs.Ytgegagndihffpaa
