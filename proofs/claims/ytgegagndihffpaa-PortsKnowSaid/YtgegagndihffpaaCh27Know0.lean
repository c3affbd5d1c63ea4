/-
  Chapter 27: Know's loop, its states. Own work; nothing here is trusted.
-/
import Derived.Test.YtgegagndihffpaaCh27Byte
namespace Go.Proofs.Ytgegagndihffpaa
open Go Go.Sx Go.RowKit
set_option maxRecDepth 1000000
set_option maxHeartbeats 8000000
set_option linter.unusedVariables false
noncomputable section
def sfKn : SpecT C27 := addS 14 (seeS bytT) (addS 28 (seeS atT) (addS 32 (seeS withT) (addS 35 (seeS woT) noSp)))
theorem sfKn_ok : SpecTOk Try.prog sfKn := addS_ok (seeS_ok bytT_ok) (addS_ok (seeS_ok atT_ok) (addS_ok (seeS_ok withT_ok) (addS_ok (seeS_ok woT_ok) noSp_ok)))
abbrev nSlots : List Nat := [2, 4, 17, 18, 19]
/-- The list is the one that was there, or another one. -/
abbrev nStA (f f2 : Bool) (most : Int) (rdy : Bool) (ts : List Pt) (ms : List Mg) (k : Int) : List SV × List (SO C27) := ([.h 0, .h 1, .h 2, .raw (.int .i64 (ms.length : Int)), .raw (.int .i64 k)], [.box [.raw (.int .i64 most), .raw (.bool rdy), .h 3] 27, .box [.raw (.int .i64 0), .raw (.bool false), .raw (.slice none 0 0)] 27, .sl false f 38 ms, .sl true f2 46 ts])
abbrev nStB (f f2 f3 : Bool) (most : Int) (rdy : Bool) (l0 ts : List Pt) (ms : List Mg) (k : Int) : List SV × List (SO C27) := ([.h 0, .h 1, .h 2, .raw (.int .i64 (ms.length : Int)), .raw (.int .i64 k)], [.box [.raw (.int .i64 most), .raw (.bool rdy), .h 4] 27, .box [.raw (.int .i64 0), .raw (.bool false), .raw (.slice none 0 0)] 27, .sl false f 38 ms, .sl true f2 46 l0, .sl true f3 46 ts])
abbrev nA (f f2 : Bool) (most : Int) (rdy : Bool) (ts : List Pt) (ms : List Mg) (k : Int) := roundG C27 Try.prog sfKn noLs (fun _ _ => 20) 10 24 0 nSlots ⟨(nStA f f2 most rdy ts ms k).1, 4, (nStA f f2 most rdy ts ms k).2⟩
abbrev nB (f f2 f3 : Bool) (most : Int) (rdy : Bool) (l0 ts : List Pt) (ms : List Mg) (k : Int) := roundG C27 Try.prog sfKn noLs (fun _ _ => 20) 10 24 0 nSlots ⟨(nStB f f2 f3 most rdy l0 ts ms k).1, 4, (nStB f f2 f3 most rdy l0 ts ms k).2⟩
abbrev elM (ms : List Mg) (k : Int) : Mg := ms.getD k.toNat (0, 0, 0, ByteArray.empty)
end
end Go.Proofs.Ytgegagndihffpaa
