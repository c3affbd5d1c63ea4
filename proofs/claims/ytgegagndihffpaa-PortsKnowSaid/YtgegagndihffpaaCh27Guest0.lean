/-
  Chapter 27: Guest, its parts. Own work; nothing here is trusted.
-/
import Derived.Test.YtgegagndihffpaaCh27Acts
namespace Go.Proofs.Ytgegagndihffpaa
open Go Go.Sx Go.RowKit
set_option maxRecDepth 1000000
set_option maxHeartbeats 8000000
set_option linter.unusedVariables false
noncomputable section
/-! ### ready -/
abbrev rSlots : List Nat := [1, 2, 4, 6, 18, 19]
/-- Nothing is said yet, or something is. -/
abbrev rStA (f : Bool) (most : Int) (on : Bool) (n : Int) (ts : List Pt) (k : Int) : List SV × List (SO C27) := ([.raw (.bool on), .h 0, .h 1, .raw (.slice none 0 0), .raw (.int .i64 n), .raw (.int .i64 k)], [.box [.raw (.int .i64 most), .raw (.bool on), .h 2] 27, .box [.raw (.int .i64 0), .raw (.bool false), .raw (.slice none 0 0)] 27, .sl true f 46 ts])
abbrev rStB (f f2 : Bool) (most : Int) (on : Bool) (n : Int) (ts : List Pt) (ms : List Mg) (k : Int) : List SV × List (SO C27) := ([.raw (.bool on), .h 0, .h 1, .h 3, .raw (.int .i64 n), .raw (.int .i64 k)], [.box [.raw (.int .i64 most), .raw (.bool on), .h 2] 27, .box [.raw (.int .i64 0), .raw (.bool false), .raw (.slice none 0 0)] 27, .sl true f 46 ts, .sl true f2 38 ms])
abbrev rA (f : Bool) (most : Int) (on : Bool) (n : Int) (ts : List Pt) (k : Int) := roundG C27 Try.prog noSp noLs (fun _ _ => 20) 10 30 0 rSlots ⟨(rStA f most on n ts k).1, 3, (rStA f most on n ts k).2⟩
abbrev rB (f f2 : Bool) (most : Int) (on : Bool) (n : Int) (ts : List Pt) (ms : List Mg) (k : Int) := roundG C27 Try.prog noSp noLs (fun _ _ => 20) 10 30 0 rSlots ⟨(rStB f f2 most on n ts ms k).1, 3, (rStB f f2 most on n ts ms k).2⟩
/-- A field of the port at a place, set anew. -/
abbrev set5 (ts : List Pt) (i : Int) (b : Bool) : List Pt := ts.set i.toNat ((ts.getD i.toNat (0, ByteArray.empty, false, false, false, false)).fst, (ts.getD i.toNat (0, ByteArray.empty, false, false, false, false)).snd.fst, (ts.getD i.toNat (0, ByteArray.empty, false, false, false, false)).snd.snd.fst, (ts.getD i.toNat (0, ByteArray.empty, false, false, false, false)).snd.snd.snd.fst, (ts.getD i.toNat (0, ByteArray.empty, false, false, false, false)).snd.snd.snd.snd.fst, b)
abbrev set4 (ts : List Pt) (i : Int) (b : Bool) : List Pt := ts.set i.toNat ((ts.getD i.toNat (0, ByteArray.empty, false, false, false, false)).fst, (ts.getD i.toNat (0, ByteArray.empty, false, false, false, false)).snd.fst, (ts.getD i.toNat (0, ByteArray.empty, false, false, false, false)).snd.snd.fst, (ts.getD i.toNat (0, ByteArray.empty, false, false, false, false)).snd.snd.snd.fst, b, (ts.getD i.toNat (0, ByteArray.empty, false, false, false, false)).snd.snd.snd.snd.snd)
abbrev fP := fnC C27 Try.prog sfA noLs (fun _ _ => 20) 10
end
end Go.Proofs.Ytgegagndihffpaa
