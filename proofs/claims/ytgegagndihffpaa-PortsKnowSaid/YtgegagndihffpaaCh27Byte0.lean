/-
  Chapter 27: a message's bytes. Own work; nothing here is trusted.
-/
import Derived.Test.YtgegagndihffpaaCh27Fns
namespace Go.Proofs.Ytgegagndihffpaa
open Go Go.Sx Go.RowKit
noncomputable section
def bytB : Byt Int (cInt .u8).enc := ⟨fun x => x, fun x => x, fun _ => rfl, fun _ => rfl⟩
/-- The bytes of a message. -/
def msgL (a b c : Int) (s : ByteArray) : List Int := [shrV IntKind.u32 a (8 * 0) % 256, shrV IntKind.u32 a (8 * (0 + 1)) % 256, shrV IntKind.u32 a (8 * (0 + 1 + 1)) % 256, shrV IntKind.u32 a (8 * (0 + 1 + 1 + 1)) % 256, b % 256, shrV IntKind.u16 b 8 % 256, c % 256, shrV IntKind.u16 c 8 % 256] ++ strL (fun x : Int => x) s
/-- Messages that may be said. -/
def okM (b : Int) (s : ByteArray) : Bool := !decide (7 < b) && ((!(b != 7) || s.toList == ByteArray.empty.toList) && !decide ((64 : Int) < (s.size : Int)))
end
end Go.Proofs.Ytgegagndihffpaa
