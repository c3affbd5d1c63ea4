/-
  Chapter 27: what is common to its statements. Own work; nothing here is trusted.
-/
import Derived.Test.YtgegagndihffpaaSxC
import Derived.Test.YtgegagndihffpaaProg
namespace Go.Proofs.Ytgegagndihffpaa
open Go Go.Sx Go.RowKit
set_option maxRecDepth 100000
set_option maxHeartbeats 2000000
set_option linter.unusedVariables false
/-- Ports. -/
def cPort : Codec where
  α := Int × ByteArray × Bool × Bool × Bool × Bool
  ag := true
  sz := 6
  enc x := [.int .i64 x.1, .string x.2.1, .bool x.2.2.1, .bool x.2.2.2.1, .bool x.2.2.2.2.1, .bool x.2.2.2.2.2]
  dec l := match l with
    | [.raw (.int .i64 a0), .raw (.string a1), .raw (.bool a2), .raw (.bool a3), .raw (.bool a4), .raw (.bool a5)] => some (a0, a1, a2, a3, a4, a5)
    | _ => none
  d := (0, .empty, false, false, false, false)
  pos := by decide
  len := fun _ => rfl
  one := fun _ v h => by simp at h; rcases h with h | h | h | h | h | h <;> (subst h; rfl)
  law := fun cs a h => by
    split at h
    · cases h; rfl
    · cases h
  sg := fun h => by cases h
/-- Messages. -/
def cMsg : Codec where
  α := Int × Int × Int × ByteArray
  ag := true
  sz := 4
  enc x := [.int .u32 x.1, .int .u16 x.2.1, .int .u16 x.2.2.1, .string x.2.2.2]
  dec l := match l with
    | [.raw (.int .u32 a0), .raw (.int .u16 a1), .raw (.int .u16 a2), .raw (.string a3)] => some (a0, a1, a2, a3)
    | _ => none
  d := (0, 0, 0, .empty)
  pos := by decide
  len := fun _ => rfl
  one := fun _ v h => by simp at h; rcases h with h | h | h | h <;> (subst h; rfl)
  law := fun cs a h => by
    split at h
    · cases h; rfl
    · cases h
  sg := fun h => by cases h
/-- Acts. -/
def cAct : Codec where
  α := Int × Int × ByteArray × Bool × Int × Int × Int × ByteArray
  ag := true
  sz := 8
  enc x := [.int .i64 x.1, .int .i64 x.2.1, .string x.2.2.1, .bool x.2.2.2.1, .int .u32 x.2.2.2.2.1, .int .u16 x.2.2.2.2.2.1, .int .u16 x.2.2.2.2.2.2.1, .string x.2.2.2.2.2.2.2]
  dec l := match l with
    | [.raw (.int .i64 a0), .raw (.int .i64 a1), .raw (.string a2), .raw (.bool a3), .raw (.int .u32 a4), .raw (.int .u16 a5), .raw (.int .u16 a6), .raw (.string a7)] => some (a0, a1, a2, a3, a4, a5, a6, a7)
    | _ => none
  d := (0, 0, .empty, false, 0, 0, 0, .empty)
  pos := by decide
  len := fun _ => rfl
  one := fun _ v h => by simp at h; rcases h with h | h | h | h | h | h | h | h <;> (subst h; rfl)
  law := fun cs a h => by
    split at h
    · cases h; rfl
    · cases h
  sg := fun h => by cases h
/-- Bytes. -/
def cByte : Codec := { cInt .u8 with byt := some ⟨fun x => x, fun x => x, fun _ => rfl, fun _ => rfl⟩ }
def C27 : Tab := fun t => match t with
  | 46 => cPort
  | 38 => cMsg
  | 40 => cAct
  | 5 => cByte
  | 4 => cBool
  | _ => cInt .i64
theorem plain : Plain Try.prog := plain_of (by kernel_rfl)
theorem mixed : Try.prog.follows .mixedOrders = true := by kernel_rfl
end Go.Proofs.Ytgegagndihffpaa
