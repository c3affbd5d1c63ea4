/-
  Chapter 24: what is common to its statements. Own work; nothing here is trusted.
-/
import Derived.Test.YtgepgnjjhgmfnaaSxC
import Derived.Test.YtgepgnjjhgmfnaaProg
namespace Go.Proofs.Ytgepgnjjhgmfnaa
open Go Go.Sx Go.RowKit
set_option maxRecDepth 100000
set_option maxHeartbeats 2000000
set_option linter.unusedVariables false
/-- Addresses of six bytes. -/
def cMac : Codec where
  α := Int × Int × Int × Int × Int × Int
  ag := true
  sz := 6
  enc x := [.int .u8 x.1, .int .u8 x.2.1, .int .u8 x.2.2.1, .int .u8 x.2.2.2.1, .int .u8 x.2.2.2.2.1, .int .u8 x.2.2.2.2.2]
  dec l := match l with
    | [.raw (.int .u8 a0), .raw (.int .u8 a1), .raw (.int .u8 a2), .raw (.int .u8 a3), .raw (.int .u8 a4), .raw (.int .u8 a5)] => some (a0, a1, a2, a3, a4, a5)
    | _ => none
  d := (0, 0, 0, 0, 0, 0)
  pos := by decide
  len := fun _ => rfl
  one := fun _ v h => by simp at h; rcases h with h | h | h | h | h | h <;> (subst h; rfl)
  law := fun cs a h => by
    split at h
    · cases h; rfl
    · cases h
  sg := fun h => by cases h
/-- Bytes. -/
def cByte : Codec := { cInt .u8 with byt := some ⟨fun x => x, fun x => x, fun _ => rfl, fun _ => rfl⟩ }
/-- Filters, where they stand in a list: cell by cell alone. -/
def cFlt : Codec where
  α := Unit
  ag := true
  sz := 11
  enc _ := List.replicate 11 (.bool false)
  dec _ := none
  d := ()
  pos := by decide
  len := fun _ => rfl
  one := fun _ v h => by rw [List.mem_replicate] at h; rw [h.2]; rfl
  law := fun cs a h => by cases h
  sg := fun h => by cases h
/-- Byte strings, where they stand in a list: only what is not the string itself. -/
def cRow : Codec where
  α := Option Addr × Nat × Nat
  ag := false
  sz := 1
  enc x := [.slice x.1 x.2.1 x.2.2]
  dec l := match l with
    | [.raw (.slice a n c)] => some (a, n, c)
    | _ => none
  d := (none, 0, 0)
  pos := by decide
  len := fun _ => rfl
  one := fun x v h => by rw [List.mem_singleton] at h; subst h; rfl
  law := fun cs a h => by
    split at h
    · cases h; rfl
    · cases h
  sg := fun _ => rfl
def C24 : Tab := fun t => match t with
  | 33 => cRow
  | 22 => cMac
  | 26 => cFlt
  | 5 => cByte
  | 4 => cBool
  | _ => cInt .i64
theorem plain : Plain Try.prog := plain_of (by kernel_rfl)
theorem mixed : Try.prog.follows .mixedOrders = true := by kernel_rfl
end Go.Proofs.Ytgepgnjjhgmfnaa
