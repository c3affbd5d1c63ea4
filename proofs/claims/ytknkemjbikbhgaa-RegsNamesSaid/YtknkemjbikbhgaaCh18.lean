/-
  Chapter 18: what is common to its statements. Own work; nothing here is trusted.
-/
import Derived.Test.YtknkemjbikbhgaaSxIns
import Derived.Test.YtknkemjbikbhgaaSxArg
import Derived.Test.YtknkemjbikbhgaaCh06
namespace Go.Proofs.Ytknkemjbikbhgaa
open Go Go.Sx Go.RowKit
set_option maxRecDepth 100000
set_option maxHeartbeats 2000000
set_option linter.unusedVariables false
/-- Acts, with no bytes. -/
def cAct18 : Codec where
  α := Int × Int × Int × Int
  ag := true
  sz := 5
  enc x := [.int .i64 x.1, .int .i64 x.2.1, .int .u64 x.2.2.1, .int .i64 x.2.2.2, .slice none 0 0]
  dec l := match l with
    | [.raw (.int .i64 a0), .raw (.int .i64 a1), .raw (.int .u64 a2), .raw (.int .i64 a3), .raw (.slice none 0 0)] => some (a0, a1, a2, a3)
    | _ => none
  d := (0, 0, 0, 0)
  pos := by decide
  len := fun _ => rfl
  one := fun _ v h => by simp at h; rcases h with h | h | h | h | h <;> (subst h; rfl)
  law := fun cs a h => by
    split at h
    · cases h; rfl
    · cases h
  sg := fun h => by cases h
/-- Bytes. -/
def cByte : Codec := { cInt .u8 with byt := some ⟨fun x => x, fun x => x, fun _ => rfl, fun _ => rfl⟩ }
def C18 : Tab := fun t => match t with
  | 77 => cQueue
  | 71 => cAct18
  | 89 => cPair
  | 94 => cRule
  | 5 => cByte
  | 4 => cBool
  | _ => cInt .i64
end Go.Proofs.Ytknkemjbikbhgaa
