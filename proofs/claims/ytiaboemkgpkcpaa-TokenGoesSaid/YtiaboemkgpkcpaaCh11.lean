/-
  Chapter 11: what is common to its statements.
-/
import Derived.Test.YtiaboemkgpkcpaaSxC
import Derived.Test.YtiaboemkgpkcpaaProg
namespace Go.Proofs.Ytiaboemkgpkcpaa
open Go Go.Sx Go.RowKit
set_option maxRecDepth 100000
set_option maxHeartbeats 2000000
set_option linter.unusedVariables false
/-- Tokens and their events: three numbers. -/
def cTok : Codec where
  α := Int × Int × Int
  ag := true
  sz := 3
  enc x := [.int .i64 x.1, .int .i64 x.2.1, .int .u32 x.2.2]
  dec l := match l with
    | [.raw (.int .i64 a0), .raw (.int .i64 a1), .raw (.int .u32 a2)] => some (a0, a1, a2)
    | _ => none
  d := (0, 0, 0)
  pos := by decide
  len := fun _ => rfl
  one := fun _ v h => by simp at h; rcases h with h | h | h <;> (subst h; rfl)
  law := fun cs a h => by
    split at h
    · cases h; rfl
    · cases h
  sg := fun h => by cases h
def C11 : Tab := fun t => match t with
  | 47 => cTok
  | 34 => cTok
  | 32 => cInt .u32
  | 4 => cBool
  | _ => cInt .i64
theorem plain : Plain Try.prog := plain_of (by kernel_rfl)
theorem mixed : Try.prog.follows .mixedOrders = true := by kernel_rfl
end Go.Proofs.Ytiaboemkgpkcpaa
