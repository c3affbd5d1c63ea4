/-
  Chapter 8: FreeOnce's loop, its states. Own work; nothing here is trusted.
-/
import Derived.Test.YtkhlmlcjedbkcaaCh08OnceI
namespace Go.Proofs.Ytkhlmlcjedbkcaa
open Go Go.Sx Go.RowKit
set_option maxRecDepth 1000000
set_option maxHeartbeats 8000000
set_option linter.unusedVariables false
set_option linter.unusedSimpArgs false
noncomputable section
def sfN : SpecT C8 := addS 9 (seeS takeT2) (addS 10 (seeS giveT) (addS 12 (seeS sameT) (addS 13 (seeS ctT) (addS 15 (seeS chkT) (addS 7 (seeS pk8T) noSp)))))
theorem sfN_ok : SpecTOk Try.prog sfN := addS_ok (seeS_ok takeT2_ok) (addS_ok (seeS_ok giveT_ok) (addS_ok (seeS_ok sameT_ok) (addS_ok (seeS_ok ctT_ok) (addS_ok (seeS_ok chkT_ok) (addS_ok (seeS_ok pk8T_ok) noSp_ok)))))
abbrev un5 (g b : Nat) : Nat := match g, b with
  | 5, 0 => 0 | 5, 2 => 0 | _, _ => 20
abbrev onSlots : List Nat := [5, 7, 8, 0, 1, 4]
/-- Nothing is taken yet. -/
abbrev onStA (f1 f3 : Bool) (size : Int) (l0 l : List Int) (i : Int) : List SV × List (SO C8) := ([.h 0, .raw (.slice none 0 0), .raw (.int .i64 i), .raw (.int .i64 size), .h 1, .raw (.bool false)], [.box [.raw (.int .i64 size), .h 2] 26, .sl false f3 3 l, .sl true f1 3 l0])
/-- Some were taken. -/
abbrev onStB (f1 f2 f3 f4 : Bool) (size : Int) (l0 l ts out : List Int) (i : Int) : List SV × List (SO C8) := ([.h 0, .h 3, .raw (.int .i64 i), .raw (.int .i64 size), .h 1, .raw (.bool false)], [.box [.raw (.int .i64 size), .h 4] 26, .sl false f3 3 l, .sl true f1 3 l0, .sl true f2 3 out, .sl true f4 3 ts])
abbrev onA (f1 f3 : Bool) (size : Int) (l0 l : List Int) (i : Int) := roundG C8 Try.prog sfN lsI un5 10 5 0 onSlots ⟨(onStA f1 f3 size l0 l i).1, 3, (onStA f1 f3 size l0 l i).2⟩
abbrev onB (f1 f2 f3 f4 : Bool) (size : Int) (l0 l ts out : List Int) (i : Int) := roundG C8 Try.prog sfN lsI un5 10 5 0 onSlots ⟨(onStB f1 f2 f3 f4 size l0 l ts out i).1, 3, (onStB f1 f2 f3 f4 size l0 l ts out i).2⟩
end
end Go.Proofs.Ytkhlmlcjedbkcaa
