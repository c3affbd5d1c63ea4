/-
  Chapter 27: the guard of acts as a specification; PortsStay, what it stands on. Own work; nothing here is trusted.
-/
import Derived.Test.YtgegagndihffpaaCh27Light
import Derived.Test.YtgegagndihffpaaCh27Twice0
namespace Go.Proofs.Ytgegagndihffpaa
open Go Go.Sx Go.RowKit
set_option maxRecDepth 1000000
set_option maxHeartbeats 8000000
set_option linter.unusedVariables false
set_option linter.unusedSimpArgs false
noncomputable section
theorem light_tree (f : Bool) (ls : List Ac) : (fnC C27 Try.prog noSp lsL lsLu 10 9 [.h 0] [.sl false f 40 ls]).get =
  bro (decide ((60 : Int) < (↑ls.length : Int))) (some (SV.raw (Value.bool false), [])) (bro (decide (ls.length ≤ (1000 : Nat))) (bro (noneP (gP false f ls) ls.length) (some (SV.raw (Value.bool true), [])) (some (SV.raw (Value.bool false), []))) (none)) := by kernel_rfl
theorem light_nil : (fnC C27 Try.prog noSp noLs (fun _ _ => 20) 10 9 [.raw (.slice none 0 0)] []).get = some (.raw (.bool true), []) := by kernel_rfl
def lightP (f : Bool) (ls : List Ac) : Bool := !decide ((60 : Int) < (ls.length : Int)) && noneP (gP false f ls) ls.length
def lightT : FnF C27 := fun args os => match args, os with
  | [.h 0], [.sl false f 40 ls] => .br (lightP f ls) (.leaf (.raw (.bool true), [])) (.leaf (.raw (.bool false), []))
  | [.raw (.slice none 0 0)], [] => .leaf (.raw (.bool true), [])
  | _, _ => .fail
theorem lightT_ok : ∀ args os r, (lightT args os).get = some r → Fn0 Try.prog 9 args os r := fun args os r h => by
  unfold lightT at h
  split at h
  · rename_i f ls
    change List Ac at ls
    refine fnC_ok (sp := noSp) (ls := lsL) (unr := lsLu) (d := 10) plain mixed noSp_ok lsL_ok ?_
    refine (light_tree f ls).trans (Eq.trans ?_ h)
    unfold lightP
    by_cases hl : (60 : Int) < (ls.length : Int)
    · rw [decide_eq_true hl]; rfl
    · rw [decide_eq_false hl, decide_eq_true (show ls.length ≤ 1000 by omega)]
      cases noneP (gP false f ls) ls.length <;> rfl
  · simp only [Tr.get, Option.some.injEq] at h; subst h
    exact fnC_ok (sp := noSp) (ls := noLs) (unr := fun _ _ => 20) (d := 10) plain mixed noSp_ok noLs_ok light_nil
  · cases h
def sfY : SpecT C27 := addS 8 (seeS livT) (addS 9 (seeS lightT) noSp)
theorem sfY_ok : SpecTOk Try.prog sfY := addS_ok (seeS_ok livT_ok) (addS_ok (seeS_ok lightT_ok) noSp_ok)
def lsY : LoopT C27 := Sx.addL 3 0 (loopS [1, 5, 7, 4] [] yLoop) noLs
theorem lsY_ok : LoopTOk Try.prog lsY := addL_ok y_loop yLoop_ok noLs_ok
abbrev unY (g b : Nat) : Nat := match g, b with
  | 3, 0 => 0 | _, _ => 20
abbrev fY (f : Bool) (n : Int) (ls : List Ac) := fnC C27 Try.prog sfY lsY unY 10 3 [.raw (.int .i64 n), .h 0] [.sl false f 40 ls]
abbrev fYn (n : Int) := fnC C27 Try.prog sfY noLs (fun _ _ => 20) 10 3 [.raw (.int .i64 n), nlS] []
end
end Go.Proofs.Ytgegagndihffpaa
