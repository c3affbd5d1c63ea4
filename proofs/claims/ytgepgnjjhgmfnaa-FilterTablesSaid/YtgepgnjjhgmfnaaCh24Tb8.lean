/-
  Chapter 24: FilterTables, the function. Own work; nothing here is trusted.
-/
import Derived.Test.YtgepgnjjhgmfnaaCh24TbE
namespace Go.Proofs.Ytgepgnjjhgmfnaa
open Go Go.Sx Go.RowKit
set_option maxRecDepth 1000000
set_option maxHeartbeats 8000000
set_option linter.unusedVariables false
set_option linter.unusedSimpArgs false
noncomputable section
def bzT : FnF C24 := fun args os => match args, os with
  | [.raw (.bool b)], [] => .leaf (.raw (.int .u8 (bzN b)), [])
  | _, _ => .fail
theorem bzT_ok : ∀ args os r, (bzT args os).get = some r → Fn0 Try.prog 44 args os r := fun args os r h => by
  unfold bzT at h
  split at h
  · rename_i b
    simp only [Tr.get, Option.some.injEq] at h
    subst h
    refine fnC_ok (sp := noSp) (ls := noLs) (unr := fun _ _ => 20) (d := 10) plain mixed noSp_ok noLs_ok ?_
    cases b <;> kernel_rfl
  · cases h
noncomputable def sfT3 : SpecT C24 := addS 9 (seeS livT) (addS 10 (seeS lightT) (addS 20 (seeS tabT) (addS 44 (seeS bzT) noSp)))
theorem sfT3_ok : SpecTOk Try.prog sfT3 := addS_ok (seeS_ok livT_ok) (addS_ok (seeS_ok lightT_ok) (addS_ok (seeS_ok (tabT_ok (.inr rfl))) (addS_ok (seeS_ok bzT_ok) noSp_ok)))
/-- A list that is handed over. -/
@[reducible] def vwL {α : Type} (a : Option (List α)) : Lo α := match a with
  | none => none
  | some l => some (false, false, l)
@[reducible] def fvL (m : Mac) (p q : Bool) (a b : Option (List Mac)) (c : Option (List Int)) : Fv := (m, p, q, vwL a, vwL b, vwL c)
abbrev fT6 (m : Mac) (p q : Bool) (a b : Option (List Mac)) (c d : Option (List Int)) := fnH C24 Try.prog hkT sfT3 noLs (fun _ _ => 20) 10 6 [.agg (fltC (fvL m p q a b c) 0), hS (vwL d) (fltN (fvL m p q a b c) 0)] (fltO (fvL m p q a b c) ++ obI (vwL d))
end
end Go.Proofs.Ytgepgnjjhgmfnaa
