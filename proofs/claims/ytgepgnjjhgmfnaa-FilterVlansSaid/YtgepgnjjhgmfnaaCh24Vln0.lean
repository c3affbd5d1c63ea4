/-
  Chapter 24: FilterVlans, the loop over what is left: states. Own work; nothing here is trusted.
-/
import Derived.Test.YtgepgnjjhgmfnaaCh24Same
import Derived.Test.YtgepgnjjhgmfnaaCh24CtrU
namespace Go.Proofs.Ytgepgnjjhgmfnaa
open Go Go.Sx Go.RowKit
set_option maxRecDepth 1000000
set_option maxHeartbeats 8000000
set_option linter.unusedVariables false
noncomputable section
/-- A filter whose lists are its own. -/
@[reducible] def pS (F : Fp) : Fv := (F.1, F.2.1, F.2.2.1, some (true, false, F.2.2.2.1), some (true, false, F.2.2.2.2.1), some (true, false, F.2.2.2.2.2))
/-- The boxes that stand behind the loop: the filter, the frame, the filters with more and with less. -/
@[reducible] def vBx (F : Fv) (X : Rv) (P R : Fp) : List (SO C24) := .box (fltC F 4) 26 :: .box (frmC X (fltN F 4)) 43 :: .box (fltC (pS P) (nx X.2.2.2.2 (fltN F 4))) 26 :: .box (fltC (pS R) (fltN (pS P) (nx X.2.2.2.2 (fltN F 4)))) 26 :: (fltO F ++ (obB X.2.2.2.2 ++ (fltO (pS P) ++ fltO (pS R))))
@[reducible] def vNb (F : Fv) (X : Rv) (P R : Fp) : Nat := fltN (pS R) (fltN (pS P) (nx X.2.2.2.2 (fltN F 4)))
@[reducible] def vA (F : Fv) (X : Rv) (P R : Fp) (a b K : Int) : List SV × List (SO C24) := ([.h 0, .h 1, .h 2, .h 3, .raw (.int .i64 a), .raw (.int .i64 b), .raw (.int .i64 K), .raw (.slice none 0 0)], vBx F X P R)
@[reducible] def vB2 (F : Fv) (X : Rv) (P R : Fp) (a b K : Int) (ls : List Int) : List SV × List (SO C24) := ([.h 0, .h 1, .h 2, .h 3, .raw (.int .i64 a), .raw (.int .i64 b), .raw (.int .i64 K), .h (vNb F X P R)], vBx F X P R ++ [.sl true false 3 ls])
abbrev vSl : List Nat := [4, 7, 9, 15, 1, 2, 19, 18]
abbrev vRA (F : Fv) (X : Rv) (P R : Fp) (a b K : Int) := roundG C24 Try.prog noSp noLs (fun _ _ => 20) 10 7 0 vSl ⟨(vA F X P R a b K).1, vNb F X P R, (vA F X P R a b K).2⟩
abbrev vRB (F : Fv) (X : Rv) (P R : Fp) (a b K : Int) (ls : List Int) := roundG C24 Try.prog noSp noLs (fun _ _ => 20) 10 7 0 vSl ⟨(vB2 F X P R a b K ls).1, vNb F X P R, (vB2 F X P R a b K ls).2⟩
end
end Go.Proofs.Ytgepgnjjhgmfnaa
