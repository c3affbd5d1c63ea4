/-
  Chapter 24: FilterTables, its loop over commands: states. Own work; nothing here is trusted.
-/
import Derived.Test.YtgepgnjjhgmfnaaCh24Tb2
import Derived.Test.YtgepgnjjhgmfnaaCh24Same
import Derived.Test.YtgepgnjjhgmfnaaCh24Ctrl
namespace Go.Proofs.Ytgepgnjjhgmfnaa
open Go Go.Sx Go.RowKit
set_option maxRecDepth 1000000
set_option maxHeartbeats 8000000
set_option linter.unusedVariables false
set_option linter.unusedSimpArgs false
noncomputable section
noncomputable def cdM : Code := match tbQ with | .seq (.seq _ (.block _ (.loop c))) _ => c | _ => .skip
noncomputable def tbP : Code := match tbQ with | .seq _ (.seq _ c) => c | _ => .skip
noncomputable def cdN : Code := match tbP with | .seq (.seq _ (.block _ (.loop c))) _ => c | _ => .skip
theorem tbQ_eq : tbQ = .seq (.seq (.region 15 (opsOf 15) false) (.block 2 (.loop cdM))) (.seq (.region 24 (opsOf 24) false) (.seq (.seq (.region 25 (opsOf 25) false) (.block 4 (.loop cdN))) (.seq (.region 32 (opsOf 32) false) .ret))) := by kernel_rfl
theorem lpM : lps 0 cdM = [] := by kernel_rfl
theorem lpN : lps 0 cdN = [] := by kernel_rfl
noncomputable def sfT2 : SpecT C24 := addS 12 (seeS ctrlT) (addS 15 (seeS sameT) (addS 25 (seeS macsT) noSp))
theorem sfT2_ok : SpecTOk Try.prog sfT2 := addS_ok (seeS_ok ctrlT_ok) (addS_ok (seeS_ok filtT_ok) (addS_ok (seeS_ok macsT_ok) noSp_ok))
/-- A list of byte strings, as it is told. -/
abbrev Bs := List ((C24 33).α × Option (Addr × Nat) × List (C24 5).α)
def eB (l : Bs) (K : Int) : List Int := (List.getD l K.toNat (ssD (C24 33))).2.2
def eN (l : Bs) (K : Int) : Bool := isNo (List.getD l K.toNat (ssD (C24 33))).2.1
/-- A filter whose slices are plain values. -/
abbrev svV (t : Sv) : Value := .slice t.1 t.2.1 t.2.2
abbrev Fr := Mac × Bool × Bool × Sv × Sv × Sv
@[reducible] def frC (F : Fr) : List SV := fltL F.1 F.2.1 F.2.2.1 (.raw (svV F.2.2.2.1)) (.raw (svV F.2.2.2.2.1)) (.raw (svV F.2.2.2.2.2))
/-- A filter whose lists are its own. -/
@[reducible] def mkL {α : Type} (a : Option (List α)) : Lo α := match a with
  | none => none
  | some l => some (true, false, l)
abbrev Gw := Mac × Bool × Bool × Option (List Mac) × Option (List Mac) × Option (List Int)
@[reducible] def gw (G : Gw) : Fv := (G.1, G.2.1, G.2.2.1, mkL G.2.2.2.1, mkL G.2.2.2.2.1, mkL G.2.2.2.2.2)
def pw (G : Gw) : Fp := (G.1, G.2.1, G.2.2.1, G.2.2.2.1.getD [], G.2.2.2.2.1.getD [], G.2.2.2.2.2.getD [])
def gw0 : Gw := (mac0, false, false, none, none, none)
abbrev sl5 : List Nat := [6, 7, 2, 5, 11]
@[reducible] def mV (i : Int) : List SV := [.h 0, .h 1, .h 2, .h 3, .raw (.int .i64 i)]
@[reducible] def mO (F : Fr) (G : Fv) (m : List (Int × Bool)) (l : Bs) : List (SO C24) := .ss 33 0 5 l :: .mp .i64 4 m :: .box (frC F) 26 :: .box (fltC G 4) 26 :: fltO G
abbrev mR (outs : List Nat) (F : Fr) (G : Fv) (m : List (Int × Bool)) (l : Bs) (i : Int) := pieceL C24 Try.prog sfT2 noLs (fun _ _ => 20) 10 6 167 cdM sl5 outs ⟨mV i, 0, mO F G m l⟩
end
end Go.Proofs.Ytgepgnjjhgmfnaa
