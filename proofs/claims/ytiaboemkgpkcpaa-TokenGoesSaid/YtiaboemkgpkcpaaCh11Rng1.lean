/-
  Chapter 11: TokenGoes' loop over a map, its body. Own work; nothing here is trusted.
-/
import Derived.Test.YtiaboemkgpkcpaaCh11Rng0
import Derived.Test.YtiaboemkgpkcpaaCh11RunT
namespace Go.Proofs.Ytiaboemkgpkcpaa
open Go Go.Sx Go.RowKit
set_option maxRecDepth 1000000
set_option maxHeartbeats 8000000
set_option linter.unusedVariables false
set_option linter.unusedSimpArgs false
noncomputable section
def sfB : SpecT C11 := addS 8 (seeS stateT) noSp
theorem sfB_ok : SpecTOk Try.prog sfB := addS_ok (seeS_ok stateT_ok) noSp_ok
abbrev gSl : List Nat := [3, 13, 14, 15, 168]
@[reducible] def gVs (c K V : Int) (g : Nat) : List SV := [.h 0, .raw (.int .i64 c), .raw (.int .i64 K), .raw (.int .i64 V), .raw (.pointer (some ⟨g, 0, none⟩))]
@[reducible] def gOs (v : Lo Tk) : List (SO C11) := .box [hS v 1] 26 :: obT v
abbrev gR (v : Lo Tk) (c K V : Int) (g : Nat) := pieceC C11 Try.prog sfB (fun _ _ => 20) 10 3 207 body3 gSl ⟨gVs c K V g, (gOs v).length, gOs v⟩
end
end Go.Proofs.Ytiaboemkgpkcpaa
