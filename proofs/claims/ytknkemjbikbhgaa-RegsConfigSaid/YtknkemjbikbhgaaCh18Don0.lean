/-
  Chapter 18: one act, what it stands on. Own work; nothing here is trusted.
-/
import Derived.Test.YtknkemjbikbhgaaCh18Sml
import Derived.Test.YtknkemjbikbhgaaSxC
namespace Go.Proofs.Ytknkemjbikbhgaa
open Go Go.Sx Go.RowKit
set_option maxRecDepth 1000000
set_option maxHeartbeats 8000000
set_option linter.unusedVariables false
set_option linter.unusedSimpArgs false
noncomputable section
def sfD8 : SpecT C18 := addS 43 (seeS onT) (addS 45 (seeS chgT) (addS 46 (seeS wriT) (addS 54 (seeS brkT8) (addS 55 (seeS sigT) noSp))))
theorem sfD8_ok : SpecTOk Try.prog sfD8 := addS_ok (seeS_ok onT_ok) (addS_ok (seeS_ok chgT_ok) (addS_ok (seeS_ok wriT_ok) (addS_ok (seeS_ok brkT8_ok) (addS_ok (seeS_ok sigT_ok) noSp_ok))))
abbrev acA (a n m : Int) (w : Int) (x : SV) : SV := .agg [.raw (.int .i64 a), .raw (.int .i64 n), .raw (.int .u64 w), .raw (.int .i64 m), x]
abbrev fDh (r : Rg) (a n w m : Int) (f3 : Bool) (bs : List Int) := fnX C18 Try.prog sfD8 noLs (fun _ _ => 20) 10 49 [rA r (.h 0) (.h 1), acA a n m w (.h 2)] (numH 0 [SO.sl true false 77 r.qs, SO.sl true false 5 r.cf, SO.sl (C := C18) false f3 5 bs]) 3
abbrev fDr (r : Rg) (a n w m : Int) (ad : Option Addr) := fnX C18 Try.prog sfD8 noLs (fun _ _ => 20) 10 49 [rA r (.h 0) (.h 1), acA a n m w (.raw (.slice ad 0 0))] (numH 0 [SO.sl true false 77 r.qs, SO.sl (C := C18) true false 5 r.cf]) 2
end
end Go.Proofs.Ytknkemjbikbhgaa
