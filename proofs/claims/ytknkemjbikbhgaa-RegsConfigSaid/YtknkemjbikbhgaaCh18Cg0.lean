/-
  Chapter 18: RegsConfig, its outer loop: states. Own work; nothing here is trusted.
-/
import Derived.Test.YtknkemjbikbhgaaCh18Cfg
namespace Go.Proofs.Ytknkemjbikbhgaa
open Go Go.Sx Go.RowKit
set_option maxRecDepth 1000000
set_option maxHeartbeats 8000000
set_option linter.unusedVariables false
set_option linter.unusedSimpArgs false
noncomputable section
def sfG8 : SpecT C18 := addS 17 (seeS pickT8) (addS 44 (seeS redT) noSp)
theorem sfG8_ok : SpecTOk Try.prog sfG8 := addS_ok (seeS_ok pickT8_ok) (addS_ok (seeS_ok redT_ok) noSp_ok)
def lsG8 : LoopT C18 := Sx.addL 11 2 (loopS cSl8 [] c8Loop) noLs
theorem lsG8_ok : LoopTOk Try.prog lsG8 := addL_ok c8_loop c8Loop_ok noLs_ok
abbrev gSl8 : List Nat := [0, 1, 2, 7, 11, 12, 13, 14, 6, 9, 10]
abbrev unV8 (g b : Nat) : Nat := match g, b with
  | 11, 2 => 0 | _, _ => 20
abbrev gvv0 (fc : Bool) (cfg : List Int) (fb : Bool) (bt : List Int) (l : List Wt) (ws : List Int) (gn : Int) (r : Rg) (k c i : Int) : List SV × List (SO C18) := ([.h 0, .h 1, .h 2, .h 3, nlS, .raw (.int .i64 k), .raw (.int .i64 c), .raw (.int .i64 i), .raw (.bool false), .h 4, .raw (.int .u64 gn)], [.sl false fc 5 cfg, .sl false fb 3 bt, .ss 71 4 5 l, rB r (.h 5) (.h 6), .sl true false 5 ws, .sl true false 77 r.qs, .sl true false 5 r.cf])
abbrev gvv1 (fc : Bool) (cfg : List Int) (fb : Bool) (bt : List Int) (l : List Wt) (ws : List Int) (gn : Int) (r : Rg) (got : List Int) (k c i : Int) : List SV × List (SO C18) := ([.h 0, .h 1, .h 2, .h 3, .h 7, .raw (.int .i64 k), .raw (.int .i64 c), .raw (.int .i64 i), .raw (.bool false), .h 4, .raw (.int .u64 gn)], [.sl false fc 5 cfg, .sl false fb 3 bt, .ss 71 4 5 l, rB r (.h 5) (.h 6), .sl true false 5 ws, .sl true false 77 r.qs, .sl true false 5 r.cf, .sl true false 5 got])
abbrev gvv2 (fc : Bool) (cfg : List Int) (fb : Bool) (bt : List Int) (l : List Wt) (ws : List Int) (gn : Int) (r : Rg) (x : Rg) (got : List Int) (k c i : Int) : List SV × List (SO C18) := ([.h 0, .h 1, .h 2, .h 3, .h 7, .raw (.int .i64 k), .raw (.int .i64 c), .raw (.int .i64 i), .raw (.bool false), .h 4, .raw (.int .u64 gn)], [.sl false fc 5 cfg, .sl false fb 3 bt, .ss 71 4 5 l, rB x (.h 8) (.h 9), .sl true false 5 ws, .sl true false 77 r.qs, .sl true false 5 r.cf, .sl true false 5 got, .sl true false 77 x.qs, .sl true false 5 x.cf])
abbrev gvvR (s : List SV × List (SO C18)) := roundG C18 Try.prog sfG8 lsG8 unV8 10 11 0 gSl8 ⟨s.1, 7, s.2⟩
abbrev gnv0 (fc : Bool) (cfg : List Int) (l : List Wt) (ws : List Int) (gn : Int) (r : Rg) (k c i : Int) : List SV × List (SO C18) := ([.h 0, nlS, .h 1, .h 2, nlS, .raw (.int .i64 k), .raw (.int .i64 c), .raw (.int .i64 i), .raw (.bool false), .h 3, .raw (.int .u64 gn)], [.sl false fc 5 cfg, .ss 71 4 5 l, rB r (.h 4) (.h 5), .sl true false 5 ws, .sl true false 77 r.qs, .sl true false 5 r.cf])
abbrev gnv1 (fc : Bool) (cfg : List Int) (l : List Wt) (ws : List Int) (gn : Int) (r : Rg) (got : List Int) (k c i : Int) : List SV × List (SO C18) := ([.h 0, nlS, .h 1, .h 2, .h 6, .raw (.int .i64 k), .raw (.int .i64 c), .raw (.int .i64 i), .raw (.bool false), .h 3, .raw (.int .u64 gn)], [.sl false fc 5 cfg, .ss 71 4 5 l, rB r (.h 4) (.h 5), .sl true false 5 ws, .sl true false 77 r.qs, .sl true false 5 r.cf, .sl true false 5 got])
abbrev gnvR (s : List SV × List (SO C18)) := roundG C18 Try.prog sfG8 lsG8 unV8 10 11 0 gSl8 ⟨s.1, 6, s.2⟩
abbrev gvn0 (fc : Bool) (cfg : List Int) (fb : Bool) (bt : List Int) (ws : List Int) (gn : Int) (r : Rg) (k c i : Int) : List SV × List (SO C18) := ([.h 0, .h 1, nlS, .h 2, nlS, .raw (.int .i64 k), .raw (.int .i64 c), .raw (.int .i64 i), .raw (.bool false), .h 3, .raw (.int .u64 gn)], [.sl false fc 5 cfg, .sl false fb 3 bt, rB r (.h 4) (.h 5), .sl true false 5 ws, .sl true false 77 r.qs, .sl true false 5 r.cf])
abbrev gvn1 (fc : Bool) (cfg : List Int) (fb : Bool) (bt : List Int) (ws : List Int) (gn : Int) (r : Rg) (got : List Int) (k c i : Int) : List SV × List (SO C18) := ([.h 0, .h 1, nlS, .h 2, .h 6, .raw (.int .i64 k), .raw (.int .i64 c), .raw (.int .i64 i), .raw (.bool false), .h 3, .raw (.int .u64 gn)], [.sl false fc 5 cfg, .sl false fb 3 bt, rB r (.h 4) (.h 5), .sl true false 5 ws, .sl true false 77 r.qs, .sl true false 5 r.cf, .sl true false 5 got])
abbrev gvnR (s : List SV × List (SO C18)) := roundG C18 Try.prog sfG8 lsG8 (fun _ _ => 20) 10 11 0 gSl8 ⟨s.1, 6, s.2⟩
abbrev gnn0 (fc : Bool) (cfg : List Int) (ws : List Int) (gn : Int) (r : Rg) (k c i : Int) : List SV × List (SO C18) := ([.h 0, nlS, nlS, .h 1, nlS, .raw (.int .i64 k), .raw (.int .i64 c), .raw (.int .i64 i), .raw (.bool false), .h 2, .raw (.int .u64 gn)], [.sl false fc 5 cfg, rB r (.h 3) (.h 4), .sl true false 5 ws, .sl true false 77 r.qs, .sl true false 5 r.cf])
abbrev gnn1 (fc : Bool) (cfg : List Int) (ws : List Int) (gn : Int) (r : Rg) (got : List Int) (k c i : Int) : List SV × List (SO C18) := ([.h 0, nlS, nlS, .h 1, .h 5, .raw (.int .i64 k), .raw (.int .i64 c), .raw (.int .i64 i), .raw (.bool false), .h 2, .raw (.int .u64 gn)], [.sl false fc 5 cfg, rB r (.h 3) (.h 4), .sl true false 5 ws, .sl true false 77 r.qs, .sl true false 5 r.cf, .sl true false 5 got])
abbrev gnnR (s : List SV × List (SO C18)) := roundG C18 Try.prog sfG8 lsG8 (fun _ _ => 20) 10 11 0 gSl8 ⟨s.1, 5, s.2⟩
end
end Go.Proofs.Ytknkemjbikbhgaa
