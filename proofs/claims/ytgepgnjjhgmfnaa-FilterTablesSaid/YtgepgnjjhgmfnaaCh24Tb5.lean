/-
  Chapter 24: FilterTables, its loop over the map, and its end: states. Own work; nothing here is trusted.
-/
import Derived.Test.YtgepgnjjhgmfnaaCh24Tb4
namespace Go.Proofs.Ytgepgnjjhgmfnaa
open Go Go.Sx Go.RowKit
set_option maxRecDepth 1000000
set_option maxHeartbeats 8000000
set_option linter.unusedVariables false
set_option linter.unusedSimpArgs false
noncomputable section
abbrev sl4 : List Nat := [7, 2, 5, 14, 15]
@[reducible] def naV (k n : Int) : List SV := [.h 0, .h 1, .h 2, .raw (.int .i64 k), .raw (.int .i64 n)]
@[reducible] def naO (F : Fr) (G : Fv) (m : List (Int × Bool)) : List (SO C24) := .mp .i64 4 m :: .box (frC F) 26 :: .box (fltC G 3) 26 :: fltO G
abbrev naR (F : Fr) (G : Fv) (m : List (Int × Bool)) (k n : Int) := pieceL C24 Try.prog sfT2 noLs (fun _ _ => 20) 10 6 167 cdN sl4 sl4 ⟨naV k n, 0, naO F G m⟩
@[reducible] def zeV (k : Int) : List SV := [.h 1, .h 2, .raw (.int .i64 k)]
@[reducible] def zeO (F0 : Mac) (fp fq : Bool) (o g : Lo Mac) (s : Sv) (G : Fv) (m : List (Int × Bool)) : List (SO C24) := .mp .i64 4 m :: .box (fltL F0 fp fq (hS o (fltN G 3)) (hS g (nx o (fltN G 3))) (.raw (svV s))) 26 :: .box (fltC G 3) 26 :: (fltO G ++ (obM o ++ obM g))
abbrev zeR (F0 : Mac) (fp fq : Bool) (o g : Lo Mac) (s : Sv) (G : Fv) (m : List (Int × Bool)) (k : Int) := pieceL C24 Try.prog sfT2 noLs (fun _ _ => 20) 10 6 167 (.region 32 (opsOf 32) false) [2, 5, 14] [4] ⟨zeV k, 0, zeO F0 fp fq o g s G m⟩
end
end Go.Proofs.Ytgepgnjjhgmfnaa
