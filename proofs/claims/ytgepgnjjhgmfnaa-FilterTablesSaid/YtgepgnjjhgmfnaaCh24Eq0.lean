/-
  Chapter 24: loops that compare two lists, states. Own work; nothing here is trusted.
-/
import Derived.Test.YtgepgnjjhgmfnaaCh24Fns
namespace Go.Proofs.Ytgepgnjjhgmfnaa
open Go Go.Sx Go.RowKit
set_option maxRecDepth 1000000
set_option maxHeartbeats 8000000
set_option linter.unusedVariables false
noncomputable section
@[reducible] def qA (v w : Lo Int) (K : Int) : List SV × List (SO C24) := ([hS v 0, hS w (nx v 0), .raw (.int .i64 K), .raw (.bool false)], obI v ++ obI w)
@[reducible] def qB (v w : Lo Int) (K : Int) : List SV × List (SO C24) := ([hS v 0, hS w (nx v 0), .raw (.int .i64 ((lo v).length : Int)), .raw (.int .i64 K), .raw (.bool false)], obI v ++ obI w)
@[reducible] def qC (v w : Lo Mac) (K : Int) : List SV × List (SO C24) := ([hS v 0, hS w (nx v 0), .raw (.int .i64 K), .raw (.bool false)], obM v ++ obM w)
@[reducible] def qD (v w : Lo Mac) (K : Int) : List SV × List (SO C24) := ([hS v 0, hS w (nx v 0), .raw (.int .i64 ((lo v).length : Int)), .raw (.int .i64 K), .raw (.bool false)], obM v ++ obM w)
abbrev rA (v w : Lo Int) (K : Int) := roundG C24 Try.prog noSp noLs (fun _ _ => 20) 10 23 0 [0, 1, 5, 4] ⟨(qA v w K).1, nx w (nx v 0), (qA v w K).2⟩
abbrev rB (v w : Lo Int) (K : Int) := roundG C24 Try.prog noSp noLs (fun _ _ => 20) 10 46 0 [0, 1, 12, 13, 4] ⟨(qB v w K).1, nx w (nx v 0), (qB v w K).2⟩
abbrev rC (v w : Lo Mac) (K : Int) := roundG C24 Try.prog noSp noLs (fun _ _ => 20) 10 25 0 [0, 1, 5, 4] ⟨(qC v w K).1, nx w (nx v 0), (qC v w K).2⟩
abbrev rD (v w : Lo Mac) (K : Int) := roundG C24 Try.prog noSp noLs (fun _ _ => 20) 10 45 0 [0, 1, 12, 13, 4] ⟨(qD v w K).1, nx w (nx v 0), (qD v w K).2⟩
end
end Go.Proofs.Ytgepgnjjhgmfnaa
