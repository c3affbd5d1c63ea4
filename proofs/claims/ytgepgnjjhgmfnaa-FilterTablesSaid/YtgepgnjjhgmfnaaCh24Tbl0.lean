/-
  Chapter 24: FilterTables, the code of its piece. Own work; nothing here is trusted.
-/
import Derived.Test.YtgepgnjjhgmfnaaCh24Tab
import Derived.Test.YtgepgnjjhgmfnaaSxC
namespace Go.Proofs.Ytgepgnjjhgmfnaa
open Go Go.Sx Go.RowKit
set_option maxRecDepth 1000000
set_option maxHeartbeats 8000000
set_option linter.unusedVariables false
noncomputable section
/-- The piece of a function that begins with a region. -/
noncomputable def seqOf (P : Program) (g id : Nat) : Option (Nat × Code) := match P.funcs[g]? with
  | some fn => match fn.body with
    | some c => match pickL id (sqs c) with
      | [s] => some (fn.ntmps, s)
      | _ => none
    | none => none
  | none => none
noncomputable def tbl : Code := (seqOf Try.prog 6 7).get!.2
noncomputable def tb1 : Code := (seqOf Try.prog 6 8).get!.2
/-- A region's operations. -/
noncomputable def opsIn (k : Nat) : Code → Option (Array Oper)
  | .seq a b => match opsIn k a with
    | some o => some o
    | none => opsIn k b
  | .block _ c => opsIn k c
  | .loop c => opsIn k c
  | .cond _ a b => match opsIn k a with
    | some o => some o
    | none => opsIn k b
  | .region i o _ => match Nat.beq i k with
    | true => some o
    | false => none
  | _ => none
noncomputable def r14 : Array Oper := (opsIn 14 tb1).get!
end
end Go.Proofs.Ytgepgnjjhgmfnaa
