/-
  Chapter 11: TokenGoes' loop over a map, its code. Own work; nothing here is trusted.
-/
import Derived.Test.YtiaboemkgpkcpaaCh11Law
import Derived.Test.YtiaboemkgpkcpaaSxC
namespace Go.Proofs.Ytiaboemkgpkcpaa
open Go Go.Sx Go.RowKit
set_option maxRecDepth 1000000
set_option maxHeartbeats 8000000
set_option linter.unusedVariables false
set_option linter.unusedSimpArgs false
noncomputable section
/-- The piece of a function that begins with a region. -/
noncomputable def seqOf (P : Program) (g id : Nat) : Option (Nat × Code) := match P.funcs[g]? with
  | some fn => match fn.body with
    | some c => match pickL id (sqs c) with
      | [s] => some (fn.ntmps, s)
      | _ => none
    | none => none
  | none => none
noncomputable def rng : Code := (seqOf Try.prog 3 27).get!.2
noncomputable def ops1 : Array Oper := match rng with | .seq (.region _ o _) _ => o | _ => #[]
noncomputable def ops2 : Array Oper := match rng with | .seq _ (.block _ (.loop (.seq (.region _ o _) _))) => o | _ => #[]
noncomputable def ops3 : Array Oper := match rng with | .seq _ (.block _ (.loop (.seq _ (.seq _ (.block _ (.seq (.region _ o _) _)))))) => o | _ => #[]
noncomputable def body3 : Code := match rng with | .seq _ (.block _ (.loop (.seq _ (.seq _ (.block _ (.seq _ c)))))) => c | _ => .skip
theorem rng_eq : seqOf Try.prog 3 27 = some (207, .seq (.region 27 ops1 false) (.block 2 (.loop (.seq (.region 28 ops2 false) (.seq (.cond (.tmp 170) .skip (.exit 2)) (.block 3 (.seq (.region 29 ops3 false) body3))))))) := by kernel_rfl
theorem ops1_eq : ops1.toList = [ops1[0]!, ops1[1]!] := by kernel_rfl
theorem ops2_eq : ops2.toList = [ops2[0]!, ops2[1]!] := by kernel_rfl
theorem ops3_eq : ops3.toList = [ops3[0]!, ops3[1]!, ops3[2]!, ops3[3]!, ops3[4]!] := by kernel_rfl
theorem op10 : (ops1[0]!).op = .move (.tmp 7) ∧ (ops1[0]!).dst = some 167 ∧ (ops1[0]!).guard = none := by refine ⟨?_, ?_, ?_⟩ <;> kernel_rfl
theorem op11 : (ops1[1]!).op = .range 30 (.tmp 167) ∧ (ops1[1]!).dst = some 168 ∧ (ops1[1]!).guard = none := by refine ⟨?_, ?_, ?_⟩ <;> kernel_rfl
theorem op20 : (ops2[0]!).op = .next (.tmp 168) false ∧ (ops2[0]!).dst = some 169 ∧ (ops2[0]!).guard = none := by refine ⟨?_, ?_, ?_⟩ <;> kernel_rfl
theorem op21 : (ops2[1]!).op = .extract (.tmp 169) 0 ∧ (ops2[1]!).dst = some 170 ∧ (ops2[1]!).guard = none := by refine ⟨?_, ?_, ?_⟩ <;> kernel_rfl
theorem op30 : (ops3[0]!).op = .entry (.tmp 168) ∧ (ops3[0]!).dst = some 171 ∧ (ops3[0]!).guard = none := by refine ⟨?_, ?_, ?_⟩ <;> kernel_rfl
theorem op31 : (ops3[1]!).op = .extract (.tmp 171) 0 ∧ (ops3[1]!).dst = some 172 ∧ (ops3[1]!).guard = none := by refine ⟨?_, ?_, ?_⟩ <;> kernel_rfl
theorem op32 : (ops3[2]!).op = .extract (.tmp 171) 1 ∧ (ops3[2]!).dst = some 173 ∧ (ops3[2]!).guard = none := by refine ⟨?_, ?_, ?_⟩ <;> kernel_rfl
theorem op33 : (ops3[3]!).op = .assign (.tmp 172) ∧ (ops3[3]!).dst = some 14 ∧ (ops3[3]!).guard = none := by refine ⟨?_, ?_, ?_⟩ <;> kernel_rfl
theorem op34 : (ops3[4]!).op = .assign (.tmp 173) ∧ (ops3[4]!).dst = some 15 ∧ (ops3[4]!).guard = none := by refine ⟨?_, ?_, ?_⟩ <;> kernel_rfl
theorem lps3 : lps 0 body3 = [] := by kernel_rfl
theorem map30 : Try.prog.underlying 30 = some (.map 3 3) := by kernel_rfl
section ops
variable {P : Program} {a : Act} {w w' : World} {o : Oper} {r : List Oper} {all : Array Oper} {Q : Exit → Act → World → Prop} {next : Act → World → Prop}
theorem wpl_cons (hg : o.guard = none) (h : o.wp P a w (wpList P all Q r) Q) : wpList P all Q (o :: r) a w := by
  unfold wpList
  rw [if_pos (by simp [Region.wanted, hg])]
  exact .inl h
theorem oper_value {v : Value} (h : (execOp a.eval o).run P w = .ok (.value v) w') (hk : next (a.put o.dst v) w') : o.wp P a w next Q := by
  unfold Oper.wp
  rw [h]
  exact hk
theorem ex_move {x : Operand} (h : o.op = .move x) : (execOp a.eval o).run P w = .ok (.value (a.eval x)) w := by simp [execOp, h]
theorem ex_assign {x : Operand} (h : o.op = .assign x) : (execOp a.eval o).run P w = .ok (.value (a.eval x)) w := by simp [execOp, h]
theorem ex_range {t : TypeId} {x : Operand} {v : Value} (h : o.op = .range t x) (hr : (Instr.range t (a.eval x)).run P w = .ok v w') : (execOp a.eval o).run P w = .ok (.value v) w' := by simp [execOp, h, hr]
theorem ex_next {x : Operand} {b : Bool} {v : Value} (h : o.op = .next x b) (hr : (Instr.next (a.eval x) b o.type).run P w = .ok v w') : (execOp a.eval o).run P w = .ok (.value v) w' := by simp [execOp, h, hr]
theorem ex_entry {x : Operand} {v : Value} (h : o.op = .entry x) (hr : (Instr.entry (a.eval x)).run P w = .ok v w') : (execOp a.eval o).run P w = .ok (.value v) w' := by simp [execOp, h, hr]
theorem ex_extract {x : Operand} {i : Nat} {vs : Array Value} {v : Value} (h : o.op = .extract x i) (hx : a.eval x = .tuple vs) (hv : vs[i]? = some v) : (execOp a.eval o).run P w = .ok (.value v) w := by simp [execOp, h, hx, Instr.extract, hv]
end ops
end
end Go.Proofs.Ytiaboemkgpkcpaa
