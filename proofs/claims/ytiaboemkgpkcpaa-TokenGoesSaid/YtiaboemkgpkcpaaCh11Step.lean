/-
  Chapter 11: State and Step as specifications. Own work; nothing here is trusted.
-/
import Derived.Test.YtiaboemkgpkcpaaCh11Fns
namespace Go.Proofs.Ytiaboemkgpkcpaa
open Go Go.Sx Go.RowKit
set_option maxRecDepth 1000000
set_option maxHeartbeats 8000000
set_option linter.unusedVariables false
set_option linter.unusedSimpArgs false
noncomputable section
theorem st_tree (a b : Bool) (ts : List Tk) (e : Tk) : (fP 8 [.agg [hS (some (a, b, ts)) 0], .raw (.int .i64 e.1)] (obT (some (a, b, ts)))).get =
  bro (decide (ts.length ≤ (100000 : Nat))) (bro (okT ts) (bro (decide (ts.length ≤ (100000 : Nat))) (bro (fdB ts e.fst) (bro (inB (bsZ ts e.fst) ts.length) (bro (decide ((bsZ ts e.fst).toNat < ts.length)) (some (SV.raw (Value.int IntKind.i64 (ts.getD (bsZ ts e.fst).toNat tk0).snd.fst), [])) (none)) (none)) (some (SV.raw (Value.int IntKind.i64 (0 : Int)), []))) (none)) (some (SV.raw (Value.int IntKind.i64 (0 : Int)), []))) (none) := by kernel_rfl
theorem sp_tree (a b : Bool) (ts : List Tk) (e : Tk) : (fP 13 [.agg [hS (some (a, b, ts)) 0], evS e] (obT (some (a, b, ts)))).get =
  bro (decide (ts.length ≤ (100000 : Nat))) (bro (okT ts) (bro (!evB (e.fst, e.snd.fst, e.snd.snd)) (some (SV.tup [SV.agg [SV.raw (Value.slice none (0 : Nat) (0 : Nat))], SV.raw (Value.int IntKind.i64 (2 : Int))], [])) (bro (decide (ts.length ≤ (100000 : Nat))) (bro (fdB ts e.snd.fst) (bro (inB (bsZ ts e.snd.fst) ts.length) (bro (decide ((bsZ ts e.snd.fst).toNat < ts.length)) (bro (eqI [(ts.getD (bsZ ts e.snd.fst).toNat tk0).snd.fst, e.fst] (mvE (0 : Nat)).fst) (bro (e.fst == (4 : Int)) (bro ((ts.getD (bsZ ts e.snd.fst).toNat tk0).snd.snd != e.snd.snd) (some (SV.tup [SV.agg [SV.raw (Value.slice none (0 : Nat) (0 : Nat))], SV.raw (Value.int IntKind.i64 (8 : Int))], [])) (bro (roomB (([] : List Tk).length + ts.length) Try.prog.types[(47 : Nat)].bytes) (bro (fdB ts e.snd.fst) (bro (inB (bsZ ts e.snd.fst) (([] : List Tk) ++ ts).length) (bro (decide ((bsZ ts e.snd.fst).toNat < (([] : List Tk) ++ ts).length)) (some (SV.tup [SV.agg [SV.h (1 : Nat)], SV.raw (Value.int IntKind.i64 (0 : Int))], [SO.sl true false (47 : Nat) ((([] : List Tk) ++ ts).set (bsZ ts e.snd.fst).toNat (e.snd.fst, (mvE (0 : Nat)).snd, (0 : Int)))])) (none)) (none)) (bro (decide ((0 : Int) ≤ bsZ ts e.snd.fst ∧ bsZ ts e.snd.fst ≤ (↑(([] : List Tk) ++ ts).length : Int) ∧ (([] : List Tk) ++ ts).length ≤ (100000 : Nat)) && decide ([(e.snd.fst, (mvE (0 : Nat)).snd, (0 : Int))].length = (1 : Nat))) (some (SV.tup [SV.agg [SV.h (1 : Nat)], SV.raw (Value.int IntKind.i64 (0 : Int))], [SO.sl true false (47 : Nat) (insL (([] : List Tk) ++ ts) (bsZ ts e.snd.fst).toNat [(e.snd.fst, (mvE (0 : Nat)).snd, (0 : Int))])])) (none))) (none))) (bro (roomB (([] : List Tk).length + ts.length) Try.prog.types[(47 : Nat)].bytes) (bro (fdB ts e.snd.fst) (bro (inB (bsZ ts e.snd.fst) (([] : List Tk) ++ ts).length) (bro (decide ((bsZ ts e.snd.fst).toNat < (([] : List Tk) ++ ts).length)) (some (SV.tup [SV.agg [SV.h (1 : Nat)], SV.raw (Value.int IntKind.i64 (0 : Int))], [SO.sl true false (47 : Nat) ((([] : List Tk) ++ ts).set (bsZ ts e.snd.fst).toNat (e.snd.fst, (mvE (0 : Nat)).snd, (0 : Int)))])) (none)) (none)) (bro (decide ((0 : Int) ≤ bsZ ts e.snd.fst ∧ bsZ ts e.snd.fst ≤ (↑(([] : List Tk) ++ ts).length : Int) ∧ (([] : List Tk) ++ ts).length ≤ (100000 : Nat)) && decide ([(e.snd.fst, (mvE (0 : Nat)).snd, (0 : Int))].length = (1 : Nat))) (some (SV.tup [SV.agg [SV.h (1 : Nat)], SV.raw (Value.int IntKind.i64 (0 : Int))], [SO.sl true false (47 : Nat) (insL (([] : List Tk) ++ ts) (bsZ ts e.snd.fst).toNat [(e.snd.fst, (mvE (0 : Nat)).snd, (0 : Int))])])) (none))) (none))) (bro (eqI [(ts.getD (bsZ ts e.snd.fst).toNat tk0).snd.fst, e.fst] (mvE (1 : Nat)).fst) (bro (e.fst == (4 : Int)) (bro ((ts.getD (bsZ ts e.snd.fst).toNat tk0).snd.snd != e.snd.snd) (some (SV.tup [SV.agg [SV.raw (Value.slice none (0 : Nat) (0 : Nat))], SV.raw (Value.int IntKind.i64 (8 : Int))], [])) (bro (roomB (([] : List Tk).length + ts.length) Try.prog.types[(47 : Nat)].bytes) (bro (fdB ts e.snd.fst) (bro (inB (bsZ ts e.snd.fst) (([] : List Tk) ++ ts).length) (bro (decide ((bsZ ts e.snd.fst).toNat < (([] : List Tk) ++ ts).length)) (some (SV.tup [SV.agg [SV.h (1 : Nat)], SV.raw (Value.int IntKind.i64 (0 : Int))], [SO.sl true false (47 : Nat) ((([] : List Tk) ++ ts).set (bsZ ts e.snd.fst).toNat (e.snd.fst, (mvE (1 : Nat)).snd, (0 : Int)))])) (none)) (none)) (bro (decide ((0 : Int) ≤ bsZ ts e.snd.fst ∧ bsZ ts e.snd.fst ≤ (↑(([] : List Tk) ++ ts).length : Int) ∧ (([] : List Tk) ++ ts).length ≤ (100000 : Nat)) && decide ([(e.snd.fst, (mvE (1 : Nat)).snd, (0 : Int))].length = (1 : Nat))) (some (SV.tup [SV.agg [SV.h (1 : Nat)], SV.raw (Value.int IntKind.i64 (0 : Int))], [SO.sl true false (47 : Nat) (insL (([] : List Tk) ++ ts) (bsZ ts e.snd.fst).toNat [(e.snd.fst, (mvE (1 : Nat)).snd, (0 : Int))])])) (none))) (none))) (bro (roomB (([] : List Tk).length + ts.length) Try.prog.types[(47 : Nat)].bytes) (bro (fdB ts e.snd.fst) (bro (inB (bsZ ts e.snd.fst) (([] : List Tk) ++ ts).length) (bro (decide ((bsZ ts e.snd.fst).toNat < (([] : List Tk) ++ ts).length)) (some (SV.tup [SV.agg [SV.h (1 : Nat)], SV.raw (Value.int IntKind.i64 (0 : Int))], [SO.sl true false (47 : Nat) ((([] : List Tk) ++ ts).set (bsZ ts e.snd.fst).toNat (e.snd.fst, (mvE (1 : Nat)).snd, (0 : Int)))])) (none)) (none)) (bro (decide ((0 : Int) ≤ bsZ ts e.snd.fst ∧ bsZ ts e.snd.fst ≤ (↑(([] : List Tk) ++ ts).length : Int) ∧ (([] : List Tk) ++ ts).length ≤ (100000 : Nat)) && decide ([(e.snd.fst, (mvE (1 : Nat)).snd, (0 : Int))].length = (1 : Nat))) (some (SV.tup [SV.agg [SV.h (1 : Nat)], SV.raw (Value.int IntKind.i64 (0 : Int))], [SO.sl true false (47 : Nat) (insL (([] : List Tk) ++ ts) (bsZ ts e.snd.fst).toNat [(e.snd.fst, (mvE (1 : Nat)).snd, (0 : Int))])])) (none))) (none))) (bro (eqI [(ts.getD (bsZ ts e.snd.fst).toNat tk0).snd.fst, e.fst] (mvE (2 : Nat)).fst) (bro (e.fst == (4 : Int)) (bro ((ts.getD (bsZ ts e.snd.fst).toNat tk0).snd.snd != e.snd.snd) (some (SV.tup [SV.agg [SV.raw (Value.slice none (0 : Nat) (0 : Nat))], SV.raw (Value.int IntKind.i64 (8 : Int))], [])) (bro (roomB (([] : List Tk).length + ts.length) Try.prog.types[(47 : Nat)].bytes) (bro (fdB ts e.snd.fst) (bro (inB (bsZ ts e.snd.fst) (([] : List Tk) ++ ts).length) (bro (decide ((bsZ ts e.snd.fst).toNat < (([] : List Tk) ++ ts).length)) (some (SV.tup [SV.agg [SV.h (1 : Nat)], SV.raw (Value.int IntKind.i64 (0 : Int))], [SO.sl true false (47 : Nat) ((([] : List Tk) ++ ts).set (bsZ ts e.snd.fst).toNat (e.snd.fst, (mvE (2 : Nat)).snd, e.snd.snd))])) (none)) (none)) (bro (decide ((0 : Int) ≤ bsZ ts e.snd.fst ∧ bsZ ts e.snd.fst ≤ (↑(([] : List Tk) ++ ts).length : Int) ∧ (([] : List Tk) ++ ts).length ≤ (100000 : Nat)) && decide ([(e.snd.fst, (mvE (2 : Nat)).snd, e.snd.snd)].length = (1 : Nat))) (some (SV.tup [SV.agg [SV.h (1 : Nat)], SV.raw (Value.int IntKind.i64 (0 : Int))], [SO.sl true false (47 : Nat) (insL (([] : List Tk) ++ ts) (bsZ ts e.snd.fst).toNat [(e.snd.fst, (mvE (2 : Nat)).snd, e.snd.snd)])])) (none))) (none))) (bro (roomB (([] : List Tk).length + ts.length) Try.prog.types[(47 : Nat)].bytes) (bro (fdB ts e.snd.fst) (bro (inB (bsZ ts e.snd.fst) (([] : List Tk) ++ ts).length) (bro (decide ((bsZ ts e.snd.fst).toNat < (([] : List Tk) ++ ts).length)) (some (SV.tup [SV.agg [SV.h (1 : Nat)], SV.raw (Value.int IntKind.i64 (0 : Int))], [SO.sl true false (47 : Nat) ((([] : List Tk) ++ ts).set (bsZ ts e.snd.fst).toNat (e.snd.fst, (mvE (2 : Nat)).snd, e.snd.snd))])) (none)) (none)) (bro (decide ((0 : Int) ≤ bsZ ts e.snd.fst ∧ bsZ ts e.snd.fst ≤ (↑(([] : List Tk) ++ ts).length : Int) ∧ (([] : List Tk) ++ ts).length ≤ (100000 : Nat)) && decide ([(e.snd.fst, (mvE (2 : Nat)).snd, e.snd.snd)].length = (1 : Nat))) (some (SV.tup [SV.agg [SV.h (1 : Nat)], SV.raw (Value.int IntKind.i64 (0 : Int))], [SO.sl true false (47 : Nat) (insL (([] : List Tk) ++ ts) (bsZ ts e.snd.fst).toNat [(e.snd.fst, (mvE (2 : Nat)).snd, e.snd.snd)])])) (none))) (none))) (bro (eqI [(ts.getD (bsZ ts e.snd.fst).toNat tk0).snd.fst, e.fst] (mvE (3 : Nat)).fst) (bro (e.fst == (4 : Int)) (bro ((ts.getD (bsZ ts e.snd.fst).toNat tk0).snd.snd != e.snd.snd) (some (SV.tup [SV.agg [SV.raw (Value.slice none (0 : Nat) (0 : Nat))], SV.raw (Value.int IntKind.i64 (8 : Int))], [])) (bro (roomB (([] : List Tk).length + ts.length) Try.prog.types[(47 : Nat)].bytes) (bro (inR64 (bsZ ts e.snd.fst + (1 : Int))) (bro (decide ((0 : Int) ≤ bsZ ts e.snd.fst ∧ bsZ ts e.snd.fst < bsZ ts e.snd.fst + (1 : Int) ∧ bsZ ts e.snd.fst + (1 : Int) ≤ (↑(([] : List Tk) ++ ts).length : Int) ∧ (([] : List Tk) ++ ts).length ≤ (100000 : Nat))) (some (SV.tup [SV.agg [SV.h (1 : Nat)], SV.raw (Value.int IntKind.i64 (0 : Int))], [SO.sl true false (47 : Nat) (delL (([] : List Tk) ++ ts) (bsZ ts e.snd.fst).toNat (bsZ ts e.snd.fst + (1 : Int)).toNat)])) (none)) (bro (decide ((0 : Int) ≤ bsZ ts e.snd.fst ∧ bsZ ts e.snd.fst < IntKind.i64.wrap (bsZ ts e.snd.fst + (1 : Int)) ∧ IntKind.i64.wrap (bsZ ts e.snd.fst + (1 : Int)) ≤ (↑(([] : List Tk) ++ ts).length : Int) ∧ (([] : List Tk) ++ ts).length ≤ (100000 : Nat))) (some (SV.tup [SV.agg [SV.h (1 : Nat)], SV.raw (Value.int IntKind.i64 (0 : Int))], [SO.sl true false (47 : Nat) (delL (([] : List Tk) ++ ts) (bsZ ts e.snd.fst).toNat (IntKind.i64.wrap (bsZ ts e.snd.fst + (1 : Int))).toNat)])) (none))) (none))) (bro (roomB (([] : List Tk).length + ts.length) Try.prog.types[(47 : Nat)].bytes) (bro (inR64 (bsZ ts e.snd.fst + (1 : Int))) (bro (decide ((0 : Int) ≤ bsZ ts e.snd.fst ∧ bsZ ts e.snd.fst < bsZ ts e.snd.fst + (1 : Int) ∧ bsZ ts e.snd.fst + (1 : Int) ≤ (↑(([] : List Tk) ++ ts).length : Int) ∧ (([] : List Tk) ++ ts).length ≤ (100000 : Nat))) (some (SV.tup [SV.agg [SV.h (1 : Nat)], SV.raw (Value.int IntKind.i64 (0 : Int))], [SO.sl true false (47 : Nat) (delL (([] : List Tk) ++ ts) (bsZ ts e.snd.fst).toNat (bsZ ts e.snd.fst + (1 : Int)).toNat)])) (none)) (bro (decide ((0 : Int) ≤ bsZ ts e.snd.fst ∧ bsZ ts e.snd.fst < IntKind.i64.wrap (bsZ ts e.snd.fst + (1 : Int)) ∧ IntKind.i64.wrap (bsZ ts e.snd.fst + (1 : Int)) ≤ (↑(([] : List Tk) ++ ts).length : Int) ∧ (([] : List Tk) ++ ts).length ≤ (100000 : Nat))) (some (SV.tup [SV.agg [SV.h (1 : Nat)], SV.raw (Value.int IntKind.i64 (0 : Int))], [SO.sl true false (47 : Nat) (delL (([] : List Tk) ++ ts) (bsZ ts e.snd.fst).toNat (IntKind.i64.wrap (bsZ ts e.snd.fst + (1 : Int))).toNat)])) (none))) (none))) (some (SV.tup [SV.agg [SV.raw (Value.slice none (0 : Nat) (0 : Nat))], SV.raw (Value.int IntKind.i64 (8 : Int))], [])))))) (none)) (none)) (bro (eqI [(0 : Int), e.fst] (mvE (0 : Nat)).fst) (bro (e.fst == (4 : Int)) (bro ((0 : Int) != e.snd.snd) (some (SV.tup [SV.agg [SV.raw (Value.slice none (0 : Nat) (0 : Nat))], SV.raw (Value.int IntKind.i64 (8 : Int))], [])) (bro (roomB (([] : List Tk).length + ts.length) Try.prog.types[(47 : Nat)].bytes) (bro (fdB ts e.snd.fst) (bro (inB (bsZ ts e.snd.fst) (([] : List Tk) ++ ts).length) (bro (decide ((bsZ ts e.snd.fst).toNat < (([] : List Tk) ++ ts).length)) (some (SV.tup [SV.agg [SV.h (1 : Nat)], SV.raw (Value.int IntKind.i64 (0 : Int))], [SO.sl true false (47 : Nat) ((([] : List Tk) ++ ts).set (bsZ ts e.snd.fst).toNat (e.snd.fst, (mvE (0 : Nat)).snd, (0 : Int)))])) (none)) (none)) (bro (decide ((0 : Int) ≤ bsZ ts e.snd.fst ∧ bsZ ts e.snd.fst ≤ (↑(([] : List Tk) ++ ts).length : Int) ∧ (([] : List Tk) ++ ts).length ≤ (100000 : Nat)) && decide ([(e.snd.fst, (mvE (0 : Nat)).snd, (0 : Int))].length = (1 : Nat))) (some (SV.tup [SV.agg [SV.h (1 : Nat)], SV.raw (Value.int IntKind.i64 (0 : Int))], [SO.sl true false (47 : Nat) (insL (([] : List Tk) ++ ts) (bsZ ts e.snd.fst).toNat [(e.snd.fst, (mvE (0 : Nat)).snd, (0 : Int))])])) (none))) (none))) (bro (roomB (([] : List Tk).length + ts.length) Try.prog.types[(47 : Nat)].bytes) (bro (fdB ts e.snd.fst) (bro (inB (bsZ ts e.snd.fst) (([] : List Tk) ++ ts).length) (bro (decide ((bsZ ts e.snd.fst).toNat < (([] : List Tk) ++ ts).length)) (some (SV.tup [SV.agg [SV.h (1 : Nat)], SV.raw (Value.int IntKind.i64 (0 : Int))], [SO.sl true false (47 : Nat) ((([] : List Tk) ++ ts).set (bsZ ts e.snd.fst).toNat (e.snd.fst, (mvE (0 : Nat)).snd, (0 : Int)))])) (none)) (none)) (bro (decide ((0 : Int) ≤ bsZ ts e.snd.fst ∧ bsZ ts e.snd.fst ≤ (↑(([] : List Tk) ++ ts).length : Int) ∧ (([] : List Tk) ++ ts).length ≤ (100000 : Nat)) && decide ([(e.snd.fst, (mvE (0 : Nat)).snd, (0 : Int))].length = (1 : Nat))) (some (SV.tup [SV.agg [SV.h (1 : Nat)], SV.raw (Value.int IntKind.i64 (0 : Int))], [SO.sl true false (47 : Nat) (insL (([] : List Tk) ++ ts) (bsZ ts e.snd.fst).toNat [(e.snd.fst, (mvE (0 : Nat)).snd, (0 : Int))])])) (none))) (none))) (some (SV.tup [SV.agg [SV.raw (Value.slice none (0 : Nat) (0 : Nat))], SV.raw (Value.int IntKind.i64 (8 : Int))], [])))) (none))) (some (SV.tup [SV.agg [SV.raw (Value.slice none (0 : Nat) (0 : Nat))], SV.raw (Value.int IntKind.i64 (2 : Int))], []))) (none) := by kernel_rfl
theorem spn_tree (e : Tk) : (fP 13 [.agg [hS (none : Lo Tk) 0], evS e] []).get =
  bro (!evB (e.fst, e.snd.fst, e.snd.snd)) (some (SV.tup [SV.agg [SV.raw (Value.slice none (0 : Nat) (0 : Nat))], SV.raw (Value.int IntKind.i64 (2 : Int))], [])) (bro (eqI [(0 : Int), e.fst] (mvE (0 : Nat)).fst) (bro (e.fst == (4 : Int)) (bro ((0 : Int) != e.snd.snd) (some (SV.tup [SV.agg [SV.raw (Value.slice none (0 : Nat) (0 : Nat))], SV.raw (Value.int IntKind.i64 (8 : Int))], [])) (some (SV.tup [SV.agg [SV.h (0 : Nat)], SV.raw (Value.int IntKind.i64 (0 : Int))], [SO.sl true false (47 : Nat) [(e.snd.fst, (mvE (0 : Nat)).snd, (0 : Int))]]))) (some (SV.tup [SV.agg [SV.h (0 : Nat)], SV.raw (Value.int IntKind.i64 (0 : Int))], [SO.sl true false (47 : Nat) [(e.snd.fst, (mvE (0 : Nat)).snd, (0 : Int))]]))) (some (SV.tup [SV.agg [SV.raw (Value.slice none (0 : Nat) (0 : Nat))], SV.raw (Value.int IntKind.i64 (8 : Int))], []))) := by kernel_rfl

theorem bytes47 : Try.prog.types[(47 : Nat)].bytes ≤ 1000 := by
  have h : Nat.ble Try.prog.types[(47 : Nat)].bytes 1000 = true := by kernel_rfl
  exact Nat.le_of_ble_eq_true h
theorem roomT {n : Nat} (h : n ≤ 200000) : roomB n Try.prog.types[(47 : Nat)].bytes = true := decide_eq_true (Nat.le_trans (Nat.mul_le_mul h bytes47) (by decide))
/-- What a token was, what an event makes of a list. -/
def was (ts : List Tk) (x : Int) : Int × Int := sel (fdB ts x) (ts.getD (bsZ ts x).toNat tk0).2 (0, 0)
def acT (ts : List Tk) (e : Tk) : Bool := (e.1 == (was ts e.2.1).1 + 1) && (!(e.1 == 4) || (was ts e.2.1).2 == e.2.2)
def nwT (ts : List Tk) (e : Tk) : List Tk := sel (e.1 == 4) (delL ts (bsZ ts e.2.1).toNat ((bsZ ts e.2.1).toNat + 1)) (sel (fdB ts e.2.1) (ts.set (bsZ ts e.2.1).toNat (e.2.1, e.1, sel (e.1 == 3) e.2.2 0)) (insL ts (bsZ ts e.2.1).toNat [(e.2.1, e.1, sel (e.1 == 3) e.2.2 0)]))
theorem bsZ_at (ts : List Tk) (x : Int) : 0 ≤ bsZ ts x ∧ bsZ ts x ≤ (ts.length : Int) := by
  rw [bsZ_eq]
  have := bsI_le (keys ts) x
  rw [keys_len] at this
  omega
theorem fdB_at {ts : List Tk} {x : Int} (h : fdB ts x = true) : bsZ ts x < (ts.length : Int) := by
  unfold fdB at h
  rw [Bool.and_eq_true, decide_eq_true_eq] at h
  rw [bsZ_eq]; exact h.1
theorem fdB_nil (x : Int) : fdB [] x = false := by
  unfold fdB
  rw [decide_eq_false (show ¬ ((bsI (keys []) x : Int) < (([] : List Tk).length : Int)) by simp)]; rfl
theorem eqI2 (a b c d : Int) : Sx.eqI [a, b] [c, d] = decide (a = c ∧ b = d) := by
  rw [Bool.eq_iff_iff, eqI_eq, decide_eq_true_iff]
  simp
theorem mv_e (p : Nat) : (mvE p).1 = [(p : Int), (p : Int) + 1] := rfl
abbrev nlR (c : Int) : Option (SV × List (SO C11)) := some (.tup [.agg [.raw (.slice none 0 0)], .raw (.int .i64 c)], [])
abbrev lsR (n : Nat) (l : List Tk) : Option (SV × List (SO C11)) := some (.tup [.agg [.h n], .raw (.int .i64 0)], [.sl true false 47 l])
theorem step_some (a b : Bool) (ts : List Tk) (e : Tk) (hl : ts.length ≤ 100000) : (fP 13 [.agg [hS (some (a, b, ts)) 0], evS e] (obT (some (a, b, ts)))).get =
    bro (okT ts) (bro (evB e) (bro (acT ts e) (lsR 1 (nwT ts e)) (nlR 8)) (nlR 2)) (nlR 2) := by
  rw [sp_tree]
  have k1 : decide (ts.length ≤ 100000) = true := decide_eq_true hl
  have k2 : roomB (([] : List Tk).length + ts.length) Try.prog.types[(47 : Nat)].bytes = true := roomT (by simp; omega)
  obtain ⟨h0, h1⟩ := bsZ_at ts e.2.1
  obtain ⟨k, t, w⟩ := e
  simp only at h0 h1
  simp only [k1, k2, bro_true, List.nil_append]
  cases hok : okT ts with
  | false => rfl
  | true =>
  cases hev : evB (k, t, w) with
  | false => rfl
  | true =>
  simp only [bro_true, Bool.not_true, bro_false]
  have hk : k = 1 ∨ k = 2 ∨ k = 3 ∨ k = 4 := by
    unfold evB at hev
    simp only [Bool.and_eq_true, decide_eq_true_eq] at hev
    omega
  have k3 : decide ((0 : Int) ≤ bsZ ts t ∧ bsZ ts t ≤ (ts.length : Int) ∧ ts.length ≤ (100000 : Nat)) = true := decide_eq_true ⟨h0, h1, hl⟩
  have k4 : inR64 (bsZ ts t + 1) = true := inR64_mk (by omega)
  have e1 : (bsZ ts t + 1).toNat = (bsZ ts t).toNat + 1 := by omega
  unfold acT nwT was
  cases hf : fdB ts t with
  | true =>
    have hlt := fdB_at hf
    have k5 : Sx.inB (bsZ ts t) ts.length = true := inB_mk ⟨h0, hlt⟩
    have k6 : decide ((bsZ ts t).toNat < ts.length) = true := decide_eq_true (by omega)
    have k7 : decide ((0 : Int) ≤ bsZ ts t ∧ bsZ ts t < bsZ ts t + (1 : Int) ∧ bsZ ts t + (1 : Int) ≤ (ts.length : Int) ∧ ts.length ≤ (100000 : Nat)) = true := decide_eq_true ⟨h0, by omega, by omega, hl⟩
    simp only [hf, k3, k4, k5, k6, k7, e1, bro_true, sel_true, mv_e, eqI2]
    generalize ts.getD (bsZ ts t).toNat tk0 = x
    obtain ⟨x1, s, u⟩ := x
    simp only
    rcases hk with rfl | rfl | rfl | rfl
    · by_cases hs : s = 0
      · subst hs; rfl
      · rw [decide_eq_false (by omega), decide_eq_false (by omega), decide_eq_false (by omega), decide_eq_false (by omega), show ((1 : Int) == s + 1) = false by rw [beq_eq_false_iff_ne]; omega]; rfl
    · by_cases hs : s = 1
      · subst hs; rfl
      · rw [decide_eq_false (by omega), decide_eq_false (by omega), decide_eq_false (by omega), decide_eq_false (by omega), show ((2 : Int) == s + 1) = false by rw [beq_eq_false_iff_ne]; omega]; rfl
    · by_cases hs : s = 2
      · subst hs; rfl
      · rw [decide_eq_false (by omega), decide_eq_false (by omega), decide_eq_false (by omega), decide_eq_false (by omega), show ((3 : Int) == s + 1) = false by rw [beq_eq_false_iff_ne]; omega]; rfl
    · by_cases hs : s = 3
      · subst hs
        show bro (u != w) (nlR 8) _ = bro (u == w) _ _
        by_cases hu : u = w
        · subst hu; rw [bne_self_eq_false, beq_self_eq_true]; rfl
        · rw [bne_iff_ne.2 hu, beq_eq_false_iff_ne.2 hu]; rfl
      · rw [decide_eq_false (by omega), decide_eq_false (by omega), decide_eq_false (by omega), decide_eq_false (by omega), show ((4 : Int) == s + 1) = false by rw [beq_eq_false_iff_ne]; omega]; rfl
  | false =>
    simp only [hf, k3, bro_true, bro_false, sel_false, mv_e, eqI2]
    rcases hk with rfl | rfl | rfl | rfl <;> rfl
theorem step_none (e : Tk) : (fP 13 [.agg [hS (none : Lo Tk) 0], evS e] []).get = bro (evB e) (bro (acT [] e) (lsR 0 (nwT [] e)) (nlR 8)) (nlR 2) := by
  rw [spn_tree]
  obtain ⟨k, t, w⟩ := e
  cases hev : evB (k, t, w) with
  | false => rfl
  | true =>
  simp only [bro_true, Bool.not_true, bro_false]
  have hk : k = 1 ∨ k = 2 ∨ k = 3 ∨ k = 4 := by
    unfold evB at hev
    simp only [Bool.and_eq_true, decide_eq_true_eq] at hev
    omega
  unfold acT nwT was
  simp only [fdB_nil, sel_false, mv_e, eqI2]
  rcases hk with rfl | rfl | rfl | rfl <;> rfl
def stepT : FnF C11 := fun args os => onT args os fun ts n r => match r with
  | [.agg [.raw (.int .i64 k), .raw (.int .i64 t), .raw (.int .u32 w)]] => .br (decide (ts.length ≤ 100000)) (.br (okT ts) (.br (evB (k, t, w)) (.br (acT ts (k, t, w)) (.leaf (.tup [.agg [.h n], .raw (.int .i64 0)], [.sl true false 47 (nwT ts (k, t, w))])) (.leaf (.tup [.agg [.raw (.slice none 0 0)], .raw (.int .i64 8)], [])))
      (.leaf (.tup [.agg [.raw (.slice none 0 0)], .raw (.int .i64 2)], []))) (.leaf (.tup [.agg [.raw (.slice none 0 0)], .raw (.int .i64 2)], []))) .fail
  | _ => .fail
theorem get_bro {α : Type} (c : Bool) (t f : Tr α) : (Tr.br c t f).get = bro c t.get f.get := by cases c <;> rfl
theorem okT_nil : okT [] = true := by kernel_rfl
theorem stepT_ok : ∀ args os r, (stepT args os).get = some r → Fn0 Try.prog 13 args os r := fun args os r h => by
  obtain ⟨v, a, rfl, rfl, h1⟩ := onT_eq h
  clear h
  split at h1
  · rename_i k t w
    obtain ⟨hl, h2⟩ := Tr.get_ask.1 h1
    have hl : (lo v).length ≤ 100000 := of_decide_eq_true hl
    refine fnC_ok (sp := sfP) (ls := lsB) (unr := unB) (d := 10) plain mixed sfP_ok lsB_ok (Eq.trans ?_ h2)
    simp only [get_bro]
    cases v with
    | none => rw [show okT (lo none) = true from okT_nil, bro_true]; exact step_none (k, t, w)
    | some y => obtain ⟨a, b, ts⟩ := y; exact step_some a b ts (k, t, w) hl
  · cases h1
/-- A token's state. -/
def stA (ts : List Tk) (x : Int) : Int := sel (okT ts) (was ts x).1 0
def stateT : FnF C11 := fun args os => onT args os fun ts _ r => match r with
  | [.raw (.int .i64 x)] => .br (decide (ts.length ≤ 100000)) (.leaf (.raw (.int .i64 (stA ts x)), [])) .fail
  | _ => .fail
theorem stateT_ok : ∀ args os r, (stateT args os).get = some r → Fn0 Try.prog 8 args os r := fun args os r h => by
  obtain ⟨v, a, rfl, rfl, h1⟩ := onT_eq h
  clear h
  split at h1
  · rename_i x
    obtain ⟨hl, h2⟩ := Tr.get_ask.1 h1
    refine fnC_ok (sp := sfP) (ls := lsB) (unr := unB) (d := 10) plain mixed sfP_ok lsB_ok (Eq.trans ?_ h2)
    show _ = some (SV.raw (.int .i64 (stA (lo v) x)), [])
    cases v with
    | none =>
      have h3 : (fP 8 [.agg [hS (none : Lo Tk) 0], .raw (.int .i64 x)] (obT none)).get = some (SV.raw (.int .i64 0), []) := by kernel_rfl
      refine h3.trans ?_
      unfold stA was
      rw [show okT (lo none) = true from okT_nil, show fdB (lo none) x = false from fdB_nil x]; rfl
    | some y =>
      obtain ⟨a, b, ts⟩ := y
      have hT := st_tree a b ts (x, 0, 0)
      have hl' : decide (ts.length ≤ 100000) = true := hl
      simp only [hl', bro_true] at hT
      refine hT.trans ?_
      show _ = some (SV.raw (.int .i64 (stA ts x)), [])
      unfold stA was
      cases hok : okT ts with
      | false => rfl
      | true =>
        cases hf : fdB ts x with
        | false => rfl
        | true =>
          obtain ⟨h0, _⟩ := bsZ_at ts x
          have hlt := fdB_at hf
          rw [show Sx.inB (bsZ ts x) ts.length = true from inB_mk ⟨h0, hlt⟩, show decide ((bsZ ts x).toNat < ts.length) = true from decide_eq_true (by omega)]
          rfl
  · cases h1
end
end Go.Proofs.Ytiaboemkgpkcpaa
