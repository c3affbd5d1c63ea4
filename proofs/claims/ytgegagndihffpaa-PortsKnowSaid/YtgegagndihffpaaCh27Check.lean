/-
  Chapter 27: Check. Own work; nothing here is trusted.
-/
import Derived.Test.YtgegagndihffpaaCh27Plain
namespace Go.Proofs.Ytgegagndihffpaa
open Go Go.Sx Go.RowKit
set_option maxRecDepth 1000000
set_option maxHeartbeats 8000000
set_option linter.unusedVariables false
set_option linter.unusedSimpArgs false
noncomputable section
theorem k_tree (own full : Bool) (most : Int) (rdy : Bool) (ts : List Pt) (k : Int) : (kRound own full most rdy ts k).get =
  bro (decide (k < (↑ts.length : Int))) (bro (inB k ts.length) (bro (decide (k.toNat < ts.length)) (bro (decide ((elP ts k).fst < (0 : Int))) (some (Ex.ret, [SV.h (0 : Nat), SV.h (1 : Nat), SV.raw (Value.int IntKind.i64 (↑ts.length : Int)), SV.raw (Value.int IntKind.i64 k), SV.raw (Value.int IntKind.i64 (2 : Int))], [SO.box [SV.raw (Value.int IntKind.i64 most), SV.raw (Value.bool rdy), SV.h (1 : Nat)] (27 : Nat), SO.sl own full (46 : Nat) ts])) (bro (decide (most ≤ (elP ts k).fst)) (some (Ex.ret, [SV.h (0 : Nat), SV.h (1 : Nat), SV.raw (Value.int IntKind.i64 (↑ts.length : Int)), SV.raw (Value.int IntKind.i64 k), SV.raw (Value.int IntKind.i64 (2 : Int))], [SO.box [SV.raw (Value.int IntKind.i64 most), SV.raw (Value.bool rdy), SV.h (1 : Nat)] (27 : Nat), SO.sl own full (46 : Nat) ts])) (bro (decide ((0 : Int) < k)) (bro (inR64 (k - (1 : Int))) (bro (inB (k - (1 : Int)) ts.length) (bro (decide ((k - (1 : Int)).toNat < ts.length)) (bro (decide ((elP ts k).fst ≤ (elP ts (k - 1)).fst)) (some (Ex.ret, [SV.h (0 : Nat), SV.h (1 : Nat), SV.raw (Value.int IntKind.i64 (↑ts.length : Int)), SV.raw (Value.int IntKind.i64 k), SV.raw (Value.int IntKind.i64 (2 : Int))], [SO.box [SV.raw (Value.int IntKind.i64 most), SV.raw (Value.bool rdy), SV.h (1 : Nat)] (27 : Nat), SO.sl own full (46 : Nat) ts])) (bro (decide ((64 : Int) < (↑(elP ts k).snd.fst.size : Int))) (some (Ex.ret, [SV.h (0 : Nat), SV.h (1 : Nat), SV.raw (Value.int IntKind.i64 (↑ts.length : Int)), SV.raw (Value.int IntKind.i64 k), SV.raw (Value.int IntKind.i64 (2 : Int))], [SO.box [SV.raw (Value.int IntKind.i64 most), SV.raw (Value.bool rdy), SV.h (1 : Nat)] (27 : Nat), SO.sl own full (46 : Nat) ts])) (bro ((elP ts k).snd.snd.snd.snd.snd) (bro (!rdy) (some (Ex.ret, [SV.h (0 : Nat), SV.h (1 : Nat), SV.raw (Value.int IntKind.i64 (↑ts.length : Int)), SV.raw (Value.int IntKind.i64 k), SV.raw (Value.int IntKind.i64 (2 : Int))], [SO.box [SV.raw (Value.int IntKind.i64 most), SV.raw (Value.bool rdy), SV.h (1 : Nat)] (27 : Nat), SO.sl own full (46 : Nat) ts])) (bro ((elP ts k).snd.snd.snd.snd.fst) (bro (!(elP ts k).snd.snd.snd.snd.snd) (some (Ex.ret, [SV.h (0 : Nat), SV.h (1 : Nat), SV.raw (Value.int IntKind.i64 (↑ts.length : Int)), SV.raw (Value.int IntKind.i64 k), SV.raw (Value.int IntKind.i64 (2 : Int))], [SO.box [SV.raw (Value.int IntKind.i64 most), SV.raw (Value.bool rdy), SV.h (1 : Nat)] (27 : Nat), SO.sl own full (46 : Nat) ts])) (bro (inR64 (k + (1 : Int))) (some (Ex.normal, [SV.h (0 : Nat), SV.h (1 : Nat), SV.raw (Value.int IntKind.i64 (↑ts.length : Int)), SV.raw (Value.int IntKind.i64 (k + (1 : Int))), SV.raw (Value.int IntKind.i64 (0 : Int))], [SO.box [SV.raw (Value.int IntKind.i64 most), SV.raw (Value.bool rdy), SV.h (1 : Nat)] (27 : Nat), SO.sl own full (46 : Nat) ts])) (some (Ex.normal, [SV.h (0 : Nat), SV.h (1 : Nat), SV.raw (Value.int IntKind.i64 (↑ts.length : Int)), SV.raw (Value.int IntKind.i64 (IntKind.i64.wrap (k + (1 : Int)))), SV.raw (Value.int IntKind.i64 (0 : Int))], [SO.box [SV.raw (Value.int IntKind.i64 most), SV.raw (Value.bool rdy), SV.h (1 : Nat)] (27 : Nat), SO.sl own full (46 : Nat) ts])))) (bro (inR64 (k + (1 : Int))) (some (Ex.normal, [SV.h (0 : Nat), SV.h (1 : Nat), SV.raw (Value.int IntKind.i64 (↑ts.length : Int)), SV.raw (Value.int IntKind.i64 (k + (1 : Int))), SV.raw (Value.int IntKind.i64 (0 : Int))], [SO.box [SV.raw (Value.int IntKind.i64 most), SV.raw (Value.bool rdy), SV.h (1 : Nat)] (27 : Nat), SO.sl own full (46 : Nat) ts])) (some (Ex.normal, [SV.h (0 : Nat), SV.h (1 : Nat), SV.raw (Value.int IntKind.i64 (↑ts.length : Int)), SV.raw (Value.int IntKind.i64 (IntKind.i64.wrap (k + (1 : Int)))), SV.raw (Value.int IntKind.i64 (0 : Int))], [SO.box [SV.raw (Value.int IntKind.i64 most), SV.raw (Value.bool rdy), SV.h (1 : Nat)] (27 : Nat), SO.sl own full (46 : Nat) ts]))))) (bro ((elP ts k).snd.snd.snd.snd.fst) (bro (!(elP ts k).snd.snd.snd.snd.snd) (some (Ex.ret, [SV.h (0 : Nat), SV.h (1 : Nat), SV.raw (Value.int IntKind.i64 (↑ts.length : Int)), SV.raw (Value.int IntKind.i64 k), SV.raw (Value.int IntKind.i64 (2 : Int))], [SO.box [SV.raw (Value.int IntKind.i64 most), SV.raw (Value.bool rdy), SV.h (1 : Nat)] (27 : Nat), SO.sl own full (46 : Nat) ts])) (bro (inR64 (k + (1 : Int))) (some (Ex.normal, [SV.h (0 : Nat), SV.h (1 : Nat), SV.raw (Value.int IntKind.i64 (↑ts.length : Int)), SV.raw (Value.int IntKind.i64 (k + (1 : Int))), SV.raw (Value.int IntKind.i64 (0 : Int))], [SO.box [SV.raw (Value.int IntKind.i64 most), SV.raw (Value.bool rdy), SV.h (1 : Nat)] (27 : Nat), SO.sl own full (46 : Nat) ts])) (some (Ex.normal, [SV.h (0 : Nat), SV.h (1 : Nat), SV.raw (Value.int IntKind.i64 (↑ts.length : Int)), SV.raw (Value.int IntKind.i64 (IntKind.i64.wrap (k + (1 : Int)))), SV.raw (Value.int IntKind.i64 (0 : Int))], [SO.box [SV.raw (Value.int IntKind.i64 most), SV.raw (Value.bool rdy), SV.h (1 : Nat)] (27 : Nat), SO.sl own full (46 : Nat) ts])))) (bro (inR64 (k + (1 : Int))) (some (Ex.normal, [SV.h (0 : Nat), SV.h (1 : Nat), SV.raw (Value.int IntKind.i64 (↑ts.length : Int)), SV.raw (Value.int IntKind.i64 (k + (1 : Int))), SV.raw (Value.int IntKind.i64 (0 : Int))], [SO.box [SV.raw (Value.int IntKind.i64 most), SV.raw (Value.bool rdy), SV.h (1 : Nat)] (27 : Nat), SO.sl own full (46 : Nat) ts])) (some (Ex.normal, [SV.h (0 : Nat), SV.h (1 : Nat), SV.raw (Value.int IntKind.i64 (↑ts.length : Int)), SV.raw (Value.int IntKind.i64 (IntKind.i64.wrap (k + (1 : Int)))), SV.raw (Value.int IntKind.i64 (0 : Int))], [SO.box [SV.raw (Value.int IntKind.i64 most), SV.raw (Value.bool rdy), SV.h (1 : Nat)] (27 : Nat), SO.sl own full (46 : Nat) ts]))))))) (none)) (none)) (bro (inB (IntKind.i64.wrap (k - (1 : Int))) ts.length) (bro (decide ((IntKind.i64.wrap (k - (1 : Int))).toNat < ts.length)) (bro (decide ((elP ts k).fst ≤ (elP ts (IntKind.i64.wrap (k - 1))).fst)) (some (Ex.ret, [SV.h (0 : Nat), SV.h (1 : Nat), SV.raw (Value.int IntKind.i64 (↑ts.length : Int)), SV.raw (Value.int IntKind.i64 k), SV.raw (Value.int IntKind.i64 (2 : Int))], [SO.box [SV.raw (Value.int IntKind.i64 most), SV.raw (Value.bool rdy), SV.h (1 : Nat)] (27 : Nat), SO.sl own full (46 : Nat) ts])) (bro (decide ((64 : Int) < (↑(elP ts k).snd.fst.size : Int))) (some (Ex.ret, [SV.h (0 : Nat), SV.h (1 : Nat), SV.raw (Value.int IntKind.i64 (↑ts.length : Int)), SV.raw (Value.int IntKind.i64 k), SV.raw (Value.int IntKind.i64 (2 : Int))], [SO.box [SV.raw (Value.int IntKind.i64 most), SV.raw (Value.bool rdy), SV.h (1 : Nat)] (27 : Nat), SO.sl own full (46 : Nat) ts])) (bro ((elP ts k).snd.snd.snd.snd.snd) (bro (!rdy) (some (Ex.ret, [SV.h (0 : Nat), SV.h (1 : Nat), SV.raw (Value.int IntKind.i64 (↑ts.length : Int)), SV.raw (Value.int IntKind.i64 k), SV.raw (Value.int IntKind.i64 (2 : Int))], [SO.box [SV.raw (Value.int IntKind.i64 most), SV.raw (Value.bool rdy), SV.h (1 : Nat)] (27 : Nat), SO.sl own full (46 : Nat) ts])) (bro ((elP ts k).snd.snd.snd.snd.fst) (bro (!(elP ts k).snd.snd.snd.snd.snd) (some (Ex.ret, [SV.h (0 : Nat), SV.h (1 : Nat), SV.raw (Value.int IntKind.i64 (↑ts.length : Int)), SV.raw (Value.int IntKind.i64 k), SV.raw (Value.int IntKind.i64 (2 : Int))], [SO.box [SV.raw (Value.int IntKind.i64 most), SV.raw (Value.bool rdy), SV.h (1 : Nat)] (27 : Nat), SO.sl own full (46 : Nat) ts])) (bro (inR64 (k + (1 : Int))) (some (Ex.normal, [SV.h (0 : Nat), SV.h (1 : Nat), SV.raw (Value.int IntKind.i64 (↑ts.length : Int)), SV.raw (Value.int IntKind.i64 (k + (1 : Int))), SV.raw (Value.int IntKind.i64 (0 : Int))], [SO.box [SV.raw (Value.int IntKind.i64 most), SV.raw (Value.bool rdy), SV.h (1 : Nat)] (27 : Nat), SO.sl own full (46 : Nat) ts])) (some (Ex.normal, [SV.h (0 : Nat), SV.h (1 : Nat), SV.raw (Value.int IntKind.i64 (↑ts.length : Int)), SV.raw (Value.int IntKind.i64 (IntKind.i64.wrap (k + (1 : Int)))), SV.raw (Value.int IntKind.i64 (0 : Int))], [SO.box [SV.raw (Value.int IntKind.i64 most), SV.raw (Value.bool rdy), SV.h (1 : Nat)] (27 : Nat), SO.sl own full (46 : Nat) ts])))) (bro (inR64 (k + (1 : Int))) (some (Ex.normal, [SV.h (0 : Nat), SV.h (1 : Nat), SV.raw (Value.int IntKind.i64 (↑ts.length : Int)), SV.raw (Value.int IntKind.i64 (k + (1 : Int))), SV.raw (Value.int IntKind.i64 (0 : Int))], [SO.box [SV.raw (Value.int IntKind.i64 most), SV.raw (Value.bool rdy), SV.h (1 : Nat)] (27 : Nat), SO.sl own full (46 : Nat) ts])) (some (Ex.normal, [SV.h (0 : Nat), SV.h (1 : Nat), SV.raw (Value.int IntKind.i64 (↑ts.length : Int)), SV.raw (Value.int IntKind.i64 (IntKind.i64.wrap (k + (1 : Int)))), SV.raw (Value.int IntKind.i64 (0 : Int))], [SO.box [SV.raw (Value.int IntKind.i64 most), SV.raw (Value.bool rdy), SV.h (1 : Nat)] (27 : Nat), SO.sl own full (46 : Nat) ts]))))) (bro ((elP ts k).snd.snd.snd.snd.fst) (bro (!(elP ts k).snd.snd.snd.snd.snd) (some (Ex.ret, [SV.h (0 : Nat), SV.h (1 : Nat), SV.raw (Value.int IntKind.i64 (↑ts.length : Int)), SV.raw (Value.int IntKind.i64 k), SV.raw (Value.int IntKind.i64 (2 : Int))], [SO.box [SV.raw (Value.int IntKind.i64 most), SV.raw (Value.bool rdy), SV.h (1 : Nat)] (27 : Nat), SO.sl own full (46 : Nat) ts])) (bro (inR64 (k + (1 : Int))) (some (Ex.normal, [SV.h (0 : Nat), SV.h (1 : Nat), SV.raw (Value.int IntKind.i64 (↑ts.length : Int)), SV.raw (Value.int IntKind.i64 (k + (1 : Int))), SV.raw (Value.int IntKind.i64 (0 : Int))], [SO.box [SV.raw (Value.int IntKind.i64 most), SV.raw (Value.bool rdy), SV.h (1 : Nat)] (27 : Nat), SO.sl own full (46 : Nat) ts])) (some (Ex.normal, [SV.h (0 : Nat), SV.h (1 : Nat), SV.raw (Value.int IntKind.i64 (↑ts.length : Int)), SV.raw (Value.int IntKind.i64 (IntKind.i64.wrap (k + (1 : Int)))), SV.raw (Value.int IntKind.i64 (0 : Int))], [SO.box [SV.raw (Value.int IntKind.i64 most), SV.raw (Value.bool rdy), SV.h (1 : Nat)] (27 : Nat), SO.sl own full (46 : Nat) ts])))) (bro (inR64 (k + (1 : Int))) (some (Ex.normal, [SV.h (0 : Nat), SV.h (1 : Nat), SV.raw (Value.int IntKind.i64 (↑ts.length : Int)), SV.raw (Value.int IntKind.i64 (k + (1 : Int))), SV.raw (Value.int IntKind.i64 (0 : Int))], [SO.box [SV.raw (Value.int IntKind.i64 most), SV.raw (Value.bool rdy), SV.h (1 : Nat)] (27 : Nat), SO.sl own full (46 : Nat) ts])) (some (Ex.normal, [SV.h (0 : Nat), SV.h (1 : Nat), SV.raw (Value.int IntKind.i64 (↑ts.length : Int)), SV.raw (Value.int IntKind.i64 (IntKind.i64.wrap (k + (1 : Int)))), SV.raw (Value.int IntKind.i64 (0 : Int))], [SO.box [SV.raw (Value.int IntKind.i64 most), SV.raw (Value.bool rdy), SV.h (1 : Nat)] (27 : Nat), SO.sl own full (46 : Nat) ts]))))))) (none)) (none))) (bro (decide ((64 : Int) < (↑(elP ts k).snd.fst.size : Int))) (some (Ex.ret, [SV.h (0 : Nat), SV.h (1 : Nat), SV.raw (Value.int IntKind.i64 (↑ts.length : Int)), SV.raw (Value.int IntKind.i64 k), SV.raw (Value.int IntKind.i64 (2 : Int))], [SO.box [SV.raw (Value.int IntKind.i64 most), SV.raw (Value.bool rdy), SV.h (1 : Nat)] (27 : Nat), SO.sl own full (46 : Nat) ts])) (bro ((elP ts k).snd.snd.snd.snd.snd) (bro (!rdy) (some (Ex.ret, [SV.h (0 : Nat), SV.h (1 : Nat), SV.raw (Value.int IntKind.i64 (↑ts.length : Int)), SV.raw (Value.int IntKind.i64 k), SV.raw (Value.int IntKind.i64 (2 : Int))], [SO.box [SV.raw (Value.int IntKind.i64 most), SV.raw (Value.bool rdy), SV.h (1 : Nat)] (27 : Nat), SO.sl own full (46 : Nat) ts])) (bro ((elP ts k).snd.snd.snd.snd.fst) (bro (!(elP ts k).snd.snd.snd.snd.snd) (some (Ex.ret, [SV.h (0 : Nat), SV.h (1 : Nat), SV.raw (Value.int IntKind.i64 (↑ts.length : Int)), SV.raw (Value.int IntKind.i64 k), SV.raw (Value.int IntKind.i64 (2 : Int))], [SO.box [SV.raw (Value.int IntKind.i64 most), SV.raw (Value.bool rdy), SV.h (1 : Nat)] (27 : Nat), SO.sl own full (46 : Nat) ts])) (bro (inR64 (k + (1 : Int))) (some (Ex.normal, [SV.h (0 : Nat), SV.h (1 : Nat), SV.raw (Value.int IntKind.i64 (↑ts.length : Int)), SV.raw (Value.int IntKind.i64 (k + (1 : Int))), SV.raw (Value.int IntKind.i64 (0 : Int))], [SO.box [SV.raw (Value.int IntKind.i64 most), SV.raw (Value.bool rdy), SV.h (1 : Nat)] (27 : Nat), SO.sl own full (46 : Nat) ts])) (some (Ex.normal, [SV.h (0 : Nat), SV.h (1 : Nat), SV.raw (Value.int IntKind.i64 (↑ts.length : Int)), SV.raw (Value.int IntKind.i64 (IntKind.i64.wrap (k + (1 : Int)))), SV.raw (Value.int IntKind.i64 (0 : Int))], [SO.box [SV.raw (Value.int IntKind.i64 most), SV.raw (Value.bool rdy), SV.h (1 : Nat)] (27 : Nat), SO.sl own full (46 : Nat) ts])))) (bro (inR64 (k + (1 : Int))) (some (Ex.normal, [SV.h (0 : Nat), SV.h (1 : Nat), SV.raw (Value.int IntKind.i64 (↑ts.length : Int)), SV.raw (Value.int IntKind.i64 (k + (1 : Int))), SV.raw (Value.int IntKind.i64 (0 : Int))], [SO.box [SV.raw (Value.int IntKind.i64 most), SV.raw (Value.bool rdy), SV.h (1 : Nat)] (27 : Nat), SO.sl own full (46 : Nat) ts])) (some (Ex.normal, [SV.h (0 : Nat), SV.h (1 : Nat), SV.raw (Value.int IntKind.i64 (↑ts.length : Int)), SV.raw (Value.int IntKind.i64 (IntKind.i64.wrap (k + (1 : Int)))), SV.raw (Value.int IntKind.i64 (0 : Int))], [SO.box [SV.raw (Value.int IntKind.i64 most), SV.raw (Value.bool rdy), SV.h (1 : Nat)] (27 : Nat), SO.sl own full (46 : Nat) ts]))))) (bro ((elP ts k).snd.snd.snd.snd.fst) (bro (!(elP ts k).snd.snd.snd.snd.snd) (some (Ex.ret, [SV.h (0 : Nat), SV.h (1 : Nat), SV.raw (Value.int IntKind.i64 (↑ts.length : Int)), SV.raw (Value.int IntKind.i64 k), SV.raw (Value.int IntKind.i64 (2 : Int))], [SO.box [SV.raw (Value.int IntKind.i64 most), SV.raw (Value.bool rdy), SV.h (1 : Nat)] (27 : Nat), SO.sl own full (46 : Nat) ts])) (bro (inR64 (k + (1 : Int))) (some (Ex.normal, [SV.h (0 : Nat), SV.h (1 : Nat), SV.raw (Value.int IntKind.i64 (↑ts.length : Int)), SV.raw (Value.int IntKind.i64 (k + (1 : Int))), SV.raw (Value.int IntKind.i64 (0 : Int))], [SO.box [SV.raw (Value.int IntKind.i64 most), SV.raw (Value.bool rdy), SV.h (1 : Nat)] (27 : Nat), SO.sl own full (46 : Nat) ts])) (some (Ex.normal, [SV.h (0 : Nat), SV.h (1 : Nat), SV.raw (Value.int IntKind.i64 (↑ts.length : Int)), SV.raw (Value.int IntKind.i64 (IntKind.i64.wrap (k + (1 : Int)))), SV.raw (Value.int IntKind.i64 (0 : Int))], [SO.box [SV.raw (Value.int IntKind.i64 most), SV.raw (Value.bool rdy), SV.h (1 : Nat)] (27 : Nat), SO.sl own full (46 : Nat) ts])))) (bro (inR64 (k + (1 : Int))) (some (Ex.normal, [SV.h (0 : Nat), SV.h (1 : Nat), SV.raw (Value.int IntKind.i64 (↑ts.length : Int)), SV.raw (Value.int IntKind.i64 (k + (1 : Int))), SV.raw (Value.int IntKind.i64 (0 : Int))], [SO.box [SV.raw (Value.int IntKind.i64 most), SV.raw (Value.bool rdy), SV.h (1 : Nat)] (27 : Nat), SO.sl own full (46 : Nat) ts])) (some (Ex.normal, [SV.h (0 : Nat), SV.h (1 : Nat), SV.raw (Value.int IntKind.i64 (↑ts.length : Int)), SV.raw (Value.int IntKind.i64 (IntKind.i64.wrap (k + (1 : Int)))), SV.raw (Value.int IntKind.i64 (0 : Int))], [SO.box [SV.raw (Value.int IntKind.i64 most), SV.raw (Value.bool rdy), SV.h (1 : Nat)] (27 : Nat), SO.sl own full (46 : Nat) ts]))))))))) (none)) (none)) (some (Ex.exit (0 : Nat), [SV.h (0 : Nat), SV.h (1 : Nat), SV.raw (Value.int IntKind.i64 (↑ts.length : Int)), SV.raw (Value.int IntKind.i64 k), SV.raw (Value.int IntKind.i64 (0 : Int))], [SO.box [SV.raw (Value.int IntKind.i64 most), SV.raw (Value.bool rdy), SV.h (1 : Nat)] (27 : Nat), SO.sl own full (46 : Nat) ts])) := by kernel_rfl

/-- What Check asks of the port at a place. -/
def okAt (most : Int) (rdy : Bool) (ts : List Pt) (k : Nat) : Bool :=
  !decide ((elP ts k).1 < 0) && (!decide (most ≤ (elP ts k).1) && ((!decide (0 < (k : Int)) || !decide ((elP ts k).1 ≤ (elP ts ((k : Int) - 1)).1)) && (!decide ((64 : Int) < ((elP ts k).2.1.size : Int)) && ((!(elP ts k).2.2.2.2.2 || rdy) && (!(elP ts k).2.2.2.2.1 || (elP ts k).2.2.2.2.2)))))
theorem k_round {own full : Bool} {most : Int} {rdy : Bool} {ts : List Pt} {k : Nat} (hk : k < ts.length) (hl : ts.length ≤ 100000) :
    (kRound own full most rdy ts k).get = bro (okAt most rdy ts k) (some (.normal, kSt own full most rdy ts ((k : Int) + 1) 0)) (some (.ret, kSt own full most rdy ts k 2)) := by
  rw [k_tree]
  have k1 := decide_eq_true (show (k : Int) < (ts.length : Int) by omega)
  have k2 : Sx.inB (k : Int) ts.length = true := inB_mk ⟨by omega, by omega⟩
  have k3 := decide_eq_true (show ((k : Nat) : Int).toNat < ts.length by omega)
  have k4 : inR64 ((k : Int) + 1) = true := inR64_mk (by omega)
  have k5 : inR64 ((k : Int) - 1) = true := inR64_mk (by omega)
  have k6 : decide (0 < (k : Int)) = true → Sx.inB ((k : Int) - 1) ts.length = true := fun h => inB_mk ⟨by have := of_decide_eq_true h; omega, by omega⟩
  have k7 := decide_eq_true (show ((k : Int) - 1).toNat < ts.length by omega)
  unfold okAt
  simp only [k1, k2, k3, k4, k5, k7, bro_true]
  generalize elP ts (k : Int) = x
  obtain ⟨a, b, c, d, e, f⟩ := x
  simp only
  cases h0 : decide (0 < (k : Int)) with
  | true =>
    rw [k6 h0]
    cases decide (a < 0) <;> cases decide (most ≤ a) <;> cases decide (a ≤ (elP ts ((k : Int) - 1)).1) <;> cases decide ((64 : Int) < (b.size : Int)) <;> cases e <;> cases f <;> cases rdy <;> rfl
  | false =>
    cases decide (a < 0) <;> cases decide (most ≤ a) <;> cases decide ((64 : Int) < (b.size : Int)) <;> cases e <;> cases f <;> cases rdy <;> rfl
theorem k_end {own full : Bool} {most : Int} {rdy : Bool} {ts : List Pt} : (kRound own full most rdy ts (ts.length : Int)).get = some (.exit 0, kSt own full most rdy ts (ts.length : Int) 0) := by
  rw [k_tree, decide_eq_false (Int.lt_irrefl _)]; rfl
def okAll (most : Int) (rdy : Bool) (ts : List Pt) : Bool := (List.range ts.length).all (okAt most rdy ts)
def badAt (most : Int) (rdy : Bool) (ts : List Pt) : Nat := ((List.range ts.length).find? fun k => !okAt most rdy ts k).getD 0
def kLoop : LoopFn C27 := fun li => match li with
  | ⟨[.h 0, .h 1, .raw (.int .i64 n), .raw (.int .i64 (.ofNat 0)), .raw (.int .i64 (.ofNat 0))], 2, [.box [.raw (.int .i64 most), .raw (.bool rdy), .h 1] 27, .sl own full 46 ts]⟩ =>
    .br (n == (ts.length : Int)) (.br (decide (ts.length ≤ 100000)) (.br (okAll most rdy ts) (.leaf (.exit 0, kSt own full most rdy ts (ts.length : Int) 0)) (.leaf (.ret, kSt own full most rdy ts (badAt most rdy ts : Int) 2))) .fail) .fail
  | _ => .fail
theorem find_range {p : Nat → Bool} {k : Nat} : ∀ {n : Nat}, k < n → p k = true → (∀ j, j < k → p j = false) → (List.range n).find? p = some k := fun {n} hk hp hj => by
  rw [List.find?_eq_some_iff_append]
  refine ⟨hp, List.range k, (List.range n).drop (k + 1), ?_, fun a ha => ?_⟩
  · have h1 : (List.range n).take k = List.range k := by
      rw [List.take_range, Nat.min_eq_left (by omega)]
    have h2 : (List.range n).drop k = k :: (List.range n).drop (k + 1) := by
      rw [List.drop_eq_getElem_cons (by simpa using hk)]
      simp
    rw [← h1, ← h2, List.take_append_drop]
  · rw [hj a (List.mem_range.1 ha)]; rfl
theorem k_loop : loopOf Try.prog 13 0 = some (72, (loopOf Try.prog 13 0).get!.2) := by kernel_rfl
theorem kLoop_ok : ∀ tm hp n x, (loopS [1, 14, 15, 16, 2] [] kLoop tm hp n).get = some x → InLoop Try.prog 72 (loopOf Try.prog 13 0).get!.2 tm hp n fun e tm hp n => (e, tm, hp, n) = x := loopS_of fun li r h => by
  unfold kLoop at h
  split at h
  · rename_i n most rdy own full ts
    obtain ⟨hn0, hB⟩ := Tr.get_ask.1 h
    obtain ⟨hl, hC⟩ := Tr.get_ask.1 hB
    clear h hB
    have hn0 := eq_of_beq hn0
    subst hn0
    change List Pt at ts
    have hl : ts.length ≤ 100000 := of_decide_eq_true hl
    have hr : r.2.2 = (kSt own full most rdy ts 0 0).2 := by
      rcases Tr.get_br.1 hC with ⟨_, hD⟩ | ⟨_, hD⟩ <;> (simp only [Tr.get, Option.some.injEq] at hD; subst hD; rfl)
    refine ⟨by rw [hr]; exact Keeps.of (Nat.le_refl 2) rfl (fun o ho => by cases ho), ?_⟩
    refine loop_li (σ := Nat) (st := fun k => kSt own full most rdy ts (k : Int) 0) (Inv := fun k => k ≤ ts.length ∧ ∀ j, j < k → okAt most rdy ts j = true) (μ := fun k => ts.length - k) (d := 10) (unr := fun _ _ => 20) (sp := noSp) (ls := noLs) plain mixed noSp_ok noLs_ok k_loop (fun k hk => ?_) 0 ⟨Nat.zero_le _, nofun⟩
    obtain ⟨hi, hj⟩ := hk
    by_cases h5 : k < ts.length
    · cases ho : okAt most rdy ts k with
      | true =>
        have hp := k_round (own := own) (full := full) (most := most) (rdy := rdy) h5 hl
        rw [ho] at hp
        exact ⟨_, hp, fun _ => ⟨k + 1, ⟨by omega, fun j hjk => by
          rcases Nat.lt_or_ge j k with h | h
          · exact hj j h
          · obtain rfl : j = k := by omega
            exact ho⟩, by omega, rfl⟩, nofun⟩
      | false =>
        have hp := k_round (own := own) (full := full) (most := most) (rdy := rdy) h5 hl
        rw [ho] at hp
        refine ⟨_, hp, nofun, fun _ => ?_⟩
        have ha : okAll most rdy ts = false := by
          cases h : okAll most rdy ts with
          | false => rfl
          | true =>
            unfold okAll at h
            rw [List.all_eq_true] at h
            rw [h k (List.mem_range.2 h5)] at ho
            cases ho
        have hb : badAt most rdy ts = k := by
          unfold badAt
          rw [find_range (p := fun k => !okAt most rdy ts k) h5 (by simp [ho]) (fun j h => by simp [hj j h])]; rfl
        rw [ha, hb] at hC
        simp only [Tr.get, Option.some.injEq] at hC
        subst hC
        exact ⟨rfl, rfl⟩
    · have : k = ts.length := by omega
      subst this
      refine ⟨_, k_end, nofun, fun _ => ?_⟩
      have ha : okAll most rdy ts = true := List.all_eq_true.2 fun j h => hj j (List.mem_range.1 h)
      rw [ha] at hC
      simp only [Tr.get, Option.some.injEq] at hC
      subst hC
      exact ⟨rfl, rfl⟩
  · cases h
end
end Go.Proofs.Ytgegagndihffpaa
