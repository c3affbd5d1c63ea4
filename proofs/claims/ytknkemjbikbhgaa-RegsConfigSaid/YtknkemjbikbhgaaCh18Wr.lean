/-
  Chapter 18: Write, its cases. Own work; nothing here is trusted.
-/
import Derived.Test.YtknkemjbikbhgaaCh18Sta
namespace Go.Proofs.Ytknkemjbikbhgaa
open Go Go.Sx Go.RowKit
set_option maxRecDepth 1000000
set_option maxHeartbeats 8000000
set_option linter.unusedVariables false
set_option linter.unusedSimpArgs false
noncomputable section
theorem wv_1 (r : Rg) (f1 f2 : Bool) (w : Int) : (fVw r f1 f2 1 w).get =
  bro (decide (r.qs.length ≤ (1000 : Nat))) (bro (decide (r.cf.length ≤ (1000 : Nat))) (bro (vR r.k r.o r.g r.s r.se r.at' r.it r.qs r.cf.length) (some (SV.agg [SV.raw (Value.int IntKind.i64 r.k), SV.raw (Value.int IntKind.u64 r.o), SV.raw (Value.int IntKind.u64 r.g), SV.raw (Value.int IntKind.u8 r.s), SV.raw (Value.int IntKind.i64 r.se), SV.raw (Value.int IntKind.i64 r.at'), SV.h (2 : Nat), SV.h (3 : Nat), SV.raw (Value.int IntKind.u8 r.ge), SV.raw (Value.int IntKind.u8 r.it)], [SO.sl true false (77 : Nat) r.qs, SO.sl true false (5 : Nat) r.cf])) (none)) (none)) (none) := by kernel_rfl
theorem wv_2 (r : Rg) (f1 f2 : Bool) (w : Int) : (fVw r f1 f2 2 w).get =
  bro (decide (r.qs.length ≤ (1000 : Nat))) (bro (decide (r.cf.length ≤ (1000 : Nat))) (bro (vR r.k r.o r.g r.s r.se r.at' r.it r.qs r.cf.length) (bro (decide (w ≤ (1 : Int))) (bro (inR64 w) (some (SV.agg [SV.raw (Value.int IntKind.i64 r.k), SV.raw (Value.int IntKind.u64 r.o), SV.raw (Value.int IntKind.u64 r.g), SV.raw (Value.int IntKind.u8 r.s), SV.raw (Value.int IntKind.i64 w), SV.raw (Value.int IntKind.i64 r.at'), SV.h (2 : Nat), SV.h (3 : Nat), SV.raw (Value.int IntKind.u8 r.ge), SV.raw (Value.int IntKind.u8 r.it)], [SO.sl true false (77 : Nat) r.qs, SO.sl true false (5 : Nat) r.cf])) (some (SV.agg [SV.raw (Value.int IntKind.i64 r.k), SV.raw (Value.int IntKind.u64 r.o), SV.raw (Value.int IntKind.u64 r.g), SV.raw (Value.int IntKind.u8 r.s), SV.raw (Value.int IntKind.i64 (IntKind.i64.wrap w)), SV.raw (Value.int IntKind.i64 r.at'), SV.h (2 : Nat), SV.h (3 : Nat), SV.raw (Value.int IntKind.u8 r.ge), SV.raw (Value.int IntKind.u8 r.it)], [SO.sl true false (77 : Nat) r.qs, SO.sl true false (5 : Nat) r.cf]))) (some (SV.agg [SV.raw (Value.int IntKind.i64 r.k), SV.raw (Value.int IntKind.u64 r.o), SV.raw (Value.int IntKind.u64 r.g), SV.raw (Value.int IntKind.u8 r.s), SV.raw (Value.int IntKind.i64 r.se), SV.raw (Value.int IntKind.i64 r.at'), SV.h (2 : Nat), SV.h (3 : Nat), SV.raw (Value.int IntKind.u8 r.ge), SV.raw (Value.int IntKind.u8 r.it)], [SO.sl true false (77 : Nat) r.qs, SO.sl true false (5 : Nat) r.cf]))) (none)) (none)) (none) := by kernel_rfl
theorem wv_4 (r : Rg) (f1 f2 : Bool) (w : Int) : (fVw r f1 f2 4 w).get =
  bro (decide (r.qs.length ≤ (1000 : Nat))) (bro (decide (r.cf.length ≤ (1000 : Nat))) (bro (vR r.k r.o r.g r.s r.se r.at' r.it r.qs r.cf.length) (bro (inR64 ((32 : Int) * r.se)) (bro (decide ((32 : Int) * r.se < (0 : Int))) (none) (bro (inR64 ((32 : Int) * r.se)) (bro (decide ((32 : Int) * r.se < (0 : Int))) (none) (bro (rokB r.k r.o r.g r.s) (bro (hb r.s (2 : Int) && (!hb r.s (8 : Int) && bitsV IntKind.u64 BinOp.or (bitsV IntKind.u64 BinOp.andNot r.g (shlV IntKind.u64 (4294967295 : Int) ((32 : Int) * r.se))) (shlV IntKind.u64 (bitsV IntKind.u64 BinOp.and w (4294967295 : Int)) ((32 : Int) * r.se)) != r.g)) (some (SV.agg [SV.raw (Value.int IntKind.i64 r.k), SV.raw (Value.int IntKind.u64 r.o), SV.raw (Value.int IntKind.u64 (bitsV IntKind.u64 BinOp.or (bitsV IntKind.u64 BinOp.andNot r.g (shlV IntKind.u64 (4294967295 : Int) ((32 : Int) * r.se))) (shlV IntKind.u64 (bitsV IntKind.u64 BinOp.and w (4294967295 : Int)) ((32 : Int) * r.se)))), SV.raw (Value.int IntKind.u8 r.s), SV.raw (Value.int IntKind.i64 r.se), SV.raw (Value.int IntKind.i64 r.at'), SV.h (2 : Nat), SV.h (3 : Nat), SV.raw (Value.int IntKind.u8 r.ge), SV.raw (Value.int IntKind.u8 r.it)], [SO.sl true false (77 : Nat) r.qs, SO.sl true false (5 : Nat) r.cf])) (some (SV.agg [SV.raw (Value.int IntKind.i64 r.k), SV.raw (Value.int IntKind.u64 r.o), SV.raw (Value.int IntKind.u64 r.g), SV.raw (Value.int IntKind.u8 r.s), SV.raw (Value.int IntKind.i64 r.se), SV.raw (Value.int IntKind.i64 r.at'), SV.h (2 : Nat), SV.h (3 : Nat), SV.raw (Value.int IntKind.u8 r.ge), SV.raw (Value.int IntKind.u8 r.it)], [SO.sl true false (77 : Nat) r.qs, SO.sl true false (5 : Nat) r.cf]))) (none))) (bro (decide (IntKind.i64.wrap ((32 : Int) * r.se) < (0 : Int))) (none) (bro (rokB r.k r.o r.g r.s) (bro (hb r.s (2 : Int) && (!hb r.s (8 : Int) && bitsV IntKind.u64 BinOp.or (bitsV IntKind.u64 BinOp.andNot r.g (shlV IntKind.u64 (4294967295 : Int) ((32 : Int) * r.se))) (shlV IntKind.u64 (bitsV IntKind.u64 BinOp.and w (4294967295 : Int)) (IntKind.i64.wrap ((32 : Int) * r.se))) != r.g)) (some (SV.agg [SV.raw (Value.int IntKind.i64 r.k), SV.raw (Value.int IntKind.u64 r.o), SV.raw (Value.int IntKind.u64 (bitsV IntKind.u64 BinOp.or (bitsV IntKind.u64 BinOp.andNot r.g (shlV IntKind.u64 (4294967295 : Int) ((32 : Int) * r.se))) (shlV IntKind.u64 (bitsV IntKind.u64 BinOp.and w (4294967295 : Int)) (IntKind.i64.wrap ((32 : Int) * r.se))))), SV.raw (Value.int IntKind.u8 r.s), SV.raw (Value.int IntKind.i64 r.se), SV.raw (Value.int IntKind.i64 r.at'), SV.h (2 : Nat), SV.h (3 : Nat), SV.raw (Value.int IntKind.u8 r.ge), SV.raw (Value.int IntKind.u8 r.it)], [SO.sl true false (77 : Nat) r.qs, SO.sl true false (5 : Nat) r.cf])) (some (SV.agg [SV.raw (Value.int IntKind.i64 r.k), SV.raw (Value.int IntKind.u64 r.o), SV.raw (Value.int IntKind.u64 r.g), SV.raw (Value.int IntKind.u8 r.s), SV.raw (Value.int IntKind.i64 r.se), SV.raw (Value.int IntKind.i64 r.at'), SV.h (2 : Nat), SV.h (3 : Nat), SV.raw (Value.int IntKind.u8 r.ge), SV.raw (Value.int IntKind.u8 r.it)], [SO.sl true false (77 : Nat) r.qs, SO.sl true false (5 : Nat) r.cf]))) (none))))) (bro (decide (IntKind.i64.wrap ((32 : Int) * r.se) < (0 : Int))) (none) (bro (inR64 ((32 : Int) * r.se)) (bro (decide ((32 : Int) * r.se < (0 : Int))) (none) (bro (rokB r.k r.o r.g r.s) (bro (hb r.s (2 : Int) && (!hb r.s (8 : Int) && bitsV IntKind.u64 BinOp.or (bitsV IntKind.u64 BinOp.andNot r.g (shlV IntKind.u64 (4294967295 : Int) (IntKind.i64.wrap ((32 : Int) * r.se)))) (shlV IntKind.u64 (bitsV IntKind.u64 BinOp.and w (4294967295 : Int)) ((32 : Int) * r.se)) != r.g)) (some (SV.agg [SV.raw (Value.int IntKind.i64 r.k), SV.raw (Value.int IntKind.u64 r.o), SV.raw (Value.int IntKind.u64 (bitsV IntKind.u64 BinOp.or (bitsV IntKind.u64 BinOp.andNot r.g (shlV IntKind.u64 (4294967295 : Int) (IntKind.i64.wrap ((32 : Int) * r.se)))) (shlV IntKind.u64 (bitsV IntKind.u64 BinOp.and w (4294967295 : Int)) ((32 : Int) * r.se)))), SV.raw (Value.int IntKind.u8 r.s), SV.raw (Value.int IntKind.i64 r.se), SV.raw (Value.int IntKind.i64 r.at'), SV.h (2 : Nat), SV.h (3 : Nat), SV.raw (Value.int IntKind.u8 r.ge), SV.raw (Value.int IntKind.u8 r.it)], [SO.sl true false (77 : Nat) r.qs, SO.sl true false (5 : Nat) r.cf])) (some (SV.agg [SV.raw (Value.int IntKind.i64 r.k), SV.raw (Value.int IntKind.u64 r.o), SV.raw (Value.int IntKind.u64 r.g), SV.raw (Value.int IntKind.u8 r.s), SV.raw (Value.int IntKind.i64 r.se), SV.raw (Value.int IntKind.i64 r.at'), SV.h (2 : Nat), SV.h (3 : Nat), SV.raw (Value.int IntKind.u8 r.ge), SV.raw (Value.int IntKind.u8 r.it)], [SO.sl true false (77 : Nat) r.qs, SO.sl true false (5 : Nat) r.cf]))) (none))) (bro (decide (IntKind.i64.wrap ((32 : Int) * r.se) < (0 : Int))) (none) (bro (rokB r.k r.o r.g r.s) (bro (hb r.s (2 : Int) && (!hb r.s (8 : Int) && bitsV IntKind.u64 BinOp.or (bitsV IntKind.u64 BinOp.andNot r.g (shlV IntKind.u64 (4294967295 : Int) (IntKind.i64.wrap ((32 : Int) * r.se)))) (shlV IntKind.u64 (bitsV IntKind.u64 BinOp.and w (4294967295 : Int)) (IntKind.i64.wrap ((32 : Int) * r.se))) != r.g)) (some (SV.agg [SV.raw (Value.int IntKind.i64 r.k), SV.raw (Value.int IntKind.u64 r.o), SV.raw (Value.int IntKind.u64 (bitsV IntKind.u64 BinOp.or (bitsV IntKind.u64 BinOp.andNot r.g (shlV IntKind.u64 (4294967295 : Int) (IntKind.i64.wrap ((32 : Int) * r.se)))) (shlV IntKind.u64 (bitsV IntKind.u64 BinOp.and w (4294967295 : Int)) (IntKind.i64.wrap ((32 : Int) * r.se))))), SV.raw (Value.int IntKind.u8 r.s), SV.raw (Value.int IntKind.i64 r.se), SV.raw (Value.int IntKind.i64 r.at'), SV.h (2 : Nat), SV.h (3 : Nat), SV.raw (Value.int IntKind.u8 r.ge), SV.raw (Value.int IntKind.u8 r.it)], [SO.sl true false (77 : Nat) r.qs, SO.sl true false (5 : Nat) r.cf])) (some (SV.agg [SV.raw (Value.int IntKind.i64 r.k), SV.raw (Value.int IntKind.u64 r.o), SV.raw (Value.int IntKind.u64 r.g), SV.raw (Value.int IntKind.u8 r.s), SV.raw (Value.int IntKind.i64 r.se), SV.raw (Value.int IntKind.i64 r.at'), SV.h (2 : Nat), SV.h (3 : Nat), SV.raw (Value.int IntKind.u8 r.ge), SV.raw (Value.int IntKind.u8 r.it)], [SO.sl true false (77 : Nat) r.qs, SO.sl true false (5 : Nat) r.cf]))) (none)))))) (none)) (none)) (none) := by kernel_rfl
theorem wv_5 (r : Rg) (f1 f2 : Bool) (w : Int) : (fVw r f1 f2 5 w).get =
  bro (decide (r.qs.length ≤ (1000 : Nat))) (bro (decide (r.cf.length ≤ (1000 : Nat))) (bro (vR r.k r.o r.g r.s r.se r.at' r.it r.qs r.cf.length) (bro (decide (w ≤ (255 : Int))) (bro (inR64 w) (some (SV.agg [SV.raw (Value.int IntKind.i64 r.k), SV.raw (Value.int IntKind.u64 r.o), SV.raw (Value.int IntKind.u64 r.g), SV.raw (Value.int IntKind.u8 r.s), SV.raw (Value.int IntKind.i64 r.se), SV.raw (Value.int IntKind.i64 w), SV.h (2 : Nat), SV.h (3 : Nat), SV.raw (Value.int IntKind.u8 r.ge), SV.raw (Value.int IntKind.u8 r.it)], [SO.sl true false (77 : Nat) r.qs, SO.sl true false (5 : Nat) r.cf])) (some (SV.agg [SV.raw (Value.int IntKind.i64 r.k), SV.raw (Value.int IntKind.u64 r.o), SV.raw (Value.int IntKind.u64 r.g), SV.raw (Value.int IntKind.u8 r.s), SV.raw (Value.int IntKind.i64 r.se), SV.raw (Value.int IntKind.i64 (IntKind.i64.wrap w)), SV.h (2 : Nat), SV.h (3 : Nat), SV.raw (Value.int IntKind.u8 r.ge), SV.raw (Value.int IntKind.u8 r.it)], [SO.sl true false (77 : Nat) r.qs, SO.sl true false (5 : Nat) r.cf]))) (some (SV.agg [SV.raw (Value.int IntKind.i64 r.k), SV.raw (Value.int IntKind.u64 r.o), SV.raw (Value.int IntKind.u64 r.g), SV.raw (Value.int IntKind.u8 r.s), SV.raw (Value.int IntKind.i64 r.se), SV.raw (Value.int IntKind.i64 r.at'), SV.h (2 : Nat), SV.h (3 : Nat), SV.raw (Value.int IntKind.u8 r.ge), SV.raw (Value.int IntKind.u8 r.it)], [SO.sl true false (77 : Nat) r.qs, SO.sl true false (5 : Nat) r.cf]))) (none)) (none)) (none) := by kernel_rfl
theorem wv_7 (r : Rg) (f1 f2 : Bool) (w : Int) : (fVw r f1 f2 7 w).get =
  bro (decide (r.qs.length ≤ (1000 : Nat))) (bro (decide (r.cf.length ≤ (1000 : Nat))) (bro (vR r.k r.o r.g r.s r.se r.at' r.it r.qs r.cf.length) (bro (decide ((↑r.qs.length : Int) ≤ r.at')) (some (SV.agg [SV.raw (Value.int IntKind.i64 r.k), SV.raw (Value.int IntKind.u64 r.o), SV.raw (Value.int IntKind.u64 r.g), SV.raw (Value.int IntKind.u8 r.s), SV.raw (Value.int IntKind.i64 r.se), SV.raw (Value.int IntKind.i64 r.at'), SV.h (2 : Nat), SV.h (3 : Nat), SV.raw (Value.int IntKind.u8 r.ge), SV.raw (Value.int IntKind.u8 r.it)], [SO.sl true false (77 : Nat) r.qs, SO.sl true false (5 : Nat) r.cf])) (bro (Sx.inB r.at' r.qs.length) (bro (decide (r.at'.toNat < r.qs.length)) (bro (!(r.qs.getD r.at'.toNat (C18 (77 : TypeId)).d).snd.snd.fst) (bro (decide (r.at'.toNat < r.qs.length)) (bro (decide (w ≤ (r.qs.getD r.at'.toNat (C18 (77 : TypeId)).d).fst % (18446744073709551616 : Int))) (bro (inR64 w) (bro (decide (r.at'.toNat < r.qs.length)) (some (SV.agg [SV.raw (Value.int IntKind.i64 r.k), SV.raw (Value.int IntKind.u64 r.o), SV.raw (Value.int IntKind.u64 r.g), SV.raw (Value.int IntKind.u8 r.s), SV.raw (Value.int IntKind.i64 r.se), SV.raw (Value.int IntKind.i64 r.at'), SV.h (2 : Nat), SV.h (3 : Nat), SV.raw (Value.int IntKind.u8 r.ge), SV.raw (Value.int IntKind.u8 r.it)], [SO.sl true false (77 : Nat) (r.qs.set r.at'.toNat ((r.qs.getD r.at'.toNat (C18 (77 : TypeId)).d).fst, w, (r.qs.getD r.at'.toNat (C18 (77 : TypeId)).d).snd.snd.fst, (r.qs.getD r.at'.toNat (C18 (77 : TypeId)).d).snd.snd.snd.fst, (r.qs.getD r.at'.toNat (C18 (77 : TypeId)).d).snd.snd.snd.snd.fst, (r.qs.getD r.at'.toNat (C18 (77 : TypeId)).d).snd.snd.snd.snd.snd)), SO.sl true false (5 : Nat) r.cf])) (none)) (bro (decide (r.at'.toNat < r.qs.length)) (some (SV.agg [SV.raw (Value.int IntKind.i64 r.k), SV.raw (Value.int IntKind.u64 r.o), SV.raw (Value.int IntKind.u64 r.g), SV.raw (Value.int IntKind.u8 r.s), SV.raw (Value.int IntKind.i64 r.se), SV.raw (Value.int IntKind.i64 r.at'), SV.h (2 : Nat), SV.h (3 : Nat), SV.raw (Value.int IntKind.u8 r.ge), SV.raw (Value.int IntKind.u8 r.it)], [SO.sl true false (77 : Nat) (r.qs.set r.at'.toNat ((r.qs.getD r.at'.toNat (C18 (77 : TypeId)).d).fst, IntKind.i64.wrap w, (r.qs.getD r.at'.toNat (C18 (77 : TypeId)).d).snd.snd.fst, (r.qs.getD r.at'.toNat (C18 (77 : TypeId)).d).snd.snd.snd.fst, (r.qs.getD r.at'.toNat (C18 (77 : TypeId)).d).snd.snd.snd.snd.fst, (r.qs.getD r.at'.toNat (C18 (77 : TypeId)).d).snd.snd.snd.snd.snd)), SO.sl true false (5 : Nat) r.cf])) (none))) (some (SV.agg [SV.raw (Value.int IntKind.i64 r.k), SV.raw (Value.int IntKind.u64 r.o), SV.raw (Value.int IntKind.u64 r.g), SV.raw (Value.int IntKind.u8 r.s), SV.raw (Value.int IntKind.i64 r.se), SV.raw (Value.int IntKind.i64 r.at'), SV.h (2 : Nat), SV.h (3 : Nat), SV.raw (Value.int IntKind.u8 r.ge), SV.raw (Value.int IntKind.u8 r.it)], [SO.sl true false (77 : Nat) r.qs, SO.sl true false (5 : Nat) r.cf]))) (none)) (some (SV.agg [SV.raw (Value.int IntKind.i64 r.k), SV.raw (Value.int IntKind.u64 r.o), SV.raw (Value.int IntKind.u64 r.g), SV.raw (Value.int IntKind.u8 r.s), SV.raw (Value.int IntKind.i64 r.se), SV.raw (Value.int IntKind.i64 r.at'), SV.h (2 : Nat), SV.h (3 : Nat), SV.raw (Value.int IntKind.u8 r.ge), SV.raw (Value.int IntKind.u8 r.it)], [SO.sl true false (77 : Nat) r.qs, SO.sl true false (5 : Nat) r.cf]))) (none)) (none))) (none)) (none)) (none) := by kernel_rfl
theorem wv_8 (r : Rg) (f1 f2 : Bool) (w : Int) : (fVw r f1 f2 8 w).get =
  bro (decide (r.qs.length ≤ (1000 : Nat))) (bro (decide (r.cf.length ≤ (1000 : Nat))) (bro (vR r.k r.o r.g r.s r.se r.at' r.it r.qs r.cf.length) (bro (decide ((↑r.qs.length : Int) ≤ r.at')) (some (SV.agg [SV.raw (Value.int IntKind.i64 r.k), SV.raw (Value.int IntKind.u64 r.o), SV.raw (Value.int IntKind.u64 r.g), SV.raw (Value.int IntKind.u8 r.s), SV.raw (Value.int IntKind.i64 r.se), SV.raw (Value.int IntKind.i64 r.at'), SV.h (2 : Nat), SV.h (3 : Nat), SV.raw (Value.int IntKind.u8 r.ge), SV.raw (Value.int IntKind.u8 r.it)], [SO.sl true false (77 : Nat) r.qs, SO.sl true false (5 : Nat) r.cf])) (bro (Sx.inB r.at' r.qs.length) (bro (w == (0 : Int)) (bro (decide (r.at'.toNat < r.qs.length)) (some (SV.agg [SV.raw (Value.int IntKind.i64 r.k), SV.raw (Value.int IntKind.u64 r.o), SV.raw (Value.int IntKind.u64 r.g), SV.raw (Value.int IntKind.u8 r.s), SV.raw (Value.int IntKind.i64 r.se), SV.raw (Value.int IntKind.i64 r.at'), SV.h (2 : Nat), SV.h (3 : Nat), SV.raw (Value.int IntKind.u8 r.ge), SV.raw (Value.int IntKind.u8 r.it)], [SO.sl true false (77 : Nat) (r.qs.set r.at'.toNat ((r.qs.getD r.at'.toNat (C18 (77 : TypeId)).d).fst, (r.qs.getD r.at'.toNat (C18 (77 : TypeId)).d).snd.fst, false, (r.qs.getD r.at'.toNat (C18 (77 : TypeId)).d).snd.snd.snd.fst, (r.qs.getD r.at'.toNat (C18 (77 : TypeId)).d).snd.snd.snd.snd.fst, (r.qs.getD r.at'.toNat (C18 (77 : TypeId)).d).snd.snd.snd.snd.snd)), SO.sl true false (5 : Nat) r.cf])) (none)) (bro (w == (1 : Int)) (bro (decide (r.at'.toNat < r.qs.length)) (bro (rokB r.k r.o r.g r.s) (bro (rdB r.g r.s ((r.qs.getD r.at'.toNat (C18 (77 : TypeId)).d).fst, (r.qs.getD r.at'.toNat (C18 (77 : TypeId)).d).snd.fst, (r.qs.getD r.at'.toNat (C18 (77 : TypeId)).d).snd.snd.fst, (r.qs.getD r.at'.toNat (C18 (77 : TypeId)).d).snd.snd.snd.fst, (r.qs.getD r.at'.toNat (C18 (77 : TypeId)).d).snd.snd.snd.snd.fst, (r.qs.getD r.at'.toNat (C18 (77 : TypeId)).d).snd.snd.snd.snd.snd)) (bro (decide (r.at'.toNat < r.qs.length)) (some (SV.agg [SV.raw (Value.int IntKind.i64 r.k), SV.raw (Value.int IntKind.u64 r.o), SV.raw (Value.int IntKind.u64 r.g), SV.raw (Value.int IntKind.u8 r.s), SV.raw (Value.int IntKind.i64 r.se), SV.raw (Value.int IntKind.i64 r.at'), SV.h (2 : Nat), SV.h (3 : Nat), SV.raw (Value.int IntKind.u8 r.ge), SV.raw (Value.int IntKind.u8 r.it)], [SO.sl true false (77 : Nat) (r.qs.set r.at'.toNat ((r.qs.getD r.at'.toNat (C18 (77 : TypeId)).d).fst, (r.qs.getD r.at'.toNat (C18 (77 : TypeId)).d).snd.fst, true, (r.qs.getD r.at'.toNat (C18 (77 : TypeId)).d).snd.snd.snd.fst, (r.qs.getD r.at'.toNat (C18 (77 : TypeId)).d).snd.snd.snd.snd.fst, (r.qs.getD r.at'.toNat (C18 (77 : TypeId)).d).snd.snd.snd.snd.snd)), SO.sl true false (5 : Nat) r.cf])) (none)) (some (SV.agg [SV.raw (Value.int IntKind.i64 r.k), SV.raw (Value.int IntKind.u64 r.o), SV.raw (Value.int IntKind.u64 r.g), SV.raw (Value.int IntKind.u8 r.s), SV.raw (Value.int IntKind.i64 r.se), SV.raw (Value.int IntKind.i64 r.at'), SV.h (2 : Nat), SV.h (3 : Nat), SV.raw (Value.int IntKind.u8 r.ge), SV.raw (Value.int IntKind.u8 r.it)], [SO.sl true false (77 : Nat) r.qs, SO.sl true false (5 : Nat) r.cf]))) (none)) (none)) (some (SV.agg [SV.raw (Value.int IntKind.i64 r.k), SV.raw (Value.int IntKind.u64 r.o), SV.raw (Value.int IntKind.u64 r.g), SV.raw (Value.int IntKind.u8 r.s), SV.raw (Value.int IntKind.i64 r.se), SV.raw (Value.int IntKind.i64 r.at'), SV.h (2 : Nat), SV.h (3 : Nat), SV.raw (Value.int IntKind.u8 r.ge), SV.raw (Value.int IntKind.u8 r.it)], [SO.sl true false (77 : Nat) r.qs, SO.sl true false (5 : Nat) r.cf])))) (none))) (none)) (none)) (none) := by kernel_rfl
theorem wv_9 (r : Rg) (f1 f2 : Bool) (w : Int) : (fVw r f1 f2 9 w).get =
  bro (decide (r.qs.length ≤ (1000 : Nat))) (bro (decide (r.cf.length ≤ (1000 : Nat))) (bro (rV r) (bro (decide ((r.qs.length : Int) ≤ r.at')) (some (rA r (.h 2) (.h 3), [SO.sl true false 77 r.qs, SO.sl true false 5 r.cf])) (bro (Sx.inB r.at' r.qs.length) (bro (decide (r.at'.toNat < r.qs.length)) (bro (!(elQ r.qs r.at').2.2.1) (bro (decide (r.at'.toNat < r.qs.length)) (some (rA r (.h 2) (.h 3), [SO.sl true false 77 (r.qs.set r.at'.toNat ((elQ r.qs r.at').1, (elQ r.qs r.at').2.1, (elQ r.qs r.at').2.2.1, w, (elQ r.qs r.at').2.2.2.2)), SO.sl true false 5 r.cf])) none) (some (rA r (.h 2) (.h 3), [SO.sl true false 77 r.qs, SO.sl true false 5 r.cf]))) none) none)) none) none) none := by kernel_rfl
theorem wv_13 (r : Rg) (f1 f2 : Bool) (w : Int) : (fVw r f1 f2 13 w).get =
  bro (decide (r.qs.length ≤ (1000 : Nat))) (bro (decide (r.cf.length ≤ (1000 : Nat))) (bro (vR r.k r.o r.g r.s r.se r.at' r.it r.qs r.cf.length) (some (SV.agg [SV.raw (Value.int IntKind.i64 r.k), SV.raw (Value.int IntKind.u64 r.o), SV.raw (Value.int IntKind.u64 r.g), SV.raw (Value.int IntKind.u8 r.s), SV.raw (Value.int IntKind.i64 r.se), SV.raw (Value.int IntKind.i64 r.at'), SV.h (2 : Nat), SV.h (3 : Nat), SV.raw (Value.int IntKind.u8 r.ge), SV.raw (Value.int IntKind.u8 (bitsV IntKind.u8 BinOp.andNot r.it (w % (256 : Int))))], [SO.sl true false (77 : Nat) r.qs, SO.sl true false (5 : Nat) r.cf])) (none)) (none)) (none) := by kernel_rfl
theorem wv_14 (r : Rg) (f1 f2 : Bool) (w : Int) : (fVw r f1 f2 14 w).get =
  bro (decide (r.qs.length ≤ (1000 : Nat))) (bro (decide (r.cf.length ≤ (1000 : Nat))) (bro (rV r) (bro (rokB r.k r.o r.g r.s) (bro (bitsV .u64 .and w 255 % 256 == 0) (bro (bitsV .u64 .and w 255 != 0) (some (rA { r with g := 0, s := 0 } (.h 2) (.h 3), [SO.sl true false 77 r.qs, SO.sl true false 5 r.cf])) (bro ((r.qs.length : Int) == (r.qs.length : Int)) (bro (decide (r.qs.length ≤ (1000 : Nat))) (some (rA { r with g := 0, s := 0, se := 0, at' := 0, it := 0 } (.h 2) (.h 3), [SO.sl true false 77 (opq (r.qs.map zQ)), SO.sl true false 5 r.cf])) none) none)) (bro (bitsV .u64 .and w 255 != 0) (some (rA { r with s := sI (acI r.k r.o r.g) (bitsV .u64 .and w 255 % 256) r.s } (.h 2) (.h 3), [SO.sl true false 77 r.qs, SO.sl true false 5 r.cf])) (bro ((r.qs.length : Int) == (r.qs.length : Int)) (bro (decide (r.qs.length ≤ (1000 : Nat))) (some (rA { r with s := sI (acI r.k r.o r.g) (bitsV .u64 .and w 255 % 256) r.s, se := 0, at' := 0, it := 0 } (.h 2) (.h 3), [SO.sl true false 77 (opq (r.qs.map zQ)), SO.sl true false 5 r.cf])) none) none))) none) none) none) none := by kernel_rfl
theorem wv_3 (r : Rg) (f1 f2 : Bool) (w : Int) : (fVw r f1 f2 3 w).get =
  bro (decide (r.qs.length ≤ (1000 : Nat))) (bro (decide (r.cf.length ≤ (1000 : Nat))) (bro (vR r.k r.o r.g r.s r.se r.at' r.it r.qs r.cf.length) (some (SV.agg [SV.raw (Value.int IntKind.i64 r.k), SV.raw (Value.int IntKind.u64 r.o), SV.raw (Value.int IntKind.u64 r.g), SV.raw (Value.int IntKind.u8 r.s), SV.raw (Value.int IntKind.i64 r.se), SV.raw (Value.int IntKind.i64 r.at'), SV.h (2 : Nat), SV.h (3 : Nat), SV.raw (Value.int IntKind.u8 r.ge), SV.raw (Value.int IntKind.u8 r.it)], [SO.sl true false (77 : Nat) r.qs, SO.sl true false (5 : Nat) r.cf])) (none)) (none)) (none) := by kernel_rfl
theorem wv_6 (r : Rg) (f1 f2 : Bool) (w : Int) : (fVw r f1 f2 6 w).get =
  bro (decide (r.qs.length ≤ (1000 : Nat))) (bro (decide (r.cf.length ≤ (1000 : Nat))) (bro (vR r.k r.o r.g r.s r.se r.at' r.it r.qs r.cf.length) (some (SV.agg [SV.raw (Value.int IntKind.i64 r.k), SV.raw (Value.int IntKind.u64 r.o), SV.raw (Value.int IntKind.u64 r.g), SV.raw (Value.int IntKind.u8 r.s), SV.raw (Value.int IntKind.i64 r.se), SV.raw (Value.int IntKind.i64 r.at'), SV.h (2 : Nat), SV.h (3 : Nat), SV.raw (Value.int IntKind.u8 r.ge), SV.raw (Value.int IntKind.u8 r.it)], [SO.sl true false (77 : Nat) r.qs, SO.sl true false (5 : Nat) r.cf])) (none)) (none)) (none) := by kernel_rfl
theorem wv_12 (r : Rg) (f1 f2 : Bool) (w : Int) : (fVw r f1 f2 12 w).get =
  bro (decide (r.qs.length ≤ (1000 : Nat))) (bro (decide (r.cf.length ≤ (1000 : Nat))) (bro (vR r.k r.o r.g r.s r.se r.at' r.it r.qs r.cf.length) (some (SV.agg [SV.raw (Value.int IntKind.i64 r.k), SV.raw (Value.int IntKind.u64 r.o), SV.raw (Value.int IntKind.u64 r.g), SV.raw (Value.int IntKind.u8 r.s), SV.raw (Value.int IntKind.i64 r.se), SV.raw (Value.int IntKind.i64 r.at'), SV.h (2 : Nat), SV.h (3 : Nat), SV.raw (Value.int IntKind.u8 r.ge), SV.raw (Value.int IntKind.u8 r.it)], [SO.sl true false (77 : Nat) r.qs, SO.sl true false (5 : Nat) r.cf])) (none)) (none)) (none) := by kernel_rfl
theorem wv_15 (r : Rg) (f1 f2 : Bool) (w : Int) : (fVw r f1 f2 15 w).get =
  bro (decide (r.qs.length ≤ (1000 : Nat))) (bro (decide (r.cf.length ≤ (1000 : Nat))) (bro (vR r.k r.o r.g r.s r.se r.at' r.it r.qs r.cf.length) (some (SV.agg [SV.raw (Value.int IntKind.i64 r.k), SV.raw (Value.int IntKind.u64 r.o), SV.raw (Value.int IntKind.u64 r.g), SV.raw (Value.int IntKind.u8 r.s), SV.raw (Value.int IntKind.i64 r.se), SV.raw (Value.int IntKind.i64 r.at'), SV.h (2 : Nat), SV.h (3 : Nat), SV.raw (Value.int IntKind.u8 r.ge), SV.raw (Value.int IntKind.u8 r.it)], [SO.sl true false (77 : Nat) r.qs, SO.sl true false (5 : Nat) r.cf])) (none)) (none)) (none) := by kernel_rfl
theorem wv_16 (r : Rg) (f1 f2 : Bool) (w : Int) : (fVw r f1 f2 16 w).get =
  bro (decide (r.qs.length ≤ (1000 : Nat))) (bro (decide (r.cf.length ≤ (1000 : Nat))) (bro (vR r.k r.o r.g r.s r.se r.at' r.it r.qs r.cf.length) (some (SV.agg [SV.raw (Value.int IntKind.i64 r.k), SV.raw (Value.int IntKind.u64 r.o), SV.raw (Value.int IntKind.u64 r.g), SV.raw (Value.int IntKind.u8 r.s), SV.raw (Value.int IntKind.i64 r.se), SV.raw (Value.int IntKind.i64 r.at'), SV.h (2 : Nat), SV.h (3 : Nat), SV.raw (Value.int IntKind.u8 r.ge), SV.raw (Value.int IntKind.u8 r.it)], [SO.sl true false (77 : Nat) r.qs, SO.sl true false (5 : Nat) r.cf])) (none)) (none)) (none) := by kernel_rfl
theorem wv_10 (r : Rg) (f1 f2 : Bool) (w : Int) : (fVw r f1 f2 10 w).get =
  bro (decide (r.qs.length ≤ (1000 : Nat))) (bro (decide (r.cf.length ≤ (1000 : Nat))) (bro (rV r) (bro (decide ((r.qs.length : Int) ≤ r.at')) (some (rA r (.h 2) (.h 3), [SO.sl true false 77 r.qs, SO.sl true false 5 r.cf])) (bro (Sx.inB r.at' r.qs.length) (bro (decide (r.at'.toNat < r.qs.length)) (bro (!(elQ r.qs r.at').2.2.1) (bro (decide (r.at'.toNat < r.qs.length)) (some (rA r (.h 2) (.h 3), [SO.sl true false 77 (r.qs.set r.at'.toNat ((elQ r.qs r.at').1, (elQ r.qs r.at').2.1, (elQ r.qs r.at').2.2.1, (elQ r.qs r.at').2.2.2.1, w, (elQ r.qs r.at').2.2.2.2.2)), SO.sl true false 5 r.cf])) none) (some (rA r (.h 2) (.h 3), [SO.sl true false 77 r.qs, SO.sl true false 5 r.cf]))) none) none)) none) none) none := by kernel_rfl
theorem wv_11 (r : Rg) (f1 f2 : Bool) (w : Int) : (fVw r f1 f2 11 w).get =
  bro (decide (r.qs.length ≤ (1000 : Nat))) (bro (decide (r.cf.length ≤ (1000 : Nat))) (bro (rV r) (bro (decide ((r.qs.length : Int) ≤ r.at')) (some (rA r (.h 2) (.h 3), [SO.sl true false 77 r.qs, SO.sl true false 5 r.cf])) (bro (Sx.inB r.at' r.qs.length) (bro (decide (r.at'.toNat < r.qs.length)) (bro (!(elQ r.qs r.at').2.2.1) (bro (decide (r.at'.toNat < r.qs.length)) (some (rA r (.h 2) (.h 3), [SO.sl true false 77 (r.qs.set r.at'.toNat ((elQ r.qs r.at').1, (elQ r.qs r.at').2.1, (elQ r.qs r.at').2.2.1, (elQ r.qs r.at').2.2.2.1, (elQ r.qs r.at').2.2.2.2.1, w)), SO.sl true false 5 r.cf])) none) (some (rA r (.h 2) (.h 3), [SO.sl true false 77 r.qs, SO.sl true false 5 r.cf]))) none) none)) none) none) none := by kernel_rfl
theorem wv_x (r : Rg) (f1 f2 : Bool) (n w : Int) : Tr.follow [true, true, true, false, true, true, true, true, true, true, true, true, true, true, true, true, true, true, true, true, false, false, false, false, false, false, false, false, false, false, false, false, false, false, false, false, false] (fVw r f1 f2 n w) =
  some ([decide (r.qs.length ≤ (1000 : Nat)), decide (r.cf.length ≤ (1000 : Nat)), rV r, false, true, true, true, true, true, true, true, true, true, true, true, true, true, true, true, true,
  eqI [n] [(1 : Int)], eqI [n] [(3 : Int)], eqI [n] [(12 : Int)], eqI [n] [(15 : Int)], eqI [n] [(14 : Int)], eqI [n] [(8 : Int)], eqI [n] [(6 : Int)], eqI [n] [(16 : Int)], eqI [n] [(2 : Int)], eqI [n] [(4 : Int)], eqI [n] [(5 : Int)], eqI [n] [(7 : Int)], eqI [n] [(13 : Int)], eqI [n] [(9 : Int)], eqI [n] [(10 : Int)], eqI [n] [(11 : Int)], false],
  (rA r (.h 2) (.h 3), [SO.sl true false 77 r.qs, SO.sl true false 5 r.cf])) := by kernel_rfl
/-! ### what a write does -/
def setQ (r : Rg) (f : Qe → Qe) : Rg := { r with qs := r.qs.set r.at'.toNat (f (elQ r.qs r.at')) }
/-- The queue that is named. -/
def atQ (r : Rg) (f : Qe → Qe) : Rg := if (r.qs.length : Int) ≤ r.at' then r else setQ r f
/-- .. if it is not ready. -/
def opQ (r : Rg) (f : Qe → Qe) : Rg := if (r.qs.length : Int) ≤ r.at' then r else if (elQ r.qs r.at').2.2.1 = true then r else setQ r f
def akI (r : Rg) (w : Int) : Int := bitsV .u64 .or (bitsV .u64 .andNot r.g (shlV .u64 4294967295 (32 * r.se))) (shlV .u64 (bitsV .u64 .and w 4294967295) (32 * r.se))
def lowB (w : Int) : Int := bitsV .u64 .and w 255 % 256
def wF (n w : Int) (r : Rg) : Rg :=
  if n = 2 then (if w ≤ 1 then { r with se := w } else r)
  else if n = 4 then (if (hb r.s 2 && (!hb r.s 8 && akI r w != r.g)) = true then { r with g := akI r w } else r)
  else if n = 5 then (if w ≤ 255 then { r with at' := w } else r)
  else if n = 7 then (if w ≤ (elQ r.qs r.at').1 then opQ r (fun q => (q.1, w, q.2.2)) else r)
  else if n = 8 then (if w = 0 then atQ r (fun q => (q.1, q.2.1, false, q.2.2.2)) else if w = 1 ∧ rdB r.g r.s (elQ r.qs r.at') = true then atQ r (fun q => (q.1, q.2.1, true, q.2.2.2)) else r)
  else if n = 9 then opQ r (fun q => (q.1, q.2.1, q.2.2.1, w, q.2.2.2.2))
  else if n = 10 then opQ r (fun q => (q.1, q.2.1, q.2.2.1, q.2.2.2.1, w, q.2.2.2.2.2))
  else if n = 11 then opQ r (fun q => (q.1, q.2.1, q.2.2.1, q.2.2.2.1, q.2.2.2.2.1, w))
  else if n = 13 then { r with it := bitsV .u8 .andNot r.it (w % 256) }
  else if n = 14 then (if lowB w = 0 then { r with g := 0, s := 0, se := 0, at' := 0, it := 0, qs := opq (r.qs.map zQ) } else { r with s := sI (acI r.k r.o r.g) (lowB w) r.s })
  else r
def wOut (r : Rg) : Option (SV × List (SO C18)) := some (rA r (.h 2) (.h 3), [SO.sl true false 77 r.qs, SO.sl true false 5 r.cf])
section
variable {r : Rg} {f1 f2 : Bool} {w : Int}
theorem rV_len (hv : rV r = true) : decide (r.qs.length ≤ 1000) = true ∧ decide (r.cf.length ≤ 1000) = true := by
  obtain ⟨_, _, _, h1, h2, _⟩ := vR_iff.1 hv
  exact ⟨decide_eq_true (by omega), decide_eq_true (by omega)⟩
theorem w_1 (hv : rV r = true) : (fVw r f1 f2 1 w).get = wOut r := by
  obtain ⟨l1, l2⟩ := rV_len hv
  rw [wv_1, l1, l2]; show bro (rV r) _ _ = _; rw [hv]; rfl
theorem w_3 (hv : rV r = true) : (fVw r f1 f2 3 w).get = wOut r := by
  obtain ⟨l1, l2⟩ := rV_len hv
  rw [wv_3, l1, l2]; show bro (rV r) _ _ = _; rw [hv]; rfl
theorem w_6 (hv : rV r = true) : (fVw r f1 f2 6 w).get = wOut r := by
  obtain ⟨l1, l2⟩ := rV_len hv
  rw [wv_6, l1, l2]; show bro (rV r) _ _ = _; rw [hv]; rfl
theorem w_12 (hv : rV r = true) : (fVw r f1 f2 12 w).get = wOut r := by
  obtain ⟨l1, l2⟩ := rV_len hv
  rw [wv_12, l1, l2]; show bro (rV r) _ _ = _; rw [hv]; rfl
theorem w_15 (hv : rV r = true) : (fVw r f1 f2 15 w).get = wOut r := by
  obtain ⟨l1, l2⟩ := rV_len hv
  rw [wv_15, l1, l2]; show bro (rV r) _ _ = _; rw [hv]; rfl
theorem w_16 (hv : rV r = true) : (fVw r f1 f2 16 w).get = wOut r := by
  obtain ⟨l1, l2⟩ := rV_len hv
  rw [wv_16, l1, l2]; show bro (rV r) _ _ = _; rw [hv]; rfl
theorem w_x (hv : rV r = true) {n : Int} (h : ∀ k : Int, k ∈ [(1 : Int), 3, 12, 15, 14, 8, 6, 16, 2, 4, 5, 7, 13, 9, 10, 11] → n ≠ k) : (fVw r f1 f2 n w).get = wOut r := by
  obtain ⟨l1, l2⟩ := rV_len hv
  have e : ∀ k : Int, k ∈ [(1 : Int), 3, 12, 15, 14, 8, 6, 16, 2, 4, 5, 7, 13, 9, 10, 11] → eqI [n] [k] = false := fun k hk => by
    have := h k hk
    unfold eqI
    simp [this]
  refine Tr.follow_get (wv_x r f1 f2 n w) ?_
  rw [l1, l2, hv, e 1 (by decide), e 3 (by decide), e 12 (by decide), e 15 (by decide), e 14 (by decide), e 8 (by decide), e 6 (by decide), e 16 (by decide), e 2 (by decide), e 4 (by decide), e 5 (by decide), e 7 (by decide), e 13 (by decide), e 9 (by decide), e 10 (by decide), e 11 (by decide)]
theorem w_2 (hv : rV r = true) (hw : 0 ≤ w) : (fVw r f1 f2 2 w).get = wOut (if w ≤ 1 then { r with se := w } else r) := by
  obtain ⟨l1, l2⟩ := rV_len hv
  rw [wv_2, l1, l2]; show bro (rV r) _ _ = _; rw [hv]
  by_cases h : w ≤ 1
  · rw [if_pos h, decide_eq_true h, inR64_mk (r := w) (by omega)]; rfl
  · rw [if_neg h, decide_eq_false h]; rfl
theorem w_5 (hv : rV r = true) (hw : 0 ≤ w) : (fVw r f1 f2 5 w).get = wOut (if w ≤ 255 then { r with at' := w } else r) := by
  obtain ⟨l1, l2⟩ := rV_len hv
  rw [wv_5, l1, l2]; show bro (rV r) _ _ = _; rw [hv]
  by_cases h : w ≤ 255
  · rw [if_pos h, decide_eq_true h, inR64_mk (r := w) (by omega)]; rfl
  · rw [if_neg h, decide_eq_false h]; rfl
theorem w_4 (hv : rV r = true) : (fVw r f1 f2 4 w).get = wOut (if (hb r.s 2 && (!hb r.s 8 && akI r w != r.g)) = true then { r with g := akI r w } else r) := by
  obtain ⟨l1, l2⟩ := rV_len hv
  obtain ⟨hk, hse, _⟩ := vR_iff.1 hv
  rw [wv_4, l1, l2, inR64_mk (r := 32 * r.se) (by omega), decide_eq_false (show ¬ 32 * r.se < 0 by omega), hk]; show bro (rV r) _ _ = _; rw [hv]
  show bro (hb r.s 2 && (!hb r.s 8 && akI r w != r.g)) _ _ = _
  cases (hb r.s 2 && (!hb r.s 8 && akI r w != r.g)) <;> rfl
theorem w_13 (hv : rV r = true) : (fVw r f1 f2 13 w).get = wOut { r with it := bitsV .u8 .andNot r.it (w % 256) } := by
  obtain ⟨l1, l2⟩ := rV_len hv
  rw [wv_13, l1, l2]; show bro (rV r) _ _ = _; rw [hv]; rfl
/-- The named queue stands in the list, if there is one. -/
theorem at_in (hv : rV r = true) (h : ¬ (r.qs.length : Int) ≤ r.at') : Sx.inB r.at' r.qs.length = true ∧ decide (r.at'.toNat < r.qs.length) = true := by
  obtain ⟨_, _, h2, _⟩ := vR_iff.1 hv
  exact ⟨inB_mk ⟨by omega, by omega⟩, decide_eq_true (by omega)⟩
theorem w_9 (hv : rV r = true) : (fVw r f1 f2 9 w).get = wOut (opQ r (fun q => (q.1, q.2.1, q.2.2.1, w, q.2.2.2.2))) := by
  obtain ⟨l1, l2⟩ := rV_len hv
  unfold opQ
  rw [wv_9, l1, l2]; show bro (rV r) _ _ = _; rw [hv]
  by_cases h : (r.qs.length : Int) ≤ r.at'
  · rw [if_pos h, decide_eq_true h]; rfl
  · obtain ⟨a1, a2⟩ := at_in hv h
    rw [if_neg h, decide_eq_false h, a1, a2]
    simp only [setQ]
    show bro (!(elQ r.qs r.at').2.2.1) _ _ = _
    cases (elQ r.qs r.at').2.2.1 <;> rfl
theorem w_10 (hv : rV r = true) : (fVw r f1 f2 10 w).get = wOut (opQ r (fun q => (q.1, q.2.1, q.2.2.1, q.2.2.2.1, w, q.2.2.2.2.2))) := by
  obtain ⟨l1, l2⟩ := rV_len hv
  unfold opQ
  rw [wv_10, l1, l2]; show bro (rV r) _ _ = _; rw [hv]
  by_cases h : (r.qs.length : Int) ≤ r.at'
  · rw [if_pos h, decide_eq_true h]; rfl
  · obtain ⟨a1, a2⟩ := at_in hv h
    rw [if_neg h, decide_eq_false h, a1, a2]
    simp only [setQ]
    show bro (!(elQ r.qs r.at').2.2.1) _ _ = _
    cases (elQ r.qs r.at').2.2.1 <;> rfl
theorem w_11 (hv : rV r = true) : (fVw r f1 f2 11 w).get = wOut (opQ r (fun q => (q.1, q.2.1, q.2.2.1, q.2.2.2.1, q.2.2.2.2.1, w))) := by
  obtain ⟨l1, l2⟩ := rV_len hv
  unfold opQ
  rw [wv_11, l1, l2]; show bro (rV r) _ _ = _; rw [hv]
  by_cases h : (r.qs.length : Int) ≤ r.at'
  · rw [if_pos h, decide_eq_true h]; rfl
  · obtain ⟨a1, a2⟩ := at_in hv h
    rw [if_neg h, decide_eq_false h, a1, a2]
    simp only [setQ]
    show bro (!(elQ r.qs r.at').2.2.1) _ _ = _
    cases (elQ r.qs r.at').2.2.1 <;> rfl
theorem w_7 (hv : rV r = true) (hw : 0 ≤ w) : (fVw r f1 f2 7 w).get = wOut (if w ≤ (elQ r.qs r.at').1 then opQ r (fun q => (q.1, w, q.2.2)) else r) := by
  obtain ⟨l1, l2⟩ := rV_len hv
  rw [wv_7, l1, l2]; show bro (rV r) _ _ = _; rw [hv]
  unfold opQ
  by_cases h : (r.qs.length : Int) ≤ r.at'
  · rw [if_pos h, decide_eq_true h]; simp only [ite_self]; rfl
  · obtain ⟨a1, a2⟩ := at_in hv h
    obtain ⟨_, _, _, _, _, _, hq⟩ := vR_iff.1 hv
    have hm : elQ r.qs r.at' ∈ r.qs := by
      show r.qs.getD r.at'.toNat _ ∈ r.qs
      rw [List.getD_eq_getElem?_getD, List.getElem?_eq_getElem (of_decide_eq_true a2)]
      exact List.getElem_mem _
    have hb := hq _ hm
    unfold badQ at hb
    simp only [Bool.or_eq_false_iff, decide_eq_false_iff_not] at hb
    rw [if_neg h, decide_eq_false h, a1, a2]
    show bro (!(elQ r.qs r.at').2.2.1) (bro true (bro (decide (w ≤ (elQ r.qs r.at').1 % 18446744073709551616)) _ _) _) _ = _
    rw [Int.emod_eq_of_lt (show 0 ≤ (elQ r.qs r.at').1 by omega) (by omega)]
    cases (elQ r.qs r.at').2.2.1 with
    | true => simp only [if_true, ite_self]; rfl
    | false =>
      by_cases hw2 : w ≤ (elQ r.qs r.at').1
      · rw [if_pos hw2, decide_eq_true hw2, inR64_mk (r := w) (by omega)]; rfl
      · rw [if_neg hw2, decide_eq_false hw2]; rfl
theorem w_8 (hv : rV r = true) : (fVw r f1 f2 8 w).get = wOut (if w = 0 then atQ r (fun q => (q.1, q.2.1, false, q.2.2.2)) else if w = 1 ∧ rdB r.g r.s (elQ r.qs r.at') = true then atQ r (fun q => (q.1, q.2.1, true, q.2.2.2)) else r) := by
  obtain ⟨l1, l2⟩ := rV_len hv
  obtain ⟨hk, _⟩ := vR_iff.1 hv
  rw [wv_8, l1, l2]; show bro (rV r) _ _ = _; rw [hv, hk]
  unfold atQ
  by_cases h : (r.qs.length : Int) ≤ r.at'
  · rw [if_pos h, if_pos h, decide_eq_true h]; simp only [ite_self]; rfl
  · obtain ⟨a1, a2⟩ := at_in hv h
    rw [if_neg h, if_neg h, decide_eq_false h, a1, a2]
    by_cases w0 : w = 0
    · rw [if_pos w0, beq_iff_eq.2 w0]; rfl
    · rw [if_neg w0, beq_eq_false_iff_ne.2 w0]
      by_cases w1 : w = 1
      · rw [beq_iff_eq.2 w1]
        show bro (rdB r.g r.s (elQ r.qs r.at')) _ _ = _
        cases hd : rdB r.g r.s (elQ r.qs r.at') with
        | true => rw [if_pos ⟨w1, rfl⟩]; rfl
        | false => rw [if_neg (fun h => by cases h.2)]; rfl
      · rw [if_neg (fun h => w1 h.1), beq_eq_false_iff_ne.2 w1]; rfl
theorem and255 (w : Int) : 0 ≤ bitsV .u64 .and w 255 ∧ bitsV .u64 .and w 255 < 256 := by
  have h : bitsV .u64 .and w 255 = ((BitVec.ofInt 64 w &&& 255#64).toNat : Int) % 18446744073709551616 := rfl
  have h2 : (BitVec.ofInt 64 w &&& 255#64).toNat ≤ 255 := by rw [BitVec.toNat_and]; exact Nat.and_le_right
  rw [h]; omega
theorem w_14 (hv : rV r = true) : (fVw r f1 f2 14 w).get = wOut (if lowB w = 0 then { r with g := 0, s := 0, se := 0, at' := 0, it := 0, qs := opq (r.qs.map zQ) } else { r with s := sI (acI r.k r.o r.g) (lowB w) r.s }) := by
  obtain ⟨l1, l2⟩ := rV_len hv
  obtain ⟨hk, _⟩ := vR_iff.1 hv
  have ha := and255 w
  have e : bitsV .u64 .and w 255 % 256 = bitsV .u64 .and w 255 := Int.emod_eq_of_lt ha.1 ha.2
  rw [wv_14, l1, l2]; show bro (rV r) _ _ = _; rw [hv, hk]
  unfold lowB
  rw [e, beq_self_eq_true]
  by_cases h : bitsV .u64 .and w 255 = 0
  · rw [if_pos h, h]; rfl
  · rw [if_neg h, beq_eq_false_iff_ne.2 h, bne_iff_ne.2 h]; rfl
end
end
end Go.Proofs.Ytknkemjbikbhgaa
