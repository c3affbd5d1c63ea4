/-
  Chapter 18: RegsConfig, ways through the rounds of its outer loop. Own work; nothing here is trusted.
-/
import Derived.Test.YtknkemjbikbhgaaCh18Cg0
namespace Go.Proofs.Ytknkemjbikbhgaa
open Go Go.Sx Go.RowKit
set_option maxRecDepth 1000000
set_option maxHeartbeats 8000000
set_option linter.unusedVariables false
noncomputable section

theorem gvv0_end (fc : Bool) (cfg : List Int) (fb : Bool) (bt : List Int) (l : List Wt) (ws : List Int) (gn : Int) (r : Rg) (k c i : Int) : Tr.follow [false] (gvvR (gvv0 fc cfg fb bt l ws gn r k c i)) =
  some ([decide (i < (↑cfg.length : Int))],
  (.exit 0, gvv0 fc cfg fb bt l ws gn r k c i)) := by kernel_rfl
theorem gvv0_tt (fc : Bool) (cfg : List Int) (fb : Bool) (bt : List Int) (l : List Wt) (ws : List Int) (gn : Int) (r : Rg) (k c i : Int) : Tr.follow [true, true, true, true, true, true, true, true, true, false, true] (gvvR (gvv0 fc cfg fb bt l ws gn r k c i)) =
  some ([decide (i < (↑cfg.length : Int)),
  decide (i < (↑bt.length : Int)),
  Sx.inB i bt.length,
  decide (i.toNat < bt.length),
  true,
  cdec (CGo l r k c (opq (pk3 (bt.getD i.toNat (C18 (3 : TypeId)).d)))),
  decide ((cP l r k c (opq (pk3 (bt.getD i.toNat (C18 (3 : TypeId)).d)))).snd = c.toNat),
  rV r,
  true,
  false,
  inR64 (i + (1 : Int))],
  (.normal, gvv1 fc cfg fb bt l ws gn r [opq (cfAt r.cf i) % 256] (cK l k (opq (pk3 (bt.getD i.toNat (C18 (3 : TypeId)).d)))) c (i + 1))) := by kernel_rfl
theorem gvv0_tf (fc : Bool) (cfg : List Int) (fb : Bool) (bt : List Int) (l : List Wt) (ws : List Int) (gn : Int) (r : Rg) (k c i : Int) : Tr.follow [true, true, true, true, true, true, false, true, true, false, true] (gvvR (gvv0 fc cfg fb bt l ws gn r k c i)) =
  some ([decide (i < (↑cfg.length : Int)),
  decide (i < (↑bt.length : Int)),
  Sx.inB i bt.length,
  decide (i.toNat < bt.length),
  true,
  cdec (CGo l r k c (opq (pk3 (bt.getD i.toNat (C18 (3 : TypeId)).d)))),
  decide ((cP l r k c (opq (pk3 (bt.getD i.toNat (C18 (3 : TypeId)).d)))).snd = c.toNat),
  rV (cP l r k c (opq (pk3 (bt.getD i.toNat (C18 (3 : TypeId)).d)))).fst,
  true,
  false,
  inR64 (i + (1 : Int))],
  (.normal, gvv2 fc cfg fb bt l ws gn r (cP l r k c (opq (pk3 (bt.getD i.toNat (C18 (3 : TypeId)).d)))).1 [opq (cfAt (cP l r k c (opq (pk3 (bt.getD i.toNat (C18 (3 : TypeId)).d)))).1.cf i) % 256] (cK l k (opq (pk3 (bt.getD i.toNat (C18 (3 : TypeId)).d)))) ((cP l r k c (opq (pk3 (bt.getD i.toNat (C18 (3 : TypeId)).d)))).2 : Int) (i + 1))) := by kernel_rfl
theorem gvv0_ft (fc : Bool) (cfg : List Int) (fb : Bool) (bt : List Int) (l : List Wt) (ws : List Int) (gn : Int) (r : Rg) (k c i : Int) : Tr.follow [true, false, true, true, true, true, false, true] (gvvR (gvv0 fc cfg fb bt l ws gn r k c i)) =
  some ([decide (i < (↑cfg.length : Int)),
  decide (i < (↑bt.length : Int)),
  cdec (CGo l r k c (0 : Int)),
  decide ((cP l r k c (0 : Int)).snd = c.toNat),
  rV r,
  true,
  false,
  inR64 (i + (1 : Int))],
  (.normal, gvv1 fc cfg fb bt l ws gn r [opq (cfAt r.cf i) % 256] (cK l k (0 : Int)) c (i + 1))) := by kernel_rfl
theorem gvv0_ff (fc : Bool) (cfg : List Int) (fb : Bool) (bt : List Int) (l : List Wt) (ws : List Int) (gn : Int) (r : Rg) (k c i : Int) : Tr.follow [true, false, true, false, true, true, false, true] (gvvR (gvv0 fc cfg fb bt l ws gn r k c i)) =
  some ([decide (i < (↑cfg.length : Int)),
  decide (i < (↑bt.length : Int)),
  cdec (CGo l r k c (0 : Int)),
  decide ((cP l r k c (0 : Int)).snd = c.toNat),
  rV (cP l r k c (0 : Int)).fst,
  true,
  false,
  inR64 (i + (1 : Int))],
  (.normal, gvv2 fc cfg fb bt l ws gn r (cP l r k c (0 : Int)).1 [opq (cfAt (cP l r k c (0 : Int)).1.cf i) % 256] (cK l k (0 : Int)) ((cP l r k c (0 : Int)).2 : Int) (i + 1))) := by kernel_rfl
theorem gvv1_end (fc : Bool) (cfg : List Int) (fb : Bool) (bt : List Int) (l : List Wt) (ws : List Int) (gn : Int) (r : Rg) (got : List Int) (k c i : Int) : Tr.follow [false] (gvvR (gvv1 fc cfg fb bt l ws gn r got k c i)) =
  some ([decide (i < (↑cfg.length : Int))],
  (.exit 0, gvv1 fc cfg fb bt l ws gn r got k c i)) := by kernel_rfl
theorem gvv1_tt (fc : Bool) (cfg : List Int) (fb : Bool) (bt : List Int) (l : List Wt) (ws : List Int) (gn : Int) (r : Rg) (got : List Int) (k c i : Int) : Tr.follow [true, true, true, true, true, true, true, true, true, true] (gvvR (gvv1 fc cfg fb bt l ws gn r got k c i)) =
  some ([decide (i < (↑cfg.length : Int)),
  decide (i < (↑bt.length : Int)),
  Sx.inB i bt.length,
  decide (i.toNat < bt.length),
  true,
  cdec (CGo l r k c (opq (pk3 (bt.getD i.toNat (C18 (3 : TypeId)).d)))),
  decide ((cP l r k c (opq (pk3 (bt.getD i.toNat (C18 (3 : TypeId)).d)))).snd = c.toNat),
  rV r,
  roomB (got.length + [opq (cfAt (r.cf) i) % (256 : Int)].length) Try.prog.types[(5 : Nat)].bytes,
  inR64 (i + (1 : Int))],
  (.normal, gvv1 fc cfg fb bt l ws gn r (got ++ [opq (cfAt r.cf i) % 256]) (cK l k (opq (pk3 (bt.getD i.toNat (C18 (3 : TypeId)).d)))) c (i + 1))) := by kernel_rfl
theorem gvv1_tf (fc : Bool) (cfg : List Int) (fb : Bool) (bt : List Int) (l : List Wt) (ws : List Int) (gn : Int) (r : Rg) (got : List Int) (k c i : Int) : Tr.follow [true, true, true, true, true, true, false, true, true, true] (gvvR (gvv1 fc cfg fb bt l ws gn r got k c i)) =
  some ([decide (i < (↑cfg.length : Int)),
  decide (i < (↑bt.length : Int)),
  Sx.inB i bt.length,
  decide (i.toNat < bt.length),
  true,
  cdec (CGo l r k c (opq (pk3 (bt.getD i.toNat (C18 (3 : TypeId)).d)))),
  decide ((cP l r k c (opq (pk3 (bt.getD i.toNat (C18 (3 : TypeId)).d)))).snd = c.toNat),
  rV (cP l r k c (opq (pk3 (bt.getD i.toNat (C18 (3 : TypeId)).d)))).fst,
  roomB (got.length + [opq (cfAt (cP l r k c (opq (pk3 (bt.getD i.toNat (C18 (3 : TypeId)).d)))).fst.cf i) % (256 : Int)].length) Try.prog.types[(5 : Nat)].bytes,
  inR64 (i + (1 : Int))],
  (.normal, gvv2 fc cfg fb bt l ws gn r (cP l r k c (opq (pk3 (bt.getD i.toNat (C18 (3 : TypeId)).d)))).1 (got ++ [opq (cfAt (cP l r k c (opq (pk3 (bt.getD i.toNat (C18 (3 : TypeId)).d)))).1.cf i) % 256]) (cK l k (opq (pk3 (bt.getD i.toNat (C18 (3 : TypeId)).d)))) ((cP l r k c (opq (pk3 (bt.getD i.toNat (C18 (3 : TypeId)).d)))).2 : Int) (i + 1))) := by kernel_rfl
theorem gvv1_ft (fc : Bool) (cfg : List Int) (fb : Bool) (bt : List Int) (l : List Wt) (ws : List Int) (gn : Int) (r : Rg) (got : List Int) (k c i : Int) : Tr.follow [true, false, true, true, true, true, true] (gvvR (gvv1 fc cfg fb bt l ws gn r got k c i)) =
  some ([decide (i < (↑cfg.length : Int)),
  decide (i < (↑bt.length : Int)),
  cdec (CGo l r k c (0 : Int)),
  decide ((cP l r k c (0 : Int)).snd = c.toNat),
  rV r,
  roomB (got.length + [opq (cfAt (r.cf) i) % (256 : Int)].length) Try.prog.types[(5 : Nat)].bytes,
  inR64 (i + (1 : Int))],
  (.normal, gvv1 fc cfg fb bt l ws gn r (got ++ [opq (cfAt r.cf i) % 256]) (cK l k (0 : Int)) c (i + 1))) := by kernel_rfl
theorem gvv1_ff (fc : Bool) (cfg : List Int) (fb : Bool) (bt : List Int) (l : List Wt) (ws : List Int) (gn : Int) (r : Rg) (got : List Int) (k c i : Int) : Tr.follow [true, false, true, false, true, true, true] (gvvR (gvv1 fc cfg fb bt l ws gn r got k c i)) =
  some ([decide (i < (↑cfg.length : Int)),
  decide (i < (↑bt.length : Int)),
  cdec (CGo l r k c (0 : Int)),
  decide ((cP l r k c (0 : Int)).snd = c.toNat),
  rV (cP l r k c (0 : Int)).fst,
  roomB (got.length + [opq (cfAt (cP l r k c (0 : Int)).fst.cf i) % (256 : Int)].length) Try.prog.types[(5 : Nat)].bytes,
  inR64 (i + (1 : Int))],
  (.normal, gvv2 fc cfg fb bt l ws gn r (cP l r k c (0 : Int)).1 (got ++ [opq (cfAt (cP l r k c (0 : Int)).1.cf i) % 256]) (cK l k (0 : Int)) ((cP l r k c (0 : Int)).2 : Int) (i + 1))) := by kernel_rfl
theorem gvv2_end (fc : Bool) (cfg : List Int) (fb : Bool) (bt : List Int) (l : List Wt) (ws : List Int) (gn : Int) (r : Rg) (x : Rg) (got : List Int) (k c i : Int) : Tr.follow [false] (gvvR (gvv2 fc cfg fb bt l ws gn r x got k c i)) =
  some ([decide (i < (↑cfg.length : Int))],
  (.exit 0, gvv2 fc cfg fb bt l ws gn r x got k c i)) := by kernel_rfl
theorem gvv2_tt (fc : Bool) (cfg : List Int) (fb : Bool) (bt : List Int) (l : List Wt) (ws : List Int) (gn : Int) (r : Rg) (x : Rg) (got : List Int) (k c i : Int) : Tr.follow [true, true, true, true, true, true, true, true, true, true] (gvvR (gvv2 fc cfg fb bt l ws gn r x got k c i)) =
  some ([decide (i < (↑cfg.length : Int)),
  decide (i < (↑bt.length : Int)),
  Sx.inB i bt.length,
  decide (i.toNat < bt.length),
  true,
  cdec (CGo l x k c (opq (pk3 (bt.getD i.toNat (C18 (3 : TypeId)).d)))),
  decide ((cP l x k c (opq (pk3 (bt.getD i.toNat (C18 (3 : TypeId)).d)))).snd = c.toNat),
  rV x,
  roomB (got.length + [opq (cfAt (x.cf) i) % (256 : Int)].length) Try.prog.types[(5 : Nat)].bytes,
  inR64 (i + (1 : Int))],
  (.normal, gvv2 fc cfg fb bt l ws gn r x (got ++ [opq (cfAt x.cf i) % 256]) (cK l k (opq (pk3 (bt.getD i.toNat (C18 (3 : TypeId)).d)))) c (i + 1))) := by kernel_rfl
theorem gvv2_tf (fc : Bool) (cfg : List Int) (fb : Bool) (bt : List Int) (l : List Wt) (ws : List Int) (gn : Int) (r : Rg) (x : Rg) (got : List Int) (k c i : Int) : Tr.follow [true, true, true, true, true, true, false, true, true, true] (gvvR (gvv2 fc cfg fb bt l ws gn r x got k c i)) =
  some ([decide (i < (↑cfg.length : Int)),
  decide (i < (↑bt.length : Int)),
  Sx.inB i bt.length,
  decide (i.toNat < bt.length),
  true,
  cdec (CGo l x k c (opq (pk3 (bt.getD i.toNat (C18 (3 : TypeId)).d)))),
  decide ((cP l x k c (opq (pk3 (bt.getD i.toNat (C18 (3 : TypeId)).d)))).snd = c.toNat),
  rV (cP l x k c (opq (pk3 (bt.getD i.toNat (C18 (3 : TypeId)).d)))).fst,
  roomB (got.length + [opq (cfAt (cP l x k c (opq (pk3 (bt.getD i.toNat (C18 (3 : TypeId)).d)))).fst.cf i) % (256 : Int)].length) Try.prog.types[(5 : Nat)].bytes,
  inR64 (i + (1 : Int))],
  (.normal, gvv2 fc cfg fb bt l ws gn r (cP l x k c (opq (pk3 (bt.getD i.toNat (C18 (3 : TypeId)).d)))).1 (got ++ [opq (cfAt (cP l x k c (opq (pk3 (bt.getD i.toNat (C18 (3 : TypeId)).d)))).1.cf i) % 256]) (cK l k (opq (pk3 (bt.getD i.toNat (C18 (3 : TypeId)).d)))) ((cP l x k c (opq (pk3 (bt.getD i.toNat (C18 (3 : TypeId)).d)))).2 : Int) (i + 1))) := by kernel_rfl
theorem gvv2_ft (fc : Bool) (cfg : List Int) (fb : Bool) (bt : List Int) (l : List Wt) (ws : List Int) (gn : Int) (r : Rg) (x : Rg) (got : List Int) (k c i : Int) : Tr.follow [true, false, true, true, true, true, true] (gvvR (gvv2 fc cfg fb bt l ws gn r x got k c i)) =
  some ([decide (i < (↑cfg.length : Int)),
  decide (i < (↑bt.length : Int)),
  cdec (CGo l x k c (0 : Int)),
  decide ((cP l x k c (0 : Int)).snd = c.toNat),
  rV x,
  roomB (got.length + [opq (cfAt (x.cf) i) % (256 : Int)].length) Try.prog.types[(5 : Nat)].bytes,
  inR64 (i + (1 : Int))],
  (.normal, gvv2 fc cfg fb bt l ws gn r x (got ++ [opq (cfAt x.cf i) % 256]) (cK l k (0 : Int)) c (i + 1))) := by kernel_rfl
theorem gvv2_ff (fc : Bool) (cfg : List Int) (fb : Bool) (bt : List Int) (l : List Wt) (ws : List Int) (gn : Int) (r : Rg) (x : Rg) (got : List Int) (k c i : Int) : Tr.follow [true, false, true, false, true, true, true] (gvvR (gvv2 fc cfg fb bt l ws gn r x got k c i)) =
  some ([decide (i < (↑cfg.length : Int)),
  decide (i < (↑bt.length : Int)),
  cdec (CGo l x k c (0 : Int)),
  decide ((cP l x k c (0 : Int)).snd = c.toNat),
  rV (cP l x k c (0 : Int)).fst,
  roomB (got.length + [opq (cfAt (cP l x k c (0 : Int)).fst.cf i) % (256 : Int)].length) Try.prog.types[(5 : Nat)].bytes,
  inR64 (i + (1 : Int))],
  (.normal, gvv2 fc cfg fb bt l ws gn r (cP l x k c (0 : Int)).1 (got ++ [opq (cfAt (cP l x k c (0 : Int)).1.cf i) % 256]) (cK l k (0 : Int)) ((cP l x k c (0 : Int)).2 : Int) (i + 1))) := by kernel_rfl
theorem gnv0_end (fc : Bool) (cfg : List Int) (l : List Wt) (ws : List Int) (gn : Int) (r : Rg) (k c i : Int) : Tr.follow [false] (gnvR (gnv0 fc cfg l ws gn r k c i)) =
  some ([decide (i < (↑cfg.length : Int))],
  (.exit 0, gnv0 fc cfg l ws gn r k c i)) := by kernel_rfl
theorem gnv0_x (fc : Bool) (cfg : List Int) (l : List Wt) (ws : List Int) (gn : Int) (r : Rg) (k c i : Int) : Tr.follow [true, false, true, true, true, true, false, true] (gnvR (gnv0 fc cfg l ws gn r k c i)) =
  some ([decide (i < (↑cfg.length : Int)),
  decide (i < (↑(0 : Nat) : Int)),
  cdec (CGo l r k c (0 : Int)),
  decide ((cP l r k c (0 : Int)).snd = c.toNat),
  rV r,
  true,
  false,
  inR64 (i + (1 : Int))],
  (.normal, gnv1 fc cfg l ws gn r [opq (cfAt r.cf i) % 256] (cK l k 0) c (i + 1))) := by kernel_rfl
theorem gnv1_end (fc : Bool) (cfg : List Int) (l : List Wt) (ws : List Int) (gn : Int) (r : Rg) (got : List Int) (k c i : Int) : Tr.follow [false] (gnvR (gnv1 fc cfg l ws gn r got k c i)) =
  some ([decide (i < (↑cfg.length : Int))],
  (.exit 0, gnv1 fc cfg l ws gn r got k c i)) := by kernel_rfl
theorem gnv1_x (fc : Bool) (cfg : List Int) (l : List Wt) (ws : List Int) (gn : Int) (r : Rg) (got : List Int) (k c i : Int) : Tr.follow [true, false, true, true, true, true, true] (gnvR (gnv1 fc cfg l ws gn r got k c i)) =
  some ([decide (i < (↑cfg.length : Int)),
  decide (i < (↑(0 : Nat) : Int)),
  cdec (CGo l r k c (0 : Int)),
  decide ((cP l r k c (0 : Int)).snd = c.toNat),
  rV r,
  roomB (got.length + [opq (cfAt (r.cf) i) % (256 : Int)].length) Try.prog.types[(5 : Nat)].bytes,
  inR64 (i + (1 : Int))],
  (.normal, gnv1 fc cfg l ws gn r (got ++ [opq (cfAt r.cf i) % 256]) (cK l k 0) c (i + 1))) := by kernel_rfl
theorem gvn0_end (fc : Bool) (cfg : List Int) (fb : Bool) (bt : List Int) (ws : List Int) (gn : Int) (r : Rg) (k c i : Int) : Tr.follow [false] (gvnR (gvn0 fc cfg fb bt ws gn r k c i)) =
  some ([decide (i < (↑cfg.length : Int))],
  (.exit 0, gvn0 fc cfg fb bt ws gn r k c i)) := by kernel_rfl
theorem gvn0_tt (fc : Bool) (cfg : List Int) (fb : Bool) (bt : List Int) (ws : List Int) (gn : Int) (r : Rg) (k c i : Int) : Tr.follow [true, true, true, true, true, true, true, true, true, false, true, true, false, true] (gvnR (gvn0 fc cfg fb bt ws gn r k c i)) =
  some ([decide (i < (↑cfg.length : Int)),
  decide (i < (↑bt.length : Int)),
  Sx.inB i bt.length,
  decide (i.toNat < bt.length),
  true,
  decide ((0 : Int) < opq (pk3 (bt.getD i.toNat (C18 (3 : TypeId)).d))),
  true,
  true,
  true,
  decide (k < (↑(0 : Nat) : Int)),
  rV r,
  true,
  false,
  inR64 (i + (1 : Int))],
  (.normal, gvn1 fc cfg fb bt ws gn r [opq (cfAt r.cf i) % 256] k c (i + 1))) := by kernel_rfl
theorem gvn0_tf (fc : Bool) (cfg : List Int) (fb : Bool) (bt : List Int) (ws : List Int) (gn : Int) (r : Rg) (k c i : Int) : Tr.follow [true, true, true, true, true, false, false, false, false, false, false, true, true, false, true] (gvnR (gvn0 fc cfg fb bt ws gn r k c i)) =
  some ([decide (i < (↑cfg.length : Int)),
  decide (i < (↑bt.length : Int)),
  Sx.inB i bt.length,
  decide (i.toNat < bt.length),
  true,
  decide ((0 : Int) < opq (pk3 (bt.getD i.toNat (C18 (3 : TypeId)).d))),
  false,
  false,
  false,
  false,
  false,
  rV r,
  true,
  false,
  inR64 (i + (1 : Int))],
  (.normal, gvn1 fc cfg fb bt ws gn r [opq (cfAt r.cf i) % 256] k c (i + 1))) := by kernel_rfl
theorem gvn0_f (fc : Bool) (cfg : List Int) (fb : Bool) (bt : List Int) (ws : List Int) (gn : Int) (r : Rg) (k c i : Int) : Tr.follow [true, false, false, false, false, false, false, false, true, true, false, true] (gvnR (gvn0 fc cfg fb bt ws gn r k c i)) =
  some ([decide (i < (↑cfg.length : Int)),
  decide (i < (↑bt.length : Int)),
  false,
  false,
  false,
  false,
  false,
  false,
  rV r,
  true,
  false,
  inR64 (i + (1 : Int))],
  (.normal, gvn1 fc cfg fb bt ws gn r [opq (cfAt r.cf i) % 256] k c (i + 1))) := by kernel_rfl
theorem gvn1_end (fc : Bool) (cfg : List Int) (fb : Bool) (bt : List Int) (ws : List Int) (gn : Int) (r : Rg) (got : List Int) (k c i : Int) : Tr.follow [false] (gvnR (gvn1 fc cfg fb bt ws gn r got k c i)) =
  some ([decide (i < (↑cfg.length : Int))],
  (.exit 0, gvn1 fc cfg fb bt ws gn r got k c i)) := by kernel_rfl
theorem gvn1_tt (fc : Bool) (cfg : List Int) (fb : Bool) (bt : List Int) (ws : List Int) (gn : Int) (r : Rg) (got : List Int) (k c i : Int) : Tr.follow [true, true, true, true, true, true, true, true, true, false, true, true, true] (gvnR (gvn1 fc cfg fb bt ws gn r got k c i)) =
  some ([decide (i < (↑cfg.length : Int)),
  decide (i < (↑bt.length : Int)),
  Sx.inB i bt.length,
  decide (i.toNat < bt.length),
  true,
  decide ((0 : Int) < opq (pk3 (bt.getD i.toNat (C18 (3 : TypeId)).d))),
  true,
  true,
  true,
  decide (k < (↑(0 : Nat) : Int)),
  rV r,
  roomB (got.length + [opq (cfAt r.cf i) % (256 : Int)].length) Try.prog.types[(5 : Nat)].bytes,
  inR64 (i + (1 : Int))],
  (.normal, gvn1 fc cfg fb bt ws gn r (got ++ [opq (cfAt r.cf i) % 256]) k c (i + 1))) := by kernel_rfl
theorem gvn1_tf (fc : Bool) (cfg : List Int) (fb : Bool) (bt : List Int) (ws : List Int) (gn : Int) (r : Rg) (got : List Int) (k c i : Int) : Tr.follow [true, true, true, true, true, false, false, false, false, false, false, true, true, true] (gvnR (gvn1 fc cfg fb bt ws gn r got k c i)) =
  some ([decide (i < (↑cfg.length : Int)),
  decide (i < (↑bt.length : Int)),
  Sx.inB i bt.length,
  decide (i.toNat < bt.length),
  true,
  decide ((0 : Int) < opq (pk3 (bt.getD i.toNat (C18 (3 : TypeId)).d))),
  false,
  false,
  false,
  false,
  false,
  rV r,
  roomB (got.length + [opq (cfAt r.cf i) % (256 : Int)].length) Try.prog.types[(5 : Nat)].bytes,
  inR64 (i + (1 : Int))],
  (.normal, gvn1 fc cfg fb bt ws gn r (got ++ [opq (cfAt r.cf i) % 256]) k c (i + 1))) := by kernel_rfl
theorem gvn1_f (fc : Bool) (cfg : List Int) (fb : Bool) (bt : List Int) (ws : List Int) (gn : Int) (r : Rg) (got : List Int) (k c i : Int) : Tr.follow [true, false, false, false, false, false, false, false, true, true, true] (gvnR (gvn1 fc cfg fb bt ws gn r got k c i)) =
  some ([decide (i < (↑cfg.length : Int)),
  decide (i < (↑bt.length : Int)),
  false,
  false,
  false,
  false,
  false,
  false,
  rV r,
  roomB (got.length + [opq (cfAt r.cf i) % (256 : Int)].length) Try.prog.types[(5 : Nat)].bytes,
  inR64 (i + (1 : Int))],
  (.normal, gvn1 fc cfg fb bt ws gn r (got ++ [opq (cfAt r.cf i) % 256]) k c (i + 1))) := by kernel_rfl
theorem gnn0_end (fc : Bool) (cfg : List Int) (ws : List Int) (gn : Int) (r : Rg) (k c i : Int) : Tr.follow [false] (gnnR (gnn0 fc cfg ws gn r k c i)) =
  some ([decide (i < (↑cfg.length : Int))],
  (.exit 0, gnn0 fc cfg ws gn r k c i)) := by kernel_rfl
theorem gnn0_x (fc : Bool) (cfg : List Int) (ws : List Int) (gn : Int) (r : Rg) (k c i : Int) : Tr.follow [true, false, false, false, false, false, false, false, true, true, false, true] (gnnR (gnn0 fc cfg ws gn r k c i)) =
  some ([decide (i < (↑cfg.length : Int)),
  decide (i < (↑(0 : Nat) : Int)),
  false,
  false,
  false,
  false,
  false,
  false,
  rV r,
  true,
  false,
  inR64 (i + (1 : Int))],
  (.normal, gnn1 fc cfg ws gn r [opq (cfAt r.cf i) % 256] k c (i + 1))) := by kernel_rfl
theorem gnn1_end (fc : Bool) (cfg : List Int) (ws : List Int) (gn : Int) (r : Rg) (got : List Int) (k c i : Int) : Tr.follow [false] (gnnR (gnn1 fc cfg ws gn r got k c i)) =
  some ([decide (i < (↑cfg.length : Int))],
  (.exit 0, gnn1 fc cfg ws gn r got k c i)) := by kernel_rfl
theorem gnn1_x (fc : Bool) (cfg : List Int) (ws : List Int) (gn : Int) (r : Rg) (got : List Int) (k c i : Int) : Tr.follow [true, false, false, false, false, false, false, false, true, true, true] (gnnR (gnn1 fc cfg ws gn r got k c i)) =
  some ([decide (i < (↑cfg.length : Int)),
  decide (i < (↑(0 : Nat) : Int)),
  false,
  false,
  false,
  false,
  false,
  false,
  rV r,
  roomB (got.length + [opq (cfAt r.cf i) % (256 : Int)].length) Try.prog.types[(5 : Nat)].bytes,
  inR64 (i + (1 : Int))],
  (.normal, gnn1 fc cfg ws gn r (got ++ [opq (cfAt r.cf i) % 256]) k c (i + 1))) := by kernel_rfl
end
end Go.Proofs.Ytknkemjbikbhgaa
