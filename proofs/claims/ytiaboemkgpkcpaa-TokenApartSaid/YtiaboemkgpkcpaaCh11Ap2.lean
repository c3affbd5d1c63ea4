/-
  Chapter 11: TokenApart, its ways; what it computes. Own work; nothing here is trusted.
-/
import Derived.Test.YtiaboemkgpkcpaaCh11Ap1
import Derived.Test.YtiaboemkgpkcpaaCh11Law
namespace Go.Proofs.Ytiaboemkgpkcpaa
open Go Go.Sx Go.RowKit
set_option maxRecDepth 1000000
set_option maxHeartbeats 8000000
set_option linter.unusedVariables false
set_option linter.unusedSimpArgs false
noncomputable section
abbrev kA (i : Int) (L : List Tk) : Int := pkM i (L.length : Int)
abbrev oN (i : Int) (L : List Tk) : List Tk := oneL L L.length (kA i L)
abbrev s1 (i : Int) (L : List Tk) : List Tk := L.set (kA i L).toNat ((L.getD (kA i L + 1).toNat tk0).1, (L.getD (kA i L + 1).toNat tk0).2.1, (L.getD (kA i L + 1).toNat tk0).2.2)
abbrev s2 (i : Int) (L : List Tk) : List Tk := (s1 i L).set (kA i L + 1).toNat ((L.getD (kA i L).toNat tk0).1, (L.getD (kA i L).toNat tk0).2.1, (L.getD (kA i L).toNat tk0).2.2)
abbrev lC (es : List Tk) : List Tk := cutL es none (some (rK es))

theorem ap_0 (f : Bool) (es : List Tk) (i : Int) : Tr.follow [false, true] (fA f es i) =
  some ([false,
  decide ((100 : Int) < (↑es.length : Int))],
  (SV.raw (Value.bool true), [])) := by kernel_rfl
theorem ap_e (f : Bool) (es : List Tk) (i : Int) : Tr.follow [false, false, true, true, true, true, false, true] (fA f es i) =
  some ([false,
  decide ((100 : Int) < (↑es.length : Int)),
  roomB (([] : List Tk).length + es.length) Try.prog.types[(34 : Nat)].bytes,
  decide (es.length ≤ (1000 : Nat)),
  rC es == (0 : Int),
  nilB es,
  false,
  (↑es.length : Int) == (0 : Int)],
  (SV.raw (Value.bool true), [])) := by kernel_rfl
theorem ap_l (f : Bool) (es : List Tk) (i : Int) : Tr.follow [false, false, true, true, true, false, false, false, true, true, false, true, true, false, false, false, false, false, false, true, false, false, true, false, true, false, false, false, false, true, false, false, true, false, true, false, false, true, true, true, true, true, true, true, true, true, true, true, true, true, true, true, true] (fA f es i) =
  some ([false,
  decide ((100 : Int) < (↑es.length : Int)),
  roomB (([] : List Tk).length + es.length) Try.prog.types[(34 : Nat)].bytes,
  decide (es.length ≤ (1000 : Nat)),
  rC es == (0 : Int),
  nilB es,
  false,
  (↑es.length : Int) == (0 : Int),
  decide ((0 : Int) < (↑es.length : Int) ∧ (↑es.length : Int) ≤ (100000 : Int)),
  decide ((0 : Int) ≤ (kA i es) ∧ (kA i es) < (↑es.length : Int) ∧ es.length ≤ (1000 : Nat)),
  nilB (oN i es),
  decide ((oN i es).length ≤ (1000 : Nat)),
  rC (oN i es) == (0 : Int),
  nilB (oN i es),
  false,
  false,
  false,
  false,
  false,
  inB (kA i es) es.length,
  false,
  false,
  decide ((kA i es).toNat < es.length),
  false,
  decide ((rT (oN i es)).length ≤ (100000 : Nat)),
  false,
  false,
  false,
  false,
  inB (kA i es) es.length,
  false,
  false,
  decide ((kA i es).toNat < es.length),
  false,
  decide ((rT es).length ≤ (100000 : Nat)),
  false,
  stA (rT (oN i es)) (es.getD (kA i es).toNat tk0).snd.fst != stA (rT es) (es.getD (kA i es).toNat tk0).snd.fst,
  inR64 ((kA i es) + (1 : Int)),
  (kA i es) + (1 : Int) == (↑es.length : Int),
  true,
  true,
  true,
  true,
  true,
  true,
  true,
  true,
  true,
  true,
  true,
  true,
  true,
  true],
  (SV.raw (Value.bool true), [])) := by kernel_rfl
theorem ap_s (f : Bool) (es : List Tk) (i : Int) : Tr.follow [false, false, true, true, true, false, false, false, true, true, false, true, true, false, false, false, false, false, false, true, false, false, true, false, true, false, false, false, false, true, false, false, true, false, true, false, false, true, false, false, false, false, true, false, false, true, false, false, false, true, false, true, false, false, true, false, true] (fA f es i) =
  some ([false,
  decide ((100 : Int) < (↑es.length : Int)),
  roomB (([] : List Tk).length + es.length) Try.prog.types[(34 : Nat)].bytes,
  decide (es.length ≤ (1000 : Nat)),
  rC es == (0 : Int),
  nilB es,
  false,
  (↑es.length : Int) == (0 : Int),
  decide ((0 : Int) < (↑es.length : Int) ∧ (↑es.length : Int) ≤ (100000 : Int)),
  decide ((0 : Int) ≤ (kA i es) ∧ (kA i es) < (↑es.length : Int) ∧ es.length ≤ (1000 : Nat)),
  nilB (oN i es),
  decide ((oN i es).length ≤ (1000 : Nat)),
  rC (oN i es) == (0 : Int),
  nilB (oN i es),
  false,
  false,
  false,
  false,
  false,
  inB (kA i es) es.length,
  false,
  false,
  decide ((kA i es).toNat < es.length),
  false,
  decide ((rT (oN i es)).length ≤ (100000 : Nat)),
  false,
  false,
  false,
  false,
  inB (kA i es) es.length,
  false,
  false,
  decide ((kA i es).toNat < es.length),
  false,
  decide ((rT es).length ≤ (100000 : Nat)),
  false,
  stA (rT (oN i es)) (es.getD (kA i es).toNat tk0).snd.fst != stA (rT es) (es.getD (kA i es).toNat tk0).snd.fst,
  inR64 ((kA i es) + (1 : Int)),
  (kA i es) + (1 : Int) == (↑es.length : Int),
  false,
  false,
  false,
  inB (kA i es) es.length,
  false,
  false,
  decide ((kA i es).toNat < es.length),
  false,
  false,
  false,
  inR64 ((kA i es) + (1 : Int)),
  false,
  inB ((kA i es) + (1 : Int)) es.length,
  false,
  false,
  decide (((kA i es) + (1 : Int)).toNat < es.length),
  false,
  (es.getD (kA i es).toNat tk0).snd.fst == (es.getD ((kA i es) + (1 : Int)).toNat tk0).snd.fst],
  (SV.raw (Value.bool true), [])) := by kernel_rfl
theorem ap_d (f : Bool) (es : List Tk) (i : Int) : Tr.follow [false, false, true, true, true, false, false, false, true, true, false, true, true, false, false, false, false, false, false, true, false, false, true, false, true, false, false, false, false, true, false, false, true, false, true, false, false, true, false, false, false, false, true, false, false, true, false, false, false, true, false, true, false, false, true, false, false, true, true, true, true, true, true, true, true, true, true, true, true, true, false, true, true, true, true] (fA f es i) =
  some ([false,
  decide ((100 : Int) < (↑es.length : Int)),
  roomB (([] : List Tk).length + es.length) Try.prog.types[(34 : Nat)].bytes,
  decide (es.length ≤ (1000 : Nat)),
  rC es == (0 : Int),
  nilB es,
  false,
  (↑es.length : Int) == (0 : Int),
  decide ((0 : Int) < (↑es.length : Int) ∧ (↑es.length : Int) ≤ (100000 : Int)),
  decide ((0 : Int) ≤ (kA i es) ∧ (kA i es) < (↑es.length : Int) ∧ es.length ≤ (1000 : Nat)),
  nilB (oN i es),
  decide ((oN i es).length ≤ (1000 : Nat)),
  rC (oN i es) == (0 : Int),
  nilB (oN i es),
  false,
  false,
  false,
  false,
  false,
  inB (kA i es) es.length,
  false,
  false,
  decide ((kA i es).toNat < es.length),
  false,
  decide ((rT (oN i es)).length ≤ (100000 : Nat)),
  false,
  false,
  false,
  false,
  inB (kA i es) es.length,
  false,
  false,
  decide ((kA i es).toNat < es.length),
  false,
  decide ((rT es).length ≤ (100000 : Nat)),
  false,
  stA (rT (oN i es)) (es.getD (kA i es).toNat tk0).snd.fst != stA (rT es) (es.getD (kA i es).toNat tk0).snd.fst,
  inR64 ((kA i es) + (1 : Int)),
  (kA i es) + (1 : Int) == (↑es.length : Int),
  false,
  false,
  false,
  inB (kA i es) es.length,
  false,
  false,
  decide ((kA i es).toNat < es.length),
  false,
  false,
  false,
  inR64 ((kA i es) + (1 : Int)),
  false,
  inB ((kA i es) + (1 : Int)) es.length,
  false,
  false,
  decide (((kA i es) + (1 : Int)).toNat < es.length),
  false,
  (es.getD (kA i es).toNat tk0).snd.fst == (es.getD ((kA i es) + (1 : Int)).toNat tk0).snd.fst,
  roomB (([] : List Tk).length + es.length) Try.prog.types[(34 : Nat)].bytes,
  inR64 ((kA i es) + (1 : Int)),
  inR64 ((kA i es) + (1 : Int)),
  inB ((kA i es) + (1 : Int)) es.length,
  decide (((kA i es) + (1 : Int)).toNat < es.length),
  inB (kA i es) es.length,
  decide ((kA i es).toNat < es.length),
  inB (kA i es) es.length,
  decide ((kA i es).toNat < es.length),
  inB ((kA i es) + (1 : Int)) (s1 i es).length,
  decide (((kA i es) + (1 : Int)).toNat < (s1 i es).length),
  decide ((s2 i es).length ≤ (1000 : Nat)),
  rC (s2 i es) == (0 : Int),
  nilB (s2 i es),
  true,
  true,
  true,
  decide ((rT (s2 i es)).length ≤ (100000 : Nat))],
  (SV.raw (Value.bool (eqL (rT (s2 i es)) (rT es))), [])) := by kernel_rfl
theorem ac_e (f : Bool) (es : List Tk) (i : Int) : Tr.follow [false, false, true, true, false, true, true, false, true, true, true, true, true, false, true] (fA f es i) =
  some ([false,
  decide ((100 : Int) < (↑es.length : Int)),
  roomB (([] : List Tk).length + es.length) Try.prog.types[(34 : Nat)].bytes,
  decide (es.length ≤ (1000 : Nat)),
  rC es == (0 : Int),
  rK es == (0 : Int),
  rC es != (0 : Int),
  false,
  true,
  true,
  true,
  true,
  true,
  false,
  true],
  (SV.raw (Value.bool true), [])) := by kernel_rfl
theorem ac_l (f : Bool) (es : List Tk) (i : Int) : Tr.follow [false, false, true, true, false, false, true, true, true, true, true, true, false, false, false, true, true, false, true, true, false, false, false, false, false, false, true, false, false, true, false, true, false, false, false, false, true, false, false, true, false, true, false, false, true, true, true, true, true, true, true, true, true, true, true, true, true, true, true, true] (fA f es i) =
  some ([false,
  decide ((100 : Int) < (↑es.length : Int)),
  roomB (([] : List Tk).length + es.length) Try.prog.types[(34 : Nat)].bytes,
  decide (es.length ≤ (1000 : Nat)),
  rC es == (0 : Int),
  rK es == (0 : Int),
  rC es != (0 : Int),
  decide (rK es > (0 : Int)),
  cutB none (some (rK es)) es.length,
  roomB (([] : List Tk).length + (lC es).length) Try.prog.types[(34 : Nat)].bytes,
  decide ((lC es).length ≤ (1000 : Nat)),
  rC (lC es) == (0 : Int),
  nilB (lC es),
  false,
  (↑(lC es).length : Int) == (0 : Int),
  decide ((0 : Int) < (↑(lC es).length : Int) ∧ (↑(lC es).length : Int) ≤ (100000 : Int)),
  decide ((0 : Int) ≤ (kA i (lC es)) ∧ (kA i (lC es)) < (↑(lC es).length : Int) ∧ (lC es).length ≤ (1000 : Nat)),
  nilB (oN i (lC es)),
  decide ((oN i (lC es)).length ≤ (1000 : Nat)),
  rC (oN i (lC es)) == (0 : Int),
  nilB (oN i (lC es)),
  false,
  false,
  false,
  false,
  false,
  inB (kA i (lC es)) (lC es).length,
  false,
  false,
  decide ((kA i (lC es)).toNat < (lC es).length),
  false,
  decide ((rT (oN i (lC es))).length ≤ (100000 : Nat)),
  false,
  false,
  false,
  false,
  inB (kA i (lC es)) (lC es).length,
  false,
  false,
  decide ((kA i (lC es)).toNat < (lC es).length),
  false,
  decide ((rT (lC es)).length ≤ (100000 : Nat)),
  false,
  stA (rT (oN i (lC es))) ((lC es).getD (kA i (lC es)).toNat tk0).snd.fst != stA (rT (lC es)) ((lC es).getD (kA i (lC es)).toNat tk0).snd.fst,
  inR64 ((kA i (lC es)) + (1 : Int)),
  (kA i (lC es)) + (1 : Int) == (↑(lC es).length : Int),
  true,
  true,
  true,
  true,
  true,
  true,
  true,
  true,
  true,
  true,
  true,
  true,
  true,
  true],
  (SV.raw (Value.bool true), [])) := by kernel_rfl
theorem ac_s (f : Bool) (es : List Tk) (i : Int) : Tr.follow [false, false, true, true, false, false, true, true, true, true, true, true, false, false, false, true, true, false, true, true, false, false, false, false, false, false, true, false, false, true, false, true, false, false, false, false, true, false, false, true, false, true, false, false, true, false, false, false, false, true, false, false, true, false, false, false, true, false, true, false, false, true, false, true] (fA f es i) =
  some ([false,
  decide ((100 : Int) < (↑es.length : Int)),
  roomB (([] : List Tk).length + es.length) Try.prog.types[(34 : Nat)].bytes,
  decide (es.length ≤ (1000 : Nat)),
  rC es == (0 : Int),
  rK es == (0 : Int),
  rC es != (0 : Int),
  decide (rK es > (0 : Int)),
  cutB none (some (rK es)) es.length,
  roomB (([] : List Tk).length + (lC es).length) Try.prog.types[(34 : Nat)].bytes,
  decide ((lC es).length ≤ (1000 : Nat)),
  rC (lC es) == (0 : Int),
  nilB (lC es),
  false,
  (↑(lC es).length : Int) == (0 : Int),
  decide ((0 : Int) < (↑(lC es).length : Int) ∧ (↑(lC es).length : Int) ≤ (100000 : Int)),
  decide ((0 : Int) ≤ (kA i (lC es)) ∧ (kA i (lC es)) < (↑(lC es).length : Int) ∧ (lC es).length ≤ (1000 : Nat)),
  nilB (oN i (lC es)),
  decide ((oN i (lC es)).length ≤ (1000 : Nat)),
  rC (oN i (lC es)) == (0 : Int),
  nilB (oN i (lC es)),
  false,
  false,
  false,
  false,
  false,
  inB (kA i (lC es)) (lC es).length,
  false,
  false,
  decide ((kA i (lC es)).toNat < (lC es).length),
  false,
  decide ((rT (oN i (lC es))).length ≤ (100000 : Nat)),
  false,
  false,
  false,
  false,
  inB (kA i (lC es)) (lC es).length,
  false,
  false,
  decide ((kA i (lC es)).toNat < (lC es).length),
  false,
  decide ((rT (lC es)).length ≤ (100000 : Nat)),
  false,
  stA (rT (oN i (lC es))) ((lC es).getD (kA i (lC es)).toNat tk0).snd.fst != stA (rT (lC es)) ((lC es).getD (kA i (lC es)).toNat tk0).snd.fst,
  inR64 ((kA i (lC es)) + (1 : Int)),
  (kA i (lC es)) + (1 : Int) == (↑(lC es).length : Int),
  false,
  false,
  false,
  inB (kA i (lC es)) (lC es).length,
  false,
  false,
  decide ((kA i (lC es)).toNat < (lC es).length),
  false,
  false,
  false,
  inR64 ((kA i (lC es)) + (1 : Int)),
  false,
  inB ((kA i (lC es)) + (1 : Int)) (lC es).length,
  false,
  false,
  decide (((kA i (lC es)) + (1 : Int)).toNat < (lC es).length),
  false,
  ((lC es).getD (kA i (lC es)).toNat tk0).snd.fst == ((lC es).getD ((kA i (lC es)) + (1 : Int)).toNat tk0).snd.fst],
  (SV.raw (Value.bool true), [])) := by kernel_rfl
theorem ac_d (f : Bool) (es : List Tk) (i : Int) : Tr.follow [false, false, true, true, false, false, true, true, true, true, true, true, false, false, false, true, true, false, true, true, false, false, false, false, false, false, true, false, false, true, false, true, false, false, false, false, true, false, false, true, false, true, false, false, true, false, false, false, false, true, false, false, true, false, false, false, true, false, true, false, false, true, false, false, true, true, true, true, true, true, true, true, true, true, true, true, true, false, true, true, true, true] (fA f es i) =
  some ([false,
  decide ((100 : Int) < (↑es.length : Int)),
  roomB (([] : List Tk).length + es.length) Try.prog.types[(34 : Nat)].bytes,
  decide (es.length ≤ (1000 : Nat)),
  rC es == (0 : Int),
  rK es == (0 : Int),
  rC es != (0 : Int),
  decide (rK es > (0 : Int)),
  cutB none (some (rK es)) es.length,
  roomB (([] : List Tk).length + (lC es).length) Try.prog.types[(34 : Nat)].bytes,
  decide ((lC es).length ≤ (1000 : Nat)),
  rC (lC es) == (0 : Int),
  nilB (lC es),
  false,
  (↑(lC es).length : Int) == (0 : Int),
  decide ((0 : Int) < (↑(lC es).length : Int) ∧ (↑(lC es).length : Int) ≤ (100000 : Int)),
  decide ((0 : Int) ≤ (kA i (lC es)) ∧ (kA i (lC es)) < (↑(lC es).length : Int) ∧ (lC es).length ≤ (1000 : Nat)),
  nilB (oN i (lC es)),
  decide ((oN i (lC es)).length ≤ (1000 : Nat)),
  rC (oN i (lC es)) == (0 : Int),
  nilB (oN i (lC es)),
  false,
  false,
  false,
  false,
  false,
  inB (kA i (lC es)) (lC es).length,
  false,
  false,
  decide ((kA i (lC es)).toNat < (lC es).length),
  false,
  decide ((rT (oN i (lC es))).length ≤ (100000 : Nat)),
  false,
  false,
  false,
  false,
  inB (kA i (lC es)) (lC es).length,
  false,
  false,
  decide ((kA i (lC es)).toNat < (lC es).length),
  false,
  decide ((rT (lC es)).length ≤ (100000 : Nat)),
  false,
  stA (rT (oN i (lC es))) ((lC es).getD (kA i (lC es)).toNat tk0).snd.fst != stA (rT (lC es)) ((lC es).getD (kA i (lC es)).toNat tk0).snd.fst,
  inR64 ((kA i (lC es)) + (1 : Int)),
  (kA i (lC es)) + (1 : Int) == (↑(lC es).length : Int),
  false,
  false,
  false,
  inB (kA i (lC es)) (lC es).length,
  false,
  false,
  decide ((kA i (lC es)).toNat < (lC es).length),
  false,
  false,
  false,
  inR64 ((kA i (lC es)) + (1 : Int)),
  false,
  inB ((kA i (lC es)) + (1 : Int)) (lC es).length,
  false,
  false,
  decide (((kA i (lC es)) + (1 : Int)).toNat < (lC es).length),
  false,
  ((lC es).getD (kA i (lC es)).toNat tk0).snd.fst == ((lC es).getD ((kA i (lC es)) + (1 : Int)).toNat tk0).snd.fst,
  roomB (([] : List Tk).length + (lC es).length) Try.prog.types[(34 : Nat)].bytes,
  inR64 ((kA i (lC es)) + (1 : Int)),
  inR64 ((kA i (lC es)) + (1 : Int)),
  inB ((kA i (lC es)) + (1 : Int)) (lC es).length,
  decide (((kA i (lC es)) + (1 : Int)).toNat < (lC es).length),
  inB (kA i (lC es)) (lC es).length,
  decide ((kA i (lC es)).toNat < (lC es).length),
  inB (kA i (lC es)) (lC es).length,
  decide ((kA i (lC es)).toNat < (lC es).length),
  inB ((kA i (lC es)) + (1 : Int)) (s1 i (lC es)).length,
  decide (((kA i (lC es)) + (1 : Int)).toNat < (s1 i (lC es)).length),
  decide ((s2 i (lC es)).length ≤ (1000 : Nat)),
  rC (s2 i (lC es)) == (0 : Int),
  nilB (s2 i (lC es)),
  true,
  true,
  true,
  decide ((rT (s2 i (lC es))).length ≤ (100000 : Nat))],
  (SV.raw (Value.bool (eqL (rT (s2 i (lC es))) (rT (lC es)))), [])) := by kernel_rfl

theorem ap_nil (i : Int) : (fnC C11 Try.prog sfA lsA unA 10 4 [.raw (.slice none 0 0), .raw (.int .i64 i)] []).get = some (.raw (.bool true), []) := by kernel_rfl
theorem nilB_off {α : Type} {l : List α} (h : l.length ≠ 0) : nilB l = false := by
  cases l with
  | nil => exact absurd rfl h
  | cons x r => rfl
theorem one_law {L : List Tk} (hL : rC L = 0) {i : Int} (h0 : 0 ≤ kA i L) (h1 : kA i L < (L.length : Int)) : nilB (oN i L) = false ∧ (oN i L).length ≤ L.length ∧ rC (oN i L) = 0 ∧
    stA (rT (oN i L)) (L.getD (kA i L).toNat tk0).2.1 = stA (rT L) (L.getD (kA i L).toNat tk0).2.1 := by
  have e : oN i L = ofT (L.getD (kA i L).toNat tk0).2.1 L := by
    show (L.take L.length).filter _ = _
    rw [List.take_length]
  rw [e]
  refine ⟨?_, List.length_filter_le _ _, one_ok hL _, one_st hL _⟩
  have hlt : (kA i L).toNat < L.length := by omega
  have hm : L.getD (kA i L).toNat tk0 ∈ L := by
    rw [List.getD_eq_getElem?_getD, List.getElem?_eq_getElem hlt]; exact List.getElem_mem hlt
  have : L.getD (kA i L).toNat tk0 ∈ ofT (L.getD (kA i L).toNat tk0).2.1 L := List.mem_filter.2 ⟨hm, beq_self_eq_true _⟩
  generalize ofT (L.getD (kA i L).toNat tk0).2.1 L = O at this
  cases O with
  | nil => cases this
  | cons x r => rfl
theorem two_law {L : List Tk} (hL : rC L = 0) {i : Int} (h0 : 0 ≤ kA i L) (h1 : kA i L + 1 < (L.length : Int)) (hd : ((L.getD (kA i L).toNat tk0).2.1 == (L.getD (kA i L + 1).toNat tk0).2.1) = false) : rC (s2 i L) = 0 ∧ rT (s2 i L) = rT L := by
  obtain ⟨k, hk⟩ := Int.eq_ofNat_of_zero_le h0
  have e1 : (kA i L).toNat = k := by omega
  have e2 : (kA i L + 1).toNat = k + 1 := by omega
  rw [e1, e2] at hd
  show rC ((L.set (kA i L).toNat (L.getD (kA i L + 1).toNat tk0)).set (kA i L + 1).toNat (L.getD (kA i L).toNat tk0)) = 0 ∧ rT ((L.set (kA i L).toNat (L.getD (kA i L + 1).toNat tk0)).set (kA i L + 1).toNat (L.getD (kA i L).toNat tk0)) = rT L
  rw [e1, e2]
  have hk1 : k + 1 < L.length := by omega
  clear h0 hk e1 e2
  obtain ⟨A, B, a, b, e, ha, hb, hs⟩ := swap_set hk1
  rw [ha, hb, hs]
  rw [ha, hb] at hd
  rw [e] at hL ⊢
  exact swap_ok (beq_eq_false_iff_ne.1 hd) hL
theorem apart_get (f : Bool) (es : List Tk) (i : Int) : (fA f es i).get = some (.raw (.bool true), []) := by
  cases h100 : decide ((100 : Int) < (es.length : Int)) with
  | true => exact Tr.follow_get (ap_0 f es i) (by simp only [h100])
  | false =>
  have hle : ¬ (100 : Int) < (es.length : Int) := of_decide_eq_false h100
  cases hrc : (rC es == (0 : Int)) with
  | true =>
    have hL : rC es = 0 := eq_of_beq hrc
    by_cases hz : es.length = 0
    · have hnil : nilB es = true := by
        cases es with
        | nil => rfl
        | cons x r => cases hz
      have hlen0 : ((es.length : Int) == (0 : Int)) = true := beq_iff_eq.2 (by omega)
      have k0 : (decide ((100 : Int) < (↑es.length : Int))) = false := h100
      have k1 : (roomB (([] : List Tk).length + es.length) Try.prog.types[(34 : Nat)].bytes) = true := (roomE (by simp only [List.length_nil]; omega))
      have k2 : (decide (es.length ≤ (1000 : Nat))) = true := (decide_eq_true (by omega))
      have k3 : (rC es == (0 : Int)) = true := (beq_iff_eq.2 hL)
      have k4 : (nilB es) = true := hnil
      have k5 : ((↑es.length : Int) == (0 : Int)) = true := hlen0
      exact Tr.follow_get (ap_e f es i) (by simp only [k0, k1, k2, k3, k4, k5])
    · have hnil : nilB es = false := nilB_off hz
      have hlen0 : ((es.length : Int) == (0 : Int)) = false := beq_eq_false_iff_ne.2 (by omega)
      have hk : 0 ≤ kA i es ∧ kA i es < (es.length : Int) := pkM_in i (show (0 : Int) < (es.length : Int) by omega)
      have hO := one_law hL hk.1 hk.2
      cases hlast : ((kA i es) + (1 : Int) == (es.length : Int)) with
      | true =>
        have k0 : (decide ((100 : Int) < (↑es.length : Int))) = false := h100
        have k1 : (roomB (([] : List Tk).length + es.length) Try.prog.types[(34 : Nat)].bytes) = true := (roomE (by simp only [List.length_nil]; omega))
        have k2 : (decide (es.length ≤ (1000 : Nat))) = true := (decide_eq_true (by omega))
        have k3 : (rC es == (0 : Int)) = true := (beq_iff_eq.2 hL)
        have k4 : (nilB es) = false := hnil
        have k5 : ((↑es.length : Int) == (0 : Int)) = false := hlen0
        have k6 : (decide ((0 : Int) < (↑es.length : Int) ∧ (↑es.length : Int) ≤ (100000 : Int))) = true := (decide_eq_true ⟨by omega, by omega⟩)
        have k7 : (decide ((0 : Int) ≤ (kA i es) ∧ (kA i es) < (↑es.length : Int) ∧ es.length ≤ (1000 : Nat))) = true := (decide_eq_true ⟨hk.1, hk.2, by omega⟩)
        have k8 : (nilB (oN i es)) = false := hO.1
        have k9 : (decide ((oN i es).length ≤ (1000 : Nat))) = true := (decide_eq_true (by have := hO.2.1; omega))
        have k10 : (rC (oN i es) == (0 : Int)) = true := (beq_iff_eq.2 hO.2.2.1)
        have k11 : (inB (kA i es) es.length) = true := (inB_mk ⟨hk.1, hk.2⟩)
        have k12 : (decide ((kA i es).toNat < es.length)) = true := (decide_eq_true (by omega))
        have k13 : (decide ((rT (oN i es)).length ≤ (100000 : Nat))) = true := (decide_eq_true (by have := rT_len (oN i es); have := hO.2.1; omega))
        have k14 : (decide ((rT es).length ≤ (100000 : Nat))) = true := (decide_eq_true (by have := rT_len es; omega))
        have k15 : (stA (rT (oN i es)) (es.getD (kA i es).toNat tk0).snd.fst != stA (rT es) (es.getD (kA i es).toNat tk0).snd.fst) = false := (by rw [hO.2.2.2]; exact bne_self_eq_false _)
        have k16 : (inR64 ((kA i es) + (1 : Int))) = true := (inR64_mk (by omega))
        have k17 : ((kA i es) + (1 : Int) == (↑es.length : Int)) = true := hlast
        exact Tr.follow_get (ap_l f es i) (by simp only [k0, k1, k2, k3, k4, k5, k6, k7, k8, k9, k10, k11, k12, k13, k14, k15, k16, k17])
      | false =>
        have hlt : (kA i es) + 1 < (es.length : Int) := by have := beq_eq_false_iff_ne.1 hlast; omega
        cases hsame : ((es.getD (kA i es).toNat tk0).2.1 == (es.getD ((kA i es) + (1 : Int)).toNat tk0).2.1) with
        | true =>
          have k0 : (decide ((100 : Int) < (↑es.length : Int))) = false := h100
          have k1 : (roomB (([] : List Tk).length + es.length) Try.prog.types[(34 : Nat)].bytes) = true := (roomE (by simp only [List.length_nil]; omega))
          have k2 : (decide (es.length ≤ (1000 : Nat))) = true := (decide_eq_true (by omega))
          have k3 : (rC es == (0 : Int)) = true := (beq_iff_eq.2 hL)
          have k4 : (nilB es) = false := hnil
          have k5 : ((↑es.length : Int) == (0 : Int)) = false := hlen0
          have k6 : (decide ((0 : Int) < (↑es.length : Int) ∧ (↑es.length : Int) ≤ (100000 : Int))) = true := (decide_eq_true ⟨by omega, by omega⟩)
          have k7 : (decide ((0 : Int) ≤ (kA i es) ∧ (kA i es) < (↑es.length : Int) ∧ es.length ≤ (1000 : Nat))) = true := (decide_eq_true ⟨hk.1, hk.2, by omega⟩)
          have k8 : (nilB (oN i es)) = false := hO.1
          have k9 : (decide ((oN i es).length ≤ (1000 : Nat))) = true := (decide_eq_true (by have := hO.2.1; omega))
          have k10 : (rC (oN i es) == (0 : Int)) = true := (beq_iff_eq.2 hO.2.2.1)
          have k11 : (inB (kA i es) es.length) = true := (inB_mk ⟨hk.1, hk.2⟩)
          have k12 : (decide ((kA i es).toNat < es.length)) = true := (decide_eq_true (by omega))
          have k13 : (decide ((rT (oN i es)).length ≤ (100000 : Nat))) = true := (decide_eq_true (by have := rT_len (oN i es); have := hO.2.1; omega))
          have k14 : (decide ((rT es).length ≤ (100000 : Nat))) = true := (decide_eq_true (by have := rT_len es; omega))
          have k15 : (stA (rT (oN i es)) (es.getD (kA i es).toNat tk0).snd.fst != stA (rT es) (es.getD (kA i es).toNat tk0).snd.fst) = false := (by rw [hO.2.2.2]; exact bne_self_eq_false _)
          have k16 : (inR64 ((kA i es) + (1 : Int))) = true := (inR64_mk (by omega))
          have k17 : ((kA i es) + (1 : Int) == (↑es.length : Int)) = false := hlast
          have k18 : (inB ((kA i es) + (1 : Int)) es.length) = true := (inB_mk ⟨by omega, by omega⟩)
          have k19 : (decide (((kA i es) + (1 : Int)).toNat < es.length)) = true := (decide_eq_true (by omega))
          have k20 : ((es.getD (kA i es).toNat tk0).snd.fst == (es.getD ((kA i es) + (1 : Int)).toNat tk0).snd.fst) = true := hsame
          exact Tr.follow_get (ap_s f es i) (by simp only [k0, k1, k2, k3, k4, k5, k6, k7, k8, k9, k10, k11, k12, k13, k14, k15, k16, k17, k18, k19, k20])
        | false =>
          have hs1 : (s1 i es).length = es.length := List.length_set ..
          have hs2 : (s2 i es).length = es.length := (List.length_set ..).trans hs1
          have hS := two_law hL hk.1 hlt hsame
          have hn2 : nilB (s2 i es) = false := nilB_off (by rw [hs2]; omega)
          have k0 : (decide ((100 : Int) < (↑es.length : Int))) = false := h100
          have k1 : (roomB (([] : List Tk).length + es.length) Try.prog.types[(34 : Nat)].bytes) = true := (roomE (by simp only [List.length_nil]; omega))
          have k2 : (decide (es.length ≤ (1000 : Nat))) = true := (decide_eq_true (by omega))
          have k3 : (rC es == (0 : Int)) = true := (beq_iff_eq.2 hL)
          have k4 : (nilB es) = false := hnil
          have k5 : ((↑es.length : Int) == (0 : Int)) = false := hlen0
          have k6 : (decide ((0 : Int) < (↑es.length : Int) ∧ (↑es.length : Int) ≤ (100000 : Int))) = true := (decide_eq_true ⟨by omega, by omega⟩)
          have k7 : (decide ((0 : Int) ≤ (kA i es) ∧ (kA i es) < (↑es.length : Int) ∧ es.length ≤ (1000 : Nat))) = true := (decide_eq_true ⟨hk.1, hk.2, by omega⟩)
          have k8 : (nilB (oN i es)) = false := hO.1
          have k9 : (decide ((oN i es).length ≤ (1000 : Nat))) = true := (decide_eq_true (by have := hO.2.1; omega))
          have k10 : (rC (oN i es) == (0 : Int)) = true := (beq_iff_eq.2 hO.2.2.1)
          have k11 : (inB (kA i es) es.length) = true := (inB_mk ⟨hk.1, hk.2⟩)
          have k12 : (decide ((kA i es).toNat < es.length)) = true := (decide_eq_true (by omega))
          have k13 : (decide ((rT (oN i es)).length ≤ (100000 : Nat))) = true := (decide_eq_true (by have := rT_len (oN i es); have := hO.2.1; omega))
          have k14 : (decide ((rT es).length ≤ (100000 : Nat))) = true := (decide_eq_true (by have := rT_len es; omega))
          have k15 : (stA (rT (oN i es)) (es.getD (kA i es).toNat tk0).snd.fst != stA (rT es) (es.getD (kA i es).toNat tk0).snd.fst) = false := (by rw [hO.2.2.2]; exact bne_self_eq_false _)
          have k16 : (inR64 ((kA i es) + (1 : Int))) = true := (inR64_mk (by omega))
          have k17 : ((kA i es) + (1 : Int) == (↑es.length : Int)) = false := hlast
          have k18 : (inB ((kA i es) + (1 : Int)) es.length) = true := (inB_mk ⟨by omega, by omega⟩)
          have k19 : (decide (((kA i es) + (1 : Int)).toNat < es.length)) = true := (decide_eq_true (by omega))
          have k20 : ((es.getD (kA i es).toNat tk0).snd.fst == (es.getD ((kA i es) + (1 : Int)).toNat tk0).snd.fst) = false := hsame
          have k21 : (inB ((kA i es) + (1 : Int)) (s1 i es).length) = true := (inB_mk ⟨by omega, by rw [hs1]; omega⟩)
          have k22 : (decide (((kA i es) + (1 : Int)).toNat < (s1 i es).length)) = true := (decide_eq_true (by rw [hs1]; omega))
          have k23 : (decide ((s2 i es).length ≤ (1000 : Nat))) = true := (decide_eq_true (by rw [hs2]; omega))
          have k24 : (rC (s2 i es) == (0 : Int)) = true := (beq_iff_eq.2 hS.1)
          have k25 : (nilB (s2 i es)) = false := hn2
          have k26 : (decide ((rT (s2 i es)).length ≤ (100000 : Nat))) = true := (decide_eq_true (by have := rT_len (s2 i es); rw [hs2] at this; omega))
          refine (Tr.follow_get (ap_d f es i) (by simp only [k0, k1, k2, k3, k4, k5, k6, k7, k8, k9, k10, k11, k12, k13, k14, k15, k16, k17, k18, k19, k20, k21, k22, k23, k24, k25, k26])).trans ?_
          rw [hS.2, eqL_self]
  | false =>
    have hrn : (rC es != (0 : Int)) = true := bne_iff_ne.2 (beq_eq_false_iff_ne.1 hrc)
    obtain ⟨g1, g2, _⟩ := goR_k es [] 0
    have hK : rK es = ((goR es [] 0).2.1 : Int) := rK_eq es
    have hL : rC (lC es) = 0 := rC_take es
    have hlC : (lC es).length = (rK es).toNat := by
      show (es.take (rK es).toNat).length = _
      rw [List.length_take]; omega
    cases hrk : (rK es == (0 : Int)) with
    | true =>
      have k0 : (decide ((100 : Int) < (↑es.length : Int))) = false := h100
      have k1 : (roomB (([] : List Tk).length + es.length) Try.prog.types[(34 : Nat)].bytes) = true := (roomE (by simp only [List.length_nil]; omega))
      have k2 : (decide (es.length ≤ (1000 : Nat))) = true := (decide_eq_true (by omega))
      have k3 : (rC es == (0 : Int)) = false := hrc
      have k4 : (rK es == (0 : Int)) = true := hrk
      have k5 : (rC es != (0 : Int)) = true := hrn
      exact Tr.follow_get (ac_e f es i) (by simp only [k0, k1, k2, k3, k4, k5])
    | false =>
      have hr0 := beq_eq_false_iff_ne.1 hrk
      have hrp : decide (rK es > (0 : Int)) = true := decide_eq_true (by omega)
      have hcut : cutB none (some (rK es)) es.length = true := bOk_mk ⟨by omega, by omega, by omega⟩
      have hz : (lC es).length ≠ 0 := by omega
      have hnL : nilB (lC es) = false := nilB_off hz
      have hk : 0 ≤ kA i (lC es) ∧ kA i (lC es) < ((lC es).length : Int) := pkM_in i (show (0 : Int) < ((lC es).length : Int) by omega)
      have hO := one_law hL hk.1 hk.2
      cases hlast : ((kA i (lC es)) + (1 : Int) == ((lC es).length : Int)) with
      | true =>
        have k0 : (decide ((100 : Int) < (↑es.length : Int))) = false := h100
        have k1 : (roomB (([] : List Tk).length + es.length) Try.prog.types[(34 : Nat)].bytes) = true := (roomE (by simp only [List.length_nil]; omega))
        have k2 : (decide (es.length ≤ (1000 : Nat))) = true := (decide_eq_true (by omega))
        have k3 : (rC es == (0 : Int)) = false := hrc
        have k4 : (rK es == (0 : Int)) = false := hrk
        have k5 : (rC es != (0 : Int)) = true := hrn
        have k6 : (decide (rK es > (0 : Int))) = true := hrp
        have k7 : (cutB none (some (rK es)) es.length) = true := hcut
        have k8 : (roomB (([] : List Tk).length + (lC es).length) Try.prog.types[(34 : Nat)].bytes) = true := (roomE (by simp only [List.length_nil]; omega))
        have k9 : (decide ((lC es).length ≤ (1000 : Nat))) = true := (decide_eq_true (by omega))
        have k10 : (rC (lC es) == (0 : Int)) = true := (beq_iff_eq.2 hL)
        have k11 : (nilB (lC es)) = false := hnL
        have k12 : ((↑(lC es).length : Int) == (0 : Int)) = false := (beq_eq_false_iff_ne.2 (by omega))
        have k13 : (decide ((0 : Int) < (↑(lC es).length : Int) ∧ (↑(lC es).length : Int) ≤ (100000 : Int))) = true := (decide_eq_true ⟨by omega, by omega⟩)
        have k14 : (decide ((0 : Int) ≤ (kA i (lC es)) ∧ (kA i (lC es)) < (↑(lC es).length : Int) ∧ (lC es).length ≤ (1000 : Nat))) = true := (decide_eq_true ⟨hk.1, hk.2, by omega⟩)
        have k15 : (nilB (oN i (lC es))) = false := hO.1
        have k16 : (decide ((oN i (lC es)).length ≤ (1000 : Nat))) = true := (decide_eq_true (by have := hO.2.1; omega))
        have k17 : (rC (oN i (lC es)) == (0 : Int)) = true := (beq_iff_eq.2 hO.2.2.1)
        have k18 : (inB (kA i (lC es)) (lC es).length) = true := (inB_mk ⟨hk.1, hk.2⟩)
        have k19 : (decide ((kA i (lC es)).toNat < (lC es).length)) = true := (decide_eq_true (by omega))
        have k20 : (decide ((rT (oN i (lC es))).length ≤ (100000 : Nat))) = true := (decide_eq_true (by have := rT_len (oN i (lC es)); have := hO.2.1; omega))
        have k21 : (decide ((rT (lC es)).length ≤ (100000 : Nat))) = true := (decide_eq_true (by have := rT_len (lC es); omega))
        have k22 : (stA (rT (oN i (lC es))) ((lC es).getD (kA i (lC es)).toNat tk0).snd.fst != stA (rT (lC es)) ((lC es).getD (kA i (lC es)).toNat tk0).snd.fst) = false := (by rw [hO.2.2.2]; exact bne_self_eq_false _)
        have k23 : (inR64 ((kA i (lC es)) + (1 : Int))) = true := (inR64_mk (by omega))
        have k24 : ((kA i (lC es)) + (1 : Int) == (↑(lC es).length : Int)) = true := hlast
        exact Tr.follow_get (ac_l f es i) (by simp only [k0, k1, k2, k3, k4, k5, k6, k7, k8, k9, k10, k11, k12, k13, k14, k15, k16, k17, k18, k19, k20, k21, k22, k23, k24])
      | false =>
        have hlt : (kA i (lC es)) + 1 < ((lC es).length : Int) := by have := beq_eq_false_iff_ne.1 hlast; omega
        cases hsame : (((lC es).getD (kA i (lC es)).toNat tk0).2.1 == ((lC es).getD ((kA i (lC es)) + (1 : Int)).toNat tk0).2.1) with
        | true =>
          have k0 : (decide ((100 : Int) < (↑es.length : Int))) = false := h100
          have k1 : (roomB (([] : List Tk).length + es.length) Try.prog.types[(34 : Nat)].bytes) = true := (roomE (by simp only [List.length_nil]; omega))
          have k2 : (decide (es.length ≤ (1000 : Nat))) = true := (decide_eq_true (by omega))
          have k3 : (rC es == (0 : Int)) = false := hrc
          have k4 : (rK es == (0 : Int)) = false := hrk
          have k5 : (rC es != (0 : Int)) = true := hrn
          have k6 : (decide (rK es > (0 : Int))) = true := hrp
          have k7 : (cutB none (some (rK es)) es.length) = true := hcut
          have k8 : (roomB (([] : List Tk).length + (lC es).length) Try.prog.types[(34 : Nat)].bytes) = true := (roomE (by simp only [List.length_nil]; omega))
          have k9 : (decide ((lC es).length ≤ (1000 : Nat))) = true := (decide_eq_true (by omega))
          have k10 : (rC (lC es) == (0 : Int)) = true := (beq_iff_eq.2 hL)
          have k11 : (nilB (lC es)) = false := hnL
          have k12 : ((↑(lC es).length : Int) == (0 : Int)) = false := (beq_eq_false_iff_ne.2 (by omega))
          have k13 : (decide ((0 : Int) < (↑(lC es).length : Int) ∧ (↑(lC es).length : Int) ≤ (100000 : Int))) = true := (decide_eq_true ⟨by omega, by omega⟩)
          have k14 : (decide ((0 : Int) ≤ (kA i (lC es)) ∧ (kA i (lC es)) < (↑(lC es).length : Int) ∧ (lC es).length ≤ (1000 : Nat))) = true := (decide_eq_true ⟨hk.1, hk.2, by omega⟩)
          have k15 : (nilB (oN i (lC es))) = false := hO.1
          have k16 : (decide ((oN i (lC es)).length ≤ (1000 : Nat))) = true := (decide_eq_true (by have := hO.2.1; omega))
          have k17 : (rC (oN i (lC es)) == (0 : Int)) = true := (beq_iff_eq.2 hO.2.2.1)
          have k18 : (inB (kA i (lC es)) (lC es).length) = true := (inB_mk ⟨hk.1, hk.2⟩)
          have k19 : (decide ((kA i (lC es)).toNat < (lC es).length)) = true := (decide_eq_true (by omega))
          have k20 : (decide ((rT (oN i (lC es))).length ≤ (100000 : Nat))) = true := (decide_eq_true (by have := rT_len (oN i (lC es)); have := hO.2.1; omega))
          have k21 : (decide ((rT (lC es)).length ≤ (100000 : Nat))) = true := (decide_eq_true (by have := rT_len (lC es); omega))
          have k22 : (stA (rT (oN i (lC es))) ((lC es).getD (kA i (lC es)).toNat tk0).snd.fst != stA (rT (lC es)) ((lC es).getD (kA i (lC es)).toNat tk0).snd.fst) = false := (by rw [hO.2.2.2]; exact bne_self_eq_false _)
          have k23 : (inR64 ((kA i (lC es)) + (1 : Int))) = true := (inR64_mk (by omega))
          have k24 : ((kA i (lC es)) + (1 : Int) == (↑(lC es).length : Int)) = false := hlast
          have k25 : (inB ((kA i (lC es)) + (1 : Int)) (lC es).length) = true := (inB_mk ⟨by omega, by omega⟩)
          have k26 : (decide (((kA i (lC es)) + (1 : Int)).toNat < (lC es).length)) = true := (decide_eq_true (by omega))
          have k27 : (((lC es).getD (kA i (lC es)).toNat tk0).snd.fst == ((lC es).getD ((kA i (lC es)) + (1 : Int)).toNat tk0).snd.fst) = true := hsame
          exact Tr.follow_get (ac_s f es i) (by simp only [k0, k1, k2, k3, k4, k5, k6, k7, k8, k9, k10, k11, k12, k13, k14, k15, k16, k17, k18, k19, k20, k21, k22, k23, k24, k25, k26, k27])
        | false =>
          have hs1 : (s1 i (lC es)).length = (lC es).length := List.length_set ..
          have hs2 : (s2 i (lC es)).length = (lC es).length := (List.length_set ..).trans hs1
          have hS := two_law hL hk.1 hlt hsame
          have hn2 : nilB (s2 i (lC es)) = false := nilB_off (by rw [hs2]; omega)
          have k0 : (decide ((100 : Int) < (↑es.length : Int))) = false := h100
          have k1 : (roomB (([] : List Tk).length + es.length) Try.prog.types[(34 : Nat)].bytes) = true := (roomE (by simp only [List.length_nil]; omega))
          have k2 : (decide (es.length ≤ (1000 : Nat))) = true := (decide_eq_true (by omega))
          have k3 : (rC es == (0 : Int)) = false := hrc
          have k4 : (rK es == (0 : Int)) = false := hrk
          have k5 : (rC es != (0 : Int)) = true := hrn
          have k6 : (decide (rK es > (0 : Int))) = true := hrp
          have k7 : (cutB none (some (rK es)) es.length) = true := hcut
          have k8 : (roomB (([] : List Tk).length + (lC es).length) Try.prog.types[(34 : Nat)].bytes) = true := (roomE (by simp only [List.length_nil]; omega))
          have k9 : (decide ((lC es).length ≤ (1000 : Nat))) = true := (decide_eq_true (by omega))
          have k10 : (rC (lC es) == (0 : Int)) = true := (beq_iff_eq.2 hL)
          have k11 : (nilB (lC es)) = false := hnL
          have k12 : ((↑(lC es).length : Int) == (0 : Int)) = false := (beq_eq_false_iff_ne.2 (by omega))
          have k13 : (decide ((0 : Int) < (↑(lC es).length : Int) ∧ (↑(lC es).length : Int) ≤ (100000 : Int))) = true := (decide_eq_true ⟨by omega, by omega⟩)
          have k14 : (decide ((0 : Int) ≤ (kA i (lC es)) ∧ (kA i (lC es)) < (↑(lC es).length : Int) ∧ (lC es).length ≤ (1000 : Nat))) = true := (decide_eq_true ⟨hk.1, hk.2, by omega⟩)
          have k15 : (nilB (oN i (lC es))) = false := hO.1
          have k16 : (decide ((oN i (lC es)).length ≤ (1000 : Nat))) = true := (decide_eq_true (by have := hO.2.1; omega))
          have k17 : (rC (oN i (lC es)) == (0 : Int)) = true := (beq_iff_eq.2 hO.2.2.1)
          have k18 : (inB (kA i (lC es)) (lC es).length) = true := (inB_mk ⟨hk.1, hk.2⟩)
          have k19 : (decide ((kA i (lC es)).toNat < (lC es).length)) = true := (decide_eq_true (by omega))
          have k20 : (decide ((rT (oN i (lC es))).length ≤ (100000 : Nat))) = true := (decide_eq_true (by have := rT_len (oN i (lC es)); have := hO.2.1; omega))
          have k21 : (decide ((rT (lC es)).length ≤ (100000 : Nat))) = true := (decide_eq_true (by have := rT_len (lC es); omega))
          have k22 : (stA (rT (oN i (lC es))) ((lC es).getD (kA i (lC es)).toNat tk0).snd.fst != stA (rT (lC es)) ((lC es).getD (kA i (lC es)).toNat tk0).snd.fst) = false := (by rw [hO.2.2.2]; exact bne_self_eq_false _)
          have k23 : (inR64 ((kA i (lC es)) + (1 : Int))) = true := (inR64_mk (by omega))
          have k24 : ((kA i (lC es)) + (1 : Int) == (↑(lC es).length : Int)) = false := hlast
          have k25 : (inB ((kA i (lC es)) + (1 : Int)) (lC es).length) = true := (inB_mk ⟨by omega, by omega⟩)
          have k26 : (decide (((kA i (lC es)) + (1 : Int)).toNat < (lC es).length)) = true := (decide_eq_true (by omega))
          have k27 : (((lC es).getD (kA i (lC es)).toNat tk0).snd.fst == ((lC es).getD ((kA i (lC es)) + (1 : Int)).toNat tk0).snd.fst) = false := hsame
          have k28 : (inB ((kA i (lC es)) + (1 : Int)) (s1 i (lC es)).length) = true := (inB_mk ⟨by omega, by rw [hs1]; omega⟩)
          have k29 : (decide (((kA i (lC es)) + (1 : Int)).toNat < (s1 i (lC es)).length)) = true := (decide_eq_true (by rw [hs1]; omega))
          have k30 : (decide ((s2 i (lC es)).length ≤ (1000 : Nat))) = true := (decide_eq_true (by rw [hs2]; omega))
          have k31 : (rC (s2 i (lC es)) == (0 : Int)) = true := (beq_iff_eq.2 hS.1)
          have k32 : (nilB (s2 i (lC es))) = false := hn2
          have k33 : (decide ((rT (s2 i (lC es))).length ≤ (100000 : Nat))) = true := (decide_eq_true (by have := rT_len (s2 i (lC es)); rw [hs2] at this; omega))
          refine (Tr.follow_get (ac_d f es i) (by simp only [k0, k1, k2, k3, k4, k5, k6, k7, k8, k9, k10, k11, k12, k13, k14, k15, k16, k17, k18, k19, k20, k21, k22, k23, k24, k25, k26, k27, k28, k29, k30, k31, k32, k33])).trans ?_
          rw [hS.2, eqL_self]
end
end Go.Proofs.Ytiaboemkgpkcpaa
