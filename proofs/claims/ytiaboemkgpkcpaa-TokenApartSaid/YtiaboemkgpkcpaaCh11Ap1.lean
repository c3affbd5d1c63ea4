/-
  Chapter 11: TokenApart, the loop over the events of one token. Own work; nothing here is trusted.
-/
import Derived.Test.YtiaboemkgpkcpaaCh11Ap0
namespace Go.Proofs.Ytiaboemkgpkcpaa
open Go Go.Sx Go.RowKit
set_option maxRecDepth 1000000
set_option maxHeartbeats 8000000
set_option linter.unusedVariables false
set_option linter.unusedSimpArgs false
noncomputable section
theorem oa_w (f : Bool) (es T : List Tk) (N : Nat) (k K : Int) : (oRA (.h 0) f es T k K).get =
  bro (decide (K < (↑es.length : Int))) (bro (inB K es.length) (bro (decide (K.toNat < es.length)) (bro (inB k es.length) (bro (decide (k.toNat < es.length)) (bro ((es.getD K.toNat tk0).snd.fst == (es.getD k.toNat tk0).snd.fst) (bro (inB K es.length) (bro (decide (K.toNat < es.length)) (bro (inR64 (K + (1 : Int))) (some (Ex.normal, [SV.h (0 : Nat), SV.raw (Value.int IntKind.i64 k), SV.raw (Value.int IntKind.i64 (K + (1 : Int))), SV.h (3 : Nat), SV.h (1 : Nat)], [SO.sl false f (34 : Nat) es, SO.box [SV.h (2 : Nat)] (26 : Nat), SO.sl true false (47 : Nat) T, SO.sl true false (34 : Nat) [((es.getD K.toNat tk0).fst, (es.getD K.toNat tk0).snd.fst, (es.getD K.toNat tk0).snd.snd)]])) (some (Ex.normal, [SV.h (0 : Nat), SV.raw (Value.int IntKind.i64 k), SV.raw (Value.int IntKind.i64 (IntKind.i64.wrap (K + (1 : Int)))), SV.h (3 : Nat), SV.h (1 : Nat)], [SO.sl false f (34 : Nat) es, SO.box [SV.h (2 : Nat)] (26 : Nat), SO.sl true false (47 : Nat) T, SO.sl true false (34 : Nat) [((es.getD K.toNat tk0).fst, (es.getD K.toNat tk0).snd.fst, (es.getD K.toNat tk0).snd.snd)]]))) (none)) (none)) (bro (inR64 (K + (1 : Int))) (some (Ex.normal, [SV.h (0 : Nat), SV.raw (Value.int IntKind.i64 k), SV.raw (Value.int IntKind.i64 (K + (1 : Int))), SV.raw (Value.slice none (0 : Nat) (0 : Nat)), SV.h (1 : Nat)], [SO.sl false f (34 : Nat) es, SO.box [SV.h (2 : Nat)] (26 : Nat), SO.sl true false (47 : Nat) T])) (some (Ex.normal, [SV.h (0 : Nat), SV.raw (Value.int IntKind.i64 k), SV.raw (Value.int IntKind.i64 (IntKind.i64.wrap (K + (1 : Int)))), SV.raw (Value.slice none (0 : Nat) (0 : Nat)), SV.h (1 : Nat)], [SO.sl false f (34 : Nat) es, SO.box [SV.h (2 : Nat)] (26 : Nat), SO.sl true false (47 : Nat) T])))) (none)) (none)) (none)) (none)) (some (Ex.exit (0 : Nat), [SV.h (0 : Nat), SV.raw (Value.int IntKind.i64 k), SV.raw (Value.int IntKind.i64 K), SV.raw (Value.slice none (0 : Nat) (0 : Nat)), SV.h (1 : Nat)], [SO.sl false f (34 : Nat) es, SO.box [SV.h (2 : Nat)] (26 : Nat), SO.sl true false (47 : Nat) T])) := by kernel_rfl
theorem oa_c (f : Bool) (es T : List Tk) (N : Nat) (k K : Int) : (oRA (cutS N) f es T k K).get =
  bro (decide (K < (↑N : Int))) (bro (inB K N) (bro (decide ((0 : Nat) + K.toNat < es.length)) (bro (decide ((0 : Nat) + K.toNat < es.length)) (bro (inB k N) (bro (decide ((0 : Nat) + k.toNat < es.length)) (bro (decide ((0 : Nat) + k.toNat < es.length)) (bro ((es.getD ((0 : Nat) + K.toNat) tk0).snd.fst == (es.getD ((0 : Nat) + k.toNat) tk0).snd.fst) (bro (inB K N) (bro (decide ((0 : Nat) + K.toNat < es.length)) (bro (decide ((0 : Nat) + K.toNat < es.length)) (bro (inR64 (K + (1 : Int))) (some (Ex.normal, [SV.vs (0 : Nat) (3 : Nat) (0 : Nat) (0 : Nat) N none, SV.raw (Value.int IntKind.i64 k), SV.raw (Value.int IntKind.i64 (K + (1 : Int))), SV.h (3 : Nat), SV.h (1 : Nat)], [SO.sl false f (34 : Nat) es, SO.box [SV.h (2 : Nat)] (26 : Nat), SO.sl true false (47 : Nat) T, SO.sl true false (34 : Nat) [((es.getD ((0 : Nat) + K.toNat) tk0).fst, (es.getD ((0 : Nat) + K.toNat) tk0).snd.fst, (es.getD ((0 : Nat) + K.toNat) tk0).snd.snd)]])) (some (Ex.normal, [SV.vs (0 : Nat) (3 : Nat) (0 : Nat) (0 : Nat) N none, SV.raw (Value.int IntKind.i64 k), SV.raw (Value.int IntKind.i64 (IntKind.i64.wrap (K + (1 : Int)))), SV.h (3 : Nat), SV.h (1 : Nat)], [SO.sl false f (34 : Nat) es, SO.box [SV.h (2 : Nat)] (26 : Nat), SO.sl true false (47 : Nat) T, SO.sl true false (34 : Nat) [((es.getD ((0 : Nat) + K.toNat) tk0).fst, (es.getD ((0 : Nat) + K.toNat) tk0).snd.fst, (es.getD ((0 : Nat) + K.toNat) tk0).snd.snd)]]))) (none)) (none)) (none)) (bro (inR64 (K + (1 : Int))) (some (Ex.normal, [SV.vs (0 : Nat) (3 : Nat) (0 : Nat) (0 : Nat) N none, SV.raw (Value.int IntKind.i64 k), SV.raw (Value.int IntKind.i64 (K + (1 : Int))), SV.raw (Value.slice none (0 : Nat) (0 : Nat)), SV.h (1 : Nat)], [SO.sl false f (34 : Nat) es, SO.box [SV.h (2 : Nat)] (26 : Nat), SO.sl true false (47 : Nat) T])) (some (Ex.normal, [SV.vs (0 : Nat) (3 : Nat) (0 : Nat) (0 : Nat) N none, SV.raw (Value.int IntKind.i64 k), SV.raw (Value.int IntKind.i64 (IntKind.i64.wrap (K + (1 : Int)))), SV.raw (Value.slice none (0 : Nat) (0 : Nat)), SV.h (1 : Nat)], [SO.sl false f (34 : Nat) es, SO.box [SV.h (2 : Nat)] (26 : Nat), SO.sl true false (47 : Nat) T])))) (none)) (none)) (none)) (none)) (none)) (none)) (some (Ex.exit (0 : Nat), [SV.vs (0 : Nat) (3 : Nat) (0 : Nat) (0 : Nat) N none, SV.raw (Value.int IntKind.i64 k), SV.raw (Value.int IntKind.i64 K), SV.raw (Value.slice none (0 : Nat) (0 : Nat)), SV.h (1 : Nat)], [SO.sl false f (34 : Nat) es, SO.box [SV.h (2 : Nat)] (26 : Nat), SO.sl true false (47 : Nat) T])) := by kernel_rfl
theorem ob_w (f : Bool) (es T ls : List Tk) (N : Nat) (k K : Int) : (oRB (.h 0) f es T ls k K).get =
  bro (decide (K < (↑es.length : Int))) (bro (inB K es.length) (bro (decide (K.toNat < es.length)) (bro (inB k es.length) (bro (decide (k.toNat < es.length)) (bro ((es.getD K.toNat tk0).snd.fst == (es.getD k.toNat tk0).snd.fst) (bro (inB K es.length) (bro (decide (K.toNat < es.length)) (bro (roomB (ls.length + [((es.getD K.toNat tk0).fst, (es.getD K.toNat tk0).snd.fst, (es.getD K.toNat tk0).snd.snd)].length) Try.prog.types[(34 : Nat)].bytes) (bro (inR64 (K + (1 : Int))) (some (Ex.normal, [SV.h (0 : Nat), SV.raw (Value.int IntKind.i64 k), SV.raw (Value.int IntKind.i64 (K + (1 : Int))), SV.h (3 : Nat), SV.h (1 : Nat)], [SO.sl false f (34 : Nat) es, SO.box [SV.h (2 : Nat)] (26 : Nat), SO.sl true false (47 : Nat) T, SO.sl true false (34 : Nat) (ls ++ [((es.getD K.toNat tk0).fst, (es.getD K.toNat tk0).snd.fst, (es.getD K.toNat tk0).snd.snd)])])) (some (Ex.normal, [SV.h (0 : Nat), SV.raw (Value.int IntKind.i64 k), SV.raw (Value.int IntKind.i64 (IntKind.i64.wrap (K + (1 : Int)))), SV.h (3 : Nat), SV.h (1 : Nat)], [SO.sl false f (34 : Nat) es, SO.box [SV.h (2 : Nat)] (26 : Nat), SO.sl true false (47 : Nat) T, SO.sl true false (34 : Nat) (ls ++ [((es.getD K.toNat tk0).fst, (es.getD K.toNat tk0).snd.fst, (es.getD K.toNat tk0).snd.snd)])]))) (none)) (none)) (none)) (bro (inR64 (K + (1 : Int))) (some (Ex.normal, [SV.h (0 : Nat), SV.raw (Value.int IntKind.i64 k), SV.raw (Value.int IntKind.i64 (K + (1 : Int))), SV.h (3 : Nat), SV.h (1 : Nat)], [SO.sl false f (34 : Nat) es, SO.box [SV.h (2 : Nat)] (26 : Nat), SO.sl true false (47 : Nat) T, SO.sl true false (34 : Nat) ls])) (some (Ex.normal, [SV.h (0 : Nat), SV.raw (Value.int IntKind.i64 k), SV.raw (Value.int IntKind.i64 (IntKind.i64.wrap (K + (1 : Int)))), SV.h (3 : Nat), SV.h (1 : Nat)], [SO.sl false f (34 : Nat) es, SO.box [SV.h (2 : Nat)] (26 : Nat), SO.sl true false (47 : Nat) T, SO.sl true false (34 : Nat) ls])))) (none)) (none)) (none)) (none)) (some (Ex.exit (0 : Nat), [SV.h (0 : Nat), SV.raw (Value.int IntKind.i64 k), SV.raw (Value.int IntKind.i64 K), SV.h (3 : Nat), SV.h (1 : Nat)], [SO.sl false f (34 : Nat) es, SO.box [SV.h (2 : Nat)] (26 : Nat), SO.sl true false (47 : Nat) T, SO.sl true false (34 : Nat) ls])) := by kernel_rfl
theorem ob_c (f : Bool) (es T ls : List Tk) (N : Nat) (k K : Int) : (oRB (cutS N) f es T ls k K).get =
  bro (decide (K < (↑N : Int))) (bro (inB K N) (bro (decide ((0 : Nat) + K.toNat < es.length)) (bro (decide ((0 : Nat) + K.toNat < es.length)) (bro (inB k N) (bro (decide ((0 : Nat) + k.toNat < es.length)) (bro (decide ((0 : Nat) + k.toNat < es.length)) (bro ((es.getD ((0 : Nat) + K.toNat) tk0).snd.fst == (es.getD ((0 : Nat) + k.toNat) tk0).snd.fst) (bro (inB K N) (bro (decide ((0 : Nat) + K.toNat < es.length)) (bro (decide ((0 : Nat) + K.toNat < es.length)) (bro (roomB (ls.length + [((es.getD ((0 : Nat) + K.toNat) tk0).fst, (es.getD ((0 : Nat) + K.toNat) tk0).snd.fst, (es.getD ((0 : Nat) + K.toNat) tk0).snd.snd)].length) Try.prog.types[(34 : Nat)].bytes) (bro (inR64 (K + (1 : Int))) (some (Ex.normal, [SV.vs (0 : Nat) (3 : Nat) (0 : Nat) (0 : Nat) N none, SV.raw (Value.int IntKind.i64 k), SV.raw (Value.int IntKind.i64 (K + (1 : Int))), SV.h (3 : Nat), SV.h (1 : Nat)], [SO.sl false f (34 : Nat) es, SO.box [SV.h (2 : Nat)] (26 : Nat), SO.sl true false (47 : Nat) T, SO.sl true false (34 : Nat) (ls ++ [((es.getD ((0 : Nat) + K.toNat) tk0).fst, (es.getD ((0 : Nat) + K.toNat) tk0).snd.fst, (es.getD ((0 : Nat) + K.toNat) tk0).snd.snd)])])) (some (Ex.normal, [SV.vs (0 : Nat) (3 : Nat) (0 : Nat) (0 : Nat) N none, SV.raw (Value.int IntKind.i64 k), SV.raw (Value.int IntKind.i64 (IntKind.i64.wrap (K + (1 : Int)))), SV.h (3 : Nat), SV.h (1 : Nat)], [SO.sl false f (34 : Nat) es, SO.box [SV.h (2 : Nat)] (26 : Nat), SO.sl true false (47 : Nat) T, SO.sl true false (34 : Nat) (ls ++ [((es.getD ((0 : Nat) + K.toNat) tk0).fst, (es.getD ((0 : Nat) + K.toNat) tk0).snd.fst, (es.getD ((0 : Nat) + K.toNat) tk0).snd.snd)])]))) (none)) (none)) (none)) (none)) (bro (inR64 (K + (1 : Int))) (some (Ex.normal, [SV.vs (0 : Nat) (3 : Nat) (0 : Nat) (0 : Nat) N none, SV.raw (Value.int IntKind.i64 k), SV.raw (Value.int IntKind.i64 (K + (1 : Int))), SV.h (3 : Nat), SV.h (1 : Nat)], [SO.sl false f (34 : Nat) es, SO.box [SV.h (2 : Nat)] (26 : Nat), SO.sl true false (47 : Nat) T, SO.sl true false (34 : Nat) ls])) (some (Ex.normal, [SV.vs (0 : Nat) (3 : Nat) (0 : Nat) (0 : Nat) N none, SV.raw (Value.int IntKind.i64 k), SV.raw (Value.int IntKind.i64 (IntKind.i64.wrap (K + (1 : Int)))), SV.h (3 : Nat), SV.h (1 : Nat)], [SO.sl false f (34 : Nat) es, SO.box [SV.h (2 : Nat)] (26 : Nat), SO.sl true false (47 : Nat) T, SO.sl true false (34 : Nat) ls])))) (none)) (none)) (none)) (none)) (none)) (none)) (some (Ex.exit (0 : Nat), [SV.vs (0 : Nat) (3 : Nat) (0 : Nat) (0 : Nat) N none, SV.raw (Value.int IntKind.i64 k), SV.raw (Value.int IntKind.i64 K), SV.h (3 : Nat), SV.h (1 : Nat)], [SO.sl false f (34 : Nat) es, SO.box [SV.h (2 : Nat)] (26 : Nat), SO.sl true false (47 : Nat) T, SO.sl true false (34 : Nat) ls])) := by kernel_rfl

/-- All events, or the first ones of them. -/
@[reducible] def whS (w : Bool) (N : Nat) : SV := match w with
  | true => .h 0
  | false => cutS N
theorem bytes34 : Try.prog.types[(34 : Nat)].bytes ≤ 1000 := by
  have h : Nat.ble Try.prog.types[(34 : Nat)].bytes 1000 = true := by kernel_rfl
  exact Nat.le_of_ble_eq_true h
theorem roomE {n : Nat} (h : n ≤ 200000) : roomB n Try.prog.types[(34 : Nat)].bytes = true := decide_eq_true (Nat.le_trans (Nat.mul_le_mul h bytes34) (by decide))
theorem oA_round {w f : Bool} {es T : List Tk} {N k K : Nat} (hw : w = true → N = es.length) (hN : N ≤ es.length) (hl : es.length ≤ 1000) (hk : k < N) (hK : K < N) : (oRA (whS w N) f es T k K).get =
    bro ((elT es (K : Int)).2.1 == (elT es (k : Int)).2.1) (some (.normal, oB (whS w N) f es T [elT es (K : Int)] k ((K + 1 : Nat) : Int))) (some (.normal, oA (whS w N) f es T k ((K + 1 : Nat) : Int))) := by
  have k3 : decide (((K : Nat) : Int).toNat < es.length) = true := decide_eq_true (by omega)
  have k4 : decide (((k : Nat) : Int).toNat < es.length) = true := decide_eq_true (by omega)
  have k5 : inR64 ((K : Int) + 1) = true := inR64_mk (by omega)
  cases w with
  | true =>
    have hw := hw rfl
    subst hw
    show (oRA (.h 0) f es T k K).get = _
    rw [oa_w f es T 0]
    have k0 := decide_eq_true (show (K : Int) < (es.length : Int) by omega)
    have k1 : Sx.inB (K : Int) es.length = true := inB_mk ⟨by omega, by omega⟩
    have k2 : Sx.inB (k : Int) es.length = true := inB_mk ⟨by omega, by omega⟩
    rw [k0, k1, k2, k3, k4, k5]
    rfl
  | false =>
    show (oRA (cutS N) f es T k K).get = _
    rw [oa_c]
    have k0 := decide_eq_true (show (K : Int) < (N : Int) by omega)
    have k1 : Sx.inB (K : Int) N = true := inB_mk ⟨by omega, by omega⟩
    have k2 : Sx.inB (k : Int) N = true := inB_mk ⟨by omega, by omega⟩
    rw [Nat.zero_add, Nat.zero_add, k0, k1, k2, k3, k4, k5]
    rfl
theorem oB_round {w f : Bool} {es T ls : List Tk} {N k K : Nat} (hw : w = true → N = es.length) (hN : N ≤ es.length) (hl : es.length ≤ 1000) (hs : ls.length ≤ 1000) (hk : k < N) (hK : K < N) : (oRB (whS w N) f es T ls k K).get =
    bro ((elT es (K : Int)).2.1 == (elT es (k : Int)).2.1) (some (.normal, oB (whS w N) f es T (ls ++ [elT es (K : Int)]) k ((K + 1 : Nat) : Int))) (some (.normal, oB (whS w N) f es T ls k ((K + 1 : Nat) : Int))) := by
  have k3 : decide (((K : Nat) : Int).toNat < es.length) = true := decide_eq_true (by omega)
  have k4 : decide (((k : Nat) : Int).toNat < es.length) = true := decide_eq_true (by omega)
  have k5 : inR64 ((K : Int) + 1) = true := inR64_mk (by omega)
  have k6 : ∀ x : Tk, roomB (ls.length + [x].length) Try.prog.types[(34 : Nat)].bytes = true := fun x => roomE (by simp only [List.length_cons, List.length_nil]; omega)
  cases w with
  | true =>
    have hw := hw rfl
    subst hw
    show (oRB (.h 0) f es T ls k K).get = _
    rw [ob_w f es T ls 0]
    have k0 := decide_eq_true (show (K : Int) < (es.length : Int) by omega)
    have k1 : Sx.inB (K : Int) es.length = true := inB_mk ⟨by omega, by omega⟩
    have k2 : Sx.inB (k : Int) es.length = true := inB_mk ⟨by omega, by omega⟩
    rw [k0, k1, k2, k3, k4, k5, k6]
    rfl
  | false =>
    show (oRB (cutS N) f es T ls k K).get = _
    rw [ob_c]
    have k0 := decide_eq_true (show (K : Int) < (N : Int) by omega)
    have k1 : Sx.inB (K : Int) N = true := inB_mk ⟨by omega, by omega⟩
    have k2 : Sx.inB (k : Int) N = true := inB_mk ⟨by omega, by omega⟩
    rw [Nat.zero_add, Nat.zero_add, k0, k1, k2, k3, k4, k5, k6]
    rfl
theorem oA_end {w f : Bool} {es T : List Tk} {N k : Nat} (hw : w = true → N = es.length) : (oRA (whS w N) f es T k N).get = some (.exit 0, oA (whS w N) f es T k N) := by
  have k0 : decide ((N : Int) < (N : Int)) = false := decide_eq_false (Int.lt_irrefl _)
  cases w with
  | true => have hw := hw rfl; subst hw; show (oRA (.h 0) f es T k _).get = _; rw [oa_w f es T 0, k0]; rfl
  | false => show (oRA (cutS N) f es T k N).get = _; rw [oa_c, k0]; rfl
theorem oB_end {w f : Bool} {es T ls : List Tk} {N k : Nat} (hw : w = true → N = es.length) : (oRB (whS w N) f es T ls k N).get = some (.exit 0, oB (whS w N) f es T ls k N) := by
  have k0 : decide ((N : Int) < (N : Int)) = false := decide_eq_false (Int.lt_irrefl _)
  cases w with
  | true => have hw := hw rfl; subst hw; show (oRB (.h 0) f es T ls k _).get = _; rw [ob_w f es T ls 0, k0]; rfl
  | false => show (oRB (cutS N) f es T ls k N).get = _; rw [ob_c, k0]; rfl
/-- The events of a token. -/
def oneL (es : List Tk) (N : Nat) (k : Int) : List Tk := (es.take N).filter fun e => e.2.1 == (elT es k).2.1
@[reducible] def oSt (w f : Bool) (es T : List Tk) (N k : Nat) (x : Nat × List Tk) : List SV × List (SO C11) := match x.2 with
  | [] => oA (whS w N) f es T k (x.1 : Int)
  | y :: r => oB (whS w N) f es T (y :: r) k (x.1 : Int)
theorem o_loop : loopOf Try.prog 4 0 = some (((loopOf Try.prog 4 0).get!).1, (loopOf Try.prog 4 0).get!.2) := by kernel_rfl
theorem take_snoc {ts : List Tk} {k : Nat} (h : k < ts.length) : ts.take (k + 1) = ts.take k ++ [elT ts (k : Int)] := by
  rw [List.take_add_one, List.getElem?_eq_getElem h, elT_get h]
  rfl
theorem o_run {w f : Bool} {es T : List Tk} {N k : Nat} (hw : w = true → N = es.length) (hN : N ≤ es.length) (hl : es.length ≤ 1000) (hk : k < N) :
    LoopRun Try.prog ((loopOf Try.prog 4 0).get!).1 (loopOf Try.prog 4 0).get!.2 3 (LI.st oSl ⟨(oA (whS w N) f es T k 0).1, 3, (oA (whS w N) f es T k 0).2⟩) fun x T' => ∃ vs os, (x = .exit 0 ∧ (vs, os) = oSt w f es T N k (N, oneL es N k)) ∧ T' = ⟨zipT oSl vs, numH 0 os, os.length⟩ := by
  refine loop_li (σ := Nat × List Tk) (st := oSt w f es T N k) (Inv := fun x => x.1 ≤ N ∧ x.2 = oneL es x.1 k) (μ := fun x => N - x.1) (d := 10) (unr := fun _ _ => 20) (sp := noSp) (ls := noLs) plain mixed noSp_ok noLs_ok o_loop (fun x hx => ?_) (0, []) ⟨Nat.zero_le _, rfl⟩
  obtain ⟨K, ls⟩ := x
  obtain ⟨hK, hls⟩ := hx
  simp only at hK hls
  by_cases hlt : K < N
  · have ht := take_snoc (ts := es) (k := K) (by omega)
    have hs : ls.length ≤ 1000 := by rw [hls]; exact Nat.le_trans (List.length_filter_le _ _) (by rw [List.length_take]; omega)
    have hm : N - (K + 1) < N - K := by omega
    have hA := oA_round (f := f) (T := T) hw hN hl hk hlt
    have hB := oB_round (f := f) (T := T) (ls := ls) hw hN hl hs hk hlt
    cases he : ((elT es (K : Int)).2.1 == (elT es (k : Int)).2.1) with
    | true =>
      rw [he] at hA hB
      have hi : ls ++ [elT es (K : Int)] = oneL es (K + 1) k := by
        unfold oneL at hls ⊢
        rw [ht, List.filter_append, ← hls, List.filter_cons, List.filter_nil, he]; rfl
      cases ls with
      | nil => exact ⟨_, hA, fun _ => ⟨(K + 1, [elT es (K : Int)]), ⟨hlt, hi⟩, hm, rfl⟩, nofun⟩
      | cons x r => exact ⟨_, hB, fun _ => ⟨(K + 1, x :: r ++ [elT es (K : Int)]), ⟨hlt, hi⟩, hm, rfl⟩, nofun⟩
    | false =>
      rw [he] at hA hB
      have hi : ls = oneL es (K + 1) k := by
        unfold oneL at hls ⊢
        rw [ht, List.filter_append, ← hls, List.filter_cons, List.filter_nil, he]; exact (List.append_nil _).symm
      cases ls with
      | nil => exact ⟨_, hA, fun _ => ⟨(K + 1, []), ⟨hlt, hi⟩, hm, rfl⟩, nofun⟩
      | cons x r => exact ⟨_, hB, fun _ => ⟨(K + 1, x :: r), ⟨hlt, hi⟩, hm, rfl⟩, nofun⟩
  · have hke : K = N := by omega
    subst hke
    subst hls
    show ∃ r, _ ∧ _ ∧ _
    generalize hg : oneL es K k = ls
    cases ls with
    | nil => exact ⟨_, oA_end hw, nofun, fun _ => ⟨rfl, rfl⟩⟩
    | cons x r => exact ⟨_, oB_end hw, nofun, fun _ => ⟨rfl, rfl⟩⟩
def oLoop : LoopFn C11 := fun li => match li with
  | ⟨[.h 0, .raw (.int .i64 k), .raw (.int .i64 (.ofNat 0)), .raw (.slice none 0 0), .h 1], 3, [.sl false f 34 es, .box [.h 2] 26, .sl true false 47 T]⟩ =>
    .br (decide (0 ≤ k ∧ k < (es.length : Int) ∧ es.length ≤ 1000)) (.br (nilB (oneL es es.length k)) (.leaf (.exit 0, oA (.h 0) f es T k (es.length : Int))) (.leaf (.exit 0, oB (.h 0) f es T (oneL es es.length k) k (es.length : Int)))) .fail
  | ⟨[.vs 0 3 0 0 N none, .raw (.int .i64 k), .raw (.int .i64 (.ofNat 0)), .raw (.slice none 0 0), .h 1], 3, [.sl false f 34 es, .box [.h 2] 26, .sl true false 47 T]⟩ =>
    .br (decide (0 ≤ k ∧ k < (N : Int) ∧ N ≤ es.length ∧ es.length ≤ 1000)) (.br (nilB (oneL es N k)) (.leaf (.exit 0, oA (cutS N) f es T k (N : Int))) (.leaf (.exit 0, oB (cutS N) f es T (oneL es N k) k (N : Int)))) .fail
  | _ => .fail
theorem oLoop_ok : ∀ tm hp n x, (loopS oSl [] oLoop tm hp n).get = some x → InLoop Try.prog ((loopOf Try.prog 4 0).get!).1 (loopOf Try.prog 4 0).get!.2 tm hp n fun e tm hp n => (e, tm, hp, n) = x := loopS_of fun li r h => by
  unfold oLoop at h
  split at h
  · rename_i k f es T
    change List Tk at es T
    have h : (Tr.br (decide (0 ≤ k ∧ k < (es.length : Int) ∧ es.length ≤ 1000)) (.br (nilB (oneL es es.length k)) (.leaf (Ex.exit 0, oA (.h 0) f es T k (es.length : Int))) (.leaf (Ex.exit 0, oB (.h 0) f es T (oneL es es.length k) k (es.length : Int)))) .fail).get = some r := h
    obtain ⟨hk, hC⟩ := Tr.get_ask.1 h
    clear h
    have hk : 0 ≤ k ∧ k < (es.length : Int) ∧ es.length ≤ 1000 := of_decide_eq_true hk
    obtain ⟨n, rfl⟩ := Int.eq_ofNat_of_zero_le hk.1
    have hrun := o_run (w := true) (f := f) (T := T) (N := es.length) (k := n) (fun _ => rfl) (Nat.le_refl _) hk.2.2 (by omega)
    have hr : r = (.exit 0, oSt true f es T es.length n (es.length, oneL es es.length n)) := by
      generalize oneL es es.length (n : Int) = ls at hC
      cases ls with
      | nil => exact (Option.some.inj hC).symm
      | cons x l => exact (Option.some.inj hC).symm
    subst hr
    refine ⟨?_, hrun⟩
    generalize oneL es es.length (n : Int) = ls
    cases ls with
    | nil => exact keeps_same rfl
    | cons x l => exact Keeps.of3 (show 3 ≤ 4 by decide) rfl
  · rename_i N k f es T
    change List Tk at es T
    obtain ⟨hk, hC⟩ := Tr.get_ask.1 h
    clear h
    have hk : 0 ≤ k ∧ k < (N : Int) ∧ N ≤ es.length ∧ es.length ≤ 1000 := of_decide_eq_true hk
    obtain ⟨n, rfl⟩ := Int.eq_ofNat_of_zero_le hk.1
    have hrun := o_run (w := false) (f := f) (T := T) (N := N) (k := n) nofun hk.2.2.1 hk.2.2.2 (by omega)
    have hr : r = (.exit 0, oSt false f es T N n (N, oneL es N n)) := by
      generalize oneL es N (n : Int) = ls at hC
      cases ls with
      | nil => exact (Option.some.inj hC).symm
      | cons x l => exact (Option.some.inj hC).symm
    subst hr
    refine ⟨?_, hrun⟩
    generalize oneL es N (n : Int) = ls
    cases ls with
    | nil => exact keeps_same rfl
    | cons x l => exact Keeps.of3 (show 3 ≤ 4 by decide) rfl
  · cases h
def lsA : LoopT C11 := Sx.addL 4 0 (loopS oSl [] oLoop) noLs
theorem lsA_ok : LoopTOk Try.prog lsA := addL_ok o_loop oLoop_ok noLs_ok
abbrev unA (g b : Nat) : Nat := match g, b with
  | 4, 0 => 0 | _, _ => 20
abbrev fA (f : Bool) (es : List Tk) (at' : Int) := fnC C11 Try.prog sfA lsA unA 10 4 [.h 0, .raw (.int .i64 at')] [.sl false f 34 es]
end
end Go.Proofs.Ytiaboemkgpkcpaa
