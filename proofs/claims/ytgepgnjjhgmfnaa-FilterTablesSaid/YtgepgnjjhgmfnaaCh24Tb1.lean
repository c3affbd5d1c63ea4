/-
  Chapter 24: FilterTables, its loop over numbers: the parts of a round. Own work; nothing here is trusted.
-/
import Derived.Test.YtgepgnjjhgmfnaaCh24Tbl0
import Derived.Test.YtgepgnjjhgmfnaaCh24Part
import Derived.Test.YtgepgnjjhgmfnaaCh24Pas0
import Derived.Test.YtgepgnjjhgmfnaaCh24VlnL
namespace Go.Proofs.Ytgepgnjjhgmfnaa
open Go Go.Sx Go.RowKit
set_option maxRecDepth 1000000
set_option maxHeartbeats 8000000
set_option linter.unusedVariables false
set_option linter.unusedSimpArgs false
noncomputable section
noncomputable def opsOf (k : Nat) : Array Oper := (opsIn k tbl).get!
noncomputable def tbQ : Code := match tbl with | .seq _ (.seq _ c) => c | _ => .skip
noncomputable def sfT1 : SpecT C24 := addS 18 (seeS pickT) noSp
theorem sfT1_ok : SpecTOk Try.prog sfT1 := addS_ok (seeS_ok pickT_ok) noSp_ok
noncomputable def cd9 : Code := .seq (.region 9 (opsOf 9) false) (.cond (.tmp 45) .skip (.exit 0))
noncomputable def cdL : Code := .seq cd9 (.seq (.block 1 (.seq (.region 11 (opsOf 11) false) (.seq (.region 12 (opsOf 12) false) (.seq (.region 13 (opsOf 13) false) (.region 14 (opsOf 14) false))))) (.region 10 (opsOf 10) false))
theorem tbl_eq : seqOf Try.prog 6 7 = some (167, .seq (.region 7 (opsOf 7) false) (.seq (.seq (.region 8 (opsOf 8) false) (.block 0 (.loop cdL))) tbQ)) := by kernel_rfl
noncomputable def ops14a : List Oper := (opsOf 14).toList.take 4
noncomputable def ops14b : List Oper := (opsOf 14).toList.drop 4
theorem ops14_eq : (opsOf 14).toList = ops14a ++ ops14b := (List.take_append_drop 4 _).symm
theorem lp7 : lps 0 (.region 7 (opsOf 7) false) = [] := rfl
theorem lp9 : lps 0 cd9 = [] := rfl
/-! ### the parts -/
abbrev sl6 : List Nat := [6, 7, 1, 2, 5, 8]
abbrev Sv := Option Addr × Nat × Nat
@[reducible] def tO (ts : List Sv) (m : List (Int × Bool)) (v : Lo Int) : List (SO C24) := .sl true false 33 ts :: .mp .i64 4 m :: obI v
@[reducible] def tV (v : Lo Int) (v2 v5 : Value) (k : Int) : List SV := [.h 0, .h 1, hS v 2, .raw v2, .raw v5, .raw (.int .i64 k)]
theorem p9_go {v : Lo Int} {v2 v5 : Value} {k : Int} {ts : List Sv} {m : List (Int × Bool)} (h : k < ((lo v).length : Int)) (h0 : 0 ≤ k) : (pieceL C24 Try.prog sfT1 noLs (fun _ _ => 20) 10 6 167 cd9 sl6 sl6 ⟨tV v v2 v5 k, 0, tO ts m v⟩).get = some (.normal, tV v v2 v5 k, tO ts m v) := by
  cases v with
  | none => exact absurd h (by show ¬ k < (0 : Int); omega)
  | some x =>
    obtain ⟨a, b, ls⟩ := x
    have h : k < (ls.length : Int) := h
    exact (by kernel_rfl : (pieceL C24 Try.prog sfT1 noLs (fun _ _ => 20) 10 6 167 cd9 sl6 sl6 ⟨tV (some (a, b, ls)) v2 v5 k, 0, tO ts m (some (a, b, ls))⟩).get = bro (decide (k < (ls.length : Int))) (some (.normal, tV (some (a, b, ls)) v2 v5 k, tO ts m (some (a, b, ls)))) (some (.exit 0, tV (some (a, b, ls)) v2 v5 k, tO ts m (some (a, b, ls))))).trans (by rw [decide_eq_true h]; rfl)
theorem p9_no {v : Lo Int} {v2 v5 : Value} {ts : List Sv} {m : List (Int × Bool)} : (pieceL C24 Try.prog sfT1 noLs (fun _ _ => 20) 10 6 167 cd9 sl6 sl6 ⟨tV v v2 v5 ((lo v).length : Int), 0, tO ts m v⟩).get = some (.exit 0, tV v v2 v5 ((lo v).length : Int), tO ts m v) := by
  cases v with
  | none => kernel_rfl
  | some x =>
    obtain ⟨a, b, ls⟩ := x
    exact (by kernel_rfl : (pieceL C24 Try.prog sfT1 noLs (fun _ _ => 20) 10 6 167 cd9 sl6 sl6 ⟨tV (some (a, b, ls)) v2 v5 (ls.length : Int), 0, tO ts m (some (a, b, ls))⟩).get = bro (decide ((ls.length : Int) < (ls.length : Int))) (some (.normal, tV (some (a, b, ls)) v2 v5 (ls.length : Int), tO ts m (some (a, b, ls)))) (some (.exit 0, tV (some (a, b, ls)) v2 v5 (ls.length : Int), tO ts m (some (a, b, ls))))).trans (by rw [decide_eq_false (Int.lt_irrefl _)]; rfl)
/-- The number, and whether it is to be on. -/
def nuK (ls : List Int) (k : Nat) : Int := pkN (ls.getD k 0)
def onK (k : Nat) : Bool := (k : Int).tmod 3 != 2
abbrev sl7 : List Nat := [6, 7, 1, 2, 5, 8, 9]
abbrev sl8 : List Nat := [6, 7, 1, 2, 5, 8, 9, 10]
abbrev slA : List Nat := [6, 7, 1, 2, 5, 8, 59, 62]
@[reducible] def tV7 (v : Lo Int) (v2 v5 : Value) (k n : Int) : List SV := [.h 0, .h 1, hS v 2, .raw v2, .raw v5, .raw (.int .i64 k), .raw (.int .i64 n)]
@[reducible] def tV8 (v : Lo Int) (v2 v5 : Value) (k n : Int) (on : Bool) : List SV := [.h 0, .h 1, hS v 2, .raw v2, .raw v5, .raw (.int .i64 k), .raw (.int .i64 n), .raw (.bool on)]
theorem p11 {v : Lo Int} {v2 v5 : Value} {k : Nat} {ts : List Sv} {m : List (Int × Bool)} (h : k < (lo v).length) : (pieceL C24 Try.prog sfT1 noLs (fun _ _ => 20) 10 6 167 (.region 11 (opsOf 11) false) sl6 sl7 ⟨tV v v2 v5 (k : Int), 0, tO ts m v⟩).get = some (.normal, tV7 v v2 v5 (k : Int) (nuK (lo v) k), tO ts m v) := by
  cases v with
  | none => exact absurd h (Nat.not_lt_zero _)
  | some x =>
    obtain ⟨a, b, ls⟩ := x
    have h : k < ls.length := h
    have k2 : Sx.inB (k : Int) ls.length = true := inB_mk ⟨by omega, by omega⟩
    have k3 := decide_eq_true (show ((k : Nat) : Int).toNat < ls.length by omega)
    exact (by kernel_rfl : (pieceL C24 Try.prog sfT1 noLs (fun _ _ => 20) 10 6 167 (.region 11 (opsOf 11) false) sl6 sl7 ⟨tV (some (a, b, ls)) v2 v5 (k : Int), 0, tO ts m (some (a, b, ls))⟩).get = bro (Sx.inB (k : Int) ls.length) (bro (decide ((k : Int).toNat < ls.length)) (some (.normal, tV7 (some (a, b, ls)) v2 v5 (k : Int) (pkN (ls.getD (k : Int).toNat 0)), tO ts m (some (a, b, ls)))) none) none).trans (by rw [k2, k3]; rfl)
theorem p12 {v : Lo Int} {v2 v5 : Value} {k n : Int} {ts : List Sv} {m : List (Int × Bool)} : (pieceL C24 Try.prog sfT1 noLs (fun _ _ => 20) 10 6 167 (.region 12 (opsOf 12) false) sl7 sl8 ⟨tV7 v v2 v5 k n, 0, tO ts m v⟩).get = some (.normal, tV8 v v2 v5 k n (k.tmod 3 != 2), tO ts m v) := by
  cases v <;> kernel_rfl
theorem p13 {v : Lo Int} {v2 v5 : Value} {k n : Int} {on : Bool} {ts : List Sv} {m : List (Int × Bool)} : (pieceL C24 Try.prog sfT1 noLs (fun _ _ => 20) 10 6 167 (.region 13 (opsOf 13) false) sl8 sl8 ⟨tV8 v v2 v5 k n on, 0, tO ts m v⟩).get = some (.normal, tV8 v v2 v5 k n on, tO ts (insM m n on) v) := by
  cases v <;> kernel_rfl
@[reducible] def tVA (v : Lo Int) (v2 v5 : Value) (k : Int) (x : SV) : List SV := [.h 0, .h 1, hS v 2, .raw v2, .raw v5, .raw (.int .i64 k), .h 0, x]
/-- The bytes of a command. -/
def vlB (n : Int) (on : Bool) : List Int := bif on then vB n else vR n
theorem p14a {v : Lo Int} {v2 v5 : Value} {k n : Int} {on : Bool} {ts : List Sv} {m : List (Int × Bool)} : (opsL C24 Try.prog sfT1 noLs (fun _ _ => 20) 10 167 (opsOf 14).toList ops14a sl8 slA ⟨tV8 v v2 v5 k n on, 0, tO ts m v⟩).get = some (.normal, tVA v v2 v5 k (.h (nx v 2)), tO ts m v ++ [.sl true true 5 (vlB n on)]) := by
  cases v <;> cases on <;> kernel_rfl
theorem p14b {v : Lo Int} {v2 v5 : Value} {k : Int} {t : Sv} {ts : List Sv} {m : List (Int × Bool)} (hr : roomB (ts.length + 1) Try.prog.types[(33 : Nat)].bytes = true) : (opsL C24 Try.prog sfT1 noLs (fun _ _ => 20) 10 167 (opsOf 14).toList ops14b slA sl6 ⟨tVA v v2 v5 k (.raw (.slice t.1 t.2.1 t.2.2)), 0, tO ts m v⟩).get = some (.normal, tV v v2 v5 k, tO (ts ++ [t]) m v) := by
  obtain ⟨a, l, c⟩ := t
  cases v with
  | none => exact (by kernel_rfl : (opsL C24 Try.prog sfT1 noLs (fun _ _ => 20) 10 167 (opsOf 14).toList ops14b slA sl6 ⟨tVA none v2 v5 k (.raw (.slice a l c)), 0, tO ts m none⟩).get = bro (roomB (ts.length + 1) Try.prog.types[(33 : Nat)].bytes) (some (.normal, tV none v2 v5 k, tO (ts ++ [(a, l, c)]) m none)) none).trans (by rw [hr]; rfl)
  | some x =>
    obtain ⟨x, y, ls⟩ := x
    exact (by kernel_rfl : (opsL C24 Try.prog sfT1 noLs (fun _ _ => 20) 10 167 (opsOf 14).toList ops14b slA sl6 ⟨tVA (some (x, y, ls)) v2 v5 k (.raw (.slice a l c)), 0, tO ts m (some (x, y, ls))⟩).get = bro (roomB (ts.length + 1) Try.prog.types[(33 : Nat)].bytes) (some (.normal, tV (some (x, y, ls)) v2 v5 k, tO (ts ++ [(a, l, c)]) m (some (x, y, ls)))) none).trans (by rw [hr]; rfl)
theorem p10 {v : Lo Int} {v2 v5 : Value} {k : Int} {ts : List Sv} {m : List (Int × Bool)} (hk : inR64 (k + 1) = true) : (pieceL C24 Try.prog sfT1 noLs (fun _ _ => 20) 10 6 167 (.region 10 (opsOf 10) false) sl6 sl6 ⟨tV v v2 v5 k, 0, tO ts m v⟩).get = some (.normal, tV v v2 v5 (k + 1), tO ts m v) := by
  cases v with
  | none => exact (by kernel_rfl : (pieceL C24 Try.prog sfT1 noLs (fun _ _ => 20) 10 6 167 (.region 10 (opsOf 10) false) sl6 sl6 ⟨tV none v2 v5 k, 0, tO ts m none⟩).get = bro (inR64 (k + 1)) (some (.normal, tV none v2 v5 (k + 1), tO ts m none)) (some (.normal, tV none v2 v5 (IntKind.i64.wrap (k + 1)), tO ts m none))).trans (by rw [hk]; rfl)
  | some x =>
    obtain ⟨x, y, ls⟩ := x
    exact (by kernel_rfl : (pieceL C24 Try.prog sfT1 noLs (fun _ _ => 20) 10 6 167 (.region 10 (opsOf 10) false) sl6 sl6 ⟨tV (some (x, y, ls)) v2 v5 k, 0, tO ts m (some (x, y, ls))⟩).get = bro (inR64 (k + 1)) (some (.normal, tV (some (x, y, ls)) v2 v5 (k + 1), tO ts m (some (x, y, ls)))) (some (.normal, tV (some (x, y, ls)) v2 v5 (IntKind.i64.wrap (k + 1)), tO ts m (some (x, y, ls))))).trans (by rw [hk]; rfl)
/-! ### its begin -/
theorem p7 {v : Lo Int} {v2 v5 : Value} {ts : List Sv} : (pieceL C24 Try.prog sfT1 noLs (fun _ _ => 20) 10 6 167 (.region 7 (opsOf 7) false) [6, 1, 2, 5] [6, 7, 1, 2, 5] ⟨[.h 0, hS v 1, .raw v2, .raw v5], 0, .sl true false 33 ts :: obI v⟩).get = some (.normal, [.h 0, .h 1, hS v 2, .raw v2, .raw v5], tO ts [] v) := by
  cases v <;> kernel_rfl
theorem p8 {v : Lo Int} {v2 v5 : Value} {ts : List Sv} {m : List (Int × Bool)} : (pieceL C24 Try.prog sfT1 noLs (fun _ _ => 20) 10 6 167 (.region 8 (opsOf 8) false) [6, 7, 1, 2, 5] sl6 ⟨[.h 0, .h 1, hS v 2, .raw v2, .raw v5], 0, tO ts m v⟩).get = some (.normal, tV v v2 v5 0, tO ts m v) := by
  cases v <;> kernel_rfl
end
end Go.Proofs.Ytgepgnjjhgmfnaa
