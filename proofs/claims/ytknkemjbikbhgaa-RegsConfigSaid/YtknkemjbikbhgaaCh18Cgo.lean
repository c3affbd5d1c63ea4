/-
  Chapter 18: RegsConfig, its outer loop. Own work; nothing here is trusted.
-/
import Derived.Test.YtknkemjbikbhgaaCh18CgP
namespace Go.Proofs.Ytknkemjbikbhgaa
open Go Go.Sx Go.RowKit
set_option maxRecDepth 1000000
set_option maxHeartbeats 8000000
set_option linter.unusedVariables false
set_option linter.unusedSimpArgs false
noncomputable section
def gF (r : Rg) : Nat → List Int
  | 0 => []
  | i + 1 => gF r i ++ [opq (cfAt r.cf (i : Int)) % 256]
theorem gF_len (r : Rg) (i : Nat) : (gF r i).length = i := by
  induction i with
  | zero => rfl
  | succ i ih => show (gF r i ++ [_]).length = _; rw [List.length_append, ih]; rfl
theorem cP0 (l : List Wt) (r : Rg) : cP l r 0 0 0 = (r, 0) := by
  unfold cP
  rw [opq_eq, show cM l 0 0 = 0 from Nat.zero_min _]; rfl
theorem cK0 (l : List Wt) : cK l 0 0 = 0 := by
  unfold cK
  rw [opq_eq, show cM l 0 0 = 0 from Nat.zero_min _]; rfl
theorem pk_op (n : Int) : 0 ≤ opq (pk3 n) ∧ opq (pk3 n) ≤ 2 := by rw [opq_eq]; have := pk3_in n; omega
theorem g8_loop : loopOf Try.prog 11 0 = some (((loopOf Try.prog 11 0).get!).1, (loopOf Try.prog 11 0).get!.2) := by kernel_rfl
theorem g8_room {got : List Int} {x : Int} (h : got.length ≤ 100) : roomB (got.length + [x].length) Try.prog.types[(5 : Nat)].bytes = true := room5 (by show got.length + 1 ≤ 100000; omega)
theorem gnv0_round {fc : Bool} {cfg : List Int} {l : List Wt} {ws : List Int} {gn : Int} {r : Rg} (h : RI r) (hq : AcQ l) (hL : cfg.length ≤ 64) {i : Nat} (hi : i < cfg.length) : (gnvR (gnv0 fc cfg l ws gn r 0 0 (i : Int))).get = some (.normal, gnv1 fc cfg l ws gn r [opq (cfAt r.cf (i : Int)) % 256] 0 0 ((i : Int) + 1)) := by
  have k1 := decide_eq_true (show (i : Int) < (cfg.length : Int) by omega)
  have k4 : inR64 ((i : Int) + 1) = true := inR64_mk (by omega)
  have k8 := h.v
  have kz : decide ((i : Int) < (((0 : Nat)) : Int)) = false := decide_eq_false (by omega)
  have kk : decide ((0 : Int) < (((0 : Nat)) : Int)) = false := rfl
  have k5 : cdec (CGo l r 0 0 0) = true := cdec_iff.2 ⟨h, hq, by omega, by omega, by omega⟩
  have k6 : decide ((cP l r 0 0 (0 : Int)).2 = (0 : Int).toNat) = true := decide_eq_true (by rw [cP0]; rfl)
  refine (Tr.follow_get (gnv0_x fc cfg l ws gn r 0 0 (i : Int)) (by simp only [k1, k4, k8, kz, kk, k5, k6])).trans ?_
  rw [cK0]
theorem gnv1_round {fc : Bool} {cfg : List Int} {l : List Wt} {ws : List Int} {gn : Int} {r : Rg} {got : List Int} (h : RI r) (hq : AcQ l) (hL : cfg.length ≤ 64) (hg : got.length ≤ 100) {i : Nat} (hi : i < cfg.length) : (gnvR (gnv1 fc cfg l ws gn r got 0 0 (i : Int))).get = some (.normal, gnv1 fc cfg l ws gn r (got ++ [opq (cfAt r.cf (i : Int)) % 256]) 0 0 ((i : Int) + 1)) := by
  have k1 := decide_eq_true (show (i : Int) < (cfg.length : Int) by omega)
  have k4 : inR64 ((i : Int) + 1) = true := inR64_mk (by omega)
  have k8 := h.v
  have kz : decide ((i : Int) < (((0 : Nat)) : Int)) = false := decide_eq_false (by omega)
  have kk : decide ((0 : Int) < (((0 : Nat)) : Int)) = false := rfl
  have kr := fun x => g8_room (x := x) hg
  have k5 : cdec (CGo l r 0 0 0) = true := cdec_iff.2 ⟨h, hq, by omega, by omega, by omega⟩
  have k6 : decide ((cP l r 0 0 (0 : Int)).2 = (0 : Int).toNat) = true := decide_eq_true (by rw [cP0]; rfl)
  refine (Tr.follow_get (gnv1_x fc cfg l ws gn r got 0 0 (i : Int)) (by simp only [k1, k4, k8, kz, kk, kr, k5, k6])).trans ?_
  rw [cK0]
@[reducible] def gnvSt (fc : Bool) (cfg : List Int) (l : List Wt) (ws : List Int) (gn : Int) (r : Rg) : Nat → List SV × List (SO C18)
  | 0 => gnv0 fc cfg l ws gn r 0 0 0
  | i + 1 => gnv1 fc cfg l ws gn r (gF r (i + 1)) 0 0 ((i + 1 : Nat) : Int)
theorem gnv_round {fc : Bool} {cfg : List Int} {l : List Wt} {ws : List Int} {gn : Int} {r : Rg} (h : RI r) (hq : AcQ l) (hL : cfg.length ≤ 64) {i : Nat} (hi : i < cfg.length) : (gnvR (gnvSt fc cfg l ws gn r i)).get = some (.normal, gnvSt fc cfg l ws gn r (i + 1)) := by
  cases i with
  | zero => exact gnv0_round h hq hL hi
  | succ j => exact gnv1_round h hq hL (by rw [gF_len]; omega) hi
theorem gnv_end {fc : Bool} {cfg : List Int} {l : List Wt} {ws : List Int} {gn : Int} {r : Rg} : (gnvR (gnvSt fc cfg l ws gn r cfg.length)).get = some (.exit 0, gnvSt fc cfg l ws gn r cfg.length) := by
  have k1 : decide ((cfg.length : Int) < (cfg.length : Int)) = false := decide_eq_false (Int.lt_irrefl _)
  cases hn : cfg.length with
  | zero => exact Tr.follow_get (gnv0_end fc cfg l ws gn r 0 0 0) (by rw [hn]; rfl)
  | succ j =>
    rw [hn] at k1
    exact Tr.follow_get (gnv1_end fc cfg l ws gn r _ 0 0 ((j + 1 : Nat) : Int)) (by rw [hn, k1])
theorem gnv_run {fc : Bool} {cfg : List Int} {l : List Wt} {ws : List Int} {gn : Int} {r : Rg} (h : RI r) (hq : AcQ l) (hL : cfg.length ≤ 64) :
    Keeps 6 (gnvSt fc cfg l ws gn r 0).2 (gnvSt fc cfg l ws gn r cfg.length).2 ∧ LoopRun Try.prog ((loopOf Try.prog 11 0).get!).1 (loopOf Try.prog 11 0).get!.2 6 (LI.st gSl8 ⟨(gnvSt fc cfg l ws gn r 0).1, 6, (gnvSt fc cfg l ws gn r 0).2⟩) fun x T => ∃ vs os, (x = .exit 0 ∧ (vs, os) = gnvSt fc cfg l ws gn r cfg.length) ∧ T = ⟨zipT gSl8 vs, numH 0 os, os.length⟩ := by
  constructor
  · cases cfg.length <;> exact Keeps.of3 (by simp) rfl
  · refine loop_li (σ := Nat) (st := gnvSt fc cfg l ws gn r) (Inv := fun i => i ≤ cfg.length) (μ := fun i => cfg.length - i) (d := 10) (unr := unV8) (sp := sfG8) (ls := lsG8) plain mixed sfG8_ok lsG8_ok g8_loop (fun i hi => ?_) 0 (Nat.zero_le _)
    by_cases h5 : i < cfg.length
    · exact ⟨_, gnv_round h hq hL h5, fun _ => ⟨i + 1, by omega, by omega, rfl⟩, nofun⟩
    · obtain rfl : i = cfg.length := by omega
      exact ⟨_, gnv_end, nofun, fun _ => ⟨rfl, rfl⟩⟩
def gnvLeaf (fc : Bool) (cfg : List Int) (l : List Wt) (ws : List Int) (gn : Int) (r : Rg) : Tr (Ex × List SV × List (SO C18)) := .br (decide (cfg.length = 0)) (.leaf (.exit 0, gnv0 fc cfg l ws gn r 0 0 0)) (.leaf (.exit 0, gnv1 fc cfg l ws gn r (opq (gF r cfg.length)) 0 0 (cfg.length : Int)))
theorem gnvLeaf_get (fc : Bool) (cfg : List Int) (l : List Wt) (ws : List Int) (gn : Int) (r : Rg) : (gnvLeaf fc cfg l ws gn r).get = some (.exit 0, gnvSt fc cfg l ws gn r cfg.length) := by
  unfold gnvLeaf
  rw [opq_eq]
  cases hn : cfg.length with
  | zero => rfl
  | succ j => rfl
theorem gvn0_round {fc : Bool} {cfg : List Int} {fb : Bool} {bt : List Int} {ws : List Int} {gn : Int} {r : Rg} (h : RI r) (hL : cfg.length ≤ 64) {i : Nat} (hi : i < cfg.length) : (gvnR (gvn0 fc cfg fb bt ws gn r 0 0 (i : Int))).get = some (.normal, gvn1 fc cfg fb bt ws gn r [opq (cfAt r.cf (i : Int)) % 256] 0 0 ((i : Int) + 1)) := by
  have k1 := decide_eq_true (show (i : Int) < (cfg.length : Int) by omega)
  have k4 : inR64 ((i : Int) + 1) = true := inR64_mk (by omega)
  have k8 := h.v
  have kz : decide ((i : Int) < (((0 : Nat)) : Int)) = false := decide_eq_false (by omega)
  have kk : decide ((0 : Int) < (((0 : Nat)) : Int)) = false := rfl
  by_cases hb : i < bt.length
  · have b1 := decide_eq_true (show (i : Int) < (bt.length : Int) by omega)
    have b2 : Sx.inB (i : Int) bt.length = true := inB_mk ⟨by omega, by omega⟩
    have b3 := decide_eq_true (show ((i : Nat) : Int).toNat < bt.length by omega)
    cases hn : decide ((0 : Int) < opq (pk3 (bt.getD ((i : Nat) : Int).toNat (C18 (3 : TypeId)).d))) with
    | true => exact Tr.follow_get (gvn0_tt fc cfg fb bt ws gn r 0 0 (i : Int)) (by simp only [k1, k4, k8, kz, kk, b1, b2, b3, hn])
    | false => exact Tr.follow_get (gvn0_tf fc cfg fb bt ws gn r 0 0 (i : Int)) (by simp only [k1, k4, k8, kz, kk, b1, b2, b3, hn])
  · have b1 := decide_eq_false (show ¬ (i : Int) < (bt.length : Int) by omega)
    exact Tr.follow_get (gvn0_f fc cfg fb bt ws gn r 0 0 (i : Int)) (by simp only [k1, k4, k8, kz, kk, b1])
theorem gvn1_round {fc : Bool} {cfg : List Int} {fb : Bool} {bt : List Int} {ws : List Int} {gn : Int} {r : Rg} {got : List Int} (h : RI r) (hL : cfg.length ≤ 64) (hg : got.length ≤ 100) {i : Nat} (hi : i < cfg.length) : (gvnR (gvn1 fc cfg fb bt ws gn r got 0 0 (i : Int))).get = some (.normal, gvn1 fc cfg fb bt ws gn r (got ++ [opq (cfAt r.cf (i : Int)) % 256]) 0 0 ((i : Int) + 1)) := by
  have k1 := decide_eq_true (show (i : Int) < (cfg.length : Int) by omega)
  have k4 : inR64 ((i : Int) + 1) = true := inR64_mk (by omega)
  have k8 := h.v
  have kz : decide ((i : Int) < (((0 : Nat)) : Int)) = false := decide_eq_false (by omega)
  have kk : decide ((0 : Int) < (((0 : Nat)) : Int)) = false := rfl
  have kr := fun x => g8_room (x := x) hg
  by_cases hb : i < bt.length
  · have b1 := decide_eq_true (show (i : Int) < (bt.length : Int) by omega)
    have b2 : Sx.inB (i : Int) bt.length = true := inB_mk ⟨by omega, by omega⟩
    have b3 := decide_eq_true (show ((i : Nat) : Int).toNat < bt.length by omega)
    cases hn : decide ((0 : Int) < opq (pk3 (bt.getD ((i : Nat) : Int).toNat (C18 (3 : TypeId)).d))) with
    | true => exact Tr.follow_get (gvn1_tt fc cfg fb bt ws gn r got 0 0 (i : Int)) (by simp only [k1, k4, k8, kz, kk, kr, b1, b2, b3, hn])
    | false => exact Tr.follow_get (gvn1_tf fc cfg fb bt ws gn r got 0 0 (i : Int)) (by simp only [k1, k4, k8, kz, kk, kr, b1, b2, b3, hn])
  · have b1 := decide_eq_false (show ¬ (i : Int) < (bt.length : Int) by omega)
    exact Tr.follow_get (gvn1_f fc cfg fb bt ws gn r got 0 0 (i : Int)) (by simp only [k1, k4, k8, kz, kk, kr, b1])
@[reducible] def gvnSt (fc : Bool) (cfg : List Int) (fb : Bool) (bt : List Int) (ws : List Int) (gn : Int) (r : Rg) : Nat → List SV × List (SO C18)
  | 0 => gvn0 fc cfg fb bt ws gn r 0 0 0
  | i + 1 => gvn1 fc cfg fb bt ws gn r (gF r (i + 1)) 0 0 ((i + 1 : Nat) : Int)
theorem gvn_round {fc : Bool} {cfg : List Int} {fb : Bool} {bt : List Int} {ws : List Int} {gn : Int} {r : Rg} (h : RI r) (hL : cfg.length ≤ 64) {i : Nat} (hi : i < cfg.length) : (gvnR (gvnSt fc cfg fb bt ws gn r i)).get = some (.normal, gvnSt fc cfg fb bt ws gn r (i + 1)) := by
  cases i with
  | zero => exact gvn0_round h hL hi
  | succ j => exact gvn1_round h hL (by rw [gF_len]; omega) hi
theorem gvn_end {fc : Bool} {cfg : List Int} {fb : Bool} {bt : List Int} {ws : List Int} {gn : Int} {r : Rg} : (gvnR (gvnSt fc cfg fb bt ws gn r cfg.length)).get = some (.exit 0, gvnSt fc cfg fb bt ws gn r cfg.length) := by
  have k1 : decide ((cfg.length : Int) < (cfg.length : Int)) = false := decide_eq_false (Int.lt_irrefl _)
  cases hn : cfg.length with
  | zero => exact Tr.follow_get (gvn0_end fc cfg fb bt ws gn r 0 0 0) (by rw [hn]; rfl)
  | succ j =>
    rw [hn] at k1
    exact Tr.follow_get (gvn1_end fc cfg fb bt ws gn r _ 0 0 ((j + 1 : Nat) : Int)) (by rw [hn, k1])
theorem gvn_run {fc : Bool} {cfg : List Int} {fb : Bool} {bt : List Int} {ws : List Int} {gn : Int} {r : Rg} (h : RI r) (hL : cfg.length ≤ 64) :
    Keeps 6 (gvnSt fc cfg fb bt ws gn r 0).2 (gvnSt fc cfg fb bt ws gn r cfg.length).2 ∧ LoopRun Try.prog ((loopOf Try.prog 11 0).get!).1 (loopOf Try.prog 11 0).get!.2 6 (LI.st gSl8 ⟨(gvnSt fc cfg fb bt ws gn r 0).1, 6, (gvnSt fc cfg fb bt ws gn r 0).2⟩) fun x T => ∃ vs os, (x = .exit 0 ∧ (vs, os) = gvnSt fc cfg fb bt ws gn r cfg.length) ∧ T = ⟨zipT gSl8 vs, numH 0 os, os.length⟩ := by
  constructor
  · cases cfg.length <;> exact Keeps.of3 (by simp) rfl
  · refine loop_li (σ := Nat) (st := gvnSt fc cfg fb bt ws gn r) (Inv := fun i => i ≤ cfg.length) (μ := fun i => cfg.length - i) (d := 10) (unr := (fun _ _ => 20)) (sp := sfG8) (ls := lsG8) plain mixed sfG8_ok lsG8_ok g8_loop (fun i hi => ?_) 0 (Nat.zero_le _)
    by_cases h5 : i < cfg.length
    · exact ⟨_, gvn_round h hL h5, fun _ => ⟨i + 1, by omega, by omega, rfl⟩, nofun⟩
    · obtain rfl : i = cfg.length := by omega
      exact ⟨_, gvn_end, nofun, fun _ => ⟨rfl, rfl⟩⟩
def gvnLeaf (fc : Bool) (cfg : List Int) (fb : Bool) (bt : List Int) (ws : List Int) (gn : Int) (r : Rg) : Tr (Ex × List SV × List (SO C18)) := .br (decide (cfg.length = 0)) (.leaf (.exit 0, gvn0 fc cfg fb bt ws gn r 0 0 0)) (.leaf (.exit 0, gvn1 fc cfg fb bt ws gn r (opq (gF r cfg.length)) 0 0 (cfg.length : Int)))
theorem gvnLeaf_get (fc : Bool) (cfg : List Int) (fb : Bool) (bt : List Int) (ws : List Int) (gn : Int) (r : Rg) : (gvnLeaf fc cfg fb bt ws gn r).get = some (.exit 0, gvnSt fc cfg fb bt ws gn r cfg.length) := by
  unfold gvnLeaf
  rw [opq_eq]
  cases hn : cfg.length with
  | zero => rfl
  | succ j => rfl
theorem gnn0_round {fc : Bool} {cfg : List Int} {ws : List Int} {gn : Int} {r : Rg} (h : RI r) (hL : cfg.length ≤ 64) {i : Nat} (hi : i < cfg.length) : (gnnR (gnn0 fc cfg ws gn r 0 0 (i : Int))).get = some (.normal, gnn1 fc cfg ws gn r [opq (cfAt r.cf (i : Int)) % 256] 0 0 ((i : Int) + 1)) := by
  have k1 := decide_eq_true (show (i : Int) < (cfg.length : Int) by omega)
  have k4 : inR64 ((i : Int) + 1) = true := inR64_mk (by omega)
  have k8 := h.v
  have kz : decide ((i : Int) < (((0 : Nat)) : Int)) = false := decide_eq_false (by omega)
  have kk : decide ((0 : Int) < (((0 : Nat)) : Int)) = false := rfl
  exact Tr.follow_get (gnn0_x fc cfg ws gn r 0 0 (i : Int)) (by simp only [k1, k4, k8, kz, kk])
theorem gnn1_round {fc : Bool} {cfg : List Int} {ws : List Int} {gn : Int} {r : Rg} {got : List Int} (h : RI r) (hL : cfg.length ≤ 64) (hg : got.length ≤ 100) {i : Nat} (hi : i < cfg.length) : (gnnR (gnn1 fc cfg ws gn r got 0 0 (i : Int))).get = some (.normal, gnn1 fc cfg ws gn r (got ++ [opq (cfAt r.cf (i : Int)) % 256]) 0 0 ((i : Int) + 1)) := by
  have k1 := decide_eq_true (show (i : Int) < (cfg.length : Int) by omega)
  have k4 : inR64 ((i : Int) + 1) = true := inR64_mk (by omega)
  have k8 := h.v
  have kz : decide ((i : Int) < (((0 : Nat)) : Int)) = false := decide_eq_false (by omega)
  have kk : decide ((0 : Int) < (((0 : Nat)) : Int)) = false := rfl
  have kr := fun x => g8_room (x := x) hg
  exact Tr.follow_get (gnn1_x fc cfg ws gn r got 0 0 (i : Int)) (by simp only [k1, k4, k8, kz, kk, kr])
@[reducible] def gnnSt (fc : Bool) (cfg : List Int) (ws : List Int) (gn : Int) (r : Rg) : Nat → List SV × List (SO C18)
  | 0 => gnn0 fc cfg ws gn r 0 0 0
  | i + 1 => gnn1 fc cfg ws gn r (gF r (i + 1)) 0 0 ((i + 1 : Nat) : Int)
theorem gnn_round {fc : Bool} {cfg : List Int} {ws : List Int} {gn : Int} {r : Rg} (h : RI r) (hL : cfg.length ≤ 64) {i : Nat} (hi : i < cfg.length) : (gnnR (gnnSt fc cfg ws gn r i)).get = some (.normal, gnnSt fc cfg ws gn r (i + 1)) := by
  cases i with
  | zero => exact gnn0_round h hL hi
  | succ j => exact gnn1_round h hL (by rw [gF_len]; omega) hi
theorem gnn_end {fc : Bool} {cfg : List Int} {ws : List Int} {gn : Int} {r : Rg} : (gnnR (gnnSt fc cfg ws gn r cfg.length)).get = some (.exit 0, gnnSt fc cfg ws gn r cfg.length) := by
  have k1 : decide ((cfg.length : Int) < (cfg.length : Int)) = false := decide_eq_false (Int.lt_irrefl _)
  cases hn : cfg.length with
  | zero => exact Tr.follow_get (gnn0_end fc cfg ws gn r 0 0 0) (by rw [hn]; rfl)
  | succ j =>
    rw [hn] at k1
    exact Tr.follow_get (gnn1_end fc cfg ws gn r _ 0 0 ((j + 1 : Nat) : Int)) (by rw [hn, k1])
theorem gnn_run {fc : Bool} {cfg : List Int} {ws : List Int} {gn : Int} {r : Rg} (h : RI r) (hL : cfg.length ≤ 64) :
    Keeps 5 (gnnSt fc cfg ws gn r 0).2 (gnnSt fc cfg ws gn r cfg.length).2 ∧ LoopRun Try.prog ((loopOf Try.prog 11 0).get!).1 (loopOf Try.prog 11 0).get!.2 5 (LI.st gSl8 ⟨(gnnSt fc cfg ws gn r 0).1, 5, (gnnSt fc cfg ws gn r 0).2⟩) fun x T => ∃ vs os, (x = .exit 0 ∧ (vs, os) = gnnSt fc cfg ws gn r cfg.length) ∧ T = ⟨zipT gSl8 vs, numH 0 os, os.length⟩ := by
  constructor
  · cases cfg.length <;> exact Keeps.of3 (by simp) rfl
  · refine loop_li (σ := Nat) (st := gnnSt fc cfg ws gn r) (Inv := fun i => i ≤ cfg.length) (μ := fun i => cfg.length - i) (d := 10) (unr := (fun _ _ => 20)) (sp := sfG8) (ls := lsG8) plain mixed sfG8_ok lsG8_ok g8_loop (fun i hi => ?_) 0 (Nat.zero_le _)
    by_cases h5 : i < cfg.length
    · exact ⟨_, gnn_round h hL h5, fun _ => ⟨i + 1, by omega, by omega, rfl⟩, nofun⟩
    · obtain rfl : i = cfg.length := by omega
      exact ⟨_, gnn_end, nofun, fun _ => ⟨rfl, rfl⟩⟩
def gnnLeaf (fc : Bool) (cfg : List Int) (ws : List Int) (gn : Int) (r : Rg) : Tr (Ex × List SV × List (SO C18)) := .br (decide (cfg.length = 0)) (.leaf (.exit 0, gnn0 fc cfg ws gn r 0 0 0)) (.leaf (.exit 0, gnn1 fc cfg ws gn r (opq (gF r cfg.length)) 0 0 (cfg.length : Int)))
theorem gnnLeaf_get (fc : Bool) (cfg : List Int) (ws : List Int) (gn : Int) (r : Rg) : (gnnLeaf fc cfg ws gn r).get = some (.exit 0, gnnSt fc cfg ws gn r cfg.length) := by
  unfold gnnLeaf
  rw [opq_eq]
  cases hn : cfg.length with
  | zero => rfl
  | succ j => rfl
/-! ### with acts between -/
def nB (bt : List Int) (i : Nat) : Int := if i < bt.length then opq (pk3 (bt.getD ((i : Nat) : Int).toNat (C18 (3 : TypeId)).d)) else 0
theorem nB_in (bt : List Int) (i : Nat) : 0 ≤ nB bt i ∧ nB bt i ≤ 2 := by
  unfold nB
  split
  · exact pk_op _
  · omega
theorem cP_n {l : List Wt} {r : Rg} {k c n : Int} : c.toNat ≤ (cP l r k c n).2 ∧ ((cP l r k c n).2 = c.toNat → cP l r k c n = (r, c.toNat)) := by
  unfold cP
  rw [opq_eq]
  have h := rC_n (r, c.toNat) ((l.drop k.toNat).take (cM l k n))
  exact ⟨h.1, h.2.2⟩
theorem cP_I {l : List Wt} {r : Rg} {k c n : Int} (h : RI r) : RI (cP l r k c n).1 := by
  unfold cP
  rw [opq_eq]
  exact rC_I h
theorem gvv0_round {fc : Bool} {cfg : List Int} {fb : Bool} {bt : List Int} {l : List Wt} {ws : List Int} {gn : Int} {r : Rg} (h : RI r) (hq : AcQ l) (hL : cfg.length ≤ 64) {i : Nat} (hi : i < cfg.length) {K C : Nat} (hK : K ≤ l.length) (hC : C ≤ 1000) : (gvvR (gvv0 fc cfg fb bt l ws gn r (K : Int) (C : Int) (i : Int))).get = some (.normal, bif decide ((cP l r (K : Int) (C : Int) (nB bt i)).2 = C) then gvv1 fc cfg fb bt l ws gn r [opq (cfAt r.cf (i : Int)) % 256] (cK l (K : Int) (nB bt i)) (C : Int) ((i : Int) + 1) else gvv2 fc cfg fb bt l ws gn r (cP l r (K : Int) (C : Int) (nB bt i)).1 [opq (cfAt (cP l r (K : Int) (C : Int) (nB bt i)).1.cf (i : Int)) % 256] (cK l (K : Int) (nB bt i)) ((cP l r (K : Int) (C : Int) (nB bt i)).2 : Int) ((i : Int) + 1)) := by
  have k1 := decide_eq_true (show (i : Int) < (cfg.length : Int) by omega)
  have k4 : inR64 ((i : Int) + 1) = true := inR64_mk (by omega)
  have k8 := h.v
  have hnb := nB_in bt i
  have k5 : cdec (CGo l r (K : Int) (C : Int) (nB bt i)) = true := cdec_iff.2 ⟨h, hq, by omega, by omega, hnb⟩
  have k9 : rV (cP l r (K : Int) (C : Int) (nB bt i)).1 = true := (cP_I h).v
  by_cases hb : i < bt.length
  · have b1 := decide_eq_true (show (i : Int) < (bt.length : Int) by omega)
    have b2 : Sx.inB (i : Int) bt.length = true := inB_mk ⟨by omega, by omega⟩
    have b3 := decide_eq_true (show ((i : Nat) : Int).toNat < bt.length by omega)
    have en : nB bt i = opq (pk3 (bt.getD ((i : Nat) : Int).toNat (C18 (3 : TypeId)).d)) := if_pos hb
    rw [en] at k5 k9 ⊢
    cases hn : decide ((cP l r (K : Int) (C : Int) (opq (pk3 (bt.getD ((i : Nat) : Int).toNat (C18 (3 : TypeId)).d)))).2 = C) with
    | true => 
      have hn : decide ((cP l r (K : Int) (C : Int) (opq (pk3 (bt.getD ((i : Nat) : Int).toNat (C18 (3 : TypeId)).d)))).2 = ((C : Nat) : Int).toNat) = true := hn
      exact Tr.follow_get (gvv0_tt fc cfg fb bt l ws gn r (K : Int) (C : Int) (i : Int)) (by simp only [k1, k4, k5, k8, k9, b1, b2, b3, hn])
    | false =>
      have hn : decide ((cP l r (K : Int) (C : Int) (opq (pk3 (bt.getD ((i : Nat) : Int).toNat (C18 (3 : TypeId)).d)))).2 = ((C : Nat) : Int).toNat) = false := hn
      exact Tr.follow_get (gvv0_tf fc cfg fb bt l ws gn r (K : Int) (C : Int) (i : Int)) (by simp only [k1, k4, k5, k8, k9, b1, b2, b3, hn])
  · have b1 := decide_eq_false (show ¬ (i : Int) < (bt.length : Int) by omega)
    have en : nB bt i = 0 := if_neg hb
    rw [en] at k5 k9 ⊢
    cases hn : decide ((cP l r (K : Int) (C : Int) 0).2 = C) with
    | true =>
      have hn : decide ((cP l r (K : Int) (C : Int) 0).2 = ((C : Nat) : Int).toNat) = true := hn
      exact Tr.follow_get (gvv0_ft fc cfg fb bt l ws gn r (K : Int) (C : Int) (i : Int)) (by simp only [k1, k4, k5, k8, k9, b1, hn])
    | false =>
      have hn : decide ((cP l r (K : Int) (C : Int) 0).2 = ((C : Nat) : Int).toNat) = false := hn
      exact Tr.follow_get (gvv0_ff fc cfg fb bt l ws gn r (K : Int) (C : Int) (i : Int)) (by simp only [k1, k4, k5, k8, k9, b1, hn])
theorem gvv1_round {fc : Bool} {cfg : List Int} {fb : Bool} {bt : List Int} {l : List Wt} {ws : List Int} {gn : Int} {r : Rg} {got : List Int} (h : RI r) (hq : AcQ l) (hL : cfg.length ≤ 64) (hg : got.length ≤ 100) {i : Nat} (hi : i < cfg.length) {K C : Nat} (hK : K ≤ l.length) (hC : C ≤ 1000) : (gvvR (gvv1 fc cfg fb bt l ws gn r got (K : Int) (C : Int) (i : Int))).get = some (.normal, bif decide ((cP l r (K : Int) (C : Int) (nB bt i)).2 = C) then gvv1 fc cfg fb bt l ws gn r (got ++ [opq (cfAt r.cf (i : Int)) % 256]) (cK l (K : Int) (nB bt i)) (C : Int) ((i : Int) + 1) else gvv2 fc cfg fb bt l ws gn r (cP l r (K : Int) (C : Int) (nB bt i)).1 (got ++ [opq (cfAt (cP l r (K : Int) (C : Int) (nB bt i)).1.cf (i : Int)) % 256]) (cK l (K : Int) (nB bt i)) ((cP l r (K : Int) (C : Int) (nB bt i)).2 : Int) ((i : Int) + 1)) := by
  have k1 := decide_eq_true (show (i : Int) < (cfg.length : Int) by omega)
  have k4 : inR64 ((i : Int) + 1) = true := inR64_mk (by omega)
  have k8 := h.v
  have hnb := nB_in bt i
  have k5 : cdec (CGo l r (K : Int) (C : Int) (nB bt i)) = true := cdec_iff.2 ⟨h, hq, by omega, by omega, hnb⟩
  have k9 : rV (cP l r (K : Int) (C : Int) (nB bt i)).1 = true := (cP_I h).v
  have kr := fun x => g8_room (x := x) hg
  by_cases hb : i < bt.length
  · have b1 := decide_eq_true (show (i : Int) < (bt.length : Int) by omega)
    have b2 : Sx.inB (i : Int) bt.length = true := inB_mk ⟨by omega, by omega⟩
    have b3 := decide_eq_true (show ((i : Nat) : Int).toNat < bt.length by omega)
    have en : nB bt i = opq (pk3 (bt.getD ((i : Nat) : Int).toNat (C18 (3 : TypeId)).d)) := if_pos hb
    rw [en] at k5 k9 ⊢
    cases hn : decide ((cP l r (K : Int) (C : Int) (opq (pk3 (bt.getD ((i : Nat) : Int).toNat (C18 (3 : TypeId)).d)))).2 = C) with
    | true => 
      have hn : decide ((cP l r (K : Int) (C : Int) (opq (pk3 (bt.getD ((i : Nat) : Int).toNat (C18 (3 : TypeId)).d)))).2 = ((C : Nat) : Int).toNat) = true := hn
      exact Tr.follow_get (gvv1_tt fc cfg fb bt l ws gn r got (K : Int) (C : Int) (i : Int)) (by simp only [k1, k4, k5, k8, k9, kr, b1, b2, b3, hn])
    | false =>
      have hn : decide ((cP l r (K : Int) (C : Int) (opq (pk3 (bt.getD ((i : Nat) : Int).toNat (C18 (3 : TypeId)).d)))).2 = ((C : Nat) : Int).toNat) = false := hn
      exact Tr.follow_get (gvv1_tf fc cfg fb bt l ws gn r got (K : Int) (C : Int) (i : Int)) (by simp only [k1, k4, k5, k8, k9, kr, b1, b2, b3, hn])
  · have b1 := decide_eq_false (show ¬ (i : Int) < (bt.length : Int) by omega)
    have en : nB bt i = 0 := if_neg hb
    rw [en] at k5 k9 ⊢
    cases hn : decide ((cP l r (K : Int) (C : Int) 0).2 = C) with
    | true =>
      have hn : decide ((cP l r (K : Int) (C : Int) 0).2 = ((C : Nat) : Int).toNat) = true := hn
      exact Tr.follow_get (gvv1_ft fc cfg fb bt l ws gn r got (K : Int) (C : Int) (i : Int)) (by simp only [k1, k4, k5, k8, k9, kr, b1, hn])
    | false =>
      have hn : decide ((cP l r (K : Int) (C : Int) 0).2 = ((C : Nat) : Int).toNat) = false := hn
      exact Tr.follow_get (gvv1_ff fc cfg fb bt l ws gn r got (K : Int) (C : Int) (i : Int)) (by simp only [k1, k4, k5, k8, k9, kr, b1, hn])
theorem gvv2_round {fc : Bool} {cfg : List Int} {fb : Bool} {bt : List Int} {l : List Wt} {ws : List Int} {gn : Int} {r : Rg} {x : Rg} {got : List Int} (h : RI x) (hq : AcQ l) (hL : cfg.length ≤ 64) (hg : got.length ≤ 100) {i : Nat} (hi : i < cfg.length) {K C : Nat} (hK : K ≤ l.length) (hC : C ≤ 1000) : (gvvR (gvv2 fc cfg fb bt l ws gn r x got (K : Int) (C : Int) (i : Int))).get = some (.normal, bif decide ((cP l x (K : Int) (C : Int) (nB bt i)).2 = C) then gvv2 fc cfg fb bt l ws gn r x (got ++ [opq (cfAt x.cf (i : Int)) % 256]) (cK l (K : Int) (nB bt i)) (C : Int) ((i : Int) + 1) else gvv2 fc cfg fb bt l ws gn r (cP l x (K : Int) (C : Int) (nB bt i)).1 (got ++ [opq (cfAt (cP l x (K : Int) (C : Int) (nB bt i)).1.cf (i : Int)) % 256]) (cK l (K : Int) (nB bt i)) ((cP l x (K : Int) (C : Int) (nB bt i)).2 : Int) ((i : Int) + 1)) := by
  have k1 := decide_eq_true (show (i : Int) < (cfg.length : Int) by omega)
  have k4 : inR64 ((i : Int) + 1) = true := inR64_mk (by omega)
  have k8 := h.v
  have hnb := nB_in bt i
  have k5 : cdec (CGo l x (K : Int) (C : Int) (nB bt i)) = true := cdec_iff.2 ⟨h, hq, by omega, by omega, hnb⟩
  have k9 : rV (cP l x (K : Int) (C : Int) (nB bt i)).1 = true := (cP_I h).v
  have kr := fun x => g8_room (x := x) hg
  by_cases hb : i < bt.length
  · have b1 := decide_eq_true (show (i : Int) < (bt.length : Int) by omega)
    have b2 : Sx.inB (i : Int) bt.length = true := inB_mk ⟨by omega, by omega⟩
    have b3 := decide_eq_true (show ((i : Nat) : Int).toNat < bt.length by omega)
    have en : nB bt i = opq (pk3 (bt.getD ((i : Nat) : Int).toNat (C18 (3 : TypeId)).d)) := if_pos hb
    rw [en] at k5 k9 ⊢
    cases hn : decide ((cP l x (K : Int) (C : Int) (opq (pk3 (bt.getD ((i : Nat) : Int).toNat (C18 (3 : TypeId)).d)))).2 = C) with
    | true => 
      have hn : decide ((cP l x (K : Int) (C : Int) (opq (pk3 (bt.getD ((i : Nat) : Int).toNat (C18 (3 : TypeId)).d)))).2 = ((C : Nat) : Int).toNat) = true := hn
      exact Tr.follow_get (gvv2_tt fc cfg fb bt l ws gn r x got (K : Int) (C : Int) (i : Int)) (by simp only [k1, k4, k5, k8, k9, kr, b1, b2, b3, hn])
    | false =>
      have hn : decide ((cP l x (K : Int) (C : Int) (opq (pk3 (bt.getD ((i : Nat) : Int).toNat (C18 (3 : TypeId)).d)))).2 = ((C : Nat) : Int).toNat) = false := hn
      exact Tr.follow_get (gvv2_tf fc cfg fb bt l ws gn r x got (K : Int) (C : Int) (i : Int)) (by simp only [k1, k4, k5, k8, k9, kr, b1, b2, b3, hn])
  · have b1 := decide_eq_false (show ¬ (i : Int) < (bt.length : Int) by omega)
    have en : nB bt i = 0 := if_neg hb
    rw [en] at k5 k9 ⊢
    cases hn : decide ((cP l x (K : Int) (C : Int) 0).2 = C) with
    | true =>
      have hn : decide ((cP l x (K : Int) (C : Int) 0).2 = ((C : Nat) : Int).toNat) = true := hn
      exact Tr.follow_get (gvv2_ft fc cfg fb bt l ws gn r x got (K : Int) (C : Int) (i : Int)) (by simp only [k1, k4, k5, k8, k9, kr, b1, hn])
    | false =>
      have hn : decide ((cP l x (K : Int) (C : Int) 0).2 = ((C : Nat) : Int).toNat) = false := hn
      exact Tr.follow_get (gvv2_ff fc cfg fb bt l ws gn r x got (K : Int) (C : Int) (i : Int)) (by simp only [k1, k4, k5, k8, k9, kr, b1, hn])
/-- Number of the next act, registers and changes, what was read. -/
structure OSt where
  k : Int
  p : Rg × Nat
  got : List Int
def oN (l : List Wt) (bt : List Int) (i : Nat) (s : OSt) : OSt := ⟨cK l s.k (nB bt i), cP l s.p.1 s.k (s.p.2 : Int) (nB bt i), s.got ++ [opq (cfAt (cP l s.p.1 s.k (s.p.2 : Int) (nB bt i)).1.cf (i : Int)) % 256]⟩
def oS (l : List Wt) (bt : List Int) (r : Rg) : Nat → OSt
  | 0 => ⟨0, (r, 0), []⟩
  | i + 1 => oN l bt i (oS l bt r i)
structure OI (l : List Wt) (r : Rg) (i : Nat) (s : OSt) : Prop where
  k : ∃ K : Nat, K ≤ l.length ∧ s.k = (K : Int) ∧ s.p = rC (r, 0) (l.take K)
  got : s.got.length = i
  nul : s.p.2 = 0 → s.got = gF r i
theorem oS_I (l : List Wt) (bt : List Int) (r : Rg) (i : Nat) : OI l r i (oS l bt r i) := by
  induction i with
  | zero => exact ⟨⟨0, Nat.zero_le _, rfl, rfl⟩, rfl, fun _ => rfl⟩
  | succ i ih =>
    show OI l r (i + 1) (oN l bt i (oS l bt r i))
    generalize oS l bt r i = s at ih ⊢
    obtain ⟨⟨K, hK, e1, e2⟩, h2, h3⟩ := ih
    have hn := nB_in bt i
    obtain ⟨N, hN⟩ := Int.eq_ofNat_of_zero_le hn.1
    have eP : cP l s.p.1 s.k (s.p.2 : Int) (nB bt i) = rC s.p ((l.drop K).take (min N (l.length - K))) := by
      unfold cP
      rw [opq_eq, e1, hN]; rfl
    have eL : l.take (K + min N (l.length - K)) = l.take K ++ (l.drop K).take (min N (l.length - K)) := List.take_add
    refine ⟨⟨K + min N (l.length - K), by omega, ?_, ?_⟩, ?_, ?_⟩
    · show cK l s.k (nB bt i) = _
      unfold cK
      rw [opq_eq, e1, hN]
      show (K : Int) + ((min N (l.length - K) : Nat) : Int) = _
      omega
    · show cP l s.p.1 s.k (s.p.2 : Int) (nB bt i) = _
      rw [eP, eL, rC_app, ← e2]
    · show (s.got ++ [_]).length = _
      rw [List.length_append, h2]; rfl
    · intro h0
      have h0 : (cP l s.p.1 s.k (s.p.2 : Int) (nB bt i)).2 = 0 := h0
      rw [eP] at h0
      have hg := rC_n s.p ((l.drop K).take (min N (l.length - K)))
      have hz : s.p.2 = 0 := by omega
      have hp : s.p = (r, 0) := by
        have := (rC_n (r, 0) (l.take K)).2.2 (by rw [← e2]; exact hz)
        rw [e2, this]
      have e3 := hg.2.2 (h0.trans hz.symm)
      show s.got ++ [opq (cfAt (cP l s.p.1 s.k (s.p.2 : Int) (nB bt i)).1.cf (i : Int)) % 256] = gF r i ++ [opq (cfAt r.cf (i : Int)) % 256]
      rw [eP, e3, h3 hz, hp]
theorem OI.low {l : List Wt} {r : Rg} {i : Nat} {s : OSt} (h : OI l r i s) : s.p.2 ≤ l.length ∧ (s.p.2 = 0 → s.p = (r, 0)) := by
  obtain ⟨K, hK, _, e⟩ := h.k
  have hg := rC_n (r, 0) (l.take K)
  rw [← e] at hg
  have hl : (l.take K).length ≤ l.length := by rw [List.length_take]; omega
  have h2 : s.p.2 ≤ 0 + (l.take K).length := hg.2.1
  exact ⟨by omega, hg.2.2⟩
theorem OI.reg {l : List Wt} {r : Rg} {i : Nat} {s : OSt} (h : OI l r i s) (hr : RI r) : RI s.p.1 := by
  obtain ⟨K, hK, _, e⟩ := h.k
  rw [e]; exact rC_I hr
@[reducible] def gvvX (fc : Bool) (cfg : List Int) (fb : Bool) (bt : List Int) (l : List Wt) (ws : List Int) (gn : Int) (r : Rg) (s : OSt) (i : Int) : List SV × List (SO C18) := match decide (s.p.2 = 0) with
  | true => gvv1 fc cfg fb bt l ws gn r s.got s.k 0 i
  | false => gvv2 fc cfg fb bt l ws gn r s.p.1 s.got s.k (s.p.2 : Int) i
@[reducible] def gvvSt (fc : Bool) (cfg : List Int) (fb : Bool) (bt : List Int) (l : List Wt) (ws : List Int) (gn : Int) (r : Rg) : Nat → List SV × List (SO C18)
  | 0 => gvv0 fc cfg fb bt l ws gn r 0 0 0
  | i + 1 => gvvX fc cfg fb bt l ws gn r (oS l bt r (i + 1)) ((i + 1 : Nat) : Int)
theorem gvv_step {fc : Bool} {cfg : List Int} {fb : Bool} {bt : List Int} {l : List Wt} {ws : List Int} {gn : Int} {r : Rg} {s : OSt} {i : Nat} (hs : OI l r i s) (h : RI r) (hq : AcQ l) (hL : cfg.length ≤ 64) (hi : i < cfg.length) : (gvvR (gvvX fc cfg fb bt l ws gn r s (i : Int))).get = some (.normal, gvvX fc cfg fb bt l ws gn r (oN l bt i s) ((i + 1 : Nat) : Int)) := by
  have hlow := hs.low
  have hreg := hs.reg h
  have hlen := hq.few
  obtain ⟨⟨K, hK, e1, e2⟩, h2, h3⟩ := hs
  obtain ⟨k, ⟨x, c⟩, got⟩ := s
  simp only at e1 h2 h3 hlow hreg
  subst e1
  have hn := cP_n (l := l) (r := x) (k := (K : Int)) (c := (c : Int)) (n := nB bt i)
  by_cases hz : c = 0
  · subst hz
    have hx : x = r := (Prod.mk.inj (hlow.2 rfl)).1
    subst hx
    refine (gvv1_round (fc := fc) (cfg := cfg) (fb := fb) (bt := bt) (got := got) h hq hL (by omega) hi hK (C := 0) (by omega)).trans ?_
    congr 2
    show (bif decide ((cP l x (K : Int) ((0 : Nat) : Int) (nB bt i)).2 = 0) then _ else _) = (match decide ((cP l x (K : Int) ((0 : Nat) : Int) (nB bt i)).2 = 0) with | true => _ | false => _)
    cases hd : decide ((cP l x (K : Int) ((0 : Nat) : Int) (nB bt i)).2 = 0) with
    | true =>
      have e := hn.2 (of_decide_eq_true hd)
      show gvv1 fc cfg fb bt l ws gn x _ _ _ _ = gvv1 fc cfg fb bt l ws gn x (got ++ [opq (cfAt (cP l x (K : Int) ((0 : Nat) : Int) (nB bt i)).1.cf (i : Int)) % 256]) _ _ _
      rw [e]; rfl
    | false => rfl
  · have hzz : decide ((x, c).2 = 0) = false := decide_eq_false hz
    show (gvvR (match decide ((x, c).2 = 0) with | true => _ | false => _)).get = _
    rw [hzz]
    refine (gvv2_round (fc := fc) (cfg := cfg) (fb := fb) (bt := bt) (got := got) (r := r) (x := x) hreg hq hL (by omega) hi hK (C := c) (by omega)).trans ?_
    · congr 2
      show (bif decide ((cP l x (K : Int) (c : Int) (nB bt i)).2 = c) then _ else _) = (match decide ((cP l x (K : Int) (c : Int) (nB bt i)).2 = 0) with | true => _ | false => _)
      have hm : ¬ (cP l x (K : Int) (c : Int) (nB bt i)).2 = 0 := by
        have := hn.1
        have e : ((c : Nat) : Int).toNat = c := rfl
        omega
      rw [decide_eq_false hm]
      cases hd : decide ((cP l x (K : Int) (c : Int) (nB bt i)).2 = c) with
      | true =>
        have e := hn.2 (of_decide_eq_true hd)
        show gvv2 fc cfg fb bt l ws gn r x _ _ _ _ = gvv2 fc cfg fb bt l ws gn r (cP l x (K : Int) (c : Int) (nB bt i)).1 (got ++ [opq (cfAt (cP l x (K : Int) (c : Int) (nB bt i)).1.cf (i : Int)) % 256]) _ ((cP l x (K : Int) (c : Int) (nB bt i)).2 : Int) _
        rw [e]; rfl
      | false => rfl
theorem gvv_round {fc : Bool} {cfg : List Int} {fb : Bool} {bt : List Int} {l : List Wt} {ws : List Int} {gn : Int} {r : Rg} (h : RI r) (hq : AcQ l) (hL : cfg.length ≤ 64) {i : Nat} (hi : i < cfg.length) : (gvvR (gvvSt fc cfg fb bt l ws gn r i)).get = some (.normal, gvvSt fc cfg fb bt l ws gn r (i + 1)) := by
  cases i with
  | succ j => exact gvv_step (oS_I l bt r (j + 1)) h hq hL hi
  | zero =>
    have hn := cP_n (l := l) (r := r) (k := ((0 : Nat) : Int)) (c := ((0 : Nat) : Int)) (n := nB bt 0)
    refine (gvv0_round (fc := fc) (cfg := cfg) (fb := fb) (bt := bt) h hq hL hi (Nat.zero_le _) (C := 0) (by omega)).trans ?_
    congr 2
    show (bif decide ((cP l r ((0 : Nat) : Int) ((0 : Nat) : Int) (nB bt 0)).2 = 0) then _ else _) = (match decide ((cP l r ((0 : Nat) : Int) ((0 : Nat) : Int) (nB bt 0)).2 = 0) with | true => _ | false => _)
    cases hd : decide ((cP l r ((0 : Nat) : Int) ((0 : Nat) : Int) (nB bt 0)).2 = 0) with
    | true =>
      have e := hn.2 (of_decide_eq_true hd)
      show gvv1 fc cfg fb bt l ws gn r _ _ _ _ = gvv1 fc cfg fb bt l ws gn r ([] ++ [opq (cfAt (cP l r ((0 : Nat) : Int) ((0 : Nat) : Int) (nB bt 0)).1.cf ((0 : Nat) : Int)) % 256]) _ _ _
      rw [e]; rfl
    | false => rfl
theorem gvv_end {fc : Bool} {cfg : List Int} {fb : Bool} {bt : List Int} {l : List Wt} {ws : List Int} {gn : Int} {r : Rg} : (gvvR (gvvSt fc cfg fb bt l ws gn r cfg.length)).get = some (.exit 0, gvvSt fc cfg fb bt l ws gn r cfg.length) := by
  have k1 : decide ((cfg.length : Int) < (cfg.length : Int)) = false := decide_eq_false (Int.lt_irrefl _)
  cases hn : cfg.length with
  | zero => exact Tr.follow_get (gvv0_end fc cfg fb bt l ws gn r 0 0 0) (by rw [hn]; rfl)
  | succ j =>
    rw [hn] at k1
    show (gvvR (match decide ((oS l bt r (j + 1)).p.2 = 0) with | true => _ | false => _)).get = some (_, match decide ((oS l bt r (j + 1)).p.2 = 0) with | true => _ | false => _)
    cases decide ((oS l bt r (j + 1)).p.2 = 0) with
    | true => exact Tr.follow_get (gvv1_end fc cfg fb bt l ws gn r _ _ 0 ((j + 1 : Nat) : Int)) (by rw [hn, k1])
    | false => exact Tr.follow_get (gvv2_end fc cfg fb bt l ws gn r _ _ _ _ ((j + 1 : Nat) : Int)) (by rw [hn, k1])
theorem gvv_keep {fc : Bool} {cfg : List Int} {fb : Bool} {bt : List Int} {l : List Wt} {ws : List Int} {gn : Int} {r : Rg} (N : Nat) : Keeps 7 (gvv0 fc cfg fb bt l ws gn r 0 0 0).2 (gvvSt fc cfg fb bt l ws gn r N).2 := by
  cases N with
  | zero => exact Keeps.of3 (by simp) rfl
  | succ j =>
    show Keeps 7 _ (match decide ((oS l bt r (j + 1)).p.2 = 0) with | true => _ | false => _ : List SV × List (SO C18)).2
    cases decide ((oS l bt r (j + 1)).p.2 = 0) <;> exact Keeps.of3 (by simp) rfl
theorem gvv_run {fc : Bool} {cfg : List Int} {fb : Bool} {bt : List Int} {l : List Wt} {ws : List Int} {gn : Int} {r : Rg} (h : RI r) (hq : AcQ l) (hL : cfg.length ≤ 64) :
    Keeps 7 (gvvSt fc cfg fb bt l ws gn r 0).2 (gvvSt fc cfg fb bt l ws gn r cfg.length).2 ∧ LoopRun Try.prog ((loopOf Try.prog 11 0).get!).1 (loopOf Try.prog 11 0).get!.2 7 (LI.st gSl8 ⟨(gvvSt fc cfg fb bt l ws gn r 0).1, 7, (gvvSt fc cfg fb bt l ws gn r 0).2⟩) fun x T => ∃ vs os, (x = .exit 0 ∧ (vs, os) = gvvSt fc cfg fb bt l ws gn r cfg.length) ∧ T = ⟨zipT gSl8 vs, numH 0 os, os.length⟩ := by
  constructor
  · exact gvv_keep _
  · refine loop_li (σ := Nat) (st := gvvSt fc cfg fb bt l ws gn r) (Inv := fun i => i ≤ cfg.length) (μ := fun i => cfg.length - i) (d := 10) (unr := unV8) (sp := sfG8) (ls := lsG8) plain mixed sfG8_ok lsG8_ok g8_loop (fun i hi => ?_) 0 (Nat.zero_le _)
    by_cases h5 : i < cfg.length
    · exact ⟨_, gvv_round h hq hL h5, fun _ => ⟨i + 1, by omega, by omega, rfl⟩, nofun⟩
    · obtain rfl : i = cfg.length := by omega
      exact ⟨_, gvv_end, nofun, fun _ => ⟨rfl, rfl⟩⟩
def gvvLeaf (fc : Bool) (cfg : List Int) (fb : Bool) (bt : List Int) (l : List Wt) (ws : List Int) (gn : Int) (r : Rg) : Tr (Ex × List SV × List (SO C18)) := .br (decide (cfg.length = 0)) (.leaf (.exit 0, gvv0 fc cfg fb bt l ws gn r 0 0 0)) (.br (decide ((opq (oS l bt r cfg.length)).p.2 = 0)) (.leaf (.exit 0, gvv1 fc cfg fb bt l ws gn r (opq (oS l bt r cfg.length)).got (opq (oS l bt r cfg.length)).k 0 (cfg.length : Int))) (.leaf (.exit 0, gvv2 fc cfg fb bt l ws gn r (opq (oS l bt r cfg.length)).p.1 (opq (oS l bt r cfg.length)).got (opq (oS l bt r cfg.length)).k ((opq (oS l bt r cfg.length)).p.2 : Int) (cfg.length : Int))))
theorem gvvLeaf_get (fc : Bool) (cfg : List Int) (fb : Bool) (bt : List Int) (l : List Wt) (ws : List Int) (gn : Int) (r : Rg) : (gvvLeaf fc cfg fb bt l ws gn r).get = some (.exit 0, gvvSt fc cfg fb bt l ws gn r cfg.length) := by
  unfold gvvLeaf
  simp only [opq_eq]
  cases hn : cfg.length with
  | zero => rfl
  | succ j =>
    show _ = some (Ex.exit 0, (match decide ((oS l bt r (j + 1)).p.2 = 0) with | true => gvv1 fc cfg fb bt l ws gn r (oS l bt r (j + 1)).got (oS l bt r (j + 1)).k 0 ((j + 1 : Nat) : Int) | false => gvv2 fc cfg fb bt l ws gn r (oS l bt r (j + 1)).p.1 (oS l bt r (j + 1)).got (oS l bt r (j + 1)).k ((oS l bt r (j + 1)).p.2 : Int) ((j + 1 : Nat) : Int) : List SV × List (SO C18)))
    rw [decide_eq_false (Nat.succ_ne_zero j)]
    cases decide ((oS l bt r (j + 1)).p.2 = 0) <;> rfl
def g8Loop : LoopFn C18 := fun li => match li with
  | ⟨[.h 0, .h 1, .h 2, .h 3, .raw (.slice none 0 0), .raw (.int .i64 (.ofNat 0)), .raw (.int .i64 (.ofNat 0)), .raw (.int .i64 (.ofNat 0)), .raw (.bool false), .h 4, .raw (.int .u64 gn)], 7, [.sl false fc 5 cfg, .sl false fb 3 bt, .ss 71 4 5 l, .box [.raw (.int .i64 kk), .raw (.int .u64 o), .raw (.int .u64 g), .raw (.int .u8 s), .raw (.int .i64 se), .raw (.int .i64 at'), .h 5, .h 6, .raw (.int .u8 ge), .raw (.int .u8 it)] 64, .sl true false 5 ws, .sl true false 77 qs, .sl true false 5 cf]⟩ =>
    .br (cdec (RI ⟨kk, o, g, s, se, at', ge, it, qs, cf⟩ ∧ AcQ l ∧ (cfg : List Int).length ≤ 64)) (gvvLeaf fc cfg fb bt l ws gn ⟨kk, o, g, s, se, at', ge, it, qs, cf⟩) .fail
  | ⟨[.h 0, .raw (.slice none 0 0), .h 1, .h 2, .raw (.slice none 0 0), .raw (.int .i64 (.ofNat 0)), .raw (.int .i64 (.ofNat 0)), .raw (.int .i64 (.ofNat 0)), .raw (.bool false), .h 3, .raw (.int .u64 gn)], 6, [.sl false fc 5 cfg, .ss 71 4 5 l, .box [.raw (.int .i64 kk), .raw (.int .u64 o), .raw (.int .u64 g), .raw (.int .u8 s), .raw (.int .i64 se), .raw (.int .i64 at'), .h 4, .h 5, .raw (.int .u8 ge), .raw (.int .u8 it)] 64, .sl true false 5 ws, .sl true false 77 qs, .sl true false 5 cf]⟩ =>
    .br (cdec (RI ⟨kk, o, g, s, se, at', ge, it, qs, cf⟩ ∧ AcQ l ∧ (cfg : List Int).length ≤ 64)) (gnvLeaf fc cfg l ws gn ⟨kk, o, g, s, se, at', ge, it, qs, cf⟩) .fail
  | ⟨[.h 0, .h 1, .raw (.slice none 0 0), .h 2, .raw (.slice none 0 0), .raw (.int .i64 (.ofNat 0)), .raw (.int .i64 (.ofNat 0)), .raw (.int .i64 (.ofNat 0)), .raw (.bool false), .h 3, .raw (.int .u64 gn)], 6, [.sl false fc 5 cfg, .sl false fb 3 bt, .box [.raw (.int .i64 kk), .raw (.int .u64 o), .raw (.int .u64 g), .raw (.int .u8 s), .raw (.int .i64 se), .raw (.int .i64 at'), .h 4, .h 5, .raw (.int .u8 ge), .raw (.int .u8 it)] 64, .sl true false 5 ws, .sl true false 77 qs, .sl true false 5 cf]⟩ =>
    .br (cdec (RI ⟨kk, o, g, s, se, at', ge, it, qs, cf⟩ ∧ (cfg : List Int).length ≤ 64)) (gvnLeaf fc cfg fb bt ws gn ⟨kk, o, g, s, se, at', ge, it, qs, cf⟩) .fail
  | ⟨[.h 0, .raw (.slice none 0 0), .raw (.slice none 0 0), .h 1, .raw (.slice none 0 0), .raw (.int .i64 (.ofNat 0)), .raw (.int .i64 (.ofNat 0)), .raw (.int .i64 (.ofNat 0)), .raw (.bool false), .h 2, .raw (.int .u64 gn)], 5, [.sl false fc 5 cfg, .box [.raw (.int .i64 kk), .raw (.int .u64 o), .raw (.int .u64 g), .raw (.int .u8 s), .raw (.int .i64 se), .raw (.int .i64 at'), .h 3, .h 4, .raw (.int .u8 ge), .raw (.int .u8 it)] 64, .sl true false 5 ws, .sl true false 77 qs, .sl true false 5 cf]⟩ =>
    .br (cdec (RI ⟨kk, o, g, s, se, at', ge, it, qs, cf⟩ ∧ (cfg : List Int).length ≤ 64)) (gnnLeaf fc cfg ws gn ⟨kk, o, g, s, se, at', ge, it, qs, cf⟩) .fail
  | _ => .fail
theorem g8Loop_ok : ∀ tm hp n x, (loopS gSl8 [] g8Loop tm hp n).get = some x → InLoop Try.prog ((loopOf Try.prog 11 0).get!).1 (loopOf Try.prog 11 0).get!.2 tm hp n fun e tm hp n => (e, tm, hp, n) = x := loopS_of fun li r h => by
  unfold g8Loop at h
  split at h
  · rename_i gn fc cfg fb bt l kk o g s se at' ge it ws qs cf
    obtain ⟨h1, g1⟩ := Tr.get_ask.1 h
    obtain ⟨h2, h3, h4⟩ := cdec_iff.1 h1
    have hr := Option.some.inj (g1.symm.trans (gvvLeaf_get _ _ _ _ _ _ _ _))
    subst hr
    exact gvv_run h2 h3 h4
  · rename_i gn fc cfg l kk o g s se at' ge it ws qs cf
    obtain ⟨h1, g1⟩ := Tr.get_ask.1 h
    obtain ⟨h2, h3, h4⟩ := cdec_iff.1 h1
    have hr := Option.some.inj (g1.symm.trans (gnvLeaf_get _ _ _ _ _ _))
    subst hr
    exact gnv_run h2 h3 h4
  · rename_i gn fc cfg fb bt kk o g s se at' ge it ws qs cf
    obtain ⟨h1, g1⟩ := Tr.get_ask.1 h
    obtain ⟨h2, h4⟩ := cdec_iff.1 h1
    have hr := Option.some.inj (g1.symm.trans (gvnLeaf_get _ _ _ _ _ _ _))
    subst hr
    exact gvn_run h2 h4
  · rename_i gn fc cfg kk o g s se at' ge it ws qs cf
    obtain ⟨h1, g1⟩ := Tr.get_ask.1 h
    obtain ⟨h2, h4⟩ := cdec_iff.1 h1
    have hr := Option.some.inj (g1.symm.trans (gnnLeaf_get _ _ _ _ _))
    subst hr
    exact gnn_run h2 h4
  · cases h
end
end Go.Proofs.Ytknkemjbikbhgaa
