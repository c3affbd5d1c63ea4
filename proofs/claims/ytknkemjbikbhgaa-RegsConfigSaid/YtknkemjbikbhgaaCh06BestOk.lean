/-
  Chapter 6: Best as a specification. Own work; nothing here is trusted.
-/
import Derived.Test.YtknkemjbikbhgaaCh06Best
namespace Go.Proofs.Ytknkemjbikbhgaa
open Go Go.Sx Go.RowKit
set_option maxRecDepth 100000
set_option maxHeartbeats 8000000
set_option linter.unusedVariables false
set_option linter.unusedSimpArgs false
theorem bestNo1_run (o w : Int) (K : SV → Prop) (h1 : 0 ≤ o) (h2 : o < 18446744073709551616) (e32 : (V o).getLsbD 32 = false) (h : K (.tup [.raw (.int .u64 0), .raw (.int .i64 2)])) :
    cH 5 23 [.raw (.int .i64 1), .raw (.int .u64 o), .raw (.int .u64 w)] [] 0 (fun sv _ _ => flatV sv = true ∧ K sv) := by
  conv => whnf
  refine ⟨h1, h2, by decide, ?_⟩
  conv => whnf
  refine brOn (by simp only [e32]; rfl) ?_
  conv => whnf
  exact ⟨rfl, h⟩
theorem bestNo2_run (o w : Int) (K : SV → Prop) (h1 : 0 ≤ o) (h2 : o < 18446744073709551616) (e32 : (V o).getLsbD 32 = false) (h : K (.tup [.raw (.int .u64 0), .raw (.int .i64 2)])) :
    cH 5 23 [.raw (.int .i64 2), .raw (.int .u64 o), .raw (.int .u64 w)] [] 0 (fun sv _ _ => flatV sv = true ∧ K sv) := by
  conv => whnf
  refine ⟨h1, h2, by decide, ?_⟩
  conv => whnf
  refine brOn (by simp only [e32]; rfl) ?_
  conv => whnf
  exact ⟨rfl, h⟩
theorem bestNo3_run (o w : Int) (K : SV → Prop) (h1 : 0 ≤ o) (h2 : o < 18446744073709551616) (e32 : (V o).getLsbD 32 = false) (h : K (.tup [.raw (.int .u64 0), .raw (.int .i64 2)])) :
    cH 5 23 [.raw (.int .i64 3), .raw (.int .u64 o), .raw (.int .u64 w)] [] 0 (fun sv _ _ => flatV sv = true ∧ K sv) := by
  conv => whnf
  refine ⟨h1, h2, by decide, ?_⟩
  conv => whnf
  refine brOn (by simp only [e32]; rfl) ?_
  conv => whnf
  exact ⟨rfl, h⟩
theorem best2_run (o w : Int) (K : SV → Prop) (h1 : 0 ≤ o) (h2 : o < 18446744073709551616) (e32 : (V o).getLsbD 32 = true) (h : K (.tup [.raw (.int .u64 (bitsV .u64 .and (bitsV .u64 .and o (bitsV .u64 .or w 4294967296)) 1156151538208)), .raw (.int .i64 0)])) :
    cH 5 23 [.raw (.int .i64 2), .raw (.int .u64 o), .raw (.int .u64 w)] [] 0 (fun sv _ _ => flatV sv = true ∧ K sv) := by
  conv => whnf
  refine ⟨h1, h2, by decide, ?_⟩
  conv => whnf
  refine brOff (by simp only [e32]; rfl) ?_
  conv => whnf
  exact ⟨rfl, h⟩
theorem best3_run (o w : Int) (K : SV → Prop) (h1 : 0 ≤ o) (h2 : o < 18446744073709551616) (e32 : (V o).getLsbD 32 = true) (h : K (.tup [.raw (.int .u64 (bitsV .u64 .and (bitsV .u64 .and o (bitsV .u64 .or w 4294967296)) 1156151508999)), .raw (.int .i64 0)])) :
    cH 5 23 [.raw (.int .i64 3), .raw (.int .u64 o), .raw (.int .u64 w)] [] 0 (fun sv _ _ => flatV sv = true ∧ K sv) := by
  conv => whnf
  refine ⟨h1, h2, by decide, ?_⟩
  conv => whnf
  refine brOff (by simp only [e32]; rfl) ?_
  conv => whnf
  exact ⟨rfl, h⟩

/-- What is offered, wished for, and there. -/
def both (k : Nat) (o w : Int) : BitVec 64 := (V o &&& (V w ||| BitVec.twoPow 64 32)) &&& V (allOf k)
theorem both_eq (k : Nat) (o w : Int) : bitsV .u64 .and (bitsV .u64 .and o (bitsV .u64 .or w 4294967296)) (allOf k) = U (both k o w) := by
  rw [bAnd, bAnd, bOr, VU, VU, v32]; rfl
def bestF : List SV → (SV → Prop) → Prop := fun vs K => match vs with
  | [.raw (.int .i64 (.ofNat k)), .raw (.int .u64 o), .raw (.int .u64 w)] => 0 ≤ o ∧ o < 18446744073709551616 ∧ (k = 1 ∨ k = 2 ∨ k = 3) ∧
    ((V o).getLsbD 32 = true → K (.tup [.raw (.int .u64 (U (bsB k (both k o w)))), .raw (.int .i64 0)])) ∧ ((V o).getLsbD 32 = false → K (.tup [.raw (.int .u64 0), .raw (.int .i64 2)]))
  | _ => False
theorem best_ok : CallOk1 (C := C6) Try.prog 23 (flatF bestF) := flatF_ok (cH_ok 5) fun vs K hF => by
  unfold bestF at hF
  split at hF
  · rename_i k o w
    obtain ⟨h1, h2, hk, hy, hn⟩ := hF
    cases e : (V o).getLsbD 32 with
    | true =>
      have hy := hy e
      rcases hk with rfl | rfl | rfl
      · refine ⟨rfl, best1_run o w K h1 h2 e _ _ _ _ _ _ rfl rfl rfl rfl rfl rfl ?_⟩
        have e2 := both_eq 1 o w
        simp only [allOf] at e2
        rw [e2, VU]; exact hy
      · refine ⟨rfl, best2_run o w K h1 h2 e ?_⟩
        have e2 := both_eq 2 o w
        simp only [allOf] at e2
        rw [e2]; exact hy
      · refine ⟨rfl, best3_run o w K h1 h2 e ?_⟩
        have e2 := both_eq 3 o w
        simp only [allOf] at e2
        rw [e2]; exact hy
    | false =>
      have hn := hn e
      rcases hk with rfl | rfl | rfl
      · exact ⟨rfl, bestNo1_run o w K h1 h2 e hn⟩
      · exact ⟨rfl, bestNo2_run o w K h1 h2 e hn⟩
      · exact ⟨rfl, bestNo3_run o w K h1 h2 e hn⟩
  · exact hF.elim
def spB : SpecF C6 Prop := spec1 23 (flatF bestF) spN
theorem spB_ok : SpecOk Try.prog spB := spec1_ok best_ok spN_ok
abbrev cB := callS (C := C6) Try.prog spB noDraw (fun _ _ => 20)
theorem cB_ok (d : Nat) : CallP Try.prog (cB d) := callS_sound plain spB_ok noDraw_ok d
end Go.Proofs.Ytknkemjbikbhgaa
