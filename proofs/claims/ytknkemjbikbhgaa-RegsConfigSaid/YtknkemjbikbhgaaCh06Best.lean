/-
  Chapter 6: what Best answers. Own work; nothing here is trusted.
-/
import Derived.Test.YtknkemjbikbhgaaCh06BestLaw
namespace Go.Proofs.Ytknkemjbikbhgaa
open Go Go.Sx Go.RowKit
set_option maxRecDepth 100000
set_option maxHeartbeats 16000000
set_option linter.unusedVariables false
set_option linter.unusedSimpArgs false
theorem tNot (x y : Int) (j : Nat) : (V (bitsV .u64 .andNot x y)).getLsbD j = ((V x).getLsbD j && (decide (j < 64) && !(V y).getLsbD j)) := by rw [bNot, VU, BitVec.getLsbD_and, BitVec.getLsbD_not]
theorem bNotU (v : BitVec 64) (y : Int) : bitsV .u64 .andNot (U v) y = U (v &&& ~~~ V y) := by rw [bNot, VU]
theorem sh18 : V (shlV .u64 1 18) = BitVec.twoPow 64 18 := (congrArg V (shl_lit 18 (by omega))).trans (VU _)
theorem sh19 : V (shlV .u64 1 19) = BitVec.twoPow 64 19 := (congrArg V (shl_lit 19 (by omega))).trans (VU _)
theorem sh22 : V (shlV .u64 1 22) = BitVec.twoPow 64 22 := (congrArg V (shl_lit 22 (by omega))).trans (VU _)
theorem sh23 : V (shlV .u64 1 23) = BitVec.twoPow 64 23 := (congrArg V (shl_lit 23 (by omega))).trans (VU _)
theorem best1_run (o w : Int) (K : SV → Prop) (h1 : 0 ≤ o) (h2 : o < 18446744073709551616) (e32 : (V o).getLsbD 32 = true)
    (b5 b17 b18 b19 b22 b23 : Bool) (e5 : (V (bitsV .u64 .and (bitsV .u64 .and o (bitsV .u64 .or w 4294967296)) 1156165107747)).getLsbD 5 = b5) (e17 : (V (bitsV .u64 .and (bitsV .u64 .and o (bitsV .u64 .or w 4294967296)) 1156165107747)).getLsbD 17 = b17) (e18 : (V (bitsV .u64 .and (bitsV .u64 .and o (bitsV .u64 .or w 4294967296)) 1156165107747)).getLsbD 18 = b18) (e19 : (V (bitsV .u64 .and (bitsV .u64 .and o (bitsV .u64 .or w 4294967296)) 1156165107747)).getLsbD 19 = b19) (e22 : (V (bitsV .u64 .and (bitsV .u64 .and o (bitsV .u64 .or w 4294967296)) 1156165107747)).getLsbD 22 = b22) (e23 : (V (bitsV .u64 .and (bitsV .u64 .and o (bitsV .u64 .or w 4294967296)) 1156165107747)).getLsbD 23 = b23)
    (h : K (.tup [.raw (.int .u64 (U (best1 (V (bitsV .u64 .and (bitsV .u64 .and o (bitsV .u64 .or w 4294967296)) 1156165107747))))), .raw (.int .i64 0)])) :
    cH 5 23 [.raw (.int .i64 1), .raw (.int .u64 o), .raw (.int .u64 w)] [] 0 (fun sv _ _ => flatV sv = true ∧ K sv) := by
  conv => whnf
  refine ⟨h1, h2, by decide, ?_⟩
  conv => whnf
  refine brOff (by simp only [e32]; rfl) ?_
  have hU : U (V (bitsV .u64 .and (bitsV .u64 .and o (bitsV .u64 .or w 4294967296)) 1156165107747)) = (bitsV .u64 .and (bitsV .u64 .and o (bitsV .u64 .or w 4294967296)) 1156165107747) := UV (bR _ _ _)
  cases b17
  rotate_left
  cases b5
  rotate_left 2
  all_goals cases b18 <;> cases b19 <;> cases b22 <;> cases b23
  all_goals simp only [best1, cutB, BitVec.getLsbD_and, BitVec.getLsbD_not, BitVec.getLsbD_twoPow, e5, e17, e18, e19, e22, e23, Nat.reduceLT, Nat.reduceEqDiff, decide_true, decide_false, Bool.not_true, Bool.not_false, Bool.and_true, Bool.true_and, Bool.and_false, Bool.false_and] at h
  all_goals
    repeat' ((conv => whnf); first
      | refine ⟨(bR _ _ _).1, (bR _ _ _).2, by decide, ?_⟩
      | refine brOn (by first | (simp only [tNot, sh18, sh19, sh22, sh23, BitVec.getLsbD_twoPow, e5, e17, e18, e19, e22, e23]; done) | (simp only [tNot, sh18, sh19, sh22, sh23, BitVec.getLsbD_twoPow, e5, e17, e18, e19, e22, e23]; rfl)) ?_
      | refine brOff (by first | (simp only [tNot, sh18, sh19, sh22, sh23, BitVec.getLsbD_twoPow, e5, e17, e18, e19, e22, e23]; done) | (simp only [tNot, sh18, sh19, sh22, sh23, BitVec.getLsbD_twoPow, e5, e17, e18, e19, e22, e23]; rfl)) ?_
      | (refine ⟨rfl, ?_⟩; first
        | (show K (.tup [.raw (.int .u64 (bitsV .u64 .and (bitsV .u64 .and o (bitsV .u64 .or w 4294967296)) 1156165107747)), .raw (.int .i64 0)]); rw [hU] at h; exact h)
        | (show K (.tup [.raw (.int .u64 (bitsV .u64 .andNot (bitsV .u64 .and (bitsV .u64 .and o (bitsV .u64 .or w 4294967296)) 1156165107747) (shlV .u64 1 18))), .raw (.int .i64 0)]); simp only [bNot, bNotU, VU, sh18, sh19, sh22, sh23]; exact h)
        | (show K (.tup [.raw (.int .u64 (bitsV .u64 .andNot (bitsV .u64 .and (bitsV .u64 .and o (bitsV .u64 .or w 4294967296)) 1156165107747) (shlV .u64 1 19))), .raw (.int .i64 0)]); simp only [bNot, bNotU, VU, sh18, sh19, sh22, sh23]; exact h)
        | (show K (.tup [.raw (.int .u64 (bitsV .u64 .andNot (bitsV .u64 .and (bitsV .u64 .and o (bitsV .u64 .or w 4294967296)) 1156165107747) (shlV .u64 1 22))), .raw (.int .i64 0)]); simp only [bNot, bNotU, VU, sh18, sh19, sh22, sh23]; exact h)
        | (show K (.tup [.raw (.int .u64 (bitsV .u64 .andNot (bitsV .u64 .and (bitsV .u64 .and o (bitsV .u64 .or w 4294967296)) 1156165107747) (shlV .u64 1 23))), .raw (.int .i64 0)]); simp only [bNot, bNotU, VU, sh18, sh19, sh22, sh23]; exact h)
        | (show K (.tup [.raw (.int .u64 (bitsV .u64 .andNot (bitsV .u64 .andNot (bitsV .u64 .and (bitsV .u64 .and o (bitsV .u64 .or w 4294967296)) 1156165107747) (shlV .u64 1 18)) (shlV .u64 1 19))), .raw (.int .i64 0)]); simp only [bNot, bNotU, VU, sh18, sh19, sh22, sh23]; exact h)
        | (show K (.tup [.raw (.int .u64 (bitsV .u64 .andNot (bitsV .u64 .andNot (bitsV .u64 .and (bitsV .u64 .and o (bitsV .u64 .or w 4294967296)) 1156165107747) (shlV .u64 1 18)) (shlV .u64 1 22))), .raw (.int .i64 0)]); simp only [bNot, bNotU, VU, sh18, sh19, sh22, sh23]; exact h)
        | (show K (.tup [.raw (.int .u64 (bitsV .u64 .andNot (bitsV .u64 .andNot (bitsV .u64 .and (bitsV .u64 .and o (bitsV .u64 .or w 4294967296)) 1156165107747) (shlV .u64 1 18)) (shlV .u64 1 23))), .raw (.int .i64 0)]); simp only [bNot, bNotU, VU, sh18, sh19, sh22, sh23]; exact h)
        | (show K (.tup [.raw (.int .u64 (bitsV .u64 .andNot (bitsV .u64 .andNot (bitsV .u64 .and (bitsV .u64 .and o (bitsV .u64 .or w 4294967296)) 1156165107747) (shlV .u64 1 19)) (shlV .u64 1 22))), .raw (.int .i64 0)]); simp only [bNot, bNotU, VU, sh18, sh19, sh22, sh23]; exact h)
        | (show K (.tup [.raw (.int .u64 (bitsV .u64 .andNot (bitsV .u64 .andNot (bitsV .u64 .and (bitsV .u64 .and o (bitsV .u64 .or w 4294967296)) 1156165107747) (shlV .u64 1 19)) (shlV .u64 1 23))), .raw (.int .i64 0)]); simp only [bNot, bNotU, VU, sh18, sh19, sh22, sh23]; exact h)
        | (show K (.tup [.raw (.int .u64 (bitsV .u64 .andNot (bitsV .u64 .andNot (bitsV .u64 .and (bitsV .u64 .and o (bitsV .u64 .or w 4294967296)) 1156165107747) (shlV .u64 1 22)) (shlV .u64 1 23))), .raw (.int .i64 0)]); simp only [bNot, bNotU, VU, sh18, sh19, sh22, sh23]; exact h)
        | (show K (.tup [.raw (.int .u64 (bitsV .u64 .andNot (bitsV .u64 .andNot (bitsV .u64 .andNot (bitsV .u64 .and (bitsV .u64 .and o (bitsV .u64 .or w 4294967296)) 1156165107747) (shlV .u64 1 18)) (shlV .u64 1 19)) (shlV .u64 1 22))), .raw (.int .i64 0)]); simp only [bNot, bNotU, VU, sh18, sh19, sh22, sh23]; exact h)
        | (show K (.tup [.raw (.int .u64 (bitsV .u64 .andNot (bitsV .u64 .andNot (bitsV .u64 .andNot (bitsV .u64 .and (bitsV .u64 .and o (bitsV .u64 .or w 4294967296)) 1156165107747) (shlV .u64 1 18)) (shlV .u64 1 19)) (shlV .u64 1 23))), .raw (.int .i64 0)]); simp only [bNot, bNotU, VU, sh18, sh19, sh22, sh23]; exact h)
        | (show K (.tup [.raw (.int .u64 (bitsV .u64 .andNot (bitsV .u64 .andNot (bitsV .u64 .andNot (bitsV .u64 .and (bitsV .u64 .and o (bitsV .u64 .or w 4294967296)) 1156165107747) (shlV .u64 1 18)) (shlV .u64 1 22)) (shlV .u64 1 23))), .raw (.int .i64 0)]); simp only [bNot, bNotU, VU, sh18, sh19, sh22, sh23]; exact h)
        | (show K (.tup [.raw (.int .u64 (bitsV .u64 .andNot (bitsV .u64 .andNot (bitsV .u64 .andNot (bitsV .u64 .and (bitsV .u64 .and o (bitsV .u64 .or w 4294967296)) 1156165107747) (shlV .u64 1 19)) (shlV .u64 1 22)) (shlV .u64 1 23))), .raw (.int .i64 0)]); simp only [bNot, bNotU, VU, sh18, sh19, sh22, sh23]; exact h)
        | (show K (.tup [.raw (.int .u64 (bitsV .u64 .andNot (bitsV .u64 .andNot (bitsV .u64 .andNot (bitsV .u64 .andNot (bitsV .u64 .and (bitsV .u64 .and o (bitsV .u64 .or w 4294967296)) 1156165107747) (shlV .u64 1 18)) (shlV .u64 1 19)) (shlV .u64 1 22)) (shlV .u64 1 23))), .raw (.int .i64 0)]); simp only [bNot, bNotU, VU, sh18, sh19, sh22, sh23]; exact h)))
end Go.Proofs.Ytknkemjbikbhgaa
