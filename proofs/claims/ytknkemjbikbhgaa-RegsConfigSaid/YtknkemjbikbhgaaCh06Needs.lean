/-
  Chapter 6: what Needs answers. Own work; nothing here is trusted.
-/
import Derived.Test.YtknkemjbikbhgaaCh06Sets
namespace Go.Proofs.Ytknkemjbikbhgaa
open Go Go.Sx Go.RowKit
set_option maxRecDepth 100000
set_option maxHeartbeats 8000000
set_option linter.unusedVariables false
set_option linter.unusedSimpArgs false
theorem bR (op : BinOp) (x y : Int) : 0 ≤ bitsV .u64 op x y ∧ bitsV .u64 op x y < 18446744073709551616 := by
  have h : ∀ v : BitVec 64, 0 ≤ IntKind.u64.wrap (v.toNat : Int) ∧ IntKind.u64.wrap (v.toNat : Int) < 18446744073709551616 := fun v => by rw [wrapU]; exact U_range v
  cases op <;> exact h _
def spH : SpecF C6 Prop := spec1 27 (flatF hasF) (spec1 16 (const0 (.bool true)) noSpec)
theorem spH_ok : SpecOk Try.prog spH := spec1_ok has_ok (spec1_ok (const0_ok (by kernel_rfl) lives06_walk) noSpec_ok)
abbrev cH := callS (C := C6) Try.prog spH noDraw (fun _ _ => 20)
theorem cH_ok (d : Nat) : CallP Try.prog (cH d) := callS_sound plain spH_ok noDraw_ok d
theorem sh17 : V (shlV .u64 1 17) = BitVec.twoPow 64 17 := (congrArg V (shl_lit 17 (by omega))).trans (VU _)
theorem sh5 : V (shlV .u64 1 5) = BitVec.twoPow 64 5 := (congrArg V (shl_lit 5 (by omega))).trans (VU _)
theorem v32 : V 4294967296 = BitVec.twoPow 64 32 := by decide
theorem tOr (x y : Int) (j : Nat) : (V (bitsV .u64 .or x y)).getLsbD j = ((V x).getLsbD j || (V y).getLsbD j) := by rw [bOr, VU, BitVec.getLsbD_or]
def cl1 (v : BitVec 64) : BitVec 64 := match v.getLsbD 18 || v.getLsbD 19 || v.getLsbD 22 || v.getLsbD 23, v.getLsbD 17, v.getLsbD 23, v.getLsbD 5 with
  | true, false, true, false => v ||| BitVec.twoPow 64 32 ||| BitVec.twoPow 64 17 ||| BitVec.twoPow 64 5
  | true, false, _, _ => v ||| BitVec.twoPow 64 32 ||| BitVec.twoPow 64 17
  | _, _, true, false => v ||| BitVec.twoPow 64 32 ||| BitVec.twoPow 64 5
  | _, _, _, _ => v ||| BitVec.twoPow 64 32
theorem needs1_run (s : Int) (K : SV → Prop) (h1 : 0 ≤ s) (h2 : s < 18446744073709551616) (hk : bitsV .u64 .andNot s 1156165107747 = 0)
    (b5 b17 b18 b19 b22 b23 : Bool) (e5 : (V s).getLsbD 5 = b5) (e17 : (V s).getLsbD 17 = b17) (e18 : (V s).getLsbD 18 = b18) (e19 : (V s).getLsbD 19 = b19) (e22 : (V s).getLsbD 22 = b22) (e23 : (V s).getLsbD 23 = b23)
    (h : K (.raw (.int .u64 (U (cl1 (V s) &&& ~~~ V s))))) :
    cH 5 19 [.raw (.int .i64 1), .raw (.int .u64 s)] [] 0 (fun sv _ _ => flatV sv = true ∧ K sv) := by
  conv => whnf
  refine brOff (by simp [hk]) ?_
  cases b5 <;> cases b17 <;> cases b18 <;> cases b19 <;> cases b22 <;> cases b23
  all_goals simp only [cl1, tOr, v32, sh17, sh5, BitVec.getLsbD_twoPow, e5, e17, e18, e19, e22, e23, Bool.or_false, Bool.or_true] at h
  all_goals
    repeat' ((conv => whnf); first
      | refine ⟨(bR _ _ _).1, (bR _ _ _).2, by decide, ?_⟩
      | refine brOn (by first | (simp only [tOr, v32, sh17, sh5, BitVec.getLsbD_twoPow, e5, e17, e18, e19, e22, e23]; done) | (simp only [tOr, v32, sh17, sh5, BitVec.getLsbD_twoPow, e5, e17, e18, e19, e22, e23]; rfl)) ?_
      | refine brOff (by first | (simp only [tOr, v32, sh17, sh5, BitVec.getLsbD_twoPow, e5, e17, e18, e19, e22, e23]; done) | (simp only [tOr, v32, sh17, sh5, BitVec.getLsbD_twoPow, e5, e17, e18, e19, e22, e23]; rfl)) ?_
      | (refine ⟨rfl, ?_⟩; first
        | (show K (.raw (.int .u64 (bitsV .u64 .andNot (bitsV .u64 .or s 4294967296) s))); simp only [bNot, bOr, VU, v32, sh17, sh5]; exact h)
        | (show K (.raw (.int .u64 (bitsV .u64 .andNot (bitsV .u64 .or (bitsV .u64 .or s 4294967296) (shlV .u64 1 17)) s))); simp only [bNot, bOr, VU, v32, sh17, sh5]; exact h)
        | (show K (.raw (.int .u64 (bitsV .u64 .andNot (bitsV .u64 .or (bitsV .u64 .or s 4294967296) (shlV .u64 1 5)) s))); simp only [bNot, bOr, VU, v32, sh17, sh5]; exact h)
        | (show K (.raw (.int .u64 (bitsV .u64 .andNot (bitsV .u64 .or (bitsV .u64 .or (bitsV .u64 .or s 4294967296) (shlV .u64 1 17)) (shlV .u64 1 5)) s))); simp only [bNot, bOr, VU, v32, sh17, sh5]; exact h)))
end Go.Proofs.Ytknkemjbikbhgaa
