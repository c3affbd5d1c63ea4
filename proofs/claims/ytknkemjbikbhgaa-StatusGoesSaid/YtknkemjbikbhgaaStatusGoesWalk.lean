/-
  Chapter 7: StatusGoes. Own work; nothing here is trusted.
-/
import Derived.Test.YtknkemjbikbhgaaCh07GoesF
import Derived.Test.YtknkemjbikbhgaaSxArg
namespace Go.Proofs.Ytknkemjbikbhgaa
open Go Go.Sx Go.RowKit
set_option maxRecDepth 1000000
set_option maxHeartbeats 8000000
set_option linter.unusedVariables false
abbrev gK (a : Int) : Int := 1 + a % 3
abbrev gO (a b : Int) : Int := bitsV .u64 .or (bitsV .u64 .and b (allI (gK a))) 4294967296
theorem goes_f (rk : Int → Int → Int → Int → Bool) (rg : Int → Bool) (own full : Bool) (ts : List (Int × Int × Int × Bool)) (a b : Int) : Tr.follow [false, false, true, true, true, false, false, true, true, true, true, true, true, false, false, false, false, true, true, true, true, true, true, true, true, true, true] (f11 rk rg 10 [.raw (.int .i64 a), .raw (.int .u64 b), .h 0] [.sl own full 58 ts]) = some ([false, decide ((60 : Int) < ↑ts.length), true, inR64 (gK a), rk (gK a) (gO a b) (0 : Int) (0 : Int), false, false, gK a == gK a && gO a b == gO a b, rk (gK a) (gO a b) (0 : Int) (0 : Int) && v12 (0 : Int), okActs ts, rk (gK a) (gO a b) (gF (gK a) (gO a b) ts ((0 : Int), (0 : Int))).fst (gF (gK a) (gO a b) ts ((0 : Int), (0 : Int))).snd, rg (gO a b), rk (gK a) (gO a b) (bsI (gK a) (gO a b) (18446744073709551615 : Int)) (15 : Int), false, false, false, false, true, true, rk (gK a) (gO a b) (bsI (gK a) (gO a b) (18446744073709551615 : Int)) (15 : Int), true, true, true, true, bsI (gK a) (gO a b) (18446744073709551615 : Int) == bsI (gK a) (gO a b) (18446744073709551615 : Int), true, true], (SV.raw (Value.bool true), [])) := by kernel_rfl
theorem goes_n (rk : Int → Int → Int → Int → Bool) (rg : Int → Bool) (a b : Int) : Tr.follow [false, false, true, true, true, false, false, false, true, true, true, false, false, false, false, true, true, true, true, true, true, true, true, true, true] (f11n rk rg 10 [.raw (.int .i64 a), .raw (.int .u64 b), .raw (.slice none 0 0)] []) = some ([false, false, true, inR64 (gK a), rk (gK a) (gO a b) (0 : Int) (0 : Int), false, false, false, rk (gK a) (gO a b) (0 : Int) (0 : Int), rg (gO a b), rk (gK a) (gO a b) (bsI (gK a) (gO a b) (18446744073709551615 : Int)) (15 : Int), false, false, false, false, true, true, rk (gK a) (gO a b) (bsI (gK a) (gO a b) (18446744073709551615 : Int)) (15 : Int), true, true, true, true, bsI (gK a) (gO a b) (18446744073709551615 : Int) == bsI (gK a) (gO a b) (18446744073709551615 : Int), true, true], (SV.raw (Value.bool true), [])) := by kernel_rfl
theorem goes_l (rk : Int → Int → Int → Int → Bool) (rg : Int → Bool) (own full : Bool) (ts : List (Int × Int × Int × Bool)) (a b : Int) : Tr.follow [false, true] (f11 rk rg 10 [.raw (.int .i64 a), .raw (.int .u64 b), .h 0] [.sl own full 58 ts]) = some ([false, decide ((60 : Int) < ↑ts.length)], (SV.raw (Value.bool true), [])) := by kernel_rfl
theorem gO_kn (a b : Int) : knI (gK a) (gO a b) = true ∧ hasI (gO a b) 32 = true := by
  have h32 : hasI (gO a b) 32 = true := by
    unfold hasI gO
    rw [bOr, VU, BitVec.getLsbD_or, v32, BitVec.getLsbD_twoPow]
    simp
  have sub : ∀ m : Int, (V m).getLsbD 32 = true → bitsV .u64 .andNot (bitsV .u64 .or (bitsV .u64 .and b m) 4294967296) m = 0 := fun m hm => by
    rw [bNot, U_zero, bOr, VU, bAnd, VU, v32]
    apply BitVec.eq_of_getLsbD_eq
    intro i hi
    rw [BitVec.getLsbD_and, BitVec.getLsbD_or, BitVec.getLsbD_and, BitVec.getLsbD_not, BitVec.getLsbD_zero, BitVec.getLsbD_twoPow]
    by_cases e : 32 = i
    · subst e; rw [hm]; simp
    · rw [decide_eq_false e]
      cases (V m).getLsbD i <;> simp
  refine ⟨?_, h32⟩
  have hK : a % 3 = 0 ∨ a % 3 = 1 ∨ a % 3 = 2 := by omega
  unfold knI gO gK
  rcases hK with h | h | h
  · rw [h]
    have := sub 1156165107747 (by decide)
    rw [show allI (1 + 0) = 1156165107747 from rfl, this]; rfl
  · rw [h]
    have := sub 1156151538208 (by decide)
    rw [show allI (1 + 1) = 1156151538208 from rfl, this]; rfl
  · rw [h]
    have := sub 1156151508999 (by decide)
    rw [show allI (1 + 2) = 1156151508999 from rfl, this]; rfl
theorem gO_rng (a b : Int) : rng64 (gO a b) = true := rng_bits _ _ _
theorem rok_start (a b : Int) : rokB (gK a) (gO a b) 0 0 = true := by
  obtain ⟨h1, h2⟩ := gO_kn a b
  exact rokB_iff.2 ⟨gO_rng a b, by decide, ck_lit h1 h2 (by cases acI (gK a) (gO a b) 0 <;> decide)⟩
theorem rok_best (a b w : Int) : rokB (gK a) (gO a b) (bsI (gK a) (gO a b) w) 15 = true := by
  obtain ⟨h1, h2⟩ := gO_kn a b
  have hbe : beB (gK a) (gO a b) = true := by unfold beB; rw [kn_kd h1, h2]; rfl
  obtain ⟨ha, _⟩ := ac_best w hbe
  exact rokB_iff.2 ⟨gO_rng a b, rng_bsI _ _ _, ck_lit h1 h2 (by rw [ha]; cases (bsI (gK a) (gO a b) w != 0) <;> decide)⟩
theorem goes_nil (a b : Int) : Fn0 (C := C6) Try.prog 10 [.raw (.int .i64 a), .raw (.int .u64 b), .raw (.slice none 0 0)] [] (.raw (.bool true), []) := by
  refine fnC_ok (sp := sf16 rokB rng64) (ls := noLs) (unr := fun _ _ => 20) (d := 10) plain mixed (sf16_ok rfl rfl) noLs_ok ?_
  have hp := goes_n rokB rng64 a b
  simp only [rok_start, rok_best, gO_rng, inR64_mk (r := 1 + a % 3) (by omega), beq_self_eq_true] at hp
  exact Tr.follow_get hp rfl
theorem goes_sl {own full : Bool} {ts : List (Int × Int × Int × Bool)} {a b : Int} (ht : ∀ t ∈ ts, okAct t = true) : Fn0 (C := C6) Try.prog 10 [.raw (.int .i64 a), .raw (.int .u64 b), .h 0] [.sl own full 58 ts] (.raw (.bool true), []) := by
  refine fnC_ok (sp := sf16 rokB rng64) (ls := l10 rokB) (unr := fun g b => match g, b with | 10, 0 => 0 | _, _ => 20) (d := 10) plain mixed (sf16_ok rfl rfl) (l10_ok rfl) ?_
  by_cases hl : 60 < ts.length
  · exact Tr.follow_get (goes_l rokB rng64 own full ts a b) (by rw [decide_eq_true (by omega)])
  · have hp := goes_f rokB rng64 own full ts a b
    have hk : okActs ts = true := by
      unfold okActs
      rw [decide_eq_true (by omega), Bool.true_and, List.all_eq_true]; exact ht
    have hg := gF_rok hk (rok_start a b) (by decide)
    simp only [rok_start, rok_best, gO_rng, hk, hg, inR64_mk (r := 1 + a % 3) (by omega), decide_eq_false (show ¬ 60 < (ts.length : Int) by omega), beq_self_eq_true, show v12 0 = true by decide, Bool.and_self] at hp
    exact Tr.follow_get hp rfl
theorem StatusGoes_walk (a0 a1 : Int) (v2 : Value) (W : World) (_ : (Lit.int .i64 a0).wf = true) (_ : (Lit.int .u64 a1).wf = true) (h2 : SArg (C6 58) (fun q => matchK [.int .i64, .int .u8, .int .u64, .bool] ((C6 58).enc q)) W v2) :
    Calls Try.prog 10 #[.int .i64 a0, .int .u64 a1, v2] W fun e w' => e = .returned (.bool true) ∧ Below W.heap.size W w' := by
  rcases h2 with rfl | ⟨a, cap, ts, rfl, hl, hc, hm, hb⟩
  · exact run_flat (C := C6) (args := [.raw (.int .i64 a0), .raw (.int .u64 a1), .raw (.slice none 0 0)]) (vals := [.int .i64 a0, .int .u64 a1, .slice none 0 0]) (goes_nil a0 a1) rfl
  · refine run_one (C := C6) (e := 58) (args := [.raw (.int .i64 a0), .raw (.int .u64 a1), .h 0]) (vals := [.int .i64 a0, .int .u64 a1, .slice (some a) ts.length cap]) (goes_sl fun t ht => ?_) hl hc hb rfl
    obtain ⟨x, y, z, v⟩ := t
    obtain ⟨_, ⟨n, e1, w1⟩, ⟨m, e2, w2⟩, _⟩ := hm _ ht
    cases e1
    cases e2
    unfold okAct
    rw [decide_eq_true (by have := wf_u8 w1; exact ⟨by omega, by omega⟩), rng64_iff.2 (by have := wf_u64 w2; omega)]; rfl
end Go.Proofs.Ytknkemjbikbhgaa
