/-
  Chapter 6: FeatBits. Own work; nothing here is trusted.
-/
import Derived.Test.YtknkemjbikbhgaaCh06Bits3
import Derived.Test.YtknkemjbikbhgaaSxArg
namespace Go.Proofs.Ytknkemjbikbhgaa
open Go Go.Sx Go.RowKit
set_option maxRecDepth 1000000
set_option maxHeartbeats 8000000
set_option linter.unusedVariables false
theorem bits_e (rg : Int → Bool) (N : Nat) (own full : Bool) (ts : List Int) (set a b : Int) : Tr.follow [false, false, true, false, true, true, true, true, true, true, true, true, true, true, true, true, false, true, true, true, true, true, true, false, true, true, true, true, true, true, false, true, true, true, true, true, true, false, true, true, true, true, true, true, false, true, true, true, true, true, true, false, true, false, true, true, true, true, true, true, true, true, true, true, true, true, true, true, true, true, true, true, true, true, true, true, true, true] (f6b rg N 6 [.raw (.int .u64 set), .h 0, .raw (.int .i64 a), .raw (.int .i64 b)] [.sl own full 3 ts]) = some ([false, decide (100 < (ts.length : Int)), emL ts, false, rg set, rg set, okN N set set [], true, inR64 (1 + a % 3), true, inR64 (1 + b % 3), true, true, true, rg (bitsV .u64 .and (allI (1 + a % 3)) (allI (1 + b % 3))), true, !hasI (bitsV .u64 .and (allI (1 + a % 3)) (allI (1 + b % 3))) 28, true, true, true, true, rg (bitsV .u64 .and (allI (1 + a % 3)) (allI (1 + b % 3))), true, !hasI (bitsV .u64 .and (allI (1 + a % 3)) (allI (1 + b % 3))) 29, true, true, true, true, rg (bitsV .u64 .and (allI (1 + a % 3)) (allI (1 + b % 3))), true, !hasI (bitsV .u64 .and (allI (1 + a % 3)) (allI (1 + b % 3))) 32, true, true, true, true, rg (bitsV .u64 .and (allI (1 + a % 3)) (allI (1 + b % 3))), true, !hasI (bitsV .u64 .and (allI (1 + a % 3)) (allI (1 + b % 3))) 34, true, true, true, true, rg (bitsV .u64 .and (allI (1 + a % 3)) (allI (1 + b % 3))), true, !hasI (bitsV .u64 .and (allI (1 + a % 3)) (allI (1 + b % 3))) 35, true, true, true, true, rg (bitsV .u64 .and (allI (1 + a % 3)) (allI (1 + b % 3))), true, !hasI (bitsV .u64 .and (allI (1 + a % 3)) (allI (1 + b % 3))) 40, true, false, rg (set), true, rg (set), true, rg (set), true, rg (set), true, hasI (set) 29 == hasI (set) 29, true, true, true, true, rg (set), true, true, hasI (set) 28 == hasI (set) 28, true, true, true, true, rg (set), true, true], (.raw (.bool (hasI (set) 34 == hasI (set) 34)), [])) := by kernel_rfl
theorem bits_f (rg : Int → Bool) (N : Nat) (own full : Bool) (ts : List Int) (set a b : Int) : Tr.follow [false, false, false, true, true, false, true, true, true, true, true, true, true, true, true, true, true, true, false, true, true, true, true, true, true, false, true, true, true, true, true, true, false, true, true, true, true, true, true, false, true, true, true, true, true, true, false, true, true, true, true, true, true, false, true, false, true, true, true, true, true, true, true, true, true, true, true, true, true, true, true, true, true, true, true, true, true, true, true, true] (f6b rg N 6 [.raw (.int .u64 set), .h 0, .raw (.int .i64 a), .raw (.int .i64 b)] [.sl own full 3 ts]) = some ([false, decide (100 < (ts.length : Int)), emL ts, decide (ts.length ≤ 100), inAll (modL ts), false, rg (orF (modL ts) set), rg set, okN N set (orF (modL ts) set) (mI ts []), true, inR64 (1 + a % 3), true, inR64 (1 + b % 3), true, true, true, rg (bitsV .u64 .and (allI (1 + a % 3)) (allI (1 + b % 3))), true, !hasI (bitsV .u64 .and (allI (1 + a % 3)) (allI (1 + b % 3))) 28, true, true, true, true, rg (bitsV .u64 .and (allI (1 + a % 3)) (allI (1 + b % 3))), true, !hasI (bitsV .u64 .and (allI (1 + a % 3)) (allI (1 + b % 3))) 29, true, true, true, true, rg (bitsV .u64 .and (allI (1 + a % 3)) (allI (1 + b % 3))), true, !hasI (bitsV .u64 .and (allI (1 + a % 3)) (allI (1 + b % 3))) 32, true, true, true, true, rg (bitsV .u64 .and (allI (1 + a % 3)) (allI (1 + b % 3))), true, !hasI (bitsV .u64 .and (allI (1 + a % 3)) (allI (1 + b % 3))) 34, true, true, true, true, rg (bitsV .u64 .and (allI (1 + a % 3)) (allI (1 + b % 3))), true, !hasI (bitsV .u64 .and (allI (1 + a % 3)) (allI (1 + b % 3))) 35, true, true, true, true, rg (bitsV .u64 .and (allI (1 + a % 3)) (allI (1 + b % 3))), true, !hasI (bitsV .u64 .and (allI (1 + a % 3)) (allI (1 + b % 3))) 40, true, false, rg (orF (modL ts) set), true, rg (orF (modL ts) set), true, rg (orF (modL ts) set), true, rg (orF (modL ts) set), true, hasI (orF (modL ts) set) 29 == hasI (orF (modL ts) set) 29, true, true, true, true, rg (orF (modL ts) set), true, true, hasI (orF (modL ts) set) 28 == hasI (orF (modL ts) set) 28, true, true, true, true, rg (orF (modL ts) set), true, true], (.raw (.bool (hasI (orF (modL ts) set) 34 == hasI (orF (modL ts) set) 34)), [])) := by kernel_rfl
theorem bits_n (rg : Int → Bool) (N : Nat) (set a b : Int) : Tr.follow [false, false, false, false, true, true, true, true, true, true, true, true, true, true, true, true, false, true, true, true, true, true, true, false, true, true, true, true, true, true, false, true, true, true, true, true, true, false, true, true, true, true, true, true, false, true, true, true, true, true, true, false, true, false, true, true, true, true, true, true, true, true, true, true, true, true, true, true, true, true, true, true, true, true, true, true, true, true] (f6n rg N 6 [.raw (.int .u64 set), .raw (.slice none 0 0), .raw (.int .i64 a), .raw (.int .i64 b)] []) = some ([false, false, false, false, rg set, rg set, okN N set set [], true, inR64 (1 + a % 3), true, inR64 (1 + b % 3), true, true, true, rg (bitsV .u64 .and (allI (1 + a % 3)) (allI (1 + b % 3))), true, !hasI (bitsV .u64 .and (allI (1 + a % 3)) (allI (1 + b % 3))) 28, true, true, true, true, rg (bitsV .u64 .and (allI (1 + a % 3)) (allI (1 + b % 3))), true, !hasI (bitsV .u64 .and (allI (1 + a % 3)) (allI (1 + b % 3))) 29, true, true, true, true, rg (bitsV .u64 .and (allI (1 + a % 3)) (allI (1 + b % 3))), true, !hasI (bitsV .u64 .and (allI (1 + a % 3)) (allI (1 + b % 3))) 32, true, true, true, true, rg (bitsV .u64 .and (allI (1 + a % 3)) (allI (1 + b % 3))), true, !hasI (bitsV .u64 .and (allI (1 + a % 3)) (allI (1 + b % 3))) 34, true, true, true, true, rg (bitsV .u64 .and (allI (1 + a % 3)) (allI (1 + b % 3))), true, !hasI (bitsV .u64 .and (allI (1 + a % 3)) (allI (1 + b % 3))) 35, true, true, true, true, rg (bitsV .u64 .and (allI (1 + a % 3)) (allI (1 + b % 3))), true, !hasI (bitsV .u64 .and (allI (1 + a % 3)) (allI (1 + b % 3))) 40, true, false, rg (set), true, rg (set), true, rg (set), true, rg (set), true, hasI (set) 29 == hasI (set) 29, true, true, true, true, rg (set), true, true, hasI (set) 28 == hasI (set) 28, true, true, true, true, rg (set), true, true], (.raw (.bool (hasI (set) 34 == hasI (set) 34)), [])) := by kernel_rfl
theorem bits_l (rg : Int → Bool) (N : Nat) (own full : Bool) (ts : List Int) (set a b : Int) : Tr.follow [false, true] (f6b rg N 6 [.raw (.int .u64 set), .h 0, .raw (.int .i64 a), .raw (.int .i64 b)] [.sl own full 3 ts]) = some ([false, decide (100 < (ts.length : Int))], (.raw (.bool true), [])) := by kernel_rfl
/-! ### the law -/
theorem has_and (x y : Int) (k : Nat) : hasI (bitsV .u64 .and x y) k = (hasI x k && hasI y k) := by
  unfold hasI
  rw [bAnd, VU, BitVec.getLsbD_and]
theorem common_has (a b : Int) : ∀ k ∈ [28, 29, 32, 34, 35, 40], hasI (bitsV .u64 .and (allI (1 + a % 3)) (allI (1 + b % 3))) k = true := by
  have one : ∀ a : Int, ∀ k ∈ [28, 29, 32, 34, 35, 40], hasI (allI (1 + a % 3)) k = true := fun a => by
    have : a % 3 = 0 ∨ a % 3 = 1 ∨ a % 3 = 2 := by omega
    rcases this with h | h | h <;> rw [h] <;> decide
  intro k hk
  rw [has_and, one a k hk, one b k hk]; rfl
theorem has_orB {s x : Int} (hx : 0 ≤ x ∧ x ≤ 63) (k : Nat) (hk : k < 64) : hasI (orB s x) k = (decide ((k : Int) = x) || hasI s k) := by
  obtain ⟨n, rfl⟩ := Int.eq_ofNat_of_zero_le hx.1
  unfold orB hasI
  rw [shl_lit n (by omega), bOr, VU, VU, BitVec.getLsbD_or, BitVec.getLsbD_twoPow, Bool.or_comm]
  congr 1
  by_cases h : n = k
  · subst h; simp; omega
  · rw [decide_eq_false (show ¬ (k : Int) = (n : Int) by omega)]
    simp [h]
theorem rng_orF : ∀ (us : List Int) {s : Int}, rng64 s = true → rng64 (orF us s) = true
  | [], _, h => h
  | x :: r, s, h => rng_orF r (rng_bits _ _ _)
theorem lkM_ins {α : Type} (k : Int) (a : α) (x : Int) : ∀ m : List (Int × α), lkM (insM m k a) x = if x = k then some a else lkM m x
  | [] => by by_cases h : x = k <;> simp [insM, lkM, h]
  | (j, b) :: r => by
    by_cases hk : k = j
    · subst hk
      simp only [insM, decide_true]
      by_cases h : x = k <;> simp [lkM, h]
    · simp only [insM, decide_eq_false hk]
      by_cases h : x = j
      · subst h
        simp [lkM, show ¬ x = k from fun e => hk e.symm]
      · simp only [lkM, decide_eq_false h]
        exact lkM_ins k a x r
theorem has_orF (k : Nat) (hk : k < 64) : ∀ (ts : List Int) (s : Int) (m : List (Int × Bool)) (set : Int), hasI s k = ((lkM m (k : Int)).getD false || hasI set k) → hasI (orF (modL ts) s) k = ((lkM (mI ts m) (k : Int)).getD false || hasI set k)
  | [], _, _, _, h => h
  | x :: r, s, m, set, h => by
    refine has_orF k hk r (orB s (x % 64)) (insM m (x % 64) true) set ?_
    rw [has_orB (by omega) k hk, lkM_ins, h]
    by_cases e : (k : Int) = x % 64
    · rw [decide_eq_true e, if_pos e]; rfl
    · rw [decide_eq_false e, if_neg e]; rfl
theorem ok_law (ts : List Int) (set : Int) : okN 64 set (orF (modL ts) set) (mI ts []) = true := by
  unfold okN
  rw [List.all_eq_true]
  intro k hk
  unfold okJ
  rw [has_orF k (List.mem_range.1 hk) ts set [] set (by simp [lkM]), beq_self_eq_true]
theorem inAll_mod {ts : List Int} (h : ts.length ≤ 100) : inAll (modL ts) = true := by
  unfold inAll modL
  rw [List.length_map, decide_eq_true h, Bool.true_and, List.all_eq_true]
  intro x hx
  obtain ⟨y, _, rfl⟩ := List.mem_map.1 hx
  exact decide_eq_true (by omega)
def un6 (nil : Bool) (g b : Nat) : Nat := match nil with
  | true => match g, b with | 6, 2 => 0 | _, _ => 20
  | false => match g, b with | 6, 0 => 0 | 6, 2 => 0 | _, _ => 20
theorem bits_nil {set a b : Int} (hs : rng64 set = true) : Fn0 (C := C6) Try.prog 6 [.raw (.int .u64 set), .raw (.slice none 0 0), .raw (.int .i64 a), .raw (.int .i64 b)] [] (.raw (.bool true), []) := by
  refine fnC_ok (sp := sf13 rng64) (ls := l6n rng64 64) (unr := un6 true) (d := 10) plain mixed (sf13_ok rfl) (l6n_ok rfl rfl) ?_
  have hp := bits_n rng64 64 set a b
  have hX := rng_bits .and (allI (1 + a % 3)) (allI (1 + b % 3))
  have hc := common_has a b
  have ho := ok_law [] set
  simp only [hs, hX, hc 28 (by decide), hc 29 (by decide), hc 32 (by decide), hc 34 (by decide), hc 35 (by decide), hc 40 (by decide), show okN 64 set set [] = true from ho, inR64_mk (r := 1 + a % 3) (by omega), inR64_mk (r := 1 + b % 3) (by omega), beq_self_eq_true, Bool.not_true] at hp
  exact Tr.follow_get hp rfl
theorem bits_sl {own full : Bool} {ts : List Int} {set a b : Int} (hs : rng64 set = true) : Fn0 (C := C6) Try.prog 6 [.raw (.int .u64 set), .h 0, .raw (.int .i64 a), .raw (.int .i64 b)] [.sl own full 3 ts] (.raw (.bool true), []) := by
  refine fnC_ok (sp := sf13 rng64) (ls := l6 rng64 64) (unr := un6 false) (d := 10) plain mixed (sf13_ok rfl) (l6_ok rfl rfl) ?_
  have hX := rng_bits .and (allI (1 + a % 3)) (allI (1 + b % 3))
  have hc := common_has a b
  by_cases hl : 100 < ts.length
  · exact Tr.follow_get (bits_l rng64 64 own full ts set a b) (by rw [decide_eq_true (by omega)])
  · have hl' := decide_eq_false (show ¬ 100 < (ts.length : Int) by omega)
    have ho := ok_law ts set
    cases ts with
    | nil =>
      have hp := bits_e rng64 64 own full [] set a b
      simp only [hl', hs, hX, hc 28 (by decide), hc 29 (by decide), hc 32 (by decide), hc 34 (by decide), hc 35 (by decide), hc 40 (by decide), show okN 64 set set [] = true from ho, show emL [] = true from rfl, inR64_mk (r := 1 + a % 3) (by omega), inR64_mk (r := 1 + b % 3) (by omega), beq_self_eq_true, Bool.not_true] at hp
      exact Tr.follow_get hp rfl
    | cons x r =>
      have hp := bits_f rng64 64 own full (x :: r) set a b
      simp only [hl', hs, hX, hc 28 (by decide), hc 29 (by decide), hc 32 (by decide), hc 34 (by decide), hc 35 (by decide), hc 40 (by decide), ho, show emL (x :: r) = false from rfl, inAll_mod (show (x :: r).length ≤ 100 by omega), decide_eq_true (show (x :: r).length ≤ 100 by omega), rng_orF (modL (x :: r)) hs, inR64_mk (r := 1 + a % 3) (by omega), inR64_mk (r := 1 + b % 3) (by omega), beq_self_eq_true, Bool.not_true] at hp
      exact Tr.follow_get hp rfl
theorem FeatBits_walk (a0 : Int) (v1 : Value) (a2 a3 : Int) (W : World) (h0 : (Lit.int .u64 a0).wf = true) {p : Int → Prop} (h1 : SArg (C6 3) p W v1) (_ : (Lit.int .i64 a2).wf = true) (_ : (Lit.int .i64 a3).wf = true) :
    Calls Try.prog 6 #[.int .u64 a0, v1, .int .i64 a2, .int .i64 a3] W fun e w' => e = .returned (.bool true) ∧ Below W.heap.size W w' := by
  have hs : rng64 a0 = true := rng64_iff.2 (by have := wf_u64 h0; omega)
  rcases h1 with rfl | ⟨a, cap, ts, rfl, hl, hc, _, hb⟩
  · exact run_flat (C := C6) (args := [.raw (.int .u64 a0), .raw (.slice none 0 0), .raw (.int .i64 a2), .raw (.int .i64 a3)]) (vals := [.int .u64 a0, .slice none 0 0, .int .i64 a2, .int .i64 a3]) (bits_nil hs) rfl
  · exact run_one (C := C6) (e := 3) (args := [.raw (.int .u64 a0), .h 0, .raw (.int .i64 a2), .raw (.int .i64 a3)]) (vals := [.int .u64 a0, .slice (some a) ts.length cap, .int .i64 a2, .int .i64 a3]) (bits_sl hs) hl hc hb rfl
end Go.Proofs.Ytknkemjbikbhgaa
