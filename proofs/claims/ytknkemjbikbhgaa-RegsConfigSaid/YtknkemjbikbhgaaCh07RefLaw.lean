/-
  Chapter 7: the reference's best set is the program's. Own work; nothing here is trusted.
-/
import Derived.Test.YtknkemjbikbhgaaCh07Ref
namespace Go.Proofs.Ytknkemjbikbhgaa
open Go Go.Sx Go.RowKit
set_option maxRecDepth 1000000
set_option maxHeartbeats 8000000
set_option linter.unusedVariables false
set_option linter.unusedSimpArgs false
noncomputable section
abbrev rS0 (k o w : Int) : Int := bitsV .u64 .and (bitsV .u64 .and o (bitsV .u64 .or w 4294967296)) (allI k)
theorem rb_form (rg : Int → Bool) (N : Nat) (k o w : Int) : (f8 rg N 32 [.raw (.int .i64 k), .raw (.int .u64 o), .raw (.int .u64 w)] []).get =
  bro (allI k == 0) (some (.tup [.raw (.int .u64 0), .raw (.int .i64 2)], [])) (bro (rg o) (bro (!hasI o 32) (some (.tup [.raw (.int .u64 0), .raw (.int .i64 2)], []))
    (bro (rg (rS0 k o w)) (bro (rg (rbF k N 0 (rS0 k o w))) (bro (rg (rbF k N 0 (rbF k N 0 (rS0 k o w)))) (some (.tup [.raw (.int .u64 (rbF k N 0 (rbF k N 0 (rbF k N 0 (rS0 k o w))))), .raw (.int .i64 0)], [])) none) none) none)) none) := by kernel_rfl
theorem rng_rbF {k : Int} : ∀ (f b : Nat) {s : Int}, rng64 s = true → rng64 (rbF k f b s) = true
  | 0, _, _, h => h
  | f + 1, b, _, h => rng_rbF f (b + 1) (rng_rbI h)
theorem andNot0 (s : Int) : bitsV .u64 .andNot 0 s = 0 := by
  rw [bNot, U_zero]
  show BitVec.ofInt 64 0 &&& ~~~ V s = 0#64
  rw [show BitVec.ofInt 64 0 = 0#64 from rfl, BitVec.zero_and]
theorem rbI_skip {k b s : Int} (h : ndR k b = 0) : rbI k b s = s := by
  unfold rbI
  rw [h, andNot0]
  cases hasI s b.toNat <;> rfl
theorem rbF_skip {k : Int} : ∀ (n : Nat) {f b : Nat} {s : Int}, (∀ i, b ≤ i → i < b + n → ndR k (i : Int) = 0) → rbF k (n + f) b s = rbF k f (b + n) s
  | 0, f, b, s, _ => by rw [Nat.zero_add, Nat.add_zero]
  | n + 1, f, b, s, h => by
    rw [show n + 1 + f = (n + f) + 1 by omega]
    show rbF k (n + f) (b + 1) (rbI k (b : Int) s) = _
    rw [rbI_skip (h b (Nat.le_refl _) (by omega)), rbF_skip n (fun i h1 h2 => h i (by omega) (by omega)), show b + 1 + n = b + (n + 1) by omega]
theorem ndR_ne {k b : Int} (h : k ≠ 1) : ndR k b = 0 := by
  unfold ndR
  rw [show (k != 1) = true by simpa using h]; rfl
theorem ndR_zero {i : Nat} (h : i ≠ 18 ∧ i ≠ 19 ∧ i ≠ 22 ∧ i ≠ 23) : ndR 1 (i : Int) = 0 := by
  unfold ndR
  rw [beq_eq_false_iff_ne.2 (show (i : Int) ≠ 18 by omega), beq_eq_false_iff_ne.2 (show (i : Int) ≠ 19 by omega), beq_eq_false_iff_ne.2 (show (i : Int) ≠ 22 by omega), beq_eq_false_iff_ne.2 (show (i : Int) ≠ 23 by omega)]
  rfl
theorem rb_ne {k : Int} (h : k ≠ 1) (s : Int) : rbF k 64 0 s = s := by
  rw [show (64 : Nat) = 64 + 0 from rfl, rbF_skip 64 (fun i _ _ => ndR_ne h)]
  rfl
/-- What one bit's rule makes of a set. -/
def rcB (m : BitVec 64) (b : Nat) (v : BitVec 64) : BitVec 64 := sel (v.getLsbD b && !(m &&& ~~~ v == 0#64)) (v &&& ~~~ BitVec.twoPow 64 b) v
theorem rbI_U {b : Nat} (hb : b ≤ 63) {m : Int} (hm : ndR 1 (b : Int) = m) (v : BitVec 64) : rbI 1 (b : Int) (U v) = U (rcB (V m) b v) := by
  unfold rbI rcB hasI
  rw [hm, VU, show ((b : Int)).toNat = b from rfl]
  have e1 : ((b : Int) % 18446744073709551616) = (b : Int) := by omega
  rw [e1, shl_lit b hb, bNot, bNot, VU, VU]
  have e2 : (U (V m &&& ~~~ v) != 0) = !(V m &&& ~~~ v == 0#64) := by
    by_cases h : V m &&& ~~~ v = 0#64
    · rw [U_zero.2 h, h]; rfl
    · rw [beq_eq_false_iff_ne.2 h]
      have : U (V m &&& ~~~ v) ≠ 0 := fun e => h (U_zero.1 e)
      simpa using this
  rw [e2]
  cases (v.getLsbD b && !(V m &&& ~~~ v == 0#64)) <;> rfl
theorem rb_one (v : BitVec 64) : rbF 1 64 0 (U v) = U (rcB (V 131104) 23 (rcB (V 131072) 22 (rcB (V 131072) 19 (rcB (V 131072) 18 v)))) := by
  rw [show (64 : Nat) = 18 + 46 from rfl, rbF_skip 18 (fun i _ _ => ndR_zero (by omega))]
  show rbF 1 44 20 (rbI 1 ((19 : Nat) : Int) (rbI 1 ((18 : Nat) : Int) (U v))) = _
  rw [rbI_U (m := 131072) (by omega) rfl, rbI_U (m := 131072) (by omega) rfl]
  rw [show (44 : Nat) = 2 + 42 from rfl, rbF_skip 2 (fun i _ _ => ndR_zero (by omega))]
  show rbF 1 40 24 (rbI 1 ((23 : Nat) : Int) (rbI 1 ((22 : Nat) : Int) _)) = _
  rw [rbI_U (m := 131072) (by omega) rfl, rbI_U (m := 131104) (by omega) rfl]
  rw [show (40 : Nat) = 40 + 0 from rfl, rbF_skip 40 (fun i _ _ => ndR_zero (by omega))]
  rfl
theorem bit_off {v : BitVec 64} {b : Nat} (h : b < 64) (hv : v.getLsbD b = true) : BitVec.twoPow 64 b &&& ~~~ v = 0#64 := by
  apply BitVec.eq_of_getLsbD_eq
  intro i hi
  rw [BitVec.getLsbD_and, BitVec.getLsbD_not, BitVec.getLsbD_twoPow, BitVec.getLsbD_zero]
  by_cases e : b = i
  · subst e; rw [hv]; simp
  · simp [e]
theorem bit_on {v m : BitVec 64} {b : Nat} (h : b < 64) (hm : m.getLsbD b = true) (hv : v.getLsbD b = false) : m &&& ~~~ v ≠ 0#64 := fun e => by
  have := congrArg (fun x => x.getLsbD b) e
  simp only [BitVec.getLsbD_and, BitVec.getLsbD_not, BitVec.getLsbD_zero, hv, hm] at this
  simp [h] at this
theorem m17 (v : BitVec 64) : (V 131072 &&& ~~~ v == 0#64) = v.getLsbD 17 := by
  have e : V 131072 = BitVec.twoPow 64 17 := by decide
  rw [e]
  cases h : v.getLsbD 17 with
  | true => exact beq_iff_eq.2 (bit_off (by omega) h)
  | false => exact beq_eq_false_iff_ne.2 (bit_on (b := 17) (by omega) (by decide) h)
theorem m175 (v : BitVec 64) : (V 131104 &&& ~~~ v == 0#64) = (v.getLsbD 17 && v.getLsbD 5) := by
  have e : V 131104 = BitVec.twoPow 64 17 ||| BitVec.twoPow 64 5 := by decide
  rw [e]
  cases h : v.getLsbD 17 with
  | false => exact beq_eq_false_iff_ne.2 (bit_on (b := 17) (by omega) (by decide) h)
  | true =>
    cases h5 : v.getLsbD 5 with
    | false => exact beq_eq_false_iff_ne.2 (bit_on (b := 5) (by omega) (by decide) h5)
    | true =>
      refine beq_iff_eq.2 ?_
      apply BitVec.eq_of_getLsbD_eq
      intro i hi
      have a1 := congrArg (fun x => x.getLsbD i) (bit_off (by omega) h)
      have a2 := congrArg (fun x => x.getLsbD i) (bit_off (by omega) h5)
      simp only [BitVec.getLsbD_and, BitVec.getLsbD_not, BitVec.getLsbD_zero, BitVec.getLsbD_or] at a1 a2 ⊢
      generalize (BitVec.twoPow 64 17).getLsbD i = p at *
      generalize (BitVec.twoPow 64 5).getLsbD i = q at *
      generalize v.getLsbD i = r at *
      generalize decide (i < 64) = d at *
      clear h h5 e
      cases p <;> cases q <;> cases r <;> cases d <;> simp_all
theorem rcB17 (b : Nat) (v : BitVec 64) : rcB (V 131072) b v = sel (v.getLsbD 17) v (cutB b v) := by
  unfold rcB cutB
  rw [m17]
  cases v.getLsbD b <;> cases v.getLsbD 17 <;> rfl
theorem rcB175 (b : Nat) (v : BitVec 64) : rcB (V 131104) b v = sel (v.getLsbD 17 && v.getLsbD 5) v (cutB b v) := by
  unfold rcB cutB
  rw [m175]
  cases v.getLsbD b <;> cases v.getLsbD 17 <;> cases v.getLsbD 5 <;> rfl
theorem rb_best (v : BitVec 64) : rcB (V 131104) 23 (rcB (V 131072) 22 (rcB (V 131072) 19 (rcB (V 131072) 18 v))) = best1 v := by
  unfold best1
  cases h : v.getLsbD 17 with
  | true =>
    have e1 : ∀ b, rcB (V 131072) b v = v := fun b => by rw [rcB17, h]; rfl
    rw [e1, e1, e1, rcB175, h]
    cases v.getLsbD 5 <;> rfl
  | false =>
    have keep : ∀ b u, b ≠ 17 → u.getLsbD 17 = false → (cutB b u).getLsbD 17 = false := fun b u hb hu => by rw [cutB_bit, hu]; rfl
    have e1 : ∀ b u, u.getLsbD 17 = false → rcB (V 131072) b u = cutB b u := fun b u hu => by rw [rcB17, hu]; rfl
    have k1 := keep 18 v (by omega) h
    have k2 := keep 19 _ (by omega) k1
    have k3 := keep 22 _ (by omega) k2
    rw [e1 18 v h, e1 19 _ k1, e1 22 _ k2, rcB175, k3]
    rfl
theorem rb_thrice {j : Nat} (hj : j = 1 ∨ j = 2 ∨ j = 3) {v : BitVec 64} (h : v.getLsbD 32 = true) : rbF (j : Int) 64 0 (rbF (j : Int) 64 0 (rbF (j : Int) 64 0 (U v))) = U (bsB j v) := by
  rcases hj with rfl | rfl | rfl
  · show rbF 1 64 0 (rbF 1 64 0 (rbF 1 64 0 (U v))) = U (best1 v)
    have s1 : ∀ u, rbF 1 64 0 (U u) = U (best1 u) := fun u => by rw [rb_one, rb_best]
    have s2 : best1 (best1 v) = best1 v := bs_self (k := 1) (best1_cl h)
    rw [s1, s1, s1, s2, s2]
  · rw [rb_ne (by decide), rb_ne (by decide), rb_ne (by decide)]; rfl
  · rw [rb_ne (by decide), rb_ne (by decide), rb_ne (by decide)]; rfl
theorem allI_kd {j : Nat} (hj : j = 1 ∨ j = 2 ∨ j = 3) : allI (j : Int) = allOf j ∧ allI (j : Int) ≠ 0 := by rcases hj with rfl | rfl | rfl <;> exact ⟨rfl, by decide⟩
theorem both_32 {j : Nat} (hj : j = 1 ∨ j = 2 ∨ j = 3) {o : Int} (w : Int) (h : (V o).getLsbD 32 = true) : (both j o w).getLsbD 32 = true := by
  unfold both
  have ha : (V (allOf j)).getLsbD 32 = true := by rcases hj with rfl | rfl | rfl <;> decide
  rw [BitVec.getLsbD_and, BitVec.getLsbD_and, BitVec.getLsbD_or, h, ha, BitVec.getLsbD_twoPow]
  simp
theorem rbT_ok : ∀ args os r, (bestT args os).get = some r → Fn0 Try.prog 32 args os r := fun args os r h => by
  unfold bestT at h
  split at h
  · rename_i k o w
    obtain ⟨h1, h2⟩ := Tr.get_ask.1 h
    obtain ⟨rg, hrg⟩ : ∃ rg : Int → Bool, rg = rng64 := ⟨_, rfl⟩
    obtain ⟨N, hN⟩ : ∃ N : Nat, N = 64 := ⟨_, rfl⟩
    refine fnC_ok (sp := sf7 rg) (ls := l32 rg N) (unr := fun g b => match g, b with | 32, 2 => 0 | _, _ => 20) (d := 10) plain mixed (sf7_ok hrg) (l32_ok hrg hN) ?_
    refine (rb_form rg N k o w).trans ?_
    rw [← h2]
    subst hrg; subst hN
    have r0 : rng64 (rS0 k o w) = true := rng_bits _ _ _
    rw [h1, r0, rng_rbF 64 0 r0, rng_rbF 64 0 (rng_rbF 64 0 r0)]
    unfold bsI beI beB
    cases hk : kdB k with
    | true =>
      obtain ⟨j, hj, rfl⟩ := kdB_cases hk
      obtain ⟨a1, a2⟩ := allI_kd hj
      rw [beq_eq_false_iff_ne.2 a2]
      cases ho : hasI o 32 with
      | false => rfl
      | true =>
        have e : rS0 (j : Int) o w = U (both j o w) := by
          unfold rS0; rw [a1]; exact both_eq j o w
        rw [e, rb_thrice hj (both_32 hj w ho)]
        rfl
    | false =>
      have e2 : (allI k == 0) = true := by
        unfold kdB at hk
        simp only [Bool.or_eq_false_iff] at hk
        unfold allI
        rw [hk.1, hk.2.1, hk.2.2]; rfl
      rw [e2]; rfl
  · cases h
end
end Go.Proofs.Ytknkemjbikbhgaa
