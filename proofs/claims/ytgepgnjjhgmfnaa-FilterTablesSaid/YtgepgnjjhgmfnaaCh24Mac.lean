/-
  Chapter 24: the loop that reads addresses. Own work; nothing here is trusted.
-/
import Derived.Test.YtgepgnjjhgmfnaaCh24Mac0
namespace Go.Proofs.Ytgepgnjjhgmfnaa
open Go Go.Sx Go.RowKit
set_option maxRecDepth 1000000
set_option maxHeartbeats 8000000
set_option linter.unusedVariables false
set_option linter.unusedSimpArgs false
noncomputable section

theorem mA_end (o f bad : Bool) (r : List Int) (n K : Int) : Tr.follow [false, false, false, false, false, false, false] (mRA o f bad r n K) =
  some ([decide (K < n),
  false,
  false,
  false,
  false,
  false,
  false],
  (.exit 2, mStA o f bad r n K)) := by kernel_rfl
theorem mA_bad (f : Bool) (r : List Int) (n K : Int) : Tr.follow [true, true, true, true, true, false] (mRA false f true r n K) =
  some ([decide (K < n),
  true,
  true,
  true,
  true,
  false],
  (.exit 2, mStA false f true r n K)) := by kernel_rfl
theorem mA_ok (f : Bool) (r : List Int) (n K : Int) : Tr.follow [true, true, true, true, true, true, false, false, false, false, false, false, false, false, true, true, true, true, true, true, false] (mRA false f false r n K) =
  some ([decide (K < n),
  true,
  true,
  true,
  true,
  true,
  false,
  false,
  false,
  false,
  false,
  false,
  false,
  decide ((↑r.length : Int) < (6 : Int)),
  cutB none (some (6 : Int)) r.length,
  cutB (some (6 : Int)) none r.length,
  decide ((6 : Nat) ≤ (c6 r).length) && decide ((0 : Nat) < (c6 r).length),
  decide ((0 : Nat) < (c6 r).length),
  decide ((0 : Nat) + Try.prog.types[(22 : Nat)].size / 1 ≤ (c6 r).length),
  true,
  false],
  (.normal, mStB false f false false r (d6 r) [macAt (c6 r)] n ((K + 1) % 18446744073709551616))) := by kernel_rfl
theorem mA_no (f : Bool) (r : List Int) (n K : Int) : Tr.follow [true, true, true, true, true, true, false, false, false, false, false, false, false, true, true, true, true, true, true, true, false] (mRA false f false r n K) =
  some ([decide (K < n),
  true,
  true,
  true,
  true,
  true,
  false,
  false,
  false,
  false,
  false,
  false,
  false,
  decide ((↑r.length : Int) < (6 : Int)),
  true,
  true,
  true,
  true,
  true,
  true,
  false],
  (.normal, mStM false f false r [mac0] n ((K + 1) % 18446744073709551616))) := by kernel_rfl
theorem mM_end (o f g : Bool) (r : List Int) (ms : List Mac) (n K : Int) : Tr.follow [false, false, false, false, false, false, false] (mRM o f g r ms n K) =
  some ([decide (K < n),
  false,
  false,
  false,
  false,
  false,
  false],
  (.exit 2, mStM o f g r ms n K)) := by kernel_rfl
theorem mM_bad (o f g : Bool) (r : List Int) (ms : List Mac) (n K : Int) : Tr.follow [true, true, true, true, true, false] (mRM o f g r ms n K) =
  some ([decide (K < n),
  true,
  true,
  true,
  true,
  false],
  (.exit 2, mStM o f g r ms n K)) := by kernel_rfl
theorem mB_end (o f g bad : Bool) (r s : List Int) (ms : List Mac) (n K : Int) : Tr.follow [false, false, false, false, false, false, false] (mRB o f g bad r s ms n K) =
  some ([decide (K < n),
  false,
  false,
  false,
  false,
  false,
  false],
  (.exit 2, mStB o f g bad r s ms n K)) := by kernel_rfl
theorem mB_bad (o f g : Bool) (r s : List Int) (ms : List Mac) (n K : Int) : Tr.follow [true, true, true, true, true, false] (mRB o f g true r s ms n K) =
  some ([decide (K < n),
  true,
  true,
  true,
  true,
  false],
  (.exit 2, mStB o f g true r s ms n K)) := by kernel_rfl
theorem mB_ok (o f g : Bool) (r s : List Int) (ms : List Mac) (n K : Int) : Tr.follow [true, true, true, true, true, true, false, false, false, false, false, false, false, false, true, true, true, true, true, true] (mRB o f g false r s ms n K) =
  some ([decide (K < n),
  true,
  true,
  true,
  true,
  true,
  false,
  false,
  false,
  false,
  false,
  false,
  false,
  decide ((↑s.length : Int) < (6 : Int)),
  cutB none (some (6 : Int)) s.length,
  cutB (some (6 : Int)) none s.length,
  decide ((6 : Nat) ≤ (c6 s).length) && decide ((0 : Nat) < (c6 s).length),
  decide ((0 : Nat) < (c6 s).length),
  decide ((0 : Nat) + Try.prog.types[(22 : Nat)].size / 1 ≤ (c6 s).length),
  roomB (ms.length + [macAt (c6 s)].length) Try.prog.types[(22 : Nat)].bytes],
  (.normal, mStB o f false false r (d6 s) (ms ++ [macAt (c6 s)]) n ((K + 1) % 18446744073709551616))) := by kernel_rfl
theorem mB_no (o f g : Bool) (r s : List Int) (ms : List Mac) (n K : Int) : Tr.follow [true, true, true, true, true, true, false, false, false, false, false, false, false, true, true, true, true, true, true, true] (mRB o f g false r s ms n K) =
  some ([decide (K < n),
  true,
  true,
  true,
  true,
  true,
  false,
  false,
  false,
  false,
  false,
  false,
  false,
  decide ((↑s.length : Int) < (6 : Int)),
  true,
  true,
  true,
  true,
  true,
  roomB (ms.length + [mac0].length) Try.prog.types[(22 : Nat)].bytes],
  (.normal, mStB o f false true r s (ms ++ [mac0]) n ((K + 1) % 18446744073709551616))) := by kernel_rfl

theorem c6_eq (r : List Int) : c6 r = r.take 6 := rfl
theorem d6_eq (r : List Int) : d6 r = r.drop 6 := rfl
theorem size22 : Try.prog.types[(22 : Nat)].size = 6 := by kernel_rfl
/-- How many rounds, what was read, what is left, whether something missed; how it stands: 0 nothing, 1 missed at once, 2 some. -/
abbrev MS := Nat × List Mac × List Int × Bool × Nat
def finM : Nat → Nat → List Mac → List Int → Nat → MS
  | 0, K, ms, s, ph => (K, ms, s, false, ph)
  | j + 1, K, ms, s, ph => if (s.length : Int) < 6 then (K + 1, ms ++ [mac0], s, true, match ph with | 0 => 1 | _ => 2) else finM j (K + 1) (ms ++ [macAt (c6 s)]) (d6 s) 2
@[reducible] def mSt (f : Bool) (r : List Int) (n : Int) (x : MS) : List SV × List (SO C24) := match x.2.2.2.2 with
  | 0 => mStA false f false r n (x.1 : Int)
  | 1 => mStM false f false r x.2.1 n (x.1 : Int)
  | _ => mStB false f false x.2.2.2.1 r x.2.2.1 x.2.1 n (x.1 : Int)
/-- A state that may be met. -/
structure OkM (r : List Int) (n : Nat) (G : MS) (x : MS) : Prop where
  le : x.1 ≤ n
  len : x.2.1.length ≤ x.1
  ph0 : x.2.2.2.2 = 0 → x.2.2.2.1 = false ∧ x.2.1 = [] ∧ x.2.2.1 = r
  ph1 : x.2.2.2.2 = 1 → x.2.2.2.1 = true
  run : x.2.2.2.1 = false → finM (n - x.1) x.1 x.2.1 x.2.2.1 x.2.2.2.2 = G
  stop : x.2.2.2.1 = true → x = G
theorem finM_stop : ∀ (j K : Nat) (ms : List Mac) (s : List Int) (ph : Nat), (finM j K ms s ph).1 ≤ K + j ∧ ((finM j K ms s ph).2.2.2.1 = false → (finM j K ms s ph).1 = K + j)
  | 0, K, ms, s, ph => ⟨Nat.le_refl _, fun _ => rfl⟩
  | j + 1, K, ms, s, ph => by
    unfold finM
    split
    · exact ⟨by simp only; omega, nofun⟩
    · obtain ⟨h1, h2⟩ := finM_stop j (K + 1) (ms ++ [macAt (c6 s)]) (d6 s) 2
      exact ⟨by omega, fun h => by have := h2 h; omega⟩
theorem m_loop : loopOf Try.prog 59 2 = some (((loopOf Try.prog 59 2).get!).1, (loopOf Try.prog 59 2).get!.2) := by kernel_rfl
theorem emod_u {k : Nat} (h : k ≤ 100) : ((k : Int) + 1) % 18446744073709551616 = ((k + 1 : Nat) : Int) := by omega
theorem m_run {f : Bool} {r : List Int} {n : Nat} (hn : n ≤ 32) {G : MS} (hG : finM n 0 [] r 0 = G) :
    LoopRun Try.prog ((loopOf Try.prog 59 2).get!).1 (loopOf Try.prog 59 2).get!.2 2 (LI.st mSlots ⟨(mSt f r (n : Int) (0, [], r, false, 0)).1, 2, (mSt f r (n : Int) (0, [], r, false, 0)).2⟩) fun x T => ∃ vs os, (x = .exit 2 ∧ (vs, os) = mSt f r (n : Int) G) ∧ T = ⟨zipT mSlots vs, numH 0 os, os.length⟩ := by
  refine loop_li (σ := MS) (st := mSt f r (n : Int)) (Inv := OkM r n G) (μ := fun x => n - x.1) (d := 10) (unr := fun _ _ => 20) (sp := noSp) (ls := noLs) plain mixed noSp_ok noLs_ok m_loop (fun x hx => ?_) (0, [], r, false, 0) ⟨Nat.zero_le _, Nat.le_refl _, fun _ => ⟨rfl, rfl, rfl⟩, nofun, fun _ => hG, nofun⟩
  obtain ⟨K, ms, s, bad, ph⟩ := x
  obtain ⟨h1, h2, h3, h4, h5, h6⟩ := hx
  simp only at h1 h2 h3 h4 h5 h6
  cases bad with
  | true =>
    have hS := h6 rfl
    subst hS
    match ph, h3 with
    | 0, h3 => exact absurd (h3 rfl).1 (by decide)
    | 1, _ =>
      by_cases hk : (K : Int) < (n : Int)
      · exact ⟨_, Tr.follow_get (mM_bad false f false r ms (n : Int) (K : Int)) (by simp only [decide_eq_true hk]), nofun, fun _ => ⟨rfl, rfl⟩⟩
      · exact ⟨_, Tr.follow_get (mM_end false f false r ms (n : Int) (K : Int)) (by simp only [decide_eq_false hk]), nofun, fun _ => ⟨rfl, rfl⟩⟩
    | ph + 2, _ =>
      by_cases hk : (K : Int) < (n : Int)
      · exact ⟨_, Tr.follow_get (mB_bad false f false r s ms (n : Int) (K : Int)) (by simp only [decide_eq_true hk]), nofun, fun _ => ⟨rfl, rfl⟩⟩
      · exact ⟨_, Tr.follow_get (mB_end false f false true r s ms (n : Int) (K : Int)) (by simp only [decide_eq_false hk]), nofun, fun _ => ⟨rfl, rfl⟩⟩
  | false =>
    have hrun := h5 rfl
    by_cases hk : (K : Int) < (n : Int)
    · have hkn : K < n := by omega
      have kk := decide_eq_true hk
      obtain ⟨j, hj⟩ : ∃ j, n - K = j + 1 := ⟨n - K - 1, by omega⟩
      have hj2 : n - (K + 1) = j := by omega
      rw [hj] at hrun
      unfold finM at hrun
      have room : ∀ m : Mac, roomB (ms.length + [m].length) Try.prog.types[(22 : Nat)].bytes = true := fun m => roomM (by simp; omega)
      have eu := emod_u (k := K) (by omega)
      by_cases h6' : (s.length : Int) < 6
      · rw [if_pos h6'] at hrun
        have k6 := decide_eq_true h6'
        match ph, h3, h4, hrun with
        | 0, h3, _, hrun =>
          obtain ⟨_, rfl, rfl⟩ := h3 rfl
          refine ⟨_, Tr.follow_get (mA_no f s (n : Int) (K : Int)) (by simp only [kk, k6]), fun _ => ⟨(K + 1, [mac0], s, true, 1), ⟨by omega, by simp, nofun, fun _ => rfl, nofun, fun _ => hrun⟩, by simp only; omega, ?_⟩, fun h => by cases h⟩
          rw [eu]; rfl
        | 1, _, h4, _ => exact absurd (h4 rfl) (by decide)
        | ph + 2, _, _, hrun =>
          refine ⟨_, Tr.follow_get (mB_no false f false r s ms (n : Int) (K : Int)) (by simp only [kk, k6, room]), fun _ => ⟨(K + 1, ms ++ [mac0], s, true, 2), ⟨by omega, by simp; omega, nofun, fun _ => rfl, nofun, fun _ => hrun⟩, by simp only; omega, ?_⟩, fun h => by cases h⟩
          rw [eu]; rfl
      · rw [if_neg h6'] at hrun
        have k6 := decide_eq_false h6'
        have b1 : cutB none (some (6 : Int)) s.length = true := bOk_mk (by omega)
        have b2 : cutB (some (6 : Int)) none s.length = true := bOk_mk (by omega)
        have hc : (c6 s).length = 6 := by rw [c6_eq, List.length_take]; omega
        have b3 : (decide ((6 : Nat) ≤ (c6 s).length) && decide ((0 : Nat) < (c6 s).length)) = true := by rw [hc]; rfl
        have b4 : decide ((0 : Nat) < (c6 s).length) = true := by rw [hc]; rfl
        have b5 : decide ((0 : Nat) + Try.prog.types[(22 : Nat)].size / 1 ≤ (c6 s).length) = true := by rw [hc, size22]; rfl
        match ph, h3, h4, hrun with
        | 0, h3, _, hrun =>
          obtain ⟨_, rfl, rfl⟩ := h3 rfl
          refine ⟨_, Tr.follow_get (mA_ok f s (n : Int) (K : Int)) (by simp only [kk, k6, b1, b2]; rw [b3, b4, b5]), fun _ => ⟨(K + 1, [macAt (c6 s)], d6 s, false, 2), ⟨by omega, by simp, nofun, nofun, fun _ => by simp only; rw [hj2]; exact hrun, nofun⟩, by simp only; omega, ?_⟩, fun h => by cases h⟩
          rw [eu]; rfl
        | 1, _, h4, _ => exact absurd (h4 rfl) (by decide)
        | ph + 2, _, _, hrun =>
          refine ⟨_, Tr.follow_get (mB_ok false f false r s ms (n : Int) (K : Int)) (by simp only [kk, k6, b1, b2, room]; rw [b3, b4, b5]), fun _ => ⟨(K + 1, ms ++ [macAt (c6 s)], d6 s, false, 2), ⟨by omega, by simp; omega, nofun, nofun, fun _ => by simp only; rw [hj2]; exact hrun, nofun⟩, by simp only; omega, ?_⟩, fun h => by cases h⟩
          rw [eu]; rfl
    · have hKn : K = n := by omega
      subst hKn
      have kk := decide_eq_false hk
      rw [Nat.sub_self] at hrun
      have hrun : (K, ms, s, false, ph) = G := hrun
      subst hrun
      match ph, h3, h4 with
      | 0, h3, _ =>
        obtain ⟨_, rfl, rfl⟩ := h3 rfl
        exact ⟨_, Tr.follow_get (mA_end false f false s (K : Int) (K : Int)) (by simp only [kk]), nofun, fun _ => ⟨rfl, rfl⟩⟩
      | 1, _, h4 => exact absurd (h4 rfl) (by decide)
      | ph + 2, _, _ => exact ⟨_, Tr.follow_get (mB_end false f false false r s ms (K : Int) (K : Int)) (by simp only [kk]), nofun, fun _ => ⟨rfl, rfl⟩⟩
end
end Go.Proofs.Ytgepgnjjhgmfnaa
