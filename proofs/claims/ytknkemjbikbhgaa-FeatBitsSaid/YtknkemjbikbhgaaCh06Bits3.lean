/-
  Chapter 6: FeatBits, its second loop and the whole. Own work; nothing here is trusted.
-/
import Derived.Test.YtknkemjbikbhgaaCh06Bits2
namespace Go.Proofs.Ytknkemjbikbhgaa
open Go Go.Sx Go.RowKit
set_option maxRecDepth 1000000
set_option maxHeartbeats 8000000
set_option linter.unusedVariables false
set_option linter.unusedSimpArgs false
noncomputable section
/-- Bit k of the set, as it should be. -/
def okJ (set s : Int) (m : List (Int × Bool)) (k : Nat) : Bool := hasI s k == ((lkM m (k : Int)).getD false || hasI set k)
theorem j_p1 (rg : Int → Bool) (set s k a b : Int) (m : List (Int × Bool)) : Tr.follow [true, true, true, true, true, true, true, true, false, true] (jRound rg set s k a b m) = some ([decide (k < 64), rg s, decide (0 ≤ k ∧ k < 64), (lkM m k).getD false, true, true, true, true, !hasI s k.toNat == true, inR64 (k + 1)],
  (.normal, jSt set s (k + 1) a b m)) := by kernel_rfl
theorem j_p0 (rg : Int → Bool) (set s k a b : Int) (m : List (Int × Bool)) : Tr.follow [true, true, true, false, false, false, false, true, true, false, true] (jRound rg set s k a b m) = some ([decide (k < 64), rg s, decide (0 ≤ k ∧ k < 64), (lkM m k).getD false, false, false, false, rg set, decide (0 ≤ k ∧ k < 64), !hasI s k.toNat == hasI set k.toNat, inR64 (k + 1)],
  (.normal, jSt set s (k + 1) a b m)) := by kernel_rfl
theorem j_e (rg : Int → Bool) (set s k a b : Int) (m : List (Int × Bool)) : Tr.follow [false] (jRound rg set s k a b m) = some ([decide (k < 64)], (.exit 2, jSt set s k a b m)) := by kernel_rfl
def okN (N : Nat) (set s : Int) (m : List (Int × Bool)) : Bool := (List.range N).all (okJ set s m)
def jLoop (rg : Int → Bool) (N : Nat) : LoopFn C6 := fun li => match li with
  | ⟨[.raw (.int .u64 set), .raw (.int .u64 s), .h 0, .raw (.int .i64 (.ofNat 0)), .raw (.int .i64 a), .raw (.int .i64 b), .raw (.bool false)], 1, [.mp .i64 4 m]⟩ => .br (rg s) (.br (rg set) (.br (okN N set s m) (.leaf (.exit 2, jSt set s (N : Int) a b m)) .fail) .fail) .fail
  | _ => .fail
theorem sf12_ok {rg : Int → Bool} (hrg : rg = rng64) : SpecTOk Try.prog (sf12 rg) := addS_ok (viewS_ok (hasT2_ok hrg)) noSp_ok
theorem j_loop : loopOf Try.prog 6 2 = some (108, (loopOf Try.prog 6 2).get!.2) := by kernel_rfl
theorem jLoop_ok {rg : Int → Bool} (hrg : rg = rng64) {N : Nat} (hN : N = 64) : ∀ tm hp n x, (loopS [0, 13, 10, 15, 2, 3, 8] [] (jLoop rg N) tm hp n).get = some x → InLoop Try.prog 108 (loopOf Try.prog 6 2).get!.2 tm hp n fun e tm hp n => (e, tm, hp, n) = x := loopS_of fun li r h => by
  unfold jLoop at h
  split at h
  · rename_i set s a b m
    obtain ⟨hs, h⟩ := Tr.get_ask.1 h
    obtain ⟨hset, h⟩ := Tr.get_ask.1 h
    obtain ⟨hok, h2⟩ := Tr.get_ask.1 h
    simp only [Tr.get, Option.some.injEq] at h2
    subst h2
    subst hN
    subst hrg
    change List (Int × Bool) at m
    refine ⟨Keeps.of (Nat.le_refl 1) rfl (fun o ho => by cases ho), ?_⟩
    unfold okN at hok
    rw [List.all_eq_true] at hok
    refine loop_li (σ := Nat) (st := fun x => jSt set s (x : Int) a b m) (Inv := fun x => x ≤ 64) (μ := fun x => 64 - x) (d := 10) (unr := fun _ _ => 20) (sp := sf12 rng64) (ls := noLs) plain mixed (sf12_ok rfl) noLs_ok j_loop (fun k hk => ?_) 0 (Nat.zero_le 64)
    by_cases h5 : k < 64
    · have ho := hok k (List.mem_range.2 h5)
      unfold okJ at ho
      have e1 := decide_eq_true (show ((k : Nat) : Int) < 64 by omega)
      have e2 := decide_eq_true (show 0 ≤ ((k : Nat) : Int) ∧ ((k : Nat) : Int) < 64 by omega)
      have e3 := inR64_mk (r := ((k : Nat) : Int) + 1) (by omega)
      cases hl : (lkM m (k : Int)).getD false with
      | true =>
        rw [hl, Bool.true_or, beq_iff_eq] at ho
        have hp := j_p1 rng64 set s (k : Int) a b m
        rw [show ((k : Nat) : Int).toNat = k from rfl, e1, e2, e3, hs, hl, ho] at hp
        exact ⟨_, Tr.follow_get hp rfl, fun _ => ⟨k + 1, by omega, by omega, rfl⟩, nofun⟩
      | false =>
        rw [hl, Bool.false_or, beq_iff_eq] at ho
        have hp := j_p0 rng64 set s (k : Int) a b m
        rw [show ((k : Nat) : Int).toNat = k from rfl, e1, e2, e3, hs, hset, hl, ho, beq_self_eq_true] at hp
        exact ⟨_, Tr.follow_get hp rfl, fun _ => ⟨k + 1, by omega, by omega, rfl⟩, nofun⟩
    · have : k = 64 := by omega
      subst this
      exact ⟨_, Tr.follow_get (j_e rng64 set s 64 a b m) (by decide), nofun, fun _ => ⟨rfl, rfl⟩⟩
  · cases h
def l6 (rg : Int → Bool) (N : Nat) : LoopT C6 := addL 6 0 (loopS [1, 0, 2, 3, 8, 10, 11] [9] iLoop) (addL 6 2 (loopS [0, 13, 10, 15, 2, 3, 8] [] (jLoop rg N)) noLs)
theorem l6_ok {rg : Int → Bool} (hrg : rg = rng64) {N : Nat} (hN : N = 64) : LoopTOk Try.prog (l6 rg N) := addL_ok i_loop iLoop_ok (addL_ok j_loop (jLoop_ok hrg hN) noLs_ok)
def l6n (rg : Int → Bool) (N : Nat) : LoopT C6 := addL 6 2 (loopS [0, 13, 10, 15, 2, 3, 8] [] (jLoop rg N)) noLs
theorem l6n_ok {rg : Int → Bool} (hrg : rg = rng64) {N : Nat} (hN : N = 64) : LoopTOk Try.prog (l6n rg N) := addL_ok j_loop (jLoop_ok hrg hN) noLs_ok
theorem lv6T_ok : ∀ args os r, (lvT true args os).get = some r → Fn0 Try.prog 16 args os r := fun args os r h => by
  unfold lvT at h
  split at h
  · simp only [Tr.get, Option.some.injEq] at h
    subst h
    exact Fn0.const (vals0 := []) (by kernel_rfl) lives06_walk fun _ => rfl
  · cases h
def sf13 (rg : Int → Bool) : SpecT C6 := addS 16 (viewS (lvT true)) (addS 17 (viewS pk6T) (addS 18 (viewS allT) (addS 25 (viewS wiT) (addS 27 (viewS (hasT2 rg)) noSp))))
theorem sf13_ok {rg : Int → Bool} (hrg : rg = rng64) : SpecTOk Try.prog (sf13 rg) := addS_ok (viewS_ok lv6T_ok) (addS_ok (viewS_ok pk6T_ok) (addS_ok (viewS_ok allT_ok) (addS_ok (viewS_ok wiT_ok) (addS_ok (viewS_ok (hasT2_ok hrg)) noSp_ok))))
abbrev f6b (rg : Int → Bool) (N : Nat) := fnC C6 Try.prog (sf13 rg) (l6 rg N) (fun g b => match g, b with | 6, 0 => 0 | 6, 2 => 0 | _, _ => 20) 10
abbrev f6n (rg : Int → Bool) (N : Nat) := fnC C6 Try.prog (sf13 rg) (l6n rg N) (fun g b => match g, b with | 6, 2 => 0 | _, _ => 20) 10
end
end Go.Proofs.Ytknkemjbikbhgaa
