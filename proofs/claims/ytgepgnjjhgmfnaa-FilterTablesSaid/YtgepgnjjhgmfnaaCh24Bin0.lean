/-
  Chapter 24: the loop of BinarySearch, states; the loop that reads addresses, told by a function. Own work; nothing here is trusted.
-/
import Derived.Test.YtgepgnjjhgmfnaaCh24Mac
namespace Go.Proofs.Ytgepgnjjhgmfnaa
open Go Go.Sx Go.RowKit
set_option maxRecDepth 1000000
set_option maxHeartbeats 8000000
set_option linter.unusedVariables false
set_option linter.unusedSimpArgs false
noncomputable section
def phG (G : MS) : Nat := G.2.2.2.2
def mcLoop : LoopFn C24 := fun li => match li with
  | ⟨[.h 0, .raw (.slice none 0 0), .raw (.int .u64 n), .raw (.int .u64 (.ofNat 0))], 2, [.box [.h 1, .raw (.bool bad)] 62, .sl false f 5 r]⟩ =>
    .br bad (.leaf (.exit 2, mStA false f true r n 0)) (.br (decide (0 ≤ n ∧ n ≤ 32)) (.br (Nat.beq (phG (finM n.toNat 0 [] r 0)) 0) (.leaf (.exit 2, mStA false f false r n ((finM n.toNat 0 [] r 0).1 : Int)))
      (.br (Nat.beq (phG (finM n.toNat 0 [] r 0)) 1) (.leaf (.exit 2, mStM false f false r (finM n.toNat 0 [] r 0).2.1 n ((finM n.toNat 0 [] r 0).1 : Int)))
        (.leaf (.exit 2, mStB false f false (finM n.toNat 0 [] r 0).2.2.2.1 r (finM n.toNat 0 [] r 0).2.2.1 (finM n.toNat 0 [] r 0).2.1 n ((finM n.toNat 0 [] r 0).1 : Int))))) .fail)
  | _ => .fail
theorem mcLoop_ok : ∀ tm hp n x, (loopS [0, 3, 4, 7] [] mcLoop tm hp n).get = some x → InLoop Try.prog ((loopOf Try.prog 59 2).get!).1 (loopOf Try.prog 59 2).get!.2 tm hp n fun e tm hp n => (e, tm, hp, n) = x := loopS_of fun li r h => by
  unfold mcLoop at h
  split at h
  · rename_i n bad f rs
    change List Int at rs
    cases bad with
    | true =>
      have h : some (Ex.exit 2, mStA false f true rs n 0) = some r := h
      cases h
      refine ⟨Keeps.of3 (Nat.le_refl 2) rfl, ?_⟩
      refine loop_li (σ := Unit) (st := fun _ => mStA false f true rs n 0) (Inv := fun _ => True) (μ := fun _ => 0) (d := 10) (unr := fun _ _ => 20) (sp := noSp) (ls := noLs) plain mixed noSp_ok noLs_ok m_loop (fun x _ => ?_) () trivial
      by_cases hk : (0 : Int) < n
      · exact ⟨_, Tr.follow_get (mA_bad f rs n 0) (by simp only [decide_eq_true hk]), nofun, fun _ => ⟨rfl, rfl⟩⟩
      · exact ⟨_, Tr.follow_get (mA_end false f true rs n 0) (by simp only [decide_eq_false hk]), nofun, fun _ => ⟨rfl, rfl⟩⟩
    | false =>
      obtain ⟨hn, h2⟩ := Tr.get_ask.1 (show (Tr.br (decide (0 ≤ n ∧ n ≤ 32)) _ .fail).get = some r from h)
      have hn : 0 ≤ n ∧ n ≤ 32 := of_decide_eq_true hn
      clear h
      obtain ⟨m, rfl⟩ := Int.eq_ofNat_of_zero_le hn.1
      have e0 : ((m : Int)).toNat = m := rfl
      rw [e0] at h2
      have hrun := m_run (f := f) (r := rs) (n := m) (by omega) (G := finM m 0 [] rs 0) rfl
      generalize finM m 0 [] rs 0 = G at h2 hrun
      obtain ⟨K, ms, s, bad, ph⟩ := G
      have hr : r = (.exit 2, mSt f rs (m : Int) (K, ms, s, bad, ph)) := by
        match ph, h2 with
        | 0, h2 => exact (Option.some.inj h2).symm
        | 1, h2 => exact (Option.some.inj h2).symm
        | ph + 2, h2 => exact (Option.some.inj h2).symm
      subst hr
      refine ⟨?_, hrun⟩
      match ph with
      | 0 => exact Keeps.of3 (Nat.le_refl 2) rfl
      | 1 => exact Keeps.of3 (show 2 ≤ 3 by decide) rfl
      | ph + 2 => exact Keeps.of3 (show 2 ≤ 4 by decide) rfl
  · cases h
/-! ### BinarySearch -/
@[reducible] def bSt (v : Lo Int) (x i j : Int) : List SV × List (SO C24) := ([hS v 0, .raw (.int .i64 x), .raw (.int .i64 i), .raw (.int .i64 j), .raw (.int .i64 ((lo v).length : Int))], obI v)
abbrev bRound (v : Lo Int) (x i j : Int) := roundG C24 Try.prog noSp noLs (fun _ _ => 20) 10 60 0 [0, 1, 7, 8, 6] ⟨(bSt v x i j).1, nx v 0, (bSt v x i j).2⟩
abbrev hI (i j : Int) : Int := shrV IntKind.u64 ((i + j) % 18446744073709551616) 1
end
end Go.Proofs.Ytgepgnjjhgmfnaa
