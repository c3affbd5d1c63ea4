/-
  Chapter 7: the loop of StatusSteps, told by a tree. Own work; nothing here is trusted.
-/
import Derived.Test.YtknkemjbikbhgaaCh07Feat
namespace Go.Proofs.Ytknkemjbikbhgaa
open Go Go.Sx Go.RowKit
set_option maxRecDepth 1000000
set_option maxHeartbeats 8000000
set_option linter.unusedVariables false
set_option linter.unusedSimpArgs false
noncomputable section
theorem hb_range : ∀ s b : Int, True := fun _ _ => trivial
theorem rng_wrG {k o g s w : Int} (h : rng64 g = true) : rng64 (wrG k o g s w) = true := by
  unfold wrG
  cases ckB k o g s
  · exact h
  · cases (w == 0)
    · exact h
    · rfl
def bits5 : List (C6 5).α := [(1 : Int), (2 : Int), (8 : Int), (4 : Int), (128 : Int)]
def bitI : Nat → Int
  | 0 => 1
  | 1 => 2
  | 2 => 8
  | 3 => 4
  | 4 => 128
  | _ => 0
abbrev devL (k o g s : Int) : List SV := [.raw (.int .i64 k), .raw (.int .u64 o), .raw (.int .u64 g), .raw (.int .u8 s)]
abbrev sSlots : List Nat := [19, 20, 21, 1, 2, 5, 4]
abbrev sSt (w k o g0 s0 : Int) (own full : Bool) (i : Int) (x : Int × Int) : List SV × List (SO C6) := ([.h 0, .raw (.int .i64 5), .raw (.int .i64 i), .raw (.int .u8 w), .h 1, .h 2, .raw (.bool false)], [.sl own full 5 bits5, .box (devL k o g0 s0) 42, .box (devL k o x.1 x.2) 42])
abbrev sRound (w k o g0 s0 : Int) (own full : Bool) (i : Int) (x : Int × Int) := roundG C6 Try.prog sf4 noLs (fun _ _ => 20) 10 7 0 sSlots ⟨(sSt w k o g0 s0 own full i x).1, 3, (sSt w k o g0 s0 own full i x).2⟩
/-- One bit written. -/
def stP (k o w : Int) (i : Nat) (x : Int × Int) : Int × Int := sel (hb w (bitI i)) (wrG k o x.1 x.2 (bitI i), wrI k o x.1 x.2 (bitI i)) x
def fin8 (k o w : Int) : Nat → Nat → Int × Int → Int × Int
  | 0, _, x => x
  | f + 1, i, x => fin8 k o w f (i + 1) (stP k o w i x)
theorem s_r0 (w k o g0 s0 : Int) (own full : Bool) (g s : Int) : (sRound w k o g0 s0 own full ((0 : Nat) : Int) (g, s)).get = bro (hb w (bitI 0)) (bro (rng64 o && rng64 g) (some (.normal, sSt w k o g0 s0 own full ((0 + 1 : Nat) : Int) (wrG k o g s (bitI 0), wrI k o g s (bitI 0)))) none) (some (.normal, sSt w k o g0 s0 own full ((0 + 1 : Nat) : Int) (g, s))) := by kernel_rfl
theorem s_r1 (w k o g0 s0 : Int) (own full : Bool) (g s : Int) : (sRound w k o g0 s0 own full ((1 : Nat) : Int) (g, s)).get = bro (hb w (bitI 1)) (bro (rng64 o && rng64 g) (some (.normal, sSt w k o g0 s0 own full ((1 + 1 : Nat) : Int) (wrG k o g s (bitI 1), wrI k o g s (bitI 1)))) none) (some (.normal, sSt w k o g0 s0 own full ((1 + 1 : Nat) : Int) (g, s))) := by kernel_rfl
theorem s_r2 (w k o g0 s0 : Int) (own full : Bool) (g s : Int) : (sRound w k o g0 s0 own full ((2 : Nat) : Int) (g, s)).get = bro (hb w (bitI 2)) (bro (rng64 o && rng64 g) (some (.normal, sSt w k o g0 s0 own full ((2 + 1 : Nat) : Int) (wrG k o g s (bitI 2), wrI k o g s (bitI 2)))) none) (some (.normal, sSt w k o g0 s0 own full ((2 + 1 : Nat) : Int) (g, s))) := by kernel_rfl
theorem s_r3 (w k o g0 s0 : Int) (own full : Bool) (g s : Int) : (sRound w k o g0 s0 own full ((3 : Nat) : Int) (g, s)).get = bro (hb w (bitI 3)) (bro (rng64 o && rng64 g) (some (.normal, sSt w k o g0 s0 own full ((3 + 1 : Nat) : Int) (wrG k o g s (bitI 3), wrI k o g s (bitI 3)))) none) (some (.normal, sSt w k o g0 s0 own full ((3 + 1 : Nat) : Int) (g, s))) := by kernel_rfl
theorem s_r4 (w k o g0 s0 : Int) (own full : Bool) (g s : Int) : (sRound w k o g0 s0 own full ((4 : Nat) : Int) (g, s)).get = bro (hb w (bitI 4)) (bro (rng64 o && rng64 g) (some (.normal, sSt w k o g0 s0 own full ((4 + 1 : Nat) : Int) (wrG k o g s (bitI 4), wrI k o g s (bitI 4)))) none) (some (.normal, sSt w k o g0 s0 own full ((4 + 1 : Nat) : Int) (g, s))) := by kernel_rfl
theorem s_round (w k o g0 s0 : Int) (own full : Bool) (i : Nat) (hi : i < 5) (x : Int × Int) (ho : rng64 o = true) (hg : rng64 x.1 = true) : (sRound w k o g0 s0 own full (i : Int) x).get = some (.normal, sSt w k o g0 s0 own full ((i + 1 : Nat) : Int) (stP k o w i x)) := by
  obtain ⟨g, s⟩ := x
  have fin : ∀ i : Nat, bro (hb w (bitI i)) (bro (rng64 o && rng64 g) (some (Ex.normal, sSt w k o g0 s0 own full ((i + 1 : Nat) : Int) (wrG k o g s (bitI i), wrI k o g s (bitI i)))) none) (some (.normal, sSt w k o g0 s0 own full ((i + 1 : Nat) : Int) (g, s))) = some (.normal, sSt w k o g0 s0 own full ((i + 1 : Nat) : Int) (stP k o w i (g, s))) := fun i => by
    rw [show rng64 g = true from hg, ho]
    unfold stP
    cases hb w (bitI i) <;> rfl
  have hc : i = 0 ∨ i = 1 ∨ i = 2 ∨ i = 3 ∨ i = 4 := by omega
  rcases hc with rfl | rfl | rfl | rfl | rfl
  · exact (s_r0 w k o g0 s0 own full g s).trans (fin 0)
  · exact (s_r1 w k o g0 s0 own full g s).trans (fin 1)
  · exact (s_r2 w k o g0 s0 own full g s).trans (fin 2)
  · exact (s_r3 w k o g0 s0 own full g s).trans (fin 3)
  · exact (s_r4 w k o g0 s0 own full g s).trans (fin 4)
theorem s_end (w k o g0 s0 : Int) (own full : Bool) (x : Int × Int) : (sRound w k o g0 s0 own full 5 x).get = some (.exit 0, sSt w k o g0 s0 own full 5 x) := by kernel_rfl
def isBits (ts : List Int) : Bool := decide (ts = [1, 2, 8, 4, 128])
theorem isBits_eq {ts : List Int} (h : isBits ts = true) : ts = [1, 2, 8, 4, 128] := of_decide_eq_true h
def sLoop : LoopFn C6 := fun li => match li with
  | ⟨[.h 0, .raw (.int .i64 (.ofNat 5)), .raw (.int .i64 (.ofNat 0)), .raw (.int .u8 w), .h 1, .h 2, .raw (.bool false)], 3, [.sl own full 5 ts, .box [.raw (.int .i64 k0), .raw (.int .u64 o0), .raw (.int .u64 g0), .raw (.int .u8 s0)] 42, .box [.raw (.int .i64 k), .raw (.int .u64 o), .raw (.int .u64 g), .raw (.int .u8 s)] 42]⟩ =>
    .br (isBits ts && (decide (k0 = k) && decide (o0 = o))) (.br (rng64 o && rng64 g) (.leaf (.exit 0, sSt w k o g0 s0 own full 5 (fin8 k o w 5 0 (g, s)))) .fail) .fail
  | _ => .fail
theorem s_loop : loopOf Try.prog 7 0 = some (58, (loopOf Try.prog 7 0).get!.2) := by kernel_rfl
theorem sLoop_ok : ∀ tm hp n x, (loopS [19, 20, 21, 1, 2, 5, 4] [] sLoop tm hp n).get = some x → InLoop Try.prog 58 (loopOf Try.prog 7 0).get!.2 tm hp n fun e tm hp n => (e, tm, hp, n) = x := loopS_of fun li r h => by
  unfold sLoop at h
  split at h
  · rename_i w own full ts k0 o0 g0 s0 k o g s
    obtain ⟨h1, h⟩ := Tr.get_ask.1 h
    obtain ⟨hg, h2⟩ := Tr.get_ask.1 h
    simp only [Tr.get, Option.some.injEq] at h2
    subst h2
    simp only [Bool.and_eq_true, decide_eq_true_eq] at h1 hg
    obtain ⟨h1, rfl, rfl⟩ := h1
    have h1 : ts = bits5 := isBits_eq h1
    subst h1
    refine ⟨Keeps.of (Nat.le_refl 3) rfl (fun o ho => by cases ho), ?_⟩
    refine loop_li (σ := Nat × Int × Int) (st := fun x => sSt w k0 o0 g0 s0 own full (x.1 : Int) x.2) (Inv := fun x => x.1 ≤ 5 ∧ rng64 x.2.1 = true ∧ fin8 k0 o0 w (5 - x.1) x.1 x.2 = fin8 k0 o0 w 5 0 (g, s)) (μ := fun x => 5 - x.1) (d := 10) (unr := fun _ _ => 20) (sp := sf4) (ls := noLs) plain mixed sf4_ok noLs_ok s_loop (fun x hx => ?_) (0, g, s) ⟨Nat.zero_le 5, hg.2, rfl⟩
    obtain ⟨i, x⟩ := x
    obtain ⟨hi, hr, hf⟩ := hx
    by_cases h5 : i = 5
    · subst h5
      have : x = fin8 k0 o0 w 5 0 (g, s) := hf
      subst this
      exact ⟨_, s_end w k0 o0 g0 s0 own full _, nofun, fun _ => ⟨rfl, rfl⟩⟩
    · refine ⟨_, s_round w k0 o0 g0 s0 own full i (by omega) x hg.1 hr, fun _ => ⟨(i + 1, stP k0 o0 w i x), ⟨by omega, ?_, ?_⟩, by simp only; omega, rfl⟩, nofun⟩
      · show rng64 (stP k0 o0 w i x).1 = true
        unfold stP
        cases hb w (bitI i)
        · exact hr
        · exact rng_wrG hr
      · rw [← hf, show 5 - i = (5 - (i + 1)) + 1 by omega]
        rfl
  · cases h
def l7 : LoopT C6 := addL 7 0 (loopS [19, 20, 21, 1, 2, 5, 4] [] sLoop) noLs
theorem l7_ok : LoopTOk Try.prog l7 := addL_ok s_loop sLoop_ok noLs_ok
abbrev f6 := fnC C6 Try.prog sf4 l7 (fun g _ => match g with | 7 => 0 | _ => 20) 10
end
end Go.Proofs.Ytknkemjbikbhgaa
