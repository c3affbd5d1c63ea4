/-
  Chapter 7: the reference's best set, as a tree. Own work; nothing here is trusted.
-/
import Derived.Test.YtknkemjbikbhgaaCh07Init
namespace Go.Proofs.Ytknkemjbikbhgaa
open Go Go.Sx Go.RowKit
set_option maxRecDepth 1000000
set_option maxHeartbeats 8000000
set_option linter.unusedVariables false
set_option linter.unusedSimpArgs false
noncomputable section
abbrev f0 := fnC C6 Try.prog noSp noLs (fun _ _ => 20) 10
theorem allR_form (k : Int) : (f0 38 [.raw (.int .i64 k)] []).get =
  bro (k == 1) (some (.raw (.int .u64 1156165107747), [])) (bro (k == 2) (some (.raw (.int .u64 1156151538208), [])) (bro (k == 3) (some (.raw (.int .u64 1156151508999), [])) (some (.raw (.int .u64 0), [])))) := by kernel_rfl
theorem allRT_ok : ∀ args os r, (allT args os).get = some r → Fn0 Try.prog 38 args os r := fun args os r h => by
  unfold allT at h
  split at h
  · rename_i k
    refine fnC_ok (sp := noSp) (ls := noLs) (unr := fun _ _ => 20) (d := 10) plain mixed noSp_ok noLs_ok ?_
    rw [allR_form, ← h]
    unfold allI
    cases (k == 1) <;> cases (k == 2) <;> cases (k == 3) <;> rfl
  · cases h
def ndR (k b : Int) : Int := sel (k != 1) 0 (sel (b == 18) 131072 (sel (b == 19) 131072 (sel (b == 22) 131072 (sel (b == 23) 131104 0))))
def ndRT : FnF C6 := fun args os => match args, os with
  | [.raw (.int .i64 k), .raw (.int .i64 b)], [] => .leaf (.raw (.int .u64 (ndR k b)), [])
  | _, _ => .fail
theorem ndR_form (k b : Int) : (f0 61 [.raw (.int .i64 k), .raw (.int .i64 b)] []).get =
  bro (k != 1) (some (.raw (.int .u64 0), [])) (bro (b == 18) (some (.raw (.int .u64 131072), [])) (bro (b == 19) (some (.raw (.int .u64 131072), [])) (bro (b == 22) (some (.raw (.int .u64 131072), [])) (bro (b == 23) (some (.raw (.int .u64 131104), [])) (some (.raw (.int .u64 0), [])))))) := by kernel_rfl
theorem ndRT_ok : ∀ args os r, (ndRT args os).get = some r → Fn0 Try.prog 61 args os r := fun args os r h => by
  unfold ndRT at h
  split at h
  · rename_i k b
    refine fnC_ok (sp := noSp) (ls := noLs) (unr := fun _ _ => 20) (d := 10) plain mixed noSp_ok noLs_ok ?_
    refine (ndR_form k b).trans ?_
    rw [← h]
    unfold ndR
    cases (k != 1) <;> cases (b == 18) <;> cases (b == 19) <;> cases (b == 22) <;> cases (b == 23) <;> rfl
  · cases h
theorem shr_odd {x : Int} {b : Nat} (hx : 0 ≤ x ∧ x < 18446744073709551616) (hb : b ≤ 63) : ((shrV .u64 x ((b : Int) % 18446744073709551616)).tmod 2 == 1) = hasI x b := by
  have e1 : ((b : Int) % 18446744073709551616) = (b : Int) := by omega
  rw [e1]
  have h := shr_bit hx (b := (b : Int)) ⟨by omega, by omega⟩
  unfold hasI
  rw [show ((b : Int)).toNat = b from rfl] at h
  rw [← h]
  have hs : 0 ≤ shrV .u64 x (b : Int) := by
    unfold shrV
    exact Int.fdiv_nonneg hx.1 (Int.le_of_lt (Int.pow_pos (by decide)))
  obtain ⟨m, hm⟩ := Int.eq_ofNat_of_zero_le hs
  rw [hm]
  have e2 : bitsV .u64 .and (m : Int) 1 = ((m % 2 : Nat) : Int) := by
    rw [bAnd]
    unfold U V
    rw [BitVec.toNat_and]
    have e3 : (BitVec.ofInt 64 (m : Int)).toNat = m % 2 ^ 64 := by simp [BitVec.toNat_ofInt]
    have e4 : (BitVec.ofInt 64 1).toNat = 1 := rfl
    rw [e3, e4, Nat.and_one_is_mod]
    congr 1
    omega
  rw [e2]
  have e5 : (m : Int).tmod 2 = ((m % 2 : Nat) : Int) := by rw [Int.tmod_eq_emod_of_nonneg (by omega)]; omega
  rw [e5]
/-! 'rg' stands for rng64: as a variable, so nothing reckons it. -/
def hasRT (rg : Int → Bool) : FnF C6 := fun args os => match args, os with
  | [.raw (.int .u64 s), .raw (.int .i64 b)], [] => .br (rg s) (.br (decide (0 ≤ b ∧ b < 64)) (.leaf (.raw (.bool (hasI s b.toNat)), [])) .fail) .fail
  | _, _ => .fail
theorem hasR_form (s b : Int) : (f0 59 [.raw (.int .u64 s), .raw (.int .i64 b)] []).get =
  bro (decide (0 ≤ b)) (bro (decide (b < 64)) (bro (decide (b % 18446744073709551616 < 0)) none (some (.raw (.bool ((shrV .u64 s (b % 18446744073709551616)).tmod 2 == 1)), []))) (some (.raw (.bool false), []))) (some (.raw (.bool false), [])) := by kernel_rfl
theorem hasRT_ok {rg : Int → Bool} (hrg : rg = rng64) : ∀ args os r, (hasRT rg args os).get = some r → Fn0 Try.prog 59 args os r := fun args os r h => by
  subst hrg
  unfold hasRT at h
  split at h
  · rename_i s b
    obtain ⟨h1, h⟩ := Tr.get_ask.1 h
    obtain ⟨h2, h3⟩ := Tr.get_ask.1 h
    have h2 := of_decide_eq_true h2
    rw [rng64_iff] at h1
    refine fnC_ok (sp := noSp) (ls := noLs) (unr := fun _ _ => 20) (d := 10) plain mixed noSp_ok noLs_ok ?_
    refine (hasR_form s b).trans ?_
    have e := shr_odd (b := b.toNat) h1 (by omega)
    rw [show ((b.toNat : Nat) : Int) = b by omega] at e
    rw [← h3, decide_eq_true h2.1, decide_eq_true h2.2, decide_eq_false (show ¬ (b % 18446744073709551616 < 0) by omega), e]
    rfl
  · cases h
def sf7 (rg : Int → Bool) : SpecT C6 := addS 38 (viewS allT) (addS 61 (viewS ndRT) (addS 59 (viewS (hasRT rg)) noSp))
theorem sf7_ok {rg : Int → Bool} (hrg : rg = rng64) : SpecTOk Try.prog (sf7 rg) := addS_ok (viewS_ok allRT_ok) (addS_ok (viewS_ok ndRT_ok) (addS_ok (viewS_ok (hasRT_ok hrg)) noSp_ok))
abbrev bSlots : List Nat := [0, 8, 9, 10, 6, 7]
abbrev bSt (k it s b : Int) : List SV × List (SO C6) := ([.raw (.int .i64 k), .raw (.int .u64 s), .raw (.int .i64 it), .raw (.int .i64 b), .raw (.int .u64 0), .raw (.int .i64 0)], [])
abbrev bRound (rg : Int → Bool) (k it s b : Int) := roundG C6 Try.prog (sf7 rg) noLs (fun _ _ => 20) 10 32 2 bSlots ⟨(bSt k it s b).1, 0, (bSt k it s b).2⟩
def rbI (k b s : Int) : Int := sel (hasI s b.toNat && bitsV .u64 .andNot (ndR k b) s != 0) (bitsV .u64 .andNot s (shlV .u64 1 (b % 18446744073709551616))) s
abbrev bNx (k it s b : Int) : Option (Ex × List SV × List (SO C6)) := bro (inR64 (b + 1)) (some (.normal, bSt k it s (b + 1))) (some (.normal, bSt k it s (IntKind.i64.wrap (b + 1))))
theorem b_form (rg : Int → Bool) (k it s b : Int) : (bRound rg k it s b).get = bro (decide (b < 64)) (bro (rg s) (bro (decide (0 ≤ b ∧ b < 64)) (bro (hasI s b.toNat) (bro (bitsV .u64 .andNot (ndR k b) s != 0) (bro (decide (b % 18446744073709551616 < 0)) none
    (bNx k it (bitsV .u64 .andNot s (shlV .u64 1 (b % 18446744073709551616))) b)) (bNx k it s b)) (bNx k it s b)) none) none) (some (.exit 2, bSt k it s b)) := by kernel_rfl
theorem b_round (k it s : Int) {b : Int} (h : 0 ≤ b ∧ b < 64) (hs : rng64 s = true) : (bRound rng64 k it s b).get = some (.normal, bSt k it (rbI k b s) (b + 1)) := by
  rw [b_form, decide_eq_true h.2, decide_eq_true h, hs, decide_eq_false (show ¬ (b % 18446744073709551616 < 0) by omega)]
  unfold bNx rbI
  rw [inR64_mk (by omega)]
  cases hasI s b.toNat <;> cases (bitsV .u64 .andNot (ndR k b) s != 0) <;> rfl
theorem b_end (rg : Int → Bool) (k it s : Int) : (bRound rg k it s 64).get = some (.exit 2, bSt k it s 64) := by kernel_rfl
theorem rng_bits (op : BinOp) (x y : Int) : rng64 (bitsV .u64 op x y) = true := rng64_iff.2 (bR op x y)
theorem rng_rbI {k b s : Int} (h : rng64 s = true) : rng64 (rbI k b s) = true := by
  unfold rbI
  cases (hasI s b.toNat && bitsV .u64 .andNot (ndR k b) s != 0)
  · rw [sel_false]; exact h
  · rw [sel_true]; exact rng_bits _ _ _
def rbF (k : Int) : Nat → Nat → Int → Int
  | 0, _, s => s
  | f + 1, b, s => rbF k f (b + 1) (rbI k (b : Int) s)
/-- The number of bits, as a variable: so nothing reckons all of them. -/
def bLoop (rg : Int → Bool) (N : Nat) : LoopFn C6 := fun li => match li with
  | ⟨[.raw (.int .i64 k), .raw (.int .u64 s), .raw (.int .i64 it), .raw (.int .i64 (.ofNat 0)), .raw (.int .u64 (.ofNat 0)), .raw (.int .i64 (.ofNat 0))], 0, []⟩ => .br (rg s) (.leaf (.exit 2, bSt k it (rbF k N 0 s) 64)) .fail
  | _ => .fail
theorem b_loop : loopOf Try.prog 32 2 = some (53, (loopOf Try.prog 32 2).get!.2) := by kernel_rfl
theorem bLoop_ok {rg : Int → Bool} (hrg : rg = rng64) {N : Nat} (hN : N = 64) : ∀ tm hp n x, (loopS [0, 8, 9, 10, 6, 7] [] (bLoop rg N) tm hp n).get = some x → InLoop Try.prog 53 (loopOf Try.prog 32 2).get!.2 tm hp n fun e tm hp n => (e, tm, hp, n) = x := loopS_of fun li r h => by
  unfold bLoop at h
  split at h
  · rename_i k s it
    obtain ⟨hs, h2⟩ := Tr.get_ask.1 h
    simp only [Tr.get, Option.some.injEq] at h2
    subst h2
    subst hN
    subst hrg
    generalize hS : rbF k 64 0 s = S
    refine ⟨Keeps.of (Nat.le_refl 0) rfl (fun o ho => by cases ho), ?_⟩
    refine loop_li (σ := Nat × Int) (st := fun x => bSt k it x.2 (x.1 : Int)) (Inv := fun x => x.1 ≤ 64 ∧ rng64 x.2 = true ∧ rbF k (64 - x.1) x.1 x.2 = S) (μ := fun x => 64 - x.1) (d := 10) (unr := fun _ _ => 20) (sp := sf7 rng64) (ls := noLs) plain mixed (sf7_ok rfl) noLs_ok b_loop (fun x hx => ?_) (0, s) ⟨Nat.zero_le 64, hs, hS⟩
    obtain ⟨b, s'⟩ := x
    obtain ⟨hi, hr, hf⟩ := hx
    by_cases h5 : b = 64
    · subst h5
      have : s' = S := by rw [Nat.sub_self] at hf; exact hf
      subst this
      exact ⟨_, b_end rng64 k it _, nofun, fun _ => ⟨rfl, rfl⟩⟩
    · simp only at hi hr hf
      refine ⟨_, b_round k it s' (b := (b : Int)) (by omega) hr, fun _ => ⟨(b + 1, rbI k (b : Int) s'), ⟨by omega, rng_rbI hr, ?_⟩, by simp only; omega, rfl⟩, nofun⟩
      rw [← hf, show 64 - b = (64 - (b + 1)) + 1 by omega]
      rfl
  · cases h
def l32 (rg : Int → Bool) (N : Nat) : LoopT C6 := addL 32 2 (loopS [0, 8, 9, 10, 6, 7] [] (bLoop rg N)) noLs
theorem l32_ok {rg : Int → Bool} (hrg : rg = rng64) {N : Nat} (hN : N = 64) : LoopTOk Try.prog (l32 rg N) := addL_ok b_loop (bLoop_ok hrg hN) noLs_ok
abbrev f8 (rg : Int → Bool) (N : Nat) := fnC C6 Try.prog (sf7 rg) (l32 rg N) (fun g b => match g, b with | 32, 2 => 0 | _, _ => 20) 10
end
end Go.Proofs.Ytknkemjbikbhgaa
