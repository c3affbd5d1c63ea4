/-
  Chapter 7: StatusGoes, the reference's Accept where the program accepts. Own work; nothing here is trusted.
-/
import Derived.Test.YtknkemjbikbhgaaCh07Inits
namespace Go.Proofs.Ytknkemjbikbhgaa
open Go Go.Sx Go.RowKit
set_option maxRecDepth 1000000
set_option maxHeartbeats 8000000
set_option linter.unusedVariables false
set_option linter.unusedSimpArgs false
noncomputable section
abbrev nSlots : List Nat := [0, 1, 5, 6, 4]
abbrev nSt (k g s b : Int) : List SV × List (SO C6) := ([.raw (.int .i64 k), .raw (.int .u64 g), .raw (.int .u64 s), .raw (.int .i64 b), .raw (.int .u64 0)], [])
abbrev nRound (rg : Int → Bool) (k g s b : Int) := roundG C6 Try.prog (sf7 rg) noLs (fun _ _ => 20) 10 78 0 nSlots ⟨(nSt k g s b).1, 0, (nSt k g s b).2⟩
def ndS (k g b s : Int) : Int := sel (hasI g b.toNat) (bitsV .u64 .or s (ndR k b)) s
abbrev nNx (k g s b : Int) : Option (Ex × List SV × List (SO C6)) := bro (inR64 (b + 1)) (some (.normal, nSt k g s (b + 1))) (some (.normal, nSt k g s (IntKind.i64.wrap (b + 1))))
theorem n_form (rg : Int → Bool) (k g s b : Int) : (nRound rg k g s b).get = bro (decide (b < 64)) (bro (rg g) (bro (decide (0 ≤ b ∧ b < 64)) (bro (hasI g b.toNat) (nNx k g (bitsV .u64 .or s (ndR k b)) b) (nNx k g s b)) none) none) (some (.exit 0, nSt k g s b)) := by kernel_rfl
theorem n_round (k g s : Int) {b : Int} (h : 0 ≤ b ∧ b < 64) (hs : rng64 g = true) : (nRound rng64 k g s b).get = some (.normal, nSt k g (ndS k g b s) (b + 1)) := by
  rw [n_form, decide_eq_true h.2, decide_eq_true h, hs]
  unfold nNx ndS
  rw [inR64_mk (by omega)]
  cases hasI g b.toNat <;> rfl
theorem n_end (rg : Int → Bool) (k g s : Int) : (nRound rg k g s 64).get = some (.exit 0, nSt k g s 64) := by kernel_rfl
def nF (k g : Int) : Nat → Nat → Int → Int
  | 0, _, s => s
  | f + 1, b, s => nF k g f (b + 1) (ndS k g (b : Int) s)
def nLoop (rg : Int → Bool) (N : Nat) : LoopFn C6 := fun li => match li with
  | ⟨[.raw (.int .i64 k), .raw (.int .u64 g), .raw (.int .u64 s), .raw (.int .i64 (.ofNat 0)), .raw (.int .u64 (.ofNat 0))], 0, []⟩ => .br (rg g) (.leaf (.exit 0, nSt k g (nF k g N 0 s) 64)) .fail
  | _ => .fail
theorem n_loop : loopOf Try.prog 78 0 = some (28, (loopOf Try.prog 78 0).get!.2) := by kernel_rfl
theorem nLoop_ok {rg : Int → Bool} (hrg : rg = rng64) {N : Nat} (hN : N = 64) : ∀ tm hp n x, (loopS [0, 1, 5, 6, 4] [] (nLoop rg N) tm hp n).get = some x → InLoop Try.prog 28 (loopOf Try.prog 78 0).get!.2 tm hp n fun e tm hp n => (e, tm, hp, n) = x := loopS_of fun li r h => by
  unfold nLoop at h
  split at h
  · rename_i k g s
    obtain ⟨hs, h2⟩ := Tr.get_ask.1 h
    simp only [Tr.get, Option.some.injEq] at h2
    subst h2
    subst hN
    subst hrg
    generalize hS : nF k g 64 0 s = S
    refine ⟨Keeps.of (Nat.le_refl 0) rfl (fun o ho => by cases ho), ?_⟩
    refine loop_li (σ := Nat × Int) (st := fun x => nSt k g x.2 (x.1 : Int)) (Inv := fun x => x.1 ≤ 64 ∧ nF k g (64 - x.1) x.1 x.2 = S) (μ := fun x => 64 - x.1) (d := 10) (unr := fun _ _ => 20) (sp := sf7 rng64) (ls := noLs) plain mixed (sf7_ok rfl) noLs_ok n_loop (fun x hx => ?_) (0, s) ⟨Nat.zero_le 64, hS⟩
    obtain ⟨b, s'⟩ := x
    obtain ⟨hi, hf⟩ := hx
    by_cases h5 : b = 64
    · subst h5
      have : s' = S := by rw [Nat.sub_self] at hf; exact hf
      subst this
      exact ⟨_, n_end rng64 k g _, nofun, fun _ => ⟨rfl, rfl⟩⟩
    · simp only at hi hf
      refine ⟨_, n_round k g s' (b := (b : Int)) (by omega) hs, fun _ => ⟨(b + 1, ndS k g (b : Int) s'), ⟨by omega, ?_⟩, by simp only; omega, rfl⟩, nofun⟩
      rw [← hf, show 64 - b = (64 - (b + 1)) + 1 by omega]
      rfl
  · cases h
def l78 (rg : Int → Bool) (N : Nat) : LoopT C6 := addL 78 0 (loopS [0, 1, 5, 6, 4] [] (nLoop rg N)) noLs
theorem l78_ok {rg : Int → Bool} (hrg : rg = rng64) {N : Nat} (hN : N = 64) : LoopTOk Try.prog (l78 rg N) := addL_ok n_loop (nLoop_ok hrg hN) noLs_ok
abbrev f39 (rg : Int → Bool) (N : Nat) := fnC C6 Try.prog (sf7 rg) (l78 rg N) (fun g b => match g, b with | 78, 0 => 0 | _, _ => 20) 10
/-! ### the law -/
theorem cl_of {k : Nat} {v : BitVec 64} (h : ndB k v = 0#64) : Cl k v := by
  have := nd_closed k v
  rw [h, BitVec.or_zero] at this
  exact this
theorem ndS_sub {g b s : Int} (h1 : (V (ndR 1 b)) &&& ~~~ (V g) = 0#64 ∨ hasI g b.toNat = false) (h2 : V s &&& ~~~ (V g) = 0#64) : V (ndS 1 g b s) &&& ~~~ (V g) = 0#64 := by
  unfold ndS
  cases hb : hasI g b.toNat with
  | false => exact h2
  | true =>
    rw [sel_true, bOr, VU]
    rcases h1 with h1 | h1
    · apply BitVec.eq_of_getLsbD_eq
      intro i hi
      have e1 := congrArg (fun x => x.getLsbD i) h1
      have e2 := congrArg (fun x => x.getLsbD i) h2
      simp only [BitVec.getLsbD_and, BitVec.getLsbD_or, BitVec.getLsbD_zero] at e1 e2 ⊢
      generalize (V s).getLsbD i = p at *
      generalize (V (ndR 1 b)).getLsbD i = q at *
      generalize (~~~ V g).getLsbD i = r at *
      cases p <;> cases q <;> cases r <;> simp_all
    · rw [h1] at hb; cases hb
theorem zero_and (v : BitVec 64) : V 0 &&& ~~~ v = 0#64 := by rw [show V 0 = 0#64 from rfl, BitVec.zero_and]
theorem ndR_sub {g : Int} (h : Cl 1 (V g)) (b : Nat) : (V (ndR 1 (b : Int))) &&& ~~~ (V g) = 0#64 ∨ hasI g ((b : Int)).toNat = false := by
  cases hb : hasI g ((b : Int)).toNat with
  | false => exact .inr rfl
  | true =>
    left
    have hb : (V g).getLsbD b = true := hb
    by_cases e : b = 18 ∨ b = 19 ∨ b = 22
    · have e1 : ndR 1 (b : Int) = 131072 := by rcases e with rfl | rfl | rfl <;> rfl
      have e2 : (V g).getLsbD 17 = true := by
        rcases e with rfl | rfl | rfl
        · exact h.c18 rfl hb
        · exact h.c19 rfl hb
        · exact h.c22 rfl hb
      rw [e1]
      exact beq_iff_eq.1 ((m17 (V g)).trans e2)
    · by_cases e3 : b = 23
      · subst e3
        rw [show ndR 1 ((23 : Nat) : Int) = 131104 from rfl]
        refine beq_iff_eq.1 ((m175 (V g)).trans ?_)
        rw [h.c23 rfl hb, h.c5 rfl hb]; rfl
      · rw [ndR_zero (by omega)]; exact zero_and _
theorem nF_sub {k : Nat} {g : Int} (hk : k = 1 ∨ k = 2 ∨ k = 3) (h : Cl k (V g)) : ∀ (f b : Nat) {s : Int}, V s &&& ~~~ (V g) = 0#64 → V (nF (k : Int) g f b s) &&& ~~~ (V g) = 0#64
  | 0, _, _, hs => hs
  | f + 1, b, s, hs => by
    refine nF_sub hk h f (b + 1) ?_
    by_cases e : k = 1
    · subst e
      exact ndS_sub (ndR_sub h b) hs
    · have : ndR (k : Int) (b : Int) = 0 := ndR_ne (by omega)
      unfold ndS
      rw [this]
      cases hasI g ((b : Int)).toNat
      · exact hs
      · rw [sel_true, bOr, VU, show V 0 = 0#64 from rfl, BitVec.or_zero]; exact hs
theorem need_ok {k : Nat} {g : Int} (hk : k = 1 ∨ k = 2 ∨ k = 3) (h : Cl k (V g)) : bitsV .u64 .andNot (nF (k : Int) g 64 0 4294967296) g = 0 := by
  rw [bNot, U_zero]
  refine nF_sub hk h 64 0 ?_
  rw [v32]
  exact bit_off (by omega) h.c32
def acT4 : FnF C6 := fun args os => match args, os with
  | [.raw (.int .i64 k), .raw (.int .u64 o), .raw (.int .u64 g)], [] => .br (rng64 g && acI k o g) (.leaf (.raw (.bool true), [])) .fail
  | _, _ => .fail
theorem ac_path (rg : Int → Bool) (N : Nat) (k o g : Int) : Tr.follow [true, true, true, true, true, true, true, true, true, true, true, true, true, false, true, true, true, false, true, false, true, true, true, true, true, true] (f39 rg N 39 [.raw (.int .i64 k), .raw (.int .u64 o), .raw (.int .u64 g)] []) = some ([allI k != 0, true, true, true, true, bitsV .u64 .andNot g (allI k) == 0, true, true, allI k != 0, true, true, true, true, !bitsV .u64 .andNot g (allI k) == 0, true, true, true, false, true, false, rg g, true, bitsV .u64 .andNot (nF k g N 0 4294967296) g == 0, true, true, true],
  (.raw (.bool (bitsV .u64 .andNot g o == 0)), [])) := by kernel_rfl
theorem acT4_ok : ∀ args os r, (acT4 args os).get = some r → Fn0 Try.prog 39 args os r := fun args os r h => by
  unfold acT4 at h
  split at h
  · rename_i k o g
    obtain ⟨h1, h2⟩ := Tr.get_ask.1 h
    simp only [Tr.get, Option.some.injEq] at h2
    subst h2
    rw [Bool.and_eq_true] at h1
    obtain ⟨hg, ha⟩ := h1
    unfold acI at ha
    simp only [Bool.and_eq_true, beq_iff_eq] at ha
    obtain ⟨hk, hn, ho⟩ := ha
    obtain ⟨j, hj, rfl, hall⟩ := knI_cases hk
    have ea := allI_kd hj
    have hc : Cl j (V g) := cl_of (by have := U_zero.1 hn; exact this)
    have en := need_ok hj hc
    obtain ⟨rg, hrg⟩ : ∃ rg : Int → Bool, rg = rng64 := ⟨_, rfl⟩
    obtain ⟨N, hN⟩ : ∃ N : Nat, N = 64 := ⟨_, rfl⟩
    refine fnC_ok (sp := sf7 rg) (ls := l78 rg N) (unr := fun g b => match g, b with | 78, 0 => 0 | _, _ => 20) (d := 10) plain mixed (sf7_ok hrg) (l78_ok hrg hN) ?_
    have hp := ac_path rg N (j : Int) o g
    subst hN
    subst hrg
    rw [ea.1, hall, hg, en, ho, show (allOf j != 0) = true by rw [← ea.1]; simpa using ea.2] at hp
    exact Tr.follow_get hp rfl
  · cases h
end
end Go.Proofs.Ytknkemjbikbhgaa
