/-
  Chapter 11: the search for a token. Own work; nothing here is trusted.
-/
import Derived.Test.YtiaboemkgpkcpaaCh11Chk
namespace Go.Proofs.Ytiaboemkgpkcpaa
open Go Go.Sx Go.RowKit
set_option maxRecDepth 1000000
set_option maxHeartbeats 8000000
set_option linter.unusedVariables false
set_option linter.unusedSimpArgs false
noncomputable section
def bsN (ts : List Int) (x : Int) : Nat → Nat → Nat → Nat
  | 0, i, _ => i
  | f + 1, i, j => if i < j then (if ts.getD ((i + j) / 2) 0 < x then bsN ts x f ((i + j) / 2 + 1) j else bsN ts x f i ((i + j) / 2)) else i
theorem hI_eq {i j : Nat} (hi : i ≤ 100000) (hj : j ≤ 100000) : hI (i : Int) (j : Int) = (((i + j) / 2 : Nat) : Int) := by
  show Int.fdiv (((i : Int) + (j : Int)) % 18446744073709551616) (2 ^ 1) = _
  rw [Int.fdiv_eq_ediv_of_nonneg _ (by decide)]
  omega
def bsI (ts : List Int) (x : Int) : Nat := bsN ts x (ts.length + 1) 0 ts.length
theorem bsN_le (ts : List Int) (x : Int) : ∀ (f i j : Nat), i ≤ j → i ≤ bsN ts x f i j ∧ bsN ts x f i j ≤ j
  | 0, i, j, h => ⟨Nat.le_refl _, h⟩
  | f + 1, i, j, h => by
    unfold bsN
    split
    · split
      · have := bsN_le ts x f ((i + j) / 2 + 1) j (by omega); omega
      · have := bsN_le ts x f i ((i + j) / 2) (by omega); omega
    · omega
theorem bsI_le (ts : List Int) (x : Int) : bsI ts x ≤ ts.length := (bsN_le ts x _ 0 _ (Nat.zero_le _)).2
/-- Where the list is in order, it is the first place that does not stand ahead. -/
theorem bsN_spec (ts : List Int) (x : Int) : ∀ (f i j : Nat), i ≤ j → j ≤ ts.length → j - i < f → (∀ k l, k ≤ l → l < ts.length → ts.getD k 0 ≤ ts.getD l 0) → (∀ k, k < i → ts.getD k 0 < x) → (∀ k, j ≤ k → k < ts.length → x ≤ ts.getD k 0) →
    (∀ k, k < bsN ts x f i j → ts.getD k 0 < x) ∧ ∀ k, bsN ts x f i j ≤ k → k < ts.length → x ≤ ts.getD k 0
  | 0, i, j, h1, h2, h3, _, _, _ => by omega
  | f + 1, i, j, h1, h2, h3, hs, ha, hb => by
    unfold bsN
    split
    · rename_i hij
      split
      · rename_i hlt
        refine bsN_spec ts x f ((i + j) / 2 + 1) j (by omega) h2 (by omega) hs (fun k hk => ?_) hb
        have := hs k ((i + j) / 2) (by omega) (by omega)
        omega
      · rename_i hlt
        refine bsN_spec ts x f i ((i + j) / 2) (by omega) (by omega) (by omega) hs ha (fun k hk hl => ?_)
        have := hs ((i + j) / 2) k hk hl
        omega
    · have : i = j := by omega
      subst this
      exact ⟨ha, hb⟩

section
variable {ts : List Int} {x : Int}
theorem getD_get {ts : List Int} {k : Nat} (h : k < ts.length) : ts.getD k 0 = ts[k] := by
  rw [List.getD_eq_getElem?_getD, List.getElem?_eq_getElem h]; rfl
theorem bs_mono (h : ts.Pairwise (· < ·)) : ∀ k l, k ≤ l → l < ts.length → ts.getD k 0 ≤ ts.getD l 0 := fun k l hkl hl => by
  rw [getD_get hl, getD_get (show k < ts.length by omega)]
  rcases Nat.lt_or_ge k l with h1 | h1
  · have := List.pairwise_iff_getElem.1 h k l (by omega) hl h1; omega
  · obtain rfl : k = l := by omega
    exact Int.le_refl _
theorem bs_at (h : ts.Pairwise (· < ·)) : (∀ k, k < bsI ts x → ts.getD k 0 < x) ∧ ∀ k, bsI ts x ≤ k → k < ts.length → x ≤ ts.getD k 0 :=
  bsN_spec ts x _ 0 _ (Nat.zero_le _) (Nat.le_refl _) (by omega) (bs_mono h) (fun k hk => absurd hk (Nat.not_lt_zero _)) (fun k h1 h2 => by omega)
theorem in_take (h : ts.Pairwise (· < ·)) {y : Int} (hy : y ∈ ts.take (bsI ts x)) : y < x := by
  obtain ⟨k, hk, rfl⟩ := List.getElem_of_mem hy
  rw [List.length_take] at hk
  have := (bs_at (x := x) h).1 k (by omega)
  rw [getD_get (show k < ts.length by omega)] at this
  rw [List.getElem_take]
  exact this
theorem in_drop (h : ts.Pairwise (· < ·)) {y : Int} (hy : y ∈ ts.drop (bsI ts x)) : x ≤ y := by
  obtain ⟨k, hk, rfl⟩ := List.getElem_of_mem hy
  rw [List.length_drop] at hk
  have := (bs_at (x := x) h).2 (bsI ts x + k) (by omega) (by omega)
  rw [getD_get (show bsI ts x + k < ts.length by omega)] at this
  rw [List.getElem_drop]
  exact this
end
/-- The tokens of a list. -/
def keys (ts : List Tk) : List Int := ts.map (·.1)
theorem keys_len (ts : List Tk) : (keys ts).length = ts.length := List.length_map ..
theorem keys_get (ts : List Tk) (k : Nat) : (keys ts).getD k 0 = (ts.getD k tk0).1 := by
  unfold keys
  rw [List.getD_eq_getElem?_getD, List.getElem?_map, List.getD_eq_getElem?_getD]
  cases ts[k]? <;> rfl
theorem f_round {v : Lo Tk} {x : Int} {i j : Nat} (hij : i < j) (hj : j ≤ (lo v).length) (hl : (lo v).length ≤ 100000) : (fRound v x (i : Int) (j : Int)).get =
    bro (decide ((keys (lo v)).getD ((i + j) / 2) 0 < x)) (some (.normal, fSt v x (((i + j) / 2 + 1 : Nat) : Int) (j : Int))) (some (.normal, fSt v x (i : Int) (((i + j) / 2 : Nat) : Int))) := by
  cases v with
  | none => exact absurd hij (by have : j ≤ 0 := hj; omega)
  | some y =>
  obtain ⟨a, b, ts⟩ := y
  change j ≤ ts.length at hj
  change ts.length ≤ 100000 at hl
  have hh := hI_eq (i := i) (j := j) (by omega) (by omega)
  rw [f_tree, hh, keys_get]
  have k1 := decide_eq_true (show (i : Int) < (j : Int) by omega)
  have k2 : inR64 ((i : Int) + (j : Int)) = true := inR64_mk (by omega)
  have k3 : inR64 (((i + j) / 2 : Nat) : Int) = true := inR64_mk (by omega)
  have k4 : Sx.inB (((i + j) / 2 : Nat) : Int) ts.length = true := inB_mk ⟨by omega, by omega⟩
  have k5 : decide ((((i + j) / 2 : Nat) : Int).toNat < ts.length) = true := decide_eq_true (by omega)
  have e : (((i + j) / 2 : Nat) : Int).toNat = (i + j) / 2 := rfl
  have k8 : decide ((i + j) / 2 < ts.length) = true := decide_eq_true (by omega)
  have k7 : inR64 ((((i + j) / 2 : Nat) : Int) + 1) = true := inR64_mk (by omega)
  simp only [e, k1, k2, k3, k4, k5, k7, k8, bro_true, bne_self_eq_false, bro_false]
  show _ = bro (decide ((ts.getD ((i + j) / 2) tk0).1 < x)) _ _
  cases decide ((ts.getD ((i + j) / 2) tk0).1 < x) with
  | true => rfl
  | false => cases decide (x < (ts.getD ((i + j) / 2) tk0).1) <;> rfl
theorem f_end (v : Lo Tk) (x : Int) (i : Nat) : (fRound v x (i : Int) (i : Int)).get = some (.exit 0, fSt v x (i : Int) (i : Int)) := by
  have h : Tr.follow [false] (fRound v x (i : Int) (i : Int)) = some ([decide ((i : Int) < (i : Int))], (.exit 0, fSt v x (i : Int) (i : Int))) := by cases v <;> kernel_rfl
  exact Tr.follow_get h (by rw [decide_eq_false (Int.lt_irrefl _)])
theorem f_loop : loopOf Try.prog 23 0 = some (((loopOf Try.prog 23 0).get!).1, (loopOf Try.prog 23 0).get!.2) := by kernel_rfl
theorem f_run {v : Lo Tk} (hv : (lo v).length ≤ 100000) {x : Int} {R : Nat} (hR : bsI (keys (lo v)) x = R) :
    LoopRun Try.prog ((loopOf Try.prog 23 0).get!).1 (loopOf Try.prog 23 0).get!.2 (nx v 0) (LI.st fSl ⟨(fSt v x (((0 : Nat) : Int)) ((lo v).length : Int)).1, nx v 0, (fSt v x (((0 : Nat) : Int)) ((lo v).length : Int)).2⟩) fun e T => ∃ vs os, (e = .exit 0 ∧ (vs, os) = fSt v x (R : Int) (R : Int)) ∧ T = ⟨zipT fSl vs, numH 0 os, os.length⟩ := by
  refine loop_li (σ := Nat × Nat) (st := fun y => fSt v x (y.1 : Int) (y.2 : Int)) (Inv := fun y => y.1 ≤ y.2 ∧ y.2 ≤ (lo v).length ∧ ∃ f, y.2 - y.1 < f ∧ bsN (keys (lo v)) x f y.1 y.2 = R) (μ := fun y => y.2 - y.1) (d := 10) (unr := fun _ _ => 20) (sp := noSp) (ls := noLs) plain mixed noSp_ok noLs_ok f_loop (fun y hy => ?_) (0, (lo v).length) ⟨Nat.zero_le _, Nat.le_refl _, (keys (lo v)).length + 1, by rw [keys_len]; simp only; omega, by rw [← hR]; show bsN _ x _ 0 (lo v).length = bsN _ x _ 0 (keys (lo v)).length; rw [keys_len]⟩
  obtain ⟨i, j⟩ := y
  obtain ⟨h1, h2, f, h3, h4⟩ := hy
  simp only at h1 h2 h3 h4
  by_cases hij : i < j
  · have hr := f_round (x := x) hij h2 hv
    obtain ⟨f', rfl⟩ : ∃ f', f = f' + 1 := ⟨f - 1, by omega⟩
    unfold bsN at h4
    rw [if_pos hij] at h4
    by_cases hlt : (keys (lo v)).getD ((i + j) / 2) 0 < x
    · rw [if_pos hlt] at h4
      rw [decide_eq_true hlt, bro_true] at hr
      exact ⟨_, hr, fun _ => ⟨((i + j) / 2 + 1, j), ⟨by simp only; omega, h2, f', by simp only; omega, h4⟩, by simp only; omega, rfl⟩, nofun⟩
    · rw [if_neg hlt] at h4
      rw [decide_eq_false hlt, bro_false] at hr
      exact ⟨_, hr, fun _ => ⟨(i, (i + j) / 2), ⟨by simp only; omega, by simp only; omega, f', by simp only; omega, h4⟩, by simp only; omega, rfl⟩, nofun⟩
  · have hij2 : i = j := by omega
    subst hij2
    have hi : i = R := by
      rw [← h4]
      cases f with
      | zero => rfl
      | succ f => unfold bsN; rw [if_neg (Nat.lt_irrefl _)]
    subst hi
    exact ⟨_, f_end v x i, nofun, fun _ => ⟨rfl, rfl⟩⟩
def fLoop : LoopFn C11 := fun li => match li with
  | ⟨[s, .raw (.int .i64 x), .raw (.func (.func 24) ⟨[]⟩ ⟨[]⟩), .raw (.int .i64 n), .raw (.int .i64 (.ofNat 0)), .raw (.int .i64 n2)], nb, os⟩ => match decT s 0 os with
    | some (v, []) => match Nat.beq nb (nx v 0) with
      | true => .br (n == ((lo v).length : Int)) (.br (n2 == ((lo v).length : Int)) (.br (decide ((lo v).length ≤ 100000)) (.leaf (.exit 0, fSt v x (bsI (keys (lo v)) x : Int) (bsI (keys (lo v)) x : Int))) .fail) .fail) .fail
      | false => .fail
    | _ => .fail
  | _ => .fail
theorem fLoop_ok : ∀ tm hp n x, (loopS fSl [] fLoop tm hp n).get = some x → InLoop Try.prog ((loopOf Try.prog 23 0).get!).1 (loopOf Try.prog 23 0).get!.2 tm hp n fun e tm hp n => (e, tm, hp, n) = x := loopS_of fun li r h => by
  unfold fLoop at h
  split at h
  · rename_i s x n n2 nb os
    split at h
    · rename_i v h1
      split at h
      · rename_i hnb
        obtain ⟨rfl, rfl⟩ := decT_eq h1
        have hnb := Nat.eq_of_beq_eq_true hnb
        subst hnb
        clear h1
        obtain ⟨hn0, hB⟩ := Tr.get_ask.1 h
        obtain ⟨hn1, hC⟩ := Tr.get_ask.1 hB
        obtain ⟨hl, hD⟩ := Tr.get_ask.1 hC
        clear h hB hC
        have hn0 := eq_of_beq hn0
        have hn1 := eq_of_beq hn1
        subst hn0 hn1
        have hl : (lo v).length ≤ 100000 := of_decide_eq_true hl
        have hD : some (Ex.exit 0, fSt v x (bsI (keys (lo v)) x : Int) (bsI (keys (lo v)) x : Int)) = some r := hD
        cases hD
        have e1 : Sx.LI.mk [hS v 0, .raw (.int .i64 x), .raw (.func (.func 24) #[] #[]), .raw (.int .i64 ((lo v).length : Int)), .raw (.int .i64 (.ofNat 0)), .raw (.int .i64 ((lo v).length : Int))] (nx v 0) (obT v ++ []) = ⟨(fSt v x (((0 : Nat) : Int)) ((lo v).length : Int)).1, nx v 0, (fSt v x (((0 : Nat) : Int)) ((lo v).length : Int)).2⟩ := by
          rw [List.append_nil]; rfl
        rw [e1]
        exact ⟨keeps_same (by cases v <;> rfl), f_run hl rfl⟩
      · cases h
    · cases h
  · cases h
def lsB : LoopT C11 := Sx.addL 9 0 (loopS cSl [] cLoop) (Sx.addL 17 0 (loopS eSl [] eLoop) (Sx.addL 23 0 (loopS fSl [] fLoop) noLs))
theorem lsB_ok : LoopTOk Try.prog lsB := addL_ok c_loop cLoop_ok (addL_ok e_loop eLoop_ok (addL_ok f_loop fLoop_ok noLs_ok))
abbrev unB (g b : Nat) : Nat := match g, b with
  | 9, 0 => 0 | 17, 0 => 0 | 23, 0 => 0 | _, _ => 20
abbrev fF (g : Nat) (args : List SV) (os : List (SO C11)) := fnC C11 Try.prog noSp lsB unB 10 g args os
end
end Go.Proofs.Ytiaboemkgpkcpaa
