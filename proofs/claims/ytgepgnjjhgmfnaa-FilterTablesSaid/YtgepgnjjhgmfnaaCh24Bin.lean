/-
  Chapter 24: BinarySearch's loop. Own work; nothing here is trusted.
-/
import Derived.Test.YtgepgnjjhgmfnaaCh24Bin0
namespace Go.Proofs.Ytgepgnjjhgmfnaa
open Go Go.Sx Go.RowKit
set_option maxRecDepth 1000000
set_option maxHeartbeats 8000000
set_option linter.unusedVariables false
set_option linter.unusedSimpArgs false
noncomputable section

theorem bn_end (a b : Bool) (ts : List Int) (x i j : Int) : Tr.follow [false] (bRound (some (a, b, ts)) x i j) =
  some ([decide (i < j)],
  (.exit 0, bSt (some (a, b, ts)) x i j)) := by kernel_rfl
theorem bn_lt (a b : Bool) (ts : List Int) (x i j : Int) : Tr.follow [true, true, false, true, true, true, false, false, false, false, false, false, false, true, true] (bRound (some (a, b, ts)) x i j) =
  some ([decide (i < j),
  inR64 (i + j),
  false,
  inR64 (hI i j),
  inB (hI i j) ts.length,
  decide ((hI i j).toNat < ts.length),
  elI ts (hI i j) != elI ts (hI i j),
  false,
  false,
  false,
  false,
  false,
  false,
  decide (elI ts (hI i j) < x),
  inR64 (hI i j + (1 : Int))],
  (.normal, bSt (some (a, b, ts)) x (hI i j + 1) j)) := by kernel_rfl
theorem bn_ge (a b : Bool) (ts : List Int) (x i j : Int) : Tr.follow [true, true, false, true, true, true, false, false, false, false, false, false, false, false] (bRound (some (a, b, ts)) x i j) =
  some ([decide (i < j),
  inR64 (i + j),
  false,
  inR64 (hI i j),
  inB (hI i j) ts.length,
  decide ((hI i j).toNat < ts.length),
  elI ts (hI i j) != elI ts (hI i j),
  false,
  false,
  false,
  false,
  false,
  false,
  decide (elI ts (hI i j) < x)],
  (.normal, bSt (some (a, b, ts)) x i (hI i j))) := by kernel_rfl

theorem bn_endN (x i j : Int) (h : decide (i < j) = false) : (bRound none x i j).get = some (.exit 0, bSt none x i j) := by
  have h2 : Tr.follow [false] (bRound none x i j) = some ([decide (i < j)], (.exit 0, bSt none x i j)) := by kernel_rfl
  exact Tr.follow_get h2 (by rw [h])
def bsN (ts : List Int) (x : Int) : Nat → Nat → Nat → Nat
  | 0, i, _ => i
  | f + 1, i, j => if i < j then (if ts.getD ((i + j) / 2) 0 < x then bsN ts x f ((i + j) / 2 + 1) j else bsN ts x f i ((i + j) / 2)) else i
theorem hI_eq {i j : Nat} (hi : i ≤ 100000) (hj : j ≤ 100000) : hI (i : Int) (j : Int) = (((i + j) / 2 : Nat) : Int) := by
  show Int.fdiv (((i : Int) + (j : Int)) % 18446744073709551616) (2 ^ 1) = _
  rw [Int.fdiv_eq_ediv_of_nonneg _ (by decide)]
  omega
def bsI (ts : List Int) (x : Int) : Nat := bsN ts x (ts.length + 1) 0 ts.length
theorem bsN_le (ts : List Int) (x : Int) : ∀ (f i j : Nat), i ≤ j → i ≤ bsN ts x f i j ∧ bsN ts x f i j ≤ j
  | 0, i, j, h => ⟨Nat.le_refl _, h⟩
  | f + 1, i, j, h => by
    unfold bsN
    split
    · split
      · have := bsN_le ts x f ((i + j) / 2 + 1) j (by omega); omega
      · have := bsN_le ts x f i ((i + j) / 2) (by omega); omega
    · omega
theorem bsI_le (ts : List Int) (x : Int) : bsI ts x ≤ ts.length := (bsN_le ts x _ 0 _ (Nat.zero_le _)).2
/-- Where the list is in order, it is the first place that does not stand ahead. -/
theorem bsN_spec (ts : List Int) (x : Int) : ∀ (f i j : Nat), i ≤ j → j ≤ ts.length → j - i < f → (∀ k l, k ≤ l → l < ts.length → ts.getD k 0 ≤ ts.getD l 0) → (∀ k, k < i → ts.getD k 0 < x) → (∀ k, j ≤ k → k < ts.length → x ≤ ts.getD k 0) →
    (∀ k, k < bsN ts x f i j → ts.getD k 0 < x) ∧ ∀ k, bsN ts x f i j ≤ k → k < ts.length → x ≤ ts.getD k 0
  | 0, i, j, h1, h2, h3, _, _, _ => by omega
  | f + 1, i, j, h1, h2, h3, hs, ha, hb => by
    unfold bsN
    split
    · rename_i hij
      split
      · rename_i hlt
        refine bsN_spec ts x f ((i + j) / 2 + 1) j (by omega) h2 (by omega) hs (fun k hk => ?_) hb
        have := hs k ((i + j) / 2) (by omega) (by omega)
        omega
      · rename_i hlt
        refine bsN_spec ts x f i ((i + j) / 2) (by omega) (by omega) (by omega) hs ha (fun k hk hl => ?_)
        have := hs ((i + j) / 2) k hk hl
        omega
    · have : i = j := by omega
      subst this
      exact ⟨ha, hb⟩
theorem b_loop : loopOf Try.prog 60 0 = some (((loopOf Try.prog 60 0).get!).1, (loopOf Try.prog 60 0).get!.2) := by kernel_rfl
theorem b_run {v : Lo Int} (hv : (lo v).length ≤ 100000) {x : Int} {R : Nat} (hR : bsI (lo v) x = R) :
    LoopRun Try.prog ((loopOf Try.prog 60 0).get!).1 (loopOf Try.prog 60 0).get!.2 (nx v 0) (LI.st [0, 1, 7, 8, 6] ⟨(bSt v x (((0 : Nat) : Int)) ((lo v).length : Int)).1, nx v 0, (bSt v x (((0 : Nat) : Int)) ((lo v).length : Int)).2⟩) fun e T => ∃ vs os, (e = .exit 0 ∧ (vs, os) = bSt v x (R : Int) (R : Int)) ∧ T = ⟨zipT [0, 1, 7, 8, 6] vs, numH 0 os, os.length⟩ := by
  refine loop_li (σ := Nat × Nat) (st := fun y => bSt v x (y.1 : Int) (y.2 : Int)) (Inv := fun y => y.1 ≤ y.2 ∧ y.2 ≤ (lo v).length ∧ ∃ f, y.2 - y.1 < f ∧ bsN (lo v) x f y.1 y.2 = R) (μ := fun y => y.2 - y.1) (d := 10) (unr := fun _ _ => 20) (sp := noSp) (ls := noLs) plain mixed noSp_ok noLs_ok b_loop (fun y hy => ?_) (0, (lo v).length) ⟨Nat.zero_le _, Nat.le_refl _, _, by simp, hR⟩
  obtain ⟨i, j⟩ := y
  obtain ⟨h1, h2, f, h3, h4⟩ := hy
  simp only at h1 h2 h3 h4
  by_cases hij : i < j
  · cases v with
    | none => simp at h2; omega
    | some y =>
      obtain ⟨a, b, ts⟩ := y
      change j ≤ ts.length at h2
      change bsN ts x f i j = R at h4
      change ts.length ≤ 100000 at hv
      have hh := hI_eq (i := i) (j := j) (by omega) (by omega)
      have k1 := decide_eq_true (show (i : Int) < (j : Int) by omega)
      have k2 : inR64 ((i : Int) + (j : Int)) = true := inR64_mk (by omega)
      have k3 : inR64 (hI (i : Int) (j : Int)) = true := by rw [hh]; exact inR64_mk (by omega)
      have k4 : Sx.inB (hI (i : Int) (j : Int)) ts.length = true := by rw [hh]; exact inB_mk ⟨by omega, by omega⟩
      have k5 : decide ((hI (i : Int) (j : Int)).toNat < ts.length) = true := by rw [hh]; exact decide_eq_true (by omega)
      have k6 : (elI ts (hI (i : Int) (j : Int)) != elI ts (hI (i : Int) (j : Int))) = false := bne_self_eq_false' _
      have k7 : inR64 (hI (i : Int) (j : Int) + 1) = true := by rw [hh]; exact inR64_mk (by omega)
      have el : elI ts (hI (i : Int) (j : Int)) = ts.getD ((i + j) / 2) 0 := by
        show ts.getD (hI (i : Int) (j : Int)).toNat 0 = _
        rw [hh]; rfl
      obtain ⟨f', rfl⟩ : ∃ f', f = f' + 1 := ⟨f - 1, by omega⟩
      unfold bsN at h4
      rw [if_pos hij] at h4
      by_cases hlt : ts.getD ((i + j) / 2) 0 < x
      · rw [if_pos hlt] at h4
        have k8 : decide (elI ts (hI (i : Int) (j : Int)) < x) = true := by rw [el]; exact decide_eq_true hlt
        refine ⟨_, Tr.follow_get (bn_lt a b ts x i j) (by simp only [k1, k2, k3, k4, k5, k6, k7, k8]), fun _ => ⟨((i + j) / 2 + 1, j), ⟨by omega, h2, f', by omega, h4⟩, by simp only; omega, ?_⟩, fun h => by cases h⟩
        rw [hh]; rfl
      · rw [if_neg hlt] at h4
        have k8 : decide (elI ts (hI (i : Int) (j : Int)) < x) = false := by rw [el]; exact decide_eq_false hlt
        refine ⟨_, Tr.follow_get (bn_ge a b ts x i j) (by simp only [k1, k2, k3, k4, k5, k6, k8]), fun _ => ⟨(i, (i + j) / 2), ⟨by omega, by show (i + j) / 2 ≤ ts.length; omega, f', by omega, h4⟩, by simp only; omega, ?_⟩, fun h => by cases h⟩
        rw [hh]
  · have hij2 : i = j := by omega
    subst hij2
    have hi : i = R := by
      rw [← h4]
      cases f with
      | zero => rfl
      | succ f => unfold bsN; rw [if_neg (Nat.lt_irrefl _)]
    subst hi
    have k1 := decide_eq_false (Int.lt_irrefl (i : Int))
    cases v with
    | none => exact ⟨_, bn_endN x (i : Int) (i : Int) k1, nofun, fun _ => ⟨rfl, rfl⟩⟩
    | some y =>
      obtain ⟨a, b, ts⟩ := y
      exact ⟨_, Tr.follow_get (bn_end a b ts x i i) (by rw [k1]), nofun, fun _ => ⟨rfl, rfl⟩⟩
def bLoop : LoopFn C24 := fun li => match li with
  | ⟨[s, .raw (.int .i64 x), .raw (.int .i64 (.ofNat 0)), .raw (.int .i64 n), .raw (.int .i64 n2)], nb, os⟩ => match decI s 0 os with
    | some (v, []) => match Nat.beq nb (nx v 0) with
      | true => .br (n == ((lo v).length : Int)) (.br (n2 == ((lo v).length : Int)) (.br (decide ((lo v).length ≤ 100000)) (.leaf (.exit 0, bSt v x (bsI (lo v) x : Int) (bsI (lo v) x : Int))) .fail) .fail) .fail
      | false => .fail
    | _ => .fail
  | _ => .fail
theorem bLoop_ok : ∀ tm hp n x, (loopS [0, 1, 7, 8, 6] [] bLoop tm hp n).get = some x → InLoop Try.prog ((loopOf Try.prog 60 0).get!).1 (loopOf Try.prog 60 0).get!.2 tm hp n fun e tm hp n => (e, tm, hp, n) = x := loopS_of fun li r h => by
  unfold bLoop at h
  split at h
  · rename_i s x n n2 nb os
    split at h
    · rename_i v h1
      split at h
      · rename_i hnb
        obtain ⟨rfl, rfl⟩ := decI_eq h1
        have hnb := Nat.eq_of_beq_eq_true hnb
        subst hnb
        clear h1
        obtain ⟨hn0, hB⟩ := Tr.get_ask.1 h
        obtain ⟨hn1, hC⟩ := Tr.get_ask.1 hB
        obtain ⟨hl, hD⟩ := Tr.get_ask.1 hC
        clear h hB hC
        have hn0 := eq_of_beq hn0
        have hn1 := eq_of_beq hn1
        subst hn0 hn1
        have hl : (lo v).length ≤ 100000 := of_decide_eq_true hl
        have hD : some (Ex.exit 0, bSt v x (bsI (lo v) x : Int) (bsI (lo v) x : Int)) = some r := hD
        cases hD
        have e1 : Sx.LI.mk [hS v 0, .raw (.int .i64 x), .raw (.int .i64 (.ofNat 0)), .raw (.int .i64 ((lo v).length : Int)), .raw (.int .i64 ((lo v).length : Int))] (nx v 0) (obI v ++ []) = ⟨(bSt v x (((0 : Nat) : Int)) ((lo v).length : Int)).1, nx v 0, (bSt v x (((0 : Nat) : Int)) ((lo v).length : Int)).2⟩ := by
          rw [List.append_nil]; rfl
        rw [e1]
        exact ⟨keeps_same (by cases v <;> rfl), b_run hl rfl⟩
      · cases h
    · cases h
  · cases h
def lsB : LoopT C24 := Sx.addL 60 0 (loopS [0, 1, 7, 8, 6] [] bLoop) noLs
theorem lsB_ok : LoopTOk Try.prog lsB := addL_ok b_loop bLoop_ok noLs_ok
abbrev unB (g b : Nat) : Nat := match g, b with
  | 60, 0 => 0 | _, _ => 20
abbrev f24B (v : Lo Int) (x : Int) := fnC C24 Try.prog noSp lsB unB 10 60 [hS v 0, .raw (.int .i64 x)] (obI v)
end
end Go.Proofs.Ytgepgnjjhgmfnaa
