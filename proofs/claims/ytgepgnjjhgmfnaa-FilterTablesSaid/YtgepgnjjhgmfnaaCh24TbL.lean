/-
  Chapter 24: FilterTables, laws: what its commands make of a filter. Own work; nothing here is trusted.
-/
import Derived.Test.YtgepgnjjhgmfnaaCh24Tb7
import Derived.Test.YtgepgnjjhgmfnaaCh24Tab
import Derived.Test.YtgepgnjjhgmfnaaCh24StyL
import Derived.Test.YtgepgnjjhgmfnaaCh24Arg
namespace Go.Proofs.Ytgepgnjjhgmfnaa
open Go Go.Sx Go.RowKit
set_option maxRecDepth 1000000
set_option maxHeartbeats 8000000
set_option linter.unusedVariables false
set_option linter.unusedSimpArgs false
theorem smX_mk {ol gl : List Mac} {vl : List Int} (h : ol.length ≤ 100000 ∧ gl.length ≤ 100000 ∧ vl.length ≤ 100000) : smX ol gl vl = true := decide_eq_true h
/-! ### Bytes of commands -/
theorem byB_app {l r : List Int} (h : byB l = true) (k : byB r = true) : byB (l ++ r) = true := by
  unfold byB at *
  rw [List.all_append, h, k]; rfl
theorem byB_cons {x : Int} {r : List Int} (h : 0 ≤ x ∧ x < 256) (k : byB r = true) : byB (x :: r) = true := by
  unfold byB at *
  rw [List.all_cons, k, decide_eq_true h.1, decide_eq_true h.2]; rfl
theorem byB_mod {x : Int} {r : List Int} (k : byB r = true) : byB (x % 256 :: r) = true := byB_cons (by omega) k
theorem byB_nil : byB [] = true := rfl
theorem byB_mac {m : Mac} (h : macR m) : byB (mcB m) = true := by
  obtain ⟨h1, h2, h3, h4, h5, h6⟩ := h
  exact byB_cons (by omega) (byB_cons (by omega) (byB_cons (by omega) (byB_cons (by omega) (byB_cons (by omega) (byB_cons (by omega) byB_nil)))))
theorem byB_mcs : ∀ {l : List Mac}, (∀ x ∈ l, macR x) → byB (mcsB l) = true
  | [], _ => rfl
  | x :: l, h => byB_app (byB_mac (h x List.mem_cons_self)) (byB_mcs fun y hy => h y (List.mem_cons_of_mem _ hy))
theorem byB_tab {ol gl : List Mac} (ho : ∀ x ∈ ol, macR x) (hg : ∀ x ∈ gl, macR x) : byB (tabW ol gl) = true := by
  unfold tabW
  refine byB_app (byB_app (byB_app (byB_app (by decide) ?_) (byB_mcs ho)) ?_) (byB_mcs hg)
  · exact byB_mod (byB_mod (byB_mod (byB_mod byB_nil)))
  · exact byB_mod (byB_mod (byB_mod (byB_mod byB_nil)))
/-! ### maps -/
theorem lkB_ins {M : List (Int × Bool)} {k : Int} {v : Bool} {x : Int} : lkM (insM M k v) x = if x = k then some v else lkM M x := by
  induction M with
  | nil =>
    by_cases h : x = k
    · subst h; simp [insM, lkM]
    · simp [insM, lkM, h]
  | cons p M ih =>
    obtain ⟨j, b⟩ := p
    by_cases hj : k = j
    · subst hj
      by_cases h : x = k
      · subst h; simp [insM, lkM]
      · simp [insM, lkM, h]
    · by_cases hx : x = j
      · subst hx
        have : ¬ x = k := fun e => hj e.symm
        simp [insM, lkM, hj, this]
      · simp [insM, lkM, hj, hx, ih]
theorem has_ins {M : List (Int × Bool)} {k : Int} {v : Bool} {x : Int} : hasK (insM M k v) x = if x = k then v else hasK M x := by
  unfold hasK
  rw [lkB_ins]
  split <;> rfl
/-! ### addresses -/
def ph2 (l : List Mac) (ph : Nat) : Nat := match l with
  | [] => ph
  | _ :: _ => 2
theorem finM_mcs (rest : List Int) : ∀ (l : List Mac) (K : Nat) (ms : List Mac) (ph : Nat), finM l.length K ms (mcsB l ++ rest) ph = (K + l.length, ms ++ l, rest, false, ph2 l ph)
  | [], K, ms, ph => by show (K, ms, rest, false, ph) = (K + 0, ms ++ [], rest, false, ph); rw [List.append_nil, Nat.add_zero]
  | x :: l, K, ms, ph => by
    show finM (l.length + 1) K ms (mcB x ++ mcsB l ++ rest) ph = _
    unfold finM
    have h6 : ¬ (((mcB x ++ mcsB l ++ rest).length : Nat) : Int) < 6 := by
      simp only [List.length_append, List.length_cons, List.length_nil]; omega
    have hd : d6 (mcB x ++ mcsB l ++ rest) = mcsB l ++ rest := rfl
    have hm : macAt (c6 (mcB x ++ mcsB l ++ rest)) = x := rfl
    rw [if_neg h6, hd, hm, finM_mcs rest l, List.append_assoc]
    have e : ph2 l 2 = 2 := by cases l <;> rfl
    rw [e]
    show (K + 1 + l.length, ms ++ ([x] ++ l), rest, false, 2) = (K + (l.length + 1), ms ++ x :: l, rest, false, 2)
    rw [Nat.add_right_comm, Nat.add_assoc]
    rfl
theorem nQ_fin : ∀ i : Fin 101, nQ [(i.val : Int), 0, 0, 0] = (i.val : Int) := by decide +kernel
theorem le_small {l : List Mac} (h : l.length ≤ 100) : leB l = [(l.length : Int), 0, 0, 0] := by
  generalize hn : l.length = n at h
  have e0 : ((n : Nat) : Int) % 256 = (n : Int) := by omega
  have a : shrV IntKind.i64 (n : Int) 8 % 256 = 0 := by
    show Int.fdiv (n : Int) (2 ^ 8) % 256 = _
    rw [Int.fdiv_eq_ediv_of_nonneg _ (by decide)]
    omega
  have b : shrV IntKind.i64 (n : Int) 16 % 256 = 0 := by
    show Int.fdiv (n : Int) (2 ^ 16) % 256 = _
    rw [Int.fdiv_eq_ediv_of_nonneg _ (by decide)]
    omega
  have c : shrV IntKind.i64 (n : Int) 24 % 256 = 0 := by
    show Int.fdiv (n : Int) (2 ^ 24) % 256 = _
    rw [Int.fdiv_eq_ediv_of_nonneg _ (by decide)]
    omega
  show [((l.length : Nat) : Int) % 256, shrV IntKind.i64 ((l.length : Nat) : Int) 8 % 256, shrV IntKind.i64 ((l.length : Nat) : Int) 16 % 256, shrV IntKind.i64 ((l.length : Nat) : Int) 24 % 256] = _
  rw [hn, e0, a, b, c]
theorem nQ_le {l : List Mac} {r : List Int} (h : l.length ≤ 100) : nQ (q4 (leB l ++ r)) = (l.length : Int) := by
  have e : q4 (leB l ++ r) = leB l := rfl
  rw [e, le_small h]
  exact nQ_fin ⟨l.length, by omega⟩
theorem gM_le {l : List Mac} {r : List Int} (h : l.length ≤ 100) : gM (leB l ++ (mcsB l ++ r)) = (l.length, l, r, false, ph2 l 0) := by
  have e : r4 (leB l ++ (mcsB l ++ r)) = mcsB l ++ r := rfl
  unfold gM
  rw [nQ_le h, e, Int.toNat_natCast, finM_mcs]
  rw [Nat.zero_add, List.nil_append]
/-- A list that is nil where it is empty. -/
def opM (l : List Mac) : Option (List Mac) := match l with
  | [] => none
  | x :: r => some (x :: r)
theorem opM_get (l : List Mac) : (opM l).getD [] = l := by cases l <;> rfl
theorem hB17 : hasB fts 17 = true := by kernel_rfl
theorem hB18 : hasB fts 18 = true := by kernel_rfl
theorem hB19 : hasB fts 19 = true := by kernel_rfl
theorem hB23 : hasB fts 23 = true := by kernel_rfl
theorem tab_eq (ol gl : List Mac) : tabW ol gl = 1 :: 0 :: (leB ol ++ (mcsB ol ++ (leB gl ++ (mcsB gl ++ [])))) := by
  unfold tabW mkA
  simp only [List.append_assoc, List.cons_append, List.nil_append, List.append_nil]
theorem cm_tab {ol gl : List Mac} (ho : ol.length ≤ 100) (hg : gl.length ≤ 100) : cmO fts (tabW ol gl) = bif decide (ol.length ≤ 32 ∧ gl.length ≤ 32) then .tb (opM ol) (opM gl) else .er := by
  rw [tab_eq]
  have hh : hd (1 :: 0 :: (leB ol ++ (mcsB ol ++ (leB gl ++ (mcsB gl ++ []))))) = [1, 0] := rfl
  have hr : r2 (1 :: 0 :: (leB ol ++ (mcsB ol ++ (leB gl ++ (mcsB gl ++ []))))) = leB ol ++ (mcsB ol ++ (leB gl ++ (mcsB gl ++ []))) := rfl
  have hr4 : r4 (leB ol ++ (mcsB ol ++ (leB gl ++ (mcsB gl ++ [])))) = mcsB ol ++ (leB gl ++ (mcsB gl ++ [])) := rfl
  have hl : decide ((((1 : Int) :: 0 :: (leB ol ++ (mcsB ol ++ (leB gl ++ (mcsB gl ++ [])))) : List Int).length : Int) < 2) = false := decide_eq_false (by simp only [List.length_cons]; omega)
  have hl2 : decide (((leB ol ++ (mcsB ol ++ (leB gl ++ (mcsB gl ++ []))) : List Int).length : Int) < 4) = false := decide_eq_false (by simp only [List.length_append, List.length_cons, List.length_nil]; omega)
  have hl3 : decide (((leB gl ++ (mcsB gl ++ []) : List Int).length : Int) < 4) = false := decide_eq_false (by simp only [List.length_append, List.length_cons, List.length_nil]; omega)
  have c1 : (([1, 0] : List Int).getD (Int.toNat 0) 0 == 0) = false := rfl
  have c2 : (([1, 0] : List Int).getD (Int.toNat 0) 0 == 1) = true := rfl
  have c3 : (([1, 0] : List Int).getD (Int.toNat 1) 0 == 0) = true := rfl
  unfold cmO
  simp only [hB17, hB18, hh, hr, hl, hl2, c1, c2, c3, Bool.not_true, cond_false, cond_true, Bool.false_and, Bool.and_true, Bool.and_self]
  rw [nQ_le ho, gM_le ho]
  by_cases h1 : ol.length ≤ 32
  · rw [decide_eq_false (show ¬ (32 : Int) < (ol.length : Int) by omega)]
    cases ol with
    | nil =>
      have e4 : r4 (leB [] ++ (mcsB [] ++ (leB gl ++ (mcsB gl ++ [])))) = leB gl ++ (mcsB gl ++ []) := rfl
      have e4g : r4 (leB gl ++ (mcsB gl ++ [])) = mcsB gl ++ [] := rfl
      have p0 : Nat.beq (phG ((([] : List Mac).length, [], leB gl ++ (mcsB gl ++ []), false, 0) : MS)) 0 = true := rfl
      simp only [e4, hl3, p0, cond_true, cond_false]
      rw [nQ_le hg, gM_le hg]
      by_cases h2 : gl.length ≤ 32
      · rw [decide_eq_false (show ¬ (32 : Int) < (gl.length : Int) by omega), decide_eq_true (show ([] : List Mac).length ≤ 32 ∧ gl.length ≤ 32 from ⟨h1, h2⟩)]
        cases gl with
        | nil => rfl
        | cons y r => rfl
      · rw [decide_eq_true (show (32 : Int) < (gl.length : Int) by omega), decide_eq_false (show ¬ (([] : List Mac).length ≤ 32 ∧ gl.length ≤ 32) from fun h => h2 h.2)]
        rfl
    | cons x ol =>
      have p0 : Nat.beq (phG (((x :: ol).length, x :: ol, leB gl ++ (mcsB gl ++ []), false, 2) : MS)) 0 = false := rfl
      have p1 : Nat.beq (phG (((x :: ol).length, x :: ol, leB gl ++ (mcsB gl ++ []), false, 2) : MS)) 1 = false := rfl
      simp only [hl3, p0, p1, cond_true, cond_false]
      rw [nQ_le hg, gM_le hg]
      by_cases h2 : gl.length ≤ 32
      · rw [decide_eq_false (show ¬ (32 : Int) < (gl.length : Int) by omega), decide_eq_true (show (x :: ol).length ≤ 32 ∧ gl.length ≤ 32 from ⟨h1, h2⟩)]
        cases gl with
        | nil => rfl
        | cons y r => rfl
      · rw [decide_eq_true (show (32 : Int) < (gl.length : Int) by omega), decide_eq_false (show ¬ ((x :: ol).length ≤ 32 ∧ gl.length ≤ 32) from fun h => h2 h.2)]
        rfl
  · rw [decide_eq_true (show (32 : Int) < (ol.length : Int) by omega), decide_eq_false (show ¬ (ol.length ≤ 32 ∧ gl.length ≤ 32) from fun h => h1 h.1)]
    rfl
/-- A yes as a byte. -/
def bzN (b : Bool) : Int := bif b then 1 else 0
theorem cm_pr (p : Bool) : cmO fts [0, 0, bzN p] = .pr p := by cases p <;> kernel_rfl
theorem cm_mn (p : Bool) : cmO fts [0, 1, bzN p] = .mn p := by cases p <;> kernel_rfl
theorem cm_mc (m : Mac) : cmO fts (1 :: 1 :: mcB m) = .mc m := by kernel_rfl
end Go.Proofs.Ytgepgnjjhgmfnaa
