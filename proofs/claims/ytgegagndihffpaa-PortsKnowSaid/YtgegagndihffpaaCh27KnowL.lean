/-
  Chapter 27: Know's loop. Own work; nothing here is trusted.
-/
import Derived.Test.YtgegagndihffpaaCh27KnowP
namespace Go.Proofs.Ytgegagndihffpaa
open Go Go.Sx Go.RowKit
set_option maxRecDepth 1000000
set_option maxHeartbeats 8000000
set_option linter.unusedVariables false
set_option linter.unusedSimpArgs false
noncomputable section
theorem atI_lt {ts : List Pt} {id : Int} (h : ¬ atI ts id < 0) : 0 ≤ atI ts id ∧ atI ts id < (ts.length : Int) := by
  unfold atI at h ⊢
  cases hn : noneP (isI ts id) ts.length with
  | true => rw [hn] at h; exact absurd (by decide : (-1 : Int) < 0) h
  | false =>
    have := (fstP_spec hn).1
    simp only
    omega
abbrev atP (ts : List Pt) (i : Int) : Pt := ts.getD i.toNat (0, ByteArray.empty, false, false, false, false)
/-- One message heard: another list, or the same list changed in place. -/
def knowK (most : Int) (ts : List Pt) (m : Mg) : Bool × List Pt :=
  if okM m.2.1 m.2.2.2 = true then
    (if atI ts m.1 < 0 then
      (if m.2.1 = 1 ∧ m.1 % 18446744073709551616 < most % 18446744073709551616 then (true, insL ts (inAt ts m.1) [(m.1, ByteArray.empty, false, false, false, false)]) else (false, ts))
    else if m.2.1 = 2 then (true, delL ts (atI ts m.1).toNat (atI ts m.1 + 1).toNat)
    else if m.2.1 = 4 then (false, ts.set (atI ts m.1).toNat ((atP ts (atI ts m.1)).1, (atP ts (atI ts m.1)).2.1, true, (atP ts (atI ts m.1)).2.2.2.1, (atP ts (atI ts m.1)).2.2.2.2.1, (atP ts (atI ts m.1)).2.2.2.2.2))
    else if m.2.1 = 7 then (false, ts.set (atI ts m.1).toNat ((atP ts (atI ts m.1)).1, m.2.2.2, (atP ts (atI ts m.1)).2.2.1, (atP ts (atI ts m.1)).2.2.2.1, (atP ts (atI ts m.1)).2.2.2.2.1, (atP ts (atI ts m.1)).2.2.2.2.2))
    else if m.2.1 = 6 then (false, ts.set (atI ts m.1).toNat ((atP ts (atI ts m.1)).1, (atP ts (atI ts m.1)).2.1, (atP ts (atI ts m.1)).2.2.1, m.2.2.1 == 1, (atP ts (atI ts m.1)).2.2.2.2.1, (atP ts (atI ts m.1)).2.2.2.2.2))
    else (false, ts))
  else (false, ts)
abbrev knowL (most : Int) (ts : List Pt) (m : Mg) : List Pt := (knowK most ts m).2
abbrev KS := Option (List Pt) × List Pt
def loK (s : KS) : List Pt := s.1.getD s.2
def stepK (most : Int) (s : KS) (m : Mg) : KS := match (knowK most s.2 m).1 with
  | true => (some (loK s), (knowK most s.2 m).2)
  | false => (s.1, (knowK most s.2 m).2)
theorem insL_len (ts : List Pt) (i : Nat) (x : Pt) : (insL ts i [x]).length = ts.length + 1 := by
  simp [insL]; omega
theorem delL_len (ts : List Pt) (i j : Nat) (h : i ≤ j) : (delL ts i j).length ≤ ts.length := by
  simp [delL]; omega
theorem knowK_len (most : Int) (ts : List Pt) (m : Mg) : (knowK most ts m).2.length ≤ ts.length + 1 := by
  unfold knowK
  repeat' split
  all_goals first
    | exact Nat.le_succ _
    | (rw [insL_len]; exact Nat.le_refl _)
    | (refine Nat.le_trans (delL_len _ _ _ ?_) (Nat.le_succ _); omega)
    | (rw [List.length_set]; exact Nat.le_succ _)
@[reducible] def nSt (f f2 : Bool) (most : Int) (rdy : Bool) (ms : List Mg) (x : Nat × KS) : List SV × List (SO C27) := match x.2.1 with
  | none => nStA f f2 most rdy x.2.2 ms (x.1 : Int)
  | some l0 => nStB f f2 false most rdy l0 x.2.2 ms (x.1 : Int)
theorem n_round {f f2 : Bool} {most : Int} {rdy : Bool} {ms : List Mg} (hl : ms.length ≤ 1000) {k : Nat} (hk : k < ms.length) {s : KS} (hs : s.2.length ≤ 1000) (hr : inR64 (elM ms k).1 = true) :
    ∃ y, (roundG C27 Try.prog sfKn noLs (fun _ _ => 20) 10 24 0 nSlots ⟨(nSt f f2 most rdy ms (k, s)).1, 4, (nSt f f2 most rdy ms (k, s)).2⟩).get = some y ∧ isNorm y.1 = true ∧ y.2 = nSt f f2 most rdy ms (k + 1, stepK most s (elM ms k)) := by
  have k1 := decide_eq_true (show (k : Int) < (ms.length : Int) by omega)
  have k2 : Sx.inB (k : Int) ms.length = true := inB_mk ⟨by omega, by omega⟩
  have k3 := decide_eq_true (show ((k : Nat) : Int).toNat < ms.length from hk)
  have k4 : inR64 ((k : Int) + 1) = true := inR64_mk (by omega)
  obtain ⟨lo, ts⟩ := s
  simp only at hs
  have k5 := decide_eq_true (show ts.length ≤ 100000 by omega)
  have k6 := decide_eq_true hs
  cases lo with
  | none =>
    have p1 := nA_bad f f2 most rdy ts ms k
    have p2 := nA_add f f2 most rdy ts ms k
    have p3 := nA_addno f f2 most rdy ts ms k
    have p4 := nA_noadd f f2 most rdy ts ms k
    have p5 := nA_del f f2 most rdy ts ms k
    have p6 := nA_rdy f f2 most rdy ts ms k
    have p7 := nA_nam f f2 most rdy ts ms k
    have p8 := nA_opn f f2 most rdy ts ms k
    have p9 := nA_oth f f2 most rdy ts ms k
    have hst : ∀ m, stepK most (none, ts) m = match (knowK most ts m).1 with | true => (some ts, (knowK most ts m).2) | false => (none, (knowK most ts m).2) := fun m => rfl
    rw [hst]
    unfold knowK
    generalize elM ms (k : Int) = m at *
    obtain ⟨a, b, c, n⟩ := m
    simp only at *
    cases ho : okM b n with
    | false =>
      simp only [k1, k2, k3, k4, ho] at p1
      refine ⟨_, Tr.follow_get p1 rfl, rfl, ?_⟩
      rw [if_neg Bool.false_ne_true] <;> rfl
    | true =>
      rw [if_pos rfl]
      by_cases hi : atI ts a < 0
      · have e1 := decide_eq_true hi
        rw [if_pos hi]
        by_cases hb : b = 1
        · have e2 : (b == 1) = true := by rw [hb]; rfl
          by_cases hm : a % 18446744073709551616 < most % 18446744073709551616
          · simp only [k1, k2, k3, k4, k5, k6, ho, hr, e1, e2, decide_eq_true hm] at p2
            refine ⟨_, Tr.follow_get p2 rfl, rfl, ?_⟩
            rw [if_pos ⟨hb, hm⟩] <;> rfl
          · simp only [k1, k2, k3, k4, k5, k6, ho, hr, e1, e2, decide_eq_false hm] at p3
            refine ⟨_, Tr.follow_get p3 rfl, rfl, ?_⟩
            rw [if_neg (fun h => hm h.2)] <;> rfl
        · have e2 : (b == 1) = false := beq_eq_false_iff_ne.2 hb
          simp only [k1, k2, k3, k4, k5, k6, ho, hr, e1, e2] at p4
          refine ⟨_, Tr.follow_get p4 rfl, rfl, ?_⟩
          rw [if_neg (fun h => hb h.1)] <;> rfl
      · have e1 := decide_eq_false hi
        obtain ⟨i1, i2⟩ := atI_lt hi
        have e3 : Sx.inB (atI ts a) ts.length = true := inB_mk ⟨i1, i2⟩
        have e4 := decide_eq_true (show ts.length ≤ 1000 ∧ 0 ≤ atI ts a ∧ atI ts a < (ts.length : Int) from ⟨hs, i1, i2⟩)
        have e5 := decide_eq_true (show (atI ts a).toNat < ts.length by omega)
        rw [if_neg hi]
        by_cases b2 : b = 2
        · have g2 : (b == 2) = true := by rw [b2]; rfl
          simp only [k1, k2, k3, k4, k5, k6, ho, hr, e1, e3, e4, e5, g2] at p5
          refine ⟨_, Tr.follow_get p5 rfl, rfl, ?_⟩
          rw [if_pos b2] <;> rfl
        rw [if_neg b2]
        have g2 : (b == 2) = false := beq_eq_false_iff_ne.2 b2
        by_cases b4 : b = 4
        · have g4 : (b == 4) = true := by rw [b4]; rfl
          simp only [k1, k2, k3, k4, k5, k6, ho, hr, e1, e3, e4, e5, g2, g4] at p6
          refine ⟨_, Tr.follow_get p6 rfl, rfl, ?_⟩
          rw [if_pos b4] <;> rfl
        rw [if_neg b4]
        have g4 : (b == 4) = false := beq_eq_false_iff_ne.2 b4
        by_cases b7 : b = 7
        · have g7 : (b == 7) = true := by rw [b7]; rfl
          simp only [k1, k2, k3, k4, k5, k6, ho, hr, e1, e3, e4, e5, g2, g4, g7] at p7
          refine ⟨_, Tr.follow_get p7 rfl, rfl, ?_⟩
          rw [if_pos b7] <;> rfl
        rw [if_neg b7]
        have g7 : (b == 7) = false := beq_eq_false_iff_ne.2 b7
        by_cases b6 : b = 6
        · have g6 : (b == 6) = true := by rw [b6]; rfl
          simp only [k1, k2, k3, k4, k5, k6, ho, hr, e1, e3, e4, e5, g2, g4, g7, g6] at p8
          refine ⟨_, Tr.follow_get p8 rfl, rfl, ?_⟩
          rw [if_pos b6] <;> rfl
        rw [if_neg b6]
        have g6 : (b == 6) = false := beq_eq_false_iff_ne.2 b6
        simp only [k1, k2, k3, k4, k5, k6, ho, hr, e1, e3, e4, e5, g2, g4, g7, g6] at p9
        exact ⟨_, Tr.follow_get p9 rfl, rfl, rfl⟩
  | some l0 =>
    have p1 := nB_bad f f2 false most rdy l0 ts ms k
    have p2 := nB_add f f2 false most rdy l0 ts ms k
    have p3 := nB_addno f f2 false most rdy l0 ts ms k
    have p4 := nB_noadd f f2 false most rdy l0 ts ms k
    have p5 := nB_del f f2 false most rdy l0 ts ms k
    have p6 := nB_rdy f f2 false most rdy l0 ts ms k
    have p7 := nB_nam f f2 false most rdy l0 ts ms k
    have p8 := nB_opn f f2 false most rdy l0 ts ms k
    have p9 := nB_oth f f2 false most rdy l0 ts ms k
    have hst : ∀ m, stepK most (some l0, ts) m = match (knowK most ts m).1 with | true => (some l0, (knowK most ts m).2) | false => (some l0, (knowK most ts m).2) := fun m => rfl
    rw [hst]
    unfold knowK
    generalize elM ms (k : Int) = m at *
    obtain ⟨a, b, c, n⟩ := m
    simp only at *
    cases ho : okM b n with
    | false =>
      simp only [k1, k2, k3, k4, ho] at p1
      refine ⟨_, Tr.follow_get p1 rfl, rfl, ?_⟩
      rw [if_neg Bool.false_ne_true] <;> rfl
    | true =>
      rw [if_pos rfl]
      by_cases hi : atI ts a < 0
      · have e1 := decide_eq_true hi
        rw [if_pos hi]
        by_cases hb : b = 1
        · have e2 : (b == 1) = true := by rw [hb]; rfl
          by_cases hm : a % 18446744073709551616 < most % 18446744073709551616
          · simp only [k1, k2, k3, k4, k5, k6, ho, hr, e1, e2, decide_eq_true hm] at p2
            refine ⟨_, Tr.follow_get p2 rfl, rfl, ?_⟩
            rw [if_pos ⟨hb, hm⟩] <;> rfl
          · simp only [k1, k2, k3, k4, k5, k6, ho, hr, e1, e2, decide_eq_false hm] at p3
            refine ⟨_, Tr.follow_get p3 rfl, rfl, ?_⟩
            rw [if_neg (fun h => hm h.2)] <;> rfl
        · have e2 : (b == 1) = false := beq_eq_false_iff_ne.2 hb
          simp only [k1, k2, k3, k4, k5, k6, ho, hr, e1, e2] at p4
          refine ⟨_, Tr.follow_get p4 rfl, rfl, ?_⟩
          rw [if_neg (fun h => hb h.1)] <;> rfl
      · have e1 := decide_eq_false hi
        obtain ⟨i1, i2⟩ := atI_lt hi
        have e3 : Sx.inB (atI ts a) ts.length = true := inB_mk ⟨i1, i2⟩
        have e4 := decide_eq_true (show ts.length ≤ 1000 ∧ 0 ≤ atI ts a ∧ atI ts a < (ts.length : Int) from ⟨hs, i1, i2⟩)
        have e5 := decide_eq_true (show (atI ts a).toNat < ts.length by omega)
        rw [if_neg hi]
        by_cases b2 : b = 2
        · have g2 : (b == 2) = true := by rw [b2]; rfl
          simp only [k1, k2, k3, k4, k5, k6, ho, hr, e1, e3, e4, e5, g2] at p5
          refine ⟨_, Tr.follow_get p5 rfl, rfl, ?_⟩
          rw [if_pos b2] <;> rfl
        rw [if_neg b2]
        have g2 : (b == 2) = false := beq_eq_false_iff_ne.2 b2
        by_cases b4 : b = 4
        · have g4 : (b == 4) = true := by rw [b4]; rfl
          simp only [k1, k2, k3, k4, k5, k6, ho, hr, e1, e3, e4, e5, g2, g4] at p6
          refine ⟨_, Tr.follow_get p6 rfl, rfl, ?_⟩
          rw [if_pos b4] <;> rfl
        rw [if_neg b4]
        have g4 : (b == 4) = false := beq_eq_false_iff_ne.2 b4
        by_cases b7 : b = 7
        · have g7 : (b == 7) = true := by rw [b7]; rfl
          simp only [k1, k2, k3, k4, k5, k6, ho, hr, e1, e3, e4, e5, g2, g4, g7] at p7
          refine ⟨_, Tr.follow_get p7 rfl, rfl, ?_⟩
          rw [if_pos b7] <;> rfl
        rw [if_neg b7]
        have g7 : (b == 7) = false := beq_eq_false_iff_ne.2 b7
        by_cases b6 : b = 6
        · have g6 : (b == 6) = true := by rw [b6]; rfl
          simp only [k1, k2, k3, k4, k5, k6, ho, hr, e1, e3, e4, e5, g2, g4, g7, g6] at p8
          refine ⟨_, Tr.follow_get p8 rfl, rfl, ?_⟩
          rw [if_pos b6] <;> rfl
        rw [if_neg b6]
        have g6 : (b == 6) = false := beq_eq_false_iff_ne.2 b6
        simp only [k1, k2, k3, k4, k5, k6, ho, hr, e1, e3, e4, e5, g2, g4, g7, g6] at p9
        exact ⟨_, Tr.follow_get p9 rfl, rfl, rfl⟩
end
end Go.Proofs.Ytgegagndihffpaa
