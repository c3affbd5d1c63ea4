/-
  Chapter 18: RegsStay, its outer loop. Own work; nothing here is trusted.
-/
import Derived.Test.YtknkemjbikbhgaaCh18StyP
import Derived.Test.YtknkemjbikbhgaaCh18Rd
namespace Go.Proofs.Ytknkemjbikbhgaa
open Go Go.Sx Go.RowKit
set_option maxRecDepth 1000000
set_option maxHeartbeats 8000000
set_option linter.unusedVariables false
set_option linter.unusedSimpArgs false
noncomputable section
theorem lowB_mod {w : Int} (h : 0 ≤ w ∧ w < 18446744073709551616) : lowB w = w % 256 := by
  have e : bitsV .u64 .and w 255 = ((BitVec.ofInt 64 w &&& 255#64).toNat : Int) % 18446744073709551616 := rfl
  have e2 : (BitVec.ofInt 64 w &&& 255#64).toNat = w.toNat % 256 := by
    rw [BitVec.toNat_and, BitVec.toNat_ofInt]
    show (w % (18446744073709551616 : Int)).toNat &&& 255 = _
    rw [Int.emod_eq_of_lt h.1 h.2]
    exact Nat.and_two_pow_sub_one_eq_mod _ 8
  unfold lowB
  rw [e, e2]
  omega
theorem elQ_rd {g s : Int} {qs : List Qe} (h : ∀ q ∈ qs, badQ g s q = false) (j : Nat) (hr : (elQ qs (j : Int)).2.2.1 = true) : hb s 8 = true := by
  by_cases hj : j < qs.length
  · have e : elQ qs (j : Int) = qs[j] := by
      show qs.getD j _ = _
      rw [List.getD_eq_getElem?_getD, List.getElem?_eq_getElem hj]; rfl
    rw [e] at hr
    have hb' := h _ (List.getElem_mem hj)
    unfold badQ at hb'
    simp only [Bool.or_eq_false_iff, Bool.and_eq_false_iff, Bool.not_eq_false'] at hb'
    obtain ⟨_, _, _, _, hb'⟩ := hb'
    rcases hb' with hb' | hb'
    · rw [hr] at hb'; cases hb'
    · unfold rdB at hb'
      exact ((Bool.and_eq_true _ _).mp hb').1
  · have e : elQ qs (j : Int) = qs.getD j (0, 0, false, 0, 0, 0) := rfl
    rw [e, List.getD_eq_getElem?_getD, List.getElem?_eq_none (by omega)] at hr
    cases hr
theorem st_facts {l : List Wt} {r : Rg} (h : RI r) (ha : AcQ l) {i : Nat} (hi : i < l.length) {D : Rg} (e : dnW (elW l (i : Int)) r = D) :
    vR D.k D.o D.g D.s D.se D.at' D.it D.qs D.cf.length = true ∧ ((D.qs.length : Int) != (r.qs.length : Int)) = false ∧ ((D.cf.length : Int) != (r.cf.length : Int)) = false ∧ (D.k != r.k) = false ∧ (D.o != r.o) = false ∧ cdec (rokB D.k D.o D.g D.s = true ∧ D.s ∈ valid12) = true ∧ (∀ rs : Bool, (¬ ((elW l (i : Int)).1.1 = 1 ∨ (elW l (i : Int)).1.1 = 2 ∨ (elW l (i : Int)).1.1 = 3) ∧ (elW l (i : Int)).1.2.1 = 14 ∧ lowB (elW l (i : Int)).1.2.2.1 = 0 → rs = true) → cdec (Sty l r D (hb D.s 8) rs (i : Int)) = true) := by
  obtain ⟨hw, _⟩ := ha.at hi
  have hD := dnW_I (x := elW l (i : Int)) h hw
  have hF := dnW_0 (x := elW l (i : Int)) h
  have hq := dnW_q (x := elW l (i : Int)) h
  rw [e] at hD hF hq
  have hv := vR_iff.1 hD.v
  have hv0 := vR_iff.1 h.v
  refine ⟨hD.v, by rw [hF.len]; simp, by rw [hF.cf]; simp, by rw [hF.k]; simp, by rw [hF.o]; simp, cdec_iff.2 ⟨hv.1, hD.s⟩, fun rs hrs => cdec_iff.2 ⟨hF.len, by omega, ⟨by omega, by omega⟩, elQ_rd hv.2.2.2.2.2.2, fun j => ⟨(hq j).1, fun g1 g2 => (hq j).2 g1 fun g3 => g2 (hrs g3)⟩⟩⟩
theorem zA_round {l : List Wt} {r : Rg} (h : RI r) (ha : AcQ l) {i : Nat} (hi : i < l.length) : (z8R (z8A l r i)).get = some (.normal, z8B l r (dnW (elW l (i : Int)) r) ((i : Int) + 1)) := by
  have hl := ha.few
  have k1 := decide_eq_true (show (i : Int) < (l.length : Int) by omega)
  have k2 : Sx.inB (i : Int) l.length = true := inB_mk ⟨by omega, by omega⟩
  have k3 := decide_eq_true (show ((i : Nat) : Int).toNat < l.length by omega)
  have k4 : inR64 ((i : Int) + 1) = true := inR64_mk (by omega)
  obtain ⟨hw, hm, hbs⟩ := ha.at hi
  have k5 : (rng64 (elW l (i : Int)).1.2.2.1 && inR64 (elW l (i : Int)).1.2.2.2) = true := by rw [rng64_iff.2 hw, hm]; rfl
  obtain ⟨k6, k7⟩ := len8 h
  have k8 := h.v
  have hmod := lowB_mod hw
  cases hn : isNo (elW l (i : Int)).2.1 with
  | true =>
    have hb9 : bsW (elW l (i : Int)) = [] := by unfold bsW; rw [hn]
    rw [hb9] at hbs
    have k9 := decide_eq_true hbs
    have hd : dnW (elW l (i : Int)) r = dnO (elW l (i : Int)).1.1 (elW l (i : Int)).1.2.1 (elW l (i : Int)).1.2.2.1 (elW l (i : Int)).1.2.2.2 [] r := by unfold dnW; rw [hb9]
    rw [hd]
    have kf := st_facts h ha hi hd
    by_cases ha1 : (elW l (i : Int)).1.1 < 1
    · have e1 := decide_eq_true ha1
      by_cases h14 : (elW l (i : Int)).1.2.1 = 14
      · have e2 := beq_iff_eq.2 h14
        have hp := zA_rly l r i
        generalize dnO (elW l (i : Int)).1.1 (elW l (i : Int)).1.2.1 (elW l (i : Int)).1.2.2.1 (elW l (i : Int)).1.2.2.2 [] r = D at hp kf ⊢
        obtain ⟨f1, f2, f3, f4, f5, f6, f7⟩ := kf
        have f8 := f7 ((elW l (i : Int)).1.2.2.1 % 256 == 0) (fun hx => by rw [hmod] at hx; exact beq_iff_eq.2 hx.2.2)
        rw [k5] at hp
        exact Tr.follow_get hp (by simp only [k1, k2, k3, k4, k6, k7, k8, k9, hn, f1, f2, f3, f4, f5, f6, f8, e1, e2])
      · have e2 := beq_eq_false_iff_ne.2 h14
        have hp := zA_rlx l r i
        generalize dnO (elW l (i : Int)).1.1 (elW l (i : Int)).1.2.1 (elW l (i : Int)).1.2.2.1 (elW l (i : Int)).1.2.2.2 [] r = D at hp kf ⊢
        obtain ⟨f1, f2, f3, f4, f5, f6, f7⟩ := kf
        have f8 := f7 false (fun hx => absurd hx.2.1 h14)
        rw [k5] at hp
        exact Tr.follow_get hp (by simp only [k1, k2, k3, k4, k6, k7, k8, k9, hn, f1, f2, f3, f4, f5, f6, f8, e1, e2])
    · have e1 := decide_eq_false ha1
      by_cases ha3 : 3 < (elW l (i : Int)).1.1
      · have e3 := decide_eq_true ha3
        by_cases h14 : (elW l (i : Int)).1.2.1 = 14
        · have e2 := beq_iff_eq.2 h14
          have hp := zA_rhy l r i
          generalize dnO (elW l (i : Int)).1.1 (elW l (i : Int)).1.2.1 (elW l (i : Int)).1.2.2.1 (elW l (i : Int)).1.2.2.2 [] r = D at hp kf ⊢
          obtain ⟨f1, f2, f3, f4, f5, f6, f7⟩ := kf
          have f8 := f7 ((elW l (i : Int)).1.2.2.1 % 256 == 0) (fun hx => by rw [hmod] at hx; exact beq_iff_eq.2 hx.2.2)
          rw [k5] at hp
          exact Tr.follow_get hp (by simp only [k1, k2, k3, k4, k6, k7, k8, k9, hn, f1, f2, f3, f4, f5, f6, f8, e1, e2, e3])
        · have e2 := beq_eq_false_iff_ne.2 h14
          have hp := zA_rhx l r i
          generalize dnO (elW l (i : Int)).1.1 (elW l (i : Int)).1.2.1 (elW l (i : Int)).1.2.2.1 (elW l (i : Int)).1.2.2.2 [] r = D at hp kf ⊢
          obtain ⟨f1, f2, f3, f4, f5, f6, f7⟩ := kf
          have f8 := f7 false (fun hx => absurd hx.2.1 h14)
          rw [k5] at hp
          exact Tr.follow_get hp (by simp only [k1, k2, k3, k4, k6, k7, k8, k9, hn, f1, f2, f3, f4, f5, f6, f8, e1, e2, e3])
      · have e3 := decide_eq_false ha3
        have hp := zA_rn l r i
        generalize dnO (elW l (i : Int)).1.1 (elW l (i : Int)).1.2.1 (elW l (i : Int)).1.2.2.1 (elW l (i : Int)).1.2.2.2 [] r = D at hp kf ⊢
        obtain ⟨f1, f2, f3, f4, f5, f6, f7⟩ := kf
        have f8 := f7 false (fun hx => absurd (show (elW l (i : Int)).1.1 = 1 ∨ (elW l (i : Int)).1.1 = 2 ∨ (elW l (i : Int)).1.1 = 3 by omega) hx.1)
        rw [k5] at hp
        exact Tr.follow_get hp (by simp only [k1, k2, k3, k4, k6, k7, k8, k9, hn, f1, f2, f3, f4, f5, f6, f8, e1, e3])
  | false =>
    have hb9 : bsW (elW l (i : Int)) = (elW l (i : Int)).2.2 := by unfold bsW; rw [hn]
    rw [hb9] at hbs
    have k9 := decide_eq_true hbs
    have hd : dnW (elW l (i : Int)) r = dnO (elW l (i : Int)).1.1 (elW l (i : Int)).1.2.1 (elW l (i : Int)).1.2.2.1 (elW l (i : Int)).1.2.2.2 (elW l (i : Int)).2.2 r := by unfold dnW; rw [hb9]
    rw [hd]
    have kf := st_facts h ha hi hd
    by_cases ha1 : (elW l (i : Int)).1.1 < 1
    · have e1 := decide_eq_true ha1
      by_cases h14 : (elW l (i : Int)).1.2.1 = 14
      · have e2 := beq_iff_eq.2 h14
        have hp := zA_hly l r i
        generalize dnO (elW l (i : Int)).1.1 (elW l (i : Int)).1.2.1 (elW l (i : Int)).1.2.2.1 (elW l (i : Int)).1.2.2.2 (elW l (i : Int)).2.2 r = D at hp kf ⊢
        obtain ⟨f1, f2, f3, f4, f5, f6, f7⟩ := kf
        have f8 := f7 ((elW l (i : Int)).1.2.2.1 % 256 == 0) (fun hx => by rw [hmod] at hx; exact beq_iff_eq.2 hx.2.2)
        rw [k5] at hp
        exact Tr.follow_get hp (by simp only [k1, k2, k3, k4, k6, k7, k8, k9, hn, f1, f2, f3, f4, f5, f6, f8, e1, e2])
      · have e2 := beq_eq_false_iff_ne.2 h14
        have hp := zA_hlx l r i
        generalize dnO (elW l (i : Int)).1.1 (elW l (i : Int)).1.2.1 (elW l (i : Int)).1.2.2.1 (elW l (i : Int)).1.2.2.2 (elW l (i : Int)).2.2 r = D at hp kf ⊢
        obtain ⟨f1, f2, f3, f4, f5, f6, f7⟩ := kf
        have f8 := f7 false (fun hx => absurd hx.2.1 h14)
        rw [k5] at hp
        exact Tr.follow_get hp (by simp only [k1, k2, k3, k4, k6, k7, k8, k9, hn, f1, f2, f3, f4, f5, f6, f8, e1, e2])
    · have e1 := decide_eq_false ha1
      by_cases ha3 : 3 < (elW l (i : Int)).1.1
      · have e3 := decide_eq_true ha3
        by_cases h14 : (elW l (i : Int)).1.2.1 = 14
        · have e2 := beq_iff_eq.2 h14
          have hp := zA_hhy l r i
          generalize dnO (elW l (i : Int)).1.1 (elW l (i : Int)).1.2.1 (elW l (i : Int)).1.2.2.1 (elW l (i : Int)).1.2.2.2 (elW l (i : Int)).2.2 r = D at hp kf ⊢
          obtain ⟨f1, f2, f3, f4, f5, f6, f7⟩ := kf
          have f8 := f7 ((elW l (i : Int)).1.2.2.1 % 256 == 0) (fun hx => by rw [hmod] at hx; exact beq_iff_eq.2 hx.2.2)
          rw [k5] at hp
          exact Tr.follow_get hp (by simp only [k1, k2, k3, k4, k6, k7, k8, k9, hn, f1, f2, f3, f4, f5, f6, f8, e1, e2, e3])
        · have e2 := beq_eq_false_iff_ne.2 h14
          have hp := zA_hhx l r i
          generalize dnO (elW l (i : Int)).1.1 (elW l (i : Int)).1.2.1 (elW l (i : Int)).1.2.2.1 (elW l (i : Int)).1.2.2.2 (elW l (i : Int)).2.2 r = D at hp kf ⊢
          obtain ⟨f1, f2, f3, f4, f5, f6, f7⟩ := kf
          have f8 := f7 false (fun hx => absurd hx.2.1 h14)
          rw [k5] at hp
          exact Tr.follow_get hp (by simp only [k1, k2, k3, k4, k6, k7, k8, k9, hn, f1, f2, f3, f4, f5, f6, f8, e1, e2, e3])
      · have e3 := decide_eq_false ha3
        have hp := zA_hn l r i
        generalize dnO (elW l (i : Int)).1.1 (elW l (i : Int)).1.2.1 (elW l (i : Int)).1.2.2.1 (elW l (i : Int)).1.2.2.2 (elW l (i : Int)).2.2 r = D at hp kf ⊢
        obtain ⟨f1, f2, f3, f4, f5, f6, f7⟩ := kf
        have f8 := f7 false (fun hx => absurd (show (elW l (i : Int)).1.1 = 1 ∨ (elW l (i : Int)).1.1 = 2 ∨ (elW l (i : Int)).1.1 = 3 by omega) hx.1)
        rw [k5] at hp
        exact Tr.follow_get hp (by simp only [k1, k2, k3, k4, k6, k7, k8, k9, hn, f1, f2, f3, f4, f5, f6, f8, e1, e3])
theorem zB_round {l : List Wt} {r n : Rg} (h : RI n) (ha : AcQ l) {i : Nat} (hi : i < l.length) : (z8R (z8B l r n i)).get = some (.normal, z8B l r (dnW (elW l (i : Int)) n) ((i : Int) + 1)) := by
  have hl := ha.few
  have k1 := decide_eq_true (show (i : Int) < (l.length : Int) by omega)
  have k2 : Sx.inB (i : Int) l.length = true := inB_mk ⟨by omega, by omega⟩
  have k3 := decide_eq_true (show ((i : Nat) : Int).toNat < l.length by omega)
  have k4 : inR64 ((i : Int) + 1) = true := inR64_mk (by omega)
  obtain ⟨hw, hm, hbs⟩ := ha.at hi
  have k5 : (rng64 (elW l (i : Int)).1.2.2.1 && inR64 (elW l (i : Int)).1.2.2.2) = true := by rw [rng64_iff.2 hw, hm]; rfl
  obtain ⟨k6, k7⟩ := len8 h
  have k8 := h.v
  have hmod := lowB_mod hw
  cases hn : isNo (elW l (i : Int)).2.1 with
  | true =>
    have hb9 : bsW (elW l (i : Int)) = [] := by unfold bsW; rw [hn]
    rw [hb9] at hbs
    have k9 := decide_eq_true hbs
    have hd : dnW (elW l (i : Int)) n = dnO (elW l (i : Int)).1.1 (elW l (i : Int)).1.2.1 (elW l (i : Int)).1.2.2.1 (elW l (i : Int)).1.2.2.2 [] n := by unfold dnW; rw [hb9]
    rw [hd]
    have kf := st_facts h ha hi hd
    by_cases ha1 : (elW l (i : Int)).1.1 < 1
    · have e1 := decide_eq_true ha1
      by_cases h14 : (elW l (i : Int)).1.2.1 = 14
      · have e2 := beq_iff_eq.2 h14
        have hp := zB_rly l r n i
        generalize dnO (elW l (i : Int)).1.1 (elW l (i : Int)).1.2.1 (elW l (i : Int)).1.2.2.1 (elW l (i : Int)).1.2.2.2 [] n = D at hp kf ⊢
        obtain ⟨f1, f2, f3, f4, f5, f6, f7⟩ := kf
        have f8 := f7 ((elW l (i : Int)).1.2.2.1 % 256 == 0) (fun hx => by rw [hmod] at hx; exact beq_iff_eq.2 hx.2.2)
        rw [k5] at hp
        exact Tr.follow_get hp (by simp only [k1, k2, k3, k4, k6, k7, k8, k9, hn, f1, f2, f3, f4, f5, f6, f8, e1, e2])
      · have e2 := beq_eq_false_iff_ne.2 h14
        have hp := zB_rlx l r n i
        generalize dnO (elW l (i : Int)).1.1 (elW l (i : Int)).1.2.1 (elW l (i : Int)).1.2.2.1 (elW l (i : Int)).1.2.2.2 [] n = D at hp kf ⊢
        obtain ⟨f1, f2, f3, f4, f5, f6, f7⟩ := kf
        have f8 := f7 false (fun hx => absurd hx.2.1 h14)
        rw [k5] at hp
        exact Tr.follow_get hp (by simp only [k1, k2, k3, k4, k6, k7, k8, k9, hn, f1, f2, f3, f4, f5, f6, f8, e1, e2])
    · have e1 := decide_eq_false ha1
      by_cases ha3 : 3 < (elW l (i : Int)).1.1
      · have e3 := decide_eq_true ha3
        by_cases h14 : (elW l (i : Int)).1.2.1 = 14
        · have e2 := beq_iff_eq.2 h14
          have hp := zB_rhy l r n i
          generalize dnO (elW l (i : Int)).1.1 (elW l (i : Int)).1.2.1 (elW l (i : Int)).1.2.2.1 (elW l (i : Int)).1.2.2.2 [] n = D at hp kf ⊢
          obtain ⟨f1, f2, f3, f4, f5, f6, f7⟩ := kf
          have f8 := f7 ((elW l (i : Int)).1.2.2.1 % 256 == 0) (fun hx => by rw [hmod] at hx; exact beq_iff_eq.2 hx.2.2)
          rw [k5] at hp
          exact Tr.follow_get hp (by simp only [k1, k2, k3, k4, k6, k7, k8, k9, hn, f1, f2, f3, f4, f5, f6, f8, e1, e2, e3])
        · have e2 := beq_eq_false_iff_ne.2 h14
          have hp := zB_rhx l r n i
          generalize dnO (elW l (i : Int)).1.1 (elW l (i : Int)).1.2.1 (elW l (i : Int)).1.2.2.1 (elW l (i : Int)).1.2.2.2 [] n = D at hp kf ⊢
          obtain ⟨f1, f2, f3, f4, f5, f6, f7⟩ := kf
          have f8 := f7 false (fun hx => absurd hx.2.1 h14)
          rw [k5] at hp
          exact Tr.follow_get hp (by simp only [k1, k2, k3, k4, k6, k7, k8, k9, hn, f1, f2, f3, f4, f5, f6, f8, e1, e2, e3])
      · have e3 := decide_eq_false ha3
        have hp := zB_rn l r n i
        generalize dnO (elW l (i : Int)).1.1 (elW l (i : Int)).1.2.1 (elW l (i : Int)).1.2.2.1 (elW l (i : Int)).1.2.2.2 [] n = D at hp kf ⊢
        obtain ⟨f1, f2, f3, f4, f5, f6, f7⟩ := kf
        have f8 := f7 false (fun hx => absurd (show (elW l (i : Int)).1.1 = 1 ∨ (elW l (i : Int)).1.1 = 2 ∨ (elW l (i : Int)).1.1 = 3 by omega) hx.1)
        rw [k5] at hp
        exact Tr.follow_get hp (by simp only [k1, k2, k3, k4, k6, k7, k8, k9, hn, f1, f2, f3, f4, f5, f6, f8, e1, e3])
  | false =>
    have hb9 : bsW (elW l (i : Int)) = (elW l (i : Int)).2.2 := by unfold bsW; rw [hn]
    rw [hb9] at hbs
    have k9 := decide_eq_true hbs
    have hd : dnW (elW l (i : Int)) n = dnO (elW l (i : Int)).1.1 (elW l (i : Int)).1.2.1 (elW l (i : Int)).1.2.2.1 (elW l (i : Int)).1.2.2.2 (elW l (i : Int)).2.2 n := by unfold dnW; rw [hb9]
    rw [hd]
    have kf := st_facts h ha hi hd
    by_cases ha1 : (elW l (i : Int)).1.1 < 1
    · have e1 := decide_eq_true ha1
      by_cases h14 : (elW l (i : Int)).1.2.1 = 14
      · have e2 := beq_iff_eq.2 h14
        have hp := zB_hly l r n i
        generalize dnO (elW l (i : Int)).1.1 (elW l (i : Int)).1.2.1 (elW l (i : Int)).1.2.2.1 (elW l (i : Int)).1.2.2.2 (elW l (i : Int)).2.2 n = D at hp kf ⊢
        obtain ⟨f1, f2, f3, f4, f5, f6, f7⟩ := kf
        have f8 := f7 ((elW l (i : Int)).1.2.2.1 % 256 == 0) (fun hx => by rw [hmod] at hx; exact beq_iff_eq.2 hx.2.2)
        rw [k5] at hp
        exact Tr.follow_get hp (by simp only [k1, k2, k3, k4, k6, k7, k8, k9, hn, f1, f2, f3, f4, f5, f6, f8, e1, e2])
      · have e2 := beq_eq_false_iff_ne.2 h14
        have hp := zB_hlx l r n i
        generalize dnO (elW l (i : Int)).1.1 (elW l (i : Int)).1.2.1 (elW l (i : Int)).1.2.2.1 (elW l (i : Int)).1.2.2.2 (elW l (i : Int)).2.2 n = D at hp kf ⊢
        obtain ⟨f1, f2, f3, f4, f5, f6, f7⟩ := kf
        have f8 := f7 false (fun hx => absurd hx.2.1 h14)
        rw [k5] at hp
        exact Tr.follow_get hp (by simp only [k1, k2, k3, k4, k6, k7, k8, k9, hn, f1, f2, f3, f4, f5, f6, f8, e1, e2])
    · have e1 := decide_eq_false ha1
      by_cases ha3 : 3 < (elW l (i : Int)).1.1
      · have e3 := decide_eq_true ha3
        by_cases h14 : (elW l (i : Int)).1.2.1 = 14
        · have e2 := beq_iff_eq.2 h14
          have hp := zB_hhy l r n i
          generalize dnO (elW l (i : Int)).1.1 (elW l (i : Int)).1.2.1 (elW l (i : Int)).1.2.2.1 (elW l (i : Int)).1.2.2.2 (elW l (i : Int)).2.2 n = D at hp kf ⊢
          obtain ⟨f1, f2, f3, f4, f5, f6, f7⟩ := kf
          have f8 := f7 ((elW l (i : Int)).1.2.2.1 % 256 == 0) (fun hx => by rw [hmod] at hx; exact beq_iff_eq.2 hx.2.2)
          rw [k5] at hp
          exact Tr.follow_get hp (by simp only [k1, k2, k3, k4, k6, k7, k8, k9, hn, f1, f2, f3, f4, f5, f6, f8, e1, e2, e3])
        · have e2 := beq_eq_false_iff_ne.2 h14
          have hp := zB_hhx l r n i
          generalize dnO (elW l (i : Int)).1.1 (elW l (i : Int)).1.2.1 (elW l (i : Int)).1.2.2.1 (elW l (i : Int)).1.2.2.2 (elW l (i : Int)).2.2 n = D at hp kf ⊢
          obtain ⟨f1, f2, f3, f4, f5, f6, f7⟩ := kf
          have f8 := f7 false (fun hx => absurd hx.2.1 h14)
          rw [k5] at hp
          exact Tr.follow_get hp (by simp only [k1, k2, k3, k4, k6, k7, k8, k9, hn, f1, f2, f3, f4, f5, f6, f8, e1, e2, e3])
      · have e3 := decide_eq_false ha3
        have hp := zB_hn l r n i
        generalize dnO (elW l (i : Int)).1.1 (elW l (i : Int)).1.2.1 (elW l (i : Int)).1.2.2.1 (elW l (i : Int)).1.2.2.2 (elW l (i : Int)).2.2 n = D at hp kf ⊢
        obtain ⟨f1, f2, f3, f4, f5, f6, f7⟩ := kf
        have f8 := f7 false (fun hx => absurd (show (elW l (i : Int)).1.1 = 1 ∨ (elW l (i : Int)).1.1 = 2 ∨ (elW l (i : Int)).1.1 = 3 by omega) hx.1)
        rw [k5] at hp
        exact Tr.follow_get hp (by simp only [k1, k2, k3, k4, k6, k7, k8, k9, hn, f1, f2, f3, f4, f5, f6, f8, e1, e3])
@[reducible] def z8St (l : List Wt) (r : Rg) : Nat → List SV × List (SO C18)
  | 0 => z8A l r 0
  | k + 1 => z8B l r (rD r (l.take (k + 1))) ((k + 1 : Nat) : Int)
theorem z8_round {l : List Wt} {r : Rg} (h : RI r) (ha : AcQ l) {i : Nat} (hi : i < l.length) : (z8R (z8St l r i)).get = some (.normal, z8St l r (i + 1)) := by
  have e := rD_step (r := r) hi
  cases i with
  | zero =>
    refine (zA_round h ha hi).trans ?_
    show _ = some (Ex.normal, z8B l r (rD r (l.take (0 + 1))) ((0 + 1 : Nat) : Int))
    rw [e]; rfl
  | succ j =>
    refine (zB_round (r := r) (n := rD r (l.take (j + 1))) (rD_I h (fun a hm => ha.wd a (List.mem_of_mem_take hm))).1 ha hi).trans ?_
    show _ = some (Ex.normal, z8B l r (rD r (l.take (j + 1 + 1))) ((j + 1 + 1 : Nat) : Int))
    rw [e]; rfl
theorem z8_end {l : List Wt} {r : Rg} : (z8R (z8St l r l.length)).get = some (.exit 0, z8St l r l.length) := by
  have k1 : decide ((l.length : Int) < (l.length : Int)) = false := decide_eq_false (Int.lt_irrefl _)
  cases hn : l.length with
  | zero =>
    rw [hn] at k1
    exact Tr.follow_get (zA_end l r 0) (by rw [hn]; rfl)
  | succ j =>
    rw [hn] at k1
    exact Tr.follow_get (zB_end l r _ ((j + 1 : Nat) : Int)) (by rw [hn, k1])
theorem z8_loop : loopOf Try.prog 13 0 = some (((loopOf Try.prog 13 0).get!).1, (loopOf Try.prog 13 0).get!.2) := by kernel_rfl
theorem z8_run {l : List Wt} {r : Rg} (h : RI r) (ha : AcQ l) :
    Keeps 4 (z8St l r 0).2 (z8St l r l.length).2 ∧ LoopRun Try.prog ((loopOf Try.prog 13 0).get!).1 (loopOf Try.prog 13 0).get!.2 4 (LI.st zSl8 ⟨(z8St l r 0).1, 4, (z8St l r 0).2⟩) fun x T => ∃ vs os, (x = .exit 0 ∧ (vs, os) = z8St l r l.length) ∧ T = ⟨zipT zSl8 vs, numH 0 os, os.length⟩ := by
  constructor
  · cases l.length <;> exact Keeps.of3 (by simp) rfl
  · refine loop_li (σ := Nat) (st := z8St l r) (Inv := fun i => i ≤ l.length) (μ := fun i => l.length - i) (d := 10) (unr := unZ8) (sp := sfY8) (ls := Sx.addL 13 2 (loopS ySl8 [] y8Loop) noLs) plain mixed sfY8_ok (addL_ok y8_loop y8Loop_ok noLs_ok) z8_loop (fun i hi => ?_) 0 (Nat.zero_le _)
    by_cases h5 : i < l.length
    · exact ⟨_, z8_round h ha h5, fun _ => ⟨i + 1, by omega, by omega, rfl⟩, nofun⟩
    · obtain rfl : i = l.length := by omega
      exact ⟨_, z8_end, nofun, fun _ => ⟨rfl, rfl⟩⟩
def z8Leaf (l : List Wt) (r : Rg) : Tr (Ex × List SV × List (SO C18)) := .br (decide (l.length = 0)) (.leaf (.exit 0, z8A l r 0)) (.leaf (.exit 0, z8B l r (opq (rD r l)) (l.length : Int)))
theorem z8Leaf_get (l : List Wt) (r : Rg) : (z8Leaf l r).get = some (.exit 0, z8St l r l.length) := by
  unfold z8Leaf
  rw [opq_eq]
  cases hn : l.length with
  | zero => rfl
  | succ j =>
    have e : (l.take (j + 1)) = l := List.take_of_length_le (by omega)
    show some (Ex.exit 0, z8B l r (rD r l) ((j + 1 : Nat) : Int)) = some (Ex.exit 0, z8B l r (rD r (l.take (j + 1))) ((j + 1 : Nat) : Int))
    rw [e]
def z8Loop : LoopFn C18 := fun li => match li with
  | ⟨[.h 0, .h 1, .raw (.int .i64 (.ofNat 0)), .raw (.bool false)], 4, [.ss 71 4 5 l, .box [.raw (.int .i64 k), .raw (.int .u64 o), .raw (.int .u64 g), .raw (.int .u8 s), .raw (.int .i64 se), .raw (.int .i64 at'), .h 2, .h 3, .raw (.int .u8 ge), .raw (.int .u8 it)] 64, .sl true false 77 qs, .sl true false 5 cf]⟩ =>
    .br (cdec (RI ⟨k, o, g, s, se, at', ge, it, qs, cf⟩ ∧ AcQ l)) (z8Leaf l ⟨k, o, g, s, se, at', ge, it, qs, cf⟩) .fail
  | _ => .fail
theorem z8Loop_ok : ∀ tm hp n x, (loopS zSl8 [] z8Loop tm hp n).get = some x → InLoop Try.prog ((loopOf Try.prog 13 0).get!).1 (loopOf Try.prog 13 0).get!.2 tm hp n fun e tm hp n => (e, tm, hp, n) = x := loopS_of fun li r h => by
  unfold z8Loop at h
  split at h
  · rename_i l k o g s se at' ge it qs cf
    obtain ⟨h1, g1⟩ := Tr.get_ask.1 h
    obtain ⟨h2, h3⟩ := cdec_iff.1 h1
    have hr := Option.some.inj (g1.symm.trans (z8Leaf_get _ _))
    subst hr
    exact z8_run h2 h3
  · cases h
end
end Go.Proofs.Ytknkemjbikbhgaa
