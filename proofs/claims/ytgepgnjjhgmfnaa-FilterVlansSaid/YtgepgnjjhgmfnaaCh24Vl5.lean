/-
  Chapter 24: FilterVlans, what it computes. Own work; nothing here is trusted.
-/
import Derived.Test.YtgepgnjjhgmfnaaCh24Vl4
namespace Go.Proofs.Ytgepgnjjhgmfnaa
open Go Go.Sx Go.RowKit
set_option maxRecDepth 1000000
set_option maxHeartbeats 8000000
set_option linter.unusedVariables false
set_option linter.unusedSimpArgs false
noncomputable section
theorem li_len3 {F : Fp} (h : liF F = true) : F.2.2.2.1.length ≤ 60 ∧ F.2.2.2.2.1.length ≤ 60 ∧ F.2.2.2.2.2.length ≤ 60 := by
  unfold liF at h
  simp only [Bool.and_eq_true, decide_eq_true_eq] at h
  omega
theorem left_law {ts : List Int} {x y : Int} (h : ts.Pairwise (· < ·)) : remV (remV (addV (addV ts x) y) x) y = leftV x y ts :=
  srt_uniq (pw_remV (pw_remV (pw_addV (pw_addV h)))) (h.sublist List.filter_sublist) fun z => by
    rw [mem_remV (pw_remV (pw_addV (pw_addV h))), mem_remV (pw_addV (pw_addV h)), mem_addV (pw_addV h), mem_addV h, leftV, List.mem_filter, Bool.and_eq_true, bne_iff_ne, bne_iff_ne]
    exact ⟨fun ⟨⟨h1, h2⟩, h3⟩ => ⟨h1.elim (fun e => absurd e h3) fun h1 => h1.elim (fun e => absurd e h2) id, h2, h3⟩, fun ⟨h1, h2, h3⟩ => ⟨⟨.inr (.inr h1), h2⟩, h3⟩⟩
theorem left_off {ts : List Int} {x y : Int} : x ∉ leftV x y ts := by
  unfold leftV
  rw [List.mem_filter, Bool.and_eq_true, bne_iff_ne]
  exact fun h => h.2.1 rfl
theorem pass_in {F : Fp} {xd xs : Mac} {n xt : Int} {l : List Int} (h0 : 0 ≤ n) (h1 : n < 4096) (hm : n ∈ F.2.2.2.2.2) (feats : Int) : passP feats F (xd, xs, n, xt, l) = passP feats F (xd, xs, -1, xt, l) := by
  rw [Bool.eq_iff_iff, passP_iff, passP_iff]
  simp only
  constructor
  · rintro ⟨a, b, c, d, e, f, g⟩
    exact ⟨a, by decide, by decide, d, e, fun _ h => absurd h (by decide), g⟩
  · rintro ⟨a, b, c, d, e, f, g⟩
    exact ⟨a, eq_false (by omega), eq_false (by omega), d, e, fun _ _ => hm, g⟩
theorem pass_no {F : Fp} {xd xs : Mac} {n xt : Int} {l : List Int} (h0 : 0 ≤ n) (h1 : n < 4096) : passP 0 F (xd, xs, n, xt, l) = passP 0 F (xd, xs, -1, xt, l) := by
  have hb : hasB 0 19 = false := by kernel_rfl
  rw [Bool.eq_iff_iff, passP_iff, passP_iff, hb]
  simp only
  constructor
  · rintro ⟨a, b, c, d, e, f, g⟩
    exact ⟨a, by decide, by decide, d, e, nofun, g⟩
  · rintro ⟨a, b, c, d, e, f, g⟩
    exact ⟨a, eq_false (by omega), eq_false (by omega), d, e, nofun, g⟩
theorem pass_off {F : Fp} {xd xs : Mac} {n xt : Int} {l : List Int} (h0 : 0 ≤ n) (hm : n ∉ F.2.2.2.2.2) : passP cFt F (xd, xs, n, xt, l) = false := by
  have hb : hasB cFt 19 = true := by kernel_rfl
  rw [← Bool.not_eq_true, passP_iff]
  rintro ⟨a, b, c, d, e, f, g⟩
  exact hm (f hb h0)
theorem vlans_get (m : Mac) (p q : Bool) (o g : Lo Mac) (v : Lo Int) (xd xs : Mac) (xv xt : Int) (d : Lo Int) (a b : Int) : (fV7 (m, p, q, o, g, v) a b (xd, xs, xv, xt, d)).get = some (.raw (.bool true), []) := by
  cases hl : liF (m, p, q, lo o, lo g, lo v) with
  | false =>
    have k0 : (!liF (m, p, q, (lo o), (lo g), (lo v))) = true := fNf hl
    exact Tr.follow_get (fv_1 m p q o g v xd xs xv xt d a b) (by simp only [k0])
  | true =>
  have hlen := li_len3 hl
  simp only at hlen
  have hsF : ∀ X : List Int, X.length ≤ 100 → smF (m, p, q, lo o, lo g, X) = true := fun X hX => decide_eq_true ⟨by simp only; omega, by simp only; omega, by simp only; omega⟩
  have l0 : (lo v).length ≤ 100 := by omega
  have hs := hsF _ l0
  have kl : (!liF (m, p, q, (lo o), (lo g), (lo v))) = false := fNt hl
  cases hok : okF (m, p, q, lo o, lo g, lo v) with
  | false => exact Tr.follow_get (fv_2 m p q o g v xd xs xv xt d a b) (by simp only [kl, hs, hok])
  | true =>
  cases hd : decide ((1500 : Int) < ((lo d).length : Int)) with
  | true => exact Tr.follow_get (fv_3 m p q o g v xd xs xv xt d a b) (by simp only [kl, hs, hok, hd])
  | false =>
  have ha := pkN_in a
  have hb := pkN_in b
  obtain ⟨ho1, hg1, hs0⟩ := okF_iff.1 hok
  simp only at ho1 hg1 hs0
  have hokv : ∀ X : List Int, srtV X → okF (m, p, q, lo o, lo g, X) = true := fun X hX => okF_iff.2 ⟨ho1, hg1, hX⟩
  have eA : wV (lo v) (vB (pkN a)) = addV (lo v) (pkN a) := wV_add ha.1 ha.2
  have eB : wV (lo v) (vB (pkN b)) = addV (lo v) (pkN b) := wV_add hb.1 hb.2
  have eAB : wV (wV (lo v) (vB (pkN a))) (vB (pkN b)) = addV (addV (lo v) (pkN a)) (pkN b) := by rw [wV_add hb.1 hb.2, eA]
  have eBA : wV (wV (lo v) (vB (pkN b))) (vB (pkN a)) = addV (addV (lo v) (pkN b)) (pkN a) := by rw [wV_add ha.1 ha.2, eB]
  have eR : wV (wV (wV (lo v) (vB (pkN a))) (vB (pkN b))) (vR (pkN a)) = remV (addV (addV (lo v) (pkN a)) (pkN b)) (pkN a) := by rw [wV_rem ha.1 ha.2, eAB]
  have eRR : wV (wV (wV (wV (lo v) (vB (pkN a))) (vB (pkN b))) (vR (pkN a))) (vR (pkN b)) = leftV (pkN a) (pkN b) (lo v) := by rw [wV_rem hb.1 hb.2, eR, left_law hs0.1]
  have s0 := hs0
  have sA : srtV (wV (lo v) (vB (pkN a))) := by rw [eA]; exact srt_addV hs0 ha.1 ha.2
  have sB : srtV (wV (lo v) (vB (pkN b))) := by rw [eB]; exact srt_addV hs0 hb.1 hb.2
  have sAB : srtV (wV (wV (lo v) (vB (pkN a))) (vB (pkN b))) := by rw [eAB]; exact srt_addV (srt_addV hs0 ha.1 ha.2) hb.1 hb.2
  have sBA : srtV (wV (wV (lo v) (vB (pkN b))) (vB (pkN a))) := by rw [eBA]; exact srt_addV (srt_addV hs0 hb.1 hb.2) ha.1 ha.2
  have sR : srtV (wV (wV (wV (lo v) (vB (pkN a))) (vB (pkN b))) (vR (pkN a))) := by rw [eR, ← eAB]; exact srt_remV sAB
  have q1 : (addV (lo v) (pkN a)).length ≤ (lo v).length + 1 := len_addV
  have q2 : (addV (lo v) (pkN b)).length ≤ (lo v).length + 1 := len_addV
  have q3 : (addV (addV (lo v) (pkN a)) (pkN b)).length ≤ (addV (lo v) (pkN a)).length + 1 := len_addV
  have q4 : (addV (addV (lo v) (pkN b)) (pkN a)).length ≤ (addV (lo v) (pkN b)).length + 1 := len_addV
  have q5 : (remV (addV (addV (lo v) (pkN a)) (pkN b)) (pkN a)).length ≤ (addV (addV (lo v) (pkN a)) (pkN b)).length := len_remV
  have q6 : (leftV (pkN a) (pkN b) (lo v)).length ≤ (lo v).length := List.length_filter_le _ _
  have lA : (wV (lo v) (vB (pkN a))).length ≤ 100 := by rw [eA]; omega
  have lB : (wV (lo v) (vB (pkN b))).length ≤ 100 := by rw [eB]; omega
  have lAB : (wV (wV (lo v) (vB (pkN a))) (vB (pkN b))).length ≤ 100 := by rw [eAB]; omega
  have lBA : (wV (wV (lo v) (vB (pkN b))) (vB (pkN a))).length ≤ 100 := by rw [eBA]; omega
  have lR : (wV (wV (wV (lo v) (vB (pkN a))) (vB (pkN b))) (vR (pkN a))).length ≤ 100 := by rw [eR]; omega
  have lRR : (wV (wV (wV (wV (lo v) (vB (pkN a))) (vB (pkN b))) (vR (pkN a))) (vR (pkN b))).length ≤ 100 := by rw [eRR]; omega
  have hin : pkN a ∈ wV (wV (lo v) (vB (pkN a))) (vB (pkN b)) := by rw [eAB]; exact (mem_addV (pw_addV hs0.1)).2 (.inr ((mem_addV hs0.1).2 (.inl rfl)))
  have hp1 : passP (4304273440 : Int) (m, p, q, (lo o), (lo g), (wV (wV (lo v) (vB (pkN a))) (vB (pkN b)))) (xd, xs, pkN a, xt, (lo d)) = passP (4304273440 : Int) (m, p, q, (lo o), (lo g), (wV (wV (lo v) (vB (pkN a))) (vB (pkN b)))) (xd, xs, (-1 : Int), xt, (lo d)) := pass_in ha.1 ha.2 hin _
  have hp2 : passP (0 : Int) (m, p, q, (lo o), (lo g), (lo v)) (xd, xs, pkN a, xt, (lo d)) = passP (0 : Int) (m, p, q, (lo o), (lo g), (lo v)) (xd, xs, (-1 : Int), xt, (lo d)) := pass_no ha.1 ha.2
  have hp3 : passP (4304273440 : Int) (m, p, q, (lo o), (lo g), (wV (wV (wV (wV (lo v) (vB (pkN a))) (vB (pkN b))) (vR (pkN a))) (vR (pkN b)))) (xd, xs, pkN a, xt, (lo d)) = false := pass_off ha.1 (by rw [eRR]; exact left_off)
  cases hnil : nilB (leftV (pkN a) (pkN b) (lo v)) with
  | true =>
    have hz : leftV (pkN a) (pkN b) (lo v) = [] := by
      generalize leftV (pkN a) (pkN b) (lo v) = l at hnil
      cases l with
      | nil => rfl
      | cons x r => cases hnil
    have hRl : (!eqL (wV (wV (wV (wV (lo v) (vB (pkN a))) (vB (pkN b))) (vR (pkN a))) (vR (pkN b))) []) = false := by rw [eRR, hz, eqL_self]; rfl
    have k0 : (!liF (m, p, q, (lo o), (lo g), (lo v))) = false := (fNt hl)
    have k1 : (smF (m, p, q, (lo o), (lo g), (lo v))) = true := (hsF _ l0)
    have k2 : (okF (m, p, q, (lo o), (lo g), (lo v))) = true := (hokv _ s0)
    have k3 : (decide ((1500 : Int) < (↑(lo d).length : Int))) = false := hd
    have k4 : (smX (lo o) (lo g) (lo v)) = true := (hsF _ l0)
    have k5 : (byB (vB (pkN a))) = true := (vB_by ha.1 ha.2)
    have k6 : (isV (vB (pkN a))) = true := (isV_add ha.1 ha.2)
    have k7 : (smX (lo o) (lo g) (wV (lo v) (vB (pkN a)))) = true := (hsF _ lA)
    have k8 : (byB (vB (pkN b))) = true := (vB_by hb.1 hb.2)
    have k9 : (isV (vB (pkN b))) = true := (isV_add hb.1 hb.2)
    have k10 : (okF (m, p, q, (lo o), (lo g), wV (lo v) (vB (pkN a)))) = true := (hokv _ sA)
    have k11 : (smX (lo o) (lo g) (wV (lo v) (vB (pkN b)))) = true := (hsF _ lB)
    have k12 : (okF (m, p, q, (lo o), (lo g), wV (lo v) (vB (pkN b)))) = true := (hokv _ sB)
    have k13 : (smF (m, p, q, (lo o), (lo g), (wV (wV (lo v) (vB (pkN a))) (vB (pkN b))))) = true := (hsF _ lAB)
    have k14 : (smX (lo o) (lo g) ((wV (wV (lo v) (vB (pkN a))) (vB (pkN b))))) = true := (hsF _ lAB)
    have k15 : (byB (vR (pkN a))) = true := (vR_by ha.1 ha.2)
    have k16 : (isV (vR (pkN a))) = true := (isV_rem ha.1 ha.2)
    have k17 : (okF (m, p, q, (lo o), (lo g), (wV (wV (lo v) (vB (pkN a))) (vB (pkN b))))) = true := (hokv _ sAB)
    have k18 : (smX (lo o) (lo g) (wV ((wV (wV (lo v) (vB (pkN a))) (vB (pkN b)))) (vR (pkN a)))) = true := (hsF _ lR)
    have k19 : (byB (vR (pkN b))) = true := (vR_by hb.1 hb.2)
    have k20 : (isV (vR (pkN b))) = true := (isV_rem hb.1 hb.2)
    have k21 : (okF (m, p, q, (lo o), (lo g), wV ((wV (wV (lo v) (vB (pkN a))) (vB (pkN b)))) (vR (pkN a)))) = true := (hokv _ sR)
    have k22 : (!eqF (m, p, q, (lo o), (lo g), (wV (wV (lo v) (vB (pkN a))) (vB (pkN b)))) (m, p, q, (lo o), (lo g), (wV (wV (lo v) (vB (pkN b))) (vB (pkN a))))) = false := (by rw [eAB, eBA, add_comm_V hs0.1, eqF_self]; rfl)
    have k23 : (decide ((lo v).length ≤ (100000 : Nat))) = true := (decide_eq_true (by omega))
    have k24 : (nilB (leftV (pkN a) (pkN b) (lo v))) = true := hnil
    have k25 : (decide (((wV (wV (wV (wV (lo v) (vB (pkN a))) (vB (pkN b))) (vR (pkN a))) (vR (pkN b)))).length ≤ (100000 : Nat))) = true := (decide_eq_true (Nat.le_trans lRR (by decide)))
    have k26 : (!eqL ((wV (wV (wV (wV (lo v) (vB (pkN a))) (vB (pkN b))) (vR (pkN a))) (vR (pkN b)))) []) = false := hRl
    have k27 : (passP (4304273440 : Int) (m, p, q, (lo o), (lo g), (wV (wV (lo v) (vB (pkN a))) (vB (pkN b)))) (xd, xs, pkN a, xt, (lo d)) == passP (4304273440 : Int) (m, p, q, (lo o), (lo g), (wV (wV (lo v) (vB (pkN a))) (vB (pkN b)))) (xd, xs, (-1 : Int), xt, (lo d))) = true := (beq_iff_eq.2 hp1)
    have k28 : (passP (0 : Int) (m, p, q, (lo o), (lo g), (lo v)) (xd, xs, pkN a, xt, (lo d)) == passP (0 : Int) (m, p, q, (lo o), (lo g), (lo v)) (xd, xs, (-1 : Int), xt, (lo d))) = true := (beq_iff_eq.2 hp2)
    have k29 : (smF (m, p, q, (lo o), (lo g), (wV (wV (wV (wV (lo v) (vB (pkN a))) (vB (pkN b))) (vR (pkN a))) (vR (pkN b))))) = true := (hsF _ lRR)
    refine (Tr.follow_get (fv_mt m p q o g v xd xs xv xt d a b) (by simp only [k0, k1, k2, k3, k4, k5, k6, k7, k8, k9, k10, k11, k12, k13, k14, k15, k16, k17, k18, k19, k20, k21, k22, k23, k24, k25, k26, k27, k28, k29])).trans ?_
    rw [hp3]; rfl
  | false =>
    have hRl : (!eqL (wV (wV (wV (wV (lo v) (vB (pkN a))) (vB (pkN b))) (vR (pkN a))) (vR (pkN b))) (leftV (pkN a) (pkN b) (lo v))) = false := by rw [eRR, eqL_self]; rfl
    have k0 : (!liF (m, p, q, (lo o), (lo g), (lo v))) = false := (fNt hl)
    have k1 : (smF (m, p, q, (lo o), (lo g), (lo v))) = true := (hsF _ l0)
    have k2 : (okF (m, p, q, (lo o), (lo g), (lo v))) = true := (hokv _ s0)
    have k3 : (decide ((1500 : Int) < (↑(lo d).length : Int))) = false := hd
    have k4 : (smX (lo o) (lo g) (lo v)) = true := (hsF _ l0)
    have k5 : (byB (vB (pkN a))) = true := (vB_by ha.1 ha.2)
    have k6 : (isV (vB (pkN a))) = true := (isV_add ha.1 ha.2)
    have k7 : (smX (lo o) (lo g) (wV (lo v) (vB (pkN a)))) = true := (hsF _ lA)
    have k8 : (byB (vB (pkN b))) = true := (vB_by hb.1 hb.2)
    have k9 : (isV (vB (pkN b))) = true := (isV_add hb.1 hb.2)
    have k10 : (okF (m, p, q, (lo o), (lo g), wV (lo v) (vB (pkN a)))) = true := (hokv _ sA)
    have k11 : (smX (lo o) (lo g) (wV (lo v) (vB (pkN b)))) = true := (hsF _ lB)
    have k12 : (okF (m, p, q, (lo o), (lo g), wV (lo v) (vB (pkN b)))) = true := (hokv _ sB)
    have k13 : (smF (m, p, q, (lo o), (lo g), (wV (wV (lo v) (vB (pkN a))) (vB (pkN b))))) = true := (hsF _ lAB)
    have k14 : (smX (lo o) (lo g) ((wV (wV (lo v) (vB (pkN a))) (vB (pkN b))))) = true := (hsF _ lAB)
    have k15 : (byB (vR (pkN a))) = true := (vR_by ha.1 ha.2)
    have k16 : (isV (vR (pkN a))) = true := (isV_rem ha.1 ha.2)
    have k17 : (okF (m, p, q, (lo o), (lo g), (wV (wV (lo v) (vB (pkN a))) (vB (pkN b))))) = true := (hokv _ sAB)
    have k18 : (smX (lo o) (lo g) (wV ((wV (wV (lo v) (vB (pkN a))) (vB (pkN b)))) (vR (pkN a)))) = true := (hsF _ lR)
    have k19 : (byB (vR (pkN b))) = true := (vR_by hb.1 hb.2)
    have k20 : (isV (vR (pkN b))) = true := (isV_rem hb.1 hb.2)
    have k21 : (okF (m, p, q, (lo o), (lo g), wV ((wV (wV (lo v) (vB (pkN a))) (vB (pkN b)))) (vR (pkN a)))) = true := (hokv _ sR)
    have k22 : (!eqF (m, p, q, (lo o), (lo g), (wV (wV (lo v) (vB (pkN a))) (vB (pkN b)))) (m, p, q, (lo o), (lo g), (wV (wV (lo v) (vB (pkN b))) (vB (pkN a))))) = false := (by rw [eAB, eBA, add_comm_V hs0.1, eqF_self]; rfl)
    have k23 : (decide ((lo v).length ≤ (100000 : Nat))) = true := (decide_eq_true (by omega))
    have k24 : (nilB (leftV (pkN a) (pkN b) (lo v))) = false := hnil
    have k25 : (decide (((wV (wV (wV (wV (lo v) (vB (pkN a))) (vB (pkN b))) (vR (pkN a))) (vR (pkN b)))).length ≤ (100000 : Nat))) = true := (decide_eq_true (Nat.le_trans lRR (by decide)))
    have k26 : (!eqL ((wV (wV (wV (wV (lo v) (vB (pkN a))) (vB (pkN b))) (vR (pkN a))) (vR (pkN b)))) (leftV (pkN a) (pkN b) (lo v))) = false := hRl
    have k27 : (passP (4304273440 : Int) (m, p, q, (lo o), (lo g), (wV (wV (lo v) (vB (pkN a))) (vB (pkN b)))) (xd, xs, pkN a, xt, (lo d)) == passP (4304273440 : Int) (m, p, q, (lo o), (lo g), (wV (wV (lo v) (vB (pkN a))) (vB (pkN b)))) (xd, xs, (-1 : Int), xt, (lo d))) = true := (beq_iff_eq.2 hp1)
    have k28 : (passP (0 : Int) (m, p, q, (lo o), (lo g), (lo v)) (xd, xs, pkN a, xt, (lo d)) == passP (0 : Int) (m, p, q, (lo o), (lo g), (lo v)) (xd, xs, (-1 : Int), xt, (lo d))) = true := (beq_iff_eq.2 hp2)
    have k29 : (smF (m, p, q, (lo o), (lo g), (wV (wV (wV (wV (lo v) (vB (pkN a))) (vB (pkN b))) (vR (pkN a))) (vR (pkN b))))) = true := (hsF _ lRR)
    refine (Tr.follow_get (fv_mf m p q o g v xd xs xv xt d a b) (by simp only [k0, k1, k2, k3, k4, k5, k6, k7, k8, k9, k10, k11, k12, k13, k14, k15, k16, k17, k18, k19, k20, k21, k22, k23, k24, k25, k26, k27, k28, k29])).trans ?_
    rw [hp3]; rfl
end
end Go.Proofs.Ytgepgnjjhgmfnaa
