/-
 Chapter 24: FilterPasses, what it computes. Own work; nothing here is trusted.
-/
import Derived.Test.YtgepgnjjhgmfnaaCh24Pas1
namespace Go.Proofs.Ytgepgnjjhgmfnaa
open Go Go.Sx Go.RowKit
set_option maxRecDepth 1000000
set_option maxHeartbeats 8000000
set_option linter.unusedVariables false
set_option linter.unusedSimpArgs false
noncomputable section
theorem li_len {F : Fp} (h : liF F = true) : F.2.2.2.1.length ≤ 60 ∧ F.2.2.2.2.1.length ≤ 60 ∧ F.2.2.2.2.2.length ≤ 60 := by
 unfold liF at h
 simp only [Bool.and_eq_true, decide_eq_true_eq] at h
 omega
theorem grp_even {m : Mac} (h : 0 ≤ m.1 ∧ m.1 ≤ 255) : grpM m = !(m.1.tmod 2 == 0) := by
 obtain ⟨k, hk⟩ := Int.eq_ofNat_of_zero_le h.1
 unfold grpM
 rw [hk]
 exact and_mod ⟨k, by omega⟩
theorem passes_get (m : Mac) (p q : Bool) (o g : Lo Mac) (v : Lo Int) (xd xs : Mac) (xv xt : Int) (d : Lo Int) (a : Mac) (n : Int) (feats : Int) (hm : 0 ≤ m.1 ∧ m.1 ≤ 255) : (fW4 (m, p, q, o, g, v) a n (xd, xs, xv, xt, d) feats).get = some (.raw (.bool true), []) := by
 cases hl : liF (m, p, q, lo o, lo g, lo v) with
 | false =>
  have k0 : (!liF (m, p, q, (lo o), (lo g), (lo v))) = true := fNf hl
  exact Tr.follow_get (fp_g1 m p q o g v xd xs xv xt d a n feats) (by simp only [k0])
 | true =>
 have hlen := li_len hl
 simp only at hlen
 cases hd : decide ((1500 : Int) < ((lo d).length : Int)) with
 | true =>
  have k0 : (!liF (m, p, q, (lo o), (lo g), (lo v))) = false := fNt hl
  exact Tr.follow_get (fp_g2 m p q o g v xd xs xv xt d a n feats) (by simp only [k0, hd])
 | false =>
 have hs : smF (m, p, q, lo o, lo g, lo v) = true := decide_eq_true ⟨by simp only; omega, by simp only; omega, by simp only; omega⟩
 cases hok : okF (m, p, q, lo o, lo g, lo v) with
 | false =>
  have k0 : (!liF (m, p, q, (lo o), (lo g), (lo v))) = false := fNt hl
  exact Tr.follow_get (fp_g3 m p q o g v xd xs xv xt d a n feats) (by simp only [k0, hd, hs, hok])
 | true =>
 have hn := pkN_in n
 have hby := vB_by hn.1 hn.2
 have hx := ctO_add hn.1 hn.2 hok
 have hso : smF (m, p, q, (lo o) ++ [a], lo g, lo v) = true := decide_eq_true ⟨by simp only [List.length_append, List.length_cons, List.length_nil]; omega, by simp only; omega, by simp only; omega⟩
 have hsg : smF (m, p, q, lo o, (lo g) ++ [a], lo v) = true := decide_eq_true ⟨by simp only; omega, by simp only [List.length_append, List.length_cons, List.length_nil]; omega, by simp only; omega⟩
 have hro : roomB ((lo o).length + [a].length) Try.prog.types[(22 : Nat)].bytes = true := roomM (by simp only [List.length_cons, List.length_nil]; omega)
 have hrg : roomB ((lo g).length + [a].length) Try.prog.types[(22 : Nat)].bytes = true := roomM (by simp only [List.length_cons, List.length_nil]; omega)
 have hB := bare feats m 2048 rfl (0, 0, 0, 0, 0, 0)
 have hgr : (m.1.tmod 2 == 0) = true → grpM m = false := fun h => by rw [grp_even hm, h]; rfl
 have hgr' : (m.1.tmod 2 == 0) = false → grpM m = true := fun h => by rw [grp_even hm, h]; rfl
 have hsv : smF (m, p, q, lo o, lo g, insL (lo v) (bsZ (lo v) (pkN n)).toNat [pkN n]) = true := decide_eq_true ⟨by simp only; omega, by simp only; omega, by
  simp only [insL, List.length_append, List.length_cons, List.length_nil, List.length_take, List.length_drop]; omega⟩
 cases hb : bsF (lo v) (pkN n) with
 | true =>
  have hc : ctO cFt (m, p, q, lo o, lo g, lo v) (vB (pkN n)) = Oc.keep m p q := by rw [hx, hb]; rfl
  cases hw : (passP feats (m, p, q, (lo o), (lo g), (lo v)) (xd, xs, xv, xt, (lo d))) with
  | true =>
   cases hoo : (okF (m, p, q, (lo o) ++ [a], (lo g), (lo v))) with
   | true =>
    cases hog : (okF (m, p, q, (lo o), (lo g) ++ [a], (lo v))) with
    | true =>
     cases he : (m.fst.tmod (2 : Int) == (0 : Int)) with
     | true =>
      have hgr := hgr he
      have k0 : (!liF (m, p, q, (lo o), (lo g), (lo v))) = false := (fNt hl)
      have k1 : (decide ((1500 : Int) < (↑(lo d).length : Int))) = false := hd
      have k2 : (smF (m, p, q, (lo o), (lo g), (lo v))) = true := hs
      have k3 : (okF (m, p, q, (lo o), (lo g), (lo v))) = true := hok
      have k4 : (roomB ((lo o).length + [a].length) Try.prog.types[(22 : Nat)].bytes) = true := hro
      have k5 : (roomB ((lo g).length + [a].length) Try.prog.types[(22 : Nat)].bytes) = true := hrg
      have k6 : (smX (lo o) (lo g) (lo v)) = true := hs
      have k7 : (byB (vB (pkN n))) = true := hby
      have k8 : ((ocK (ctO cFt (m, p, q, lo o, lo g, lo v) (vB (pkN n)))).beq (0 : Nat)) = false := (by rw [hc]; rfl)
      have k9 : ((ocK (ctO cFt (m, p, q, lo o, lo g, lo v) (vB (pkN n)))).beq (1 : Nat)) = true := (by rw [hc]; rfl)
      have k10 : (passP feats (m, p, q, (lo o), (lo g), (lo v)) (xd, xs, xv, xt, (lo d))) = true := hw
      have k11 : (smF (m, p, q, (lo o) ++ [a], (lo g), (lo v))) = true := hso
      have k12 : (okF (m, p, q, (lo o) ++ [a], (lo g), (lo v))) = true := hoo
      have k13 : (!passP feats (m, p, q, (lo o) ++ [a], (lo g), (lo v)) (xd, xs, xv, xt, (lo d))) = false := (fNt (passP_mono (F := (m, p, q, lo o, lo g, lo v)) hoo rfl id id (fun _ h => List.mem_append_left _ h) (fun _ h => h) (fun _ h => h) hw))
      have k14 : (smF (m, p, true, (lo o), (lo g), (lo v))) = true := hs
      have k15 : (okF (m, p, true, (lo o), (lo g), (lo v))) = true := hok
      have k16 : (!passP feats (m, p, true, (lo o), (lo g), (lo v)) (xd, xs, xv, xt, (lo d))) = false := (fNt (passP_mono (F := (m, p, q, lo o, lo g, lo v)) hok rfl id (fun _ => rfl) (fun _ h => h) (fun _ h => h) (fun _ h => h) hw))
      have k17 : (smF (m, true, q, (lo o), (lo g), (lo v))) = true := hs
      have k18 : (okF (m, true, q, (lo o), (lo g), (lo v))) = true := hok
      have k19 : (!passP feats (m, true, q, (lo o), (lo g), (lo v)) (xd, xs, xv, xt, (lo d))) = false := (fNt (passP_mono (F := (m, p, q, lo o, lo g, lo v)) hok rfl (fun _ => rfl) id (fun _ h => h) (fun _ h => h) (fun _ h => h) hw))
      have k20 : (smF (m, p, q, (lo o), (lo g) ++ [a], (lo v))) = true := hsg
      have k21 : (okF (m, p, q, (lo o), (lo g) ++ [a], (lo v))) = true := hog
      have k22 : (!passP feats (m, p, q, (lo o), (lo g) ++ [a], (lo v)) (xd, xs, xv, xt, (lo d))) = false := (fNt (passP_mono (F := (m, p, q, lo o, lo g, lo v)) hog rfl id id (fun _ h => h) (fun _ h => List.mem_append_left _ h) (fun _ h => h) hw))
      have k23 : (smF (((ocM (m, p, q, (lo o), (lo g), (lo v)) (ctO cFt (m, p, q, lo o, lo g, lo v) (vB (pkN n)))).fst, (ocM (m, p, q, (lo o), (lo g), (lo v)) (ctO cFt (m, p, q, lo o, lo g, lo v) (vB (pkN n)))).snd.fst, (ocM (m, p, q, (lo o), (lo g), (lo v)) (ctO cFt (m, p, q, lo o, lo g, lo v) (vB (pkN n)))).snd.snd.fst, (ocM (m, p, q, (lo o), (lo g), (lo v)) (ctO cFt (m, p, q, lo o, lo g, lo v) (vB (pkN n)))).snd.snd.snd.fst, (ocM (m, p, q, (lo o), (lo g), (lo v)) (ctO cFt (m, p, q, lo o, lo g, lo v) (vB (pkN n)))).snd.snd.snd.snd.fst, (ocM (m, p, q, (lo o), (lo g), (lo v)) (ctO cFt (m, p, q, lo o, lo g, lo v) (vB (pkN n)))).snd.snd.snd.snd.snd), ocP (m, p, q, (lo o), (lo g), (lo v)) (ctO cFt (m, p, q, lo o, lo g, lo v) (vB (pkN n))), ocQ (m, p, q, (lo o), (lo g), (lo v)) (ctO cFt (m, p, q, lo o, lo g, lo v) (vB (pkN n))), (lo o), (lo g), (lo v))) = true := (by rw [hc]; exact hs)
      have k24 : (okF (((ocM (m, p, q, (lo o), (lo g), (lo v)) (ctO cFt (m, p, q, lo o, lo g, lo v) (vB (pkN n)))).fst, (ocM (m, p, q, (lo o), (lo g), (lo v)) (ctO cFt (m, p, q, lo o, lo g, lo v) (vB (pkN n)))).snd.fst, (ocM (m, p, q, (lo o), (lo g), (lo v)) (ctO cFt (m, p, q, lo o, lo g, lo v) (vB (pkN n)))).snd.snd.fst, (ocM (m, p, q, (lo o), (lo g), (lo v)) (ctO cFt (m, p, q, lo o, lo g, lo v) (vB (pkN n)))).snd.snd.snd.fst, (ocM (m, p, q, (lo o), (lo g), (lo v)) (ctO cFt (m, p, q, lo o, lo g, lo v) (vB (pkN n)))).snd.snd.snd.snd.fst, (ocM (m, p, q, (lo o), (lo g), (lo v)) (ctO cFt (m, p, q, lo o, lo g, lo v) (vB (pkN n)))).snd.snd.snd.snd.snd), ocP (m, p, q, (lo o), (lo g), (lo v)) (ctO cFt (m, p, q, lo o, lo g, lo v) (vB (pkN n))), ocQ (m, p, q, (lo o), (lo g), (lo v)) (ctO cFt (m, p, q, lo o, lo g, lo v) (vB (pkN n))), (lo o), (lo g), (lo v))) = true := (by rw [hc]; exact hok)
      have k25 : (!passP feats (((ocM (m, p, q, (lo o), (lo g), (lo v)) (ctO cFt (m, p, q, lo o, lo g, lo v) (vB (pkN n)))).fst, (ocM (m, p, q, (lo o), (lo g), (lo v)) (ctO cFt (m, p, q, lo o, lo g, lo v) (vB (pkN n)))).snd.fst, (ocM (m, p, q, (lo o), (lo g), (lo v)) (ctO cFt (m, p, q, lo o, lo g, lo v) (vB (pkN n)))).snd.snd.fst, (ocM (m, p, q, (lo o), (lo g), (lo v)) (ctO cFt (m, p, q, lo o, lo g, lo v) (vB (pkN n)))).snd.snd.snd.fst, (ocM (m, p, q, (lo o), (lo g), (lo v)) (ctO cFt (m, p, q, lo o, lo g, lo v) (vB (pkN n)))).snd.snd.snd.snd.fst, (ocM (m, p, q, (lo o), (lo g), (lo v)) (ctO cFt (m, p, q, lo o, lo g, lo v) (vB (pkN n)))).snd.snd.snd.snd.snd), ocP (m, p, q, (lo o), (lo g), (lo v)) (ctO cFt (m, p, q, lo o, lo g, lo v) (vB (pkN n))), ocQ (m, p, q, (lo o), (lo g), (lo v)) (ctO cFt (m, p, q, lo o, lo g, lo v) (vB (pkN n))), (lo o), (lo g), (lo v)) (xd, xs, xv, xt, (lo d))) = false := (by rw [hc]; exact fNt hw)
      have k26 : (passP feats (m, true, q, (lo o), (lo g), (lo v)) (xd, xs, (-1 : Int), xt, (lo d)) == passP (0 : Int) (m, true, q, (lo o), (lo g), (lo v)) (xd, xs, (-1 : Int), xt, (lo d))) = true := (beq_iff_eq.2 (any_v feats 0 _ _ _ _ _))
      have k27 : (m.fst.tmod (2 : Int) == (0 : Int)) = true := he
      refine (Tr.follow_get (fp_ktttt m p q o g v xd xs xv xt d a n feats) (by simp only [k0, k1, k2, k3, k4, k5, k6, k7, k8, k9, k10, k11, k12, k13, k14, k15, k16, k17, k18, k19, k20, k21, k22, k23, k24, k25, k26, k27])).trans ?_
      rw [hB, show sel (grpM m) (allM m) true = true by rw [hgr]; rfl]; rfl
     | false =>
      have hgr := hgr' he
      have k0 : (!liF (m, p, q, (lo o), (lo g), (lo v))) = false := (fNt hl)
      have k1 : (decide ((1500 : Int) < (↑(lo d).length : Int))) = false := hd
      have k2 : (smF (m, p, q, (lo o), (lo g), (lo v))) = true := hs
      have k3 : (okF (m, p, q, (lo o), (lo g), (lo v))) = true := hok
      have k4 : (roomB ((lo o).length + [a].length) Try.prog.types[(22 : Nat)].bytes) = true := hro
      have k5 : (roomB ((lo g).length + [a].length) Try.prog.types[(22 : Nat)].bytes) = true := hrg
      have k6 : (smX (lo o) (lo g) (lo v)) = true := hs
      have k7 : (byB (vB (pkN n))) = true := hby
      have k8 : ((ocK (ctO cFt (m, p, q, lo o, lo g, lo v) (vB (pkN n)))).beq (0 : Nat)) = false := (by rw [hc]; rfl)
      have k9 : ((ocK (ctO cFt (m, p, q, lo o, lo g, lo v) (vB (pkN n)))).beq (1 : Nat)) = true := (by rw [hc]; rfl)
      have k10 : (passP feats (m, p, q, (lo o), (lo g), (lo v)) (xd, xs, xv, xt, (lo d))) = true := hw
      have k11 : (smF (m, p, q, (lo o) ++ [a], (lo g), (lo v))) = true := hso
      have k12 : (okF (m, p, q, (lo o) ++ [a], (lo g), (lo v))) = true := hoo
      have k13 : (!passP feats (m, p, q, (lo o) ++ [a], (lo g), (lo v)) (xd, xs, xv, xt, (lo d))) = false := (fNt (passP_mono (F := (m, p, q, lo o, lo g, lo v)) hoo rfl id id (fun _ h => List.mem_append_left _ h) (fun _ h => h) (fun _ h => h) hw))
      have k14 : (smF (m, p, true, (lo o), (lo g), (lo v))) = true := hs
      have k15 : (okF (m, p, true, (lo o), (lo g), (lo v))) = true := hok
      have k16 : (!passP feats (m, p, true, (lo o), (lo g), (lo v)) (xd, xs, xv, xt, (lo d))) = false := (fNt (passP_mono (F := (m, p, q, lo o, lo g, lo v)) hok rfl id (fun _ => rfl) (fun _ h => h) (fun _ h => h) (fun _ h => h) hw))
      have k17 : (smF (m, true, q, (lo o), (lo g), (lo v))) = true := hs
      have k18 : (okF (m, true, q, (lo o), (lo g), (lo v))) = true := hok
      have k19 : (!passP feats (m, true, q, (lo o), (lo g), (lo v)) (xd, xs, xv, xt, (lo d))) = false := (fNt (passP_mono (F := (m, p, q, lo o, lo g, lo v)) hok rfl (fun _ => rfl) id (fun _ h => h) (fun _ h => h) (fun _ h => h) hw))
      have k20 : (smF (m, p, q, (lo o), (lo g) ++ [a], (lo v))) = true := hsg
      have k21 : (okF (m, p, q, (lo o), (lo g) ++ [a], (lo v))) = true := hog
      have k22 : (!passP feats (m, p, q, (lo o), (lo g) ++ [a], (lo v)) (xd, xs, xv, xt, (lo d))) = false := (fNt (passP_mono (F := (m, p, q, lo o, lo g, lo v)) hog rfl id id (fun _ h => h) (fun _ h => List.mem_append_left _ h) (fun _ h => h) hw))
      have k23 : (smF (((ocM (m, p, q, (lo o), (lo g), (lo v)) (ctO cFt (m, p, q, lo o, lo g, lo v) (vB (pkN n)))).fst, (ocM (m, p, q, (lo o), (lo g), (lo v)) (ctO cFt (m, p, q, lo o, lo g, lo v) (vB (pkN n)))).snd.fst, (ocM (m, p, q, (lo o), (lo g), (lo v)) (ctO cFt (m, p, q, lo o, lo g, lo v) (vB (pkN n)))).snd.snd.fst, (ocM (m, p, q, (lo o), (lo g), (lo v)) (ctO cFt (m, p, q, lo o, lo g, lo v) (vB (pkN n)))).snd.snd.snd.fst, (ocM (m, p, q, (lo o), (lo g), (lo v)) (ctO cFt (m, p, q, lo o, lo g, lo v) (vB (pkN n)))).snd.snd.snd.snd.fst, (ocM (m, p, q, (lo o), (lo g), (lo v)) (ctO cFt (m, p, q, lo o, lo g, lo v) (vB (pkN n)))).snd.snd.snd.snd.snd), ocP (m, p, q, (lo o), (lo g), (lo v)) (ctO cFt (m, p, q, lo o, lo g, lo v) (vB (pkN n))), ocQ (m, p, q, (lo o), (lo g), (lo v)) (ctO cFt (m, p, q, lo o, lo g, lo v) (vB (pkN n))), (lo o), (lo g), (lo v))) = true := (by rw [hc]; exact hs)
      have k24 : (okF (((ocM (m, p, q, (lo o), (lo g), (lo v)) (ctO cFt (m, p, q, lo o, lo g, lo v) (vB (pkN n)))).fst, (ocM (m, p, q, (lo o), (lo g), (lo v)) (ctO cFt (m, p, q, lo o, lo g, lo v) (vB (pkN n)))).snd.fst, (ocM (m, p, q, (lo o), (lo g), (lo v)) (ctO cFt (m, p, q, lo o, lo g, lo v) (vB (pkN n)))).snd.snd.fst, (ocM (m, p, q, (lo o), (lo g), (lo v)) (ctO cFt (m, p, q, lo o, lo g, lo v) (vB (pkN n)))).snd.snd.snd.fst, (ocM (m, p, q, (lo o), (lo g), (lo v)) (ctO cFt (m, p, q, lo o, lo g, lo v) (vB (pkN n)))).snd.snd.snd.snd.fst, (ocM (m, p, q, (lo o), (lo g), (lo v)) (ctO cFt (m, p, q, lo o, lo g, lo v) (vB (pkN n)))).snd.snd.snd.snd.snd), ocP (m, p, q, (lo o), (lo g), (lo v)) (ctO cFt (m, p, q, lo o, lo g, lo v) (vB (pkN n))), ocQ (m, p, q, (lo o), (lo g), (lo v)) (ctO cFt (m, p, q, lo o, lo g, lo v) (vB (pkN n))), (lo o), (lo g), (lo v))) = true := (by rw [hc]; exact hok)
      have k25 : (!passP feats (((ocM (m, p, q, (lo o), (lo g), (lo v)) (ctO cFt (m, p, q, lo o, lo g, lo v) (vB (pkN n)))).fst, (ocM (m, p, q, (lo o), (lo g), (lo v)) (ctO cFt (m, p, q, lo o, lo g, lo v) (vB (pkN n)))).snd.fst, (ocM (m, p, q, (lo o), (lo g), (lo v)) (ctO cFt (m, p, q, lo o, lo g, lo v) (vB (pkN n)))).snd.snd.fst, (ocM (m, p, q, (lo o), (lo g), (lo v)) (ctO cFt (m, p, q, lo o, lo g, lo v) (vB (pkN n)))).snd.snd.snd.fst, (ocM (m, p, q, (lo o), (lo g), (lo v)) (ctO cFt (m, p, q, lo o, lo g, lo v) (vB (pkN n)))).snd.snd.snd.snd.fst, (ocM (m, p, q, (lo o), (lo g), (lo v)) (ctO cFt (m, p, q, lo o, lo g, lo v) (vB (pkN n)))).snd.snd.snd.snd.snd), ocP (m, p, q, (lo o), (lo g), (lo v)) (ctO cFt (m, p, q, lo o, lo g, lo v) (vB (pkN n))), ocQ (m, p, q, (lo o), (lo g), (lo v)) (ctO cFt (m, p, q, lo o, lo g, lo v) (vB (pkN n))), (lo o), (lo g), (lo v)) (xd, xs, xv, xt, (lo d))) = false := (by rw [hc]; exact fNt hw)
      have k26 : (passP feats (m, true, q, (lo o), (lo g), (lo v)) (xd, xs, (-1 : Int), xt, (lo d)) == passP (0 : Int) (m, true, q, (lo o), (lo g), (lo v)) (xd, xs, (-1 : Int), xt, (lo d))) = true := (beq_iff_eq.2 (any_v feats 0 _ _ _ _ _))
      have k27 : (m.fst.tmod (2 : Int) == (0 : Int)) = false := he
      refine (Tr.follow_get (fp_ktttf m p q o g v xd xs xv xt d a n feats) (by simp only [k0, k1, k2, k3, k4, k5, k6, k7, k8, k9, k10, k11, k12, k13, k14, k15, k16, k17, k18, k19, k20, k21, k22, k23, k24, k25, k26, k27])).trans ?_
      rw [hB, show sel (grpM m) (allM m) true = allM m by rw [hgr]; rfl]; exact congrArg (fun b => some (SV.raw (Value.bool b), ([] : List (SO C24)))) (beq_self_eq_true (allM m))
    | false =>
     cases he : (m.fst.tmod (2 : Int) == (0 : Int)) with
     | true =>
      have hgr := hgr he
      have k0 : (!liF (m, p, q, (lo o), (lo g), (lo v))) = false := (fNt hl)
      have k1 : (decide ((1500 : Int) < (↑(lo d).length : Int))) = false := hd
      have k2 : (smF (m, p, q, (lo o), (lo g), (lo v))) = true := hs
      have k3 : (okF (m, p, q, (lo o), (lo g), (lo v))) = true := hok
      have k4 : (roomB ((lo o).length + [a].length) Try.prog.types[(22 : Nat)].bytes) = true := hro
      have k5 : (roomB ((lo g).length + [a].length) Try.prog.types[(22 : Nat)].bytes) = true := hrg
      have k6 : (smX (lo o) (lo g) (lo v)) = true := hs
      have k7 : (byB (vB (pkN n))) = true := hby
      have k8 : ((ocK (ctO cFt (m, p, q, lo o, lo g, lo v) (vB (pkN n)))).beq (0 : Nat)) = false := (by rw [hc]; rfl)
      have k9 : ((ocK (ctO cFt (m, p, q, lo o, lo g, lo v) (vB (pkN n)))).beq (1 : Nat)) = true := (by rw [hc]; rfl)
      have k10 : (passP feats (m, p, q, (lo o), (lo g), (lo v)) (xd, xs, xv, xt, (lo d))) = true := hw
      have k11 : (smF (m, p, q, (lo o) ++ [a], (lo g), (lo v))) = true := hso
      have k12 : (okF (m, p, q, (lo o) ++ [a], (lo g), (lo v))) = true := hoo
      have k13 : (!passP feats (m, p, q, (lo o) ++ [a], (lo g), (lo v)) (xd, xs, xv, xt, (lo d))) = false := (fNt (passP_mono (F := (m, p, q, lo o, lo g, lo v)) hoo rfl id id (fun _ h => List.mem_append_left _ h) (fun _ h => h) (fun _ h => h) hw))
      have k14 : (smF (m, p, true, (lo o), (lo g), (lo v))) = true := hs
      have k15 : (okF (m, p, true, (lo o), (lo g), (lo v))) = true := hok
      have k16 : (!passP feats (m, p, true, (lo o), (lo g), (lo v)) (xd, xs, xv, xt, (lo d))) = false := (fNt (passP_mono (F := (m, p, q, lo o, lo g, lo v)) hok rfl id (fun _ => rfl) (fun _ h => h) (fun _ h => h) (fun _ h => h) hw))
      have k17 : (smF (m, true, q, (lo o), (lo g), (lo v))) = true := hs
      have k18 : (okF (m, true, q, (lo o), (lo g), (lo v))) = true := hok
      have k19 : (!passP feats (m, true, q, (lo o), (lo g), (lo v)) (xd, xs, xv, xt, (lo d))) = false := (fNt (passP_mono (F := (m, p, q, lo o, lo g, lo v)) hok rfl (fun _ => rfl) id (fun _ h => h) (fun _ h => h) (fun _ h => h) hw))
      have k20 : (smF (m, p, q, (lo o), (lo g) ++ [a], (lo v))) = true := hsg
      have k21 : (okF (m, p, q, (lo o), (lo g) ++ [a], (lo v))) = false := hog
      have k22 : (smF (((ocM (m, p, q, (lo o), (lo g), (lo v)) (ctO cFt (m, p, q, lo o, lo g, lo v) (vB (pkN n)))).fst, (ocM (m, p, q, (lo o), (lo g), (lo v)) (ctO cFt (m, p, q, lo o, lo g, lo v) (vB (pkN n)))).snd.fst, (ocM (m, p, q, (lo o), (lo g), (lo v)) (ctO cFt (m, p, q, lo o, lo g, lo v) (vB (pkN n)))).snd.snd.fst, (ocM (m, p, q, (lo o), (lo g), (lo v)) (ctO cFt (m, p, q, lo o, lo g, lo v) (vB (pkN n)))).snd.snd.snd.fst, (ocM (m, p, q, (lo o), (lo g), (lo v)) (ctO cFt (m, p, q, lo o, lo g, lo v) (vB (pkN n)))).snd.snd.snd.snd.fst, (ocM (m, p, q, (lo o), (lo g), (lo v)) (ctO cFt (m, p, q, lo o, lo g, lo v) (vB (pkN n)))).snd.snd.snd.snd.snd), ocP (m, p, q, (lo o), (lo g), (lo v)) (ctO cFt (m, p, q, lo o, lo g, lo v) (vB (pkN n))), ocQ (m, p, q, (lo o), (lo g), (lo v)) (ctO cFt (m, p, q, lo o, lo g, lo v) (vB (pkN n))), (lo o), (lo g), (lo v))) = true := (by rw [hc]; exact hs)
      have k23 : (okF (((ocM (m, p, q, (lo o), (lo g), (lo v)) (ctO cFt (m, p, q, lo o, lo g, lo v) (vB (pkN n)))).fst, (ocM (m, p, q, (lo o), (lo g), (lo v)) (ctO cFt (m, p, q, lo o, lo g, lo v) (vB (pkN n)))).snd.fst, (ocM (m, p, q, (lo o), (lo g), (lo v)) (ctO cFt (m, p, q, lo o, lo g, lo v) (vB (pkN n)))).snd.snd.fst, (ocM (m, p, q, (lo o), (lo g), (lo v)) (ctO cFt (m, p, q, lo o, lo g, lo v) (vB (pkN n)))).snd.snd.snd.fst, (ocM (m, p, q, (lo o), (lo g), (lo v)) (ctO cFt (m, p, q, lo o, lo g, lo v) (vB (pkN n)))).snd.snd.snd.snd.fst, (ocM (m, p, q, (lo o), (lo g), (lo v)) (ctO cFt (m, p, q, lo o, lo g, lo v) (vB (pkN n)))).snd.snd.snd.snd.snd), ocP (m, p, q, (lo o), (lo g), (lo v)) (ctO cFt (m, p, q, lo o, lo g, lo v) (vB (pkN n))), ocQ (m, p, q, (lo o), (lo g), (lo v)) (ctO cFt (m, p, q, lo o, lo g, lo v) (vB (pkN n))), (lo o), (lo g), (lo v))) = true := (by rw [hc]; exact hok)
      have k24 : (!passP feats (((ocM (m, p, q, (lo o), (lo g), (lo v)) (ctO cFt (m, p, q, lo o, lo g, lo v) (vB (pkN n)))).fst, (ocM (m, p, q, (lo o), (lo g), (lo v)) (ctO cFt (m, p, q, lo o, lo g, lo v) (vB (pkN n)))).snd.fst, (ocM (m, p, q, (lo o), (lo g), (lo v)) (ctO cFt (m, p, q, lo o, lo g, lo v) (vB (pkN n)))).snd.snd.fst, (ocM (m, p, q, (lo o), (lo g), (lo v)) (ctO cFt (m, p, q, lo o, lo g, lo v) (vB (pkN n)))).snd.snd.snd.fst, (ocM (m, p, q, (lo o), (lo g), (lo v)) (ctO cFt (m, p, q, lo o, lo g, lo v) (vB (pkN n)))).snd.snd.snd.snd.fst, (ocM (m, p, q, (lo o), (lo g), (lo v)) (ctO cFt (m, p, q, lo o, lo g, lo v) (vB (pkN n)))).snd.snd.snd.snd.snd), ocP (m, p, q, (lo o), (lo g), (lo v)) (ctO cFt (m, p, q, lo o, lo g, lo v) (vB (pkN n))), ocQ (m, p, q, (lo o), (lo g), (lo v)) (ctO cFt (m, p, q, lo o, lo g, lo v) (vB (pkN n))), (lo o), (lo g), (lo v)) (xd, xs, xv, xt, (lo d))) = false := (by rw [hc]; exact fNt hw)
      have k25 : (passP feats (m, true, q, (lo o), (lo g), (lo v)) (xd, xs, (-1 : Int), xt, (lo d)) == passP (0 : Int) (m, true, q, (lo o), (lo g), (lo v)) (xd, xs, (-1 : Int), xt, (lo d))) = true := (beq_iff_eq.2 (any_v feats 0 _ _ _ _ _))
      have k26 : (m.fst.tmod (2 : Int) == (0 : Int)) = true := he
      refine (Tr.follow_get (fp_ktftt m p q o g v xd xs xv xt d a n feats) (by simp only [k0, k1, k2, k3, k4, k5, k6, k7, k8, k9, k10, k11, k12, k13, k14, k15, k16, k17, k18, k19, k20, k21, k22, k23, k24, k25, k26])).trans ?_
      rw [hB, show sel (grpM m) (allM m) true = true by rw [hgr]; rfl]; rfl
     | false =>
      have hgr := hgr' he
      have k0 : (!liF (m, p, q, (lo o), (lo g), (lo v))) = false := (fNt hl)
      have k1 : (decide ((1500 : Int) < (↑(lo d).length : Int))) = false := hd
      have k2 : (smF (m, p, q, (lo o), (lo g), (lo v))) = true := hs
      have k3 : (okF (m, p, q, (lo o), (lo g), (lo v))) = true := hok
      have k4 : (roomB ((lo o).length + [a].length) Try.prog.types[(22 : Nat)].bytes) = true := hro
      have k5 : (roomB ((lo g).length + [a].length) Try.prog.types[(22 : Nat)].bytes) = true := hrg
      have k6 : (smX (lo o) (lo g) (lo v)) = true := hs
      have k7 : (byB (vB (pkN n))) = true := hby
      have k8 : ((ocK (ctO cFt (m, p, q, lo o, lo g, lo v) (vB (pkN n)))).beq (0 : Nat)) = false := (by rw [hc]; rfl)
      have k9 : ((ocK (ctO cFt (m, p, q, lo o, lo g, lo v) (vB (pkN n)))).beq (1 : Nat)) = true := (by rw [hc]; rfl)
      have k10 : (passP feats (m, p, q, (lo o), (lo g), (lo v)) (xd, xs, xv, xt, (lo d))) = true := hw
      have k11 : (smF (m, p, q, (lo o) ++ [a], (lo g), (lo v))) = true := hso
      have k12 : (okF (m, p, q, (lo o) ++ [a], (lo g), (lo v))) = true := hoo
      have k13 : (!passP feats (m, p, q, (lo o) ++ [a], (lo g), (lo v)) (xd, xs, xv, xt, (lo d))) = false := (fNt (passP_mono (F := (m, p, q, lo o, lo g, lo v)) hoo rfl id id (fun _ h => List.mem_append_left _ h) (fun _ h => h) (fun _ h => h) hw))
      have k14 : (smF (m, p, true, (lo o), (lo g), (lo v))) = true := hs
      have k15 : (okF (m, p, true, (lo o), (lo g), (lo v))) = true := hok
      have k16 : (!passP feats (m, p, true, (lo o), (lo g), (lo v)) (xd, xs, xv, xt, (lo d))) = false := (fNt (passP_mono (F := (m, p, q, lo o, lo g, lo v)) hok rfl id (fun _ => rfl) (fun _ h => h) (fun _ h => h) (fun _ h => h) hw))
      have k17 : (smF (m, true, q, (lo o), (lo g), (lo v))) = true := hs
      have k18 : (okF (m, true, q, (lo o), (lo g), (lo v))) = true := hok
      have k19 : (!passP feats (m, true, q, (lo o), (lo g), (lo v)) (xd, xs, xv, xt, (lo d))) = false := (fNt (passP_mono (F := (m, p, q, lo o, lo g, lo v)) hok rfl (fun _ => rfl) id (fun _ h => h) (fun _ h => h) (fun _ h => h) hw))
      have k20 : (smF (m, p, q, (lo o), (lo g) ++ [a], (lo v))) = true := hsg
      have k21 : (okF (m, p, q, (lo o), (lo g) ++ [a], (lo v))) = false := hog
      have k22 : (smF (((ocM (m, p, q, (lo o), (lo g), (lo v)) (ctO cFt (m, p, q, lo o, lo g, lo v) (vB (pkN n)))).fst, (ocM (m, p, q, (lo o), (lo g), (lo v)) (ctO cFt (m, p, q, lo o, lo g, lo v) (vB (pkN n)))).snd.fst, (ocM (m, p, q, (lo o), (lo g), (lo v)) (ctO cFt (m, p, q, lo o, lo g, lo v) (vB (pkN n)))).snd.snd.fst, (ocM (m, p, q, (lo o), (lo g), (lo v)) (ctO cFt (m, p, q, lo o, lo g, lo v) (vB (pkN n)))).snd.snd.snd.fst, (ocM (m, p, q, (lo o), (lo g), (lo v)) (ctO cFt (m, p, q, lo o, lo g, lo v) (vB (pkN n)))).snd.snd.snd.snd.fst, (ocM (m, p, q, (lo o), (lo g), (lo v)) (ctO cFt (m, p, q, lo o, lo g, lo v) (vB (pkN n)))).snd.snd.snd.snd.snd), ocP (m, p, q, (lo o), (lo g), (lo v)) (ctO cFt (m, p, q, lo o, lo g, lo v) (vB (pkN n))), ocQ (m, p, q, (lo o), (lo g), (lo v)) (ctO cFt (m, p, q, lo o, lo g, lo v) (vB (pkN n))), (lo o), (lo g), (lo v))) = true := (by rw [hc]; exact hs)
      have k23 : (okF (((ocM (m, p, q, (lo o), (lo g), (lo v)) (ctO cFt (m, p, q, lo o, lo g, lo v) (vB (pkN n)))).fst, (ocM (m, p, q, (lo o), (lo g), (lo v)) (ctO cFt (m, p, q, lo o, lo g, lo v) (vB (pkN n)))).snd.fst, (ocM (m, p, q, (lo o), (lo g), (lo v)) (ctO cFt (m, p, q, lo o, lo g, lo v) (vB (pkN n)))).snd.snd.fst, (ocM (m, p, q, (lo o), (lo g), (lo v)) (ctO cFt (m, p, q, lo o, lo g, lo v) (vB (pkN n)))).snd.snd.snd.fst, (ocM (m, p, q, (lo o), (lo g), (lo v)) (ctO cFt (m, p, q, lo o, lo g, lo v) (vB (pkN n)))).snd.snd.snd.snd.fst, (ocM (m, p, q, (lo o), (lo g), (lo v)) (ctO cFt (m, p, q, lo o, lo g, lo v) (vB (pkN n)))).snd.snd.snd.snd.snd), ocP (m, p, q, (lo o), (lo g), (lo v)) (ctO cFt (m, p, q, lo o, lo g, lo v) (vB (pkN n))), ocQ (m, p, q, (lo o), (lo g), (lo v)) (ctO cFt (m, p, q, lo o, lo g, lo v) (vB (pkN n))), (lo o), (lo g), (lo v))) = true := (by rw [hc]; exact hok)
      have k24 : (!passP feats (((ocM (m, p, q, (lo o), (lo g), (lo v)) (ctO cFt (m, p, q, lo o, lo g, lo v) (vB (pkN n)))).fst, (ocM (m, p, q, (lo o), (lo g), (lo v)) (ctO cFt (m, p, q, lo o, lo g, lo v) (vB (pkN n)))).snd.fst, (ocM (m, p, q, (lo o), (lo g), (lo v)) (ctO cFt (m, p, q, lo o, lo g, lo v) (vB (pkN n)))).snd.snd.fst, (ocM (m, p, q, (lo o), (lo g), (lo v)) (ctO cFt (m, p, q, lo o, lo g, lo v) (vB (pkN n)))).snd.snd.snd.fst, (ocM (m, p, q, (lo o), (lo g), (lo v)) (ctO cFt (m, p, q, lo o, lo g, lo v) (vB (pkN n)))).snd.snd.snd.snd.fst, (ocM (m, p, q, (lo o), (lo g), (lo v)) (ctO cFt (m, p, q, lo o, lo g, lo v) (vB (pkN n)))).snd.snd.snd.snd.snd), ocP (m, p, q, (lo o), (lo g), (lo v)) (ctO cFt (m, p, q, lo o, lo g, lo v) (vB (pkN n))), ocQ (m, p, q, (lo o), (lo g), (lo v)) (ctO cFt (m, p, q, lo o, lo g, lo v) (vB (pkN n))), (lo o), (lo g), (lo v)) (xd, xs, xv, xt, (lo d))) = false := (by rw [hc]; exact fNt hw)
      have k25 : (passP feats (m, true, q, (lo o), (lo g), (lo v)) (xd, xs, (-1 : Int), xt, (lo d)) == passP (0 : Int) (m, true, q, (lo o), (lo g), (lo v)) (xd, xs, (-1 : Int), xt, (lo d))) = true := (beq_iff_eq.2 (any_v feats 0 _ _ _ _ _))
      have k26 : (m.fst.tmod (2 : Int) == (0 : Int)) = false := he
      refine (Tr.follow_get (fp_ktftf m p q o g v xd xs xv xt d a n feats) (by simp only [k0, k1, k2, k3, k4, k5, k6, k7, k8, k9, k10, k11, k12, k13, k14, k15, k16, k17, k18, k19, k20, k21, k22, k23, k24, k25, k26])).trans ?_
      rw [hB, show sel (grpM m) (allM m) true = allM m by rw [hgr]; rfl]; exact congrArg (fun b => some (SV.raw (Value.bool b), ([] : List (SO C24)))) (beq_self_eq_true (allM m))
   | false =>
    cases hog : (okF (m, p, q, (lo o), (lo g) ++ [a], (lo v))) with
    | true =>
     cases he : (m.fst.tmod (2 : Int) == (0 : Int)) with
     | true =>
      have hgr := hgr he
      have k0 : (!liF (m, p, q, (lo o), (lo g), (lo v))) = false := (fNt hl)
      have k1 : (decide ((1500 : Int) < (↑(lo d).length : Int))) = false := hd
      have k2 : (smF (m, p, q, (lo o), (lo g), (lo v))) = true := hs
      have k3 : (okF (m, p, q, (lo o), (lo g), (lo v))) = true := hok
      have k4 : (roomB ((lo o).length + [a].length) Try.prog.types[(22 : Nat)].bytes) = true := hro
      have k5 : (roomB ((lo g).length + [a].length) Try.prog.types[(22 : Nat)].bytes) = true := hrg
      have k6 : (smX (lo o) (lo g) (lo v)) = true := hs
      have k7 : (byB (vB (pkN n))) = true := hby
      have k8 : ((ocK (ctO cFt (m, p, q, lo o, lo g, lo v) (vB (pkN n)))).beq (0 : Nat)) = false := (by rw [hc]; rfl)
      have k9 : ((ocK (ctO cFt (m, p, q, lo o, lo g, lo v) (vB (pkN n)))).beq (1 : Nat)) = true := (by rw [hc]; rfl)
      have k10 : (passP feats (m, p, q, (lo o), (lo g), (lo v)) (xd, xs, xv, xt, (lo d))) = true := hw
      have k11 : (smF (m, p, q, (lo o) ++ [a], (lo g), (lo v))) = true := hso
      have k12 : (okF (m, p, q, (lo o) ++ [a], (lo g), (lo v))) = false := hoo
      have k13 : (smF (m, p, true, (lo o), (lo g), (lo v))) = true := hs
      have k14 : (okF (m, p, true, (lo o), (lo g), (lo v))) = true := hok
      have k15 : (!passP feats (m, p, true, (lo o), (lo g), (lo v)) (xd, xs, xv, xt, (lo d))) = false := (fNt (passP_mono (F := (m, p, q, lo o, lo g, lo v)) hok rfl id (fun _ => rfl) (fun _ h => h) (fun _ h => h) (fun _ h => h) hw))
      have k16 : (smF (m, true, q, (lo o), (lo g), (lo v))) = true := hs
      have k17 : (okF (m, true, q, (lo o), (lo g), (lo v))) = true := hok
      have k18 : (!passP feats (m, true, q, (lo o), (lo g), (lo v)) (xd, xs, xv, xt, (lo d))) = false := (fNt (passP_mono (F := (m, p, q, lo o, lo g, lo v)) hok rfl (fun _ => rfl) id (fun _ h => h) (fun _ h => h) (fun _ h => h) hw))
      have k19 : (smF (m, p, q, (lo o), (lo g) ++ [a], (lo v))) = true := hsg
      have k20 : (okF (m, p, q, (lo o), (lo g) ++ [a], (lo v))) = true := hog
      have k21 : (!passP feats (m, p, q, (lo o), (lo g) ++ [a], (lo v)) (xd, xs, xv, xt, (lo d))) = false := (fNt (passP_mono (F := (m, p, q, lo o, lo g, lo v)) hog rfl id id (fun _ h => h) (fun _ h => List.mem_append_left _ h) (fun _ h => h) hw))
      have k22 : (smF (((ocM (m, p, q, (lo o), (lo g), (lo v)) (ctO cFt (m, p, q, lo o, lo g, lo v) (vB (pkN n)))).fst, (ocM (m, p, q, (lo o), (lo g), (lo v)) (ctO cFt (m, p, q, lo o, lo g, lo v) (vB (pkN n)))).snd.fst, (ocM (m, p, q, (lo o), (lo g), (lo v)) (ctO cFt (m, p, q, lo o, lo g, lo v) (vB (pkN n)))).snd.snd.fst, (ocM (m, p, q, (lo o), (lo g), (lo v)) (ctO cFt (m, p, q, lo o, lo g, lo v) (vB (pkN n)))).snd.snd.snd.fst, (ocM (m, p, q, (lo o), (lo g), (lo v)) (ctO cFt (m, p, q, lo o, lo g, lo v) (vB (pkN n)))).snd.snd.snd.snd.fst, (ocM (m, p, q, (lo o), (lo g), (lo v)) (ctO cFt (m, p, q, lo o, lo g, lo v) (vB (pkN n)))).snd.snd.snd.snd.snd), ocP (m, p, q, (lo o), (lo g), (lo v)) (ctO cFt (m, p, q, lo o, lo g, lo v) (vB (pkN n))), ocQ (m, p, q, (lo o), (lo g), (lo v)) (ctO cFt (m, p, q, lo o, lo g, lo v) (vB (pkN n))), (lo o), (lo g), (lo v))) = true := (by rw [hc]; exact hs)
      have k23 : (okF (((ocM (m, p, q, (lo o), (lo g), (lo v)) (ctO cFt (m, p, q, lo o, lo g, lo v) (vB (pkN n)))).fst, (ocM (m, p, q, (lo o), (lo g), (lo v)) (ctO cFt (m, p, q, lo o, lo g, lo v) (vB (pkN n)))).snd.fst, (ocM (m, p, q, (lo o), (lo g), (lo v)) (ctO cFt (m, p, q, lo o, lo g, lo v) (vB (pkN n)))).snd.snd.fst, (ocM (m, p, q, (lo o), (lo g), (lo v)) (ctO cFt (m, p, q, lo o, lo g, lo v) (vB (pkN n)))).snd.snd.snd.fst, (ocM (m, p, q, (lo o), (lo g), (lo v)) (ctO cFt (m, p, q, lo o, lo g, lo v) (vB (pkN n)))).snd.snd.snd.snd.fst, (ocM (m, p, q, (lo o), (lo g), (lo v)) (ctO cFt (m, p, q, lo o, lo g, lo v) (vB (pkN n)))).snd.snd.snd.snd.snd), ocP (m, p, q, (lo o), (lo g), (lo v)) (ctO cFt (m, p, q, lo o, lo g, lo v) (vB (pkN n))), ocQ (m, p, q, (lo o), (lo g), (lo v)) (ctO cFt (m, p, q, lo o, lo g, lo v) (vB (pkN n))), (lo o), (lo g), (lo v))) = true := (by rw [hc]; exact hok)
      have k24 : (!passP feats (((ocM (m, p, q, (lo o), (lo g), (lo v)) (ctO cFt (m, p, q, lo o, lo g, lo v) (vB (pkN n)))).fst, (ocM (m, p, q, (lo o), (lo g), (lo v)) (ctO cFt (m, p, q, lo o, lo g, lo v) (vB (pkN n)))).snd.fst, (ocM (m, p, q, (lo o), (lo g), (lo v)) (ctO cFt (m, p, q, lo o, lo g, lo v) (vB (pkN n)))).snd.snd.fst, (ocM (m, p, q, (lo o), (lo g), (lo v)) (ctO cFt (m, p, q, lo o, lo g, lo v) (vB (pkN n)))).snd.snd.snd.fst, (ocM (m, p, q, (lo o), (lo g), (lo v)) (ctO cFt (m, p, q, lo o, lo g, lo v) (vB (pkN n)))).snd.snd.snd.snd.fst, (ocM (m, p, q, (lo o), (lo g), (lo v)) (ctO cFt (m, p, q, lo o, lo g, lo v) (vB (pkN n)))).snd.snd.snd.snd.snd), ocP (m, p, q, (lo o), (lo g), (lo v)) (ctO cFt (m, p, q, lo o, lo g, lo v) (vB (pkN n))), ocQ (m, p, q, (lo o), (lo g), (lo v)) (ctO cFt (m, p, q, lo o, lo g, lo v) (vB (pkN n))), (lo o), (lo g), (lo v)) (xd, xs, xv, xt, (lo d))) = false := (by rw [hc]; exact fNt hw)
      have k25 : (passP feats (m, true, q, (lo o), (lo g), (lo v)) (xd, xs, (-1 : Int), xt, (lo d)) == passP (0 : Int) (m, true, q, (lo o), (lo g), (lo v)) (xd, xs, (-1 : Int), xt, (lo d))) = true := (beq_iff_eq.2 (any_v feats 0 _ _ _ _ _))
      have k26 : (m.fst.tmod (2 : Int) == (0 : Int)) = true := he
      refine (Tr.follow_get (fp_kfttt m p q o g v xd xs xv xt d a n feats) (by simp only [k0, k1, k2, k3, k4, k5, k6, k7, k8, k9, k10, k11, k12, k13, k14, k15, k16, k17, k18, k19, k20, k21, k22, k23, k24, k25, k26])).trans ?_
      rw [hB, show sel (grpM m) (allM m) true = true by rw [hgr]; rfl]; rfl
     | false =>
      have hgr := hgr' he
      have k0 : (!liF (m, p, q, (lo o), (lo g), (lo v))) = false := (fNt hl)
      have k1 : (decide ((1500 : Int) < (↑(lo d).length : Int))) = false := hd
      have k2 : (smF (m, p, q, (lo o), (lo g), (lo v))) = true := hs
      have k3 : (okF (m, p, q, (lo o), (lo g), (lo v))) = true := hok
      have k4 : (roomB ((lo o).length + [a].length) Try.prog.types[(22 : Nat)].bytes) = true := hro
      have k5 : (roomB ((lo g).length + [a].length) Try.prog.types[(22 : Nat)].bytes) = true := hrg
      have k6 : (smX (lo o) (lo g) (lo v)) = true := hs
      have k7 : (byB (vB (pkN n))) = true := hby
      have k8 : ((ocK (ctO cFt (m, p, q, lo o, lo g, lo v) (vB (pkN n)))).beq (0 : Nat)) = false := (by rw [hc]; rfl)
      have k9 : ((ocK (ctO cFt (m, p, q, lo o, lo g, lo v) (vB (pkN n)))).beq (1 : Nat)) = true := (by rw [hc]; rfl)
      have k10 : (passP feats (m, p, q, (lo o), (lo g), (lo v)) (xd, xs, xv, xt, (lo d))) = true := hw
      have k11 : (smF (m, p, q, (lo o) ++ [a], (lo g), (lo v))) = true := hso
      have k12 : (okF (m, p, q, (lo o) ++ [a], (lo g), (lo v))) = false := hoo
      have k13 : (smF (m, p, true, (lo o), (lo g), (lo v))) = true := hs
      have k14 : (okF (m, p, true, (lo o), (lo g), (lo v))) = true := hok
      have k15 : (!passP feats (m, p, true, (lo o), (lo g), (lo v)) (xd, xs, xv, xt, (lo d))) = false := (fNt (passP_mono (F := (m, p, q, lo o, lo g, lo v)) hok rfl id (fun _ => rfl) (fun _ h => h) (fun _ h => h) (fun _ h => h) hw))
      have k16 : (smF (m, true, q, (lo o), (lo g), (lo v))) = true := hs
      have k17 : (okF (m, true, q, (lo o), (lo g), (lo v))) = true := hok
      have k18 : (!passP feats (m, true, q, (lo o), (lo g), (lo v)) (xd, xs, xv, xt, (lo d))) = false := (fNt (passP_mono (F := (m, p, q, lo o, lo g, lo v)) hok rfl (fun _ => rfl) id (fun _ h => h) (fun _ h => h) (fun _ h => h) hw))
      have k19 : (smF (m, p, q, (lo o), (lo g) ++ [a], (lo v))) = true := hsg
      have k20 : (okF (m, p, q, (lo o), (lo g) ++ [a], (lo v))) = true := hog
      have k21 : (!passP feats (m, p, q, (lo o), (lo g) ++ [a], (lo v)) (xd, xs, xv, xt, (lo d))) = false := (fNt (passP_mono (F := (m, p, q, lo o, lo g, lo v)) hog rfl id id (fun _ h => h) (fun _ h => List.mem_append_left _ h) (fun _ h => h) hw))
      have k22 : (smF (((ocM (m, p, q, (lo o), (lo g), (lo v)) (ctO cFt (m, p, q, lo o, lo g, lo v) (vB (pkN n)))).fst, (ocM (m, p, q, (lo o), (lo g), (lo v)) (ctO cFt (m, p, q, lo o, lo g, lo v) (vB (pkN n)))).snd.fst, (ocM (m, p, q, (lo o), (lo g), (lo v)) (ctO cFt (m, p, q, lo o, lo g, lo v) (vB (pkN n)))).snd.snd.fst, (ocM (m, p, q, (lo o), (lo g), (lo v)) (ctO cFt (m, p, q, lo o, lo g, lo v) (vB (pkN n)))).snd.snd.snd.fst, (ocM (m, p, q, (lo o), (lo g), (lo v)) (ctO cFt (m, p, q, lo o, lo g, lo v) (vB (pkN n)))).snd.snd.snd.snd.fst, (ocM (m, p, q, (lo o), (lo g), (lo v)) (ctO cFt (m, p, q, lo o, lo g, lo v) (vB (pkN n)))).snd.snd.snd.snd.snd), ocP (m, p, q, (lo o), (lo g), (lo v)) (ctO cFt (m, p, q, lo o, lo g, lo v) (vB (pkN n))), ocQ (m, p, q, (lo o), (lo g), (lo v)) (ctO cFt (m, p, q, lo o, lo g, lo v) (vB (pkN n))), (lo o), (lo g), (lo v))) = true := (by rw [hc]; exact hs)
      have k23 : (okF (((ocM (m, p, q, (lo o), (lo g), (lo v)) (ctO cFt (m, p, q, lo o, lo g, lo v) (vB (pkN n)))).fst, (ocM (m, p, q, (lo o), (lo g), (lo v)) (ctO cFt (m, p, q, lo o, lo g, lo v) (vB (pkN n)))).snd.fst, (ocM (m, p, q, (lo o), (lo g), (lo v)) (ctO cFt (m, p, q, lo o, lo g, lo v) (vB (pkN n)))).snd.snd.fst, (ocM (m, p, q, (lo o), (lo g), (lo v)) (ctO cFt (m, p, q, lo o, lo g, lo v) (vB (pkN n)))).snd.snd.snd.fst, (ocM (m, p, q, (lo o), (lo g), (lo v)) (ctO cFt (m, p, q, lo o, lo g, lo v) (vB (pkN n)))).snd.snd.snd.snd.fst, (ocM (m, p, q, (lo o), (lo g), (lo v)) (ctO cFt (m, p, q, lo o, lo g, lo v) (vB (pkN n)))).snd.snd.snd.snd.snd), ocP (m, p, q, (lo o), (lo g), (lo v)) (ctO cFt (m, p, q, lo o, lo g, lo v) (vB (pkN n))), ocQ (m, p, q, (lo o), (lo g), (lo v)) (ctO cFt (m, p, q, lo o, lo g, lo v) (vB (pkN n))), (lo o), (lo g), (lo v))) = true := (by rw [hc]; exact hok)
      have k24 : (!passP feats (((ocM (m, p, q, (lo o), (lo g), (lo v)) (ctO cFt (m, p, q, lo o, lo g, lo v) (vB (pkN n)))).fst, (ocM (m, p, q, (lo o), (lo g), (lo v)) (ctO cFt (m, p, q, lo o, lo g, lo v) (vB (pkN n)))).snd.fst, (ocM (m, p, q, (lo o), (lo g), (lo v)) (ctO cFt (m, p, q, lo o, lo g, lo v) (vB (pkN n)))).snd.snd.fst, (ocM (m, p, q, (lo o), (lo g), (lo v)) (ctO cFt (m, p, q, lo o, lo g, lo v) (vB (pkN n)))).snd.snd.snd.fst, (ocM (m, p, q, (lo o), (lo g), (lo v)) (ctO cFt (m, p, q, lo o, lo g, lo v) (vB (pkN n)))).snd.snd.snd.snd.fst, (ocM (m, p, q, (lo o), (lo g), (lo v)) (ctO cFt (m, p, q, lo o, lo g, lo v) (vB (pkN n)))).snd.snd.snd.snd.snd), ocP (m, p, q, (lo o), (lo g), (lo v)) (ctO cFt (m, p, q, lo o, lo g, lo v) (vB (pkN n))), ocQ (m, p, q, (lo o), (lo g), (lo v)) (ctO cFt (m, p, q, lo o, lo g, lo v) (vB (pkN n))), (lo o), (lo g), (lo v)) (xd, xs, xv, xt, (lo d))) = false := (by rw [hc]; exact fNt hw)
      have k25 : (passP feats (m, true, q, (lo o), (lo g), (lo v)) (xd, xs, (-1 : Int), xt, (lo d)) == passP (0 : Int) (m, true, q, (lo o), (lo g), (lo v)) (xd, xs, (-1 : Int), xt, (lo d))) = true := (beq_iff_eq.2 (any_v feats 0 _ _ _ _ _))
      have k26 : (m.fst.tmod (2 : Int) == (0 : Int)) = false := he
      refine (Tr.follow_get (fp_kfttf m p q o g v xd xs xv xt d a n feats) (by simp only [k0, k1, k2, k3, k4, k5, k6, k7, k8, k9, k10, k11, k12, k13, k14, k15, k16, k17, k18, k19, k20, k21, k22, k23, k24, k25, k26])).trans ?_
      rw [hB, show sel (grpM m) (allM m) true = allM m by rw [hgr]; rfl]; exact congrArg (fun b => some (SV.raw (Value.bool b), ([] : List (SO C24)))) (beq_self_eq_true (allM m))
    | false =>
     cases he : (m.fst.tmod (2 : Int) == (0 : Int)) with
     | true =>
      have hgr := hgr he
      have k0 : (!liF (m, p, q, (lo o), (lo g), (lo v))) = false := (fNt hl)
      have k1 : (decide ((1500 : Int) < (↑(lo d).length : Int))) = false := hd
      have k2 : (smF (m, p, q, (lo o), (lo g), (lo v))) = true := hs
      have k3 : (okF (m, p, q, (lo o), (lo g), (lo v))) = true := hok
      have k4 : (roomB ((lo o).length + [a].length) Try.prog.types[(22 : Nat)].bytes) = true := hro
      have k5 : (roomB ((lo g).length + [a].length) Try.prog.types[(22 : Nat)].bytes) = true := hrg
      have k6 : (smX (lo o) (lo g) (lo v)) = true := hs
      have k7 : (byB (vB (pkN n))) = true := hby
      have k8 : ((ocK (ctO cFt (m, p, q, lo o, lo g, lo v) (vB (pkN n)))).beq (0 : Nat)) = false := (by rw [hc]; rfl)
      have k9 : ((ocK (ctO cFt (m, p, q, lo o, lo g, lo v) (vB (pkN n)))).beq (1 : Nat)) = true := (by rw [hc]; rfl)
      have k10 : (passP feats (m, p, q, (lo o), (lo g), (lo v)) (xd, xs, xv, xt, (lo d))) = true := hw
      have k11 : (smF (m, p, q, (lo o) ++ [a], (lo g), (lo v))) = true := hso
      have k12 : (okF (m, p, q, (lo o) ++ [a], (lo g), (lo v))) = false := hoo
      have k13 : (smF (m, p, true, (lo o), (lo g), (lo v))) = true := hs
      have k14 : (okF (m, p, true, (lo o), (lo g), (lo v))) = true := hok
      have k15 : (!passP feats (m, p, true, (lo o), (lo g), (lo v)) (xd, xs, xv, xt, (lo d))) = false := (fNt (passP_mono (F := (m, p, q, lo o, lo g, lo v)) hok rfl id (fun _ => rfl) (fun _ h => h) (fun _ h => h) (fun _ h => h) hw))
      have k16 : (smF (m, true, q, (lo o), (lo g), (lo v))) = true := hs
      have k17 : (okF (m, true, q, (lo o), (lo g), (lo v))) = true := hok
      have k18 : (!passP feats (m, true, q, (lo o), (lo g), (lo v)) (xd, xs, xv, xt, (lo d))) = false := (fNt (passP_mono (F := (m, p, q, lo o, lo g, lo v)) hok rfl (fun _ => rfl) id (fun _ h => h) (fun _ h => h) (fun _ h => h) hw))
      have k19 : (smF (m, p, q, (lo o), (lo g) ++ [a], (lo v))) = true := hsg
      have k20 : (okF (m, p, q, (lo o), (lo g) ++ [a], (lo v))) = false := hog
      have k21 : (smF (((ocM (m, p, q, (lo o), (lo g), (lo v)) (ctO cFt (m, p, q, lo o, lo g, lo v) (vB (pkN n)))).fst, (ocM (m, p, q, (lo o), (lo g), (lo v)) (ctO cFt (m, p, q, lo o, lo g, lo v) (vB (pkN n)))).snd.fst, (ocM (m, p, q, (lo o), (lo g), (lo v)) (ctO cFt (m, p, q, lo o, lo g, lo v) (vB (pkN n)))).snd.snd.fst, (ocM (m, p, q, (lo o), (lo g), (lo v)) (ctO cFt (m, p, q, lo o, lo g, lo v) (vB (pkN n)))).snd.snd.snd.fst, (ocM (m, p, q, (lo o), (lo g), (lo v)) (ctO cFt (m, p, q, lo o, lo g, lo v) (vB (pkN n)))).snd.snd.snd.snd.fst, (ocM (m, p, q, (lo o), (lo g), (lo v)) (ctO cFt (m, p, q, lo o, lo g, lo v) (vB (pkN n)))).snd.snd.snd.snd.snd), ocP (m, p, q, (lo o), (lo g), (lo v)) (ctO cFt (m, p, q, lo o, lo g, lo v) (vB (pkN n))), ocQ (m, p, q, (lo o), (lo g), (lo v)) (ctO cFt (m, p, q, lo o, lo g, lo v) (vB (pkN n))), (lo o), (lo g), (lo v))) = true := (by rw [hc]; exact hs)
      have k22 : (okF (((ocM (m, p, q, (lo o), (lo g), (lo v)) (ctO cFt (m, p, q, lo o, lo g, lo v) (vB (pkN n)))).fst, (ocM (m, p, q, (lo o), (lo g), (lo v)) (ctO cFt (m, p, q, lo o, lo g, lo v) (vB (pkN n)))).snd.fst, (ocM (m, p, q, (lo o), (lo g), (lo v)) (ctO cFt (m, p, q, lo o, lo g, lo v) (vB (pkN n)))).snd.snd.fst, (ocM (m, p, q, (lo o), (lo g), (lo v)) (ctO cFt (m, p, q, lo o, lo g, lo v) (vB (pkN n)))).snd.snd.snd.fst, (ocM (m, p, q, (lo o), (lo g), (lo v)) (ctO cFt (m, p, q, lo o, lo g, lo v) (vB (pkN n)))).snd.snd.snd.snd.fst, (ocM (m, p, q, (lo o), (lo g), (lo v)) (ctO cFt (m, p, q, lo o, lo g, lo v) (vB (pkN n)))).snd.snd.snd.snd.snd), ocP (m, p, q, (lo o), (lo g), (lo v)) (ctO cFt (m, p, q, lo o, lo g, lo v) (vB (pkN n))), ocQ (m, p, q, (lo o), (lo g), (lo v)) (ctO cFt (m, p, q, lo o, lo g, lo v) (vB (pkN n))), (lo o), (lo g), (lo v))) = true := (by rw [hc]; exact hok)
      have k23 : (!passP feats (((ocM (m, p, q, (lo o), (lo g), (lo v)) (ctO cFt (m, p, q, lo o, lo g, lo v) (vB (pkN n)))).fst, (ocM (m, p, q, (lo o), (lo g), (lo v)) (ctO cFt (m, p, q, lo o, lo g, lo v) (vB (pkN n)))).snd.fst, (ocM (m, p, q, (lo o), (lo g), (lo v)) (ctO cFt (m, p, q, lo o, lo g, lo v) (vB (pkN n)))).snd.snd.fst, (ocM (m, p, q, (lo o), (lo g), (lo v)) (ctO cFt (m, p, q, lo o, lo g, lo v) (vB (pkN n)))).snd.snd.snd.fst, (ocM (m, p, q, (lo o), (lo g), (lo v)) (ctO cFt (m, p, q, lo o, lo g, lo v) (vB (pkN n)))).snd.snd.snd.snd.fst, (ocM (m, p, q, (lo o), (lo g), (lo v)) (ctO cFt (m, p, q, lo o, lo g, lo v) (vB (pkN n)))).snd.snd.snd.snd.snd), ocP (m, p, q, (lo o), (lo g), (lo v)) (ctO cFt (m, p, q, lo o, lo g, lo v) (vB (pkN n))), ocQ (m, p, q, (lo o), (lo g), (lo v)) (ctO cFt (m, p, q, lo o, lo g, lo v) (vB (pkN n))), (lo o), (lo g), (lo v)) (xd, xs, xv, xt, (lo d))) = false := (by rw [hc]; exact fNt hw)
      have k24 : (passP feats (m, true, q, (lo o), (lo g), (lo v)) (xd, xs, (-1 : Int), xt, (lo d)) == passP (0 : Int) (m, true, q, (lo o), (lo g), (lo v)) (xd, xs, (-1 : Int), xt, (lo d))) = true := (beq_iff_eq.2 (any_v feats 0 _ _ _ _ _))
      have k25 : (m.fst.tmod (2 : Int) == (0 : Int)) = true := he
      refine (Tr.follow_get (fp_kfftt m p q o g v xd xs xv xt d a n feats) (by simp only [k0, k1, k2, k3, k4, k5, k6, k7, k8, k9, k10, k11, k12, k13, k14, k15, k16, k17, k18, k19, k20, k21, k22, k23, k24, k25])).trans ?_
      rw [hB, show sel (grpM m) (allM m) true = true by rw [hgr]; rfl]; rfl
     | false =>
      have hgr := hgr' he
      have k0 : (!liF (m, p, q, (lo o), (lo g), (lo v))) = false := (fNt hl)
      have k1 : (decide ((1500 : Int) < (↑(lo d).length : Int))) = false := hd
      have k2 : (smF (m, p, q, (lo o), (lo g), (lo v))) = true := hs
      have k3 : (okF (m, p, q, (lo o), (lo g), (lo v))) = true := hok
      have k4 : (roomB ((lo o).length + [a].length) Try.prog.types[(22 : Nat)].bytes) = true := hro
      have k5 : (roomB ((lo g).length + [a].length) Try.prog.types[(22 : Nat)].bytes) = true := hrg
      have k6 : (smX (lo o) (lo g) (lo v)) = true := hs
      have k7 : (byB (vB (pkN n))) = true := hby
      have k8 : ((ocK (ctO cFt (m, p, q, lo o, lo g, lo v) (vB (pkN n)))).beq (0 : Nat)) = false := (by rw [hc]; rfl)
      have k9 : ((ocK (ctO cFt (m, p, q, lo o, lo g, lo v) (vB (pkN n)))).beq (1 : Nat)) = true := (by rw [hc]; rfl)
      have k10 : (passP feats (m, p, q, (lo o), (lo g), (lo v)) (xd, xs, xv, xt, (lo d))) = true := hw
      have k11 : (smF (m, p, q, (lo o) ++ [a], (lo g), (lo v))) = true := hso
      have k12 : (okF (m, p, q, (lo o) ++ [a], (lo g), (lo v))) = false := hoo
      have k13 : (smF (m, p, true, (lo o), (lo g), (lo v))) = true := hs
      have k14 : (okF (m, p, true, (lo o), (lo g), (lo v))) = true := hok
      have k15 : (!passP feats (m, p, true, (lo o), (lo g), (lo v)) (xd, xs, xv, xt, (lo d))) = false := (fNt (passP_mono (F := (m, p, q, lo o, lo g, lo v)) hok rfl id (fun _ => rfl) (fun _ h => h) (fun _ h => h) (fun _ h => h) hw))
      have k16 : (smF (m, true, q, (lo o), (lo g), (lo v))) = true := hs
      have k17 : (okF (m, true, q, (lo o), (lo g), (lo v))) = true := hok
      have k18 : (!passP feats (m, true, q, (lo o), (lo g), (lo v)) (xd, xs, xv, xt, (lo d))) = false := (fNt (passP_mono (F := (m, p, q, lo o, lo g, lo v)) hok rfl (fun _ => rfl) id (fun _ h => h) (fun _ h => h) (fun _ h => h) hw))
      have k19 : (smF (m, p, q, (lo o), (lo g) ++ [a], (lo v))) = true := hsg
      have k20 : (okF (m, p, q, (lo o), (lo g) ++ [a], (lo v))) = false := hog
      have k21 : (smF (((ocM (m, p, q, (lo o), (lo g), (lo v)) (ctO cFt (m, p, q, lo o, lo g, lo v) (vB (pkN n)))).fst, (ocM (m, p, q, (lo o), (lo g), (lo v)) (ctO cFt (m, p, q, lo o, lo g, lo v) (vB (pkN n)))).snd.fst, (ocM (m, p, q, (lo o), (lo g), (lo v)) (ctO cFt (m, p, q, lo o, lo g, lo v) (vB (pkN n)))).snd.snd.fst, (ocM (m, p, q, (lo o), (lo g), (lo v)) (ctO cFt (m, p, q, lo o, lo g, lo v) (vB (pkN n)))).snd.snd.snd.fst, (ocM (m, p, q, (lo o), (lo g), (lo v)) (ctO cFt (m, p, q, lo o, lo g, lo v) (vB (pkN n)))).snd.snd.snd.snd.fst, (ocM (m, p, q, (lo o), (lo g), (lo v)) (ctO cFt (m, p, q, lo o, lo g, lo v) (vB (pkN n)))).snd.snd.snd.snd.snd), ocP (m, p, q, (lo o), (lo g), (lo v)) (ctO cFt (m, p, q, lo o, lo g, lo v) (vB (pkN n))), ocQ (m, p, q, (lo o), (lo g), (lo v)) (ctO cFt (m, p, q, lo o, lo g, lo v) (vB (pkN n))), (lo o), (lo g), (lo v))) = true := (by rw [hc]; exact hs)
      have k22 : (okF (((ocM (m, p, q, (lo o), (lo g), (lo v)) (ctO cFt (m, p, q, lo o, lo g, lo v) (vB (pkN n)))).fst, (ocM (m, p, q, (lo o), (lo g), (lo v)) (ctO cFt (m, p, q, lo o, lo g, lo v) (vB (pkN n)))).snd.fst, (ocM (m, p, q, (lo o), (lo g), (lo v)) (ctO cFt (m, p, q, lo o, lo g, lo v) (vB (pkN n)))).snd.snd.fst, (ocM (m, p, q, (lo o), (lo g), (lo v)) (ctO cFt (m, p, q, lo o, lo g, lo v) (vB (pkN n)))).snd.snd.snd.fst, (ocM (m, p, q, (lo o), (lo g), (lo v)) (ctO cFt (m, p, q, lo o, lo g, lo v) (vB (pkN n)))).snd.snd.snd.snd.fst, (ocM (m, p, q, (lo o), (lo g), (lo v)) (ctO cFt (m, p, q, lo o, lo g, lo v) (vB (pkN n)))).snd.snd.snd.snd.snd), ocP (m, p, q, (lo o), (lo g), (lo v)) (ctO cFt (m, p, q, lo o, lo g, lo v) (vB (pkN n))), ocQ (m, p, q, (lo o), (lo g), (lo v)) (ctO cFt (m, p, q, lo o, lo g, lo v) (vB (pkN n))), (lo o), (lo g), (lo v))) = true := (by rw [hc]; exact hok)
      have k23 : (!passP feats (((ocM (m, p, q, (lo o), (lo g), (lo v)) (ctO cFt (m, p, q, lo o, lo g, lo v) (vB (pkN n)))).fst, (ocM (m, p, q, (lo o), (lo g), (lo v)) (ctO cFt (m, p, q, lo o, lo g, lo v) (vB (pkN n)))).snd.fst, (ocM (m, p, q, (lo o), (lo g), (lo v)) (ctO cFt (m, p, q, lo o, lo g, lo v) (vB (pkN n)))).snd.snd.fst, (ocM (m, p, q, (lo o), (lo g), (lo v)) (ctO cFt (m, p, q, lo o, lo g, lo v) (vB (pkN n)))).snd.snd.snd.fst, (ocM (m, p, q, (lo o), (lo g), (lo v)) (ctO cFt (m, p, q, lo o, lo g, lo v) (vB (pkN n)))).snd.snd.snd.snd.fst, (ocM (m, p, q, (lo o), (lo g), (lo v)) (ctO cFt (m, p, q, lo o, lo g, lo v) (vB (pkN n)))).snd.snd.snd.snd.snd), ocP (m, p, q, (lo o), (lo g), (lo v)) (ctO cFt (m, p, q, lo o, lo g, lo v) (vB (pkN n))), ocQ (m, p, q, (lo o), (lo g), (lo v)) (ctO cFt (m, p, q, lo o, lo g, lo v) (vB (pkN n))), (lo o), (lo g), (lo v)) (xd, xs, xv, xt, (lo d))) = false := (by rw [hc]; exact fNt hw)
      have k24 : (passP feats (m, true, q, (lo o), (lo g), (lo v)) (xd, xs, (-1 : Int), xt, (lo d)) == passP (0 : Int) (m, true, q, (lo o), (lo g), (lo v)) (xd, xs, (-1 : Int), xt, (lo d))) = true := (beq_iff_eq.2 (any_v feats 0 _ _ _ _ _))
      have k25 : (m.fst.tmod (2 : Int) == (0 : Int)) = false := he
      refine (Tr.follow_get (fp_kfftf m p q o g v xd xs xv xt d a n feats) (by simp only [k0, k1, k2, k3, k4, k5, k6, k7, k8, k9, k10, k11, k12, k13, k14, k15, k16, k17, k18, k19, k20, k21, k22, k23, k24, k25])).trans ?_
      rw [hB, show sel (grpM m) (allM m) true = allM m by rw [hgr]; rfl]; exact congrArg (fun b => some (SV.raw (Value.bool b), ([] : List (SO C24)))) (beq_self_eq_true (allM m))
  | false =>
   cases he : (m.fst.tmod (2 : Int) == (0 : Int)) with
   | true =>
    have hgr := hgr he
    have k0 : (!liF (m, p, q, (lo o), (lo g), (lo v))) = false := (fNt hl)
    have k1 : (decide ((1500 : Int) < (↑(lo d).length : Int))) = false := hd
    have k2 : (smF (m, p, q, (lo o), (lo g), (lo v))) = true := hs
    have k3 : (okF (m, p, q, (lo o), (lo g), (lo v))) = true := hok
    have k4 : (roomB ((lo o).length + [a].length) Try.prog.types[(22 : Nat)].bytes) = true := hro
    have k5 : (roomB ((lo g).length + [a].length) Try.prog.types[(22 : Nat)].bytes) = true := hrg
    have k6 : (smX (lo o) (lo g) (lo v)) = true := hs
    have k7 : (byB (vB (pkN n))) = true := hby
    have k8 : ((ocK (ctO cFt (m, p, q, lo o, lo g, lo v) (vB (pkN n)))).beq (0 : Nat)) = false := (by rw [hc]; rfl)
    have k9 : ((ocK (ctO cFt (m, p, q, lo o, lo g, lo v) (vB (pkN n)))).beq (1 : Nat)) = true := (by rw [hc]; rfl)
    have k10 : (passP feats (m, p, q, (lo o), (lo g), (lo v)) (xd, xs, xv, xt, (lo d))) = false := hw
    have k11 : (smF (m, true, q, (lo o), (lo g), (lo v))) = true := hs
    have k12 : (passP feats (m, true, q, (lo o), (lo g), (lo v)) (xd, xs, (-1 : Int), xt, (lo d)) == passP (0 : Int) (m, true, q, (lo o), (lo g), (lo v)) (xd, xs, (-1 : Int), xt, (lo d))) = true := (beq_iff_eq.2 (any_v feats 0 _ _ _ _ _))
    have k13 : (m.fst.tmod (2 : Int) == (0 : Int)) = true := he
    refine (Tr.follow_get (fp_knt m p q o g v xd xs xv xt d a n feats) (by simp only [k0, k1, k2, k3, k4, k5, k6, k7, k8, k9, k10, k11, k12, k13])).trans ?_
    rw [hB, show sel (grpM m) (allM m) true = true by rw [hgr]; rfl]; rfl
   | false =>
    have hgr := hgr' he
    have k0 : (!liF (m, p, q, (lo o), (lo g), (lo v))) = false := (fNt hl)
    have k1 : (decide ((1500 : Int) < (↑(lo d).length : Int))) = false := hd
    have k2 : (smF (m, p, q, (lo o), (lo g), (lo v))) = true := hs
    have k3 : (okF (m, p, q, (lo o), (lo g), (lo v))) = true := hok
    have k4 : (roomB ((lo o).length + [a].length) Try.prog.types[(22 : Nat)].bytes) = true := hro
    have k5 : (roomB ((lo g).length + [a].length) Try.prog.types[(22 : Nat)].bytes) = true := hrg
    have k6 : (smX (lo o) (lo g) (lo v)) = true := hs
    have k7 : (byB (vB (pkN n))) = true := hby
    have k8 : ((ocK (ctO cFt (m, p, q, lo o, lo g, lo v) (vB (pkN n)))).beq (0 : Nat)) = false := (by rw [hc]; rfl)
    have k9 : ((ocK (ctO cFt (m, p, q, lo o, lo g, lo v) (vB (pkN n)))).beq (1 : Nat)) = true := (by rw [hc]; rfl)
    have k10 : (passP feats (m, p, q, (lo o), (lo g), (lo v)) (xd, xs, xv, xt, (lo d))) = false := hw
    have k11 : (smF (m, true, q, (lo o), (lo g), (lo v))) = true := hs
    have k12 : (passP feats (m, true, q, (lo o), (lo g), (lo v)) (xd, xs, (-1 : Int), xt, (lo d)) == passP (0 : Int) (m, true, q, (lo o), (lo g), (lo v)) (xd, xs, (-1 : Int), xt, (lo d))) = true := (beq_iff_eq.2 (any_v feats 0 _ _ _ _ _))
    have k13 : (m.fst.tmod (2 : Int) == (0 : Int)) = false := he
    refine (Tr.follow_get (fp_knf m p q o g v xd xs xv xt d a n feats) (by simp only [k0, k1, k2, k3, k4, k5, k6, k7, k8, k9, k10, k11, k12, k13])).trans ?_
    rw [hB, show sel (grpM m) (allM m) true = allM m by rw [hgr]; rfl]; exact congrArg (fun b => some (SV.raw (Value.bool b), ([] : List (SO C24)))) (beq_self_eq_true (allM m))
 | false =>
  have hc : ctO cFt (m, p, q, lo o, lo g, lo v) (vB (pkN n)) = Oc.vl (insL (lo v) (bsZ (lo v) (pkN n)).toNat [pkN n]) := by rw [hx, hb]; rfl
  cases hw : (passP feats (m, p, q, (lo o), (lo g), (lo v)) (xd, xs, xv, xt, (lo d))) with
  | true =>
   cases hoo : (okF (m, p, q, (lo o) ++ [a], (lo g), (lo v))) with
   | true =>
    cases hog : (okF (m, p, q, (lo o), (lo g) ++ [a], (lo v))) with
    | true =>
     cases hov : (okF (m, p, q, (lo o), (lo g), insL (lo v) (bsZ (lo v) (pkN n)).toNat [pkN n])) with
     | true =>
      cases he : (m.fst.tmod (2 : Int) == (0 : Int)) with
      | true =>
       have hgr := hgr he
       have k0 : (!liF (m, p, q, (lo o), (lo g), (lo v))) = false := (fNt hl)
       have k1 : (decide ((1500 : Int) < (↑(lo d).length : Int))) = false := hd
       have k2 : (smF (m, p, q, (lo o), (lo g), (lo v))) = true := hs
       have k3 : (okF (m, p, q, (lo o), (lo g), (lo v))) = true := hok
       have k4 : (roomB ((lo o).length + [a].length) Try.prog.types[(22 : Nat)].bytes) = true := hro
       have k5 : (roomB ((lo g).length + [a].length) Try.prog.types[(22 : Nat)].bytes) = true := hrg
       have k6 : (smX (lo o) (lo g) (lo v)) = true := hs
       have k7 : (byB (vB (pkN n))) = true := hby
       have k8 : ((ocK (ctO cFt (m, p, q, lo o, lo g, lo v) (vB (pkN n)))).beq (0 : Nat)) = false := (by rw [hc]; rfl)
       have k9 : ((ocK (ctO cFt (m, p, q, lo o, lo g, lo v) (vB (pkN n)))).beq (1 : Nat)) = false := (by rw [hc]; rfl)
       have k10 : ((ocK (ctO cFt (m, p, q, lo o, lo g, lo v) (vB (pkN n)))).beq (2 : Nat)) = true := (by rw [hc]; rfl)
       have k11 : (passP feats (m, p, q, (lo o), (lo g), (lo v)) (xd, xs, xv, xt, (lo d))) = true := hw
       have k12 : (smF (m, p, q, (lo o) ++ [a], (lo g), (lo v))) = true := hso
       have k13 : (okF (m, p, q, (lo o) ++ [a], (lo g), (lo v))) = true := hoo
       have k14 : (!passP feats (m, p, q, (lo o) ++ [a], (lo g), (lo v)) (xd, xs, xv, xt, (lo d))) = false := (fNt (passP_mono (F := (m, p, q, lo o, lo g, lo v)) hoo rfl id id (fun _ h => List.mem_append_left _ h) (fun _ h => h) (fun _ h => h) hw))
       have k15 : (smF (m, p, true, (lo o), (lo g), (lo v))) = true := hs
       have k16 : (okF (m, p, true, (lo o), (lo g), (lo v))) = true := hok
       have k17 : (!passP feats (m, p, true, (lo o), (lo g), (lo v)) (xd, xs, xv, xt, (lo d))) = false := (fNt (passP_mono (F := (m, p, q, lo o, lo g, lo v)) hok rfl id (fun _ => rfl) (fun _ h => h) (fun _ h => h) (fun _ h => h) hw))
       have k18 : (smF (m, true, q, (lo o), (lo g), (lo v))) = true := hs
       have k19 : (okF (m, true, q, (lo o), (lo g), (lo v))) = true := hok
       have k20 : (!passP feats (m, true, q, (lo o), (lo g), (lo v)) (xd, xs, xv, xt, (lo d))) = false := (fNt (passP_mono (F := (m, p, q, lo o, lo g, lo v)) hok rfl (fun _ => rfl) id (fun _ h => h) (fun _ h => h) (fun _ h => h) hw))
       have k21 : (smF (m, p, q, (lo o), (lo g) ++ [a], (lo v))) = true := hsg
       have k22 : (okF (m, p, q, (lo o), (lo g) ++ [a], (lo v))) = true := hog
       have k23 : (!passP feats (m, p, q, (lo o), (lo g) ++ [a], (lo v)) (xd, xs, xv, xt, (lo d))) = false := (fNt (passP_mono (F := (m, p, q, lo o, lo g, lo v)) hog rfl id id (fun _ h => h) (fun _ h => List.mem_append_left _ h) (fun _ h => h) hw))
       have k24 : (smF (m, p, q, (lo o), (lo g), ocV (ctO cFt (m, p, q, lo o, lo g, lo v) (vB (pkN n))))) = true := (by rw [hc]; exact hsv)
       have k25 : (okF (m, p, q, (lo o), (lo g), ocV (ctO cFt (m, p, q, lo o, lo g, lo v) (vB (pkN n))))) = true := (by rw [hc]; exact hov)
       have k26 : (!passP feats (m, p, q, (lo o), (lo g), ocV (ctO cFt (m, p, q, lo o, lo g, lo v) (vB (pkN n)))) (xd, xs, xv, xt, (lo d))) = false := (by rw [hc]; exact fNt (passP_mono (F := (m, p, q, lo o, lo g, lo v)) hov rfl id id (fun _ h => h) (fun _ h => h) (fun _ h => ins_sub h) hw))
       have k27 : (passP feats (m, true, q, (lo o), (lo g), (lo v)) (xd, xs, (-1 : Int), xt, (lo d)) == passP (0 : Int) (m, true, q, (lo o), (lo g), (lo v)) (xd, xs, (-1 : Int), xt, (lo d))) = true := (beq_iff_eq.2 (any_v feats 0 _ _ _ _ _))
       have k28 : (m.fst.tmod (2 : Int) == (0 : Int)) = true := he
       refine (Tr.follow_get (fp_vtttt m p q o g v xd xs xv xt d a n feats) (by simp only [k0, k1, k2, k3, k4, k5, k6, k7, k8, k9, k10, k11, k12, k13, k14, k15, k16, k17, k18, k19, k20, k21, k22, k23, k24, k25, k26, k27, k28])).trans ?_
       rw [hB, show sel (grpM m) (allM m) true = true by rw [hgr]; rfl]; rfl
      | false =>
       have hgr := hgr' he
       have k0 : (!liF (m, p, q, (lo o), (lo g), (lo v))) = false := (fNt hl)
       have k1 : (decide ((1500 : Int) < (↑(lo d).length : Int))) = false := hd
       have k2 : (smF (m, p, q, (lo o), (lo g), (lo v))) = true := hs
       have k3 : (okF (m, p, q, (lo o), (lo g), (lo v))) = true := hok
       have k4 : (roomB ((lo o).length + [a].length) Try.prog.types[(22 : Nat)].bytes) = true := hro
       have k5 : (roomB ((lo g).length + [a].length) Try.prog.types[(22 : Nat)].bytes) = true := hrg
       have k6 : (smX (lo o) (lo g) (lo v)) = true := hs
       have k7 : (byB (vB (pkN n))) = true := hby
       have k8 : ((ocK (ctO cFt (m, p, q, lo o, lo g, lo v) (vB (pkN n)))).beq (0 : Nat)) = false := (by rw [hc]; rfl)
       have k9 : ((ocK (ctO cFt (m, p, q, lo o, lo g, lo v) (vB (pkN n)))).beq (1 : Nat)) = false := (by rw [hc]; rfl)
       have k10 : ((ocK (ctO cFt (m, p, q, lo o, lo g, lo v) (vB (pkN n)))).beq (2 : Nat)) = true := (by rw [hc]; rfl)
       have k11 : (passP feats (m, p, q, (lo o), (lo g), (lo v)) (xd, xs, xv, xt, (lo d))) = true := hw
       have k12 : (smF (m, p, q, (lo o) ++ [a], (lo g), (lo v))) = true := hso
       have k13 : (okF (m, p, q, (lo o) ++ [a], (lo g), (lo v))) = true := hoo
       have k14 : (!passP feats (m, p, q, (lo o) ++ [a], (lo g), (lo v)) (xd, xs, xv, xt, (lo d))) = false := (fNt (passP_mono (F := (m, p, q, lo o, lo g, lo v)) hoo rfl id id (fun _ h => List.mem_append_left _ h) (fun _ h => h) (fun _ h => h) hw))
       have k15 : (smF (m, p, true, (lo o), (lo g), (lo v))) = true := hs
       have k16 : (okF (m, p, true, (lo o), (lo g), (lo v))) = true := hok
       have k17 : (!passP feats (m, p, true, (lo o), (lo g), (lo v)) (xd, xs, xv, xt, (lo d))) = false := (fNt (passP_mono (F := (m, p, q, lo o, lo g, lo v)) hok rfl id (fun _ => rfl) (fun _ h => h) (fun _ h => h) (fun _ h => h) hw))
       have k18 : (smF (m, true, q, (lo o), (lo g), (lo v))) = true := hs
       have k19 : (okF (m, true, q, (lo o), (lo g), (lo v))) = true := hok
       have k20 : (!passP feats (m, true, q, (lo o), (lo g), (lo v)) (xd, xs, xv, xt, (lo d))) = false := (fNt (passP_mono (F := (m, p, q, lo o, lo g, lo v)) hok rfl (fun _ => rfl) id (fun _ h => h) (fun _ h => h) (fun _ h => h) hw))
       have k21 : (smF (m, p, q, (lo o), (lo g) ++ [a], (lo v))) = true := hsg
       have k22 : (okF (m, p, q, (lo o), (lo g) ++ [a], (lo v))) = true := hog
       have k23 : (!passP feats (m, p, q, (lo o), (lo g) ++ [a], (lo v)) (xd, xs, xv, xt, (lo d))) = false := (fNt (passP_mono (F := (m, p, q, lo o, lo g, lo v)) hog rfl id id (fun _ h => h) (fun _ h => List.mem_append_left _ h) (fun _ h => h) hw))
       have k24 : (smF (m, p, q, (lo o), (lo g), ocV (ctO cFt (m, p, q, lo o, lo g, lo v) (vB (pkN n))))) = true := (by rw [hc]; exact hsv)
       have k25 : (okF (m, p, q, (lo o), (lo g), ocV (ctO cFt (m, p, q, lo o, lo g, lo v) (vB (pkN n))))) = true := (by rw [hc]; exact hov)
       have k26 : (!passP feats (m, p, q, (lo o), (lo g), ocV (ctO cFt (m, p, q, lo o, lo g, lo v) (vB (pkN n)))) (xd, xs, xv, xt, (lo d))) = false := (by rw [hc]; exact fNt (passP_mono (F := (m, p, q, lo o, lo g, lo v)) hov rfl id id (fun _ h => h) (fun _ h => h) (fun _ h => ins_sub h) hw))
       have k27 : (passP feats (m, true, q, (lo o), (lo g), (lo v)) (xd, xs, (-1 : Int), xt, (lo d)) == passP (0 : Int) (m, true, q, (lo o), (lo g), (lo v)) (xd, xs, (-1 : Int), xt, (lo d))) = true := (beq_iff_eq.2 (any_v feats 0 _ _ _ _ _))
       have k28 : (m.fst.tmod (2 : Int) == (0 : Int)) = false := he
       refine (Tr.follow_get (fp_vtttf m p q o g v xd xs xv xt d a n feats) (by simp only [k0, k1, k2, k3, k4, k5, k6, k7, k8, k9, k10, k11, k12, k13, k14, k15, k16, k17, k18, k19, k20, k21, k22, k23, k24, k25, k26, k27, k28])).trans ?_
       rw [hB, show sel (grpM m) (allM m) true = allM m by rw [hgr]; rfl]; exact congrArg (fun b => some (SV.raw (Value.bool b), ([] : List (SO C24)))) (beq_self_eq_true (allM m))
     | false =>
      cases he : (m.fst.tmod (2 : Int) == (0 : Int)) with
      | true =>
       have hgr := hgr he
       have k0 : (!liF (m, p, q, (lo o), (lo g), (lo v))) = false := (fNt hl)
       have k1 : (decide ((1500 : Int) < (↑(lo d).length : Int))) = false := hd
       have k2 : (smF (m, p, q, (lo o), (lo g), (lo v))) = true := hs
       have k3 : (okF (m, p, q, (lo o), (lo g), (lo v))) = true := hok
       have k4 : (roomB ((lo o).length + [a].length) Try.prog.types[(22 : Nat)].bytes) = true := hro
       have k5 : (roomB ((lo g).length + [a].length) Try.prog.types[(22 : Nat)].bytes) = true := hrg
       have k6 : (smX (lo o) (lo g) (lo v)) = true := hs
       have k7 : (byB (vB (pkN n))) = true := hby
       have k8 : ((ocK (ctO cFt (m, p, q, lo o, lo g, lo v) (vB (pkN n)))).beq (0 : Nat)) = false := (by rw [hc]; rfl)
       have k9 : ((ocK (ctO cFt (m, p, q, lo o, lo g, lo v) (vB (pkN n)))).beq (1 : Nat)) = false := (by rw [hc]; rfl)
       have k10 : ((ocK (ctO cFt (m, p, q, lo o, lo g, lo v) (vB (pkN n)))).beq (2 : Nat)) = true := (by rw [hc]; rfl)
       have k11 : (passP feats (m, p, q, (lo o), (lo g), (lo v)) (xd, xs, xv, xt, (lo d))) = true := hw
       have k12 : (smF (m, p, q, (lo o) ++ [a], (lo g), (lo v))) = true := hso
       have k13 : (okF (m, p, q, (lo o) ++ [a], (lo g), (lo v))) = true := hoo
       have k14 : (!passP feats (m, p, q, (lo o) ++ [a], (lo g), (lo v)) (xd, xs, xv, xt, (lo d))) = false := (fNt (passP_mono (F := (m, p, q, lo o, lo g, lo v)) hoo rfl id id (fun _ h => List.mem_append_left _ h) (fun _ h => h) (fun _ h => h) hw))
       have k15 : (smF (m, p, true, (lo o), (lo g), (lo v))) = true := hs
       have k16 : (okF (m, p, true, (lo o), (lo g), (lo v))) = true := hok
       have k17 : (!passP feats (m, p, true, (lo o), (lo g), (lo v)) (xd, xs, xv, xt, (lo d))) = false := (fNt (passP_mono (F := (m, p, q, lo o, lo g, lo v)) hok rfl id (fun _ => rfl) (fun _ h => h) (fun _ h => h) (fun _ h => h) hw))
       have k18 : (smF (m, true, q, (lo o), (lo g), (lo v))) = true := hs
       have k19 : (okF (m, true, q, (lo o), (lo g), (lo v))) = true := hok
       have k20 : (!passP feats (m, true, q, (lo o), (lo g), (lo v)) (xd, xs, xv, xt, (lo d))) = false := (fNt (passP_mono (F := (m, p, q, lo o, lo g, lo v)) hok rfl (fun _ => rfl) id (fun _ h => h) (fun _ h => h) (fun _ h => h) hw))
       have k21 : (smF (m, p, q, (lo o), (lo g) ++ [a], (lo v))) = true := hsg
       have k22 : (okF (m, p, q, (lo o), (lo g) ++ [a], (lo v))) = true := hog
       have k23 : (!passP feats (m, p, q, (lo o), (lo g) ++ [a], (lo v)) (xd, xs, xv, xt, (lo d))) = false := (fNt (passP_mono (F := (m, p, q, lo o, lo g, lo v)) hog rfl id id (fun _ h => h) (fun _ h => List.mem_append_left _ h) (fun _ h => h) hw))
       have k24 : (smF (m, p, q, (lo o), (lo g), ocV (ctO cFt (m, p, q, lo o, lo g, lo v) (vB (pkN n))))) = true := (by rw [hc]; exact hsv)
       have k25 : (okF (m, p, q, (lo o), (lo g), ocV (ctO cFt (m, p, q, lo o, lo g, lo v) (vB (pkN n))))) = false := (by rw [hc]; exact hov)
       have k26 : (passP feats (m, true, q, (lo o), (lo g), (lo v)) (xd, xs, (-1 : Int), xt, (lo d)) == passP (0 : Int) (m, true, q, (lo o), (lo g), (lo v)) (xd, xs, (-1 : Int), xt, (lo d))) = true := (beq_iff_eq.2 (any_v feats 0 _ _ _ _ _))
       have k27 : (m.fst.tmod (2 : Int) == (0 : Int)) = true := he
       refine (Tr.follow_get (fp_vttft m p q o g v xd xs xv xt d a n feats) (by simp only [k0, k1, k2, k3, k4, k5, k6, k7, k8, k9, k10, k11, k12, k13, k14, k15, k16, k17, k18, k19, k20, k21, k22, k23, k24, k25, k26, k27])).trans ?_
       rw [hB, show sel (grpM m) (allM m) true = true by rw [hgr]; rfl]; rfl
      | false =>
       have hgr := hgr' he
       have k0 : (!liF (m, p, q, (lo o), (lo g), (lo v))) = false := (fNt hl)
       have k1 : (decide ((1500 : Int) < (↑(lo d).length : Int))) = false := hd
       have k2 : (smF (m, p, q, (lo o), (lo g), (lo v))) = true := hs
       have k3 : (okF (m, p, q, (lo o), (lo g), (lo v))) = true := hok
       have k4 : (roomB ((lo o).length + [a].length) Try.prog.types[(22 : Nat)].bytes) = true := hro
       have k5 : (roomB ((lo g).length + [a].length) Try.prog.types[(22 : Nat)].bytes) = true := hrg
       have k6 : (smX (lo o) (lo g) (lo v)) = true := hs
       have k7 : (byB (vB (pkN n))) = true := hby
       have k8 : ((ocK (ctO cFt (m, p, q, lo o, lo g, lo v) (vB (pkN n)))).beq (0 : Nat)) = false := (by rw [hc]; rfl)
       have k9 : ((ocK (ctO cFt (m, p, q, lo o, lo g, lo v) (vB (pkN n)))).beq (1 : Nat)) = false := (by rw [hc]; rfl)
       have k10 : ((ocK (ctO cFt (m, p, q, lo o, lo g, lo v) (vB (pkN n)))).beq (2 : Nat)) = true := (by rw [hc]; rfl)
       have k11 : (passP feats (m, p, q, (lo o), (lo g), (lo v)) (xd, xs, xv, xt, (lo d))) = true := hw
       have k12 : (smF (m, p, q, (lo o) ++ [a], (lo g), (lo v))) = true := hso
       have k13 : (okF (m, p, q, (lo o) ++ [a], (lo g), (lo v))) = true := hoo
       have k14 : (!passP feats (m, p, q, (lo o) ++ [a], (lo g), (lo v)) (xd, xs, xv, xt, (lo d))) = false := (fNt (passP_mono (F := (m, p, q, lo o, lo g, lo v)) hoo rfl id id (fun _ h => List.mem_append_left _ h) (fun _ h => h) (fun _ h => h) hw))
       have k15 : (smF (m, p, true, (lo o), (lo g), (lo v))) = true := hs
       have k16 : (okF (m, p, true, (lo o), (lo g), (lo v))) = true := hok
       have k17 : (!passP feats (m, p, true, (lo o), (lo g), (lo v)) (xd, xs, xv, xt, (lo d))) = false := (fNt (passP_mono (F := (m, p, q, lo o, lo g, lo v)) hok rfl id (fun _ => rfl) (fun _ h => h) (fun _ h => h) (fun _ h => h) hw))
       have k18 : (smF (m, true, q, (lo o), (lo g), (lo v))) = true := hs
       have k19 : (okF (m, true, q, (lo o), (lo g), (lo v))) = true := hok
       have k20 : (!passP feats (m, true, q, (lo o), (lo g), (lo v)) (xd, xs, xv, xt, (lo d))) = false := (fNt (passP_mono (F := (m, p, q, lo o, lo g, lo v)) hok rfl (fun _ => rfl) id (fun _ h => h) (fun _ h => h) (fun _ h => h) hw))
       have k21 : (smF (m, p, q, (lo o), (lo g) ++ [a], (lo v))) = true := hsg
       have k22 : (okF (m, p, q, (lo o), (lo g) ++ [a], (lo v))) = true := hog
       have k23 : (!passP feats (m, p, q, (lo o), (lo g) ++ [a], (lo v)) (xd, xs, xv, xt, (lo d))) = false := (fNt (passP_mono (F := (m, p, q, lo o, lo g, lo v)) hog rfl id id (fun _ h => h) (fun _ h => List.mem_append_left _ h) (fun _ h => h) hw))
       have k24 : (smF (m, p, q, (lo o), (lo g), ocV (ctO cFt (m, p, q, lo o, lo g, lo v) (vB (pkN n))))) = true := (by rw [hc]; exact hsv)
       have k25 : (okF (m, p, q, (lo o), (lo g), ocV (ctO cFt (m, p, q, lo o, lo g, lo v) (vB (pkN n))))) = false := (by rw [hc]; exact hov)
       have k26 : (passP feats (m, true, q, (lo o), (lo g), (lo v)) (xd, xs, (-1 : Int), xt, (lo d)) == passP (0 : Int) (m, true, q, (lo o), (lo g), (lo v)) (xd, xs, (-1 : Int), xt, (lo d))) = true := (beq_iff_eq.2 (any_v feats 0 _ _ _ _ _))
       have k27 : (m.fst.tmod (2 : Int) == (0 : Int)) = false := he
       refine (Tr.follow_get (fp_vttff m p q o g v xd xs xv xt d a n feats) (by simp only [k0, k1, k2, k3, k4, k5, k6, k7, k8, k9, k10, k11, k12, k13, k14, k15, k16, k17, k18, k19, k20, k21, k22, k23, k24, k25, k26, k27])).trans ?_
       rw [hB, show sel (grpM m) (allM m) true = allM m by rw [hgr]; rfl]; exact congrArg (fun b => some (SV.raw (Value.bool b), ([] : List (SO C24)))) (beq_self_eq_true (allM m))
    | false =>
     cases hov : (okF (m, p, q, (lo o), (lo g), insL (lo v) (bsZ (lo v) (pkN n)).toNat [pkN n])) with
     | true =>
      cases he : (m.fst.tmod (2 : Int) == (0 : Int)) with
      | true =>
       have hgr := hgr he
       have k0 : (!liF (m, p, q, (lo o), (lo g), (lo v))) = false := (fNt hl)
       have k1 : (decide ((1500 : Int) < (↑(lo d).length : Int))) = false := hd
       have k2 : (smF (m, p, q, (lo o), (lo g), (lo v))) = true := hs
       have k3 : (okF (m, p, q, (lo o), (lo g), (lo v))) = true := hok
       have k4 : (roomB ((lo o).length + [a].length) Try.prog.types[(22 : Nat)].bytes) = true := hro
       have k5 : (roomB ((lo g).length + [a].length) Try.prog.types[(22 : Nat)].bytes) = true := hrg
       have k6 : (smX (lo o) (lo g) (lo v)) = true := hs
       have k7 : (byB (vB (pkN n))) = true := hby
       have k8 : ((ocK (ctO cFt (m, p, q, lo o, lo g, lo v) (vB (pkN n)))).beq (0 : Nat)) = false := (by rw [hc]; rfl)
       have k9 : ((ocK (ctO cFt (m, p, q, lo o, lo g, lo v) (vB (pkN n)))).beq (1 : Nat)) = false := (by rw [hc]; rfl)
       have k10 : ((ocK (ctO cFt (m, p, q, lo o, lo g, lo v) (vB (pkN n)))).beq (2 : Nat)) = true := (by rw [hc]; rfl)
       have k11 : (passP feats (m, p, q, (lo o), (lo g), (lo v)) (xd, xs, xv, xt, (lo d))) = true := hw
       have k12 : (smF (m, p, q, (lo o) ++ [a], (lo g), (lo v))) = true := hso
       have k13 : (okF (m, p, q, (lo o) ++ [a], (lo g), (lo v))) = true := hoo
       have k14 : (!passP feats (m, p, q, (lo o) ++ [a], (lo g), (lo v)) (xd, xs, xv, xt, (lo d))) = false := (fNt (passP_mono (F := (m, p, q, lo o, lo g, lo v)) hoo rfl id id (fun _ h => List.mem_append_left _ h) (fun _ h => h) (fun _ h => h) hw))
       have k15 : (smF (m, p, true, (lo o), (lo g), (lo v))) = true := hs
       have k16 : (okF (m, p, true, (lo o), (lo g), (lo v))) = true := hok
       have k17 : (!passP feats (m, p, true, (lo o), (lo g), (lo v)) (xd, xs, xv, xt, (lo d))) = false := (fNt (passP_mono (F := (m, p, q, lo o, lo g, lo v)) hok rfl id (fun _ => rfl) (fun _ h => h) (fun _ h => h) (fun _ h => h) hw))
       have k18 : (smF (m, true, q, (lo o), (lo g), (lo v))) = true := hs
       have k19 : (okF (m, true, q, (lo o), (lo g), (lo v))) = true := hok
       have k20 : (!passP feats (m, true, q, (lo o), (lo g), (lo v)) (xd, xs, xv, xt, (lo d))) = false := (fNt (passP_mono (F := (m, p, q, lo o, lo g, lo v)) hok rfl (fun _ => rfl) id (fun _ h => h) (fun _ h => h) (fun _ h => h) hw))
       have k21 : (smF (m, p, q, (lo o), (lo g) ++ [a], (lo v))) = true := hsg
       have k22 : (okF (m, p, q, (lo o), (lo g) ++ [a], (lo v))) = false := hog
       have k23 : (smF (m, p, q, (lo o), (lo g), ocV (ctO cFt (m, p, q, lo o, lo g, lo v) (vB (pkN n))))) = true := (by rw [hc]; exact hsv)
       have k24 : (okF (m, p, q, (lo o), (lo g), ocV (ctO cFt (m, p, q, lo o, lo g, lo v) (vB (pkN n))))) = true := (by rw [hc]; exact hov)
       have k25 : (!passP feats (m, p, q, (lo o), (lo g), ocV (ctO cFt (m, p, q, lo o, lo g, lo v) (vB (pkN n)))) (xd, xs, xv, xt, (lo d))) = false := (by rw [hc]; exact fNt (passP_mono (F := (m, p, q, lo o, lo g, lo v)) hov rfl id id (fun _ h => h) (fun _ h => h) (fun _ h => ins_sub h) hw))
       have k26 : (passP feats (m, true, q, (lo o), (lo g), (lo v)) (xd, xs, (-1 : Int), xt, (lo d)) == passP (0 : Int) (m, true, q, (lo o), (lo g), (lo v)) (xd, xs, (-1 : Int), xt, (lo d))) = true := (beq_iff_eq.2 (any_v feats 0 _ _ _ _ _))
       have k27 : (m.fst.tmod (2 : Int) == (0 : Int)) = true := he
       refine (Tr.follow_get (fp_vtftt m p q o g v xd xs xv xt d a n feats) (by simp only [k0, k1, k2, k3, k4, k5, k6, k7, k8, k9, k10, k11, k12, k13, k14, k15, k16, k17, k18, k19, k20, k21, k22, k23, k24, k25, k26, k27])).trans ?_
       rw [hB, show sel (grpM m) (allM m) true = true by rw [hgr]; rfl]; rfl
      | false =>
       have hgr := hgr' he
       have k0 : (!liF (m, p, q, (lo o), (lo g), (lo v))) = false := (fNt hl)
       have k1 : (decide ((1500 : Int) < (↑(lo d).length : Int))) = false := hd
       have k2 : (smF (m, p, q, (lo o), (lo g), (lo v))) = true := hs
       have k3 : (okF (m, p, q, (lo o), (lo g), (lo v))) = true := hok
       have k4 : (roomB ((lo o).length + [a].length) Try.prog.types[(22 : Nat)].bytes) = true := hro
       have k5 : (roomB ((lo g).length + [a].length) Try.prog.types[(22 : Nat)].bytes) = true := hrg
       have k6 : (smX (lo o) (lo g) (lo v)) = true := hs
       have k7 : (byB (vB (pkN n))) = true := hby
       have k8 : ((ocK (ctO cFt (m, p, q, lo o, lo g, lo v) (vB (pkN n)))).beq (0 : Nat)) = false := (by rw [hc]; rfl)
       have k9 : ((ocK (ctO cFt (m, p, q, lo o, lo g, lo v) (vB (pkN n)))).beq (1 : Nat)) = false := (by rw [hc]; rfl)
       have k10 : ((ocK (ctO cFt (m, p, q, lo o, lo g, lo v) (vB (pkN n)))).beq (2 : Nat)) = true := (by rw [hc]; rfl)
       have k11 : (passP feats (m, p, q, (lo o), (lo g), (lo v)) (xd, xs, xv, xt, (lo d))) = true := hw
       have k12 : (smF (m, p, q, (lo o) ++ [a], (lo g), (lo v))) = true := hso
       have k13 : (okF (m, p, q, (lo o) ++ [a], (lo g), (lo v))) = true := hoo
       have k14 : (!passP feats (m, p, q, (lo o) ++ [a], (lo g), (lo v)) (xd, xs, xv, xt, (lo d))) = false := (fNt (passP_mono (F := (m, p, q, lo o, lo g, lo v)) hoo rfl id id (fun _ h => List.mem_append_left _ h) (fun _ h => h) (fun _ h => h) hw))
       have k15 : (smF (m, p, true, (lo o), (lo g), (lo v))) = true := hs
       have k16 : (okF (m, p, true, (lo o), (lo g), (lo v))) = true := hok
       have k17 : (!passP feats (m, p, true, (lo o), (lo g), (lo v)) (xd, xs, xv, xt, (lo d))) = false := (fNt (passP_mono (F := (m, p, q, lo o, lo g, lo v)) hok rfl id (fun _ => rfl) (fun _ h => h) (fun _ h => h) (fun _ h => h) hw))
       have k18 : (smF (m, true, q, (lo o), (lo g), (lo v))) = true := hs
       have k19 : (okF (m, true, q, (lo o), (lo g), (lo v))) = true := hok
       have k20 : (!passP feats (m, true, q, (lo o), (lo g), (lo v)) (xd, xs, xv, xt, (lo d))) = false := (fNt (passP_mono (F := (m, p, q, lo o, lo g, lo v)) hok rfl (fun _ => rfl) id (fun _ h => h) (fun _ h => h) (fun _ h => h) hw))
       have k21 : (smF (m, p, q, (lo o), (lo g) ++ [a], (lo v))) = true := hsg
       have k22 : (okF (m, p, q, (lo o), (lo g) ++ [a], (lo v))) = false := hog
       have k23 : (smF (m, p, q, (lo o), (lo g), ocV (ctO cFt (m, p, q, lo o, lo g, lo v) (vB (pkN n))))) = true := (by rw [hc]; exact hsv)
       have k24 : (okF (m, p, q, (lo o), (lo g), ocV (ctO cFt (m, p, q, lo o, lo g, lo v) (vB (pkN n))))) = true := (by rw [hc]; exact hov)
       have k25 : (!passP feats (m, p, q, (lo o), (lo g), ocV (ctO cFt (m, p, q, lo o, lo g, lo v) (vB (pkN n)))) (xd, xs, xv, xt, (lo d))) = false := (by rw [hc]; exact fNt (passP_mono (F := (m, p, q, lo o, lo g, lo v)) hov rfl id id (fun _ h => h) (fun _ h => h) (fun _ h => ins_sub h) hw))
       have k26 : (passP feats (m, true, q, (lo o), (lo g), (lo v)) (xd, xs, (-1 : Int), xt, (lo d)) == passP (0 : Int) (m, true, q, (lo o), (lo g), (lo v)) (xd, xs, (-1 : Int), xt, (lo d))) = true := (beq_iff_eq.2 (any_v feats 0 _ _ _ _ _))
       have k27 : (m.fst.tmod (2 : Int) == (0 : Int)) = false := he
       refine (Tr.follow_get (fp_vtftf m p q o g v xd xs xv xt d a n feats) (by simp only [k0, k1, k2, k3, k4, k5, k6, k7, k8, k9, k10, k11, k12, k13, k14, k15, k16, k17, k18, k19, k20, k21, k22, k23, k24, k25, k26, k27])).trans ?_
       rw [hB, show sel (grpM m) (allM m) true = allM m by rw [hgr]; rfl]; exact congrArg (fun b => some (SV.raw (Value.bool b), ([] : List (SO C24)))) (beq_self_eq_true (allM m))
     | false =>
      cases he : (m.fst.tmod (2 : Int) == (0 : Int)) with
      | true =>
       have hgr := hgr he
       have k0 : (!liF (m, p, q, (lo o), (lo g), (lo v))) = false := (fNt hl)
       have k1 : (decide ((1500 : Int) < (↑(lo d).length : Int))) = false := hd
       have k2 : (smF (m, p, q, (lo o), (lo g), (lo v))) = true := hs
       have k3 : (okF (m, p, q, (lo o), (lo g), (lo v))) = true := hok
       have k4 : (roomB ((lo o).length + [a].length) Try.prog.types[(22 : Nat)].bytes) = true := hro
       have k5 : (roomB ((lo g).length + [a].length) Try.prog.types[(22 : Nat)].bytes) = true := hrg
       have k6 : (smX (lo o) (lo g) (lo v)) = true := hs
       have k7 : (byB (vB (pkN n))) = true := hby
       have k8 : ((ocK (ctO cFt (m, p, q, lo o, lo g, lo v) (vB (pkN n)))).beq (0 : Nat)) = false := (by rw [hc]; rfl)
       have k9 : ((ocK (ctO cFt (m, p, q, lo o, lo g, lo v) (vB (pkN n)))).beq (1 : Nat)) = false := (by rw [hc]; rfl)
       have k10 : ((ocK (ctO cFt (m, p, q, lo o, lo g, lo v) (vB (pkN n)))).beq (2 : Nat)) = true := (by rw [hc]; rfl)
       have k11 : (passP feats (m, p, q, (lo o), (lo g), (lo v)) (xd, xs, xv, xt, (lo d))) = true := hw
       have k12 : (smF (m, p, q, (lo o) ++ [a], (lo g), (lo v))) = true := hso
       have k13 : (okF (m, p, q, (lo o) ++ [a], (lo g), (lo v))) = true := hoo
       have k14 : (!passP feats (m, p, q, (lo o) ++ [a], (lo g), (lo v)) (xd, xs, xv, xt, (lo d))) = false := (fNt (passP_mono (F := (m, p, q, lo o, lo g, lo v)) hoo rfl id id (fun _ h => List.mem_append_left _ h) (fun _ h => h) (fun _ h => h) hw))
       have k15 : (smF (m, p, true, (lo o), (lo g), (lo v))) = true := hs
       have k16 : (okF (m, p, true, (lo o), (lo g), (lo v))) = true := hok
       have k17 : (!passP feats (m, p, true, (lo o), (lo g), (lo v)) (xd, xs, xv, xt, (lo d))) = false := (fNt (passP_mono (F := (m, p, q, lo o, lo g, lo v)) hok rfl id (fun _ => rfl) (fun _ h => h) (fun _ h => h) (fun _ h => h) hw))
       have k18 : (smF (m, true, q, (lo o), (lo g), (lo v))) = true := hs
       have k19 : (okF (m, true, q, (lo o), (lo g), (lo v))) = true := hok
       have k20 : (!passP feats (m, true, q, (lo o), (lo g), (lo v)) (xd, xs, xv, xt, (lo d))) = false := (fNt (passP_mono (F := (m, p, q, lo o, lo g, lo v)) hok rfl (fun _ => rfl) id (fun _ h => h) (fun _ h => h) (fun _ h => h) hw))
       have k21 : (smF (m, p, q, (lo o), (lo g) ++ [a], (lo v))) = true := hsg
       have k22 : (okF (m, p, q, (lo o), (lo g) ++ [a], (lo v))) = false := hog
       have k23 : (smF (m, p, q, (lo o), (lo g), ocV (ctO cFt (m, p, q, lo o, lo g, lo v) (vB (pkN n))))) = true := (by rw [hc]; exact hsv)
       have k24 : (okF (m, p, q, (lo o), (lo g), ocV (ctO cFt (m, p, q, lo o, lo g, lo v) (vB (pkN n))))) = false := (by rw [hc]; exact hov)
       have k25 : (passP feats (m, true, q, (lo o), (lo g), (lo v)) (xd, xs, (-1 : Int), xt, (lo d)) == passP (0 : Int) (m, true, q, (lo o), (lo g), (lo v)) (xd, xs, (-1 : Int), xt, (lo d))) = true := (beq_iff_eq.2 (any_v feats 0 _ _ _ _ _))
       have k26 : (m.fst.tmod (2 : Int) == (0 : Int)) = true := he
       refine (Tr.follow_get (fp_vtfft m p q o g v xd xs xv xt d a n feats) (by simp only [k0, k1, k2, k3, k4, k5, k6, k7, k8, k9, k10, k11, k12, k13, k14, k15, k16, k17, k18, k19, k20, k21, k22, k23, k24, k25, k26])).trans ?_
       rw [hB, show sel (grpM m) (allM m) true = true by rw [hgr]; rfl]; rfl
      | false =>
       have hgr := hgr' he
       have k0 : (!liF (m, p, q, (lo o), (lo g), (lo v))) = false := (fNt hl)
       have k1 : (decide ((1500 : Int) < (↑(lo d).length : Int))) = false := hd
       have k2 : (smF (m, p, q, (lo o), (lo g), (lo v))) = true := hs
       have k3 : (okF (m, p, q, (lo o), (lo g), (lo v))) = true := hok
       have k4 : (roomB ((lo o).length + [a].length) Try.prog.types[(22 : Nat)].bytes) = true := hro
       have k5 : (roomB ((lo g).length + [a].length) Try.prog.types[(22 : Nat)].bytes) = true := hrg
       have k6 : (smX (lo o) (lo g) (lo v)) = true := hs
       have k7 : (byB (vB (pkN n))) = true := hby
       have k8 : ((ocK (ctO cFt (m, p, q, lo o, lo g, lo v) (vB (pkN n)))).beq (0 : Nat)) = false := (by rw [hc]; rfl)
       have k9 : ((ocK (ctO cFt (m, p, q, lo o, lo g, lo v) (vB (pkN n)))).beq (1 : Nat)) = false := (by rw [hc]; rfl)
       have k10 : ((ocK (ctO cFt (m, p, q, lo o, lo g, lo v) (vB (pkN n)))).beq (2 : Nat)) = true := (by rw [hc]; rfl)
       have k11 : (passP feats (m, p, q, (lo o), (lo g), (lo v)) (xd, xs, xv, xt, (lo d))) = true := hw
       have k12 : (smF (m, p, q, (lo o) ++ [a], (lo g), (lo v))) = true := hso
       have k13 : (okF (m, p, q, (lo o) ++ [a], (lo g), (lo v))) = true := hoo
       have k14 : (!passP feats (m, p, q, (lo o) ++ [a], (lo g), (lo v)) (xd, xs, xv, xt, (lo d))) = false := (fNt (passP_mono (F := (m, p, q, lo o, lo g, lo v)) hoo rfl id id (fun _ h => List.mem_append_left _ h) (fun _ h => h) (fun _ h => h) hw))
       have k15 : (smF (m, p, true, (lo o), (lo g), (lo v))) = true := hs
       have k16 : (okF (m, p, true, (lo o), (lo g), (lo v))) = true := hok
       have k17 : (!passP feats (m, p, true, (lo o), (lo g), (lo v)) (xd, xs, xv, xt, (lo d))) = false := (fNt (passP_mono (F := (m, p, q, lo o, lo g, lo v)) hok rfl id (fun _ => rfl) (fun _ h => h) (fun _ h => h) (fun _ h => h) hw))
       have k18 : (smF (m, true, q, (lo o), (lo g), (lo v))) = true := hs
       have k19 : (okF (m, true, q, (lo o), (lo g), (lo v))) = true := hok
       have k20 : (!passP feats (m, true, q, (lo o), (lo g), (lo v)) (xd, xs, xv, xt, (lo d))) = false := (fNt (passP_mono (F := (m, p, q, lo o, lo g, lo v)) hok rfl (fun _ => rfl) id (fun _ h => h) (fun _ h => h) (fun _ h => h) hw))
       have k21 : (smF (m, p, q, (lo o), (lo g) ++ [a], (lo v))) = true := hsg
       have k22 : (okF (m, p, q, (lo o), (lo g) ++ [a], (lo v))) = false := hog
       have k23 : (smF (m, p, q, (lo o), (lo g), ocV (ctO cFt (m, p, q, lo o, lo g, lo v) (vB (pkN n))))) = true := (by rw [hc]; exact hsv)
       have k24 : (okF (m, p, q, (lo o), (lo g), ocV (ctO cFt (m, p, q, lo o, lo g, lo v) (vB (pkN n))))) = false := (by rw [hc]; exact hov)
       have k25 : (passP feats (m, true, q, (lo o), (lo g), (lo v)) (xd, xs, (-1 : Int), xt, (lo d)) == passP (0 : Int) (m, true, q, (lo o), (lo g), (lo v)) (xd, xs, (-1 : Int), xt, (lo d))) = true := (beq_iff_eq.2 (any_v feats 0 _ _ _ _ _))
       have k26 : (m.fst.tmod (2 : Int) == (0 : Int)) = false := he
       refine (Tr.follow_get (fp_vtfff m p q o g v xd xs xv xt d a n feats) (by simp only [k0, k1, k2, k3, k4, k5, k6, k7, k8, k9, k10, k11, k12, k13, k14, k15, k16, k17, k18, k19, k20, k21, k22, k23, k24, k25, k26])).trans ?_
       rw [hB, show sel (grpM m) (allM m) true = allM m by rw [hgr]; rfl]; exact congrArg (fun b => some (SV.raw (Value.bool b), ([] : List (SO C24)))) (beq_self_eq_true (allM m))
   | false =>
    cases hog : (okF (m, p, q, (lo o), (lo g) ++ [a], (lo v))) with
    | true =>
     cases hov : (okF (m, p, q, (lo o), (lo g), insL (lo v) (bsZ (lo v) (pkN n)).toNat [pkN n])) with
     | true =>
      cases he : (m.fst.tmod (2 : Int) == (0 : Int)) with
      | true =>
       have hgr := hgr he
       have k0 : (!liF (m, p, q, (lo o), (lo g), (lo v))) = false := (fNt hl)
       have k1 : (decide ((1500 : Int) < (↑(lo d).length : Int))) = false := hd
       have k2 : (smF (m, p, q, (lo o), (lo g), (lo v))) = true := hs
       have k3 : (okF (m, p, q, (lo o), (lo g), (lo v))) = true := hok
       have k4 : (roomB ((lo o).length + [a].length) Try.prog.types[(22 : Nat)].bytes) = true := hro
       have k5 : (roomB ((lo g).length + [a].length) Try.prog.types[(22 : Nat)].bytes) = true := hrg
       have k6 : (smX (lo o) (lo g) (lo v)) = true := hs
       have k7 : (byB (vB (pkN n))) = true := hby
       have k8 : ((ocK (ctO cFt (m, p, q, lo o, lo g, lo v) (vB (pkN n)))).beq (0 : Nat)) = false := (by rw [hc]; rfl)
       have k9 : ((ocK (ctO cFt (m, p, q, lo o, lo g, lo v) (vB (pkN n)))).beq (1 : Nat)) = false := (by rw [hc]; rfl)
       have k10 : ((ocK (ctO cFt (m, p, q, lo o, lo g, lo v) (vB (pkN n)))).beq (2 : Nat)) = true := (by rw [hc]; rfl)
       have k11 : (passP feats (m, p, q, (lo o), (lo g), (lo v)) (xd, xs, xv, xt, (lo d))) = true := hw
       have k12 : (smF (m, p, q, (lo o) ++ [a], (lo g), (lo v))) = true := hso
       have k13 : (okF (m, p, q, (lo o) ++ [a], (lo g), (lo v))) = false := hoo
       have k14 : (smF (m, p, true, (lo o), (lo g), (lo v))) = true := hs
       have k15 : (okF (m, p, true, (lo o), (lo g), (lo v))) = true := hok
       have k16 : (!passP feats (m, p, true, (lo o), (lo g), (lo v)) (xd, xs, xv, xt, (lo d))) = false := (fNt (passP_mono (F := (m, p, q, lo o, lo g, lo v)) hok rfl id (fun _ => rfl) (fun _ h => h) (fun _ h => h) (fun _ h => h) hw))
       have k17 : (smF (m, true, q, (lo o), (lo g), (lo v))) = true := hs
       have k18 : (okF (m, true, q, (lo o), (lo g), (lo v))) = true := hok
       have k19 : (!passP feats (m, true, q, (lo o), (lo g), (lo v)) (xd, xs, xv, xt, (lo d))) = false := (fNt (passP_mono (F := (m, p, q, lo o, lo g, lo v)) hok rfl (fun _ => rfl) id (fun _ h => h) (fun _ h => h) (fun _ h => h) hw))
       have k20 : (smF (m, p, q, (lo o), (lo g) ++ [a], (lo v))) = true := hsg
       have k21 : (okF (m, p, q, (lo o), (lo g) ++ [a], (lo v))) = true := hog
       have k22 : (!passP feats (m, p, q, (lo o), (lo g) ++ [a], (lo v)) (xd, xs, xv, xt, (lo d))) = false := (fNt (passP_mono (F := (m, p, q, lo o, lo g, lo v)) hog rfl id id (fun _ h => h) (fun _ h => List.mem_append_left _ h) (fun _ h => h) hw))
       have k23 : (smF (m, p, q, (lo o), (lo g), ocV (ctO cFt (m, p, q, lo o, lo g, lo v) (vB (pkN n))))) = true := (by rw [hc]; exact hsv)
       have k24 : (okF (m, p, q, (lo o), (lo g), ocV (ctO cFt (m, p, q, lo o, lo g, lo v) (vB (pkN n))))) = true := (by rw [hc]; exact hov)
       have k25 : (!passP feats (m, p, q, (lo o), (lo g), ocV (ctO cFt (m, p, q, lo o, lo g, lo v) (vB (pkN n)))) (xd, xs, xv, xt, (lo d))) = false := (by rw [hc]; exact fNt (passP_mono (F := (m, p, q, lo o, lo g, lo v)) hov rfl id id (fun _ h => h) (fun _ h => h) (fun _ h => ins_sub h) hw))
       have k26 : (passP feats (m, true, q, (lo o), (lo g), (lo v)) (xd, xs, (-1 : Int), xt, (lo d)) == passP (0 : Int) (m, true, q, (lo o), (lo g), (lo v)) (xd, xs, (-1 : Int), xt, (lo d))) = true := (beq_iff_eq.2 (any_v feats 0 _ _ _ _ _))
       have k27 : (m.fst.tmod (2 : Int) == (0 : Int)) = true := he
       refine (Tr.follow_get (fp_vfttt m p q o g v xd xs xv xt d a n feats) (by simp only [k0, k1, k2, k3, k4, k5, k6, k7, k8, k9, k10, k11, k12, k13, k14, k15, k16, k17, k18, k19, k20, k21, k22, k23, k24, k25, k26, k27])).trans ?_
       rw [hB, show sel (grpM m) (allM m) true = true by rw [hgr]; rfl]; rfl
      | false =>
       have hgr := hgr' he
       have k0 : (!liF (m, p, q, (lo o), (lo g), (lo v))) = false := (fNt hl)
       have k1 : (decide ((1500 : Int) < (↑(lo d).length : Int))) = false := hd
       have k2 : (smF (m, p, q, (lo o), (lo g), (lo v))) = true := hs
       have k3 : (okF (m, p, q, (lo o), (lo g), (lo v))) = true := hok
       have k4 : (roomB ((lo o).length + [a].length) Try.prog.types[(22 : Nat)].bytes) = true := hro
       have k5 : (roomB ((lo g).length + [a].length) Try.prog.types[(22 : Nat)].bytes) = true := hrg
       have k6 : (smX (lo o) (lo g) (lo v)) = true := hs
       have k7 : (byB (vB (pkN n))) = true := hby
       have k8 : ((ocK (ctO cFt (m, p, q, lo o, lo g, lo v) (vB (pkN n)))).beq (0 : Nat)) = false := (by rw [hc]; rfl)
       have k9 : ((ocK (ctO cFt (m, p, q, lo o, lo g, lo v) (vB (pkN n)))).beq (1 : Nat)) = false := (by rw [hc]; rfl)
       have k10 : ((ocK (ctO cFt (m, p, q, lo o, lo g, lo v) (vB (pkN n)))).beq (2 : Nat)) = true := (by rw [hc]; rfl)
       have k11 : (passP feats (m, p, q, (lo o), (lo g), (lo v)) (xd, xs, xv, xt, (lo d))) = true := hw
       have k12 : (smF (m, p, q, (lo o) ++ [a], (lo g), (lo v))) = true := hso
       have k13 : (okF (m, p, q, (lo o) ++ [a], (lo g), (lo v))) = false := hoo
       have k14 : (smF (m, p, true, (lo o), (lo g), (lo v))) = true := hs
       have k15 : (okF (m, p, true, (lo o), (lo g), (lo v))) = true := hok
       have k16 : (!passP feats (m, p, true, (lo o), (lo g), (lo v)) (xd, xs, xv, xt, (lo d))) = false := (fNt (passP_mono (F := (m, p, q, lo o, lo g, lo v)) hok rfl id (fun _ => rfl) (fun _ h => h) (fun _ h => h) (fun _ h => h) hw))
       have k17 : (smF (m, true, q, (lo o), (lo g), (lo v))) = true := hs
       have k18 : (okF (m, true, q, (lo o), (lo g), (lo v))) = true := hok
       have k19 : (!passP feats (m, true, q, (lo o), (lo g), (lo v)) (xd, xs, xv, xt, (lo d))) = false := (fNt (passP_mono (F := (m, p, q, lo o, lo g, lo v)) hok rfl (fun _ => rfl) id (fun _ h => h) (fun _ h => h) (fun _ h => h) hw))
       have k20 : (smF (m, p, q, (lo o), (lo g) ++ [a], (lo v))) = true := hsg
       have k21 : (okF (m, p, q, (lo o), (lo g) ++ [a], (lo v))) = true := hog
       have k22 : (!passP feats (m, p, q, (lo o), (lo g) ++ [a], (lo v)) (xd, xs, xv, xt, (lo d))) = false := (fNt (passP_mono (F := (m, p, q, lo o, lo g, lo v)) hog rfl id id (fun _ h => h) (fun _ h => List.mem_append_left _ h) (fun _ h => h) hw))
       have k23 : (smF (m, p, q, (lo o), (lo g), ocV (ctO cFt (m, p, q, lo o, lo g, lo v) (vB (pkN n))))) = true := (by rw [hc]; exact hsv)
       have k24 : (okF (m, p, q, (lo o), (lo g), ocV (ctO cFt (m, p, q, lo o, lo g, lo v) (vB (pkN n))))) = true := (by rw [hc]; exact hov)
       have k25 : (!passP feats (m, p, q, (lo o), (lo g), ocV (ctO cFt (m, p, q, lo o, lo g, lo v) (vB (pkN n)))) (xd, xs, xv, xt, (lo d))) = false := (by rw [hc]; exact fNt (passP_mono (F := (m, p, q, lo o, lo g, lo v)) hov rfl id id (fun _ h => h) (fun _ h => h) (fun _ h => ins_sub h) hw))
       have k26 : (passP feats (m, true, q, (lo o), (lo g), (lo v)) (xd, xs, (-1 : Int), xt, (lo d)) == passP (0 : Int) (m, true, q, (lo o), (lo g), (lo v)) (xd, xs, (-1 : Int), xt, (lo d))) = true := (beq_iff_eq.2 (any_v feats 0 _ _ _ _ _))
       have k27 : (m.fst.tmod (2 : Int) == (0 : Int)) = false := he
       refine (Tr.follow_get (fp_vfttf m p q o g v xd xs xv xt d a n feats) (by simp only [k0, k1, k2, k3, k4, k5, k6, k7, k8, k9, k10, k11, k12, k13, k14, k15, k16, k17, k18, k19, k20, k21, k22, k23, k24, k25, k26, k27])).trans ?_
       rw [hB, show sel (grpM m) (allM m) true = allM m by rw [hgr]; rfl]; exact congrArg (fun b => some (SV.raw (Value.bool b), ([] : List (SO C24)))) (beq_self_eq_true (allM m))
     | false =>
      cases he : (m.fst.tmod (2 : Int) == (0 : Int)) with
      | true =>
       have hgr := hgr he
       have k0 : (!liF (m, p, q, (lo o), (lo g), (lo v))) = false := (fNt hl)
       have k1 : (decide ((1500 : Int) < (↑(lo d).length : Int))) = false := hd
       have k2 : (smF (m, p, q, (lo o), (lo g), (lo v))) = true := hs
       have k3 : (okF (m, p, q, (lo o), (lo g), (lo v))) = true := hok
       have k4 : (roomB ((lo o).length + [a].length) Try.prog.types[(22 : Nat)].bytes) = true := hro
       have k5 : (roomB ((lo g).length + [a].length) Try.prog.types[(22 : Nat)].bytes) = true := hrg
       have k6 : (smX (lo o) (lo g) (lo v)) = true := hs
       have k7 : (byB (vB (pkN n))) = true := hby
       have k8 : ((ocK (ctO cFt (m, p, q, lo o, lo g, lo v) (vB (pkN n)))).beq (0 : Nat)) = false := (by rw [hc]; rfl)
       have k9 : ((ocK (ctO cFt (m, p, q, lo o, lo g, lo v) (vB (pkN n)))).beq (1 : Nat)) = false := (by rw [hc]; rfl)
       have k10 : ((ocK (ctO cFt (m, p, q, lo o, lo g, lo v) (vB (pkN n)))).beq (2 : Nat)) = true := (by rw [hc]; rfl)
       have k11 : (passP feats (m, p, q, (lo o), (lo g), (lo v)) (xd, xs, xv, xt, (lo d))) = true := hw
       have k12 : (smF (m, p, q, (lo o) ++ [a], (lo g), (lo v))) = true := hso
       have k13 : (okF (m, p, q, (lo o) ++ [a], (lo g), (lo v))) = false := hoo
       have k14 : (smF (m, p, true, (lo o), (lo g), (lo v))) = true := hs
       have k15 : (okF (m, p, true, (lo o), (lo g), (lo v))) = true := hok
       have k16 : (!passP feats (m, p, true, (lo o), (lo g), (lo v)) (xd, xs, xv, xt, (lo d))) = false := (fNt (passP_mono (F := (m, p, q, lo o, lo g, lo v)) hok rfl id (fun _ => rfl) (fun _ h => h) (fun _ h => h) (fun _ h => h) hw))
       have k17 : (smF (m, true, q, (lo o), (lo g), (lo v))) = true := hs
       have k18 : (okF (m, true, q, (lo o), (lo g), (lo v))) = true := hok
       have k19 : (!passP feats (m, true, q, (lo o), (lo g), (lo v)) (xd, xs, xv, xt, (lo d))) = false := (fNt (passP_mono (F := (m, p, q, lo o, lo g, lo v)) hok rfl (fun _ => rfl) id (fun _ h => h) (fun _ h => h) (fun _ h => h) hw))
       have k20 : (smF (m, p, q, (lo o), (lo g) ++ [a], (lo v))) = true := hsg
       have k21 : (okF (m, p, q, (lo o), (lo g) ++ [a], (lo v))) = true := hog
       have k22 : (!passP feats (m, p, q, (lo o), (lo g) ++ [a], (lo v)) (xd, xs, xv, xt, (lo d))) = false := (fNt (passP_mono (F := (m, p, q, lo o, lo g, lo v)) hog rfl id id (fun _ h => h) (fun _ h => List.mem_append_left _ h) (fun _ h => h) hw))
       have k23 : (smF (m, p, q, (lo o), (lo g), ocV (ctO cFt (m, p, q, lo o, lo g, lo v) (vB (pkN n))))) = true := (by rw [hc]; exact hsv)
       have k24 : (okF (m, p, q, (lo o), (lo g), ocV (ctO cFt (m, p, q, lo o, lo g, lo v) (vB (pkN n))))) = false := (by rw [hc]; exact hov)
       have k25 : (passP feats (m, true, q, (lo o), (lo g), (lo v)) (xd, xs, (-1 : Int), xt, (lo d)) == passP (0 : Int) (m, true, q, (lo o), (lo g), (lo v)) (xd, xs, (-1 : Int), xt, (lo d))) = true := (beq_iff_eq.2 (any_v feats 0 _ _ _ _ _))
       have k26 : (m.fst.tmod (2 : Int) == (0 : Int)) = true := he
       refine (Tr.follow_get (fp_vftft m p q o g v xd xs xv xt d a n feats) (by simp only [k0, k1, k2, k3, k4, k5, k6, k7, k8, k9, k10, k11, k12, k13, k14, k15, k16, k17, k18, k19, k20, k21, k22, k23, k24, k25, k26])).trans ?_
       rw [hB, show sel (grpM m) (allM m) true = true by rw [hgr]; rfl]; rfl
      | false =>
       have hgr := hgr' he
       have k0 : (!liF (m, p, q, (lo o), (lo g), (lo v))) = false := (fNt hl)
       have k1 : (decide ((1500 : Int) < (↑(lo d).length : Int))) = false := hd
       have k2 : (smF (m, p, q, (lo o), (lo g), (lo v))) = true := hs
       have k3 : (okF (m, p, q, (lo o), (lo g), (lo v))) = true := hok
       have k4 : (roomB ((lo o).length + [a].length) Try.prog.types[(22 : Nat)].bytes) = true := hro
       have k5 : (roomB ((lo g).length + [a].length) Try.prog.types[(22 : Nat)].bytes) = true := hrg
       have k6 : (smX (lo o) (lo g) (lo v)) = true := hs
       have k7 : (byB (vB (pkN n))) = true := hby
       have k8 : ((ocK (ctO cFt (m, p, q, lo o, lo g, lo v) (vB (pkN n)))).beq (0 : Nat)) = false := (by rw [hc]; rfl)
       have k9 : ((ocK (ctO cFt (m, p, q, lo o, lo g, lo v) (vB (pkN n)))).beq (1 : Nat)) = false := (by rw [hc]; rfl)
       have k10 : ((ocK (ctO cFt (m, p, q, lo o, lo g, lo v) (vB (pkN n)))).beq (2 : Nat)) = true := (by rw [hc]; rfl)
       have k11 : (passP feats (m, p, q, (lo o), (lo g), (lo v)) (xd, xs, xv, xt, (lo d))) = true := hw
       have k12 : (smF (m, p, q, (lo o) ++ [a], (lo g), (lo v))) = true := hso
       have k13 : (okF (m, p, q, (lo o) ++ [a], (lo g), (lo v))) = false := hoo
       have k14 : (smF (m, p, true, (lo o), (lo g), (lo v))) = true := hs
       have k15 : (okF (m, p, true, (lo o), (lo g), (lo v))) = true := hok
       have k16 : (!passP feats (m, p, true, (lo o), (lo g), (lo v)) (xd, xs, xv, xt, (lo d))) = false := (fNt (passP_mono (F := (m, p, q, lo o, lo g, lo v)) hok rfl id (fun _ => rfl) (fun _ h => h) (fun _ h => h) (fun _ h => h) hw))
       have k17 : (smF (m, true, q, (lo o), (lo g), (lo v))) = true := hs
       have k18 : (okF (m, true, q, (lo o), (lo g), (lo v))) = true := hok
       have k19 : (!passP feats (m, true, q, (lo o), (lo g), (lo v)) (xd, xs, xv, xt, (lo d))) = false := (fNt (passP_mono (F := (m, p, q, lo o, lo g, lo v)) hok rfl (fun _ => rfl) id (fun _ h => h) (fun _ h => h) (fun _ h => h) hw))
       have k20 : (smF (m, p, q, (lo o), (lo g) ++ [a], (lo v))) = true := hsg
       have k21 : (okF (m, p, q, (lo o), (lo g) ++ [a], (lo v))) = true := hog
       have k22 : (!passP feats (m, p, q, (lo o), (lo g) ++ [a], (lo v)) (xd, xs, xv, xt, (lo d))) = false := (fNt (passP_mono (F := (m, p, q, lo o, lo g, lo v)) hog rfl id id (fun _ h => h) (fun _ h => List.mem_append_left _ h) (fun _ h => h) hw))
       have k23 : (smF (m, p, q, (lo o), (lo g), ocV (ctO cFt (m, p, q, lo o, lo g, lo v) (vB (pkN n))))) = true := (by rw [hc]; exact hsv)
       have k24 : (okF (m, p, q, (lo o), (lo g), ocV (ctO cFt (m, p, q, lo o, lo g, lo v) (vB (pkN n))))) = false := (by rw [hc]; exact hov)
       have k25 : (passP feats (m, true, q, (lo o), (lo g), (lo v)) (xd, xs, (-1 : Int), xt, (lo d)) == passP (0 : Int) (m, true, q, (lo o), (lo g), (lo v)) (xd, xs, (-1 : Int), xt, (lo d))) = true := (beq_iff_eq.2 (any_v feats 0 _ _ _ _ _))
       have k26 : (m.fst.tmod (2 : Int) == (0 : Int)) = false := he
       refine (Tr.follow_get (fp_vftff m p q o g v xd xs xv xt d a n feats) (by simp only [k0, k1, k2, k3, k4, k5, k6, k7, k8, k9, k10, k11, k12, k13, k14, k15, k16, k17, k18, k19, k20, k21, k22, k23, k24, k25, k26])).trans ?_
       rw [hB, show sel (grpM m) (allM m) true = allM m by rw [hgr]; rfl]; exact congrArg (fun b => some (SV.raw (Value.bool b), ([] : List (SO C24)))) (beq_self_eq_true (allM m))
    | false =>
     cases hov : (okF (m, p, q, (lo o), (lo g), insL (lo v) (bsZ (lo v) (pkN n)).toNat [pkN n])) with
     | true =>
      cases he : (m.fst.tmod (2 : Int) == (0 : Int)) with
      | true =>
       have hgr := hgr he
       have k0 : (!liF (m, p, q, (lo o), (lo g), (lo v))) = false := (fNt hl)
       have k1 : (decide ((1500 : Int) < (↑(lo d).length : Int))) = false := hd
       have k2 : (smF (m, p, q, (lo o), (lo g), (lo v))) = true := hs
       have k3 : (okF (m, p, q, (lo o), (lo g), (lo v))) = true := hok
       have k4 : (roomB ((lo o).length + [a].length) Try.prog.types[(22 : Nat)].bytes) = true := hro
       have k5 : (roomB ((lo g).length + [a].length) Try.prog.types[(22 : Nat)].bytes) = true := hrg
       have k6 : (smX (lo o) (lo g) (lo v)) = true := hs
       have k7 : (byB (vB (pkN n))) = true := hby
       have k8 : ((ocK (ctO cFt (m, p, q, lo o, lo g, lo v) (vB (pkN n)))).beq (0 : Nat)) = false := (by rw [hc]; rfl)
       have k9 : ((ocK (ctO cFt (m, p, q, lo o, lo g, lo v) (vB (pkN n)))).beq (1 : Nat)) = false := (by rw [hc]; rfl)
       have k10 : ((ocK (ctO cFt (m, p, q, lo o, lo g, lo v) (vB (pkN n)))).beq (2 : Nat)) = true := (by rw [hc]; rfl)
       have k11 : (passP feats (m, p, q, (lo o), (lo g), (lo v)) (xd, xs, xv, xt, (lo d))) = true := hw
       have k12 : (smF (m, p, q, (lo o) ++ [a], (lo g), (lo v))) = true := hso
       have k13 : (okF (m, p, q, (lo o) ++ [a], (lo g), (lo v))) = false := hoo
       have k14 : (smF (m, p, true, (lo o), (lo g), (lo v))) = true := hs
       have k15 : (okF (m, p, true, (lo o), (lo g), (lo v))) = true := hok
       have k16 : (!passP feats (m, p, true, (lo o), (lo g), (lo v)) (xd, xs, xv, xt, (lo d))) = false := (fNt (passP_mono (F := (m, p, q, lo o, lo g, lo v)) hok rfl id (fun _ => rfl) (fun _ h => h) (fun _ h => h) (fun _ h => h) hw))
       have k17 : (smF (m, true, q, (lo o), (lo g), (lo v))) = true := hs
       have k18 : (okF (m, true, q, (lo o), (lo g), (lo v))) = true := hok
       have k19 : (!passP feats (m, true, q, (lo o), (lo g), (lo v)) (xd, xs, xv, xt, (lo d))) = false := (fNt (passP_mono (F := (m, p, q, lo o, lo g, lo v)) hok rfl (fun _ => rfl) id (fun _ h => h) (fun _ h => h) (fun _ h => h) hw))
       have k20 : (smF (m, p, q, (lo o), (lo g) ++ [a], (lo v))) = true := hsg
       have k21 : (okF (m, p, q, (lo o), (lo g) ++ [a], (lo v))) = false := hog
       have k22 : (smF (m, p, q, (lo o), (lo g), ocV (ctO cFt (m, p, q, lo o, lo g, lo v) (vB (pkN n))))) = true := (by rw [hc]; exact hsv)
       have k23 : (okF (m, p, q, (lo o), (lo g), ocV (ctO cFt (m, p, q, lo o, lo g, lo v) (vB (pkN n))))) = true := (by rw [hc]; exact hov)
       have k24 : (!passP feats (m, p, q, (lo o), (lo g), ocV (ctO cFt (m, p, q, lo o, lo g, lo v) (vB (pkN n)))) (xd, xs, xv, xt, (lo d))) = false := (by rw [hc]; exact fNt (passP_mono (F := (m, p, q, lo o, lo g, lo v)) hov rfl id id (fun _ h => h) (fun _ h => h) (fun _ h => ins_sub h) hw))
       have k25 : (passP feats (m, true, q, (lo o), (lo g), (lo v)) (xd, xs, (-1 : Int), xt, (lo d)) == passP (0 : Int) (m, true, q, (lo o), (lo g), (lo v)) (xd, xs, (-1 : Int), xt, (lo d))) = true := (beq_iff_eq.2 (any_v feats 0 _ _ _ _ _))
       have k26 : (m.fst.tmod (2 : Int) == (0 : Int)) = true := he
       refine (Tr.follow_get (fp_vfftt m p q o g v xd xs xv xt d a n feats) (by simp only [k0, k1, k2, k3, k4, k5, k6, k7, k8, k9, k10, k11, k12, k13, k14, k15, k16, k17, k18, k19, k20, k21, k22, k23, k24, k25, k26])).trans ?_
       rw [hB, show sel (grpM m) (allM m) true = true by rw [hgr]; rfl]; rfl
      | false =>
       have hgr := hgr' he
       have k0 : (!liF (m, p, q, (lo o), (lo g), (lo v))) = false := (fNt hl)
       have k1 : (decide ((1500 : Int) < (↑(lo d).length : Int))) = false := hd
       have k2 : (smF (m, p, q, (lo o), (lo g), (lo v))) = true := hs
       have k3 : (okF (m, p, q, (lo o), (lo g), (lo v))) = true := hok
       have k4 : (roomB ((lo o).length + [a].length) Try.prog.types[(22 : Nat)].bytes) = true := hro
       have k5 : (roomB ((lo g).length + [a].length) Try.prog.types[(22 : Nat)].bytes) = true := hrg
       have k6 : (smX (lo o) (lo g) (lo v)) = true := hs
       have k7 : (byB (vB (pkN n))) = true := hby
       have k8 : ((ocK (ctO cFt (m, p, q, lo o, lo g, lo v) (vB (pkN n)))).beq (0 : Nat)) = false := (by rw [hc]; rfl)
       have k9 : ((ocK (ctO cFt (m, p, q, lo o, lo g, lo v) (vB (pkN n)))).beq (1 : Nat)) = false := (by rw [hc]; rfl)
       have k10 : ((ocK (ctO cFt (m, p, q, lo o, lo g, lo v) (vB (pkN n)))).beq (2 : Nat)) = true := (by rw [hc]; rfl)
       have k11 : (passP feats (m, p, q, (lo o), (lo g), (lo v)) (xd, xs, xv, xt, (lo d))) = true := hw
       have k12 : (smF (m, p, q, (lo o) ++ [a], (lo g), (lo v))) = true := hso
       have k13 : (okF (m, p, q, (lo o) ++ [a], (lo g), (lo v))) = false := hoo
       have k14 : (smF (m, p, true, (lo o), (lo g), (lo v))) = true := hs
       have k15 : (okF (m, p, true, (lo o), (lo g), (lo v))) = true := hok
       have k16 : (!passP feats (m, p, true, (lo o), (lo g), (lo v)) (xd, xs, xv, xt, (lo d))) = false := (fNt (passP_mono (F := (m, p, q, lo o, lo g, lo v)) hok rfl id (fun _ => rfl) (fun _ h => h) (fun _ h => h) (fun _ h => h) hw))
       have k17 : (smF (m, true, q, (lo o), (lo g), (lo v))) = true := hs
       have k18 : (okF (m, true, q, (lo o), (lo g), (lo v))) = true := hok
       have k19 : (!passP feats (m, true, q, (lo o), (lo g), (lo v)) (xd, xs, xv, xt, (lo d))) = false := (fNt (passP_mono (F := (m, p, q, lo o, lo g, lo v)) hok rfl (fun _ => rfl) id (fun _ h => h) (fun _ h => h) (fun _ h => h) hw))
       have k20 : (smF (m, p, q, (lo o), (lo g) ++ [a], (lo v))) = true := hsg
       have k21 : (okF (m, p, q, (lo o), (lo g) ++ [a], (lo v))) = false := hog
       have k22 : (smF (m, p, q, (lo o), (lo g), ocV (ctO cFt (m, p, q, lo o, lo g, lo v) (vB (pkN n))))) = true := (by rw [hc]; exact hsv)
       have k23 : (okF (m, p, q, (lo o), (lo g), ocV (ctO cFt (m, p, q, lo o, lo g, lo v) (vB (pkN n))))) = true := (by rw [hc]; exact hov)
       have k24 : (!passP feats (m, p, q, (lo o), (lo g), ocV (ctO cFt (m, p, q, lo o, lo g, lo v) (vB (pkN n)))) (xd, xs, xv, xt, (lo d))) = false := (by rw [hc]; exact fNt (passP_mono (F := (m, p, q, lo o, lo g, lo v)) hov rfl id id (fun _ h => h) (fun _ h => h) (fun _ h => ins_sub h) hw))
       have k25 : (passP feats (m, true, q, (lo o), (lo g), (lo v)) (xd, xs, (-1 : Int), xt, (lo d)) == passP (0 : Int) (m, true, q, (lo o), (lo g), (lo v)) (xd, xs, (-1 : Int), xt, (lo d))) = true := (beq_iff_eq.2 (any_v feats 0 _ _ _ _ _))
       have k26 : (m.fst.tmod (2 : Int) == (0 : Int)) = false := he
       refine (Tr.follow_get (fp_vfftf m p q o g v xd xs xv xt d a n feats) (by simp only [k0, k1, k2, k3, k4, k5, k6, k7, k8, k9, k10, k11, k12, k13, k14, k15, k16, k17, k18, k19, k20, k21, k22, k23, k24, k25, k26])).trans ?_
       rw [hB, show sel (grpM m) (allM m) true = allM m by rw [hgr]; rfl]; exact congrArg (fun b => some (SV.raw (Value.bool b), ([] : List (SO C24)))) (beq_self_eq_true (allM m))
     | false =>
      cases he : (m.fst.tmod (2 : Int) == (0 : Int)) with
      | true =>
       have hgr := hgr he
       have k0 : (!liF (m, p, q, (lo o), (lo g), (lo v))) = false := (fNt hl)
       have k1 : (decide ((1500 : Int) < (↑(lo d).length : Int))) = false := hd
       have k2 : (smF (m, p, q, (lo o), (lo g), (lo v))) = true := hs
       have k3 : (okF (m, p, q, (lo o), (lo g), (lo v))) = true := hok
       have k4 : (roomB ((lo o).length + [a].length) Try.prog.types[(22 : Nat)].bytes) = true := hro
       have k5 : (roomB ((lo g).length + [a].length) Try.prog.types[(22 : Nat)].bytes) = true := hrg
       have k6 : (smX (lo o) (lo g) (lo v)) = true := hs
       have k7 : (byB (vB (pkN n))) = true := hby
       have k8 : ((ocK (ctO cFt (m, p, q, lo o, lo g, lo v) (vB (pkN n)))).beq (0 : Nat)) = false := (by rw [hc]; rfl)
       have k9 : ((ocK (ctO cFt (m, p, q, lo o, lo g, lo v) (vB (pkN n)))).beq (1 : Nat)) = false := (by rw [hc]; rfl)
       have k10 : ((ocK (ctO cFt (m, p, q, lo o, lo g, lo v) (vB (pkN n)))).beq (2 : Nat)) = true := (by rw [hc]; rfl)
       have k11 : (passP feats (m, p, q, (lo o), (lo g), (lo v)) (xd, xs, xv, xt, (lo d))) = true := hw
       have k12 : (smF (m, p, q, (lo o) ++ [a], (lo g), (lo v))) = true := hso
       have k13 : (okF (m, p, q, (lo o) ++ [a], (lo g), (lo v))) = false := hoo
       have k14 : (smF (m, p, true, (lo o), (lo g), (lo v))) = true := hs
       have k15 : (okF (m, p, true, (lo o), (lo g), (lo v))) = true := hok
       have k16 : (!passP feats (m, p, true, (lo o), (lo g), (lo v)) (xd, xs, xv, xt, (lo d))) = false := (fNt (passP_mono (F := (m, p, q, lo o, lo g, lo v)) hok rfl id (fun _ => rfl) (fun _ h => h) (fun _ h => h) (fun _ h => h) hw))
       have k17 : (smF (m, true, q, (lo o), (lo g), (lo v))) = true := hs
       have k18 : (okF (m, true, q, (lo o), (lo g), (lo v))) = true := hok
       have k19 : (!passP feats (m, true, q, (lo o), (lo g), (lo v)) (xd, xs, xv, xt, (lo d))) = false := (fNt (passP_mono (F := (m, p, q, lo o, lo g, lo v)) hok rfl (fun _ => rfl) id (fun _ h => h) (fun _ h => h) (fun _ h => h) hw))
       have k20 : (smF (m, p, q, (lo o), (lo g) ++ [a], (lo v))) = true := hsg
       have k21 : (okF (m, p, q, (lo o), (lo g) ++ [a], (lo v))) = false := hog
       have k22 : (smF (m, p, q, (lo o), (lo g), ocV (ctO cFt (m, p, q, lo o, lo g, lo v) (vB (pkN n))))) = true := (by rw [hc]; exact hsv)
       have k23 : (okF (m, p, q, (lo o), (lo g), ocV (ctO cFt (m, p, q, lo o, lo g, lo v) (vB (pkN n))))) = false := (by rw [hc]; exact hov)
       have k24 : (passP feats (m, true, q, (lo o), (lo g), (lo v)) (xd, xs, (-1 : Int), xt, (lo d)) == passP (0 : Int) (m, true, q, (lo o), (lo g), (lo v)) (xd, xs, (-1 : Int), xt, (lo d))) = true := (beq_iff_eq.2 (any_v feats 0 _ _ _ _ _))
       have k25 : (m.fst.tmod (2 : Int) == (0 : Int)) = true := he
       refine (Tr.follow_get (fp_vffft m p q o g v xd xs xv xt d a n feats) (by simp only [k0, k1, k2, k3, k4, k5, k6, k7, k8, k9, k10, k11, k12, k13, k14, k15, k16, k17, k18, k19, k20, k21, k22, k23, k24, k25])).trans ?_
       rw [hB, show sel (grpM m) (allM m) true = true by rw [hgr]; rfl]; rfl
      | false =>
       have hgr := hgr' he
       have k0 : (!liF (m, p, q, (lo o), (lo g), (lo v))) = false := (fNt hl)
       have k1 : (decide ((1500 : Int) < (↑(lo d).length : Int))) = false := hd
       have k2 : (smF (m, p, q, (lo o), (lo g), (lo v))) = true := hs
       have k3 : (okF (m, p, q, (lo o), (lo g), (lo v))) = true := hok
       have k4 : (roomB ((lo o).length + [a].length) Try.prog.types[(22 : Nat)].bytes) = true := hro
       have k5 : (roomB ((lo g).length + [a].length) Try.prog.types[(22 : Nat)].bytes) = true := hrg
       have k6 : (smX (lo o) (lo g) (lo v)) = true := hs
       have k7 : (byB (vB (pkN n))) = true := hby
       have k8 : ((ocK (ctO cFt (m, p, q, lo o, lo g, lo v) (vB (pkN n)))).beq (0 : Nat)) = false := (by rw [hc]; rfl)
       have k9 : ((ocK (ctO cFt (m, p, q, lo o, lo g, lo v) (vB (pkN n)))).beq (1 : Nat)) = false := (by rw [hc]; rfl)
       have k10 : ((ocK (ctO cFt (m, p, q, lo o, lo g, lo v) (vB (pkN n)))).beq (2 : Nat)) = true := (by rw [hc]; rfl)
       have k11 : (passP feats (m, p, q, (lo o), (lo g), (lo v)) (xd, xs, xv, xt, (lo d))) = true := hw
       have k12 : (smF (m, p, q, (lo o) ++ [a], (lo g), (lo v))) = true := hso
       have k13 : (okF (m, p, q, (lo o) ++ [a], (lo g), (lo v))) = false := hoo
       have k14 : (smF (m, p, true, (lo o), (lo g), (lo v))) = true := hs
       have k15 : (okF (m, p, true, (lo o), (lo g), (lo v))) = true := hok
       have k16 : (!passP feats (m, p, true, (lo o), (lo g), (lo v)) (xd, xs, xv, xt, (lo d))) = false := (fNt (passP_mono (F := (m, p, q, lo o, lo g, lo v)) hok rfl id (fun _ => rfl) (fun _ h => h) (fun _ h => h) (fun _ h => h) hw))
       have k17 : (smF (m, true, q, (lo o), (lo g), (lo v))) = true := hs
       have k18 : (okF (m, true, q, (lo o), (lo g), (lo v))) = true := hok
       have k19 : (!passP feats (m, true, q, (lo o), (lo g), (lo v)) (xd, xs, xv, xt, (lo d))) = false := (fNt (passP_mono (F := (m, p, q, lo o, lo g, lo v)) hok rfl (fun _ => rfl) id (fun _ h => h) (fun _ h => h) (fun _ h => h) hw))
       have k20 : (smF (m, p, q, (lo o), (lo g) ++ [a], (lo v))) = true := hsg
       have k21 : (okF (m, p, q, (lo o), (lo g) ++ [a], (lo v))) = false := hog
       have k22 : (smF (m, p, q, (lo o), (lo g), ocV (ctO cFt (m, p, q, lo o, lo g, lo v) (vB (pkN n))))) = true := (by rw [hc]; exact hsv)
       have k23 : (okF (m, p, q, (lo o), (lo g), ocV (ctO cFt (m, p, q, lo o, lo g, lo v) (vB (pkN n))))) = false := (by rw [hc]; exact hov)
       have k24 : (passP feats (m, true, q, (lo o), (lo g), (lo v)) (xd, xs, (-1 : Int), xt, (lo d)) == passP (0 : Int) (m, true, q, (lo o), (lo g), (lo v)) (xd, xs, (-1 : Int), xt, (lo d))) = true := (beq_iff_eq.2 (any_v feats 0 _ _ _ _ _))
       have k25 : (m.fst.tmod (2 : Int) == (0 : Int)) = false := he
       refine (Tr.follow_get (fp_vffff m p q o g v xd xs xv xt d a n feats) (by simp only [k0, k1, k2, k3, k4, k5, k6, k7, k8, k9, k10, k11, k12, k13, k14, k15, k16, k17, k18, k19, k20, k21, k22, k23, k24, k25])).trans ?_
       rw [hB, show sel (grpM m) (allM m) true = allM m by rw [hgr]; rfl]; exact congrArg (fun b => some (SV.raw (Value.bool b), ([] : List (SO C24)))) (beq_self_eq_true (allM m))
  | false =>
   cases he : (m.fst.tmod (2 : Int) == (0 : Int)) with
   | true =>
    have hgr := hgr he
    have k0 : (!liF (m, p, q, (lo o), (lo g), (lo v))) = false := (fNt hl)
    have k1 : (decide ((1500 : Int) < (↑(lo d).length : Int))) = false := hd
    have k2 : (smF (m, p, q, (lo o), (lo g), (lo v))) = true := hs
    have k3 : (okF (m, p, q, (lo o), (lo g), (lo v))) = true := hok
    have k4 : (roomB ((lo o).length + [a].length) Try.prog.types[(22 : Nat)].bytes) = true := hro
    have k5 : (roomB ((lo g).length + [a].length) Try.prog.types[(22 : Nat)].bytes) = true := hrg
    have k6 : (smX (lo o) (lo g) (lo v)) = true := hs
    have k7 : (byB (vB (pkN n))) = true := hby
    have k8 : ((ocK (ctO cFt (m, p, q, lo o, lo g, lo v) (vB (pkN n)))).beq (0 : Nat)) = false := (by rw [hc]; rfl)
    have k9 : ((ocK (ctO cFt (m, p, q, lo o, lo g, lo v) (vB (pkN n)))).beq (1 : Nat)) = false := (by rw [hc]; rfl)
    have k10 : ((ocK (ctO cFt (m, p, q, lo o, lo g, lo v) (vB (pkN n)))).beq (2 : Nat)) = true := (by rw [hc]; rfl)
    have k11 : (passP feats (m, p, q, (lo o), (lo g), (lo v)) (xd, xs, xv, xt, (lo d))) = false := hw
    have k12 : (smF (m, true, q, (lo o), (lo g), (lo v))) = true := hs
    have k13 : (passP feats (m, true, q, (lo o), (lo g), (lo v)) (xd, xs, (-1 : Int), xt, (lo d)) == passP (0 : Int) (m, true, q, (lo o), (lo g), (lo v)) (xd, xs, (-1 : Int), xt, (lo d))) = true := (beq_iff_eq.2 (any_v feats 0 _ _ _ _ _))
    have k14 : (m.fst.tmod (2 : Int) == (0 : Int)) = true := he
    refine (Tr.follow_get (fp_vnt m p q o g v xd xs xv xt d a n feats) (by simp only [k0, k1, k2, k3, k4, k5, k6, k7, k8, k9, k10, k11, k12, k13, k14])).trans ?_
    rw [hB, show sel (grpM m) (allM m) true = true by rw [hgr]; rfl]; rfl
   | false =>
    have hgr := hgr' he
    have k0 : (!liF (m, p, q, (lo o), (lo g), (lo v))) = false := (fNt hl)
    have k1 : (decide ((1500 : Int) < (↑(lo d).length : Int))) = false := hd
    have k2 : (smF (m, p, q, (lo o), (lo g), (lo v))) = true := hs
    have k3 : (okF (m, p, q, (lo o), (lo g), (lo v))) = true := hok
    have k4 : (roomB ((lo o).length + [a].length) Try.prog.types[(22 : Nat)].bytes) = true := hro
    have k5 : (roomB ((lo g).length + [a].length) Try.prog.types[(22 : Nat)].bytes) = true := hrg
    have k6 : (smX (lo o) (lo g) (lo v)) = true := hs
    have k7 : (byB (vB (pkN n))) = true := hby
    have k8 : ((ocK (ctO cFt (m, p, q, lo o, lo g, lo v) (vB (pkN n)))).beq (0 : Nat)) = false := (by rw [hc]; rfl)
    have k9 : ((ocK (ctO cFt (m, p, q, lo o, lo g, lo v) (vB (pkN n)))).beq (1 : Nat)) = false := (by rw [hc]; rfl)
    have k10 : ((ocK (ctO cFt (m, p, q, lo o, lo g, lo v) (vB (pkN n)))).beq (2 : Nat)) = true := (by rw [hc]; rfl)
    have k11 : (passP feats (m, p, q, (lo o), (lo g), (lo v)) (xd, xs, xv, xt, (lo d))) = false := hw
    have k12 : (smF (m, true, q, (lo o), (lo g), (lo v))) = true := hs
    have k13 : (passP feats (m, true, q, (lo o), (lo g), (lo v)) (xd, xs, (-1 : Int), xt, (lo d)) == passP (0 : Int) (m, true, q, (lo o), (lo g), (lo v)) (xd, xs, (-1 : Int), xt, (lo d))) = true := (beq_iff_eq.2 (any_v feats 0 _ _ _ _ _))
    have k14 : (m.fst.tmod (2 : Int) == (0 : Int)) = false := he
    refine (Tr.follow_get (fp_vnf m p q o g v xd xs xv xt d a n feats) (by simp only [k0, k1, k2, k3, k4, k5, k6, k7, k8, k9, k10, k11, k12, k13, k14])).trans ?_
    rw [hB, show sel (grpM m) (allM m) true = allM m by rw [hgr]; rfl]; exact congrArg (fun b => some (SV.raw (Value.bool b), ([] : List (SO C24)))) (beq_self_eq_true (allM m))
end
end Go.Proofs.Ytgepgnjjhgmfnaa
