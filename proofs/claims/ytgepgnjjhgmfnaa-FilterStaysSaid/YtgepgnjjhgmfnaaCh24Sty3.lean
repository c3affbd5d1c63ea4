/-
  Chapter 24: FilterStays, a round. Own work; nothing here is trusted.
-/
import Derived.Test.YtgepgnjjhgmfnaaCh24StyM
import Derived.Test.YtgepgnjjhgmfnaaCh24Sty2a
import Derived.Test.YtgepgnjjhgmfnaaCh24Sty2b
import Derived.Test.YtgepgnjjhgmfnaaCh24Sty2c
import Derived.Test.YtgepgnjjhgmfnaaCh24Sty2d
import Derived.Test.YtgepgnjjhgmfnaaCh24Sty2e
namespace Go.Proofs.Ytgepgnjjhgmfnaa
open Go Go.Sx Go.RowKit
set_option maxRecDepth 1000000
set_option maxHeartbeats 8000000
set_option linter.unusedVariables false
set_option linter.unusedSimpArgs false
noncomputable section
abbrev plX (G : Gx) : Fp := (G.1, G.2.1, G.2.2.1, G.2.2.2.1.getD [], G.2.2.2.2.1.getD [], G.2.2.2.2.2)
/-- What a command does, all at once. -/
theorem y_facts {feats : Int} {P : Fp} {bs : List Int} (hok : okF P = true) (hb : byB bs = true) : ∃ cm, cm = cmO feats bs ∧ cmG cm ∧ ctO feats P bs = doC P cm ∧ okF (apC P cm) = true ∧ ctO feats (apC P cm) bs = doC (apC P cm) cm :=
  ⟨_, rfl, cmO_good hb, ctO_do hok, apC_ok hok (cmO_good hb), ctO_do (apC_ok hok (cmO_good hb))⟩

theorem ya_go (m : Mac) (p q : Bool) (o g : Lo Mac) (v : Lo Int) (feats : Int) (l : Bs) (k : Nat) (hk : k < l.length) (hk2 : k < 100000) (hok : okF (m, p, q, (lo o), (lo g), (lo v)) = true) (hb : byB (eB l (k : Int)) = true) (hL : eN l (k : Int) = false → (eB l (k : Int)).length ≤ 1000) : ∃ G : Gx, (yRA (m, p, q, o, g, v) feats l (k : Int)).get = some (.normal, yB (m, p, q, o, g, v) (gv G) feats l ((k : Int) + 1) false) ∧ okF (plX G) = true := by
  have k1 := decide_eq_true (show (k : Int) < (l.length : Int) by omega)
  have k2 : Sx.inB (k : Int) l.length = true := inB_mk ⟨by omega, by omega⟩
  have k3 := decide_eq_true (show ((k : Nat) : Int).toNat < l.length by omega)
  have k4 : inR64 ((k : Int) + 1) = true := inR64_mk (by omega)
  have hs : smF (m, p, q, (lo o), (lo g), (lo v)) = true := ok_sm hok
  have hx : smX (lo o) (lo g) (lo v) = true := ok_smX hok
  cases hn : eN l (k : Int) with
  | true =>
    obtain ⟨cm, hcm, hg, hc, ho1, hc1⟩ := y_facts (feats := feats) hok (bs := []) rfl
    rw [cm_nil] at hcm
    subst hcm
    have hU : fU (m, p, q, (lo o), (lo g), (lo v)) (doC (m, p, q, (lo o), (lo g), (lo v)) .er) = (m, p, q, (lo o), (lo g), (lo v)) := rfl
    have ho : okF (fU (m, p, q, (lo o), (lo g), (lo v)) (ctO feats (m, p, q, (lo o), (lo g), (lo v)) [])) = true := by rw [hc]; exact hok
    have hw : smX (lo o) (lo g) (ocW (m, p, q, (lo o), (lo g), (lo v)) (doC (m, p, q, (lo o), (lo g), (lo v)) .er)) = true := hx
    have e1 : decide ((1 : Int) < ocE (doC (m, p, q, (lo o), (lo g), (lo v)) .er)) = false := rfl
    have e2 : (ocE (doC (m, p, q, (lo o), (lo g), (lo v)) .er) == (1 : Int)) = true := rfl
    have e3 : (ocE (doC (m, p, q, (lo o), (lo g), (lo v)) .er) != (1 : Int)) = false := rfl
    have e4 : (ocE (doC (m, p, q, (lo o), (lo g), (lo v)) .er) != ocE (doC (m, p, q, (lo o), (lo g), (lo v)) .er)) = false := rfl
    have e5 : Nat.beq (ocK (doC (m, p, q, (lo o), (lo g), (lo v)) .er)) 3 = false := rfl
    have e6 : (!eqF (m, p, q, (lo o), (lo g), (lo v)) (m, p, q, (lo o), (lo g), (lo v))) = false := by rw [eqF_self]; rfl
    cases hbit : (bitsV IntKind.u64 BinOp.and (shrV IntKind.u64 feats (17 : Int)) (1 : Int) == (0 : Int)) with
    | false => exact ⟨_, Tr.follow_get (ya_unf m p q o g v feats l (k : Int)) (by simp only [k1, k2, k3, k4, hn, hs, hx, hc, hU, hw, hok, e1, e2, e3, e4, e5, e6, hbit]), ho⟩
    | true => exact ⟨_, Tr.follow_get (ya_unt m p q o g v feats l (k : Int)) (by simp only [k1, k2, k3, k4, hn, hs, hx, hc, hU, hw, hok, e1, e2, e3, e4, e5, e6, hbit]), ho⟩
  | false =>
    have hL := hL hn
    have k5 := decide_eq_false (show ¬ (1000 : Int) < ((eB l (k : Int)).length : Int) by omega)
    have k6 := decide_eq_true (show (eB l (k : Int)).length ≤ 100000 by omega)
    obtain ⟨cm, hcm, hg, hc, ho1, hc1⟩ := y_facts (feats := feats) hok hb
    cases hT : isT cm with
    | false =>
      have hU := doU (m, p, q, (lo o), (lo g), (lo v)) hT
      have hU1 := doU (apC (m, p, q, (lo o), (lo g), (lo v)) cm) hT
      rw [apC_twice hok] at hU1
      have hs1 : smF (apC (m, p, q, (lo o), (lo g), (lo v)) cm) = true := ok_sm ho1
      have ho : okF (fU (m, p, q, (lo o), (lo g), (lo v)) (ctO feats (m, p, q, (lo o), (lo g), (lo v)) (eB l (k : Int)))) = true := by rw [hc, hU]; exact ho1
      have hw : smX (lo o) (lo g) (ocW (m, p, q, (lo o), (lo g), (lo v)) (doC (m, p, q, (lo o), (lo g), (lo v)) cm)) = true := by rw [← hU] at ho1; exact ok_smX ho1
      have d5 : Nat.beq (ocK (doC (m, p, q, (lo o), (lo g), (lo v)) cm)) 3 = false := (doK _ _).trans hT
      have d7 : Nat.beq (ocK (doC (apC (m, p, q, (lo o), (lo g), (lo v)) cm) cm)) 3 = false := (doK _ _).trans hT
      have d6 : (!eqF (apC (m, p, q, (lo o), (lo g), (lo v)) cm) (apC (m, p, q, (lo o), (lo g), (lo v)) cm)) = false := by rw [eqF_self]; rfl
      cases hE : isE cm with
      | true =>
        have hap : apC (m, p, q, (lo o), (lo g), (lo v)) cm = (m, p, q, (lo o), (lo g), (lo v)) := by cases cm <;> first | rfl | cases hE
        have d1 : ocE (doC (m, p, q, (lo o), (lo g), (lo v)) cm) = 1 := by rw [doE, hE]; rfl
        have d2 : ocE (doC (apC (m, p, q, (lo o), (lo g), (lo v)) cm) cm) = 1 := by rw [doE, hE]; rfl
        have e1 : decide ((1 : Int) < (1 : Int)) = false := rfl
        have e2 : ((1 : Int) == (1 : Int)) = true := rfl
        have e3 : ((1 : Int) != (1 : Int)) = false := rfl
        have e6 : (!eqF (m, p, q, (lo o), (lo g), (lo v)) (m, p, q, (lo o), (lo g), (lo v))) = false := by rw [eqF_self]; rfl
        cases hbit : (bitsV IntKind.u64 BinOp.and (shrV IntKind.u64 feats (17 : Int)) (1 : Int) == (0 : Int)) with
        | false =>
          rw [hap] at hU hU1 hs1 hc1 ho1 d7 d6 d2
          exact ⟨_, Tr.follow_get (ya_uf m p q o g v feats l (k : Int)) (by simp only [k1, k2, k3, k4, hn, hs, hx, hb, k5, k6, hc, hU, hc1, hU1, hs1, ho1, hw, d1, d2, d5, d6, d7, e1, e2, e3, e6, hbit]), ho⟩
        | true =>
          rw [hap] at hU hU1 hs1 hc1 ho1 d7 d6 d2
          exact ⟨_, Tr.follow_get (ya_ut m p q o g v feats l (k : Int)) (by simp only [k1, k2, k3, k4, hn, hs, hx, hb, k5, k6, hc, hU, hc1, hU1, hs1, ho1, hw, d1, d2, d5, d6, d7, e1, e2, e3, e6, hbit]), ho⟩
      | false =>
        have d1 : ocE (doC (m, p, q, (lo o), (lo g), (lo v)) cm) = 0 := by rw [doE, hE]; rfl
        have d2 : ocE (doC (apC (m, p, q, (lo o), (lo g), (lo v)) cm) cm) = 0 := by rw [doE, hE]; rfl
        have e1 : decide ((1 : Int) < (0 : Int)) = false := rfl
        have e2 : ((0 : Int) == (1 : Int)) = false := rfl
        have e3 : ((0 : Int) != (0 : Int)) = false := rfl
        cases hbit : (bitsV IntKind.u64 BinOp.and (shrV IntKind.u64 feats (17 : Int)) (1 : Int) == (0 : Int)) with
        | false => exact ⟨_, Tr.follow_get (ya_vf m p q o g v feats l (k : Int)) (by simp only [k1, k2, k3, k4, hn, hs, hx, hb, k5, k6, hc, hU, hc1, hU1, hs1, ho1, hw, d1, d2, d5, d6, d7, e1, e2, e3, hbit]), ho⟩
        | true => rw [cm_off (off_of hbit)] at hcm; rw [hcm] at hE; cases hE
    | true =>
      cases cm with
      | tb x y =>
        have hbit : (bitsV IntKind.u64 BinOp.and (shrV IntKind.u64 feats (17 : Int)) (1 : Int) == (0 : Int)) = false := by
          cases hbit : (bitsV IntKind.u64 BinOp.and (shrV IntKind.u64 feats (17 : Int)) (1 : Int) == (0 : Int)) with
          | false => rfl
          | true => rw [cm_off (off_of hbit)] at hcm; cases hcm
        have hs1 : smF (m, p, q, x.getD [], y.getD [], (lo v)) = true := ok_sm ho1
        have hx1 : smX (x.getD []) (y.getD []) (lo v) = true := ok_smX ho1
        have ho1 : okF (m, p, q, x.getD [], y.getD [], (lo v)) = true := ho1
        have hc1 : ctO feats (m, p, q, x.getD [], y.getD [], (lo v)) (eB l (k : Int)) = Oc.tab x y := hc1
        have hc : ctO feats (m, p, q, (lo o), (lo g), (lo v)) (eB l (k : Int)) = Oc.tab x y := hc
        have d6 : (!eqF (m, p, q, x.getD [], y.getD [], (lo v)) (m, p, q, x.getD [], y.getD [], (lo v))) = false := by rw [eqF_self]; rfl
        have d5 : ∀ x y, Nat.beq (ocK (Oc.tab x y)) 3 = true := fun _ _ => rfl
        have d1 : ∀ y, ocX (Oc.tab none y) = true := fun _ => rfl
        have d2 : ∀ x y, ocX (Oc.tab (some x) y) = false := fun _ _ => rfl
        have d3 : ∀ x, ocY (Oc.tab x none) = true := fun x => by cases x <;> rfl
        have d4 : ∀ x y, ocY (Oc.tab x (some y)) = false := fun x _ => by cases x <;> rfl
        have d7 : ∀ x y, ocO (Oc.tab (some x) y) = x := fun _ _ => rfl
        have d8 : ∀ x y, ocG (Oc.tab x (some y)) = y := fun x _ => by cases x <;> rfl
        cases x with
        | none =>
          cases y with
          | none =>
            simp only [Option.getD_none] at hs1 hx1 ho1 hc1 d6
            exact ⟨_, Tr.follow_get (ya_xtt m p q o g v feats l (k : Int)) (by simp only [k1, k2, k3, k4, hn, hs, hx, hb, k5, k6, hc, hc1, hs1, hx1, ho1, d1, d2, d3, d4, d5, d6, d7, d8, hbit]), ho1⟩
          | some y =>
            simp only [Option.getD_none, Option.getD_some] at hs1 hx1 ho1 hc1 d6
            exact ⟨_, Tr.follow_get (ya_xtf m p q o g v feats l (k : Int)) (by simp only [k1, k2, k3, k4, hn, hs, hx, hb, k5, k6, hc, hc1, hs1, hx1, ho1, d1, d2, d3, d4, d5, d6, d7, d8, hbit]), by simp only [plX, Option.getD_none, Option.getD_some, hc, d7, d8]; exact ho1⟩
        | some x =>
          cases y with
          | none =>
            simp only [Option.getD_none, Option.getD_some] at hs1 hx1 ho1 hc1 d6
            exact ⟨_, Tr.follow_get (ya_xft m p q o g v feats l (k : Int)) (by simp only [k1, k2, k3, k4, hn, hs, hx, hb, k5, k6, hc, hc1, hs1, hx1, ho1, d1, d2, d3, d4, d5, d6, d7, d8, hbit]), by simp only [plX, Option.getD_none, Option.getD_some, hc, d7, d8]; exact ho1⟩
          | some y =>
            simp only [Option.getD_some] at hs1 hx1 ho1 hc1 d6
            exact ⟨_, Tr.follow_get (ya_xff m p q o g v feats l (k : Int)) (by simp only [k1, k2, k3, k4, hn, hs, hx, hb, k5, k6, hc, hc1, hs1, hx1, ho1, d1, d2, d3, d4, d5, d6, d7, d8, hbit]), by simp only [plX, Option.getD_some, hc, d7, d8]; exact ho1⟩
      | _ => cases hT

theorem yb_go (m0 : Mac) (p0 q0 : Bool) (o0 g0 : Lo Mac) (v0 : Lo Int) (m : Mac) (p q : Bool) (a b : Option (List Mac)) (vs : List Int) (feats : Int) (l : Bs) (k : Nat) (hk : k < l.length) (hk2 : k < 100000) (hok : okF (m, p, q, (a.getD []), (b.getD []), vs) = true) (hb : byB (eB l (k : Int)) = true) (hL : eN l (k : Int) = false → (eB l (k : Int)).length ≤ 1000) : ∃ G : Gx, (yRB (m0, p0, q0, o0, g0, v0) (gv (m, p, q, a, b, vs)) feats l (k : Int)).get = some (.normal, yB (m0, p0, q0, o0, g0, v0) (gv G) feats l ((k : Int) + 1) false) ∧ okF (plX G) = true := by
  have k1 := decide_eq_true (show (k : Int) < (l.length : Int) by omega)
  have k2 : Sx.inB (k : Int) l.length = true := inB_mk ⟨by omega, by omega⟩
  have k3 := decide_eq_true (show ((k : Nat) : Int).toNat < l.length by omega)
  have k4 : inR64 ((k : Int) + 1) = true := inR64_mk (by omega)
  have hs : smF (m, p, q, (a.getD []), (b.getD []), vs) = true := ok_sm hok
  have hx : smX (a.getD []) (b.getD []) vs = true := ok_smX hok
  cases hn : eN l (k : Int) with
  | true =>
    obtain ⟨cm, hcm, hg, hc, ho1, hc1⟩ := y_facts (feats := feats) hok (bs := []) rfl
    rw [cm_nil] at hcm
    subst hcm
    have hU : fU (m, p, q, (a.getD []), (b.getD []), vs) (doC (m, p, q, (a.getD []), (b.getD []), vs) .er) = (m, p, q, (a.getD []), (b.getD []), vs) := rfl
    have ho : okF (fU (m, p, q, (a.getD []), (b.getD []), vs) (ctO feats (m, p, q, (a.getD []), (b.getD []), vs) [])) = true := by rw [hc]; exact hok
    have hw : smX (a.getD []) (b.getD []) (ocW (m, p, q, (a.getD []), (b.getD []), vs) (doC (m, p, q, (a.getD []), (b.getD []), vs) .er)) = true := hx
    have e1 : decide ((1 : Int) < ocE (doC (m, p, q, (a.getD []), (b.getD []), vs) .er)) = false := rfl
    have e2 : (ocE (doC (m, p, q, (a.getD []), (b.getD []), vs) .er) == (1 : Int)) = true := rfl
    have e3 : (ocE (doC (m, p, q, (a.getD []), (b.getD []), vs) .er) != (1 : Int)) = false := rfl
    have e4 : (ocE (doC (m, p, q, (a.getD []), (b.getD []), vs) .er) != ocE (doC (m, p, q, (a.getD []), (b.getD []), vs) .er)) = false := rfl
    have e5 : Nat.beq (ocK (doC (m, p, q, (a.getD []), (b.getD []), vs) .er)) 3 = false := rfl
    have e6 : (!eqF (m, p, q, (a.getD []), (b.getD []), vs) (m, p, q, (a.getD []), (b.getD []), vs)) = false := by rw [eqF_self]; rfl
    cases hbit : (bitsV IntKind.u64 BinOp.and (shrV IntKind.u64 feats (17 : Int)) (1 : Int) == (0 : Int)) with
    | false => exact ⟨_, Tr.follow_get (yb_unf m0 p0 q0 o0 g0 v0 m p q a b vs feats l (k : Int)) (by simp only [k1, k2, k3, k4, hn, hs, hx, hc, hU, hw, hok, e1, e2, e3, e4, e5, e6, hbit]), ho⟩
    | true => exact ⟨_, Tr.follow_get (yb_unt m0 p0 q0 o0 g0 v0 m p q a b vs feats l (k : Int)) (by simp only [k1, k2, k3, k4, hn, hs, hx, hc, hU, hw, hok, e1, e2, e3, e4, e5, e6, hbit]), ho⟩
  | false =>
    have hL := hL hn
    have k5 := decide_eq_false (show ¬ (1000 : Int) < ((eB l (k : Int)).length : Int) by omega)
    have k6 := decide_eq_true (show (eB l (k : Int)).length ≤ 100000 by omega)
    obtain ⟨cm, hcm, hg, hc, ho1, hc1⟩ := y_facts (feats := feats) hok hb
    cases hT : isT cm with
    | false =>
      have hU := doU (m, p, q, (a.getD []), (b.getD []), vs) hT
      have hU1 := doU (apC (m, p, q, (a.getD []), (b.getD []), vs) cm) hT
      rw [apC_twice hok] at hU1
      have hs1 : smF (apC (m, p, q, (a.getD []), (b.getD []), vs) cm) = true := ok_sm ho1
      have ho : okF (fU (m, p, q, (a.getD []), (b.getD []), vs) (ctO feats (m, p, q, (a.getD []), (b.getD []), vs) (eB l (k : Int)))) = true := by rw [hc, hU]; exact ho1
      have hw : smX (a.getD []) (b.getD []) (ocW (m, p, q, (a.getD []), (b.getD []), vs) (doC (m, p, q, (a.getD []), (b.getD []), vs) cm)) = true := by rw [← hU] at ho1; exact ok_smX ho1
      have d5 : Nat.beq (ocK (doC (m, p, q, (a.getD []), (b.getD []), vs) cm)) 3 = false := (doK _ _).trans hT
      have d7 : Nat.beq (ocK (doC (apC (m, p, q, (a.getD []), (b.getD []), vs) cm) cm)) 3 = false := (doK _ _).trans hT
      have d6 : (!eqF (apC (m, p, q, (a.getD []), (b.getD []), vs) cm) (apC (m, p, q, (a.getD []), (b.getD []), vs) cm)) = false := by rw [eqF_self]; rfl
      cases hE : isE cm with
      | true =>
        have hap : apC (m, p, q, (a.getD []), (b.getD []), vs) cm = (m, p, q, (a.getD []), (b.getD []), vs) := by cases cm <;> first | rfl | cases hE
        have d1 : ocE (doC (m, p, q, (a.getD []), (b.getD []), vs) cm) = 1 := by rw [doE, hE]; rfl
        have d2 : ocE (doC (apC (m, p, q, (a.getD []), (b.getD []), vs) cm) cm) = 1 := by rw [doE, hE]; rfl
        have e1 : decide ((1 : Int) < (1 : Int)) = false := rfl
        have e2 : ((1 : Int) == (1 : Int)) = true := rfl
        have e3 : ((1 : Int) != (1 : Int)) = false := rfl
        have e6 : (!eqF (m, p, q, (a.getD []), (b.getD []), vs) (m, p, q, (a.getD []), (b.getD []), vs)) = false := by rw [eqF_self]; rfl
        cases hbit : (bitsV IntKind.u64 BinOp.and (shrV IntKind.u64 feats (17 : Int)) (1 : Int) == (0 : Int)) with
        | false =>
          rw [hap] at hU hU1 hs1 hc1 ho1 d7 d6 d2
          exact ⟨_, Tr.follow_get (yb_uf m0 p0 q0 o0 g0 v0 m p q a b vs feats l (k : Int)) (by simp only [k1, k2, k3, k4, hn, hs, hx, hb, k5, k6, hc, hU, hc1, hU1, hs1, ho1, hw, d1, d2, d5, d6, d7, e1, e2, e3, e6, hbit]), ho⟩
        | true =>
          rw [hap] at hU hU1 hs1 hc1 ho1 d7 d6 d2
          exact ⟨_, Tr.follow_get (yb_ut m0 p0 q0 o0 g0 v0 m p q a b vs feats l (k : Int)) (by simp only [k1, k2, k3, k4, hn, hs, hx, hb, k5, k6, hc, hU, hc1, hU1, hs1, ho1, hw, d1, d2, d5, d6, d7, e1, e2, e3, e6, hbit]), ho⟩
      | false =>
        have d1 : ocE (doC (m, p, q, (a.getD []), (b.getD []), vs) cm) = 0 := by rw [doE, hE]; rfl
        have d2 : ocE (doC (apC (m, p, q, (a.getD []), (b.getD []), vs) cm) cm) = 0 := by rw [doE, hE]; rfl
        have e1 : decide ((1 : Int) < (0 : Int)) = false := rfl
        have e2 : ((0 : Int) == (1 : Int)) = false := rfl
        have e3 : ((0 : Int) != (0 : Int)) = false := rfl
        cases hbit : (bitsV IntKind.u64 BinOp.and (shrV IntKind.u64 feats (17 : Int)) (1 : Int) == (0 : Int)) with
        | false => exact ⟨_, Tr.follow_get (yb_vf m0 p0 q0 o0 g0 v0 m p q a b vs feats l (k : Int)) (by simp only [k1, k2, k3, k4, hn, hs, hx, hb, k5, k6, hc, hU, hc1, hU1, hs1, ho1, hw, d1, d2, d5, d6, d7, e1, e2, e3, hbit]), ho⟩
        | true => rw [cm_off (off_of hbit)] at hcm; rw [hcm] at hE; cases hE
    | true =>
      cases cm with
      | tb x y =>
        have hbit : (bitsV IntKind.u64 BinOp.and (shrV IntKind.u64 feats (17 : Int)) (1 : Int) == (0 : Int)) = false := by
          cases hbit : (bitsV IntKind.u64 BinOp.and (shrV IntKind.u64 feats (17 : Int)) (1 : Int) == (0 : Int)) with
          | false => rfl
          | true => rw [cm_off (off_of hbit)] at hcm; cases hcm
        have hs1 : smF (m, p, q, x.getD [], y.getD [], vs) = true := ok_sm ho1
        have hx1 : smX (x.getD []) (y.getD []) vs = true := ok_smX ho1
        have ho1 : okF (m, p, q, x.getD [], y.getD [], vs) = true := ho1
        have hc1 : ctO feats (m, p, q, x.getD [], y.getD [], vs) (eB l (k : Int)) = Oc.tab x y := hc1
        have hc : ctO feats (m, p, q, (a.getD []), (b.getD []), vs) (eB l (k : Int)) = Oc.tab x y := hc
        have d6 : (!eqF (m, p, q, x.getD [], y.getD [], vs) (m, p, q, x.getD [], y.getD [], vs)) = false := by rw [eqF_self]; rfl
        have d5 : ∀ x y, Nat.beq (ocK (Oc.tab x y)) 3 = true := fun _ _ => rfl
        have d1 : ∀ y, ocX (Oc.tab none y) = true := fun _ => rfl
        have d2 : ∀ x y, ocX (Oc.tab (some x) y) = false := fun _ _ => rfl
        have d3 : ∀ x, ocY (Oc.tab x none) = true := fun x => by cases x <;> rfl
        have d4 : ∀ x y, ocY (Oc.tab x (some y)) = false := fun x _ => by cases x <;> rfl
        have d7 : ∀ x y, ocO (Oc.tab (some x) y) = x := fun _ _ => rfl
        have d8 : ∀ x y, ocG (Oc.tab x (some y)) = y := fun x _ => by cases x <;> rfl
        cases x with
        | none =>
          cases y with
          | none =>
            simp only [Option.getD_none] at hs1 hx1 ho1 hc1 d6
            exact ⟨_, Tr.follow_get (yb_xtt m0 p0 q0 o0 g0 v0 m p q a b vs feats l (k : Int)) (by simp only [k1, k2, k3, k4, hn, hs, hx, hb, k5, k6, hc, hc1, hs1, hx1, ho1, d1, d2, d3, d4, d5, d6, d7, d8, hbit]), ho1⟩
          | some y =>
            simp only [Option.getD_none, Option.getD_some] at hs1 hx1 ho1 hc1 d6
            exact ⟨_, Tr.follow_get (yb_xtf m0 p0 q0 o0 g0 v0 m p q a b vs feats l (k : Int)) (by simp only [k1, k2, k3, k4, hn, hs, hx, hb, k5, k6, hc, hc1, hs1, hx1, ho1, d1, d2, d3, d4, d5, d6, d7, d8, hbit]), by simp only [plX, Option.getD_none, Option.getD_some, hc, d7, d8]; exact ho1⟩
        | some x =>
          cases y with
          | none =>
            simp only [Option.getD_none, Option.getD_some] at hs1 hx1 ho1 hc1 d6
            exact ⟨_, Tr.follow_get (yb_xft m0 p0 q0 o0 g0 v0 m p q a b vs feats l (k : Int)) (by simp only [k1, k2, k3, k4, hn, hs, hx, hb, k5, k6, hc, hc1, hs1, hx1, ho1, d1, d2, d3, d4, d5, d6, d7, d8, hbit]), by simp only [plX, Option.getD_none, Option.getD_some, hc, d7, d8]; exact ho1⟩
          | some y =>
            simp only [Option.getD_some] at hs1 hx1 ho1 hc1 d6
            exact ⟨_, Tr.follow_get (yb_xff m0 p0 q0 o0 g0 v0 m p q a b vs feats l (k : Int)) (by simp only [k1, k2, k3, k4, hn, hs, hx, hb, k5, k6, hc, hc1, hs1, hx1, ho1, d1, d2, d3, d4, d5, d6, d7, d8, hbit]), by simp only [plX, Option.getD_some, hc, d7, d8]; exact ho1⟩
      | _ => cases hT
end
end Go.Proofs.Ytgepgnjjhgmfnaa
