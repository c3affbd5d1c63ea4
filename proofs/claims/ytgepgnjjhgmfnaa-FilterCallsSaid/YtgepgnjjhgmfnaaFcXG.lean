/-
  Merged texts, part 7 of 8. Own work; nothing here is trusted.
-/
import Derived.Test.YtgepgnjjhgmfnaaFcXF
namespace Go.Proofs.Ytgepgnjjhgmfnaa
open Go Go.Sx Go.RowKit
set_option maxRecDepth 1000000
set_option maxHeartbeats 8000000
set_option linter.unusedVariables false
set_option linter.unusedSimpArgs false
noncomputable section
theorem g2 {l : List Int} (h : decide ((l.length : Int) < 2) = false) : Sx.inB (0 : Int) l.length = true ∧ decide (Int.toNat (0 : Int) < l.length) = true ∧ Sx.inB (1 : Int) l.length = true ∧ decide (Int.toNat (1 : Int) < l.length) = true ∧ cutB (some (2 : Int)) none l.length = true := by
  have h : ¬ ((l.length : Int) < 2) := of_decide_eq_false h
  exact ⟨inB_mk ⟨by omega, by omega⟩, decide_eq_true (by show 0 < l.length; omega), inB_mk ⟨by omega, by omega⟩, decide_eq_true (by show 1 < l.length; omega), bOk_mk (by omega)⟩
theorem gI {l : List Int} {n k : Nat} (h : ((l.length : Int) == (n : Int)) = true) (hk : k < n) : Sx.inB (k : Int) l.length = true ∧ decide (Int.toNat (k : Int) < l.length) = true := by
  have h := eq_of_beq h
  exact ⟨inB_mk ⟨by omega, by omega⟩, decide_eq_true (by omega)⟩
theorem gB {l : List Int} (h : byB l = true) (k : Nat) : inR64 (l.getD k 0) = true := by
  have := byB_get h k
  exact inR64_mk (by omega)
theorem g6 {l : List Int} (h : ((l.length : Int) == (6 : Int)) = true) : decide ((intO (↑(6 : Nat) : Int) none).toNat - (intO (0 : Int) none).toNat ≤ l.length) = true := by
  have h := eq_of_beq h
  exact decide_eq_true (by show 6 - 0 ≤ l.length; omega)
theorem gF {l : List Int} (h : decide ((l.length : Int) < 4) = false) (k : Nat) (hk : k < 4) : Sx.inB (k : Int) l.length = true ∧ decide (Int.toNat (k : Int) < l.length) = true := by
  have h : ¬ ((l.length : Int) < 4) := of_decide_eq_false h
  exact ⟨inB_mk ⟨by omega, by omega⟩, decide_eq_true (by omega)⟩
theorem gI0 {l : List Int} {n : Nat} (h : ((l.length : Int) == (n : Int)) = true) (hk : 0 < n) : Sx.inB (0 : Int) l.length = true ∧ decide (Int.toNat (0 : Int) < l.length) = true := gI (k := 0) h hk
theorem gI1 {l : List Int} {n : Nat} (h : ((l.length : Int) == (n : Int)) = true) (hk : 1 < n) : Sx.inB (1 : Int) l.length = true ∧ decide (Int.toNat (1 : Int) < l.length) = true := gI (k := 1) h hk
theorem gF0 {l : List Int} (h : decide ((l.length : Int) < 4) = false) : Sx.inB (0 : Int) l.length = true ∧ decide (Int.toNat (0 : Int) < l.length) = true := gF h 0 (by decide)
theorem gF1 {l : List Int} (h : decide ((l.length : Int) < 4) = false) : Sx.inB (1 : Int) l.length = true ∧ decide (Int.toNat (1 : Int) < l.length) = true := gF h 1 (by decide)
theorem gF2 {l : List Int} (h : decide ((l.length : Int) < 4) = false) : Sx.inB (2 : Int) l.length = true ∧ decide (Int.toNat (2 : Int) < l.length) = true := gF h 2 (by decide)
theorem gF3 {l : List Int} (h : decide ((l.length : Int) < 4) = false) : Sx.inB (3 : Int) l.length = true ∧ decide (Int.toNat (3 : Int) < l.length) = true := gF h 3 (by decide)
theorem gC {l : List Int} (h : decide ((l.length : Int) < 4) = false) : cutB (some (4 : Int)) none l.length = true := by
  have h : ¬ ((l.length : Int) < 4) := of_decide_eq_false h
  exact bOk_mk (by omega)
theorem cut_len {l : List Int} {a b : Option Int} : (cutL l a b).length ≤ l.length := by
  rw [cutL_eq, List.length_drop, List.length_take]; omega
theorem gN {l : List Int} (hl : l.length ≤ 100000) (h32 : decide ((32 : Int) < nR l) = false) (h : decide (((r4 l).length : Int) % 18446744073709551616 < 6 * nR l % 18446744073709551616) = false) : decide ((0 : Int) ≤ nR l ∧ nR l ≤ 32 ∧ 6 * nR l ≤ ((r4 l).length : Int)) = true ∧ cutB (some (6 * nR l % 18446744073709551616)) none (r4 l).length = true := by
  have h1 : ¬ (32 < nR l) := of_decide_eq_false h32
  have h2 : ¬ (((r4 l).length : Int) % 18446744073709551616 < 6 * nR l % 18446744073709551616) := of_decide_eq_false h
  have h0 : 0 ≤ nR l := orV_nonneg _ _
  have h3 : (r4 l).length ≤ 100000 := Nat.le_trans cut_len hl
  revert h1 h2 h0
  generalize nR l = n
  intro h1 h2 h0
  exact ⟨decide_eq_true ⟨h0, by omega, by omega⟩, bOk_mk (by omega)⟩
theorem gX {x a b : Int} (h : (x == a) = true) (hab : (a == b) = false) : (x == b) = false := by rw [eq_of_beq h]; exact hab
theorem gV {n : Int} {put : Bool} {ts : List Int} (h : ts.length ≤ 40000) : roomB ((opq24 (vf n put ts ts.length)).fst.length + [n].length) Try.prog.types[(3 : Nat)].bytes = true := by
  rw [opq24_eq]
  have := vf_len (n := n) (put := put) (ts := ts) (k := ts.length) (Nat.le_refl _)
  exact rm3_ok (by show _ + 1 ≤ 100000; omega)
/-- What the reference gives back, by how it ended. -/
def rcG (F : Fv) (N : Nat) : Oc → SV × List (SO C24)
  | .err => rcE F
  | .keep m p q => rcK F m p q
  | .vl l => match l with
    | [] => rcN F
    | x :: r => rcV F N (x :: r)
  | .tab a b => rcT F N a b
theorem vl_tt {F : Fv} {N : Nat} {n : Int} {S : List Int × Bool} (hz : decide (S.1.length = 0) = true) (hp : S.2 = true) : rcV F N [n] = rcG F N (.vl (finV n S)) := by
  obtain ⟨l, b⟩ := S
  cases l with
  | nil => cases hp; rfl
  | cons x r => cases hz
theorem vl_tf {F : Fv} {N : Nat} {n : Int} {S : List Int × Bool} (hz : decide (S.1.length = 0) = true) (hp : S.2 = false) : rcN F = rcG F N (.vl (finV n S)) := by
  obtain ⟨l, b⟩ := S
  cases l with
  | nil => cases hp; rfl
  | cons x r => cases hz
theorem vl_ft {F : Fv} {N : Nat} {n : Int} {S : List Int × Bool} (hz : decide (S.1.length = 0) = false) (hp : S.2 = true) : rcV F N (S.1 ++ [n]) = rcG F N (.vl (finV n S)) := by
  obtain ⟨l, b⟩ := S
  cases l with
  | nil => cases hz
  | cons x r => cases hp; rfl
theorem vl_ff {F : Fv} {N : Nat} {n : Int} {S : List Int × Bool} (hz : decide (S.1.length = 0) = false) (hp : S.2 = false) : rcV F N S.1 = rcG F N (.vl (finV n S)) := by
  obtain ⟨l, b⟩ := S
  cases l with
  | nil => cases hz
  | cons x r => cases hp; rfl
def rO (feats : Int) (F : Fp) (bs : List Int) : Oc :=
  match F with
  | (m, p, q, ol, gl, vl) =>
  bif okF (m, p, q, ol, gl, vl) then
   (bif !hB feats 17 then
    (Oc.err) else
    (bif decide ((↑bs.length : Int) < (2 : Int)) then
     (Oc.err) else
     (bif bs.getD 0 0 == (0 : Int) then
      (bif hB feats 18 then
       (bif decide (bs.getD 1 0 ≤ (1 : Int)) then
        (bif (↑(r2 bs).length : Int) == (1 : Int) then
         (bif decide ((r2 bs).getD 0 0 ≤ (1 : Int)) then
          (bif bs.getD 1 0 == (0 : Int) then
           (Oc.keep m ((r2 bs).getD 0 0 == (1 : Int)) q) else
           (Oc.keep m p ((r2 bs).getD 0 0 == (1 : Int)))) else
          (Oc.err)) else
         (Oc.err)) else
        (Oc.err)) else
       (Oc.err)) else
      (bif bs.getD 0 0 == (1 : Int) then
       (bif bs.getD 1 0 == (0 : Int) then
        (bif hB feats 18 then
         (bif decide ((↑(r2 bs).length : Int) < (4 : Int)) then
          (Oc.err) else
          (bif decide ((32 : Int) < nR (r2 bs)) then
           (Oc.err) else
           (bif decide ((↑(r4 (r2 bs)).length : Int) % (18446744073709551616 : Int) < (6 : Int) * nR (r2 bs) % (18446744073709551616 : Int)) then
            (Oc.err) else
            (bif decide (nR (r2 bs) = (0 : Int)) then
             (bif decide ((↑(rT (r2 bs)).length : Int) < (4 : Int)) then
              (Oc.err) else
              (bif decide ((32 : Int) < nR (rT (r2 bs))) then
               (Oc.err) else
               (bif decide ((↑(r4 (rT (r2 bs))).length : Int) % (18446744073709551616 : Int) < (6 : Int) * nR (rT (r2 bs)) % (18446744073709551616 : Int)) then
                (Oc.err) else
                (bif decide (nR (rT (r2 bs)) = (0 : Int)) then
                 (bif decide ((0 : Int) < (↑(rT (rT (r2 bs))).length : Int)) then
                  (Oc.err) else
                  (Oc.tab none none)) else
                 (bif decide ((0 : Int) < (↑(rT (rT (r2 bs))).length : Int)) then
                  (Oc.err) else
                  (Oc.tab none (some (tbl (r4 (rT (r2 bs))) (nR (rT (r2 bs))).toNat)))))))) else
             (bif decide ((↑(rT (r2 bs)).length : Int) < (4 : Int)) then
              (Oc.err) else
              (bif decide ((32 : Int) < nR (rT (r2 bs))) then
               (Oc.err) else
               (bif decide ((↑(r4 (rT (r2 bs))).length : Int) % (18446744073709551616 : Int) < (6 : Int) * nR (rT (r2 bs)) % (18446744073709551616 : Int)) then
                (Oc.err) else
                (bif decide (nR (rT (r2 bs)) = (0 : Int)) then
                 (bif decide ((0 : Int) < (↑(rT (rT (r2 bs))).length : Int)) then
                  (Oc.err) else
                  (Oc.tab (some (tbl (r4 (r2 bs)) (nR (r2 bs)).toNat)) none)) else
                 (bif decide ((0 : Int) < (↑(rT (rT (r2 bs))).length : Int)) then
                  (Oc.err) else
                  (Oc.tab (some (tbl (r4 (r2 bs)) (nR (r2 bs)).toNat)) (some (tbl (r4 (rT (r2 bs))) (nR (rT (r2 bs))).toNat)))))))))))) else
         (Oc.err)) else
        (bif bs.getD 1 0 == (1 : Int) then
         (bif hB feats 23 then
          (bif (↑(r2 bs).length : Int) == (6 : Int) then
           (Oc.keep (macAt (r2 bs)) p q) else
           (Oc.err)) else
          (Oc.err)) else
         (Oc.err))) else
       (bif bs.getD 0 0 == (2 : Int) then
        (bif hB feats 19 then
         (bif decide (bs.getD 1 0 ≤ (1 : Int)) then
          (bif (↑(r2 bs).length : Int) == (2 : Int) then
           (bif decide ((r2 bs).getD 1 0 ≤ (15 : Int)) then
            (Oc.vl (finV (nW (r2 bs)) (opq24 (vf (nW (r2 bs)) (bs.getD 1 0 == (0 : Int)) vl vl.length)))) else
            (Oc.err)) else
           (Oc.err)) else
          (Oc.err)) else
         (Oc.err)) else
        (Oc.err)))))) else
   (Oc.err)
theorem rc_get (feats : Int) (m : Mac) (p q : Bool) (o g : Lo Mac) (v : Lo Int) (f : Bool) (bs : List Int) (hsm : smF (m, p, q, (lo o), (lo g), (lo v)) = true) (hv : (lo v).length ≤ 40000) (hb : byB bs = true) (hlb : bs.length ≤ 100000) :
  (f24Rc feats (m, p, q, o, g, v) (some (false, f, bs))).get = some (rcG (m, p, q, o, g, v) (fltN (m, p, q, o, g, v) 0 + 1) (rO feats (m, p, q, lo o, lo g, lo v) bs)) := by
 have hb2 : byB (r2 bs) = true := byB_cut hb
 have hl1 : (r2 bs).length ≤ 100000 := Nat.le_trans cut_len hlb
 have hl2 : (rT (r2 bs)).length ≤ 100000 := Nat.le_trans cut_len (Nat.le_trans cut_len hl1)
 cases h1 : (okF (m, p, q, (lo o), (lo g), (lo v))) with
 | true =>
  cases h2 : (!hB feats 17) with
  | true =>
   have e : rO feats (m, p, q, lo o, lo g, lo v) bs = Oc.err := by
     unfold rO
     simp only [h1, h2, cond_true, cond_false]
   rw [e]
   exact Tr.follow_get (rc_e2 feats m p q o g v f bs) (by simp only [hsm, h1, h2])
  | false =>
   cases h3 : (decide ((↑bs.length : Int) < (2 : Int))) with
   | true =>
    have e : rO feats (m, p, q, lo o, lo g, lo v) bs = Oc.err := by
      unfold rO
      simp only [h1, h2, h3, cond_true, cond_false]
    rw [e]
    exact Tr.follow_get (rc_e3 feats m p q o g v f bs) (by simp only [hsm, h1, h2, h3])
   | false =>
    cases h4 : (bs.getD 0 0 == (0 : Int)) with
    | true =>
     cases h5 : (hB feats 18) with
     | true =>
      cases h6 : (decide (bs.getD 1 0 ≤ (1 : Int))) with
      | true =>
       cases h7 : ((↑(r2 bs).length : Int) == (1 : Int)) with
       | true =>
        cases h8 : (decide ((r2 bs).getD 0 0 ≤ (1 : Int))) with
        | true =>
         cases h9 : (bs.getD 1 0 == (0 : Int)) with
         | true =>
          have e : rO feats (m, p, q, lo o, lo g, lo v) bs = Oc.keep m ((r2 bs).getD 0 0 == (1 : Int)) q := by
            unfold rO
            simp only [h1, h2, h3, h4, h5, h6, h7, h8, h9, cond_true, cond_false]
          rw [e]
          exact Tr.follow_get (rc_x0 feats m p q o g v f bs) (by simp only [hsm, h1, h2, h3, (g2 h3).1, (g2 h3).2.1, (g2 h3).2.2.1, (g2 h3).2.2.2.1, (g2 h3).2.2.2.2, h4, h5, h6, h7, (gI0 (n := 1) h7 (by decide)).1, (gI0 (n := 1) h7 (by decide)).2, h8, h9])
         | false =>
          have e : rO feats (m, p, q, lo o, lo g, lo v) bs = Oc.keep m p ((r2 bs).getD 0 0 == (1 : Int)) := by
            unfold rO
            simp only [h1, h2, h3, h4, h5, h6, h7, h8, h9, cond_true, cond_false]
          rw [e]
          exact Tr.follow_get (rc_x1 feats m p q o g v f bs) (by simp only [hsm, h1, h2, h3, (g2 h3).1, (g2 h3).2.1, (g2 h3).2.2.1, (g2 h3).2.2.2.1, (g2 h3).2.2.2.2, h4, h5, h6, h7, (gI0 (n := 1) h7 (by decide)).1, (gI0 (n := 1) h7 (by decide)).2, h8, h9])
        | false =>
         have e : rO feats (m, p, q, lo o, lo g, lo v) bs = Oc.err := by
           unfold rO
           simp only [h1, h2, h3, h4, h5, h6, h7, h8, cond_true, cond_false]
         rw [e]
         exact Tr.follow_get (rc_xb feats m p q o g v f bs) (by simp only [hsm, h1, h2, h3, (g2 h3).1, (g2 h3).2.1, (g2 h3).2.2.1, (g2 h3).2.2.2.1, (g2 h3).2.2.2.2, h4, h5, h6, h7, (gI0 (n := 1) h7 (by decide)).1, (gI0 (n := 1) h7 (by decide)).2, h8, (gX (b := 1) h4 (by decide)), (gX (b := 2) h4 (by decide))])
       | false =>
        have e : rO feats (m, p, q, lo o, lo g, lo v) bs = Oc.err := by
          unfold rO
          simp only [h1, h2, h3, h4, h5, h6, h7, cond_true, cond_false]
        rw [e]
        exact Tr.follow_get (rc_xn feats m p q o g v f bs) (by simp only [hsm, h1, h2, h3, (g2 h3).1, (g2 h3).2.1, (g2 h3).2.2.1, (g2 h3).2.2.2.1, (g2 h3).2.2.2.2, h4, h5, h6, h7, (gX (b := 1) h4 (by decide)), (gX (b := 2) h4 (by decide))])
      | false =>
       have e : rO feats (m, p, q, lo o, lo g, lo v) bs = Oc.err := by
         unfold rO
         simp only [h1, h2, h3, h4, h5, h6, cond_true, cond_false]
       rw [e]
       exact Tr.follow_get (rc_xd feats m p q o g v f bs) (by simp only [hsm, h1, h2, h3, (g2 h3).1, (g2 h3).2.1, (g2 h3).2.2.1, (g2 h3).2.2.2.1, (g2 h3).2.2.2.2, h4, h5, h6, (gX (b := 1) h4 (by decide)), (gX (b := 2) h4 (by decide))])
     | false =>
      have e : rO feats (m, p, q, lo o, lo g, lo v) bs = Oc.err := by
        unfold rO
        simp only [h1, h2, h3, h4, h5, cond_true, cond_false]
      rw [e]
      exact Tr.follow_get (rc_xh feats m p q o g v f bs) (by simp only [hsm, h1, h2, h3, (g2 h3).1, (g2 h3).2.1, (g2 h3).2.2.1, (g2 h3).2.2.2.1, (g2 h3).2.2.2.2, h4, h5, (gX (b := 1) h4 (by decide)), (gX (b := 2) h4 (by decide))])
    | false =>
     cases h10 : (bs.getD 0 0 == (1 : Int)) with
     | true =>
      cases h11 : (bs.getD 1 0 == (0 : Int)) with
      | true =>
       cases h12 : (hB feats 18) with
       | true =>
        cases h13 : (decide ((↑(r2 bs).length : Int) < (4 : Int))) with
        | true =>
         have e : rO feats (m, p, q, lo o, lo g, lo v) bs = Oc.err := by
           unfold rO
           simp only [h1, h2, h3, h4, h10, h11, h12, h13, cond_true, cond_false]
         rw [e]
         exact Tr.follow_get (rc_1a feats m p q o g v f bs) (by simp only [hsm, h1, h2, h3, (g2 h3).1, (g2 h3).2.1, (g2 h3).2.2.1, (g2 h3).2.2.2.1, (g2 h3).2.2.2.2, h4, h10, h11, h12, h13])
        | false =>
         cases h14 : (decide ((32 : Int) < nR (r2 bs))) with
         | true =>
          have e : rO feats (m, p, q, lo o, lo g, lo v) bs = Oc.err := by
            unfold rO
            simp only [h1, h2, h3, h4, h10, h11, h12, h13, h14, cond_true, cond_false]
          rw [e]
          exact Tr.follow_get (rc_1b feats m p q o g v f bs) (by simp only [hsm, h1, h2, h3, (g2 h3).1, (g2 h3).2.1, (g2 h3).2.2.1, (g2 h3).2.2.2.1, (g2 h3).2.2.2.2, h4, h10, h11, h12, h13, (gF0 h13).1, (gF0 h13).2, (gF1 h13).1, (gF1 h13).2, (gF2 h13).1, (gF2 h13).2, (gF3 h13).1, (gF3 h13).2, (gC h13), h14])
         | false =>
          cases h15 : (decide ((↑(r4 (r2 bs)).length : Int) % (18446744073709551616 : Int) < (6 : Int) * nR (r2 bs) % (18446744073709551616 : Int))) with
          | true =>
           have e : rO feats (m, p, q, lo o, lo g, lo v) bs = Oc.err := by
             unfold rO
             simp only [h1, h2, h3, h4, h10, h11, h12, h13, h14, h15, cond_true, cond_false]
           rw [e]
           exact Tr.follow_get (rc_1c feats m p q o g v f bs) (by simp only [hsm, h1, h2, h3, (g2 h3).1, (g2 h3).2.1, (g2 h3).2.2.1, (g2 h3).2.2.2.1, (g2 h3).2.2.2.2, h4, h10, h11, h12, h13, (gF0 h13).1, (gF0 h13).2, (gF1 h13).1, (gF1 h13).2, (gF2 h13).1, (gF2 h13).2, (gF3 h13).1, (gF3 h13).2, (gC h13), h14, h15])
          | false =>
           cases h16 : (decide (nR (r2 bs) = (0 : Int))) with
           | true =>
            cases h17 : (decide ((↑(rT (r2 bs)).length : Int) < (4 : Int))) with
            | true =>
             have e : rO feats (m, p, q, lo o, lo g, lo v) bs = Oc.err := by
               unfold rO
               simp only [h1, h2, h3, h4, h10, h11, h12, h13, h14, h15, h16, h17, cond_true, cond_false]
             rw [e]
             exact Tr.follow_get (rc_2ta feats m p q o g v f bs) (by simp only [hsm, h1, h2, h3, (g2 h3).1, (g2 h3).2.1, (g2 h3).2.2.1, (g2 h3).2.2.2.1, (g2 h3).2.2.2.2, h4, h10, h11, h12, h13, (gF0 h13).1, (gF0 h13).2, (gF1 h13).1, (gF1 h13).2, (gF2 h13).1, (gF2 h13).2, (gF3 h13).1, (gF3 h13).2, (gC h13), h14, h15, (gN hl1 h14 h15).1, h16, (gN hl1 h14 h15).2, h17])
            | false =>
             cases h18 : (decide ((32 : Int) < nR (rT (r2 bs)))) with
             | true =>
              have e : rO feats (m, p, q, lo o, lo g, lo v) bs = Oc.err := by
                unfold rO
                simp only [h1, h2, h3, h4, h10, h11, h12, h13, h14, h15, h16, h17, h18, cond_true, cond_false]
              rw [e]
              exact Tr.follow_get (rc_2tb feats m p q o g v f bs) (by simp only [hsm, h1, h2, h3, (g2 h3).1, (g2 h3).2.1, (g2 h3).2.2.1, (g2 h3).2.2.2.1, (g2 h3).2.2.2.2, h4, h10, h11, h12, h13, (gF0 h13).1, (gF0 h13).2, (gF1 h13).1, (gF1 h13).2, (gF2 h13).1, (gF2 h13).2, (gF3 h13).1, (gF3 h13).2, (gC h13), h14, h15, (gN hl1 h14 h15).1, h16, (gN hl1 h14 h15).2, h17, (gF0 h17).1, (gF0 h17).2, (gF1 h17).1, (gF1 h17).2, (gF2 h17).1, (gF2 h17).2, (gF3 h17).1, (gF3 h17).2, (gC h17), h18])
             | false =>
              cases h19 : (decide ((↑(r4 (rT (r2 bs))).length : Int) % (18446744073709551616 : Int) < (6 : Int) * nR (rT (r2 bs)) % (18446744073709551616 : Int))) with
              | true =>
               have e : rO feats (m, p, q, lo o, lo g, lo v) bs = Oc.err := by
                 unfold rO
                 simp only [h1, h2, h3, h4, h10, h11, h12, h13, h14, h15, h16, h17, h18, h19, cond_true, cond_false]
               rw [e]
               exact Tr.follow_get (rc_2tc feats m p q o g v f bs) (by simp only [hsm, h1, h2, h3, (g2 h3).1, (g2 h3).2.1, (g2 h3).2.2.1, (g2 h3).2.2.2.1, (g2 h3).2.2.2.2, h4, h10, h11, h12, h13, (gF0 h13).1, (gF0 h13).2, (gF1 h13).1, (gF1 h13).2, (gF2 h13).1, (gF2 h13).2, (gF3 h13).1, (gF3 h13).2, (gC h13), h14, h15, (gN hl1 h14 h15).1, h16, (gN hl1 h14 h15).2, h17, (gF0 h17).1, (gF0 h17).2, (gF1 h17).1, (gF1 h17).2, (gF2 h17).1, (gF2 h17).2, (gF3 h17).1, (gF3 h17).2, (gC h17), h18, h19])
              | false =>
               cases h20 : (decide (nR (rT (r2 bs)) = (0 : Int))) with
               | true =>
                cases h21 : (decide ((0 : Int) < (↑(rT (rT (r2 bs))).length : Int))) with
                | true =>
                 have e : rO feats (m, p, q, lo o, lo g, lo v) bs = Oc.err := by
                   unfold rO
                   simp only [h1, h2, h3, h4, h10, h11, h12, h13, h14, h15, h16, h17, h18, h19, h20, h21, cond_true, cond_false]
                 rw [e]
                 exact Tr.follow_get (rc_2ttx feats m p q o g v f bs) (by simp only [hsm, h1, h2, h3, (g2 h3).1, (g2 h3).2.1, (g2 h3).2.2.1, (g2 h3).2.2.2.1, (g2 h3).2.2.2.2, h4, h10, h11, h12, h13, (gF0 h13).1, (gF0 h13).2, (gF1 h13).1, (gF1 h13).2, (gF2 h13).1, (gF2 h13).2, (gF3 h13).1, (gF3 h13).2, (gC h13), h14, h15, (gN hl1 h14 h15).1, h16, (gN hl1 h14 h15).2, h17, (gF0 h17).1, (gF0 h17).2, (gF1 h17).1, (gF1 h17).2, (gF2 h17).1, (gF2 h17).2, (gF3 h17).1, (gF3 h17).2, (gC h17), h18, h19, (gN hl2 h18 h19).1, h20, (gN hl2 h18 h19).2, h21])
                | false =>
                 have e : rO feats (m, p, q, lo o, lo g, lo v) bs = Oc.tab none none := by
                   unfold rO
                   simp only [h1, h2, h3, h4, h10, h11, h12, h13, h14, h15, h16, h17, h18, h19, h20, h21, cond_true, cond_false]
                 rw [e]
                 exact Tr.follow_get (rc_2tto feats m p q o g v f bs) (by simp only [hsm, h1, h2, h3, (g2 h3).1, (g2 h3).2.1, (g2 h3).2.2.1, (g2 h3).2.2.2.1, (g2 h3).2.2.2.2, h4, h10, h11, h12, h13, (gF0 h13).1, (gF0 h13).2, (gF1 h13).1, (gF1 h13).2, (gF2 h13).1, (gF2 h13).2, (gF3 h13).1, (gF3 h13).2, (gC h13), h14, h15, (gN hl1 h14 h15).1, h16, (gN hl1 h14 h15).2, h17, (gF0 h17).1, (gF0 h17).2, (gF1 h17).1, (gF1 h17).2, (gF2 h17).1, (gF2 h17).2, (gF3 h17).1, (gF3 h17).2, (gC h17), h18, h19, (gN hl2 h18 h19).1, h20, (gN hl2 h18 h19).2, h21])
               | false =>
                cases h22 : (decide ((0 : Int) < (↑(rT (rT (r2 bs))).length : Int))) with
                | true =>
                 have e : rO feats (m, p, q, lo o, lo g, lo v) bs = Oc.err := by
                   unfold rO
                   simp only [h1, h2, h3, h4, h10, h11, h12, h13, h14, h15, h16, h17, h18, h19, h20, h22, cond_true, cond_false]
                 rw [e]
                 exact Tr.follow_get (rc_2tfx feats m p q o g v f bs) (by simp only [hsm, h1, h2, h3, (g2 h3).1, (g2 h3).2.1, (g2 h3).2.2.1, (g2 h3).2.2.2.1, (g2 h3).2.2.2.2, h4, h10, h11, h12, h13, (gF0 h13).1, (gF0 h13).2, (gF1 h13).1, (gF1 h13).2, (gF2 h13).1, (gF2 h13).2, (gF3 h13).1, (gF3 h13).2, (gC h13), h14, h15, (gN hl1 h14 h15).1, h16, (gN hl1 h14 h15).2, h17, (gF0 h17).1, (gF0 h17).2, (gF1 h17).1, (gF1 h17).2, (gF2 h17).1, (gF2 h17).2, (gF3 h17).1, (gF3 h17).2, (gC h17), h18, h19, (gN hl2 h18 h19).1, h20, (gN hl2 h18 h19).2, h22])
                | false =>
                 have e : rO feats (m, p, q, lo o, lo g, lo v) bs = Oc.tab none (some (tbl (r4 (rT (r2 bs))) (nR (rT (r2 bs))).toNat)) := by
                   unfold rO
                   simp only [h1, h2, h3, h4, h10, h11, h12, h13, h14, h15, h16, h17, h18, h19, h20, h22, cond_true, cond_false]
                 rw [e]
                 exact Tr.follow_get (rc_2tfo feats m p q o g v f bs) (by simp only [hsm, h1, h2, h3, (g2 h3).1, (g2 h3).2.1, (g2 h3).2.2.1, (g2 h3).2.2.2.1, (g2 h3).2.2.2.2, h4, h10, h11, h12, h13, (gF0 h13).1, (gF0 h13).2, (gF1 h13).1, (gF1 h13).2, (gF2 h13).1, (gF2 h13).2, (gF3 h13).1, (gF3 h13).2, (gC h13), h14, h15, (gN hl1 h14 h15).1, h16, (gN hl1 h14 h15).2, h17, (gF0 h17).1, (gF0 h17).2, (gF1 h17).1, (gF1 h17).2, (gF2 h17).1, (gF2 h17).2, (gF3 h17).1, (gF3 h17).2, (gC h17), h18, h19, (gN hl2 h18 h19).1, h20, (gN hl2 h18 h19).2, h22])
           | false =>
            cases h23 : (decide ((↑(rT (r2 bs)).length : Int) < (4 : Int))) with
            | true =>
             have e : rO feats (m, p, q, lo o, lo g, lo v) bs = Oc.err := by
               unfold rO
               simp only [h1, h2, h3, h4, h10, h11, h12, h13, h14, h15, h16, h23, cond_true, cond_false]
             rw [e]
             exact Tr.follow_get (rc_2fa feats m p q o g v f bs) (by simp only [hsm, h1, h2, h3, (g2 h3).1, (g2 h3).2.1, (g2 h3).2.2.1, (g2 h3).2.2.2.1, (g2 h3).2.2.2.2, h4, h10, h11, h12, h13, (gF0 h13).1, (gF0 h13).2, (gF1 h13).1, (gF1 h13).2, (gF2 h13).1, (gF2 h13).2, (gF3 h13).1, (gF3 h13).2, (gC h13), h14, h15, (gN hl1 h14 h15).1, h16, (gN hl1 h14 h15).2, h23])
            | false =>
             cases h24 : (decide ((32 : Int) < nR (rT (r2 bs)))) with
             | true =>
              have e : rO feats (m, p, q, lo o, lo g, lo v) bs = Oc.err := by
                unfold rO
                simp only [h1, h2, h3, h4, h10, h11, h12, h13, h14, h15, h16, h23, h24, cond_true, cond_false]
              rw [e]
              exact Tr.follow_get (rc_2fb feats m p q o g v f bs) (by simp only [hsm, h1, h2, h3, (g2 h3).1, (g2 h3).2.1, (g2 h3).2.2.1, (g2 h3).2.2.2.1, (g2 h3).2.2.2.2, h4, h10, h11, h12, h13, (gF0 h13).1, (gF0 h13).2, (gF1 h13).1, (gF1 h13).2, (gF2 h13).1, (gF2 h13).2, (gF3 h13).1, (gF3 h13).2, (gC h13), h14, h15, (gN hl1 h14 h15).1, h16, (gN hl1 h14 h15).2, h23, (gF0 h23).1, (gF0 h23).2, (gF1 h23).1, (gF1 h23).2, (gF2 h23).1, (gF2 h23).2, (gF3 h23).1, (gF3 h23).2, (gC h23), h24])
             | false =>
              cases h25 : (decide ((↑(r4 (rT (r2 bs))).length : Int) % (18446744073709551616 : Int) < (6 : Int) * nR (rT (r2 bs)) % (18446744073709551616 : Int))) with
              | true =>
               have e : rO feats (m, p, q, lo o, lo g, lo v) bs = Oc.err := by
                 unfold rO
                 simp only [h1, h2, h3, h4, h10, h11, h12, h13, h14, h15, h16, h23, h24, h25, cond_true, cond_false]
               rw [e]
               exact Tr.follow_get (rc_2fc feats m p q o g v f bs) (by simp only [hsm, h1, h2, h3, (g2 h3).1, (g2 h3).2.1, (g2 h3).2.2.1, (g2 h3).2.2.2.1, (g2 h3).2.2.2.2, h4, h10, h11, h12, h13, (gF0 h13).1, (gF0 h13).2, (gF1 h13).1, (gF1 h13).2, (gF2 h13).1, (gF2 h13).2, (gF3 h13).1, (gF3 h13).2, (gC h13), h14, h15, (gN hl1 h14 h15).1, h16, (gN hl1 h14 h15).2, h23, (gF0 h23).1, (gF0 h23).2, (gF1 h23).1, (gF1 h23).2, (gF2 h23).1, (gF2 h23).2, (gF3 h23).1, (gF3 h23).2, (gC h23), h24, h25])
              | false =>
               cases h26 : (decide (nR (rT (r2 bs)) = (0 : Int))) with
               | true =>
                cases h27 : (decide ((0 : Int) < (↑(rT (rT (r2 bs))).length : Int))) with
                | true =>
                 have e : rO feats (m, p, q, lo o, lo g, lo v) bs = Oc.err := by
                   unfold rO
                   simp only [h1, h2, h3, h4, h10, h11, h12, h13, h14, h15, h16, h23, h24, h25, h26, h27, cond_true, cond_false]
                 rw [e]
                 exact Tr.follow_get (rc_2ftx feats m p q o g v f bs) (by simp only [hsm, h1, h2, h3, (g2 h3).1, (g2 h3).2.1, (g2 h3).2.2.1, (g2 h3).2.2.2.1, (g2 h3).2.2.2.2, h4, h10, h11, h12, h13, (gF0 h13).1, (gF0 h13).2, (gF1 h13).1, (gF1 h13).2, (gF2 h13).1, (gF2 h13).2, (gF3 h13).1, (gF3 h13).2, (gC h13), h14, h15, (gN hl1 h14 h15).1, h16, (gN hl1 h14 h15).2, h23, (gF0 h23).1, (gF0 h23).2, (gF1 h23).1, (gF1 h23).2, (gF2 h23).1, (gF2 h23).2, (gF3 h23).1, (gF3 h23).2, (gC h23), h24, h25, (gN hl2 h24 h25).1, h26, (gN hl2 h24 h25).2, h27])
                | false =>
                 have e : rO feats (m, p, q, lo o, lo g, lo v) bs = Oc.tab (some (tbl (r4 (r2 bs)) (nR (r2 bs)).toNat)) none := by
                   unfold rO
                   simp only [h1, h2, h3, h4, h10, h11, h12, h13, h14, h15, h16, h23, h24, h25, h26, h27, cond_true, cond_false]
                 rw [e]
                 exact Tr.follow_get (rc_2fto feats m p q o g v f bs) (by simp only [hsm, h1, h2, h3, (g2 h3).1, (g2 h3).2.1, (g2 h3).2.2.1, (g2 h3).2.2.2.1, (g2 h3).2.2.2.2, h4, h10, h11, h12, h13, (gF0 h13).1, (gF0 h13).2, (gF1 h13).1, (gF1 h13).2, (gF2 h13).1, (gF2 h13).2, (gF3 h13).1, (gF3 h13).2, (gC h13), h14, h15, (gN hl1 h14 h15).1, h16, (gN hl1 h14 h15).2, h23, (gF0 h23).1, (gF0 h23).2, (gF1 h23).1, (gF1 h23).2, (gF2 h23).1, (gF2 h23).2, (gF3 h23).1, (gF3 h23).2, (gC h23), h24, h25, (gN hl2 h24 h25).1, h26, (gN hl2 h24 h25).2, h27])
               | false =>
                cases h28 : (decide ((0 : Int) < (↑(rT (rT (r2 bs))).length : Int))) with
                | true =>
                 have e : rO feats (m, p, q, lo o, lo g, lo v) bs = Oc.err := by
                   unfold rO
                   simp only [h1, h2, h3, h4, h10, h11, h12, h13, h14, h15, h16, h23, h24, h25, h26, h28, cond_true, cond_false]
                 rw [e]
                 exact Tr.follow_get (rc_2ffx feats m p q o g v f bs) (by simp only [hsm, h1, h2, h3, (g2 h3).1, (g2 h3).2.1, (g2 h3).2.2.1, (g2 h3).2.2.2.1, (g2 h3).2.2.2.2, h4, h10, h11, h12, h13, (gF0 h13).1, (gF0 h13).2, (gF1 h13).1, (gF1 h13).2, (gF2 h13).1, (gF2 h13).2, (gF3 h13).1, (gF3 h13).2, (gC h13), h14, h15, (gN hl1 h14 h15).1, h16, (gN hl1 h14 h15).2, h23, (gF0 h23).1, (gF0 h23).2, (gF1 h23).1, (gF1 h23).2, (gF2 h23).1, (gF2 h23).2, (gF3 h23).1, (gF3 h23).2, (gC h23), h24, h25, (gN hl2 h24 h25).1, h26, (gN hl2 h24 h25).2, h28])
                | false =>
                 have e : rO feats (m, p, q, lo o, lo g, lo v) bs = Oc.tab (some (tbl (r4 (r2 bs)) (nR (r2 bs)).toNat)) (some (tbl (r4 (rT (r2 bs))) (nR (rT (r2 bs))).toNat)) := by
                   unfold rO
                   simp only [h1, h2, h3, h4, h10, h11, h12, h13, h14, h15, h16, h23, h24, h25, h26, h28, cond_true, cond_false]
                 rw [e]
                 exact Tr.follow_get (rc_2ffo feats m p q o g v f bs) (by simp only [hsm, h1, h2, h3, (g2 h3).1, (g2 h3).2.1, (g2 h3).2.2.1, (g2 h3).2.2.2.1, (g2 h3).2.2.2.2, h4, h10, h11, h12, h13, (gF0 h13).1, (gF0 h13).2, (gF1 h13).1, (gF1 h13).2, (gF2 h13).1, (gF2 h13).2, (gF3 h13).1, (gF3 h13).2, (gC h13), h14, h15, (gN hl1 h14 h15).1, h16, (gN hl1 h14 h15).2, h23, (gF0 h23).1, (gF0 h23).2, (gF1 h23).1, (gF1 h23).2, (gF2 h23).1, (gF2 h23).2, (gF3 h23).1, (gF3 h23).2, (gC h23), h24, h25, (gN hl2 h24 h25).1, h26, (gN hl2 h24 h25).2, h28])
       | false =>
        have e : rO feats (m, p, q, lo o, lo g, lo v) bs = Oc.err := by
          unfold rO
          simp only [h1, h2, h3, h4, h10, h11, h12, cond_true, cond_false]
        rw [e]
        exact Tr.follow_get (rc_mh feats m p q o g v f bs) (by simp only [hsm, h1, h2, h3, (g2 h3).1, (g2 h3).2.1, (g2 h3).2.2.1, (g2 h3).2.2.2.1, (g2 h3).2.2.2.2, h4, h10, h11, h12, (gX (b := 1) h11 (by decide)), (gX (b := 2) h10 (by decide))])
      | false =>
       cases h29 : (bs.getD 1 0 == (1 : Int)) with
       | true =>
        cases h30 : (hB feats 23) with
        | true =>
         cases h31 : ((↑(r2 bs).length : Int) == (6 : Int)) with
         | true =>
          have e : rO feats (m, p, q, lo o, lo g, lo v) bs = Oc.keep (macAt (r2 bs)) p q := by
            unfold rO
            simp only [h1, h2, h3, h4, h10, h11, h29, h30, h31, cond_true, cond_false]
          rw [e]
          exact Tr.follow_get (rc_ao feats m p q o g v f bs) (by simp only [hsm, h1, h2, h3, (g2 h3).1, (g2 h3).2.1, (g2 h3).2.2.1, (g2 h3).2.2.2.1, (g2 h3).2.2.2.2, h4, h10, h11, h29, h30, h31]; rw [(g6 h31)])
         | false =>
          have e : rO feats (m, p, q, lo o, lo g, lo v) bs = Oc.err := by
            unfold rO
            simp only [h1, h2, h3, h4, h10, h11, h29, h30, h31, cond_true, cond_false]
          rw [e]
          exact Tr.follow_get (rc_an feats m p q o g v f bs) (by simp only [hsm, h1, h2, h3, (g2 h3).1, (g2 h3).2.1, (g2 h3).2.2.1, (g2 h3).2.2.2.1, (g2 h3).2.2.2.2, h4, h10, h11, h29, h30, h31, (gX (b := 2) h10 (by decide))])
        | false =>
         have e : rO feats (m, p, q, lo o, lo g, lo v) bs = Oc.err := by
           unfold rO
           simp only [h1, h2, h3, h4, h10, h11, h29, h30, cond_true, cond_false]
         rw [e]
         exact Tr.follow_get (rc_ah feats m p q o g v f bs) (by simp only [hsm, h1, h2, h3, (g2 h3).1, (g2 h3).2.1, (g2 h3).2.2.1, (g2 h3).2.2.2.1, (g2 h3).2.2.2.2, h4, h10, h11, h29, h30, (gX (b := 2) h10 (by decide))])
       | false =>
        have e : rO feats (m, p, q, lo o, lo g, lo v) bs = Oc.err := by
          unfold rO
          simp only [h1, h2, h3, h4, h10, h11, h29, cond_true, cond_false]
        rw [e]
        exact Tr.follow_get (rc_mx feats m p q o g v f bs) (by simp only [hsm, h1, h2, h3, (g2 h3).1, (g2 h3).2.1, (g2 h3).2.2.1, (g2 h3).2.2.2.1, (g2 h3).2.2.2.2, h4, h10, h11, h29, (gX (b := 2) h10 (by decide))])
     | false =>
      cases h32 : (bs.getD 0 0 == (2 : Int)) with
      | true =>
       cases h33 : (hB feats 19) with
       | true =>
        cases h34 : (decide (bs.getD 1 0 ≤ (1 : Int))) with
        | true =>
         cases h35 : ((↑(r2 bs).length : Int) == (2 : Int)) with
         | true =>
          cases h36 : (decide ((r2 bs).getD 1 0 ≤ (15 : Int))) with
          | true =>
           have e : rO feats (m, p, q, lo o, lo g, lo v) bs = Oc.vl (finV (nW (r2 bs)) (opq24 (vf (nW (r2 bs)) (bs.getD 1 0 == (0 : Int)) (lo v) (lo v).length))) := by
             unfold rO
             simp only [h1, h2, h3, h4, h10, h32, h33, h34, h35, h36, cond_true, cond_false]
           rw [e]
           have hrm : (roomB ((opq24 (vf (nW (r2 bs)) (bs.getD 1 0 == (0 : Int)) (lo v) (lo v).length)).fst.length + [nW (r2 bs)].length) Try.prog.types[(3 : Nat)].bytes) = true := gV hv
           cases hz : (decide ((opq24 (vf (nW (r2 bs)) (bs.getD 1 0 == (0 : Int)) (lo v) (lo v).length)).fst.length = (0 : Nat))) with
           | true =>
            cases hp : ((opq24 (vf (nW (r2 bs)) (bs.getD 1 0 == (0 : Int)) (lo v) (lo v).length)).snd) with
            | true =>
             exact (Tr.follow_get (rc_vtt feats m p q o g v f bs) (by simp only [hsm, h1, h2, h3, (g2 h3).1, (g2 h3).2.1, (g2 h3).2.2.1, (g2 h3).2.2.2.1, (g2 h3).2.2.2.2, h4, h10, h32, h33, h34, h35, (gI1 (n := 2) h35 (by decide)).1, (gI1 (n := 2) h35 (by decide)).2, h36, (gI0 (n := 2) h35 (by decide)).1, (gI0 (n := 2) h35 (by decide)).2, (gB hb2 0), (gB hb2 1), (decide_eq_true hv)]; rw [hz, hp])).trans (congrArg some (vl_tt hz hp))
            | false =>
             exact (Tr.follow_get (rc_vtf feats m p q o g v f bs) (by simp only [hsm, h1, h2, h3, (g2 h3).1, (g2 h3).2.1, (g2 h3).2.2.1, (g2 h3).2.2.2.1, (g2 h3).2.2.2.2, h4, h10, h32, h33, h34, h35, (gI1 (n := 2) h35 (by decide)).1, (gI1 (n := 2) h35 (by decide)).2, h36, (gI0 (n := 2) h35 (by decide)).1, (gI0 (n := 2) h35 (by decide)).2, (gB hb2 0), (gB hb2 1), (decide_eq_true hv)]; rw [hz, hp])).trans (congrArg some (vl_tf hz hp))
           | false =>
            cases hp : ((opq24 (vf (nW (r2 bs)) (bs.getD 1 0 == (0 : Int)) (lo v) (lo v).length)).snd) with
            | true =>
             exact (Tr.follow_get (rc_vft feats m p q o g v f bs) (by simp only [hsm, h1, h2, h3, (g2 h3).1, (g2 h3).2.1, (g2 h3).2.2.1, (g2 h3).2.2.2.1, (g2 h3).2.2.2.2, h4, h10, h32, h33, h34, h35, (gI1 (n := 2) h35 (by decide)).1, (gI1 (n := 2) h35 (by decide)).2, h36, (gI0 (n := 2) h35 (by decide)).1, (gI0 (n := 2) h35 (by decide)).2, (gB hb2 0), (gB hb2 1), (decide_eq_true hv)]; rw [hz, hrm, hp])).trans (congrArg some (vl_ft hz hp))
            | false =>
             exact (Tr.follow_get (rc_vff feats m p q o g v f bs) (by simp only [hsm, h1, h2, h3, (g2 h3).1, (g2 h3).2.1, (g2 h3).2.2.1, (g2 h3).2.2.2.1, (g2 h3).2.2.2.2, h4, h10, h32, h33, h34, h35, (gI1 (n := 2) h35 (by decide)).1, (gI1 (n := 2) h35 (by decide)).2, h36, (gI0 (n := 2) h35 (by decide)).1, (gI0 (n := 2) h35 (by decide)).2, (gB hb2 0), (gB hb2 1), (decide_eq_true hv)]; rw [hz, hp])).trans (congrArg some (vl_ff hz hp))
          | false =>
           have e : rO feats (m, p, q, lo o, lo g, lo v) bs = Oc.err := by
             unfold rO
             simp only [h1, h2, h3, h4, h10, h32, h33, h34, h35, h36, cond_true, cond_false]
           rw [e]
           exact Tr.follow_get (rc_vb feats m p q o g v f bs) (by simp only [hsm, h1, h2, h3, (g2 h3).1, (g2 h3).2.1, (g2 h3).2.2.1, (g2 h3).2.2.2.1, (g2 h3).2.2.2.2, h4, h10, h32, h33, h34, h35, (gI1 (n := 2) h35 (by decide)).1, (gI1 (n := 2) h35 (by decide)).2, h36])
         | false =>
          have e : rO feats (m, p, q, lo o, lo g, lo v) bs = Oc.err := by
            unfold rO
            simp only [h1, h2, h3, h4, h10, h32, h33, h34, h35, cond_true, cond_false]
          rw [e]
          exact Tr.follow_get (rc_vn feats m p q o g v f bs) (by simp only [hsm, h1, h2, h3, (g2 h3).1, (g2 h3).2.1, (g2 h3).2.2.1, (g2 h3).2.2.2.1, (g2 h3).2.2.2.2, h4, h10, h32, h33, h34, h35])
        | false =>
         have e : rO feats (m, p, q, lo o, lo g, lo v) bs = Oc.err := by
           unfold rO
           simp only [h1, h2, h3, h4, h10, h32, h33, h34, cond_true, cond_false]
         rw [e]
         exact Tr.follow_get (rc_vd feats m p q o g v f bs) (by simp only [hsm, h1, h2, h3, (g2 h3).1, (g2 h3).2.1, (g2 h3).2.2.1, (g2 h3).2.2.2.1, (g2 h3).2.2.2.2, h4, h10, h32, h33, h34])
       | false =>
        have e : rO feats (m, p, q, lo o, lo g, lo v) bs = Oc.err := by
          unfold rO
          simp only [h1, h2, h3, h4, h10, h32, h33, cond_true, cond_false]
        rw [e]
        exact Tr.follow_get (rc_vh feats m p q o g v f bs) (by simp only [hsm, h1, h2, h3, (g2 h3).1, (g2 h3).2.1, (g2 h3).2.2.1, (g2 h3).2.2.2.1, (g2 h3).2.2.2.2, h4, h10, h32, h33])
      | false =>
       have e : rO feats (m, p, q, lo o, lo g, lo v) bs = Oc.err := by
         unfold rO
         simp only [h1, h2, h3, h4, h10, h32, cond_true, cond_false]
       rw [e]
       exact Tr.follow_get (rc_d1 feats m p q o g v f bs) (by simp only [hsm, h1, h2, h3, (g2 h3).1, (g2 h3).2.1, (g2 h3).2.2.1, (g2 h3).2.2.2.1, (g2 h3).2.2.2.2, h4, h10, h32])
 | false =>
  have e : rO feats (m, p, q, lo o, lo g, lo v) bs = Oc.err := by
    unfold rO
    simp only [h1, cond_true, cond_false]
  rw [e]
  exact Tr.follow_get (rc_e1 feats m p q o g v f bs) (by simp only [hsm, h1])
end
end Go.Proofs.Ytgepgnjjhgmfnaa
namespace Go.Proofs.Ytgepgnjjhgmfnaa
open Go Go.Sx Go.RowKit
set_option maxRecDepth 1000000
set_option maxHeartbeats 8000000
theorem all_bytes : ∀ i : Fin 256, ∀ j : Fin 256, bitsV IntKind.i64 BinOp.or (j.val : Int) (shlV IntKind.i64 (i.val : Int) 8) = ((i.val * 256 + j.val : Nat) : Int) := by decide +kernel
end Go.Proofs.Ytgepgnjjhgmfnaa
namespace Go.Proofs.Ytgepgnjjhgmfnaa
open Go Go.Sx Go.RowKit
set_option maxRecDepth 1000000
set_option maxHeartbeats 8000000
set_option linter.unusedVariables false
set_option linter.unusedSimpArgs false
noncomputable section
theorem byte_zero : ∀ j : Fin 256, bitsV IntKind.u64 BinOp.or 0 (shlV IntKind.u64 ((j.val : Int) % 18446744073709551616) (8 * 0)) = (j.val : Int) % 18446744073709551616 := by decide +kernel
theorem byte_fin {x : Int} (h : 0 ≤ x ∧ x < 256) : ∃ j : Fin 256, x = (j.val : Int) := ⟨⟨x.toNat, by omega⟩, by show x = (x.toNat : Int); omega⟩
theorem nQR {s : List Int} (hb : byB s = true) (h : ¬ ((s.length : Int) < 4)) : nQ (q4 s) = nR s := by
  match s, h, hb with
  | a :: b :: c :: d :: r, _, hb =>
    obtain ⟨j, hj⟩ := byte_fin (byB_mem hb (x := a) List.mem_cons_self)
    have hz := byte_zero j
    rw [← hj] at hz
    show bitsV IntKind.u64 BinOp.or (bitsV IntKind.u64 BinOp.or (bitsV IntKind.u64 BinOp.or (bitsV IntKind.u64 BinOp.or 0 (shlV IntKind.u64 (a % 18446744073709551616) (8 * 0))) _) _) _ = _
    rw [hz]
    rfl
  | [], h, _ => exact absurd (show ((0 : Nat) : Int) < 4 by decide) h
  | [_], h, _ => exact absurd (show ((1 : Nat) : Int) < 4 by decide) h
  | [_, _], h, _ => exact absurd (show ((2 : Nat) : Int) < 4 by decide) h
  | [_, _, _], h, _ => exact absurd (show ((3 : Nat) : Int) < 4 by decide) h
/-- A table is read alike. -/
def tabQ (s : List Int) (k : Option (List Mac) → List Int → Oc) : Oc :=
  bif decide ((s.length : Int) < 4) then Oc.err else bif decide ((32 : Int) < nQ (q4 s)) then Oc.err else bif (phG (gM s)).beq 0 then k none (r4 s) else bif (phG (gM s)).beq 1 then Oc.err else bif (gM s).2.2.2.1 then Oc.err else k (some (gM s).2.1) (gM s).2.2.1
def tabR (s : List Int) (k : Option (List Mac) → List Int → Oc) : Oc :=
  bif decide ((s.length : Int) < 4) then Oc.err else bif decide ((32 : Int) < nR s) then Oc.err else bif decide (((r4 s).length : Int) % 18446744073709551616 < 6 * nR s % 18446744073709551616) then Oc.err else bif decide (nR s = 0) then k none (rT s) else k (some (tbl (r4 s) (nR s).toNat)) (rT s)
theorem tab_eq {s : List Int} (hb : byB s = true) (hl : s.length ≤ 100000) (k : Option (List Mac) → List Int → Oc) : tabR s k = tabQ s k := by
  unfold tabR tabQ
  cases h1 : decide ((s.length : Int) < 4) with
  | true => rfl
  | false =>
    have h1' : ¬ ((s.length : Int) < 4) := of_decide_eq_false h1
    have e := nQR hb h1'
    have hr : (r4 s).length ≤ 100000 := Nat.le_trans cut_len hl
    show (bif decide ((32 : Int) < nR s) then Oc.err else _) = (bif decide ((32 : Int) < nQ (q4 s)) then Oc.err else _)
    have eg : gM s = finM (nR s).toNat 0 [] (r4 s) 0 := by show finM (nQ (q4 s)).toNat 0 [] (r4 s) 0 = _; rw [e]
    rw [e, eg]
    have h0 : 0 ≤ nR s := orV_nonneg _ _
    have er : rT s = cutL (r4 s) (some (6 * nR s % 18446744073709551616)) none := rfl
    rw [er]
    revert h0
    generalize nR s = n
    intro h0
    cases h2 : decide ((32 : Int) < n) with
    | true => rfl
    | false =>
      have h2' : ¬ ((32 : Int) < n) := of_decide_eq_false h2
      obtain ⟨N, rfl⟩ := Int.eq_ofNat_of_zero_le h0
      have eN : ((N : Nat) : Int).toNat = N := rfl
      rw [eN]
      have ed : (6 * (N : Int) % 18446744073709551616).toNat = 6 * N := by omega
      show (bif decide (((r4 s).length : Int) % 18446744073709551616 < 6 * (N : Int) % 18446744073709551616) then Oc.err else bif decide ((N : Int) = 0) then k none ((r4 s).drop (6 * (N : Int) % 18446744073709551616).toNat) else k (some (tbl (r4 s) N)) ((r4 s).drop (6 * (N : Int) % 18446744073709551616).toNat)) = _
      rw [ed]
      by_cases hm : 6 * N ≤ (r4 s).length
      · rw [finM_tbl _ _ _ _ _ hm, decide_eq_false (show ¬ (((r4 s).length : Int) % 18446744073709551616 < 6 * (N : Int) % 18446744073709551616) by omega)]
        cases N with
        | zero => rfl
        | succ j =>
          rw [decide_eq_false (show ¬ (((j + 1 : Nat) : Int) = 0) by omega)]
          rfl
      · have hb' := finM_bad N 0 [] (r4 s) 0 (by omega)
        rw [decide_eq_true (show (((r4 s).length : Int) % 18446744073709551616 < 6 * (N : Int) % 18446744073709551616) by omega)]
        have hph : (phG (finM N 0 [] (r4 s) 0)).beq 0 = false := by
          cases hp : (phG (finM N 0 [] (r4 s) 0)).beq 0 with
          | false => rfl
          | true =>
            have := fin_ph0 (Nat.eq_of_beq_eq_true hp)
            omega
        rw [hph, hb']
        cases (phG (finM N 0 [] (r4 s) 0)).beq 1 <;> rfl
theorem fin_rest : ∀ (j K : Nat) (ms : List Mac) (s : List Int) (ph : Nat), ∃ k, (finM j K ms s ph).2.2.1 = s.drop k
  | 0, K, ms, s, ph => ⟨0, rfl⟩
  | j + 1, K, ms, s, ph => by
    unfold finM
    split
    · exact ⟨0, rfl⟩
    · obtain ⟨k, hk⟩ := fin_rest j (K + 1) (ms ++ [macAt (c6 s)]) (d6 s) 2
      exact ⟨6 + k, by rw [hk, d6_eq, List.drop_drop]⟩
theorem byB_drop {l : List Int} (k : Nat) (h : byB l = true) : byB (l.drop k) = true := List.all_eq_true.2 fun x hx => List.all_eq_true.1 h x (List.mem_of_mem_drop hx)
theorem tabQ_congr {s : List Int} {k k' : Option (List Mac) → List Int → Oc} (h : ∀ a r, ((byB s = true → byB r = true) ∧ r.length ≤ s.length) → k a r = k' a r) : tabQ s k = tabQ s k' := by
  unfold tabQ
  have h4 : (byB s = true → byB (r4 s) = true) ∧ (r4 s).length ≤ s.length := ⟨byB_cut, cut_len⟩
  have hg : (byB s = true → byB (gM s).2.2.1 = true) ∧ (gM s).2.2.1.length ≤ s.length := by
    obtain ⟨j, hj⟩ := fin_rest (nQ (q4 s)).toNat 0 [] (r4 s) 0
    have hj : (gM s).2.2.1 = (r4 s).drop j := hj
    rw [hj]
    exact ⟨fun hb => byB_drop j (h4.1 hb), by rw [List.length_drop]; have := h4.2; omega⟩
  rw [h _ _ h4, h _ _ hg]
/-- What the reference tells: numbers anew wherever they are commanded. -/
def ocR (vl bs : List Int) (x : Oc) : Oc := bif isV bs then (match x with | .err => .err | _ => .vl (wV vl bs)) else x
theorem ocR_err (vl bs : List Int) : ocR vl bs .err = .err := by unfold ocR; cases isV bs <;> rfl
theorem ocR_no {vl bs : List Int} {x : Oc} (h : isV bs = false) : ocR vl bs x = x := by unfold ocR; rw [h]; rfl
theorem hB_eq {feats n : Int} (h : 0 ≤ feats) : hB feats n = hasB feats n := has_ref h
theorem nV_val {a b : Int} (ha : 0 ≤ a ∧ a < 256) (hb : 0 ≤ b ∧ b < 256) : nV [a, b] = b * 256 + a := by
  obtain ⟨j, rfl⟩ := byte_fin ha
  obtain ⟨i, rfl⟩ := byte_fin hb
  show bitsV IntKind.i64 BinOp.or (j.val : Int) (shlV IntKind.i64 (i.val : Int) 8) = _
  rw [all_bytes]
  omega
/-- The rest of what both do: one command behind the two bytes. -/
theorem cls_ctO (feats : Int) (m : Mac) (p q : Bool) (ol gl : List Mac) (vl : List Int) (c d : Int) (R : List Int) : ctO feats (m, p, q, ol, gl, vl) (c :: d :: R) =
    bif okF (m, p, q, ol, gl, vl) then bif !hasB feats 17 then Oc.err else bif decide (((c :: d :: R).length : Int) < 2) then Oc.err else
      bif c == 0 && (d == 0 && true) then (bif hasB feats 18 then bif decide ((R.length : Int) < 1) then Oc.err else bif decide ((1 : Int) < (R.take 1).getD 0 0) then Oc.err else bif decide ((0 : Int) < ((R.drop 1).length : Int)) then Oc.err else Oc.keep m ((R.take 1).getD 0 0 == 1) q else Oc.err)
      else bif c == 0 && (d == 1 && true) then (bif hasB feats 18 then bif decide ((R.length : Int) < 1) then Oc.err else bif decide ((1 : Int) < (R.take 1).getD 0 0) then Oc.err else bif decide ((0 : Int) < ((R.drop 1).length : Int)) then Oc.err else Oc.keep m p ((R.take 1).getD 0 0 == 1) else Oc.err)
      else bif c == 1 && (d == 0 && true) then (bif hasB feats 18 then tabQ R fun a s => tabQ s fun b r => bif decide ((0 : Int) < (r.length : Int)) then Oc.err else Oc.tab a b else Oc.err)
      else bif c == 1 && (d == 1 && true) then (bif hasB feats 23 then bif decide ((R.length : Int) < 6) then Oc.err else bif decide ((0 : Int) < ((R.drop 6).length : Int)) then Oc.err else Oc.keep (macAt (R.take 6)) p q else Oc.err)
      else bif c == 2 then (ctO feats (m, p, q, ol, gl, vl) (2 :: d :: R)) else Oc.err
    else Oc.err := by
  by_cases h2 : c = 2
  · subst h2
    show ctO _ _ _ = bif okF (m, p, q, ol, gl, vl) then bif !hasB feats 17 then Oc.err else bif decide (((2 :: d :: R).length : Int) < 2) then Oc.err else ctO feats (m, p, q, ol, gl, vl) (2 :: d :: R) else Oc.err
    unfold ctO
    simp only
    cases okF (m, p, q, ol, gl, vl) <;> cases !hasB feats 17 <;> cases decide (((2 :: d :: R).length : Int) < 2) <;> rfl
  · have e : (c == 2) = false := by simpa using h2
    rw [e]
    unfold ctO
    show (bif okF (m, p, q, ol, gl, vl) then bif !hasB feats 17 then Oc.err else bif decide (((c :: d :: R).length : Int) < 2) then Oc.err else bif c == 0 && (d == 0 && true) then _ else bif c == 0 && (d == 1 && true) then _ else bif c == 1 && (d == 0 && true) then _ else bif c == 1 && (d == 1 && true) then _ else bif c == 2 then _ else Oc.err else Oc.err) = _
    rw [e]
    rfl
end
end Go.Proofs.Ytgepgnjjhgmfnaa
namespace Go.Proofs.Ytgepgnjjhgmfnaa
open Go Go.Sx Go.RowKit
set_option maxRecDepth 1000000
set_option maxHeartbeats 8000000
set_option linter.unusedVariables false
set_option linter.unusedSimpArgs false
noncomputable section
theorem cls_rO (feats : Int) (m : Mac) (p q : Bool) (ol gl : List Mac) (vl : List Int) (c d : Int) (R : List Int) : rO feats (m, p, q, ol, gl, vl) (c :: d :: R) =
    bif okF (m, p, q, ol, gl, vl) then bif !hB feats 17 then Oc.err else bif decide (((c :: d :: R).length : Int) < 2) then Oc.err else
      bif c == 0 then (bif hB feats 18 then bif decide (d ≤ 1) then bif (R.length : Int) == 1 then bif decide (R.getD 0 0 ≤ 1) then bif d == 0 then Oc.keep m (R.getD 0 0 == 1) q else Oc.keep m p (R.getD 0 0 == 1) else Oc.err else Oc.err else Oc.err else Oc.err)
      else bif c == 1 then (bif d == 0 then (bif hB feats 18 then tabR R fun a s => tabR s fun b r => bif decide ((0 : Int) < (r.length : Int)) then Oc.err else Oc.tab a b else Oc.err) else bif d == 1 then (bif hB feats 23 then bif (R.length : Int) == 6 then Oc.keep (macAt R) p q else Oc.err else Oc.err) else Oc.err)
      else bif c == 2 then (bif hB feats 19 then bif decide (d ≤ 1) then bif (R.length : Int) == 2 then bif decide (R.getD 1 0 ≤ 15) then Oc.vl (finV (nW R) (opq24 (vf (nW R) (d == 0) vl vl.length))) else Oc.err else Oc.err else Oc.err else Oc.err) else Oc.err
    else Oc.err := rfl
theorem isV_ne {c d : Int} {R : List Int} (h : c ≠ 2) : isV (c :: d :: R) = false := by
  unfold isV
  split
  · rename_i e; cases e
    rw [show (c == 2) = false by simpa using h]; rfl
  · rfl
theorem ctO_v_err {feats : Int} {m : Mac} {p q : Bool} {ol gl : List Mac} {vl : List Int} {d : Int} {R : List Int} (h : hasB feats 19 = false ∨ 1 < d ∨ R.length ≠ 2 ∨ 15 < R.getD 1 0) (hb : byB (2 :: d :: R) = true) : ctO feats (m, p, q, ol, gl, vl) (2 :: d :: R) = Oc.err := by
  have e : ctO feats (m, p, q, ol, gl, vl) (2 :: d :: R) = bif okF (m, p, q, ol, gl, vl) then bif !hasB feats 17 then Oc.err else bif decide (((2 :: d :: R).length : Int) < 2) then Oc.err else
      bif decide (d ≤ 1) then bif hasB feats 19 then bif decide ((R.length : Int) < 2) then Oc.err else bif decide ((4095 : Int) < nV (R.take 2)) then Oc.err else bif decide ((0 : Int) < ((R.drop 2).length : Int)) then Oc.err else
        (bif d == 0 then (bif bsF vl (nV (R.take 2)) then Oc.keep m p q else Oc.vl (insL vl (bsZ vl (nV (R.take 2))).toNat [nV (R.take 2)])) else (bif bsF vl (nV (R.take 2)) then Oc.vl (delL vl (bsZ vl (nV (R.take 2))).toNat (bsZ vl (nV (R.take 2)) + 1).toNat) else Oc.keep m p q)) else Oc.err else Oc.err else Oc.err := rfl
  rw [e]
  cases okF (m, p, q, ol, gl, vl) with
  | false => rfl
  | true =>
    cases hasB feats 17 with
    | false => rfl
    | true =>
      show (bif decide (((2 :: d :: R).length : Int) < 2) then Oc.err else _) = _
      rw [decide_eq_false (show ¬ (((2 :: d :: R).length : Int) < 2) by simp only [List.length_cons]; omega), cond_false]
      by_cases hd : d ≤ 1
      · rw [decide_eq_true hd, cond_true]
        cases h19 : hasB feats 19 with
        | false => rfl
        | true =>
          rw [cond_true]
          match R, h, hb with
          | [], _, _ => rfl
          | [a], _, _ => rfl
          | [a, b], h, hb =>
            rcases h with h | h | h | h
            · rw [h19] at h; cases h
            · omega
            · exact absurd rfl h
            · have ha := byB_mem hb (x := a) (by simp)
              have hb' := byB_mem hb (x := b) (by simp)
              have h : 15 < b := h
              have e2 : nV (([a, b] : List Int).take 2) = b * 256 + a := nV_val ha hb'
              rw [decide_eq_false (show ¬ ((([a, b] : List Int).length : Int) < 2) by show ¬ ((2 : Nat) : Int) < 2; decide), cond_false, e2, decide_eq_true (show (4095 : Int) < b * 256 + a by omega)]
              rfl
          | a :: b :: x :: r, _, _ =>
            have e3 : decide ((0 : Int) < (((a :: b :: x :: r).drop 2).length : Int)) = true := decide_eq_true (by show (0 : Int) < ((r.length + 1 : Nat) : Int); omega)
            rw [e3, cond_true]
            cases decide (((a :: b :: x :: r).length : Int) < 2) <;> cases decide ((4095 : Int) < nV ((a :: b :: x :: r).take 2)) <;> rfl
      · rw [decide_eq_false hd]; rfl
theorem rO_eq {feats : Int} {F : Fp} {bs : List Int} (hf : 0 ≤ feats) (hb : byB bs = true) (hl : bs.length ≤ 100000) : rO feats F bs = ocR F.2.2.2.2.2 bs (ctO feats F bs) := by
  obtain ⟨m, p, q, ol, gl, vl⟩ := F
  match bs, hb, hl with
  | [], _, _ =>
    rw [ctO_nil]
    unfold rO
    show _ = Oc.err
    simp only
    cases okF (m, p, q, ol, gl, vl) <;> cases hB feats 17 <;> rfl
  | [x], _, _ =>
    have e : ctO feats (m, p, q, ol, gl, vl) [x] = Oc.err := by
      unfold ctO
      simp only
      cases okF (m, p, q, ol, gl, vl) <;> cases hasB feats 17 <;> rfl
    rw [e]
    unfold rO
    show _ = Oc.err
    simp only
    cases okF (m, p, q, ol, gl, vl) <;> cases hB feats 17 <;> rfl
  | c :: d :: R, hb, hl =>
    have hbR : byB R = true := by
      unfold byB at hb ⊢
      simp only [List.all_cons, Bool.and_eq_true] at hb
      exact hb.2.2
    have hc := byB_mem hb (x := c) (by simp)
    have hd := byB_mem hb (x := d) (by simp)
    have hlR : R.length ≤ 100000 := by simp only [List.length_cons] at hl; omega
    show rO feats (m, p, q, ol, gl, vl) (c :: d :: R) = ocR vl (c :: d :: R) _
    cases hok : okF (m, p, q, ol, gl, vl) with
    | false =>
      rw [cls_rO, cls_ctO, hok]
      exact (ocR_err _ _).symm
    | true =>
      cases h17 : hasB feats 17 with
      | false =>
        rw [cls_rO, cls_ctO, hok, hB_eq hf, h17]
        exact (ocR_err _ _).symm
      | true =>
        have k2 : decide (((c :: d :: R).length : Int) < 2) = false := decide_eq_false (by simp only [List.length_cons]; omega)
        by_cases c2 : c = 2
        · subst c2
          rw [cls_rO, hok, hB_eq hf, h17, k2]
          show (bif hB feats 19 then _ else Oc.err) = _
          rw [hB_eq hf]
          cases h19 : hasB feats 19 with
          | false =>
            rw [ctO_v_err (.inl h19) hb, ocR_err]; rfl
          | true =>
            rw [cond_true]
            by_cases d1 : d ≤ 1
            · rw [decide_eq_true d1, cond_true]
              by_cases hR : R.length = 2
              · rw [show ((R.length : Int) == 2) = true by rw [hR]; rfl, cond_true]
                by_cases h15 : R.getD 1 0 ≤ 15
                · rw [decide_eq_true h15, cond_true]
                  match R, hR, h15, hb with
                  | [a, b], _, h15, hb =>
                    have h15 : b ≤ 15 := h15
                    have ha := byB_mem hb (x := a) (by simp)
                    have hb' := byB_mem hb (x := b) (by simp)
                    have ev := nV_val ha hb'
                    have hn0 : 0 ≤ nV [a, b] := by omega
                    have hn1 : nV [a, b] < 4096 := by omega
                    have hd01 : d = 0 ∨ d = 1 := by omega
                    have hiv : isV [2, d, a, b] = true := by
                      show ((2 : Int) == 2 && ((d == 0 || d == 1) && !decide ((4095 : Int) < nV [a, b]))) = true
                      rw [decide_eq_false (by omega)]
                      rcases hd01 with rfl | rfl <;> rfl
                    have hs : srtV vl := (okF_iff.1 hok).2.2
                    have ew : finV (nW [a, b]) (opq24 (vf (nW [a, b]) (d == 0) vl vl.length)) = wV vl [2, d, a, b] := by
                      rw [opq24_eq]
                      show finV (nV [a, b]) (vf (nV [a, b]) (d == 0) vl vl.length) = sel (d == 0) (addV vl (nV [a, b])) (remV vl (nV [a, b]))
                      rcases hd01 with rfl | rfl
                      · exact vf_put hs.1
                      · show finV (nV [a, b]) (vf (nV [a, b]) false vl vl.length) = _
                        rw [vf_cut hs.1]; rfl
                    rw [ew]
                    unfold ocR
                    rw [hiv, cond_true]
                    rcases ctO_w hok h17 h19 hiv with ⟨h8, h9⟩ | h8 <;> rw [h8]
                · rw [ctO_v_err (.inr (.inr (.inr (by omega)))) hb, ocR_err, decide_eq_false h15]; rfl
              · rw [ctO_v_err (.inr (.inr (.inl hR))) hb, ocR_err, show ((R.length : Int) == 2) = false by simp; omega]; rfl
            · rw [ctO_v_err (.inr (.inl (by omega))) hb, ocR_err, decide_eq_false d1]; rfl
        · rw [ocR_no (isV_ne c2), cls_rO, cls_ctO, hok, hB_eq hf, h17, k2, hB_eq hf, hB_eq hf]
          have ec2 : (c == 2) = false := by simpa using c2
          by_cases c0 : c = 0
          · subst c0
            show (bif hasB feats 18 then _ else Oc.err) = _
            by_cases d0 : d = 0
            · subst d0
              cases hasB feats 18 with
              | false => rfl
              | true =>
                match R with
                | [] => rfl
                | [x] =>
                  show (bif decide (x ≤ 1) then Oc.keep m (x == 1) q else Oc.err) = bif decide ((1 : Int) < x) then Oc.err else Oc.keep m (x == 1) q
                  by_cases hx : x ≤ 1
                  · rw [decide_eq_true hx, decide_eq_false (by omega)]; rfl
                  · rw [decide_eq_false hx, decide_eq_true (by omega)]; rfl
                | x :: y :: r =>
                  show (bif (((r.length + 1 + 1 : Nat) : Int) == 1) then (bif decide (x ≤ 1) then Oc.keep m (x == 1) q else Oc.err) else Oc.err) = bif decide (((r.length + 1 + 1 : Nat) : Int) < 1) then Oc.err else bif decide ((1 : Int) < x) then Oc.err else bif decide ((0 : Int) < ((r.length + 1 : Nat) : Int)) then Oc.err else Oc.keep m (x == 1) q
                  rw [show (((r.length + 1 + 1 : Nat) : Int) == 1) = false by simp; omega, decide_eq_true (show (0 : Int) < ((r.length + 1 : Nat) : Int) by omega)]
                  cases decide (((r.length + 1 + 1 : Nat) : Int) < 1) <;> cases decide ((1 : Int) < x) <;> rfl
            · have e0 : (d == 0) = false := by simpa using d0
              by_cases d1 : d = 1
              · subst d1
                cases hasB feats 18 with
                | false => rfl
                | true =>
                  match R with
                  | [] => rfl
                  | [x] =>
                    show (bif decide (x ≤ 1) then Oc.keep m p (x == 1) else Oc.err) = bif decide ((1 : Int) < x) then Oc.err else Oc.keep m p (x == 1)
                    by_cases hx : x ≤ 1
                    · rw [decide_eq_true hx, decide_eq_false (by omega)]; rfl
                    · rw [decide_eq_false hx, decide_eq_true (by omega)]; rfl
                  | x :: y :: r =>
                    show (bif (((r.length + 1 + 1 : Nat) : Int) == 1) then (bif decide (x ≤ 1) then Oc.keep m p (x == 1) else Oc.err) else Oc.err) = bif decide (((r.length + 1 + 1 : Nat) : Int) < 1) then Oc.err else bif decide ((1 : Int) < x) then Oc.err else bif decide ((0 : Int) < ((r.length + 1 : Nat) : Int)) then Oc.err else Oc.keep m p (x == 1)
                    rw [show (((r.length + 1 + 1 : Nat) : Int) == 1) = false by simp; omega, decide_eq_true (show (0 : Int) < ((r.length + 1 : Nat) : Int) by omega)]
                    cases decide (((r.length + 1 + 1 : Nat) : Int) < 1) <;> cases decide ((1 : Int) < x) <;> rfl
              · have e1 : (d == 1) = false := by simpa using d1
                rw [e0, e1, decide_eq_false (show ¬ d ≤ 1 by omega)]
                cases hasB feats 18 <;> rfl
          · have ec0 : (c == 0) = false := by simpa using c0
            by_cases c1 : c = 1
            · subst c1
              by_cases d0 : d = 0
              · subst d0
                show (bif hasB feats 18 then tabR R _ else Oc.err) = bif hasB feats 18 then tabQ R _ else Oc.err
                rw [tab_eq hbR hlR]
                cases hasB feats 18 with
                | false => rfl
                | true =>
                  rw [cond_true, cond_true]
                  refine tabQ_congr fun a s hs => ?_
                  exact tab_eq (hs.1 hbR) (Nat.le_trans hs.2 hlR) _
              · have e0 : (d == 0) = false := by simpa using d0
                by_cases d1 : d = 1
                · subst d1
                  show (bif hasB feats 23 then bif (R.length : Int) == 6 then Oc.keep (macAt R) p q else Oc.err else Oc.err) = bif hasB feats 23 then bif decide ((R.length : Int) < 6) then Oc.err else bif decide ((0 : Int) < ((R.drop 6).length : Int)) then Oc.err else Oc.keep (macAt (R.take 6)) p q else Oc.err
                  cases hasB feats 23 with
                  | false => rfl
                  | true =>
                    rw [cond_true, cond_true, List.length_drop]
                    by_cases h6 : R.length = 6
                    · rw [List.take_of_length_le (by omega), h6]; rfl
                    · rw [show ((R.length : Int) == 6) = false by simp; omega, cond_false]
                      by_cases h7 : (R.length : Int) < 6
                      · rw [decide_eq_true h7]; rfl
                      · rw [decide_eq_false h7, decide_eq_true (by omega)]; rfl
                · have e1 : (d == 1) = false := by simpa using d1
                  rw [e0, e1]
                  rfl
            · have ec1 : (c == 1) = false := by simpa using c1
              rw [ec0, ec1, ec2]
              rfl
end
end Go.Proofs.Ytgepgnjjhgmfnaa
namespace Go.Proofs.Ytgepgnjjhgmfnaa
open Go Go.Sx Go.RowKit
set_option maxRecDepth 1000000
set_option maxHeartbeats 8000000
set_option linter.unusedVariables false
set_option linter.unusedSimpArgs false
noncomputable section
def ocE : Oc → Int
  | .err => 1
  | _ => 0
def ocW (F : Fp) : Oc → List Int
  | .vl l => l
  | _ => F.2.2.2.2.2
end
end Go.Proofs.Ytgepgnjjhgmfnaa
namespace Go.Proofs.Ytgepgnjjhgmfnaa
open Go Go.Sx Go.RowKit
set_option maxRecDepth 1000000
set_option maxHeartbeats 8000000
set_option linter.unusedVariables false
set_option linter.unusedSimpArgs false
noncomputable section
/-- Ctrl on a filter whose lists are its own: addresses that are commanded, or one answer for all the rest. -/
def ctW (o g : Lo Mac) (N : Nat) (F : Fp) (v : Lo Int) (x : Oc) : Tr (SV × List (SO C24)) :=
  .br (Nat.beq (ocK x) 3) (.br (ocX x) (.br (ocY x) (.leaf (.tup [clnS (F.1, F.2.1, F.2.2.1, none, none, v) N, .raw (.int .u8 0)], clnO (F.1, F.2.1, F.2.2.1, none, none, v)))
      (.leaf (.tup [clnS (F.1, F.2.1, F.2.2.1, none, some (true, false, ocG x), v) N, .raw (.int .u8 0)], clnO (F.1, F.2.1, F.2.2.1, none, some (true, false, ocG x), v))))
    (.br (ocY x) (.leaf (.tup [clnS (F.1, F.2.1, F.2.2.1, some (true, false, ocO x), none, v) N, .raw (.int .u8 0)], clnO (F.1, F.2.1, F.2.2.1, some (true, false, ocO x), none, v)))
      (.leaf (.tup [clnS (F.1, F.2.1, F.2.2.1, some (true, false, ocO x), some (true, false, ocG x), v) N, .raw (.int .u8 0)], clnO (F.1, F.2.1, F.2.2.1, some (true, false, ocO x), some (true, false, ocG x), v)))))
  (.leaf (.tup [clnS (ocM F x, ocP F x, ocQ F x, o, g, some (true, false, ocW F x)) N, .raw (.int .u8 (ocE x))], cpM o ++ (cpM g ++ [.sl true false 3 (ocW F x)])))
def ctrlW : FnF C24 := fun args os => match args with
  | [.raw (.int .u64 feats), .agg cs, s] => match decF cs 0 os with
    | some (((x0, x1, x2, x3, x4, x5), p, q, o, g, some (a, b, vl)), os1) => match decB s (fltN ((x0, x1, x2, x3, x4, x5), p, q, o, g, some (a, b, vl)) 0) os1 with
      | some (some (false, f, bs), []) => withL o fun ol => withL g fun gl => .br (smX ol gl vl) (.br (byB bs) (ctW o g (fltN ((x0, x1, x2, x3, x4, x5), p, q, o, g, some (a, b, vl)) 0 + 1) ((x0, x1, x2, x3, x4, x5), p, q, ol, gl, vl) (some (a, b, vl)) (ctO feats ((x0, x1, x2, x3, x4, x5), p, q, ol, gl, vl) bs)) .fail) .fail
      | _ => .fail
    | _ => .fail
  | _ => .fail
theorem ctrlW_ok : ∀ args os r, (ctrlW args os).get = some r → Fn0 Try.prog 12 args os r := fun args os r h => by
  refine ctrlT_ok args os r ?_
  unfold ctrlW at h
  unfold ctrlT
  split at h
  · rename_i feats cs s
    split at h
    · rename_i x0 x1 x2 x3 x4 x5 p q o g a b vl os1 hF
      split at h
      · rename_i f bs hB
        simp only [hF, hB]
        simp only [withL_eq] at h ⊢
        obtain ⟨hs, h2⟩ := Tr.get_ask.1 h
        obtain ⟨hb, h3⟩ := Tr.get_ask.1 h2
        clear h h2
        refine Tr.get_ask.2 ⟨hs, Tr.get_ask.2 ⟨hb, ?_⟩⟩
        show (ctT _ p q o g (some (a, b, vl)) _ ((x0, x1, x2, x3, x4, x5), p, q, lo o, lo g, vl) (ctO feats ((x0, x1, x2, x3, x4, x5), p, q, lo o, lo g, vl) bs)).get = some r
        generalize ctO feats ((x0, x1, x2, x3, x4, x5), p, q, lo o, lo g, vl) bs = x at h3 ⊢
        cases x with
        | err => exact h3
        | keep m p' q' => exact h3
        | vl l => exact h3
        | tab a b => cases a <;> cases b <;> exact h3
      · cases h
    · cases h
  · cases h
/-- The reference's Ctrl: the ways of Ctrl, and numbers told anew. -/
def nmB (bs : List Int) (x : Oc) : Bool := isV bs && !(Nat.beq (ocK x) 0)
def rcW (F : Fv) (N : Nat) (vl bs : List Int) (P : Fp) (x : Oc) : Tr (SV × List (SO C24)) :=
  .br (Nat.beq (ocK x) 3) (.br (ocX x) (.br (ocY x) (.leaf (rcT F N none none)) (.leaf (rcT F N none (some (ocG x))))) (.br (ocY x) (.leaf (rcT F N (some (ocO x)) none)) (.leaf (rcT F N (some (ocO x)) (some (ocG x))))))
  (.br (nmB bs x) (.br (Nat.beq (wV vl bs).length 0) (.leaf (rcN F)) (.leaf (rcV F N (wV vl bs))))
    (.leaf (.tup [.agg (fltC (ocM P x, ocP P x, ocQ P x, F.2.2.2.1, F.2.2.2.2.1, F.2.2.2.2.2) 0), .raw (.int .u8 (ocE x))], [])))
theorem rcW_get {F : Fv} {N : Nat} {vl bs : List Int} {P : Fp} {x : Oc} (hP : P.1 = F.1 ∧ P.2.1 = F.2.1 ∧ P.2.2.1 = F.2.2.1) (hv : isV bs = true → Nat.beq (ocK x) 3 = false) (hn : isV bs = false → Nat.beq (ocK x) 2 = false) {r : SV × List (SO C24)} (h : (rcW F N vl bs P x).get = some r) : r = rcG F N (ocR vl bs x) := by
  obtain ⟨m, p, q, o, g, v⟩ := F
  obtain ⟨m', p', q', ol, gl, vl'⟩ := P
  obtain ⟨rfl, rfl, rfl⟩ := hP
  unfold rcW nmB at h
  unfold ocR
  cases hb : isV bs with
  | true =>
    rw [hb] at h
    cases x with
    | err => exact (Option.some.inj h).symm
    | keep a b c =>
      have h : (Tr.br (Nat.beq (wV vl bs).length 0) (Tr.leaf (rcN _)) (Tr.leaf (rcV _ N (wV vl bs)))).get = some r := h
      show r = rcG _ N (.vl (wV vl bs))
      generalize wV vl bs = l at h
      cases l with
      | nil => exact (Option.some.inj h).symm
      | cons x l => exact (Option.some.inj h).symm
    | vl l' =>
      have h : (Tr.br (Nat.beq (wV vl bs).length 0) (Tr.leaf (rcN _)) (Tr.leaf (rcV _ N (wV vl bs)))).get = some r := h
      show r = rcG _ N (.vl (wV vl bs))
      generalize wV vl bs = l at h
      cases l with
      | nil => exact (Option.some.inj h).symm
      | cons x l => exact (Option.some.inj h).symm
    | tab a b => exact Bool.noConfusion (show true = false from hv hb)
  | false =>
    rw [hb] at h
    cases x with
    | err => exact (Option.some.inj h).symm
    | keep a b c => exact (Option.some.inj h).symm
    | vl l => exact Bool.noConfusion (show true = false from hn hb)
    | tab a b => cases a <;> cases b <;> exact (Option.some.inj h).symm
/-- Only what commands a number tells numbers; what commands a number tells no addresses. -/
theorem ctO_isV {feats : Int} {F : Fp} {bs : List Int} (hb : byB bs = true) : (isV bs = true → Nat.beq (ocK (ctO feats F bs)) 3 = false) ∧ (isV bs = false → Nat.beq (ocK (ctO feats F bs)) 2 = false) := by
  obtain ⟨m, p, q, ol, gl, vl⟩ := F
  constructor
  · intro hv
    obtain ⟨d, a, b, rfl, hd, hn⟩ := isV_eq hv
    rcases hd with rfl | rfl
    · rw [ctO_v0]
      cases okF (m, p, q, ol, gl, vl) <;> cases hasB feats 17 <;> cases hasB feats 19 <;> cases decide ((4095 : Int) < nV [a, b]) <;> cases bsF vl (nV [a, b]) <;> rfl
    · rw [ctO_v1]
      cases okF (m, p, q, ol, gl, vl) <;> cases hasB feats 17 <;> cases hasB feats 19 <;> cases decide ((4095 : Int) < nV [a, b]) <;> cases bsF vl (nV [a, b]) <;> rfl
  · intro hv
    match bs, hb, hv with
    | [], _, _ => rw [ctO_nil]; rfl
    | [x], _, _ =>
      have e : ctO feats (m, p, q, ol, gl, vl) [x] = Oc.err := by
        unfold ctO
        simp only
        cases okF (m, p, q, ol, gl, vl) <;> cases hasB feats 17 <;> rfl
      rw [e]; rfl
    | c :: d :: R, hb, hv =>
      have ht : ∀ (s : List Int) (k : Option (List Mac) → List Int → Oc), (∀ a r, Nat.beq (ocK (k a r)) 2 = false) → Nat.beq (ocK (tabQ s k)) 2 = false := fun s k hk => by
        unfold tabQ
        cases decide ((s.length : Int) < 4) with
        | true => rfl
        | false =>
          cases decide ((32 : Int) < nQ (q4 s)) with
          | true => rfl
          | false =>
            cases (phG (gM s)).beq 0 with
            | true => exact hk _ _
            | false =>
              cases (phG (gM s)).beq 1 with
              | true => rfl
              | false =>
                cases (gM s).2.2.2.1 with
                | true => rfl
                | false => exact hk _ _
      have ht2 : Nat.beq (ocK (tabQ R fun a s => tabQ s fun b r => bif decide ((0 : Int) < (r.length : Int)) then Oc.err else Oc.tab a b)) 2 = false := ht _ _ fun a s => ht _ _ fun b r => by cases decide ((0 : Int) < (r.length : Int)) <;> rfl
      by_cases c2 : c = 2
      · subst c2
        have hc : hasB feats 19 = false ∨ 1 < d ∨ R.length ≠ 2 ∨ 15 < R.getD 1 0 := by
          by_cases hd : 1 < d
          · exact .inr (.inl hd)
          · by_cases hR : R.length = 2
            · match R, hR, hb, hv with
              | [a, b], _, hb, hv =>
                refine .inr (.inr (.inr ?_))
                have hd' := byB_mem hb (x := d) (by simp)
                have ha := byB_mem hb (x := a) (by simp)
                have hb' := byB_mem hb (x := b) (by simp)
                show 15 < b
                by_cases h15 : 15 < b
                · exact h15
                · exfalso
                  have ev := nV_val ha hb'
                  have hv : ((2 : Int) == 2 && ((d == 0 || d == 1) && !decide ((4095 : Int) < nV [a, b]))) = false := hv
                  rw [decide_eq_false (by omega)] at hv
                  have hd01 : d = 0 ∨ d = 1 := by omega
                  rcases hd01 with rfl | rfl <;> cases hv
            · exact .inr (.inr (.inl hR))
        rw [ctO_v_err hc hb]; rfl
      · have ec2 : (c == 2) = false := by simpa using c2
        rw [cls_ctO, ec2]
        cases okF (m, p, q, ol, gl, vl) with
        | false => rfl
        | true =>
          cases hasB feats 17 with
          | false => rfl
          | true =>
            cases decide (((c :: d :: R).length : Int) < 2) with
            | true => rfl
            | false =>
              cases (c == 0 && (d == 0 && true)) with
              | true =>
                cases hasB feats 18 <;> cases decide ((R.length : Int) < 1) <;> cases decide ((1 : Int) < (R.take 1).getD 0 0) <;> cases decide ((0 : Int) < ((R.drop 1).length : Int)) <;> rfl
              | false =>
                cases (c == 0 && (d == 1 && true)) with
                | true =>
                  cases hasB feats 18 <;> cases decide ((R.length : Int) < 1) <;> cases decide ((1 : Int) < (R.take 1).getD 0 0) <;> cases decide ((0 : Int) < ((R.drop 1).length : Int)) <;> rfl
                | false =>
                  cases (c == 1 && (d == 0 && true)) with
                  | true =>
                    cases hasB feats 18 with
                    | true => exact ht2
                    | false => rfl
                  | false =>
                    cases (c == 1 && (d == 1 && true)) with
                    | true => cases hasB feats 23 <;> cases decide ((R.length : Int) < 6) <;> cases decide ((0 : Int) < ((R.drop 6).length : Int)) <;> rfl
                    | false => rfl
end
end Go.Proofs.Ytgepgnjjhgmfnaa
namespace Go.Proofs.Ytgepgnjjhgmfnaa
open Go Go.Sx Go.RowKit
set_option maxRecDepth 1000000
set_option maxHeartbeats 8000000
set_option linter.unusedVariables false
set_option linter.unusedSimpArgs false
noncomputable section
theorem rc_n1 (feats : Int) (m : Mac) (p q : Bool) (o g : Lo Mac) (v : Lo Int) : Tr.follow [Tt,Ff,Tt,Tt,Tt,Tt,Tt,Tt,Tt,Tt,Tt] (f24Rc feats (m, p, q, o, g, v) none) =
  some ([smF (m, p, q, (lo o), (lo g), (lo v)),okF (m, p, q, (lo o), (lo g), (lo v)),Tt,Tt,Tt,Tt,Tt,Tt,Tt,Tt,Tt],
  rcE (m, p, q, o, g, v)) := by cases o <;> cases g <;> cases v <;> kernel_rfl
theorem rc_n2 (feats : Int) (m : Mac) (p q : Bool) (o g : Lo Mac) (v : Lo Int) : Tr.follow [Tt,Tt,Ff,Ff,Tt,Tt,Tt,Tt,Tt,Tt,Ff,Tt,Ff,Tt,Ff,Tt,Tt,Tt,Tt,Tt] (f24Rc feats (m, p, q, o, g, v) none) =
  some ([smF (m, p, q, (lo o), (lo g), (lo v)),okF (m, p, q, (lo o), (lo g), (lo v)),Ff,Ff,Tt,Tt,Tt,Tt,Tt,Tt,Ff,Tt,Ff,Tt,Ff,!hB feats 17,Tt,Tt,Tt,Tt],
  rcE (m, p, q, o, g, v)) := by cases o <;> cases g <;> cases v <;> kernel_rfl
theorem rc_n3 (feats : Int) (m : Mac) (p q : Bool) (o g : Lo Mac) (v : Lo Int) : Tr.follow [Tt,Tt,Ff,Ff,Tt,Tt,Tt,Tt,Tt,Tt,Ff,Tt,Ff,Tt,Ff,Ff,Ff,Ff,Tt] (f24Rc feats (m, p, q, o, g, v) none) =
  some ([smF (m, p, q, (lo o), (lo g), (lo v)),okF (m, p, q, (lo o), (lo g), (lo v)),Ff,Ff,Tt,Tt,Tt,Tt,Tt,Tt,Ff,Tt,Ff,Tt,Ff,!hB feats 17,Ff,Ff,Tt],
  rcE (m, p, q, o, g, v)) := by cases o <;> cases g <;> cases v <;> kernel_rfl
theorem rc_get0 (feats : Int) (m : Mac) (p q : Bool) (o g : Lo Mac) (v : Lo Int) (hsm : smF (m, p, q, (lo o), (lo g), (lo v)) = true) : (f24Rc feats (m, p, q, o, g, v) none).get = some (rcE (m, p, q, o, g, v)) := by
  cases h1 : okF (m, p, q, (lo o), (lo g), (lo v)) with
  | false => exact Tr.follow_get (rc_n1 feats m p q o g v) (by simp only [hsm, h1])
  | true =>
    cases h2 : (!hB feats 17) with
    | true => exact Tr.follow_get (rc_n2 feats m p q o g v) (by simp only [hsm, h1, h2])
    | false => exact Tr.follow_get (rc_n3 feats m p q o g v) (by simp only [hsm, h1, h2])
def rcGd (feats : Int) (bs vl : List Int) : Bool := decide (0 ≤ feats ∧ bs.length ≤ 100000 ∧ vl.length ≤ 40000)
def rctrlT : FnF C24 := fun args os => match args with
  | [.raw (.int .u64 feats), .agg cs, s] => match decF cs 0 os with
    | some (((x0, x1, x2, x3, x4, x5), p, q, o, g, v), os1) => match decB s (fltN ((x0, x1, x2, x3, x4, x5), p, q, o, g, v) 0) os1 with
      | some (none, []) => withL o fun ol => withL g fun gl => withL v fun vl => .br (smX ol gl vl) (.br (byB []) (.br (rcGd feats [] vl) (rcW ((x0, x1, x2, x3, x4, x5), p, q, o, g, v) (fltN ((x0, x1, x2, x3, x4, x5), p, q, o, g, v) 0) vl [] ((x0, x1, x2, x3, x4, x5), p, q, ol, gl, vl) (ctO feats ((x0, x1, x2, x3, x4, x5), p, q, ol, gl, vl) [])) .fail) .fail) .fail
      | some (some (false, f, bs), []) => withL o fun ol => withL g fun gl => withL v fun vl => .br (smX ol gl vl) (.br (byB bs) (.br (rcGd feats bs vl) (rcW ((x0, x1, x2, x3, x4, x5), p, q, o, g, v) (fltN ((x0, x1, x2, x3, x4, x5), p, q, o, g, v) 0 + 1) vl bs ((x0, x1, x2, x3, x4, x5), p, q, ol, gl, vl) (ctO feats ((x0, x1, x2, x3, x4, x5), p, q, ol, gl, vl) bs)) .fail) .fail) .fail
      | _ => .fail
    | _ => .fail
  | _ => .fail
theorem rctrlT_ok : ∀ args os r, (rctrlT args os).get = some r → Fn0 Try.prog 34 args os r := fun args os r h => by
  unfold rctrlT at h
  split at h
  · rename_i feats cs s
    split at h
    · rename_i x0 x1 x2 x3 x4 x5 p q o g v os1 hF
      obtain ⟨rfl, rfl⟩ := decF_eq hF
      split at h
      · rename_i hB
        obtain ⟨rfl, rfl⟩ := decB_eq hB
        simp only [withL_eq] at h
        obtain ⟨hs, h2⟩ := Tr.get_ask.1 h
        obtain ⟨hb, h3⟩ := Tr.get_ask.1 h2
        obtain ⟨hg, h4⟩ := Tr.get_ask.1 h3
        clear h h2 h3 hF hB
        rw [ctO_nil] at h4
        refine fnC_ok (sp := sfRp) (ls := lsRc) (unr := unRc) (d := 10) plain mixed sfRp_ok lsRc_ok ?_
        rw [List.append_nil]
        exact Eq.trans (rc_get0 feats (x0, x1, x2, x3, x4, x5) p q o g v hs) h4
      · rename_i f bs hB
        obtain ⟨rfl, rfl⟩ := decB_eq hB
        simp only [withL_eq] at h
        obtain ⟨hs, h2⟩ := Tr.get_ask.1 h
        obtain ⟨hb, h3⟩ := Tr.get_ask.1 h2
        obtain ⟨hg, h4⟩ := Tr.get_ask.1 h3
        clear h h2 h3 hF hB
        have hg : 0 ≤ feats ∧ bs.length ≤ 100000 ∧ (lo v).length ≤ 40000 := of_decide_eq_true hg
        have hi := ctO_isV (feats := feats) (F := ((x0, x1, x2, x3, x4, x5), p, q, lo o, lo g, lo v)) hb
        have hr := rcW_get ⟨rfl, rfl, rfl⟩ hi.1 hi.2 h4
        subst hr
        refine fnC_ok (sp := sfRp) (ls := lsRc) (unr := unRc) (d := 10) plain mixed sfRp_ok lsRc_ok ?_
        rw [List.append_nil]
        refine Eq.trans (rc_get feats (x0, x1, x2, x3, x4, x5) p q o g v f bs hs hg.2.2 hb hg.2.1) ?_
        rw [rO_eq hg.1 hb hg.2.1]
      · cases h
    · cases h
  · cases h
end
end Go.Proofs.Ytgepgnjjhgmfnaa
namespace Go.Proofs.Ytgepgnjjhgmfnaa
open Go Go.Sx Go.RowKit
set_option maxRecDepth 1000000
set_option maxHeartbeats 8000000
set_option linter.unusedVariables false
set_option linter.unusedSimpArgs false
noncomputable section
abbrev mkS (g l : Lo Mac) (bs : List Int) (n K : Int) : List SV × List (SO C24) := ([hS l 0, .raw (.int .i64 n), .raw (.int .i64 K), .h (nx l 0)], obM l ++ [.sl true false 5 bs])
abbrev mkN (g l : Lo Mac) : Nat := nx l 0
abbrev mkR (g l : Lo Mac) (bs : List Int) (n K : Int) := roundG C24 Try.prog noSp noLs (fun _ _ => 20) 10 53 0 [1, 5, 6, 0] ⟨(mkS g l bs n K).1, mkN g l, (mkS g l bs n K).2⟩
abbrev mpS (g l : Lo Mac) (bs : List Int) (n K : Int) : List SV × List (SO C24) := ([.agg [hS l 0, hS g (nx l 0)], .raw (.int .i64 0), hS l 0, .raw (.int .i64 n), .raw (.int .i64 K), .h (nx g (nx l 0))], obM l ++ (obM g ++ [.sl true false 5 bs]))
abbrev mpN (g l : Lo Mac) : Nat := nx g (nx l 0)
abbrev mpR (g l : Lo Mac) (bs : List Int) (n K : Int) := roundG C24 Try.prog noSp noLs (fun _ _ => 20) 10 20 2 [14, 15, 34, 35, 36, 5] ⟨(mpS g l bs n K).1, mpN g l, (mpS g l bs n K).2⟩
abbrev mqS (g l : Lo Mac) (bs : List Int) (n K : Int) : List SV × List (SO C24) := ([.agg [hS g 0, hS l (nx g 0)], .raw (.int .i64 1), hS l (nx g 0), .raw (.int .i64 n), .raw (.int .i64 K), .h (nx l (nx g 0))], obM g ++ (obM l ++ [.sl true false 5 bs]))
abbrev mqN (g l : Lo Mac) : Nat := nx l (nx g 0)
abbrev mqR (g l : Lo Mac) (bs : List Int) (n K : Int) := roundG C24 Try.prog noSp noLs (fun _ _ => 20) 10 20 2 [14, 15, 34, 35, 36, 5] ⟨(mqS g l bs n K).1, mqN g l, (mqS g l bs n K).2⟩
/-- Does a value stand for a list? -/
def isS {α : Type} (o : Lo α) (k : Nat) : SV → Bool
  | .h j => (match o with | none => false | some _ => Nat.beq j k)
  | .raw (.slice none 0 0) => (match o with | none => true | some _ => false)
  | _ => false
theorem isS_eq {α : Type} {o : Lo α} {k : Nat} {s : SV} (h : isS o k s = true) : s = hS o k := by
  unfold isS at h
  split at h
  · cases o with
    | none => cases h
    | some x => rw [Nat.eq_of_beq_eq_true h]
  · cases o with
    | none => rfl
    | some x => cases h
  · cases h
end
end Go.Proofs.Ytgepgnjjhgmfnaa
namespace Go.Proofs.Ytgepgnjjhgmfnaa
open Go Go.Sx Go.RowKit
set_option maxRecDepth 1000000
set_option maxHeartbeats 8000000
set_option linter.unusedVariables false
set_option linter.unusedSimpArgs false
noncomputable section
/-- An address's bytes; all of them. -/
abbrev mcB (m : Mac) : List Int := [m.1, m.2.1, m.2.2.1, m.2.2.2.1, m.2.2.2.2.1, m.2.2.2.2.2]
def mcsB : List Mac → List Int
  | [] => []
  | m :: r => mcB m ++ mcsB r
abbrev mkA (bs : List Int) (ms : List Mac) : List Int := bs ++ mcsB ms
theorem mcsB_app (l r : List Mac) : mcsB (l ++ r) = mcsB l ++ mcsB r := by
  induction l with
  | nil => rfl
  | cons x l ih => show mcB x ++ mcsB (l ++ r) = mcB x ++ mcsB l ++ mcsB r; rw [ih, List.append_assoc]
theorem mcsB_len (l : List Mac) : (mcsB l).length = 6 * l.length := by
  induction l with
  | nil => rfl
  | cons x l ih => show (mcB x ++ mcsB l).length = _; simp only [List.length_append, ih, List.length_cons, List.length_nil]; omega
theorem mcsB_take {ms : List Mac} {j : Nat} (h : j < ms.length) : mcsB (ms.take (j + 1)) = mcsB (ms.take j) ++ mcB (ms.getD j mac0) := by
  rw [List.take_add_one, List.getElem?_eq_getElem h, mcsB_app, List.getD_eq_getElem?_getD, List.getElem?_eq_getElem h]
  show mcsB _ ++ (mcB _ ++ []) = _
  rw [List.append_nil]; rfl
theorem by5 : Try.prog.types[(5 : Nat)].bytes ≤ 64 := of_decide_eq_true (by kernel_rfl)
theorem room5 {n : Nat} (h : n ≤ 100000) : roomB n Try.prog.types[(5 : Nat)].bytes = true := decide_eq_true (Nat.le_trans (Nat.mul_le_mul h by5) (by decide))
theorem mk_tree (g : Lo Mac) (b : Bool) (ms : List Mac) (bs : List Int) (n K : Int) : (mkR g (some (false, b, ms)) bs n K).get =
  bro (decide (K < n)) (bro (inB K ms.length) (bro (decide (K.toNat < ms.length)) (bro (roomB (bs.length + (mcB (ms.getD K.toNat mac0)).length) Try.prog.types[(5 : Nat)].bytes) (bro (inR64 (K + (1 : Int))) (some (.normal, mkS g (some (false, b, ms)) (bs ++ mcB (ms.getD K.toNat mac0)) n (K + 1))) (some (.normal, mkS g (some (false, b, ms)) (bs ++ mcB (ms.getD K.toNat mac0)) n (IntKind.i64.wrap (K + 1))))) none) none) none) (some (.exit 0, mkS g (some (false, b, ms)) bs n K)) := by cases g <;> kernel_rfl
theorem mk_tree0 (g : Lo Mac) (bs : List Int) (n K : Int) : (mkR g none bs n K).get = bro (decide (K < n)) none (some (.exit 0, mkS g none bs n K)) := by cases g <;> kernel_rfl
@[reducible] def mkT (g l : Lo Mac) (bs : List Int) (j : Nat) : List SV × List (SO C24) := mkS g l (bs ++ mcsB ((lo l).take j)) ((lo l).length : Int) (j : Int)
theorem mk_nil (g : Lo Mac) (bs : List Int) (n K : Int) (h : K = n) : (mkR g none bs n K).get = some (.exit 0, mkS g none bs n K) := by
  subst h
  exact (mk_tree0 g bs K K).trans (by rw [decide_eq_false (Int.lt_irrefl K)]; rfl)
theorem mk_round {g : Lo Mac} {f : Bool} {ms : List Mac} {bs : List Int} {j : Nat} (h5 : j < ms.length) (h : ms.length ≤ 1000) (hb : bs.length ≤ 50000) : (mkR g (some (false, f, ms)) (bs ++ mcsB (ms.take j)) (ms.length : Int) (j : Int)).get = some (.normal, mkT g (some (false, f, ms)) bs (j + 1)) := by
  have k1 := decide_eq_true (show (j : Int) < (ms.length : Int) by omega)
  have k2 : Sx.inB (j : Int) ms.length = true := inB_mk ⟨by omega, by omega⟩
  have k3 := decide_eq_true (show ((j : Nat) : Int).toNat < ms.length by omega)
  have k4 : inR64 ((j : Int) + 1) = true := inR64_mk (by omega)
  have hlen : (bs ++ mcsB (ms.take j)).length ≤ 60000 := by rw [List.length_append, mcsB_len, List.length_take]; omega
  have k5 : roomB ((bs ++ mcsB (ms.take j)).length + (mcB (ms.getD ((j : Nat) : Int).toNat mac0)).length) Try.prog.types[(5 : Nat)].bytes = true := room5 (by show _ + 6 ≤ 100000; omega)
  refine (mk_tree g f ms (bs ++ mcsB (ms.take j)) (ms.length : Int) (j : Int)).trans ?_
  rw [k1, k2, k3, k4, k5]
  show some (Ex.normal, mkS g (some (false, f, ms)) (bs ++ mcsB (ms.take j) ++ mcB (ms.getD j mac0)) _ _) = some (Ex.normal, mkS g (some (false, f, ms)) (bs ++ mcsB (ms.take (j + 1))) _ _)
  rw [mcsB_take h5, List.append_assoc]
  rfl
theorem mk_end (g : Lo Mac) (f : Bool) (ms : List Mac) (bs : List Int) : (mkR g (some (false, f, ms)) (bs ++ mcsB (ms.take ms.length)) (ms.length : Int) (ms.length : Int)).get = some (.exit 0, mkT g (some (false, f, ms)) bs ms.length) := by
  have k1 : decide ((ms.length : Int) < (ms.length : Int)) = false := decide_eq_false (Int.lt_irrefl _)
  exact (mk_tree g f ms _ (ms.length : Int) (ms.length : Int)).trans (by rw [k1]; rfl)
theorem mk_loop : loopOf Try.prog 53 0 = some (((loopOf Try.prog 53 0).get!).1, (loopOf Try.prog 53 0).get!.2) := by kernel_rfl
theorem mk_run {g l : Lo Mac} (hl : vw l = l) {bs : List Int} (h : (lo l).length ≤ 1000) (hb : bs.length ≤ 50000) :
    Keeps (mkN g l) (mkS g l bs ((lo l).length : Int) 0).2 (mkS g l (mkA bs (lo l)) ((lo l).length : Int) ((lo l).length : Int)).2 ∧ LoopRun Try.prog ((loopOf Try.prog 53 0).get!).1 (loopOf Try.prog 53 0).get!.2 (mkN g l) (LI.st [1, 5, 6, 0] ⟨(mkS g l bs ((lo l).length : Int) 0).1, mkN g l, (mkS g l bs ((lo l).length : Int) 0).2⟩) fun x T => ∃ vs os, (x = .exit 0 ∧ (vs, os) = mkS g l (mkA bs (lo l)) ((lo l).length : Int) ((lo l).length : Int)) ∧ T = ⟨zipT [1, 5, 6, 0] vs, numH 0 os, os.length⟩ := by
  have e0 : mkS g l bs ((lo l).length : Int) 0 = mkT g l bs 0 := by
    show mkS g l bs _ _ = mkS g l (bs ++ []) _ _; rw [List.append_nil]; rfl
  have e1 : mkS g l (mkA bs (lo l)) ((lo l).length : Int) ((lo l).length : Int) = mkT g l bs (lo l).length := by
    show _ = mkS g l (bs ++ mcsB ((lo l).take (lo l).length)) _ _; rw [List.take_length]
  rw [e0, e1]
  constructor
  · cases l <;> cases g <;> exact Keeps.of3 (Nat.le_of_ble_eq_true rfl) rfl
  · refine loop_li (σ := Nat) (st := mkT g l bs) (Inv := fun j => j ≤ (lo l).length) (μ := fun j => (lo l).length - j) (d := 10) (unr := fun _ _ => 20) (sp := noSp) (ls := noLs) plain mixed noSp_ok noLs_ok mk_loop (fun j hj => ?_) 0 (Nat.zero_le _)
    cases l with
    | none =>
      obtain rfl : j = 0 := Nat.le_zero.1 hj
      exact ⟨_, mk_nil _ _ _ _ rfl, nofun, fun _ => ⟨rfl, rfl⟩⟩
    | some x =>
      obtain ⟨a, f, ms⟩ := x
      obtain rfl : false = a := congrArg (fun o : Lo Mac => match o with | none => false | some x => x.1) hl
      have h : ms.length ≤ 1000 := h
      have hj : j ≤ ms.length := hj
      by_cases h5 : j < ms.length
      · exact ⟨_, mk_round h5 h hb, fun _ => ⟨j + 1, h5, by show ms.length - (j + 1) < ms.length - j; omega, rfl⟩, nofun⟩
      · obtain rfl : j = ms.length := by omega
        exact ⟨_, mk_end g f ms bs, nofun, fun _ => ⟨rfl, rfl⟩⟩
theorem mp_tree (g : Lo Mac) (b : Bool) (ms : List Mac) (bs : List Int) (n K : Int) : (mpR g (some (false, b, ms)) bs n K).get =
  bro (decide (K < n)) (bro (inB K ms.length) (bro (decide (K.toNat < ms.length)) (bro (roomB (bs.length + (mcB (ms.getD K.toNat mac0)).length) Try.prog.types[(5 : Nat)].bytes) (bro (inR64 (K + (1 : Int))) (some (.normal, mpS g (some (false, b, ms)) (bs ++ mcB (ms.getD K.toNat mac0)) n (K + 1))) (some (.normal, mpS g (some (false, b, ms)) (bs ++ mcB (ms.getD K.toNat mac0)) n (IntKind.i64.wrap (K + 1))))) none) none) none) (some (.exit 2, mpS g (some (false, b, ms)) bs n K)) := by cases g <;> kernel_rfl
theorem mp_tree0 (g : Lo Mac) (bs : List Int) (n K : Int) : (mpR g none bs n K).get = bro (decide (K < n)) none (some (.exit 2, mpS g none bs n K)) := by cases g <;> kernel_rfl
@[reducible] def mpT (g l : Lo Mac) (bs : List Int) (j : Nat) : List SV × List (SO C24) := mpS g l (bs ++ mcsB ((lo l).take j)) ((lo l).length : Int) (j : Int)
theorem mp_nil (g : Lo Mac) (bs : List Int) (n K : Int) (h : K = n) : (mpR g none bs n K).get = some (.exit 2, mpS g none bs n K) := by
  subst h
  exact (mp_tree0 g bs K K).trans (by rw [decide_eq_false (Int.lt_irrefl K)]; rfl)
theorem mp_round {g : Lo Mac} {f : Bool} {ms : List Mac} {bs : List Int} {j : Nat} (h5 : j < ms.length) (h : ms.length ≤ 1000) (hb : bs.length ≤ 50000) : (mpR g (some (false, f, ms)) (bs ++ mcsB (ms.take j)) (ms.length : Int) (j : Int)).get = some (.normal, mpT g (some (false, f, ms)) bs (j + 1)) := by
  have k1 := decide_eq_true (show (j : Int) < (ms.length : Int) by omega)
  have k2 : Sx.inB (j : Int) ms.length = true := inB_mk ⟨by omega, by omega⟩
  have k3 := decide_eq_true (show ((j : Nat) : Int).toNat < ms.length by omega)
  have k4 : inR64 ((j : Int) + 1) = true := inR64_mk (by omega)
  have hlen : (bs ++ mcsB (ms.take j)).length ≤ 60000 := by rw [List.length_append, mcsB_len, List.length_take]; omega
  have k5 : roomB ((bs ++ mcsB (ms.take j)).length + (mcB (ms.getD ((j : Nat) : Int).toNat mac0)).length) Try.prog.types[(5 : Nat)].bytes = true := room5 (by show _ + 6 ≤ 100000; omega)
  refine (mp_tree g f ms (bs ++ mcsB (ms.take j)) (ms.length : Int) (j : Int)).trans ?_
  rw [k1, k2, k3, k4, k5]
  show some (Ex.normal, mpS g (some (false, f, ms)) (bs ++ mcsB (ms.take j) ++ mcB (ms.getD j mac0)) _ _) = some (Ex.normal, mpS g (some (false, f, ms)) (bs ++ mcsB (ms.take (j + 1))) _ _)
  rw [mcsB_take h5, List.append_assoc]
  rfl
theorem mp_end (g : Lo Mac) (f : Bool) (ms : List Mac) (bs : List Int) : (mpR g (some (false, f, ms)) (bs ++ mcsB (ms.take ms.length)) (ms.length : Int) (ms.length : Int)).get = some (.exit 2, mpT g (some (false, f, ms)) bs ms.length) := by
  have k1 : decide ((ms.length : Int) < (ms.length : Int)) = false := decide_eq_false (Int.lt_irrefl _)
  exact (mp_tree g f ms _ (ms.length : Int) (ms.length : Int)).trans (by rw [k1]; rfl)
theorem mp_loop : loopOf Try.prog 20 2 = some (((loopOf Try.prog 20 2).get!).1, (loopOf Try.prog 20 2).get!.2) := by kernel_rfl
theorem mp_run {g l : Lo Mac} (hl : vw l = l) {bs : List Int} (h : (lo l).length ≤ 1000) (hb : bs.length ≤ 50000) :
    Keeps (mpN g l) (mpS g l bs ((lo l).length : Int) 0).2 (mpS g l (mkA bs (lo l)) ((lo l).length : Int) ((lo l).length : Int)).2 ∧ LoopRun Try.prog ((loopOf Try.prog 20 2).get!).1 (loopOf Try.prog 20 2).get!.2 (mpN g l) (LI.st [14, 15, 34, 35, 36, 5] ⟨(mpS g l bs ((lo l).length : Int) 0).1, mpN g l, (mpS g l bs ((lo l).length : Int) 0).2⟩) fun x T => ∃ vs os, (x = .exit 2 ∧ (vs, os) = mpS g l (mkA bs (lo l)) ((lo l).length : Int) ((lo l).length : Int)) ∧ T = ⟨zipT [14, 15, 34, 35, 36, 5] vs, numH 0 os, os.length⟩ := by
  have e0 : mpS g l bs ((lo l).length : Int) 0 = mpT g l bs 0 := by
    show mpS g l bs _ _ = mpS g l (bs ++ []) _ _; rw [List.append_nil]; rfl
  have e1 : mpS g l (mkA bs (lo l)) ((lo l).length : Int) ((lo l).length : Int) = mpT g l bs (lo l).length := by
    show _ = mpS g l (bs ++ mcsB ((lo l).take (lo l).length)) _ _; rw [List.take_length]
  rw [e0, e1]
  constructor
  · cases l <;> cases g <;> exact Keeps.of3 (Nat.le_of_ble_eq_true rfl) rfl
  · refine loop_li (σ := Nat) (st := mpT g l bs) (Inv := fun j => j ≤ (lo l).length) (μ := fun j => (lo l).length - j) (d := 10) (unr := fun _ _ => 20) (sp := noSp) (ls := noLs) plain mixed noSp_ok noLs_ok mp_loop (fun j hj => ?_) 0 (Nat.zero_le _)
    cases l with
    | none =>
      obtain rfl : j = 0 := Nat.le_zero.1 hj
      exact ⟨_, mp_nil _ _ _ _ rfl, nofun, fun _ => ⟨rfl, rfl⟩⟩
    | some x =>
      obtain ⟨a, f, ms⟩ := x
      obtain rfl : false = a := congrArg (fun o : Lo Mac => match o with | none => false | some x => x.1) hl
      have h : ms.length ≤ 1000 := h
      have hj : j ≤ ms.length := hj
      by_cases h5 : j < ms.length
      · exact ⟨_, mp_round h5 h hb, fun _ => ⟨j + 1, h5, by show ms.length - (j + 1) < ms.length - j; omega, rfl⟩, nofun⟩
      · obtain rfl : j = ms.length := by omega
        exact ⟨_, mp_end g f ms bs, nofun, fun _ => ⟨rfl, rfl⟩⟩
theorem mq_tree (g : Lo Mac) (b : Bool) (ms : List Mac) (bs : List Int) (n K : Int) : (mqR g (some (false, b, ms)) bs n K).get =
  bro (decide (K < n)) (bro (inB K ms.length) (bro (decide (K.toNat < ms.length)) (bro (roomB (bs.length + (mcB (ms.getD K.toNat mac0)).length) Try.prog.types[(5 : Nat)].bytes) (bro (inR64 (K + (1 : Int))) (some (.normal, mqS g (some (false, b, ms)) (bs ++ mcB (ms.getD K.toNat mac0)) n (K + 1))) (some (.normal, mqS g (some (false, b, ms)) (bs ++ mcB (ms.getD K.toNat mac0)) n (IntKind.i64.wrap (K + 1))))) none) none) none) (some (.exit 2, mqS g (some (false, b, ms)) bs n K)) := by cases g <;> kernel_rfl
theorem mq_tree0 (g : Lo Mac) (bs : List Int) (n K : Int) : (mqR g none bs n K).get = bro (decide (K < n)) none (some (.exit 2, mqS g none bs n K)) := by cases g <;> kernel_rfl
@[reducible] def mqT (g l : Lo Mac) (bs : List Int) (j : Nat) : List SV × List (SO C24) := mqS g l (bs ++ mcsB ((lo l).take j)) ((lo l).length : Int) (j : Int)
theorem mq_nil (g : Lo Mac) (bs : List Int) (n K : Int) (h : K = n) : (mqR g none bs n K).get = some (.exit 2, mqS g none bs n K) := by
  subst h
  exact (mq_tree0 g bs K K).trans (by rw [decide_eq_false (Int.lt_irrefl K)]; rfl)
theorem mq_round {g : Lo Mac} {f : Bool} {ms : List Mac} {bs : List Int} {j : Nat} (h5 : j < ms.length) (h : ms.length ≤ 1000) (hb : bs.length ≤ 50000) : (mqR g (some (false, f, ms)) (bs ++ mcsB (ms.take j)) (ms.length : Int) (j : Int)).get = some (.normal, mqT g (some (false, f, ms)) bs (j + 1)) := by
  have k1 := decide_eq_true (show (j : Int) < (ms.length : Int) by omega)
  have k2 : Sx.inB (j : Int) ms.length = true := inB_mk ⟨by omega, by omega⟩
  have k3 := decide_eq_true (show ((j : Nat) : Int).toNat < ms.length by omega)
  have k4 : inR64 ((j : Int) + 1) = true := inR64_mk (by omega)
  have hlen : (bs ++ mcsB (ms.take j)).length ≤ 60000 := by rw [List.length_append, mcsB_len, List.length_take]; omega
  have k5 : roomB ((bs ++ mcsB (ms.take j)).length + (mcB (ms.getD ((j : Nat) : Int).toNat mac0)).length) Try.prog.types[(5 : Nat)].bytes = true := room5 (by show _ + 6 ≤ 100000; omega)
  refine (mq_tree g f ms (bs ++ mcsB (ms.take j)) (ms.length : Int) (j : Int)).trans ?_
  rw [k1, k2, k3, k4, k5]
  show some (Ex.normal, mqS g (some (false, f, ms)) (bs ++ mcsB (ms.take j) ++ mcB (ms.getD j mac0)) _ _) = some (Ex.normal, mqS g (some (false, f, ms)) (bs ++ mcsB (ms.take (j + 1))) _ _)
  rw [mcsB_take h5, List.append_assoc]
  rfl
theorem mq_end (g : Lo Mac) (f : Bool) (ms : List Mac) (bs : List Int) : (mqR g (some (false, f, ms)) (bs ++ mcsB (ms.take ms.length)) (ms.length : Int) (ms.length : Int)).get = some (.exit 2, mqT g (some (false, f, ms)) bs ms.length) := by
  have k1 : decide ((ms.length : Int) < (ms.length : Int)) = false := decide_eq_false (Int.lt_irrefl _)
  exact (mq_tree g f ms _ (ms.length : Int) (ms.length : Int)).trans (by rw [k1]; rfl)
theorem mq_loop : loopOf Try.prog 20 2 = some (((loopOf Try.prog 20 2).get!).1, (loopOf Try.prog 20 2).get!.2) := by kernel_rfl
theorem mq_run {g l : Lo Mac} (hl : vw l = l) {bs : List Int} (h : (lo l).length ≤ 1000) (hb : bs.length ≤ 50000) :
    Keeps (mqN g l) (mqS g l bs ((lo l).length : Int) 0).2 (mqS g l (mkA bs (lo l)) ((lo l).length : Int) ((lo l).length : Int)).2 ∧ LoopRun Try.prog ((loopOf Try.prog 20 2).get!).1 (loopOf Try.prog 20 2).get!.2 (mqN g l) (LI.st [14, 15, 34, 35, 36, 5] ⟨(mqS g l bs ((lo l).length : Int) 0).1, mqN g l, (mqS g l bs ((lo l).length : Int) 0).2⟩) fun x T => ∃ vs os, (x = .exit 2 ∧ (vs, os) = mqS g l (mkA bs (lo l)) ((lo l).length : Int) ((lo l).length : Int)) ∧ T = ⟨zipT [14, 15, 34, 35, 36, 5] vs, numH 0 os, os.length⟩ := by
  have e0 : mqS g l bs ((lo l).length : Int) 0 = mqT g l bs 0 := by
    show mqS g l bs _ _ = mqS g l (bs ++ []) _ _; rw [List.append_nil]; rfl
  have e1 : mqS g l (mkA bs (lo l)) ((lo l).length : Int) ((lo l).length : Int) = mqT g l bs (lo l).length := by
    show _ = mqS g l (bs ++ mcsB ((lo l).take (lo l).length)) _ _; rw [List.take_length]
  rw [e0, e1]
  constructor
  · cases l <;> cases g <;> exact Keeps.of3 (Nat.le_of_ble_eq_true rfl) rfl
  · refine loop_li (σ := Nat) (st := mqT g l bs) (Inv := fun j => j ≤ (lo l).length) (μ := fun j => (lo l).length - j) (d := 10) (unr := fun _ _ => 20) (sp := noSp) (ls := noLs) plain mixed noSp_ok noLs_ok mq_loop (fun j hj => ?_) 0 (Nat.zero_le _)
    cases l with
    | none =>
      obtain rfl : j = 0 := Nat.le_zero.1 hj
      exact ⟨_, mq_nil _ _ _ _ rfl, nofun, fun _ => ⟨rfl, rfl⟩⟩
    | some x =>
      obtain ⟨a, f, ms⟩ := x
      obtain rfl : false = a := congrArg (fun o : Lo Mac => match o with | none => false | some x => x.1) hl
      have h : ms.length ≤ 1000 := h
      have hj : j ≤ ms.length := hj
      by_cases h5 : j < ms.length
      · exact ⟨_, mq_round h5 h hb, fun _ => ⟨j + 1, h5, by show ms.length - (j + 1) < ms.length - j; omega, rfl⟩, nofun⟩
      · obtain rfl : j = ms.length := by omega
        exact ⟨_, mq_end g f ms bs, nofun, fun _ => ⟨rfl, rfl⟩⟩
def isVw {α : Type} : Lo α → Bool
  | none => true
  | some (a, _, _) => !a
theorem isVw_eq {α : Type} {o : Lo α} (h : isVw o = true) : vw o = o := by
  cases o with
  | none => rfl
  | some x => obtain ⟨a, b, l⟩ := x; cases a with | false => rfl | true => cases h
def smK (l : Lo Mac) (bs : List Int) (n : Int) : Bool := decide (n = ((lo l).length : Int) ∧ (lo l).length ≤ 1000 ∧ bs.length ≤ 50000)
theorem smK_eq {l : Lo Mac} {bs : List Int} {n : Int} (h : smK l bs n = true) : n = ((lo l).length : Int) ∧ (lo l).length ≤ 1000 ∧ bs.length ≤ 50000 := of_decide_eq_true h
def mkLoop : LoopFn C24 := fun li => match li with
  | ⟨[s, .raw (.int .i64 n), .raw (.int .i64 (.ofNat 0)), .h k], nb, os⟩ => match decM s 0 os with
    | some (l, [.sl true false 5 bs]) => match isVw l, Nat.beq nb (mkN none l), Nat.beq k (mkN none l) with
      | true, true, true => .br (smK l bs n) (.leaf (.exit 0, mkS none l (mkA bs (lo l)) n n)) .fail
      | _, _, _ => .fail
    | _ => .fail
  | _ => .fail
theorem mkLoop_ok : ∀ tm hp n x, (loopS [1, 5, 6] [0] mkLoop tm hp n).get = some x → InLoop Try.prog ((loopOf Try.prog 53 0).get!).1 (loopOf Try.prog 53 0).get!.2 tm hp n fun e tm hp n => (e, tm, hp, n) = x := loopS_of fun li r h => by
  unfold mkLoop at h
  split at h
  · rename_i s n k nb os
    split at h
    · rename_i l bs hd
      obtain ⟨rfl, rfl⟩ := decM_eq hd
      split at h
      · rename_i hv hn hk
        obtain rfl := Nat.eq_of_beq_eq_true hn
        obtain rfl := Nat.eq_of_beq_eq_true hk
        obtain ⟨h1, h2⟩ := Tr.get_ask.1 h
        obtain ⟨rfl, h3, h4⟩ := smK_eq h1
        simp only [Tr.get, Option.some.injEq] at h2
        subst h2
        exact mk_run (g := none) (isVw_eq hv) (bs := bs) h3 h4
      · cases h
    · cases h
  · cases h
def mpLoop : LoopFn C24 := fun li => match li with
  | ⟨[.agg [s0, s1], .raw (.int .i64 (.ofNat q)), s, .raw (.int .i64 n), .raw (.int .i64 (.ofNat 0)), .h k], nb, os⟩ => match decM s0 0 os with
    | some (o, os1) => match decM s1 (nx o 0) os1 with
      | some (g, [.sl true false 5 bs]) => match isVw o, isVw g, Nat.beq nb (mpN g o), Nat.beq k (mpN g o), q with
        | true, true, true, true, 0 => match isS o 0 s with
          | true => .br (smK o bs n) (.leaf (.exit 2, mpS g o (mkA bs (lo o)) n n)) .fail
          | false => .fail
        | true, true, true, true, 1 => match isS g (nx o 0) s with
          | true => .br (smK g bs n) (.leaf (.exit 2, mqS o g (mkA bs (lo g)) n n)) .fail
          | false => .fail
        | _, _, _, _, _ => .fail
      | _ => .fail
    | _ => .fail
  | _ => .fail
theorem mpLoop_ok : ∀ tm hp n x, (loopS [14, 15, 34, 35, 36] [5] mpLoop tm hp n).get = some x → InLoop Try.prog ((loopOf Try.prog 20 2).get!).1 (loopOf Try.prog 20 2).get!.2 tm hp n fun e tm hp n => (e, tm, hp, n) = x := loopS_of fun li r h => by
  unfold mpLoop at h
  split at h
  · rename_i s0 s1 q s n k nb os
    split at h
    · rename_i o os1 hd
      obtain ⟨rfl, rfl⟩ := decM_eq hd
      split at h
      · rename_i g bs hd
        obtain ⟨rfl, rfl⟩ := decM_eq hd
        split at h
        · rename_i hv hw hn hk
          obtain rfl := Nat.eq_of_beq_eq_true hn
          obtain rfl := Nat.eq_of_beq_eq_true hk
          split at h
          · rename_i hs
            obtain rfl := isS_eq hs
            obtain ⟨h1, h2⟩ := Tr.get_ask.1 h
            obtain ⟨rfl, h3, h4⟩ := smK_eq h1
            simp only [Tr.get, Option.some.injEq] at h2
            subst h2
            exact mp_run (g := g) (isVw_eq hv) (bs := bs) h3 h4
          · cases h
        · rename_i hv hw hn hk
          obtain rfl := Nat.eq_of_beq_eq_true hn
          obtain rfl := Nat.eq_of_beq_eq_true hk
          split at h
          · rename_i hs
            obtain rfl := isS_eq hs
            obtain ⟨h1, h2⟩ := Tr.get_ask.1 h
            obtain ⟨rfl, h3, h4⟩ := smK_eq h1
            simp only [Tr.get, Option.some.injEq] at h2
            subst h2
            exact mq_run (g := o) (isVw_eq hw) (bs := bs) h3 h4
          · cases h
        · cases h
      · cases h
    · cases h
  · cases h
def lsMk : LoopT C24 := Sx.addL 53 0 (loopS [1, 5, 6] [0] mkLoop) (Sx.addL 20 2 (loopS [14, 15, 34, 35, 36] [5] mpLoop) noLs)
theorem lsMk_ok : LoopTOk Try.prog lsMk := addL_ok mk_loop mkLoop_ok (addL_ok mp_loop mpLoop_ok noLs_ok)
abbrev unMk (g b : Nat) : Nat := match g, b with
  | 53, 0 => 0 | 20, 2 => 0 | _, _ => 20
abbrev f24Tb (g : Nat) (o l : Lo Mac) := fnC C24 Try.prog noSp lsMk unMk 10 g [hS o 0, hS l (nx o 0)] (obM (vw o) ++ obM (vw l))
end
end Go.Proofs.Ytgepgnjjhgmfnaa
namespace Go.Proofs.Ytgepgnjjhgmfnaa
open Go Go.Sx Go.RowKit
set_option maxRecDepth 1000000
set_option maxHeartbeats 8000000
set_option linter.unusedVariables false
set_option linter.unusedSimpArgs false
noncomputable section
/-- How many, as four bytes. -/
abbrev leB (l : List Mac) : List Int := [(l.length : Int) % 256, shrV IntKind.i64 (l.length : Int) 8 % 256, shrV IntKind.i64 (l.length : Int) 16 % 256, shrV IntKind.i64 (l.length : Int) 24 % 256]
def tabW (ol gl : List Mac) : List Int := mkA (mkA ([(1 : Int), (0 : Int)] ++ leB ol) ol ++ leB gl) gl
theorem tab_tree (g : Nat) (hg : g = 31 ∨ g = 20) (o l : Lo Mac) : (f24Tb g o l).get =
    bro (smK (vw o) ([(1 : Int), (0 : Int)] ++ leB (lo o)) ((lo o).length : Int)) (bro (roomB ((mkA ([(1 : Int), (0 : Int)] ++ leB (lo o)) (lo o)).length + (leB (lo l)).length) Try.prog.types[(5 : Nat)].bytes) (bro (smK (vw l) (mkA ([(1 : Int), (0 : Int)] ++ leB (lo o)) (lo o) ++ leB (lo l)) ((lo l).length : Int)) (some (.h (nx l (nx o 0)), [.sl true false 5 (mkA (mkA ([(1 : Int), (0 : Int)] ++ leB (lo o)) (lo o) ++ leB (lo l)) (lo l))])) none) none) none := by
  rcases hg with rfl | rfl
  · cases o <;> cases l <;> kernel_rfl
  · cases o <;> cases l <;> kernel_rfl
theorem tab_get {g : Nat} (hg : g = 31 ∨ g = 20) {o l : Lo Mac} (ho : (lo o).length ≤ 1000) (hl : (lo l).length ≤ 1000) : (f24Tb g o l).get = some (.h (nx l (nx o 0)), [.sl true false 5 (tabW (lo o) (lo l))]) := by
  have el : ∀ {x : Lo Mac}, lo (vw x) = lo x := fun {x} => by cases x <;> rfl
  have h1 : (mkA ([(1 : Int), (0 : Int)] ++ leB (lo o)) (lo o)).length = 6 + 6 * (lo o).length := by rw [List.length_append, mcsB_len]; rfl
  have h2 : (mkA ([(1 : Int), (0 : Int)] ++ leB (lo o)) (lo o) ++ leB (lo l)).length = 10 + 6 * (lo o).length := by rw [List.length_append, h1]; show _ + 4 = _; omega
  have k1 : smK (vw o) ([(1 : Int), (0 : Int)] ++ leB (lo o)) ((lo o).length : Int) = true := decide_eq_true ⟨by rw [el], by rw [el]; exact ho, by show 6 ≤ 50000; decide⟩
  have k2 : roomB ((mkA ([(1 : Int), (0 : Int)] ++ leB (lo o)) (lo o)).length + (leB (lo l)).length) Try.prog.types[(5 : Nat)].bytes = true := room5 (by rw [h1]; show _ + 4 ≤ _; omega)
  have k3 : smK (vw l) (mkA ([(1 : Int), (0 : Int)] ++ leB (lo o)) (lo o) ++ leB (lo l)) ((lo l).length : Int) = true := decide_eq_true ⟨by rw [el], by rw [el]; exact hl, by rw [h2]; omega⟩
  rw [tab_tree g hg, k1, k2, k3]
  rfl
def tabT : FnF C24 := fun args os => match args with
  | [s0, s1] => match decM s0 0 os with
    | some (o, os1) => match decM s1 (nx o 0) os1 with
      | some (g, []) => match isVw o, isVw g with
        | true, true => withL o fun ol => withL g fun gl => .br (decide (ol.length ≤ 1000 ∧ gl.length ≤ 1000)) (.leaf (.h (nx g (nx o 0)), [.sl true false 5 (tabW ol gl)])) .fail
        | _, _ => .fail
      | _ => .fail
    | _ => .fail
  | _ => .fail
theorem tabT_ok {g : Nat} (hg : g = 31 ∨ g = 20) : ∀ args os r, (tabT args os).get = some r → Fn0 Try.prog g args os r := fun args os r h => by
  unfold tabT at h
  split at h
  · rename_i s0 s1
    split at h
    · rename_i o os1 hd
      obtain ⟨rfl, rfl⟩ := decM_eq hd
      split at h
      · rename_i l hd
        obtain ⟨rfl, rfl⟩ := decM_eq hd
        split at h
        · rename_i hv hw
          rw [withL_eq, withL_eq] at h
          obtain ⟨hl, h2⟩ := Tr.get_ask.1 h
          have hl := of_decide_eq_true hl
          refine fnC_ok (sp := noSp) (ls := lsMk) (unr := unMk) (d := 10) plain mixed noSp_ok lsMk_ok ?_
          have e := (tab_get hg hl.1 hl.2).trans h2
          unfold f24Tb at e
          rw [isVw_eq hv, isVw_eq hw] at e
          rw [List.append_nil]
          exact e
        · cases h
      · cases h
    · cases h
  · cases h
end
end Go.Proofs.Ytgepgnjjhgmfnaa
namespace Go.Proofs.Ytgepgnjjhgmfnaa
open Go Go.Sx Go.RowKit
set_option maxRecDepth 1000000
set_option maxHeartbeats 8000000
set_option linter.unusedVariables false
noncomputable section
@[reducible] def qA (v w : Lo Int) (K : Int) : List SV × List (SO C24) := ([hS v 0, hS w (nx v 0), .raw (.int .i64 K), .raw (.bool false)], obI v ++ obI w)
@[reducible] def qB (v w : Lo Int) (K : Int) : List SV × List (SO C24) := ([hS v 0, hS w (nx v 0), .raw (.int .i64 ((lo v).length : Int)), .raw (.int .i64 K), .raw (.bool false)], obI v ++ obI w)
@[reducible] def qC (v w : Lo Mac) (K : Int) : List SV × List (SO C24) := ([hS v 0, hS w (nx v 0), .raw (.int .i64 K), .raw (.bool false)], obM v ++ obM w)
@[reducible] def qD (v w : Lo Mac) (K : Int) : List SV × List (SO C24) := ([hS v 0, hS w (nx v 0), .raw (.int .i64 ((lo v).length : Int)), .raw (.int .i64 K), .raw (.bool false)], obM v ++ obM w)
abbrev rA (v w : Lo Int) (K : Int) := roundG C24 Try.prog noSp noLs (fun _ _ => 20) 10 23 0 [0, 1, 5, 4] ⟨(qA v w K).1, nx w (nx v 0), (qA v w K).2⟩
abbrev rB (v w : Lo Int) (K : Int) := roundG C24 Try.prog noSp noLs (fun _ _ => 20) 10 46 0 [0, 1, 12, 13, 4] ⟨(qB v w K).1, nx w (nx v 0), (qB v w K).2⟩
abbrev rC (v w : Lo Mac) (K : Int) := roundG C24 Try.prog noSp noLs (fun _ _ => 20) 10 25 0 [0, 1, 5, 4] ⟨(qC v w K).1, nx w (nx v 0), (qC v w K).2⟩
abbrev rD (v w : Lo Mac) (K : Int) := roundG C24 Try.prog noSp noLs (fun _ _ => 20) 10 45 0 [0, 1, 12, 13, 4] ⟨(qD v w K).1, nx w (nx v 0), (qD v w K).2⟩
end
end Go.Proofs.Ytgepgnjjhgmfnaa
namespace Go.Proofs.Ytgepgnjjhgmfnaa
open Go Go.Sx Go.RowKit
set_option maxRecDepth 1000000
set_option maxHeartbeats 8000000
set_option linter.unusedVariables false
set_option linter.unusedSimpArgs false
noncomputable section
def neI (ts us : List Int) (k : Nat) : Bool := elI ts (k : Int) != elI us (k : Int)
def neA (ts us : List Mac) (k : Nat) : Bool := !eqM (elA ts (k : Int)) (elA us (k : Int))
theorem qA_ne (a b c d : Bool) (ts us : List Int) (K : Int) : Tr.follow [Tt,Tt,Tt,Tt,Tt,Tt] (rA (some (a, b, ts)) (some (c, d, us)) K) = some ([decide (K < (ts.length : Int)), inB K ts.length, decide (K.toNat < ts.length), inB K us.length, decide (K.toNat < us.length), elI ts K != elI us K], (.ret, qA (some (a, b, ts)) (some (c, d, us)) K)) := by kernel_rfl
theorem qA_eq (a b c d : Bool) (ts us : List Int) (K : Int) : Tr.follow [Tt,Tt,Tt,Tt,Tt,Ff,Tt] (rA (some (a, b, ts)) (some (c, d, us)) K) = some ([decide (K < (ts.length : Int)), inB K ts.length, decide (K.toNat < ts.length), inB K us.length, decide (K.toNat < us.length), elI ts K != elI us K, inR64 (K + 1)], (.normal, qA (some (a, b, ts)) (some (c, d, us)) (K + 1))) := by kernel_rfl
theorem qA_end (v w : Lo Int) (K : Int) : Tr.follow [Ff] (rA v w K) = some ([decide (K < ((lo v).length : Int))], (.exit 0, qA v w K)) := by cases v <;> cases w <;> kernel_rfl
theorem rA_round {v w : Lo Int} {k : Nat} (hk : k < (lo v).length) (hu : (lo w).length = (lo v).length) (hl : (lo v).length ≤ 100000) :
    (rA v w (k : Int)).get = bro (neI (lo v) (lo w) k) (some (.ret, qA v w (k : Int))) (some (.normal, qA v w ((k + 1 : Nat) : Int))) := by
  cases v with
  | none => exact absurd hk (Nat.not_lt_zero _)
  | some x =>
  cases w with
  | none => exact absurd (show k < 0 by have : (0 : Nat) = _ := hu; rw [this]; exact hk) (Nat.not_lt_zero _)
  | some y =>
  obtain ⟨a, b, ts⟩ := x
  obtain ⟨c, d, us⟩ := y
  change k < ts.length at hk
  change us.length = ts.length at hu
  change ts.length ≤ 100000 at hl
  have k1 := decide_eq_true (show (k : Int) < (ts.length : Int) by omega)
  have k2 : Sx.inB (k : Int) ts.length = true := inB_mk ⟨by omega, by omega⟩
  have k3 := decide_eq_true (show ((k : Nat) : Int).toNat < ts.length by omega)
  have k4 : inR64 ((k : Int) + 1) = true := inR64_mk (by omega)
  have k5 : Sx.inB (k : Int) us.length = true := inB_mk ⟨by omega, by omega⟩
  have k6 := decide_eq_true (show ((k : Nat) : Int).toNat < us.length by omega)
  show (rA (some (a, b, ts)) (some (c, d, us)) (k : Int)).get = bro (neI ts us k) _ _
  unfold neI
  have h1 := qA_ne a b c d ts us (k : Int)
  have h2 := qA_eq a b c d ts us (k : Int)
  generalize (elI ts (k : Int) != elI us (k : Int)) = z at h1 h2 ⊢
  cases z with
  | true => exact Tr.follow_get h1 (by simp only [k1, k2, k3, k5, k6])
  | false => exact Tr.follow_get h2 (by simp only [k1, k2, k3, k4, k5, k6])
def loopA : LoopFn C24 := fun li => match li with
  | ⟨[s, t, .raw (.int .i64 (.ofNat 0)), .raw (.bool false)], nb, os⟩ => match decI s 0 os with
    | some (v, os1) => match decI t (nx v 0) os1 with
      | some (w, []) => match Nat.beq nb (nx w (nx v 0)) with
        | true => .br (decide ((lo v).length ≤ 100000 ∧ (lo w).length = (lo v).length)) (.br (noneP (neI (lo v) (lo w)) (lo v).length) (.leaf (.exit 0, qA v w ((lo v).length : Int))) (.leaf (.ret, qA v w (fstP (neI (lo v) (lo w)) (lo v).length : Int)))) .fail
        | false => .fail
      | _ => .fail
    | none => .fail
  | _ => .fail
theorem lpA : loopOf Try.prog 23 0 = some (((loopOf Try.prog 23 0).get!).1, (loopOf Try.prog 23 0).get!.2) := by kernel_rfl
theorem loopA_ok : ∀ tm hp n x, (loopS [0, 1, 5, 4] [] loopA tm hp n).get = some x → InLoop Try.prog ((loopOf Try.prog 23 0).get!).1 (loopOf Try.prog 23 0).get!.2 tm hp n fun e tm hp n => (e, tm, hp, n) = x := loopS_of fun li r h => by
  unfold loopA at h
  split at h
  · rename_i s t nb os
    split at h
    · rename_i v os1 h1
      split at h
      · rename_i w h2
        split at h
        · rename_i hnb
          obtain ⟨rfl, rfl⟩ := decI_eq h1
          obtain ⟨rfl, rfl⟩ := decI_eq h2
          have hnb := Nat.eq_of_beq_eq_true hnb
          subst hnb
          clear h1 h2
          obtain ⟨hl, hC⟩ := Tr.get_ask.1 h
          clear h
          have hl : (lo v).length ≤ 100000 ∧ (lo w).length = (lo v).length := of_decide_eq_true hl
          have hr : r.2.2 = (qA v w 0).2 := by
            rcases Tr.get_br.1 hC with ⟨_, hD⟩ | ⟨_, hD⟩ <;> (simp only [Tr.get, Option.some.injEq] at hD; subst hD; rfl)
          rw [List.append_nil]
          refine ⟨by rw [hr]; exact keeps_same (by cases v <;> cases w <;> rfl), ?_⟩
          refine scan_li (n := (lo v).length) (stN := fun k => qA v w (k : Int)) (stR := fun k => qA v w (k : Int)) (p := neI (lo v) (lo w)) (d := 10) (unr := fun _ _ => 20) (sp := noSp) (ls := noLs) (b := 0) plain mixed noSp_ok noLs_ok lpA (fun k hk => rA_round hk hl.2 hl.1) ?_ hC
          exact Tr.follow_get (qA_end v w _) (by rw [decide_eq_false (Int.lt_irrefl _)])
        · cases h
      · cases h
    · cases h
  · cases h
theorem qB_ne (a b c d : Bool) (ts us : List Int) (K : Int) : Tr.follow [Tt,Tt,Tt,Tt,Tt,Tt] (rB (some (a, b, ts)) (some (c, d, us)) K) = some ([decide (K < (ts.length : Int)), inB K ts.length, decide (K.toNat < ts.length), inB K us.length, decide (K.toNat < us.length), elI ts K != elI us K], (.ret, qB (some (a, b, ts)) (some (c, d, us)) K)) := by kernel_rfl
theorem qB_eq (a b c d : Bool) (ts us : List Int) (K : Int) : Tr.follow [Tt,Tt,Tt,Tt,Tt,Ff,Tt] (rB (some (a, b, ts)) (some (c, d, us)) K) = some ([decide (K < (ts.length : Int)), inB K ts.length, decide (K.toNat < ts.length), inB K us.length, decide (K.toNat < us.length), elI ts K != elI us K, inR64 (K + 1)], (.normal, qB (some (a, b, ts)) (some (c, d, us)) (K + 1))) := by kernel_rfl
theorem qB_end (v w : Lo Int) (K : Int) : Tr.follow [Ff] (rB v w K) = some ([decide (K < ((lo v).length : Int))], (.exit 0, qB v w K)) := by cases v <;> cases w <;> kernel_rfl
theorem rB_round {v w : Lo Int} {k : Nat} (hk : k < (lo v).length) (hu : (lo w).length = (lo v).length) (hl : (lo v).length ≤ 100000) :
    (rB v w (k : Int)).get = bro (neI (lo v) (lo w) k) (some (.ret, qB v w (k : Int))) (some (.normal, qB v w ((k + 1 : Nat) : Int))) := by
  cases v with
  | none => exact absurd hk (Nat.not_lt_zero _)
  | some x =>
  cases w with
  | none => exact absurd (show k < 0 by have : (0 : Nat) = _ := hu; rw [this]; exact hk) (Nat.not_lt_zero _)
  | some y =>
  obtain ⟨a, b, ts⟩ := x
  obtain ⟨c, d, us⟩ := y
  change k < ts.length at hk
  change us.length = ts.length at hu
  change ts.length ≤ 100000 at hl
  have k1 := decide_eq_true (show (k : Int) < (ts.length : Int) by omega)
  have k2 : Sx.inB (k : Int) ts.length = true := inB_mk ⟨by omega, by omega⟩
  have k3 := decide_eq_true (show ((k : Nat) : Int).toNat < ts.length by omega)
  have k4 : inR64 ((k : Int) + 1) = true := inR64_mk (by omega)
  have k5 : Sx.inB (k : Int) us.length = true := inB_mk ⟨by omega, by omega⟩
  have k6 := decide_eq_true (show ((k : Nat) : Int).toNat < us.length by omega)
  show (rB (some (a, b, ts)) (some (c, d, us)) (k : Int)).get = bro (neI ts us k) _ _
  unfold neI
  have h1 := qB_ne a b c d ts us (k : Int)
  have h2 := qB_eq a b c d ts us (k : Int)
  generalize (elI ts (k : Int) != elI us (k : Int)) = z at h1 h2 ⊢
  cases z with
  | true => exact Tr.follow_get h1 (by simp only [k1, k2, k3, k5, k6])
  | false => exact Tr.follow_get h2 (by simp only [k1, k2, k3, k4, k5, k6])
def loopB : LoopFn C24 := fun li => match li with
  | ⟨[s, t, .raw (.int .i64 n), .raw (.int .i64 (.ofNat 0)), .raw (.bool false)], nb, os⟩ => match decI s 0 os with
    | some (v, os1) => match decI t (nx v 0) os1 with
      | some (w, []) => match Nat.beq nb (nx w (nx v 0)) with
        | true => .br (n == ((lo v).length : Int)) (.br (decide ((lo v).length ≤ 100000 ∧ (lo w).length = (lo v).length)) (.br (noneP (neI (lo v) (lo w)) (lo v).length) (.leaf (.exit 0, qB v w ((lo v).length : Int))) (.leaf (.ret, qB v w (fstP (neI (lo v) (lo w)) (lo v).length : Int)))) .fail) .fail
        | false => .fail
      | _ => .fail
    | none => .fail
  | _ => .fail
theorem lpB : loopOf Try.prog 46 0 = some (((loopOf Try.prog 46 0).get!).1, (loopOf Try.prog 46 0).get!.2) := by kernel_rfl
theorem loopB_ok : ∀ tm hp n x, (loopS [0, 1, 12, 13, 4] [] loopB tm hp n).get = some x → InLoop Try.prog ((loopOf Try.prog 46 0).get!).1 (loopOf Try.prog 46 0).get!.2 tm hp n fun e tm hp n => (e, tm, hp, n) = x := loopS_of fun li r h => by
  unfold loopB at h
  split at h
  · rename_i s t n nb os
    split at h
    · rename_i v os1 h1
      split at h
      · rename_i w h2
        split at h
        · rename_i hnb
          obtain ⟨rfl, rfl⟩ := decI_eq h1
          obtain ⟨rfl, rfl⟩ := decI_eq h2
          have hnb := Nat.eq_of_beq_eq_true hnb
          subst hnb
          clear h1 h2
          obtain ⟨hn0, hB⟩ := Tr.get_ask.1 h
          obtain ⟨hl, hC⟩ := Tr.get_ask.1 hB
          clear h hB
          have hn0 := eq_of_beq hn0
          subst hn0
          have hl : (lo v).length ≤ 100000 ∧ (lo w).length = (lo v).length := of_decide_eq_true hl
          have hr : r.2.2 = (qB v w 0).2 := by
            rcases Tr.get_br.1 hC with ⟨_, hD⟩ | ⟨_, hD⟩ <;> (simp only [Tr.get, Option.some.injEq] at hD; subst hD; rfl)
          rw [List.append_nil]
          refine ⟨by rw [hr]; exact keeps_same (by cases v <;> cases w <;> rfl), ?_⟩
          refine scan_li (n := (lo v).length) (stN := fun k => qB v w (k : Int)) (stR := fun k => qB v w (k : Int)) (p := neI (lo v) (lo w)) (d := 10) (unr := fun _ _ => 20) (sp := noSp) (ls := noLs) (b := 0) plain mixed noSp_ok noLs_ok lpB (fun k hk => rB_round hk hl.2 hl.1) ?_ hC
          exact Tr.follow_get (qB_end v w _) (by rw [decide_eq_false (Int.lt_irrefl _)])
        · cases h
      · cases h
    · cases h
  · cases h
theorem qC_ne (a b c d : Bool) (ts us : List Mac) (K : Int) : Tr.follow [Tt,Tt,Tt,Tt,Tt,Tt] (rC (some (a, b, ts)) (some (c, d, us)) K) = some ([decide (K < (ts.length : Int)), inB K ts.length, decide (K.toNat < ts.length), inB K us.length, decide (K.toNat < us.length), !eqM (elA ts K) (elA us K)], (.ret, qC (some (a, b, ts)) (some (c, d, us)) K)) := by kernel_rfl
theorem qC_eq (a b c d : Bool) (ts us : List Mac) (K : Int) : Tr.follow [Tt,Tt,Tt,Tt,Tt,Ff,Tt] (rC (some (a, b, ts)) (some (c, d, us)) K) = some ([decide (K < (ts.length : Int)), inB K ts.length, decide (K.toNat < ts.length), inB K us.length, decide (K.toNat < us.length), !eqM (elA ts K) (elA us K), inR64 (K + 1)], (.normal, qC (some (a, b, ts)) (some (c, d, us)) (K + 1))) := by kernel_rfl
theorem qC_end (v w : Lo Mac) (K : Int) : Tr.follow [Ff] (rC v w K) = some ([decide (K < ((lo v).length : Int))], (.exit 0, qC v w K)) := by cases v <;> cases w <;> kernel_rfl
theorem rC_round {v w : Lo Mac} {k : Nat} (hk : k < (lo v).length) (hu : (lo w).length = (lo v).length) (hl : (lo v).length ≤ 100000) :
    (rC v w (k : Int)).get = bro (neA (lo v) (lo w) k) (some (.ret, qC v w (k : Int))) (some (.normal, qC v w ((k + 1 : Nat) : Int))) := by
  cases v with
  | none => exact absurd hk (Nat.not_lt_zero _)
  | some x =>
  cases w with
  | none => exact absurd (show k < 0 by have : (0 : Nat) = _ := hu; rw [this]; exact hk) (Nat.not_lt_zero _)
  | some y =>
  obtain ⟨a, b, ts⟩ := x
  obtain ⟨c, d, us⟩ := y
  change k < ts.length at hk
  change us.length = ts.length at hu
  change ts.length ≤ 100000 at hl
  have k1 := decide_eq_true (show (k : Int) < (ts.length : Int) by omega)
  have k2 : Sx.inB (k : Int) ts.length = true := inB_mk ⟨by omega, by omega⟩
  have k3 := decide_eq_true (show ((k : Nat) : Int).toNat < ts.length by omega)
  have k4 : inR64 ((k : Int) + 1) = true := inR64_mk (by omega)
  have k5 : Sx.inB (k : Int) us.length = true := inB_mk ⟨by omega, by omega⟩
  have k6 := decide_eq_true (show ((k : Nat) : Int).toNat < us.length by omega)
  show (rC (some (a, b, ts)) (some (c, d, us)) (k : Int)).get = bro (neA ts us k) _ _
  unfold neA
  have h1 := qC_ne a b c d ts us (k : Int)
  have h2 := qC_eq a b c d ts us (k : Int)
  generalize (!eqM (elA ts (k : Int)) (elA us (k : Int))) = z at h1 h2 ⊢
  cases z with
  | true => exact Tr.follow_get h1 (by simp only [k1, k2, k3, k5, k6])
  | false => exact Tr.follow_get h2 (by simp only [k1, k2, k3, k4, k5, k6])
def loopC : LoopFn C24 := fun li => match li with
  | ⟨[s, t, .raw (.int .i64 (.ofNat 0)), .raw (.bool false)], nb, os⟩ => match decM s 0 os with
    | some (v, os1) => match decM t (nx v 0) os1 with
      | some (w, []) => match Nat.beq nb (nx w (nx v 0)) with
        | true => .br (decide ((lo v).length ≤ 100000 ∧ (lo w).length = (lo v).length)) (.br (noneP (neA (lo v) (lo w)) (lo v).length) (.leaf (.exit 0, qC v w ((lo v).length : Int))) (.leaf (.ret, qC v w (fstP (neA (lo v) (lo w)) (lo v).length : Int)))) .fail
        | false => .fail
      | _ => .fail
    | none => .fail
  | _ => .fail
theorem lpC : loopOf Try.prog 25 0 = some (((loopOf Try.prog 25 0).get!).1, (loopOf Try.prog 25 0).get!.2) := by kernel_rfl
theorem loopC_ok : ∀ tm hp n x, (loopS [0, 1, 5, 4] [] loopC tm hp n).get = some x → InLoop Try.prog ((loopOf Try.prog 25 0).get!).1 (loopOf Try.prog 25 0).get!.2 tm hp n fun e tm hp n => (e, tm, hp, n) = x := loopS_of fun li r h => by
  unfold loopC at h
  split at h
  · rename_i s t nb os
    split at h
    · rename_i v os1 h1
      split at h
      · rename_i w h2
        split at h
        · rename_i hnb
          obtain ⟨rfl, rfl⟩ := decM_eq h1
          obtain ⟨rfl, rfl⟩ := decM_eq h2
          have hnb := Nat.eq_of_beq_eq_true hnb
          subst hnb
          clear h1 h2
          obtain ⟨hl, hC⟩ := Tr.get_ask.1 h
          clear h
          have hl : (lo v).length ≤ 100000 ∧ (lo w).length = (lo v).length := of_decide_eq_true hl
          have hr : r.2.2 = (qC v w 0).2 := by
            rcases Tr.get_br.1 hC with ⟨_, hD⟩ | ⟨_, hD⟩ <;> (simp only [Tr.get, Option.some.injEq] at hD; subst hD; rfl)
          rw [List.append_nil]
          refine ⟨by rw [hr]; exact keeps_same (by cases v <;> cases w <;> rfl), ?_⟩
          refine scan_li (n := (lo v).length) (stN := fun k => qC v w (k : Int)) (stR := fun k => qC v w (k : Int)) (p := neA (lo v) (lo w)) (d := 10) (unr := fun _ _ => 20) (sp := noSp) (ls := noLs) (b := 0) plain mixed noSp_ok noLs_ok lpC (fun k hk => rC_round hk hl.2 hl.1) ?_ hC
          exact Tr.follow_get (qC_end v w _) (by rw [decide_eq_false (Int.lt_irrefl _)])
        · cases h
      · cases h
    · cases h
  · cases h
theorem qD_ne (a b c d : Bool) (ts us : List Mac) (K : Int) : Tr.follow [Tt,Tt,Tt,Tt,Tt,Tt] (rD (some (a, b, ts)) (some (c, d, us)) K) = some ([decide (K < (ts.length : Int)), inB K ts.length, decide (K.toNat < ts.length), inB K us.length, decide (K.toNat < us.length), !eqM (elA ts K) (elA us K)], (.ret, qD (some (a, b, ts)) (some (c, d, us)) K)) := by kernel_rfl
theorem qD_eq (a b c d : Bool) (ts us : List Mac) (K : Int) : Tr.follow [Tt,Tt,Tt,Tt,Tt,Ff,Tt] (rD (some (a, b, ts)) (some (c, d, us)) K) = some ([decide (K < (ts.length : Int)), inB K ts.length, decide (K.toNat < ts.length), inB K us.length, decide (K.toNat < us.length), !eqM (elA ts K) (elA us K), inR64 (K + 1)], (.normal, qD (some (a, b, ts)) (some (c, d, us)) (K + 1))) := by kernel_rfl
theorem qD_end (v w : Lo Mac) (K : Int) : Tr.follow [Ff] (rD v w K) = some ([decide (K < ((lo v).length : Int))], (.exit 0, qD v w K)) := by cases v <;> cases w <;> kernel_rfl
theorem rD_round {v w : Lo Mac} {k : Nat} (hk : k < (lo v).length) (hu : (lo w).length = (lo v).length) (hl : (lo v).length ≤ 100000) :
    (rD v w (k : Int)).get = bro (neA (lo v) (lo w) k) (some (.ret, qD v w (k : Int))) (some (.normal, qD v w ((k + 1 : Nat) : Int))) := by
  cases v with
  | none => exact absurd hk (Nat.not_lt_zero _)
  | some x =>
  cases w with
  | none => exact absurd (show k < 0 by have : (0 : Nat) = _ := hu; rw [this]; exact hk) (Nat.not_lt_zero _)
  | some y =>
  obtain ⟨a, b, ts⟩ := x
  obtain ⟨c, d, us⟩ := y
  change k < ts.length at hk
  change us.length = ts.length at hu
  change ts.length ≤ 100000 at hl
  have k1 := decide_eq_true (show (k : Int) < (ts.length : Int) by omega)
  have k2 : Sx.inB (k : Int) ts.length = true := inB_mk ⟨by omega, by omega⟩
  have k3 := decide_eq_true (show ((k : Nat) : Int).toNat < ts.length by omega)
  have k4 : inR64 ((k : Int) + 1) = true := inR64_mk (by omega)
  have k5 : Sx.inB (k : Int) us.length = true := inB_mk ⟨by omega, by omega⟩
  have k6 := decide_eq_true (show ((k : Nat) : Int).toNat < us.length by omega)
  show (rD (some (a, b, ts)) (some (c, d, us)) (k : Int)).get = bro (neA ts us k) _ _
  unfold neA
  have h1 := qD_ne a b c d ts us (k : Int)
  have h2 := qD_eq a b c d ts us (k : Int)
  generalize (!eqM (elA ts (k : Int)) (elA us (k : Int))) = z at h1 h2 ⊢
  cases z with
  | true => exact Tr.follow_get h1 (by simp only [k1, k2, k3, k5, k6])
  | false => exact Tr.follow_get h2 (by simp only [k1, k2, k3, k4, k5, k6])
def loopD : LoopFn C24 := fun li => match li with
  | ⟨[s, t, .raw (.int .i64 n), .raw (.int .i64 (.ofNat 0)), .raw (.bool false)], nb, os⟩ => match decM s 0 os with
    | some (v, os1) => match decM t (nx v 0) os1 with
      | some (w, []) => match Nat.beq nb (nx w (nx v 0)) with
        | true => .br (n == ((lo v).length : Int)) (.br (decide ((lo v).length ≤ 100000 ∧ (lo w).length = (lo v).length)) (.br (noneP (neA (lo v) (lo w)) (lo v).length) (.leaf (.exit 0, qD v w ((lo v).length : Int))) (.leaf (.ret, qD v w (fstP (neA (lo v) (lo w)) (lo v).length : Int)))) .fail) .fail
        | false => .fail
      | _ => .fail
    | none => .fail
  | _ => .fail
theorem lpD : loopOf Try.prog 45 0 = some (((loopOf Try.prog 45 0).get!).1, (loopOf Try.prog 45 0).get!.2) := by kernel_rfl
theorem loopD_ok : ∀ tm hp n x, (loopS [0, 1, 12, 13, 4] [] loopD tm hp n).get = some x → InLoop Try.prog ((loopOf Try.prog 45 0).get!).1 (loopOf Try.prog 45 0).get!.2 tm hp n fun e tm hp n => (e, tm, hp, n) = x := loopS_of fun li r h => by
  unfold loopD at h
  split at h
  · rename_i s t n nb os
    split at h
    · rename_i v os1 h1
      split at h
      · rename_i w h2
        split at h
        · rename_i hnb
          obtain ⟨rfl, rfl⟩ := decM_eq h1
          obtain ⟨rfl, rfl⟩ := decM_eq h2
          have hnb := Nat.eq_of_beq_eq_true hnb
          subst hnb
          clear h1 h2
          obtain ⟨hn0, hB⟩ := Tr.get_ask.1 h
          obtain ⟨hl, hC⟩ := Tr.get_ask.1 hB
          clear h hB
          have hn0 := eq_of_beq hn0
          subst hn0
          have hl : (lo v).length ≤ 100000 ∧ (lo w).length = (lo v).length := of_decide_eq_true hl
          have hr : r.2.2 = (qD v w 0).2 := by
            rcases Tr.get_br.1 hC with ⟨_, hD⟩ | ⟨_, hD⟩ <;> (simp only [Tr.get, Option.some.injEq] at hD; subst hD; rfl)
          rw [List.append_nil]
          refine ⟨by rw [hr]; exact keeps_same (by cases v <;> cases w <;> rfl), ?_⟩
          refine scan_li (n := (lo v).length) (stN := fun k => qD v w (k : Int)) (stR := fun k => qD v w (k : Int)) (p := neA (lo v) (lo w)) (d := 10) (unr := fun _ _ => 20) (sp := noSp) (ls := noLs) (b := 0) plain mixed noSp_ok noLs_ok lpD (fun k hk => rD_round hk hl.2 hl.1) ?_ hC
          exact Tr.follow_get (qD_end v w _) (by rw [decide_eq_false (Int.lt_irrefl _)])
        · cases h
      · cases h
    · cases h
  · cases h
def lsE : LoopT C24 := Sx.addL 23 0 (loopS [0, 1, 5, 4] [] loopA) (Sx.addL 46 0 (loopS [0, 1, 12, 13, 4] [] loopB) (Sx.addL 25 0 (loopS [0, 1, 5, 4] [] loopC) (Sx.addL 45 0 (loopS [0, 1, 12, 13, 4] [] loopD) noLs)))
theorem lsE_ok : LoopTOk Try.prog lsE := addL_ok lpA loopA_ok (addL_ok lpB loopB_ok (addL_ok lpC loopC_ok (addL_ok lpD loopD_ok noLs_ok)))
abbrev unE (g b : Nat) : Nat := match g, b with
  | 23, 0 => 0 | 46, 0 => 0 | 25, 0 => 0 | 45, 0 => 0 | _, _ => 20
/-- Lists that are the same. -/
def eqL {α : Type} [DecidableEq α] (ts us : List α) : Bool := decide (ts = us)
theorem eqL_self {α : Type} [DecidableEq α] (ts : List α) : eqL ts ts = true := decide_eq_true rfl
theorem eqL_off {α : Type} [DecidableEq α] {ts us : List α} (h : ts.length ≠ us.length) : eqL ts us = false := decide_eq_false fun e => h (by rw [e])
theorem eqM_iff {x y : Mac} : eqM x y = true ↔ x = y := by
  obtain ⟨a0, a1, a2, a3, a4, a5⟩ := x
  obtain ⟨b0, b1, b2, b3, b4, b5⟩ := y
  simp only [eqM, Bool.and_eq_true, beq_iff_eq, Bool.and_true, Prod.mk.injEq]
theorem eqL_int {ts us : List Int} (h : us.length = ts.length) : eqL ts us = noneP (neI ts us) ts.length := by
  rw [Bool.eq_iff_iff, noneP_iff]
  unfold eqL
  rw [decide_eq_true_iff]
  constructor
  · rintro rfl k hk
    unfold neI
    exact bne_self_eq_false _
  · intro hk
    refine List.ext_getElem h.symm fun i h1 h2 => ?_
    have := hk i h1
    unfold neI at this
    have e1 : elI ts (i : Int) = ts[i] := by show ts.getD i 0 = _; rw [List.getD_eq_getElem?_getD, List.getElem?_eq_getElem h1]; rfl
    have e2 : elI us (i : Int) = us[i] := by show us.getD i 0 = _; rw [List.getD_eq_getElem?_getD, List.getElem?_eq_getElem h2]; rfl
    rw [e1, e2] at this
    simpa using this
theorem eqL_mac {ts us : List Mac} (h : us.length = ts.length) : eqL ts us = noneP (neA ts us) ts.length := by
  rw [Bool.eq_iff_iff, noneP_iff]
  unfold eqL
  rw [decide_eq_true_iff]
  constructor
  · rintro rfl k hk
    unfold neA
    rw [eqM_iff.2 rfl]; rfl
  · intro hk
    refine List.ext_getElem h.symm fun i h1 h2 => ?_
    have := hk i h1
    unfold neA at this
    have e1 : elA ts (i : Int) = ts[i] := by show ts.getD i mac0 = _; rw [List.getD_eq_getElem?_getD, List.getElem?_eq_getElem h1]; rfl
    have e2 : elA us (i : Int) = us[i] := by show us.getD i mac0 = _; rw [List.getD_eq_getElem?_getD, List.getElem?_eq_getElem h2]; rfl
    rw [e1, e2] at this
    exact eqM_iff.1 (by simpa using this)
abbrev fE (g : Nat) (s t : SV) (os : List (SO C24)) := fnC C24 Try.prog noSp lsE unE 10 g [s, t] os
theorem lA_ne (v w : Lo Int) : Tr.follow [Tt] (fE 23 (hS v 0) (hS w (nx v 0)) (obI v ++ obI w)) = some ([((lo v).length : Int) != ((lo w).length : Int)], (.raw (.bool false), [])) := by cases v <;> cases w <;> kernel_rfl
theorem lA_eq (v w : Lo Int) : Tr.follow [Ff,Tt,Tt] (fE 23 (hS v 0) (hS w (nx v 0)) (obI v ++ obI w)) = some ([((lo v).length : Int) != ((lo w).length : Int), decide ((lo v).length ≤ 100000 ∧ (lo w).length = (lo v).length), noneP (neI (lo v) (lo w)) (lo v).length], (.raw (.bool true), [])) := by cases v <;> cases w <;> kernel_rfl
theorem lA_df (v w : Lo Int) : Tr.follow [Ff,Tt,Ff] (fE 23 (hS v 0) (hS w (nx v 0)) (obI v ++ obI w)) = some ([((lo v).length : Int) != ((lo w).length : Int), decide ((lo v).length ≤ 100000 ∧ (lo w).length = (lo v).length), noneP (neI (lo v) (lo w)) (lo v).length], (.raw (.bool false), [])) := by cases v <;> cases w <;> kernel_rfl
def intsT : FnF C24 := fun args os => match args with
  | [s, t] => match decI s 0 os with
    | some (v, os1) => match decI t (nx v 0) os1 with
      | some (w, []) => withL v fun a => withL w fun b => .br (decide (a.length ≤ 100000)) (.leaf (.raw (.bool (eqL a b)), [])) .fail
      | _ => .fail
    | _ => .fail
  | _ => .fail
theorem intsT_ok : ∀ args os r, (intsT args os).get = some r → Fn0 Try.prog 23 args os r := fun args os r h => by
  unfold intsT at h
  split at h
  · rename_i s t
    split at h
    · rename_i v os1 h1
      split at h
      · rename_i w h2
        obtain ⟨rfl, rfl⟩ := decI_eq h1
        obtain ⟨rfl, rfl⟩ := decI_eq h2
        simp only [withL_eq] at h
        obtain ⟨hl, h3⟩ := Tr.get_ask.1 h
        clear h h1 h2
        have hl : (lo v).length ≤ 100000 := of_decide_eq_true hl
        rw [List.append_nil]
        refine fnC_ok (sp := noSp) (ls := lsE) (unr := unE) (d := 10) plain mixed noSp_ok lsE_ok (Eq.trans ?_ h3)
        by_cases he : (lo w).length = (lo v).length
        · have k1 : (((lo v).length : Int) != ((lo w).length : Int)) = false := by rw [he]; exact bne_self_eq_false _
          have k2 : decide ((lo v).length ≤ 100000 ∧ (lo w).length = (lo v).length) = true := decide_eq_true ⟨hl, he⟩
          have k3 : (((lo v).length : Int) == ((lo v).length : Int)) = true := beq_self_eq_true _
          rw [eqL_int he]
          cases hn : noneP (neI (lo v) (lo w)) (lo v).length with
          | true => exact Tr.follow_get (lA_eq v w) (by simp only [k1, k2, k3, hn])
          | false => exact Tr.follow_get (lA_df v w) (by simp only [k1, k2, k3, hn])
        · have k1 : (((lo v).length : Int) != ((lo w).length : Int)) = true := bne_iff_ne.2 fun e => he (by omega)
          rw [eqL_off fun e => he e.symm]
          exact Tr.follow_get (lA_ne v w) (by simp only [k1])
      · cases h
    · cases h
  · cases h
theorem lB_ne (v w : Lo Int) : Tr.follow [Tt] (fE 46 (hS v 0) (hS w (nx v 0)) (obI v ++ obI w)) = some ([((lo v).length : Int) != ((lo w).length : Int)], (.raw (.bool false), [])) := by cases v <;> cases w <;> kernel_rfl
theorem lB_eq (v w : Lo Int) : Tr.follow [Ff,Tt,Tt,Tt] (fE 46 (hS v 0) (hS w (nx v 0)) (obI v ++ obI w)) = some ([((lo v).length : Int) != ((lo w).length : Int), ((lo v).length : Int) == ((lo v).length : Int), decide ((lo v).length ≤ 100000 ∧ (lo w).length = (lo v).length), noneP (neI (lo v) (lo w)) (lo v).length], (.raw (.bool true), [])) := by cases v <;> cases w <;> kernel_rfl
theorem lB_df (v w : Lo Int) : Tr.follow [Ff,Tt,Tt,Ff] (fE 46 (hS v 0) (hS w (nx v 0)) (obI v ++ obI w)) = some ([((lo v).length : Int) != ((lo w).length : Int), ((lo v).length : Int) == ((lo v).length : Int), decide ((lo v).length ≤ 100000 ∧ (lo w).length = (lo v).length), noneP (neI (lo v) (lo w)) (lo v).length], (.raw (.bool false), [])) := by cases v <;> cases w <;> kernel_rfl
def eqiT : FnF C24 := fun args os => match args with
  | [s, t] => match decI s 0 os with
    | some (v, os1) => match decI t (nx v 0) os1 with
      | some (w, []) => withL v fun a => withL w fun b => .br (decide (a.length ≤ 100000)) (.leaf (.raw (.bool (eqL a b)), [])) .fail
      | _ => .fail
    | _ => .fail
  | _ => .fail
theorem eqiT_ok : ∀ args os r, (eqiT args os).get = some r → Fn0 Try.prog 46 args os r := fun args os r h => by
  unfold eqiT at h
  split at h
  · rename_i s t
    split at h
    · rename_i v os1 h1
      split at h
      · rename_i w h2
        obtain ⟨rfl, rfl⟩ := decI_eq h1
        obtain ⟨rfl, rfl⟩ := decI_eq h2
        simp only [withL_eq] at h
        obtain ⟨hl, h3⟩ := Tr.get_ask.1 h
        clear h h1 h2
        have hl : (lo v).length ≤ 100000 := of_decide_eq_true hl
        rw [List.append_nil]
        refine fnC_ok (sp := noSp) (ls := lsE) (unr := unE) (d := 10) plain mixed noSp_ok lsE_ok (Eq.trans ?_ h3)
        by_cases he : (lo w).length = (lo v).length
        · have k1 : (((lo v).length : Int) != ((lo w).length : Int)) = false := by rw [he]; exact bne_self_eq_false _
          have k2 : decide ((lo v).length ≤ 100000 ∧ (lo w).length = (lo v).length) = true := decide_eq_true ⟨hl, he⟩
          have k3 : (((lo v).length : Int) == ((lo v).length : Int)) = true := beq_self_eq_true _
          rw [eqL_int he]
          cases hn : noneP (neI (lo v) (lo w)) (lo v).length with
          | true => exact Tr.follow_get (lB_eq v w) (by simp only [k1, k2, k3, hn])
          | false => exact Tr.follow_get (lB_df v w) (by simp only [k1, k2, k3, hn])
        · have k1 : (((lo v).length : Int) != ((lo w).length : Int)) = true := bne_iff_ne.2 fun e => he (by omega)
          rw [eqL_off fun e => he e.symm]
          exact Tr.follow_get (lB_ne v w) (by simp only [k1])
      · cases h
    · cases h
  · cases h
theorem lC_ne (v w : Lo Mac) : Tr.follow [Tt] (fE 25 (hS v 0) (hS w (nx v 0)) (obM v ++ obM w)) = some ([((lo v).length : Int) != ((lo w).length : Int)], (.raw (.bool false), [])) := by cases v <;> cases w <;> kernel_rfl
theorem lC_eq (v w : Lo Mac) : Tr.follow [Ff,Tt,Tt] (fE 25 (hS v 0) (hS w (nx v 0)) (obM v ++ obM w)) = some ([((lo v).length : Int) != ((lo w).length : Int), decide ((lo v).length ≤ 100000 ∧ (lo w).length = (lo v).length), noneP (neA (lo v) (lo w)) (lo v).length], (.raw (.bool true), [])) := by cases v <;> cases w <;> kernel_rfl
theorem lC_df (v w : Lo Mac) : Tr.follow [Ff,Tt,Ff] (fE 25 (hS v 0) (hS w (nx v 0)) (obM v ++ obM w)) = some ([((lo v).length : Int) != ((lo w).length : Int), decide ((lo v).length ≤ 100000 ∧ (lo w).length = (lo v).length), noneP (neA (lo v) (lo w)) (lo v).length], (.raw (.bool false), [])) := by cases v <;> cases w <;> kernel_rfl
def macsT : FnF C24 := fun args os => match args with
  | [s, t] => match decM s 0 os with
    | some (v, os1) => match decM t (nx v 0) os1 with
      | some (w, []) => withL v fun a => withL w fun b => .br (decide (a.length ≤ 100000)) (.leaf (.raw (.bool (eqL a b)), [])) .fail
      | _ => .fail
    | _ => .fail
  | _ => .fail
theorem macsT_ok : ∀ args os r, (macsT args os).get = some r → Fn0 Try.prog 25 args os r := fun args os r h => by
  unfold macsT at h
  split at h
  · rename_i s t
    split at h
    · rename_i v os1 h1
      split at h
      · rename_i w h2
        obtain ⟨rfl, rfl⟩ := decM_eq h1
        obtain ⟨rfl, rfl⟩ := decM_eq h2
        simp only [withL_eq] at h
        obtain ⟨hl, h3⟩ := Tr.get_ask.1 h
        clear h h1 h2
        have hl : (lo v).length ≤ 100000 := of_decide_eq_true hl
        rw [List.append_nil]
        refine fnC_ok (sp := noSp) (ls := lsE) (unr := unE) (d := 10) plain mixed noSp_ok lsE_ok (Eq.trans ?_ h3)
        by_cases he : (lo w).length = (lo v).length
        · have k1 : (((lo v).length : Int) != ((lo w).length : Int)) = false := by rw [he]; exact bne_self_eq_false _
          have k2 : decide ((lo v).length ≤ 100000 ∧ (lo w).length = (lo v).length) = true := decide_eq_true ⟨hl, he⟩
          have k3 : (((lo v).length : Int) == ((lo v).length : Int)) = true := beq_self_eq_true _
          rw [eqL_mac he]
          cases hn : noneP (neA (lo v) (lo w)) (lo v).length with
          | true => exact Tr.follow_get (lC_eq v w) (by simp only [k1, k2, k3, hn])
          | false => exact Tr.follow_get (lC_df v w) (by simp only [k1, k2, k3, hn])
        · have k1 : (((lo v).length : Int) != ((lo w).length : Int)) = true := bne_iff_ne.2 fun e => he (by omega)
          rw [eqL_off fun e => he e.symm]
          exact Tr.follow_get (lC_ne v w) (by simp only [k1])
      · cases h
    · cases h
  · cases h
theorem lD_ne (v w : Lo Mac) : Tr.follow [Tt] (fE 45 (hS v 0) (hS w (nx v 0)) (obM v ++ obM w)) = some ([((lo v).length : Int) != ((lo w).length : Int)], (.raw (.bool false), [])) := by cases v <;> cases w <;> kernel_rfl
theorem lD_eq (v w : Lo Mac) : Tr.follow [Ff,Tt,Tt,Tt] (fE 45 (hS v 0) (hS w (nx v 0)) (obM v ++ obM w)) = some ([((lo v).length : Int) != ((lo w).length : Int), ((lo v).length : Int) == ((lo v).length : Int), decide ((lo v).length ≤ 100000 ∧ (lo w).length = (lo v).length), noneP (neA (lo v) (lo w)) (lo v).length], (.raw (.bool true), [])) := by cases v <;> cases w <;> kernel_rfl
theorem lD_df (v w : Lo Mac) : Tr.follow [Ff,Tt,Tt,Ff] (fE 45 (hS v 0) (hS w (nx v 0)) (obM v ++ obM w)) = some ([((lo v).length : Int) != ((lo w).length : Int), ((lo v).length : Int) == ((lo v).length : Int), decide ((lo v).length ≤ 100000 ∧ (lo w).length = (lo v).length), noneP (neA (lo v) (lo w)) (lo v).length], (.raw (.bool false), [])) := by cases v <;> cases w <;> kernel_rfl
def eqmT : FnF C24 := fun args os => match args with
  | [s, t] => match decM s 0 os with
    | some (v, os1) => match decM t (nx v 0) os1 with
      | some (w, []) => withL v fun a => withL w fun b => .br (decide (a.length ≤ 100000)) (.leaf (.raw (.bool (eqL a b)), [])) .fail
      | _ => .fail
    | _ => .fail
  | _ => .fail
theorem eqmT_ok : ∀ args os r, (eqmT args os).get = some r → Fn0 Try.prog 45 args os r := fun args os r h => by
  unfold eqmT at h
  split at h
  · rename_i s t
    split at h
    · rename_i v os1 h1
      split at h
      · rename_i w h2
        obtain ⟨rfl, rfl⟩ := decM_eq h1
        obtain ⟨rfl, rfl⟩ := decM_eq h2
        simp only [withL_eq] at h
        obtain ⟨hl, h3⟩ := Tr.get_ask.1 h
        clear h h1 h2
        have hl : (lo v).length ≤ 100000 := of_decide_eq_true hl
        rw [List.append_nil]
        refine fnC_ok (sp := noSp) (ls := lsE) (unr := unE) (d := 10) plain mixed noSp_ok lsE_ok (Eq.trans ?_ h3)
        by_cases he : (lo w).length = (lo v).length
        · have k1 : (((lo v).length : Int) != ((lo w).length : Int)) = false := by rw [he]; exact bne_self_eq_false _
          have k2 : decide ((lo v).length ≤ 100000 ∧ (lo w).length = (lo v).length) = true := decide_eq_true ⟨hl, he⟩
          have k3 : (((lo v).length : Int) == ((lo v).length : Int)) = true := beq_self_eq_true _
          rw [eqL_mac he]
          cases hn : noneP (neA (lo v) (lo w)) (lo v).length with
          | true => exact Tr.follow_get (lD_eq v w) (by simp only [k1, k2, k3, hn])
          | false => exact Tr.follow_get (lD_df v w) (by simp only [k1, k2, k3, hn])
        · have k1 : (((lo v).length : Int) != ((lo w).length : Int)) = true := bne_iff_ne.2 fun e => he (by omega)
          rw [eqL_off fun e => he e.symm]
          exact Tr.follow_get (lD_ne v w) (by simp only [k1])
      · cases h
    · cases h
  · cases h
end
end Go.Proofs.Ytgepgnjjhgmfnaa
namespace Go.Proofs.Ytgepgnjjhgmfnaa
open Go Go.Sx Go.RowKit
set_option maxRecDepth 1000000
set_option maxHeartbeats 8000000
set_option linter.unusedVariables false
noncomputable section
def sfQ : SpecT C24 := addS 23 (seeS intsT) (addS 46 (seeS eqiT) (addS 25 (seeS macsT) (addS 45 (seeS eqmT) noSp)))
theorem sfQ_ok : SpecTOk Try.prog sfQ := addS_ok (seeS_ok intsT_ok) (addS_ok (seeS_ok eqiT_ok) (addS_ok (seeS_ok macsT_ok) (addS_ok (seeS_ok eqmT_ok) noSp_ok)))
abbrev fSm (g : Nat) (F G : Fv) := fnC C24 Try.prog sfQ noLs (fun _ _ => 20) 10 g [.agg (fltC F 0), .agg (fltC G (fltN F 0))] (fltO F ++ fltO G)
end
end Go.Proofs.Ytgepgnjjhgmfnaa
namespace Go.Proofs.Ytgepgnjjhgmfnaa
open Go Go.Sx Go.RowKit
set_option maxRecDepth 1000000
set_option maxHeartbeats 8000000
set_option linter.unusedVariables false
set_option linter.unusedSimpArgs false
noncomputable section
def eqF (F G : Fp) : Bool := sel (eqM F.1 G.1) (sel (F.2.1 == G.2.1) (sel (F.2.2.1 == G.2.2.1) (sel (eqL F.2.2.2.1 G.2.2.2.1) (sel (eqL F.2.2.2.2.1 G.2.2.2.2.1) (eqL F.2.2.2.2.2 G.2.2.2.2.2) false) false) false) false) false
theorem eqF_self (F : Fp) : eqF F F = true := by
  unfold eqF
  rw [eqM_iff.2 rfl, beq_self_eq_true, beq_self_eq_true, eqL_self, eqL_self, eqL_self]; rfl
theorem same_tree (m : Mac) (p q : Bool) (o g : Lo Mac) (v : Lo Int) (m' : Mac) (p' q' : Bool) (o' g' : Lo Mac) (v' : Lo Int) : (fSm 26 (m, p, q, o, g, v) (m', p', q', o', g', v')).get =
  bro (eqM m m') (bro (p == p') (bro (q == q') (bro (decide ((lo o).length ≤ (100000 : Nat))) (bro (eqL (lo o) (lo o')) (bro (decide ((lo g).length ≤ (100000 : Nat))) (bro (eqL (lo g) (lo g')) (bro (decide ((lo v).length ≤ (100000 : Nat))) (some (SV.raw (Value.bool (eqL (lo v) (lo v'))), [])) (none)) (some (SV.raw (Value.bool false), []))) (none)) (some (SV.raw (Value.bool false), []))) (none)) (some (SV.raw (Value.bool false), []))) (some (SV.raw (Value.bool false), []))) (some (SV.raw (Value.bool false), [])) := by
  cases o <;> cases g <;> cases v <;> cases o' <;> cases g' <;> cases v' <;> kernel_rfl
theorem filt_tree (m : Mac) (p q : Bool) (o g : Lo Mac) (v : Lo Int) (m' : Mac) (p' q' : Bool) (o' g' : Lo Mac) (v' : Lo Int) : (fSm 15 (m, p, q, o, g, v) (m', p', q', o', g', v')).get =
  bro (eqM m m') (bro (p == p') (bro (q == q') (bro (decide ((lo o).length ≤ (100000 : Nat))) (bro (eqL (lo o) (lo o')) (bro (decide ((lo g).length ≤ (100000 : Nat))) (bro (eqL (lo g) (lo g')) (bro (decide ((lo v).length ≤ (100000 : Nat))) (some (SV.raw (Value.bool (eqL (lo v) (lo v'))), [])) (none)) (some (SV.raw (Value.bool false), []))) (none)) (some (SV.raw (Value.bool false), []))) (none)) (some (SV.raw (Value.bool false), []))) (some (SV.raw (Value.bool false), []))) (some (SV.raw (Value.bool false), [])) := by
  cases o <;> cases g <;> cases v <;> cases o' <;> cases g' <;> cases v' <;> kernel_rfl
def onFF (args : List SV) (os : List (SO C24)) (k : Fp → Fp → Tr (SV × List (SO C24))) : Tr (SV × List (SO C24)) := match args with
  | [.agg cs, .agg ds] => match decF cs 0 os with
    | some (((x0, x1, x2, x3, x4, x5), p, q, o, g, v), os1) => match decF ds (fltN ((x0, x1, x2, x3, x4, x5), p, q, o, g, v) 0) os1 with
      | some (((y0, y1, y2, y3, y4, y5), p', q', o', g', v'), []) => withL o fun ol => withL g fun gl => withL v fun vl => withL o' fun ol' => withL g' fun gl' => withL v' fun vl' => k ((x0, x1, x2, x3, x4, x5), p, q, ol, gl, vl) ((y0, y1, y2, y3, y4, y5), p', q', ol', gl', vl')
      | _ => .fail
    | _ => .fail
  | _ => .fail
theorem onFF_eq {args : List SV} {os : List (SO C24)} {k : Fp → Fp → Tr (SV × List (SO C24))} {r : SV × List (SO C24)} (h : (onFF args os k).get = some r) : ∃ F G, args = [.agg (fltC F 0), .agg (fltC G (fltN F 0))] ∧ os = fltO F ++ fltO G ∧ (k (plF F) (plF G)).get = some r := by
  unfold onFF at h
  split at h
  · split at h
    · rename_i hF
      obtain ⟨rfl, rfl⟩ := decF_eq hF
      split at h
      · rename_i hG
        obtain ⟨rfl, rfl⟩ := decF_eq hG
        simp only [withL_eq] at h
        exact ⟨_, _, rfl, by rw [List.append_nil], h⟩
      · cases h
    · cases h
  · cases h
def sameT : FnF C24 := fun args os => onFF args os fun F G => .br (smF F) (.leaf (.raw (.bool (eqF F G)), [])) .fail
theorem sameT_ok : ∀ args os r, (sameT args os).get = some r → Fn0 Try.prog 26 args os r := fun args os r h => by
  obtain ⟨F, G, rfl, rfl, h1⟩ := onFF_eq h
  clear h
  obtain ⟨m, p, q, o, g, v⟩ := F
  obtain ⟨m', p', q', o', g', v'⟩ := G
  obtain ⟨hs, h2⟩ := Tr.get_ask.1 h1
  have hs : (lo o).length ≤ 100000 ∧ (lo g).length ≤ 100000 ∧ (lo v).length ≤ 100000 := of_decide_eq_true hs
  refine fnC_ok (sp := sfQ) (ls := noLs) (unr := fun _ _ => 20) (d := 10) plain mixed sfQ_ok noLs_ok (Eq.trans ?_ h2)
  have hT := same_tree m p q o g v m' p' q' o' g' v'
  rw [decide_eq_true hs.1, decide_eq_true hs.2.1, decide_eq_true hs.2.2, bro_true, bro_true, bro_true] at hT
  refine hT.trans ?_
  show _ = some (SV.raw (Value.bool (sel (eqM m m') (sel (p == p') (sel (q == q') (sel (eqL (lo o) (lo o')) (sel (eqL (lo g) (lo g')) (eqL (lo v) (lo v')) false) false) false) false) false)), [])
  rw [broB, broB, broB, broB, broB]
theorem filtT_ok : ∀ args os r, (sameT args os).get = some r → Fn0 Try.prog 15 args os r := fun args os r h => by
  obtain ⟨F, G, rfl, rfl, h1⟩ := onFF_eq h
  clear h
  obtain ⟨m, p, q, o, g, v⟩ := F
  obtain ⟨m', p', q', o', g', v'⟩ := G
  obtain ⟨hs, h2⟩ := Tr.get_ask.1 h1
  have hs : (lo o).length ≤ 100000 ∧ (lo g).length ≤ 100000 ∧ (lo v).length ≤ 100000 := of_decide_eq_true hs
  refine fnC_ok (sp := sfQ) (ls := noLs) (unr := fun _ _ => 20) (d := 10) plain mixed sfQ_ok noLs_ok (Eq.trans ?_ h2)
  have hT := filt_tree m p q o g v m' p' q' o' g' v'
  rw [decide_eq_true hs.1, decide_eq_true hs.2.1, decide_eq_true hs.2.2, bro_true, bro_true, bro_true] at hT
  refine hT.trans ?_
  show _ = some (SV.raw (Value.bool (sel (eqM m m') (sel (p == p') (sel (q == q') (sel (eqL (lo o) (lo o')) (sel (eqL (lo g) (lo g')) (eqL (lo v) (lo v')) false) false) false) false) false)), [])
  rw [broB, broB, broB, broB, broB]
end
end Go.Proofs.Ytgepgnjjhgmfnaa
namespace Go.Proofs.Ytgepgnjjhgmfnaa
open Go Go.Sx Go.RowKit
set_option maxRecDepth 1000000
set_option maxHeartbeats 8000000
set_option linter.unusedVariables false
noncomputable section
def livT : FnF C24 := fun args os => match args, os with
  | [], [] => .leaf (.raw (.bool true), [])
  | _, _ => .fail
theorem livT_ok : ∀ args os r, (livT args os).get = some r → Fn0 Try.prog 9 args os r := fun args os r h => by
  unfold livT at h
  split at h
  · simp only [Tr.get, Option.some.injEq] at h; subst h; exact lives_ok
  · cases h
end
end Go.Proofs.Ytgepgnjjhgmfnaa
namespace Go.Proofs.Ytgepgnjjhgmfnaa
open Go Go.Sx Go.RowKit
set_option maxRecDepth 1000000
set_option maxHeartbeats 8000000
set_option linter.unusedVariables false
set_option linter.unusedSimpArgs false
noncomputable section
theorem ob_n : (fnC C24 Try.prog noSp noLs (fun _ _ => 20) 10 14 [hS (none : Lo Int) 0] (obB none)).get = some (.h 0, [.sl true false 5 []]) := by kernel_rfl
theorem ob_s (a b : Bool) (l : List Int) : (fnC C24 Try.prog noSp noLs (fun _ _ => 20) 10 14 [hS (some (a, b, l)) 0] (obB (some (a, b, l)))).get = bro (roomB (([] : List Int).length + l.length) Try.prog.types[(5 : Nat)].bytes) (some (.h 1, [.sl true false 5 l])) none := by kernel_rfl
theorem ob_a (a : Option Addr) : (fnC C24 Try.prog noSp noLs (fun _ _ => 20) 10 14 [.raw (.slice a 0 0)] []).get = some (.h 0, [.sl true false 5 []]) := by kernel_rfl
theorem bytes5 : Try.prog.types[(5 : Nat)].bytes ≤ 1000 := by
  have h : Nat.ble Try.prog.types[(5 : Nat)].bytes 1000 = true := by kernel_rfl
  exact Nat.le_of_ble_eq_true h
theorem roomY {n : Nat} (h : n ≤ 200000) : roomB n Try.prog.types[(5 : Nat)].bytes = true := decide_eq_true (Nat.le_trans (Nat.mul_le_mul h bytes5) (by decide))
def ownbT : FnF C24 := fun args os => match args with
  | [.raw (.slice a 0 0)] => match os with
    | [] => .br (decide (([] : List Int).length ≤ 100000)) (.leaf (.h 0, [.sl true false 5 []])) .fail
    | _ => .fail
  | [s] => match decB s 0 os with
    | some (b, []) => withL b fun bs => .br (decide (bs.length ≤ 100000)) (.leaf (.h (nx b 0), [.sl true false 5 bs])) .fail
    | _ => .fail
  | _ => .fail
theorem ownbT_ok : ∀ args os r, (ownbT args os).get = some r → Fn0 Try.prog 14 args os r := fun args os r h => by
  unfold ownbT at h
  split at h
  · split at h
    · rename_i a _
      obtain ⟨_, h2⟩ := Tr.get_ask.1 h
      exact fnC_ok (sp := noSp) (ls := noLs) (unr := fun _ _ => 20) (d := 10) plain mixed noSp_ok noLs_ok (Eq.trans (ob_a a) h2)
    · cases h
  · split at h
    · rename_i s hs b hb
      obtain ⟨rfl, rfl⟩ := decB_eq hb
      rw [withL_eq] at h
      obtain ⟨hl, h2⟩ := Tr.get_ask.1 h
      have hl : (lo b).length ≤ 100000 := of_decide_eq_true hl
      refine fnC_ok (sp := noSp) (ls := noLs) (unr := fun _ _ => 20) (d := 10) plain mixed noSp_ok noLs_ok (Eq.trans ?_ h2)
      rw [List.append_nil]
      cases b with
      | none => exact ob_n
      | some x =>
        obtain ⟨a, b, l⟩ := x
        refine (ob_s a b l).trans ?_
        rw [roomY (by change l.length ≤ 100000 at hl; simp only [List.length_nil]; omega)]
        rfl
    · cases h
  · cases h
/-- A list of byte strings, as it is told. -/
abbrev Bs := List ((C24 33).α × Option (Addr × Nat) × List (C24 5).α)
end
end Go.Proofs.Ytgepgnjjhgmfnaa
namespace Go.Proofs.Ytgepgnjjhgmfnaa
open Go Go.Sx Go.RowKit
set_option maxRecDepth 1000000
set_option maxHeartbeats 8000000
set_option linter.unusedVariables false
set_option linter.unusedSimpArgs false
noncomputable section
/-- A yes as a byte. -/
def bitZ (b : Bool) : Int := bif b then 1 else 0
def bitT : FnF C24 := fun args os => match args, os with
  | [.raw (.bool b)], [] => .leaf (.raw (.int .u8 (bitZ b)), [])
  | _, _ => .fail
theorem bitT_ok {g : Nat} (hg : g = 44 ∨ g = 52) : ∀ args os r, (bitT args os).get = some r → Fn0 Try.prog g args os r := fun args os r h => by
  unfold bitT at h
  split at h
  · rename_i b
    simp only [Tr.get, Option.some.injEq] at h
    subst h
    refine fnC_ok (sp := noSp) (ls := noLs) (unr := fun _ _ => 20) (d := 10) plain mixed noSp_ok noLs_ok ?_
    rcases hg with rfl | rfl
    · cases b <;> kernel_rfl
    · cases b <;> kernel_rfl
  · cases h
/-- The answers of both Checks as one number. -/
def chkN (b : Bool) : Int := bif b then 0 else 2
def chkW : FnF C24 := fun args os => onF args os fun F _ => .br (smF F) (.leaf (.raw (.int .i64 (chkN (okF F))), [])) .fail
theorem onF_mono {args : List SV} {os : List (SO C24)} {k k' : Fp → Nat → Tr (SV × List (SO C24))} {r : SV × List (SO C24)} (hk : ∀ F n, (k F n).get = some r → (k' F n).get = some r) (h : (onF args os k).get = some r) : (onF args os k').get = some r := by
  unfold onF at h ⊢
  split at h
  · split at h
    · rename_i hF
      simp only [hF, withL_eq] at h ⊢
      exact hk _ _ h
    · cases h
  · cases h
theorem chkW_get {args : List SV} {os : List (SO C24)} {r : SV × List (SO C24)} (h : (chkW args os).get = some r) : (chkT args os).get = some r := onF_mono (fun F n h => by
  obtain ⟨hs, h2⟩ := Tr.get_ask.1 h
  refine Tr.get_ask.2 ⟨hs, ?_⟩
  revert h2
  cases okF F <;> exact fun h => h) h
theorem chkW_ok : ∀ args os r, (chkW args os).get = some r → Fn0 Try.prog 11 args os r := fun args os r h => chkT_ok args os r (chkW_get h)
theorem rckW_ok : ∀ args os r, (chkW args os).get = some r → Fn0 Try.prog 27 args os r := fun args os r h => rckT_ok args os r (chkW_get h)
def sfK : SpecT C24 := addS 44 (seeS bitT) (addS 52 (seeS bitT) (addS 9 (seeS livT) (addS 10 (seeS lightT) (addS 11 (seeS chkW) (addS 27 (seeS chkW) (addS 16 (seeS passT) (addS 28 (seeS rpassT) (addS 26 (seeS sameT) (addS 15 (seeS sameT) (addS 13 (seeS ownT) (addS 14 (seeS ownbT) (addS 12 (seeS ctrlW) (addS 34 (seeS rctrlT) (addS 20 (seeS tabT) (addS 31 (seeS tabT) noSp)))))))))))))))
theorem sfK_ok : SpecTOk Try.prog sfK := addS_ok (seeS_ok (bitT_ok (.inl rfl))) (addS_ok (seeS_ok (bitT_ok (.inr rfl))) (addS_ok (seeS_ok livT_ok) (addS_ok (seeS_ok lightT_ok) (addS_ok (seeS_ok chkW_ok) (addS_ok (seeS_ok rckW_ok) (addS_ok (seeS_ok passT_ok) (addS_ok (seeS_ok rpassT_ok) (addS_ok (seeS_ok sameT_ok) (addS_ok (seeS_ok filtT_ok) (addS_ok (seeS_ok ownT_ok) (addS_ok (seeS_ok ownbT_ok) (addS_ok (seeS_ok ctrlW_ok) (addS_ok (seeS_ok rctrlT_ok) (addS_ok (seeS_ok (tabT_ok (.inr rfl))) (addS_ok (seeS_ok (tabT_ok (.inl rfl))) noSp_ok)))))))))))))))
end
end Go.Proofs.Ytgepgnjjhgmfnaa
namespace Go.Proofs.Ytgepgnjjhgmfnaa
open Go Go.Sx Go.RowKit
set_option maxRecDepth 1000000
set_option maxHeartbeats 8000000
set_option linter.unusedVariables false
set_option linter.unusedSimpArgs false
noncomputable section
@[reducible] def fcN (F : Fv) (b : Lo Int) : Nat := nx b (fltN F 2)
@[reducible] def fcS (F : Fv) (b : Lo Int) (c1 c2 c3 c4 c5 : List Int) (feats n : Int) (on : Bool) (i : Int) : List SV × List (SO C24) :=
  ([.raw (.int .u64 feats), .raw (.int .i64 n), .raw (.bool on), .h 0, .raw (.bool false), .bs 1 0 6 6, .raw (.int .i64 i), .h (fcN F b + 5)],
   .box (fltC F 2) 26 :: .box [hS b (fltN F 2), .h (fcN F b), .h (fcN F b + 1), .h (fcN F b + 2), .h (fcN F b + 3), .h (fcN F b + 4)] 33 :: (fltO F ++ (obB b ++ [.sl true true 5 c1, .sl true true 5 c2, .sl true false 5 c3, .sl true false 5 c4, .sl true true 5 c5, .gone])))
abbrev fcR (F : Fv) (b : Lo Int) (c1 c2 c3 c4 c5 : List Int) (feats n : Int) (on : Bool) (i : Int) := roundG C24 Try.prog sfK noLs (fun _ _ => 20) 10 8 0 [3, 5, 6, 7, 14, 15, 16, 8] ⟨(fcS F b c1 c2 c3 c4 c5 feats n on i).1, fcN F b + 6, (fcS F b c1 c2 c3 c4 c5 feats n on i).2⟩
end
end Go.Proofs.Ytgepgnjjhgmfnaa
namespace Go.Proofs.Ytgepgnjjhgmfnaa
open Go Go.Sx Go.RowKit
set_option maxRecDepth 1000000
set_option maxHeartbeats 8000000
set_option linter.unusedVariables false
set_option linter.unusedSimpArgs false
noncomputable section
theorem fc0_a (m : Mac) (p q : Bool) (o g : Lo Mac) (v b : Lo Int) (C1 C2 C3 C4 C5 : List Int) (feats n : Int) (on : Bool) : Tr.follow [Tt,Tt,Tt,Tt,Tt,Tt,Ff,Tt,Tt,Tt,Tt,Ff,Ff,Tt,Ff,Ff,Ff,Ff,Tt] (fcR (m, p, q, o, g, v) b C1 C2 C3 C4 C5 feats n on 0) =
  some ([Tt,smF (m, p, q, (lo o), (lo g), (lo v)),Tt,decide ((lo b).length ≤ (100000 : Nat)),smX (lo o) (lo g) (lo v),byB (lo b),(ocK (ctO feats (m, p, q, (lo o), (lo g), (lo v)) (lo b))).beq (3 : Nat),Tt,smX (lo o) (lo g) (lo v),byB (lo b),rcGd feats (lo b) (lo v),(ocK (ctO feats (m, p, q, (lo o), (lo g), (lo v)) (lo b))).beq (3 : Nat),nmB (lo b) (ctO feats (m, p, q, (lo o), (lo g), (lo v)) (lo b)),smF ((ocM (m, p, q, (lo o), (lo g), (lo v)) (ctO feats (m, p, q, (lo o), (lo g), (lo v)) (lo b))), ocP (m, p, q, (lo o), (lo g), (lo v)) (ctO feats (m, p, q, (lo o), (lo g), (lo v)) (lo b)), ocQ (m, p, q, (lo o), (lo g), (lo v)) (ctO feats (m, p, q, (lo o), (lo g), (lo v)) (lo b)), (lo o), (lo g), ocW (m, p, q, (lo o), (lo g), (lo v)) (ctO feats (m, p, q, (lo o), (lo g), (lo v)) (lo b))),!eqF ((ocM (m, p, q, (lo o), (lo g), (lo v)) (ctO feats (m, p, q, (lo o), (lo g), (lo v)) (lo b))), ocP (m, p, q, (lo o), (lo g), (lo v)) (ctO feats (m, p, q, (lo o), (lo g), (lo v)) (lo b)), ocQ (m, p, q, (lo o), (lo g), (lo v)) (ctO feats (m, p, q, (lo o), (lo g), (lo v)) (lo b)), (lo o), (lo g), ocW (m, p, q, (lo o), (lo g), (lo v)) (ctO feats (m, p, q, (lo o), (lo g), (lo v)) (lo b))) ((ocM (m, p, q, (lo o), (lo g), (lo v)) (ctO feats (m, p, q, (lo o), (lo g), (lo v)) (lo b))), ocP (m, p, q, (lo o), (lo g), (lo v)) (ctO feats (m, p, q, (lo o), (lo g), (lo v)) (lo b)), ocQ (m, p, q, (lo o), (lo g), (lo v)) (ctO feats (m, p, q, (lo o), (lo g), (lo v)) (lo b)), (lo o), (lo g), (lo v)),Ff,Ff,ocE (ctO feats (m, p, q, (lo o), (lo g), (lo v)) (lo b)) != ocE (ctO feats (m, p, q, (lo o), (lo g), (lo v)) (lo b)),Tt],
  (Ex.normal, fcS (m, p, q, o, g, v) b C1 C2 C3 C4 C5 feats n on 1)) := by cases o <;> cases g <;> cases v <;> cases b <;> kernel_rfl
theorem fc0_nt (m : Mac) (p q : Bool) (o g : Lo Mac) (v b : Lo Int) (C1 C2 C3 C4 C5 : List Int) (feats n : Int) (on : Bool) : Tr.follow [Tt,Tt,Tt,Tt,Tt,Tt,Ff,Tt,Tt,Tt,Tt,Ff,Tt,Tt,Tt,Ff,Ff,Ff,Ff,Tt] (fcR (m, p, q, o, g, v) b C1 C2 C3 C4 C5 feats n on 0) =
  some ([Tt,smF (m, p, q, (lo o), (lo g), (lo v)),Tt,decide ((lo b).length ≤ (100000 : Nat)),smX (lo o) (lo g) (lo v),byB (lo b),(ocK (ctO feats (m, p, q, (lo o), (lo g), (lo v)) (lo b))).beq (3 : Nat),Tt,smX (lo o) (lo g) (lo v),byB (lo b),rcGd feats (lo b) (lo v),(ocK (ctO feats (m, p, q, (lo o), (lo g), (lo v)) (lo b))).beq (3 : Nat),nmB (lo b) (ctO feats (m, p, q, (lo o), (lo g), (lo v)) (lo b)),(wV (lo v) (lo b)).length.beq (0 : Nat),smF ((ocM (m, p, q, (lo o), (lo g), (lo v)) (ctO feats (m, p, q, (lo o), (lo g), (lo v)) (lo b))), ocP (m, p, q, (lo o), (lo g), (lo v)) (ctO feats (m, p, q, (lo o), (lo g), (lo v)) (lo b)), ocQ (m, p, q, (lo o), (lo g), (lo v)) (ctO feats (m, p, q, (lo o), (lo g), (lo v)) (lo b)), (lo o), (lo g), ocW (m, p, q, (lo o), (lo g), (lo v)) (ctO feats (m, p, q, (lo o), (lo g), (lo v)) (lo b))),!eqF ((ocM (m, p, q, (lo o), (lo g), (lo v)) (ctO feats (m, p, q, (lo o), (lo g), (lo v)) (lo b))), ocP (m, p, q, (lo o), (lo g), (lo v)) (ctO feats (m, p, q, (lo o), (lo g), (lo v)) (lo b)), ocQ (m, p, q, (lo o), (lo g), (lo v)) (ctO feats (m, p, q, (lo o), (lo g), (lo v)) (lo b)), (lo o), (lo g), ocW (m, p, q, (lo o), (lo g), (lo v)) (ctO feats (m, p, q, (lo o), (lo g), (lo v)) (lo b))) (m, p, q, (lo o), (lo g), []),Ff,Ff,ocE (ctO feats (m, p, q, (lo o), (lo g), (lo v)) (lo b)) != (0 : Int),Tt],
  (Ex.normal, fcS (m, p, q, o, g, v) b C1 C2 C3 C4 C5 feats n on 1)) := by cases o <;> cases g <;> cases v <;> cases b <;> kernel_rfl
theorem fc0_nf (m : Mac) (p q : Bool) (o g : Lo Mac) (v b : Lo Int) (C1 C2 C3 C4 C5 : List Int) (feats n : Int) (on : Bool) : Tr.follow [Tt,Tt,Tt,Tt,Tt,Tt,Ff,Tt,Tt,Tt,Tt,Ff,Tt,Ff,Tt,Ff,Ff,Ff,Ff,Tt] (fcR (m, p, q, o, g, v) b C1 C2 C3 C4 C5 feats n on 0) =
  some ([Tt,smF (m, p, q, (lo o), (lo g), (lo v)),Tt,decide ((lo b).length ≤ (100000 : Nat)),smX (lo o) (lo g) (lo v),byB (lo b),(ocK (ctO feats (m, p, q, (lo o), (lo g), (lo v)) (lo b))).beq (3 : Nat),Tt,smX (lo o) (lo g) (lo v),byB (lo b),rcGd feats (lo b) (lo v),(ocK (ctO feats (m, p, q, (lo o), (lo g), (lo v)) (lo b))).beq (3 : Nat),nmB (lo b) (ctO feats (m, p, q, (lo o), (lo g), (lo v)) (lo b)),(wV (lo v) (lo b)).length.beq (0 : Nat),smF ((ocM (m, p, q, (lo o), (lo g), (lo v)) (ctO feats (m, p, q, (lo o), (lo g), (lo v)) (lo b))), ocP (m, p, q, (lo o), (lo g), (lo v)) (ctO feats (m, p, q, (lo o), (lo g), (lo v)) (lo b)), ocQ (m, p, q, (lo o), (lo g), (lo v)) (ctO feats (m, p, q, (lo o), (lo g), (lo v)) (lo b)), (lo o), (lo g), ocW (m, p, q, (lo o), (lo g), (lo v)) (ctO feats (m, p, q, (lo o), (lo g), (lo v)) (lo b))),!eqF ((ocM (m, p, q, (lo o), (lo g), (lo v)) (ctO feats (m, p, q, (lo o), (lo g), (lo v)) (lo b))), ocP (m, p, q, (lo o), (lo g), (lo v)) (ctO feats (m, p, q, (lo o), (lo g), (lo v)) (lo b)), ocQ (m, p, q, (lo o), (lo g), (lo v)) (ctO feats (m, p, q, (lo o), (lo g), (lo v)) (lo b)), (lo o), (lo g), ocW (m, p, q, (lo o), (lo g), (lo v)) (ctO feats (m, p, q, (lo o), (lo g), (lo v)) (lo b))) (m, p, q, (lo o), (lo g), wV (lo v) (lo b)),Ff,Ff,ocE (ctO feats (m, p, q, (lo o), (lo g), (lo v)) (lo b)) != (0 : Int),Tt],
  (Ex.normal, fcS (m, p, q, o, g, v) b C1 C2 C3 C4 C5 feats n on 1)) := by cases o <;> cases g <;> cases v <;> cases b <;> kernel_rfl
theorem fc0_tt (m : Mac) (p q : Bool) (o g : Lo Mac) (v b : Lo Int) (C1 C2 C3 C4 C5 : List Int) (feats n : Int) (on : Bool) : Tr.follow [Tt,Tt,Tt,Tt,Tt,Tt,Tt,Tt,Tt,Tt,Tt,Tt,Tt,Tt,Tt,Tt,Tt,Ff,Ff,Ff,Ff,Tt] (fcR (m, p, q, o, g, v) b C1 C2 C3 C4 C5 feats n on 0) =
  some ([Tt,smF (m, p, q, (lo o), (lo g), (lo v)),Tt,decide ((lo b).length ≤ (100000 : Nat)),smX (lo o) (lo g) (lo v),byB (lo b),(ocK (ctO feats (m, p, q, (lo o), (lo g), (lo v)) (lo b))).beq (3 : Nat),ocX (ctO feats (m, p, q, (lo o), (lo g), (lo v)) (lo b)),ocY (ctO feats (m, p, q, (lo o), (lo g), (lo v)) (lo b)),Tt,smX (lo o) (lo g) (lo v),byB (lo b),rcGd feats (lo b) (lo v),(ocK (ctO feats (m, p, q, (lo o), (lo g), (lo v)) (lo b))).beq (3 : Nat),ocX (ctO feats (m, p, q, (lo o), (lo g), (lo v)) (lo b)),ocY (ctO feats (m, p, q, (lo o), (lo g), (lo v)) (lo b)),smF (m, p, q, [], [], (lo v)),!eqF (m, p, q, [], [], (lo v)) (m, p, q, [], [], (lo v)),Ff,Ff,Ff,Tt],
  (Ex.normal, fcS (m, p, q, o, g, v) b C1 C2 C3 C4 C5 feats n on 1)) := by cases o <;> cases g <;> cases v <;> cases b <;> kernel_rfl
theorem fc0_tf (m : Mac) (p q : Bool) (o g : Lo Mac) (v b : Lo Int) (C1 C2 C3 C4 C5 : List Int) (feats n : Int) (on : Bool) : Tr.follow [Tt,Tt,Tt,Tt,Tt,Tt,Tt,Tt,Ff,Tt,Tt,Tt,Tt,Tt,Tt,Ff,Tt,Ff,Ff,Ff,Ff,Tt] (fcR (m, p, q, o, g, v) b C1 C2 C3 C4 C5 feats n on 0) =
  some ([Tt,smF (m, p, q, (lo o), (lo g), (lo v)),Tt,decide ((lo b).length ≤ (100000 : Nat)),smX (lo o) (lo g) (lo v),byB (lo b),(ocK (ctO feats (m, p, q, (lo o), (lo g), (lo v)) (lo b))).beq (3 : Nat),ocX (ctO feats (m, p, q, (lo o), (lo g), (lo v)) (lo b)),ocY (ctO feats (m, p, q, (lo o), (lo g), (lo v)) (lo b)),Tt,smX (lo o) (lo g) (lo v),byB (lo b),rcGd feats (lo b) (lo v),(ocK (ctO feats (m, p, q, (lo o), (lo g), (lo v)) (lo b))).beq (3 : Nat),ocX (ctO feats (m, p, q, (lo o), (lo g), (lo v)) (lo b)),ocY (ctO feats (m, p, q, (lo o), (lo g), (lo v)) (lo b)),smF (m, p, q, [], ocG (ctO feats (m, p, q, (lo o), (lo g), (lo v)) (lo b)), (lo v)),!eqF (m, p, q, [], ocG (ctO feats (m, p, q, (lo o), (lo g), (lo v)) (lo b)), (lo v)) (m, p, q, [], ocG (ctO feats (m, p, q, (lo o), (lo g), (lo v)) (lo b)), (lo v)),Ff,Ff,Ff,Tt],
  (Ex.normal, fcS (m, p, q, o, g, v) b C1 C2 C3 C4 C5 feats n on 1)) := by cases o <;> cases g <;> cases v <;> cases b <;> kernel_rfl
theorem fc0_ft (m : Mac) (p q : Bool) (o g : Lo Mac) (v b : Lo Int) (C1 C2 C3 C4 C5 : List Int) (feats n : Int) (on : Bool) : Tr.follow [Tt,Tt,Tt,Tt,Tt,Tt,Tt,Ff,Tt,Tt,Tt,Tt,Tt,Tt,Ff,Tt,Tt,Ff,Ff,Ff,Ff,Tt] (fcR (m, p, q, o, g, v) b C1 C2 C3 C4 C5 feats n on 0) =
  some ([Tt,smF (m, p, q, (lo o), (lo g), (lo v)),Tt,decide ((lo b).length ≤ (100000 : Nat)),smX (lo o) (lo g) (lo v),byB (lo b),(ocK (ctO feats (m, p, q, (lo o), (lo g), (lo v)) (lo b))).beq (3 : Nat),ocX (ctO feats (m, p, q, (lo o), (lo g), (lo v)) (lo b)),ocY (ctO feats (m, p, q, (lo o), (lo g), (lo v)) (lo b)),Tt,smX (lo o) (lo g) (lo v),byB (lo b),rcGd feats (lo b) (lo v),(ocK (ctO feats (m, p, q, (lo o), (lo g), (lo v)) (lo b))).beq (3 : Nat),ocX (ctO feats (m, p, q, (lo o), (lo g), (lo v)) (lo b)),ocY (ctO feats (m, p, q, (lo o), (lo g), (lo v)) (lo b)),smF (m, p, q, ocO (ctO feats (m, p, q, (lo o), (lo g), (lo v)) (lo b)), [], (lo v)),!eqF (m, p, q, ocO (ctO feats (m, p, q, (lo o), (lo g), (lo v)) (lo b)), [], (lo v)) (m, p, q, ocO (ctO feats (m, p, q, (lo o), (lo g), (lo v)) (lo b)), [], (lo v)),Ff,Ff,Ff,Tt],
  (Ex.normal, fcS (m, p, q, o, g, v) b C1 C2 C3 C4 C5 feats n on 1)) := by cases o <;> cases g <;> cases v <;> cases b <;> kernel_rfl
theorem fc0_ff (m : Mac) (p q : Bool) (o g : Lo Mac) (v b : Lo Int) (C1 C2 C3 C4 C5 : List Int) (feats n : Int) (on : Bool) : Tr.follow [Tt,Tt,Tt,Tt,Tt,Tt,Tt,Ff,Ff,Tt,Tt,Tt,Tt,Tt,Ff,Ff,Tt,Ff,Ff,Ff,Ff,Tt] (fcR (m, p, q, o, g, v) b C1 C2 C3 C4 C5 feats n on 0) =
  some ([Tt,smF (m, p, q, (lo o), (lo g), (lo v)),Tt,decide ((lo b).length ≤ (100000 : Nat)),smX (lo o) (lo g) (lo v),byB (lo b),(ocK (ctO feats (m, p, q, (lo o), (lo g), (lo v)) (lo b))).beq (3 : Nat),ocX (ctO feats (m, p, q, (lo o), (lo g), (lo v)) (lo b)),ocY (ctO feats (m, p, q, (lo o), (lo g), (lo v)) (lo b)),Tt,smX (lo o) (lo g) (lo v),byB (lo b),rcGd feats (lo b) (lo v),(ocK (ctO feats (m, p, q, (lo o), (lo g), (lo v)) (lo b))).beq (3 : Nat),ocX (ctO feats (m, p, q, (lo o), (lo g), (lo v)) (lo b)),ocY (ctO feats (m, p, q, (lo o), (lo g), (lo v)) (lo b)),smF (m, p, q, ocO (ctO feats (m, p, q, (lo o), (lo g), (lo v)) (lo b)), ocG (ctO feats (m, p, q, (lo o), (lo g), (lo v)) (lo b)), (lo v)),!eqF (m, p, q, ocO (ctO feats (m, p, q, (lo o), (lo g), (lo v)) (lo b)), ocG (ctO feats (m, p, q, (lo o), (lo g), (lo v)) (lo b)), (lo v)) (m, p, q, ocO (ctO feats (m, p, q, (lo o), (lo g), (lo v)) (lo b)), ocG (ctO feats (m, p, q, (lo o), (lo g), (lo v)) (lo b)), (lo v)),Ff,Ff,Ff,Tt],
  (Ex.normal, fcS (m, p, q, o, g, v) b C1 C2 C3 C4 C5 feats n on 1)) := by cases o <;> cases g <;> cases v <;> cases b <;> kernel_rfl
end
end Go.Proofs.Ytgepgnjjhgmfnaa
namespace Go.Proofs.Ytgepgnjjhgmfnaa
open Go Go.Sx Go.RowKit
set_option maxRecDepth 1000000
set_option maxHeartbeats 8000000
set_option linter.unusedVariables false
set_option linter.unusedSimpArgs false
noncomputable section
theorem fc1_a (m : Mac) (p q : Bool) (o g : Lo Mac) (v b : Lo Int) (C1 C2 C3 C4 C5 : List Int) (feats n : Int) (on : Bool) : Tr.follow [Tt,Tt,Tt,Tt,Tt,Tt,Ff,Tt,Tt,Tt,Tt,Ff,Ff,Tt,Ff,Ff,Ff,Ff,Tt] (fcR (m, p, q, o, g, v) b C1 C2 C3 C4 C5 feats n on 1) =
  some ([Tt,smF (m, p, q, (lo o), (lo g), (lo v)),Tt,decide (C1.length ≤ (100000 : Nat)),smX (lo o) (lo g) (lo v),byB C1,(ocK (ctO feats (m, p, q, (lo o), (lo g), (lo v)) C1)).beq (3 : Nat),Tt,smX (lo o) (lo g) (lo v),byB C1,rcGd feats C1 (lo v),(ocK (ctO feats (m, p, q, (lo o), (lo g), (lo v)) C1)).beq (3 : Nat),nmB C1 (ctO feats (m, p, q, (lo o), (lo g), (lo v)) C1),smF ((ocM (m, p, q, (lo o), (lo g), (lo v)) (ctO feats (m, p, q, (lo o), (lo g), (lo v)) C1)), ocP (m, p, q, (lo o), (lo g), (lo v)) (ctO feats (m, p, q, (lo o), (lo g), (lo v)) C1), ocQ (m, p, q, (lo o), (lo g), (lo v)) (ctO feats (m, p, q, (lo o), (lo g), (lo v)) C1), (lo o), (lo g), ocW (m, p, q, (lo o), (lo g), (lo v)) (ctO feats (m, p, q, (lo o), (lo g), (lo v)) C1)),!eqF ((ocM (m, p, q, (lo o), (lo g), (lo v)) (ctO feats (m, p, q, (lo o), (lo g), (lo v)) C1)), ocP (m, p, q, (lo o), (lo g), (lo v)) (ctO feats (m, p, q, (lo o), (lo g), (lo v)) C1), ocQ (m, p, q, (lo o), (lo g), (lo v)) (ctO feats (m, p, q, (lo o), (lo g), (lo v)) C1), (lo o), (lo g), ocW (m, p, q, (lo o), (lo g), (lo v)) (ctO feats (m, p, q, (lo o), (lo g), (lo v)) C1)) ((ocM (m, p, q, (lo o), (lo g), (lo v)) (ctO feats (m, p, q, (lo o), (lo g), (lo v)) C1)), ocP (m, p, q, (lo o), (lo g), (lo v)) (ctO feats (m, p, q, (lo o), (lo g), (lo v)) C1), ocQ (m, p, q, (lo o), (lo g), (lo v)) (ctO feats (m, p, q, (lo o), (lo g), (lo v)) C1), (lo o), (lo g), (lo v)),Ff,Ff,ocE (ctO feats (m, p, q, (lo o), (lo g), (lo v)) C1) != ocE (ctO feats (m, p, q, (lo o), (lo g), (lo v)) C1),Tt],
  (Ex.normal, fcS (m, p, q, o, g, v) b C1 C2 C3 C4 C5 feats n on 2)) := by cases o <;> cases g <;> cases v <;> cases b <;> kernel_rfl
theorem fc1_nt (m : Mac) (p q : Bool) (o g : Lo Mac) (v b : Lo Int) (C1 C2 C3 C4 C5 : List Int) (feats n : Int) (on : Bool) : Tr.follow [Tt,Tt,Tt,Tt,Tt,Tt,Ff,Tt,Tt,Tt,Tt,Ff,Tt,Tt,Tt,Ff,Ff,Ff,Ff,Tt] (fcR (m, p, q, o, g, v) b C1 C2 C3 C4 C5 feats n on 1) =
  some ([Tt,smF (m, p, q, (lo o), (lo g), (lo v)),Tt,decide (C1.length ≤ (100000 : Nat)),smX (lo o) (lo g) (lo v),byB C1,(ocK (ctO feats (m, p, q, (lo o), (lo g), (lo v)) C1)).beq (3 : Nat),Tt,smX (lo o) (lo g) (lo v),byB C1,rcGd feats C1 (lo v),(ocK (ctO feats (m, p, q, (lo o), (lo g), (lo v)) C1)).beq (3 : Nat),nmB C1 (ctO feats (m, p, q, (lo o), (lo g), (lo v)) C1),(wV (lo v) C1).length.beq (0 : Nat),smF ((ocM (m, p, q, (lo o), (lo g), (lo v)) (ctO feats (m, p, q, (lo o), (lo g), (lo v)) C1)), ocP (m, p, q, (lo o), (lo g), (lo v)) (ctO feats (m, p, q, (lo o), (lo g), (lo v)) C1), ocQ (m, p, q, (lo o), (lo g), (lo v)) (ctO feats (m, p, q, (lo o), (lo g), (lo v)) C1), (lo o), (lo g), ocW (m, p, q, (lo o), (lo g), (lo v)) (ctO feats (m, p, q, (lo o), (lo g), (lo v)) C1)),!eqF ((ocM (m, p, q, (lo o), (lo g), (lo v)) (ctO feats (m, p, q, (lo o), (lo g), (lo v)) C1)), ocP (m, p, q, (lo o), (lo g), (lo v)) (ctO feats (m, p, q, (lo o), (lo g), (lo v)) C1), ocQ (m, p, q, (lo o), (lo g), (lo v)) (ctO feats (m, p, q, (lo o), (lo g), (lo v)) C1), (lo o), (lo g), ocW (m, p, q, (lo o), (lo g), (lo v)) (ctO feats (m, p, q, (lo o), (lo g), (lo v)) C1)) (m, p, q, (lo o), (lo g), []),Ff,Ff,ocE (ctO feats (m, p, q, (lo o), (lo g), (lo v)) C1) != (0 : Int),Tt],
  (Ex.normal, fcS (m, p, q, o, g, v) b C1 C2 C3 C4 C5 feats n on 2)) := by cases o <;> cases g <;> cases v <;> cases b <;> kernel_rfl
theorem fc1_nf (m : Mac) (p q : Bool) (o g : Lo Mac) (v b : Lo Int) (C1 C2 C3 C4 C5 : List Int) (feats n : Int) (on : Bool) : Tr.follow [Tt,Tt,Tt,Tt,Tt,Tt,Ff,Tt,Tt,Tt,Tt,Ff,Tt,Ff,Tt,Ff,Ff,Ff,Ff,Tt] (fcR (m, p, q, o, g, v) b C1 C2 C3 C4 C5 feats n on 1) =
  some ([Tt,smF (m, p, q, (lo o), (lo g), (lo v)),Tt,decide (C1.length ≤ (100000 : Nat)),smX (lo o) (lo g) (lo v),byB C1,(ocK (ctO feats (m, p, q, (lo o), (lo g), (lo v)) C1)).beq (3 : Nat),Tt,smX (lo o) (lo g) (lo v),byB C1,rcGd feats C1 (lo v),(ocK (ctO feats (m, p, q, (lo o), (lo g), (lo v)) C1)).beq (3 : Nat),nmB C1 (ctO feats (m, p, q, (lo o), (lo g), (lo v)) C1),(wV (lo v) C1).length.beq (0 : Nat),smF ((ocM (m, p, q, (lo o), (lo g), (lo v)) (ctO feats (m, p, q, (lo o), (lo g), (lo v)) C1)), ocP (m, p, q, (lo o), (lo g), (lo v)) (ctO feats (m, p, q, (lo o), (lo g), (lo v)) C1), ocQ (m, p, q, (lo o), (lo g), (lo v)) (ctO feats (m, p, q, (lo o), (lo g), (lo v)) C1), (lo o), (lo g), ocW (m, p, q, (lo o), (lo g), (lo v)) (ctO feats (m, p, q, (lo o), (lo g), (lo v)) C1)),!eqF ((ocM (m, p, q, (lo o), (lo g), (lo v)) (ctO feats (m, p, q, (lo o), (lo g), (lo v)) C1)), ocP (m, p, q, (lo o), (lo g), (lo v)) (ctO feats (m, p, q, (lo o), (lo g), (lo v)) C1), ocQ (m, p, q, (lo o), (lo g), (lo v)) (ctO feats (m, p, q, (lo o), (lo g), (lo v)) C1), (lo o), (lo g), ocW (m, p, q, (lo o), (lo g), (lo v)) (ctO feats (m, p, q, (lo o), (lo g), (lo v)) C1)) (m, p, q, (lo o), (lo g), wV (lo v) C1),Ff,Ff,ocE (ctO feats (m, p, q, (lo o), (lo g), (lo v)) C1) != (0 : Int),Tt],
  (Ex.normal, fcS (m, p, q, o, g, v) b C1 C2 C3 C4 C5 feats n on 2)) := by cases o <;> cases g <;> cases v <;> cases b <;> kernel_rfl
theorem fc1_tt (m : Mac) (p q : Bool) (o g : Lo Mac) (v b : Lo Int) (C1 C2 C3 C4 C5 : List Int) (feats n : Int) (on : Bool) : Tr.follow [Tt,Tt,Tt,Tt,Tt,Tt,Tt,Tt,Tt,Tt,Tt,Tt,Tt,Tt,Tt,Tt,Tt,Ff,Ff,Ff,Ff,Tt] (fcR (m, p, q, o, g, v) b C1 C2 C3 C4 C5 feats n on 1) =
  some ([Tt,smF (m, p, q, (lo o), (lo g), (lo v)),Tt,decide (C1.length ≤ (100000 : Nat)),smX (lo o) (lo g) (lo v),byB C1,(ocK (ctO feats (m, p, q, (lo o), (lo g), (lo v)) C1)).beq (3 : Nat),ocX (ctO feats (m, p, q, (lo o), (lo g), (lo v)) C1),ocY (ctO feats (m, p, q, (lo o), (lo g), (lo v)) C1),Tt,smX (lo o) (lo g) (lo v),byB C1,rcGd feats C1 (lo v),(ocK (ctO feats (m, p, q, (lo o), (lo g), (lo v)) C1)).beq (3 : Nat),ocX (ctO feats (m, p, q, (lo o), (lo g), (lo v)) C1),ocY (ctO feats (m, p, q, (lo o), (lo g), (lo v)) C1),smF (m, p, q, [], [], (lo v)),!eqF (m, p, q, [], [], (lo v)) (m, p, q, [], [], (lo v)),Ff,Ff,Ff,Tt],
  (Ex.normal, fcS (m, p, q, o, g, v) b C1 C2 C3 C4 C5 feats n on 2)) := by cases o <;> cases g <;> cases v <;> cases b <;> kernel_rfl
theorem fc1_tf (m : Mac) (p q : Bool) (o g : Lo Mac) (v b : Lo Int) (C1 C2 C3 C4 C5 : List Int) (feats n : Int) (on : Bool) : Tr.follow [Tt,Tt,Tt,Tt,Tt,Tt,Tt,Tt,Ff,Tt,Tt,Tt,Tt,Tt,Tt,Ff,Tt,Ff,Ff,Ff,Ff,Tt] (fcR (m, p, q, o, g, v) b C1 C2 C3 C4 C5 feats n on 1) =
  some ([Tt,smF (m, p, q, (lo o), (lo g), (lo v)),Tt,decide (C1.length ≤ (100000 : Nat)),smX (lo o) (lo g) (lo v),byB C1,(ocK (ctO feats (m, p, q, (lo o), (lo g), (lo v)) C1)).beq (3 : Nat),ocX (ctO feats (m, p, q, (lo o), (lo g), (lo v)) C1),ocY (ctO feats (m, p, q, (lo o), (lo g), (lo v)) C1),Tt,smX (lo o) (lo g) (lo v),byB C1,rcGd feats C1 (lo v),(ocK (ctO feats (m, p, q, (lo o), (lo g), (lo v)) C1)).beq (3 : Nat),ocX (ctO feats (m, p, q, (lo o), (lo g), (lo v)) C1),ocY (ctO feats (m, p, q, (lo o), (lo g), (lo v)) C1),smF (m, p, q, [], ocG (ctO feats (m, p, q, (lo o), (lo g), (lo v)) C1), (lo v)),!eqF (m, p, q, [], ocG (ctO feats (m, p, q, (lo o), (lo g), (lo v)) C1), (lo v)) (m, p, q, [], ocG (ctO feats (m, p, q, (lo o), (lo g), (lo v)) C1), (lo v)),Ff,Ff,Ff,Tt],
  (Ex.normal, fcS (m, p, q, o, g, v) b C1 C2 C3 C4 C5 feats n on 2)) := by cases o <;> cases g <;> cases v <;> cases b <;> kernel_rfl
theorem fc1_ft (m : Mac) (p q : Bool) (o g : Lo Mac) (v b : Lo Int) (C1 C2 C3 C4 C5 : List Int) (feats n : Int) (on : Bool) : Tr.follow [Tt,Tt,Tt,Tt,Tt,Tt,Tt,Ff,Tt,Tt,Tt,Tt,Tt,Tt,Ff,Tt,Tt,Ff,Ff,Ff,Ff,Tt] (fcR (m, p, q, o, g, v) b C1 C2 C3 C4 C5 feats n on 1) =
  some ([Tt,smF (m, p, q, (lo o), (lo g), (lo v)),Tt,decide (C1.length ≤ (100000 : Nat)),smX (lo o) (lo g) (lo v),byB C1,(ocK (ctO feats (m, p, q, (lo o), (lo g), (lo v)) C1)).beq (3 : Nat),ocX (ctO feats (m, p, q, (lo o), (lo g), (lo v)) C1),ocY (ctO feats (m, p, q, (lo o), (lo g), (lo v)) C1),Tt,smX (lo o) (lo g) (lo v),byB C1,rcGd feats C1 (lo v),(ocK (ctO feats (m, p, q, (lo o), (lo g), (lo v)) C1)).beq (3 : Nat),ocX (ctO feats (m, p, q, (lo o), (lo g), (lo v)) C1),ocY (ctO feats (m, p, q, (lo o), (lo g), (lo v)) C1),smF (m, p, q, ocO (ctO feats (m, p, q, (lo o), (lo g), (lo v)) C1), [], (lo v)),!eqF (m, p, q, ocO (ctO feats (m, p, q, (lo o), (lo g), (lo v)) C1), [], (lo v)) (m, p, q, ocO (ctO feats (m, p, q, (lo o), (lo g), (lo v)) C1), [], (lo v)),Ff,Ff,Ff,Tt],
  (Ex.normal, fcS (m, p, q, o, g, v) b C1 C2 C3 C4 C5 feats n on 2)) := by cases o <;> cases g <;> cases v <;> cases b <;> kernel_rfl
theorem fc1_ff (m : Mac) (p q : Bool) (o g : Lo Mac) (v b : Lo Int) (C1 C2 C3 C4 C5 : List Int) (feats n : Int) (on : Bool) : Tr.follow [Tt,Tt,Tt,Tt,Tt,Tt,Tt,Ff,Ff,Tt,Tt,Tt,Tt,Tt,Ff,Ff,Tt,Ff,Ff,Ff,Ff,Tt] (fcR (m, p, q, o, g, v) b C1 C2 C3 C4 C5 feats n on 1) =
  some ([Tt,smF (m, p, q, (lo o), (lo g), (lo v)),Tt,decide (C1.length ≤ (100000 : Nat)),smX (lo o) (lo g) (lo v),byB C1,(ocK (ctO feats (m, p, q, (lo o), (lo g), (lo v)) C1)).beq (3 : Nat),ocX (ctO feats (m, p, q, (lo o), (lo g), (lo v)) C1),ocY (ctO feats (m, p, q, (lo o), (lo g), (lo v)) C1),Tt,smX (lo o) (lo g) (lo v),byB C1,rcGd feats C1 (lo v),(ocK (ctO feats (m, p, q, (lo o), (lo g), (lo v)) C1)).beq (3 : Nat),ocX (ctO feats (m, p, q, (lo o), (lo g), (lo v)) C1),ocY (ctO feats (m, p, q, (lo o), (lo g), (lo v)) C1),smF (m, p, q, ocO (ctO feats (m, p, q, (lo o), (lo g), (lo v)) C1), ocG (ctO feats (m, p, q, (lo o), (lo g), (lo v)) C1), (lo v)),!eqF (m, p, q, ocO (ctO feats (m, p, q, (lo o), (lo g), (lo v)) C1), ocG (ctO feats (m, p, q, (lo o), (lo g), (lo v)) C1), (lo v)) (m, p, q, ocO (ctO feats (m, p, q, (lo o), (lo g), (lo v)) C1), ocG (ctO feats (m, p, q, (lo o), (lo g), (lo v)) C1), (lo v)),Ff,Ff,Ff,Tt],
  (Ex.normal, fcS (m, p, q, o, g, v) b C1 C2 C3 C4 C5 feats n on 2)) := by cases o <;> cases g <;> cases v <;> cases b <;> kernel_rfl
end
end Go.Proofs.Ytgepgnjjhgmfnaa
namespace Go.Proofs.Ytgepgnjjhgmfnaa
open Go Go.Sx Go.RowKit
set_option maxRecDepth 1000000
set_option maxHeartbeats 8000000
set_option linter.unusedVariables false
set_option linter.unusedSimpArgs false
noncomputable section
theorem fc2_a (m : Mac) (p q : Bool) (o g : Lo Mac) (v b : Lo Int) (C1 C2 C3 C4 C5 : List Int) (feats n : Int) (on : Bool) : Tr.follow [Tt,Tt,Tt,Tt,Tt,Tt,Ff,Tt,Tt,Tt,Tt,Ff,Ff,Tt,Ff,Ff,Ff,Ff,Tt] (fcR (m, p, q, o, g, v) b C1 C2 C3 C4 C5 feats n on 2) =
  some ([Tt,smF (m, p, q, (lo o), (lo g), (lo v)),Tt,decide (C2.length ≤ (100000 : Nat)),smX (lo o) (lo g) (lo v),byB C2,(ocK (ctO feats (m, p, q, (lo o), (lo g), (lo v)) C2)).beq (3 : Nat),Tt,smX (lo o) (lo g) (lo v),byB C2,rcGd feats C2 (lo v),(ocK (ctO feats (m, p, q, (lo o), (lo g), (lo v)) C2)).beq (3 : Nat),nmB C2 (ctO feats (m, p, q, (lo o), (lo g), (lo v)) C2),smF ((ocM (m, p, q, (lo o), (lo g), (lo v)) (ctO feats (m, p, q, (lo o), (lo g), (lo v)) C2)), ocP (m, p, q, (lo o), (lo g), (lo v)) (ctO feats (m, p, q, (lo o), (lo g), (lo v)) C2), ocQ (m, p, q, (lo o), (lo g), (lo v)) (ctO feats (m, p, q, (lo o), (lo g), (lo v)) C2), (lo o), (lo g), ocW (m, p, q, (lo o), (lo g), (lo v)) (ctO feats (m, p, q, (lo o), (lo g), (lo v)) C2)),!eqF ((ocM (m, p, q, (lo o), (lo g), (lo v)) (ctO feats (m, p, q, (lo o), (lo g), (lo v)) C2)), ocP (m, p, q, (lo o), (lo g), (lo v)) (ctO feats (m, p, q, (lo o), (lo g), (lo v)) C2), ocQ (m, p, q, (lo o), (lo g), (lo v)) (ctO feats (m, p, q, (lo o), (lo g), (lo v)) C2), (lo o), (lo g), ocW (m, p, q, (lo o), (lo g), (lo v)) (ctO feats (m, p, q, (lo o), (lo g), (lo v)) C2)) ((ocM (m, p, q, (lo o), (lo g), (lo v)) (ctO feats (m, p, q, (lo o), (lo g), (lo v)) C2)), ocP (m, p, q, (lo o), (lo g), (lo v)) (ctO feats (m, p, q, (lo o), (lo g), (lo v)) C2), ocQ (m, p, q, (lo o), (lo g), (lo v)) (ctO feats (m, p, q, (lo o), (lo g), (lo v)) C2), (lo o), (lo g), (lo v)),Ff,Ff,ocE (ctO feats (m, p, q, (lo o), (lo g), (lo v)) C2) != ocE (ctO feats (m, p, q, (lo o), (lo g), (lo v)) C2),Tt],
  (Ex.normal, fcS (m, p, q, o, g, v) b C1 C2 C3 C4 C5 feats n on 3)) := by cases o <;> cases g <;> cases v <;> cases b <;> kernel_rfl
theorem fc2_nt (m : Mac) (p q : Bool) (o g : Lo Mac) (v b : Lo Int) (C1 C2 C3 C4 C5 : List Int) (feats n : Int) (on : Bool) : Tr.follow [Tt,Tt,Tt,Tt,Tt,Tt,Ff,Tt,Tt,Tt,Tt,Ff,Tt,Tt,Tt,Ff,Ff,Ff,Ff,Tt] (fcR (m, p, q, o, g, v) b C1 C2 C3 C4 C5 feats n on 2) =
  some ([Tt,smF (m, p, q, (lo o), (lo g), (lo v)),Tt,decide (C2.length ≤ (100000 : Nat)),smX (lo o) (lo g) (lo v),byB C2,(ocK (ctO feats (m, p, q, (lo o), (lo g), (lo v)) C2)).beq (3 : Nat),Tt,smX (lo o) (lo g) (lo v),byB C2,rcGd feats C2 (lo v),(ocK (ctO feats (m, p, q, (lo o), (lo g), (lo v)) C2)).beq (3 : Nat),nmB C2 (ctO feats (m, p, q, (lo o), (lo g), (lo v)) C2),(wV (lo v) C2).length.beq (0 : Nat),smF ((ocM (m, p, q, (lo o), (lo g), (lo v)) (ctO feats (m, p, q, (lo o), (lo g), (lo v)) C2)), ocP (m, p, q, (lo o), (lo g), (lo v)) (ctO feats (m, p, q, (lo o), (lo g), (lo v)) C2), ocQ (m, p, q, (lo o), (lo g), (lo v)) (ctO feats (m, p, q, (lo o), (lo g), (lo v)) C2), (lo o), (lo g), ocW (m, p, q, (lo o), (lo g), (lo v)) (ctO feats (m, p, q, (lo o), (lo g), (lo v)) C2)),!eqF ((ocM (m, p, q, (lo o), (lo g), (lo v)) (ctO feats (m, p, q, (lo o), (lo g), (lo v)) C2)), ocP (m, p, q, (lo o), (lo g), (lo v)) (ctO feats (m, p, q, (lo o), (lo g), (lo v)) C2), ocQ (m, p, q, (lo o), (lo g), (lo v)) (ctO feats (m, p, q, (lo o), (lo g), (lo v)) C2), (lo o), (lo g), ocW (m, p, q, (lo o), (lo g), (lo v)) (ctO feats (m, p, q, (lo o), (lo g), (lo v)) C2)) (m, p, q, (lo o), (lo g), []),Ff,Ff,ocE (ctO feats (m, p, q, (lo o), (lo g), (lo v)) C2) != (0 : Int),Tt],
  (Ex.normal, fcS (m, p, q, o, g, v) b C1 C2 C3 C4 C5 feats n on 3)) := by cases o <;> cases g <;> cases v <;> cases b <;> kernel_rfl
theorem fc2_nf (m : Mac) (p q : Bool) (o g : Lo Mac) (v b : Lo Int) (C1 C2 C3 C4 C5 : List Int) (feats n : Int) (on : Bool) : Tr.follow [Tt,Tt,Tt,Tt,Tt,Tt,Ff,Tt,Tt,Tt,Tt,Ff,Tt,Ff,Tt,Ff,Ff,Ff,Ff,Tt] (fcR (m, p, q, o, g, v) b C1 C2 C3 C4 C5 feats n on 2) =
  some ([Tt,smF (m, p, q, (lo o), (lo g), (lo v)),Tt,decide (C2.length ≤ (100000 : Nat)),smX (lo o) (lo g) (lo v),byB C2,(ocK (ctO feats (m, p, q, (lo o), (lo g), (lo v)) C2)).beq (3 : Nat),Tt,smX (lo o) (lo g) (lo v),byB C2,rcGd feats C2 (lo v),(ocK (ctO feats (m, p, q, (lo o), (lo g), (lo v)) C2)).beq (3 : Nat),nmB C2 (ctO feats (m, p, q, (lo o), (lo g), (lo v)) C2),(wV (lo v) C2).length.beq (0 : Nat),smF ((ocM (m, p, q, (lo o), (lo g), (lo v)) (ctO feats (m, p, q, (lo o), (lo g), (lo v)) C2)), ocP (m, p, q, (lo o), (lo g), (lo v)) (ctO feats (m, p, q, (lo o), (lo g), (lo v)) C2), ocQ (m, p, q, (lo o), (lo g), (lo v)) (ctO feats (m, p, q, (lo o), (lo g), (lo v)) C2), (lo o), (lo g), ocW (m, p, q, (lo o), (lo g), (lo v)) (ctO feats (m, p, q, (lo o), (lo g), (lo v)) C2)),!eqF ((ocM (m, p, q, (lo o), (lo g), (lo v)) (ctO feats (m, p, q, (lo o), (lo g), (lo v)) C2)), ocP (m, p, q, (lo o), (lo g), (lo v)) (ctO feats (m, p, q, (lo o), (lo g), (lo v)) C2), ocQ (m, p, q, (lo o), (lo g), (lo v)) (ctO feats (m, p, q, (lo o), (lo g), (lo v)) C2), (lo o), (lo g), ocW (m, p, q, (lo o), (lo g), (lo v)) (ctO feats (m, p, q, (lo o), (lo g), (lo v)) C2)) (m, p, q, (lo o), (lo g), wV (lo v) C2),Ff,Ff,ocE (ctO feats (m, p, q, (lo o), (lo g), (lo v)) C2) != (0 : Int),Tt],
  (Ex.normal, fcS (m, p, q, o, g, v) b C1 C2 C3 C4 C5 feats n on 3)) := by cases o <;> cases g <;> cases v <;> cases b <;> kernel_rfl
theorem fc2_tt (m : Mac) (p q : Bool) (o g : Lo Mac) (v b : Lo Int) (C1 C2 C3 C4 C5 : List Int) (feats n : Int) (on : Bool) : Tr.follow [Tt,Tt,Tt,Tt,Tt,Tt,Tt,Tt,Tt,Tt,Tt,Tt,Tt,Tt,Tt,Tt,Tt,Ff,Ff,Ff,Ff,Tt] (fcR (m, p, q, o, g, v) b C1 C2 C3 C4 C5 feats n on 2) =
  some ([Tt,smF (m, p, q, (lo o), (lo g), (lo v)),Tt,decide (C2.length ≤ (100000 : Nat)),smX (lo o) (lo g) (lo v),byB C2,(ocK (ctO feats (m, p, q, (lo o), (lo g), (lo v)) C2)).beq (3 : Nat),ocX (ctO feats (m, p, q, (lo o), (lo g), (lo v)) C2),ocY (ctO feats (m, p, q, (lo o), (lo g), (lo v)) C2),Tt,smX (lo o) (lo g) (lo v),byB C2,rcGd feats C2 (lo v),(ocK (ctO feats (m, p, q, (lo o), (lo g), (lo v)) C2)).beq (3 : Nat),ocX (ctO feats (m, p, q, (lo o), (lo g), (lo v)) C2),ocY (ctO feats (m, p, q, (lo o), (lo g), (lo v)) C2),smF (m, p, q, [], [], (lo v)),!eqF (m, p, q, [], [], (lo v)) (m, p, q, [], [], (lo v)),Ff,Ff,Ff,Tt],
  (Ex.normal, fcS (m, p, q, o, g, v) b C1 C2 C3 C4 C5 feats n on 3)) := by cases o <;> cases g <;> cases v <;> cases b <;> kernel_rfl
theorem fc2_tf (m : Mac) (p q : Bool) (o g : Lo Mac) (v b : Lo Int) (C1 C2 C3 C4 C5 : List Int) (feats n : Int) (on : Bool) : Tr.follow [Tt,Tt,Tt,Tt,Tt,Tt,Tt,Tt,Ff,Tt,Tt,Tt,Tt,Tt,Tt,Ff,Tt,Ff,Ff,Ff,Ff,Tt] (fcR (m, p, q, o, g, v) b C1 C2 C3 C4 C5 feats n on 2) =
  some ([Tt,smF (m, p, q, (lo o), (lo g), (lo v)),Tt,decide (C2.length ≤ (100000 : Nat)),smX (lo o) (lo g) (lo v),byB C2,(ocK (ctO feats (m, p, q, (lo o), (lo g), (lo v)) C2)).beq (3 : Nat),ocX (ctO feats (m, p, q, (lo o), (lo g), (lo v)) C2),ocY (ctO feats (m, p, q, (lo o), (lo g), (lo v)) C2),Tt,smX (lo o) (lo g) (lo v),byB C2,rcGd feats C2 (lo v),(ocK (ctO feats (m, p, q, (lo o), (lo g), (lo v)) C2)).beq (3 : Nat),ocX (ctO feats (m, p, q, (lo o), (lo g), (lo v)) C2),ocY (ctO feats (m, p, q, (lo o), (lo g), (lo v)) C2),smF (m, p, q, [], ocG (ctO feats (m, p, q, (lo o), (lo g), (lo v)) C2), (lo v)),!eqF (m, p, q, [], ocG (ctO feats (m, p, q, (lo o), (lo g), (lo v)) C2), (lo v)) (m, p, q, [], ocG (ctO feats (m, p, q, (lo o), (lo g), (lo v)) C2), (lo v)),Ff,Ff,Ff,Tt],
  (Ex.normal, fcS (m, p, q, o, g, v) b C1 C2 C3 C4 C5 feats n on 3)) := by cases o <;> cases g <;> cases v <;> cases b <;> kernel_rfl
theorem fc2_ft (m : Mac) (p q : Bool) (o g : Lo Mac) (v b : Lo Int) (C1 C2 C3 C4 C5 : List Int) (feats n : Int) (on : Bool) : Tr.follow [Tt,Tt,Tt,Tt,Tt,Tt,Tt,Ff,Tt,Tt,Tt,Tt,Tt,Tt,Ff,Tt,Tt,Ff,Ff,Ff,Ff,Tt] (fcR (m, p, q, o, g, v) b C1 C2 C3 C4 C5 feats n on 2) =
  some ([Tt,smF (m, p, q, (lo o), (lo g), (lo v)),Tt,decide (C2.length ≤ (100000 : Nat)),smX (lo o) (lo g) (lo v),byB C2,(ocK (ctO feats (m, p, q, (lo o), (lo g), (lo v)) C2)).beq (3 : Nat),ocX (ctO feats (m, p, q, (lo o), (lo g), (lo v)) C2),ocY (ctO feats (m, p, q, (lo o), (lo g), (lo v)) C2),Tt,smX (lo o) (lo g) (lo v),byB C2,rcGd feats C2 (lo v),(ocK (ctO feats (m, p, q, (lo o), (lo g), (lo v)) C2)).beq (3 : Nat),ocX (ctO feats (m, p, q, (lo o), (lo g), (lo v)) C2),ocY (ctO feats (m, p, q, (lo o), (lo g), (lo v)) C2),smF (m, p, q, ocO (ctO feats (m, p, q, (lo o), (lo g), (lo v)) C2), [], (lo v)),!eqF (m, p, q, ocO (ctO feats (m, p, q, (lo o), (lo g), (lo v)) C2), [], (lo v)) (m, p, q, ocO (ctO feats (m, p, q, (lo o), (lo g), (lo v)) C2), [], (lo v)),Ff,Ff,Ff,Tt],
  (Ex.normal, fcS (m, p, q, o, g, v) b C1 C2 C3 C4 C5 feats n on 3)) := by cases o <;> cases g <;> cases v <;> cases b <;> kernel_rfl
theorem fc2_ff (m : Mac) (p q : Bool) (o g : Lo Mac) (v b : Lo Int) (C1 C2 C3 C4 C5 : List Int) (feats n : Int) (on : Bool) : Tr.follow [Tt,Tt,Tt,Tt,Tt,Tt,Tt,Ff,Ff,Tt,Tt,Tt,Tt,Tt,Ff,Ff,Tt,Ff,Ff,Ff,Ff,Tt] (fcR (m, p, q, o, g, v) b C1 C2 C3 C4 C5 feats n on 2) =
  some ([Tt,smF (m, p, q, (lo o), (lo g), (lo v)),Tt,decide (C2.length ≤ (100000 : Nat)),smX (lo o) (lo g) (lo v),byB C2,(ocK (ctO feats (m, p, q, (lo o), (lo g), (lo v)) C2)).beq (3 : Nat),ocX (ctO feats (m, p, q, (lo o), (lo g), (lo v)) C2),ocY (ctO feats (m, p, q, (lo o), (lo g), (lo v)) C2),Tt,smX (lo o) (lo g) (lo v),byB C2,rcGd feats C2 (lo v),(ocK (ctO feats (m, p, q, (lo o), (lo g), (lo v)) C2)).beq (3 : Nat),ocX (ctO feats (m, p, q, (lo o), (lo g), (lo v)) C2),ocY (ctO feats (m, p, q, (lo o), (lo g), (lo v)) C2),smF (m, p, q, ocO (ctO feats (m, p, q, (lo o), (lo g), (lo v)) C2), ocG (ctO feats (m, p, q, (lo o), (lo g), (lo v)) C2), (lo v)),!eqF (m, p, q, ocO (ctO feats (m, p, q, (lo o), (lo g), (lo v)) C2), ocG (ctO feats (m, p, q, (lo o), (lo g), (lo v)) C2), (lo v)) (m, p, q, ocO (ctO feats (m, p, q, (lo o), (lo g), (lo v)) C2), ocG (ctO feats (m, p, q, (lo o), (lo g), (lo v)) C2), (lo v)),Ff,Ff,Ff,Tt],
  (Ex.normal, fcS (m, p, q, o, g, v) b C1 C2 C3 C4 C5 feats n on 3)) := by cases o <;> cases g <;> cases v <;> cases b <;> kernel_rfl
end
end Go.Proofs.Ytgepgnjjhgmfnaa
namespace Go.Proofs.Ytgepgnjjhgmfnaa
open Go Go.Sx Go.RowKit
set_option maxRecDepth 1000000
set_option maxHeartbeats 8000000
set_option linter.unusedVariables false
set_option linter.unusedSimpArgs false
noncomputable section
theorem fc3_a (m : Mac) (p q : Bool) (o g : Lo Mac) (v b : Lo Int) (C1 C2 C3 C4 C5 : List Int) (feats n : Int) (on : Bool) : Tr.follow [Tt,Tt,Tt,Tt,Tt,Tt,Ff,Tt,Tt,Tt,Tt,Ff,Ff,Tt,Ff,Ff,Ff,Ff,Tt] (fcR (m, p, q, o, g, v) b C1 C2 C3 C4 C5 feats n on 3) =
  some ([Tt,smF (m, p, q, (lo o), (lo g), (lo v)),Tt,decide (C3.length ≤ (100000 : Nat)),smX (lo o) (lo g) (lo v),byB C3,(ocK (ctO feats (m, p, q, (lo o), (lo g), (lo v)) C3)).beq (3 : Nat),Tt,smX (lo o) (lo g) (lo v),byB C3,rcGd feats C3 (lo v),(ocK (ctO feats (m, p, q, (lo o), (lo g), (lo v)) C3)).beq (3 : Nat),nmB C3 (ctO feats (m, p, q, (lo o), (lo g), (lo v)) C3),smF ((ocM (m, p, q, (lo o), (lo g), (lo v)) (ctO feats (m, p, q, (lo o), (lo g), (lo v)) C3)), ocP (m, p, q, (lo o), (lo g), (lo v)) (ctO feats (m, p, q, (lo o), (lo g), (lo v)) C3), ocQ (m, p, q, (lo o), (lo g), (lo v)) (ctO feats (m, p, q, (lo o), (lo g), (lo v)) C3), (lo o), (lo g), ocW (m, p, q, (lo o), (lo g), (lo v)) (ctO feats (m, p, q, (lo o), (lo g), (lo v)) C3)),!eqF ((ocM (m, p, q, (lo o), (lo g), (lo v)) (ctO feats (m, p, q, (lo o), (lo g), (lo v)) C3)), ocP (m, p, q, (lo o), (lo g), (lo v)) (ctO feats (m, p, q, (lo o), (lo g), (lo v)) C3), ocQ (m, p, q, (lo o), (lo g), (lo v)) (ctO feats (m, p, q, (lo o), (lo g), (lo v)) C3), (lo o), (lo g), ocW (m, p, q, (lo o), (lo g), (lo v)) (ctO feats (m, p, q, (lo o), (lo g), (lo v)) C3)) ((ocM (m, p, q, (lo o), (lo g), (lo v)) (ctO feats (m, p, q, (lo o), (lo g), (lo v)) C3)), ocP (m, p, q, (lo o), (lo g), (lo v)) (ctO feats (m, p, q, (lo o), (lo g), (lo v)) C3), ocQ (m, p, q, (lo o), (lo g), (lo v)) (ctO feats (m, p, q, (lo o), (lo g), (lo v)) C3), (lo o), (lo g), (lo v)),Ff,Ff,ocE (ctO feats (m, p, q, (lo o), (lo g), (lo v)) C3) != ocE (ctO feats (m, p, q, (lo o), (lo g), (lo v)) C3),Tt],
  (Ex.normal, fcS (m, p, q, o, g, v) b C1 C2 C3 C4 C5 feats n on 4)) := by cases o <;> cases g <;> cases v <;> cases b <;> kernel_rfl
theorem fc3_nt (m : Mac) (p q : Bool) (o g : Lo Mac) (v b : Lo Int) (C1 C2 C3 C4 C5 : List Int) (feats n : Int) (on : Bool) : Tr.follow [Tt,Tt,Tt,Tt,Tt,Tt,Ff,Tt,Tt,Tt,Tt,Ff,Tt,Tt,Tt,Ff,Ff,Ff,Ff,Tt] (fcR (m, p, q, o, g, v) b C1 C2 C3 C4 C5 feats n on 3) =
  some ([Tt,smF (m, p, q, (lo o), (lo g), (lo v)),Tt,decide (C3.length ≤ (100000 : Nat)),smX (lo o) (lo g) (lo v),byB C3,(ocK (ctO feats (m, p, q, (lo o), (lo g), (lo v)) C3)).beq (3 : Nat),Tt,smX (lo o) (lo g) (lo v),byB C3,rcGd feats C3 (lo v),(ocK (ctO feats (m, p, q, (lo o), (lo g), (lo v)) C3)).beq (3 : Nat),nmB C3 (ctO feats (m, p, q, (lo o), (lo g), (lo v)) C3),(wV (lo v) C3).length.beq (0 : Nat),smF ((ocM (m, p, q, (lo o), (lo g), (lo v)) (ctO feats (m, p, q, (lo o), (lo g), (lo v)) C3)), ocP (m, p, q, (lo o), (lo g), (lo v)) (ctO feats (m, p, q, (lo o), (lo g), (lo v)) C3), ocQ (m, p, q, (lo o), (lo g), (lo v)) (ctO feats (m, p, q, (lo o), (lo g), (lo v)) C3), (lo o), (lo g), ocW (m, p, q, (lo o), (lo g), (lo v)) (ctO feats (m, p, q, (lo o), (lo g), (lo v)) C3)),!eqF ((ocM (m, p, q, (lo o), (lo g), (lo v)) (ctO feats (m, p, q, (lo o), (lo g), (lo v)) C3)), ocP (m, p, q, (lo o), (lo g), (lo v)) (ctO feats (m, p, q, (lo o), (lo g), (lo v)) C3), ocQ (m, p, q, (lo o), (lo g), (lo v)) (ctO feats (m, p, q, (lo o), (lo g), (lo v)) C3), (lo o), (lo g), ocW (m, p, q, (lo o), (lo g), (lo v)) (ctO feats (m, p, q, (lo o), (lo g), (lo v)) C3)) (m, p, q, (lo o), (lo g), []),Ff,Ff,ocE (ctO feats (m, p, q, (lo o), (lo g), (lo v)) C3) != (0 : Int),Tt],
  (Ex.normal, fcS (m, p, q, o, g, v) b C1 C2 C3 C4 C5 feats n on 4)) := by cases o <;> cases g <;> cases v <;> cases b <;> kernel_rfl
theorem fc3_nf (m : Mac) (p q : Bool) (o g : Lo Mac) (v b : Lo Int) (C1 C2 C3 C4 C5 : List Int) (feats n : Int) (on : Bool) : Tr.follow [Tt,Tt,Tt,Tt,Tt,Tt,Ff,Tt,Tt,Tt,Tt,Ff,Tt,Ff,Tt,Ff,Ff,Ff,Ff,Tt] (fcR (m, p, q, o, g, v) b C1 C2 C3 C4 C5 feats n on 3) =
  some ([Tt,smF (m, p, q, (lo o), (lo g), (lo v)),Tt,decide (C3.length ≤ (100000 : Nat)),smX (lo o) (lo g) (lo v),byB C3,(ocK (ctO feats (m, p, q, (lo o), (lo g), (lo v)) C3)).beq (3 : Nat),Tt,smX (lo o) (lo g) (lo v),byB C3,rcGd feats C3 (lo v),(ocK (ctO feats (m, p, q, (lo o), (lo g), (lo v)) C3)).beq (3 : Nat),nmB C3 (ctO feats (m, p, q, (lo o), (lo g), (lo v)) C3),(wV (lo v) C3).length.beq (0 : Nat),smF ((ocM (m, p, q, (lo o), (lo g), (lo v)) (ctO feats (m, p, q, (lo o), (lo g), (lo v)) C3)), ocP (m, p, q, (lo o), (lo g), (lo v)) (ctO feats (m, p, q, (lo o), (lo g), (lo v)) C3), ocQ (m, p, q, (lo o), (lo g), (lo v)) (ctO feats (m, p, q, (lo o), (lo g), (lo v)) C3), (lo o), (lo g), ocW (m, p, q, (lo o), (lo g), (lo v)) (ctO feats (m, p, q, (lo o), (lo g), (lo v)) C3)),!eqF ((ocM (m, p, q, (lo o), (lo g), (lo v)) (ctO feats (m, p, q, (lo o), (lo g), (lo v)) C3)), ocP (m, p, q, (lo o), (lo g), (lo v)) (ctO feats (m, p, q, (lo o), (lo g), (lo v)) C3), ocQ (m, p, q, (lo o), (lo g), (lo v)) (ctO feats (m, p, q, (lo o), (lo g), (lo v)) C3), (lo o), (lo g), ocW (m, p, q, (lo o), (lo g), (lo v)) (ctO feats (m, p, q, (lo o), (lo g), (lo v)) C3)) (m, p, q, (lo o), (lo g), wV (lo v) C3),Ff,Ff,ocE (ctO feats (m, p, q, (lo o), (lo g), (lo v)) C3) != (0 : Int),Tt],
  (Ex.normal, fcS (m, p, q, o, g, v) b C1 C2 C3 C4 C5 feats n on 4)) := by cases o <;> cases g <;> cases v <;> cases b <;> kernel_rfl
theorem fc3_tt (m : Mac) (p q : Bool) (o g : Lo Mac) (v b : Lo Int) (C1 C2 C3 C4 C5 : List Int) (feats n : Int) (on : Bool) : Tr.follow [Tt,Tt,Tt,Tt,Tt,Tt,Tt,Tt,Tt,Tt,Tt,Tt,Tt,Tt,Tt,Tt,Tt,Ff,Ff,Ff,Ff,Tt] (fcR (m, p, q, o, g, v) b C1 C2 C3 C4 C5 feats n on 3) =
  some ([Tt,smF (m, p, q, (lo o), (lo g), (lo v)),Tt,decide (C3.length ≤ (100000 : Nat)),smX (lo o) (lo g) (lo v),byB C3,(ocK (ctO feats (m, p, q, (lo o), (lo g), (lo v)) C3)).beq (3 : Nat),ocX (ctO feats (m, p, q, (lo o), (lo g), (lo v)) C3),ocY (ctO feats (m, p, q, (lo o), (lo g), (lo v)) C3),Tt,smX (lo o) (lo g) (lo v),byB C3,rcGd feats C3 (lo v),(ocK (ctO feats (m, p, q, (lo o), (lo g), (lo v)) C3)).beq (3 : Nat),ocX (ctO feats (m, p, q, (lo o), (lo g), (lo v)) C3),ocY (ctO feats (m, p, q, (lo o), (lo g), (lo v)) C3),smF (m, p, q, [], [], (lo v)),!eqF (m, p, q, [], [], (lo v)) (m, p, q, [], [], (lo v)),Ff,Ff,Ff,Tt],
  (Ex.normal, fcS (m, p, q, o, g, v) b C1 C2 C3 C4 C5 feats n on 4)) := by cases o <;> cases g <;> cases v <;> cases b <;> kernel_rfl
theorem fc3_tf (m : Mac) (p q : Bool) (o g : Lo Mac) (v b : Lo Int) (C1 C2 C3 C4 C5 : List Int) (feats n : Int) (on : Bool) : Tr.follow [Tt,Tt,Tt,Tt,Tt,Tt,Tt,Tt,Ff,Tt,Tt,Tt,Tt,Tt,Tt,Ff,Tt,Ff,Ff,Ff,Ff,Tt] (fcR (m, p, q, o, g, v) b C1 C2 C3 C4 C5 feats n on 3) =
  some ([Tt,smF (m, p, q, (lo o), (lo g), (lo v)),Tt,decide (C3.length ≤ (100000 : Nat)),smX (lo o) (lo g) (lo v),byB C3,(ocK (ctO feats (m, p, q, (lo o), (lo g), (lo v)) C3)).beq (3 : Nat),ocX (ctO feats (m, p, q, (lo o), (lo g), (lo v)) C3),ocY (ctO feats (m, p, q, (lo o), (lo g), (lo v)) C3),Tt,smX (lo o) (lo g) (lo v),byB C3,rcGd feats C3 (lo v),(ocK (ctO feats (m, p, q, (lo o), (lo g), (lo v)) C3)).beq (3 : Nat),ocX (ctO feats (m, p, q, (lo o), (lo g), (lo v)) C3),ocY (ctO feats (m, p, q, (lo o), (lo g), (lo v)) C3),smF (m, p, q, [], ocG (ctO feats (m, p, q, (lo o), (lo g), (lo v)) C3), (lo v)),!eqF (m, p, q, [], ocG (ctO feats (m, p, q, (lo o), (lo g), (lo v)) C3), (lo v)) (m, p, q, [], ocG (ctO feats (m, p, q, (lo o), (lo g), (lo v)) C3), (lo v)),Ff,Ff,Ff,Tt],
  (Ex.normal, fcS (m, p, q, o, g, v) b C1 C2 C3 C4 C5 feats n on 4)) := by cases o <;> cases g <;> cases v <;> cases b <;> kernel_rfl
theorem fc3_ft (m : Mac) (p q : Bool) (o g : Lo Mac) (v b : Lo Int) (C1 C2 C3 C4 C5 : List Int) (feats n : Int) (on : Bool) : Tr.follow [Tt,Tt,Tt,Tt,Tt,Tt,Tt,Ff,Tt,Tt,Tt,Tt,Tt,Tt,Ff,Tt,Tt,Ff,Ff,Ff,Ff,Tt] (fcR (m, p, q, o, g, v) b C1 C2 C3 C4 C5 feats n on 3) =
  some ([Tt,smF (m, p, q, (lo o), (lo g), (lo v)),Tt,decide (C3.length ≤ (100000 : Nat)),smX (lo o) (lo g) (lo v),byB C3,(ocK (ctO feats (m, p, q, (lo o), (lo g), (lo v)) C3)).beq (3 : Nat),ocX (ctO feats (m, p, q, (lo o), (lo g), (lo v)) C3),ocY (ctO feats (m, p, q, (lo o), (lo g), (lo v)) C3),Tt,smX (lo o) (lo g) (lo v),byB C3,rcGd feats C3 (lo v),(ocK (ctO feats (m, p, q, (lo o), (lo g), (lo v)) C3)).beq (3 : Nat),ocX (ctO feats (m, p, q, (lo o), (lo g), (lo v)) C3),ocY (ctO feats (m, p, q, (lo o), (lo g), (lo v)) C3),smF (m, p, q, ocO (ctO feats (m, p, q, (lo o), (lo g), (lo v)) C3), [], (lo v)),!eqF (m, p, q, ocO (ctO feats (m, p, q, (lo o), (lo g), (lo v)) C3), [], (lo v)) (m, p, q, ocO (ctO feats (m, p, q, (lo o), (lo g), (lo v)) C3), [], (lo v)),Ff,Ff,Ff,Tt],
  (Ex.normal, fcS (m, p, q, o, g, v) b C1 C2 C3 C4 C5 feats n on 4)) := by cases o <;> cases g <;> cases v <;> cases b <;> kernel_rfl
theorem fc3_ff (m : Mac) (p q : Bool) (o g : Lo Mac) (v b : Lo Int) (C1 C2 C3 C4 C5 : List Int) (feats n : Int) (on : Bool) : Tr.follow [Tt,Tt,Tt,Tt,Tt,Tt,Tt,Ff,Ff,Tt,Tt,Tt,Tt,Tt,Ff,Ff,Tt,Ff,Ff,Ff,Ff,Tt] (fcR (m, p, q, o, g, v) b C1 C2 C3 C4 C5 feats n on 3) =
  some ([Tt,smF (m, p, q, (lo o), (lo g), (lo v)),Tt,decide (C3.length ≤ (100000 : Nat)),smX (lo o) (lo g) (lo v),byB C3,(ocK (ctO feats (m, p, q, (lo o), (lo g), (lo v)) C3)).beq (3 : Nat),ocX (ctO feats (m, p, q, (lo o), (lo g), (lo v)) C3),ocY (ctO feats (m, p, q, (lo o), (lo g), (lo v)) C3),Tt,smX (lo o) (lo g) (lo v),byB C3,rcGd feats C3 (lo v),(ocK (ctO feats (m, p, q, (lo o), (lo g), (lo v)) C3)).beq (3 : Nat),ocX (ctO feats (m, p, q, (lo o), (lo g), (lo v)) C3),ocY (ctO feats (m, p, q, (lo o), (lo g), (lo v)) C3),smF (m, p, q, ocO (ctO feats (m, p, q, (lo o), (lo g), (lo v)) C3), ocG (ctO feats (m, p, q, (lo o), (lo g), (lo v)) C3), (lo v)),!eqF (m, p, q, ocO (ctO feats (m, p, q, (lo o), (lo g), (lo v)) C3), ocG (ctO feats (m, p, q, (lo o), (lo g), (lo v)) C3), (lo v)) (m, p, q, ocO (ctO feats (m, p, q, (lo o), (lo g), (lo v)) C3), ocG (ctO feats (m, p, q, (lo o), (lo g), (lo v)) C3), (lo v)),Ff,Ff,Ff,Tt],
  (Ex.normal, fcS (m, p, q, o, g, v) b C1 C2 C3 C4 C5 feats n on 4)) := by cases o <;> cases g <;> cases v <;> cases b <;> kernel_rfl
end
end Go.Proofs.Ytgepgnjjhgmfnaa
