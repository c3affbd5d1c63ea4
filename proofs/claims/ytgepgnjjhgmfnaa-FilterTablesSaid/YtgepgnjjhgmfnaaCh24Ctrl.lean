/-
  Chapter 24: what Ctrl computes. Own work; nothing here is trusted.
-/
import Derived.Test.YtgepgnjjhgmfnaaCh24Ctl1
import Derived.Test.YtgepgnjjhgmfnaaCh24Ctl2
import Derived.Test.YtgepgnjjhgmfnaaCh24Ctl3
import Derived.Test.YtgepgnjjhgmfnaaCh24Ctln
namespace Go.Proofs.Ytgepgnjjhgmfnaa
open Go Go.Sx Go.RowKit
set_option maxRecDepth 1000000
set_option maxHeartbeats 8000000
set_option linter.unusedVariables false
set_option linter.unusedSimpArgs false
noncomputable section
/-- How a command ends. -/
inductive Oc
  | err
  | keep (m : Mac) (p q : Bool)
  | vl (l : List Int)
  | tab (a b : Option (List Mac))
def byB (l : List Int) : Bool := l.all fun x => decide (0 ≤ x) && decide (x < 256)
theorem byB_mem {l : List Int} (h : byB l = true) {x : Int} (hx : x ∈ l) : 0 ≤ x ∧ x < 256 := by
  have := List.all_eq_true.1 h x hx
  simpa using this
theorem byB_cut {l : List Int} {a b : Option Int} (h : byB l = true) : byB (cutL l a b) = true := by
  refine List.all_eq_true.2 fun x hx => List.all_eq_true.1 h x ?_
  rw [cutL_eq] at hx
  exact List.mem_of_mem_take (List.mem_of_mem_drop hx)
theorem byB_get {l : List Int} (h : byB l = true) (k : Nat) : 0 ≤ l.getD k 0 ∧ l.getD k 0 < 256 := by
  rw [List.getD_eq_getElem?_getD]
  cases he : l[k]? with
  | none => exact ⟨by decide, by decide⟩
  | some x => exact byB_mem h (List.mem_of_getElem? he)
/-- A list that was made, or nil. -/
@[reducible] def mkO {α : Type} (a : Option (List α)) : Lo α := match a with
  | none => none
  | some l => some (true, false, l)
/-- What Ctrl gives back. -/
def ocF (F : Fv) : Oc → Fv
  | .err => F
  | .keep m p q => (m, p, q, F.2.2.2.1, F.2.2.2.2.1, F.2.2.2.2.2)
  | .vl l => (F.1, F.2.1, F.2.2.1, F.2.2.2.1, F.2.2.2.2.1, some (true, false, l))
  | .tab a b => (F.1, F.2.1, F.2.2.1, mkO a, mkO b, F.2.2.2.2.2)
def ocA : Oc → Int
  | .err => 1
  | _ => 0
def ocL (F : Fv) (N : Nat) (x : Oc) : SV × List (SO C24) := (.tup [clnS (ocF F x) N, .raw (.int .u8 (ocA x))], clnO (ocF F x))
theorem f2 {l : List Int} (h : decide ((l.length : Int) < 2) = false) : cutB none (some (2 : Int)) l.length = true ∧ cutB (some (2 : Int)) none l.length = true ∧ Sx.inB (0 : Int) (hd l).length = true ∧ decide (Int.toNat (0 : Int) < (hd l).length) = true ∧ Sx.inB (1 : Int) (hd l).length = true ∧ decide (Int.toNat (1 : Int) < (hd l).length) = true := by
  have h : ¬ ((l.length : Int) < 2) := of_decide_eq_false h
  have e : (hd l).length = 2 := by show (l.take 2).length = 2; rw [List.length_take]; omega
  rw [e]
  exact ⟨bOk_mk (by omega), bOk_mk (by omega), rfl, rfl, rfl, rfl⟩
theorem fR {l : List Int} (hb : byB l = true) (h : decide ((l.length : Int) < 2) = false) : inR64 ((hd l).getD (Int.toNat (0 : Int)) (0 : Int)) = true ∧ inR64 ((hd l).getD (Int.toNat (1 : Int)) (0 : Int)) = true := by
  have h1 : 0 ≤ (hd l).getD (Int.toNat (0 : Int)) (0 : Int) ∧ (hd l).getD (Int.toNat (0 : Int)) (0 : Int) < 256 := byB_get (byB_cut hb (a := none) (b := some 2)) (Int.toNat 0)
  have h2 : 0 ≤ (hd l).getD (Int.toNat (1 : Int)) (0 : Int) ∧ (hd l).getD (Int.toNat (1 : Int)) (0 : Int) < 256 := byB_get (byB_cut hb (a := none) (b := some 2)) (Int.toNat 1)
  exact ⟨inR64_mk (by omega), inR64_mk (by omega)⟩
theorem f1 {l : List Int} (h : decide ((l.length : Int) < 1) = false) : cutB none (some (1 : Int)) l.length = true ∧ cutB (some (1 : Int)) none l.length = true ∧ Sx.inB (0 : Int) (cutL l none (some (1 : Int))).length = true ∧ decide (Int.toNat (0 : Int) < (cutL l none (some (1 : Int))).length) = true := by
  have h : ¬ ((l.length : Int) < 1) := of_decide_eq_false h
  have e : (cutL l none (some (1 : Int))).length = 1 := by show (l.take 1).length = 1; rw [List.length_take]; omega
  rw [e]
  exact ⟨bOk_mk (by omega), bOk_mk (by omega), rfl, rfl⟩
theorem f6 {l : List Int} (h : decide ((l.length : Int) < 6) = false) : cutB none (some (6 : Int)) l.length = true ∧ cutB (some (6 : Int)) none l.length = true ∧ (decide ((6 : Nat) ≤ (cutL l none (some (6 : Int))).length) && decide ((0 : Nat) < (cutL l none (some (6 : Int))).length)) = true ∧ decide ((0 : Nat) < (cutL l none (some (6 : Int))).length) = true ∧ decide ((0 : Nat) + Try.prog.types[(22 : Nat)].size / (C24 (5 : TypeId)).sz ≤ (cutL l none (some (6 : Int))).length) = true := by
  have h : ¬ ((l.length : Int) < 6) := of_decide_eq_false h
  have e : (cutL l none (some (6 : Int))).length = 6 := by show (l.take 6).length = 6; rw [List.length_take]; omega
  rw [e, size22]
  exact ⟨bOk_mk (by omega), bOk_mk (by omega), rfl, rfl, rfl⟩
theorem f4 {l : List Int} (h : decide ((l.length : Int) < 4) = false) : cutB none (some (4 : Int)) l.length = true ∧ cutB (some (4 : Int)) none l.length = true ∧
    decide ((0 : Int) < ((q4 l).length : Int)) = true ∧ Sx.inB (0 : Int) (q4 l).length = true ∧ decide (Int.toNat (0 : Int) < (q4 l).length) = true ∧
    decide ((0 : Int) + 1 < ((q4 l).length : Int)) = true ∧ Sx.inB ((0 : Int) + 1) (q4 l).length = true ∧ decide (((0 : Int) + 1).toNat < (q4 l).length) = true ∧
    decide ((0 : Int) + 1 + 1 < ((q4 l).length : Int)) = true ∧ Sx.inB ((0 : Int) + 1 + 1) (q4 l).length = true ∧ decide (((0 : Int) + 1 + 1).toNat < (q4 l).length) = true ∧
    decide ((0 : Int) + 1 + 1 + 1 < ((q4 l).length : Int)) = true ∧ Sx.inB ((0 : Int) + 1 + 1 + 1) (q4 l).length = true ∧ decide (((0 : Int) + 1 + 1 + 1).toNat < (q4 l).length) = true ∧
    decide ((0 : Int) + 1 + 1 + 1 + 1 < ((q4 l).length : Int)) = false := by
  have h : ¬ ((l.length : Int) < 4) := of_decide_eq_false h
  have e : (q4 l).length = 4 := by show (l.take 4).length = 4; rw [List.length_take]; omega
  rw [e]
  exact ⟨bOk_mk (by omega), bOk_mk (by omega), rfl, rfl, rfl, rfl, rfl, rfl, rfl, rfl, rfl, rfl, rfl, rfl, rfl⟩
theorem orV_nonneg (x y : Int) : 0 ≤ bitsV IntKind.u64 BinOp.or x y := by
  show (0 : Int) ≤ (((BitVec.ofInt 64 x ||| BitVec.ofInt 64 y).toNat : Int) % (2 ^ 64 : Int))
  exact Int.emod_nonneg _ (by decide)
theorem fQ {l : List Int} (h : decide ((32 : Int) < nQ l) = false) : decide (0 ≤ nQ l ∧ nQ l ≤ 32) = true := decide_eq_true ⟨orV_nonneg _ _, by have := of_decide_eq_false h; omega⟩
theorem fNt {x : Bool} (h : x = true) : (!x) = false := by rw [h]; rfl
theorem fNf {x : Bool} (h : x = false) : (!x) = true := by rw [h]; rfl
theorem bsZ_in (l : List Int) (x : Int) : 0 ≤ bsZ l x ∧ bsZ l x ≤ (l.length : Int) := by
  rw [bsZ_eq]
  have := bsI_le l x
  omega
theorem fI {l : List Int} (hv : l.length ≤ 100000) (x : Int) : (decide (0 ≤ bsZ l x ∧ bsZ l x ≤ (l.length : Int) ∧ l.length ≤ 100000) && decide ([x].length = 1)) = true := by
  rw [decide_eq_true (⟨(bsZ_in l x).1, (bsZ_in l x).2, hv⟩ : 0 ≤ bsZ l x ∧ bsZ l x ≤ (l.length : Int) ∧ l.length ≤ 100000)]; rfl
theorem fZ {l : List Int} (hv : l.length ≤ 100000) (x : Int) : inR64 (bsZ l x + 1) = true := inR64_mk (by have := bsZ_in l x; omega)
theorem fD {l : List Int} {x : Int} (hv : l.length ≤ 100000) (h : bsF l x = true) : decide (0 ≤ bsZ l x ∧ bsZ l x < bsZ l x + 1 ∧ bsZ l x + 1 ≤ (l.length : Int) ∧ l.length ≤ 100000) = true := by
  have h1 := of_decide_eq_true (Bool.and_eq_true_iff.1 h).1
  refine decide_eq_true ⟨(bsZ_in l x).1, by omega, ?_, hv⟩
  rw [bsZ_eq]; omega
theorem fK1 {x : Int} (h : (x == 0) = true) : (x == 1) = false := by
  rw [beq_iff_eq] at h; subst h; rfl
theorem fK2 {bs : List Int} (hb : byB bs = true) (h : decide ((hd bs).getD (Int.toNat (1 : Int)) (0 : Int) ≤ 1) = true) (h0 : ((hd bs).getD (Int.toNat (1 : Int)) (0 : Int) == 0) = false) : ((hd bs).getD (Int.toNat (1 : Int)) (0 : Int) == 1) = true := by
  have h1 : 0 ≤ (hd bs).getD (Int.toNat (1 : Int)) (0 : Int) ∧ (hd bs).getD (Int.toNat (1 : Int)) (0 : Int) < 256 := byB_get (byB_cut hb (a := none) (b := some 2)) (Int.toNat 1)
  have h := of_decide_eq_true h
  have h0 : ¬ ((hd bs).getD (Int.toNat (1 : Int)) (0 : Int) = 0) := by simpa using h0
  rw [beq_iff_eq]
  omega
theorem eqE {x y a b : Int} (h : (x == a && (y == b && true)) = true) : x = a ∧ y = b := by simpa using h
theorem neE {x y a b c d : Int} (h : (x == a && (y == b && true)) = true) (hn : (a == c && (b == d && true)) = false) : (x == c && (y == d && true)) = false := by
  obtain ⟨rfl, rfl⟩ := eqE h; exact hn
theorem ne2 {x y a b c : Int} (h : (x == a && (y == b && true)) = true) (hn : (a == c) = false) : (x == c) = false := by
  obtain ⟨rfl, rfl⟩ := eqE h; exact hn
theorem bsF_nil {x : Int} : ¬ bsF [] x = true := by
  intro h
  have := of_decide_eq_true (Bool.and_eq_true_iff.1 h).1
  simp only [List.length_nil] at this
  omega
def ctO (feats : Int) (F : Fp) (bs : List Int) : Oc :=
  match F with
  | (m, p, q, ol, gl, vl) =>
  bif okF (m, p, q, ol, gl, vl) then
   (bif !hasB feats 17 then
    (Oc.err) else
    (bif decide ((↑bs.length : Int) < (2 : Int)) then
     (Oc.err) else
     (bif (hd bs).getD (Int.toNat (0 : Int)) (0 : Int) == (0 : Int) && ((hd bs).getD (Int.toNat (1 : Int)) (0 : Int) == (0 : Int) && true) then
      (bif hasB feats 18 then
       (bif decide ((↑(r2 bs).length : Int) < (1 : Int)) then
        (Oc.err) else
        (bif decide ((1 : Int) < (cutL (r2 bs) none (some (1 : Int))).getD (Int.toNat (0 : Int)) (0 : Int)) then
         (Oc.err) else
         (bif decide ((0 : Int) < (↑(cutL (r2 bs) (some (1 : Int)) none).length : Int)) then
          (Oc.err) else
          (Oc.keep m ((cutL (r2 bs) none (some (1 : Int))).getD (Int.toNat (0 : Int)) (0 : Int) == (1 : Int)) q)))) else
       (Oc.err)) else
      (bif (hd bs).getD (Int.toNat (0 : Int)) (0 : Int) == (0 : Int) && ((hd bs).getD (Int.toNat (1 : Int)) (0 : Int) == (1 : Int) && true) then
       (bif hasB feats 18 then
        (bif decide ((↑(r2 bs).length : Int) < (1 : Int)) then
         (Oc.err) else
         (bif decide ((1 : Int) < (cutL (r2 bs) none (some (1 : Int))).getD (Int.toNat (0 : Int)) (0 : Int)) then
          (Oc.err) else
          (bif decide ((0 : Int) < (↑(cutL (r2 bs) (some (1 : Int)) none).length : Int)) then
           (Oc.err) else
           (Oc.keep m p ((cutL (r2 bs) none (some (1 : Int))).getD (Int.toNat (0 : Int)) (0 : Int) == (1 : Int)))))) else
        (Oc.err)) else
       (bif (hd bs).getD (Int.toNat (0 : Int)) (0 : Int) == (1 : Int) && ((hd bs).getD (Int.toNat (1 : Int)) (0 : Int) == (0 : Int) && true) then
        (bif hasB feats 18 then
         (bif decide ((↑(r2 bs).length : Int) < (4 : Int)) then
          (Oc.err) else
          (bif decide ((32 : Int) < nQ (q4 (r2 bs))) then
           (Oc.err) else
           (bif (phG (gM (r2 bs))).beq (0 : Nat) then
            (bif decide ((↑(r4 (r2 bs)).length : Int) < (4 : Int)) then
             (Oc.err) else
             (bif decide ((32 : Int) < nQ (q4 (r4 (r2 bs)))) then
              (Oc.err) else
              (bif (phG (gM (r4 (r2 bs)))).beq (0 : Nat) then
               (bif decide ((0 : Int) < (↑(r4 (r4 (r2 bs))).length : Int)) then
                (Oc.err) else
                (Oc.tab none none)) else
               (bif (phG (gM (r4 (r2 bs)))).beq (1 : Nat) then
                (Oc.err) else
                (bif (gM (r4 (r2 bs))).snd.snd.snd.fst then
                 (Oc.err) else
                 (bif decide ((0 : Int) < (↑(gM (r4 (r2 bs))).snd.snd.fst.length : Int)) then
                  (Oc.err) else
                  (Oc.tab none (some (gM (r4 (r2 bs))).2.1)))))))) else
            (bif (phG (gM (r2 bs))).beq (1 : Nat) then
             (Oc.err) else
             (bif (gM (r2 bs)).snd.snd.snd.fst then
              (Oc.err) else
              (bif decide ((↑(gM (r2 bs)).snd.snd.fst.length : Int) < (4 : Int)) then
               (Oc.err) else
               (bif decide ((32 : Int) < nQ (q4 (gM (r2 bs)).snd.snd.fst)) then
                (Oc.err) else
                (bif (phG (gM (gM (r2 bs)).snd.snd.fst)).beq (0 : Nat) then
                 (bif decide ((0 : Int) < (↑(r4 (gM (r2 bs)).snd.snd.fst).length : Int)) then
                  (Oc.err) else
                  (Oc.tab (some (gM (r2 bs)).2.1) none)) else
                 (bif (phG (gM (gM (r2 bs)).snd.snd.fst)).beq (1 : Nat) then
                  (Oc.err) else
                  (bif (gM (gM (r2 bs)).snd.snd.fst).snd.snd.snd.fst then
                   (Oc.err) else
                   (bif decide ((0 : Int) < (↑(gM (gM (r2 bs)).snd.snd.fst).snd.snd.fst.length : Int)) then
                    (Oc.err) else
                    (Oc.tab (some (gM (r2 bs)).2.1) (some (gM (gM (r2 bs)).snd.snd.fst).2.1))))))))))))) else
         (Oc.err)) else
        (bif (hd bs).getD (Int.toNat (0 : Int)) (0 : Int) == (1 : Int) && ((hd bs).getD (Int.toNat (1 : Int)) (0 : Int) == (1 : Int) && true) then
         (bif hasB feats 23 then
          (bif decide ((↑(r2 bs).length : Int) < (6 : Int)) then
           (Oc.err) else
           (bif decide ((0 : Int) < (↑(cutL (r2 bs) (some (6 : Int)) none).length : Int)) then
            (Oc.err) else
            (Oc.keep (macAt (cutL (r2 bs) none (some 6))) p q))) else
          (Oc.err)) else
         (bif (hd bs).getD (Int.toNat (0 : Int)) (0 : Int) == (2 : Int) then
          (bif decide ((hd bs).getD (Int.toNat (1 : Int)) (0 : Int) ≤ (1 : Int)) then
           (bif hasB feats 19 then
            (bif decide ((↑(r2 bs).length : Int) < (2 : Int)) then
             (Oc.err) else
             (bif decide ((4095 : Int) < nV (hd (r2 bs))) then
              (Oc.err) else
              (bif decide ((0 : Int) < (↑(cutL (r2 bs) (some (2 : Int)) none).length : Int)) then
               (Oc.err) else
               (bif (hd bs).getD (Int.toNat (1 : Int)) (0 : Int) == (0 : Int) then
                (bif bsF vl (nV (hd (r2 bs))) then
                 (Oc.keep m p q) else
                 (Oc.vl (insL vl (bsZ vl (nV (hd (r2 bs)))).toNat [(nV (hd (r2 bs)))]))) else
                (bif bsF vl (nV (hd (r2 bs))) then
                 (Oc.vl (delL vl (bsZ vl (nV (hd (r2 bs)))).toNat (bsZ vl (nV (hd (r2 bs))) + 1).toNat)) else
                 (Oc.keep m p q)))))) else
            (Oc.err)) else
           (Oc.err)) else
          (Oc.err)))))))) else
   (Oc.err)
theorem ct_get (feats : Int) (m : Mac) (p q : Bool) (o g : Lo Mac) (v : Lo Int) (f : Bool) (bs : List Int) (hsm : smF (m, p, q, (lo o), (lo g), (lo v)) = true) (hb : byB bs = true) :
    (f24T feats (m, p, q, o, g, v) (some (false, f, bs))).get = some (ocL (m, p, q, o, g, v) (fltN (m, p, q, o, g, v) 0 + 1) (ctO feats (m, p, q, lo o, lo g, lo v) bs)) := by
  have hv : (lo v).length ≤ 100000 := (of_decide_eq_true hsm).2.2
  have hb2 : byB (r2 bs) = true := byB_cut hb
  cases h1 : (okF (m, p, q, (lo o), (lo g), (lo v))) with
  | true =>
    cases h2 : (!hasB feats 17) with
    | true =>
      have e : ctO feats (m, p, q, lo o, lo g, lo v) bs = Oc.err := by
        unfold ctO
        simp only [h1, h2, cond_true, cond_false]
      rw [e]
      exact Tr.follow_get (ct_e2 feats m p q o g v f bs) (by simp only [hsm, h1, h2])
    | false =>
      cases h3 : (decide ((↑bs.length : Int) < (2 : Int))) with
      | true =>
        have e : ctO feats (m, p, q, lo o, lo g, lo v) bs = Oc.err := by
          unfold ctO
          simp only [h1, h2, h3, cond_true, cond_false]
        rw [e]
        exact Tr.follow_get (ct_e3 feats m p q o g v f bs) (by simp only [hsm, h1, h2, h3])
      | false =>
        cases h4 : ((hd bs).getD (Int.toNat (0 : Int)) (0 : Int) == (0 : Int) && ((hd bs).getD (Int.toNat (1 : Int)) (0 : Int) == (0 : Int) && true)) with
        | true =>
          cases h5 : (hasB feats 18) with
          | true =>
            cases h6 : (decide ((↑(r2 bs).length : Int) < (1 : Int))) with
            | true =>
              have e : ctO feats (m, p, q, lo o, lo g, lo v) bs = Oc.err := by
                unfold ctO
                simp only [h1, h2, h3, h4, h5, h6, cond_true, cond_false]
              rw [e]
              exact Tr.follow_get (ct_0m feats m p q o g v f bs) (by simp only [hsm, h1, h2, h3, (f2 h3).1, (f2 h3).2.1, (f2 h3).2.2.1, (f2 h3).2.2.2.1, (f2 h3).2.2.2.2.1, (f2 h3).2.2.2.2.2, h4, h5, h6])
            | false =>
              cases h7 : (decide ((1 : Int) < (cutL (r2 bs) none (some (1 : Int))).getD (Int.toNat (0 : Int)) (0 : Int))) with
              | true =>
                have e : ctO feats (m, p, q, lo o, lo g, lo v) bs = Oc.err := by
                  unfold ctO
                  simp only [h1, h2, h3, h4, h5, h6, h7, cond_true, cond_false]
                rw [e]
                exact Tr.follow_get (ct_0b feats m p q o g v f bs) (by simp only [hsm, h1, h2, h3, (f2 h3).1, (f2 h3).2.1, (f2 h3).2.2.1, (f2 h3).2.2.2.1, (f2 h3).2.2.2.2.1, (f2 h3).2.2.2.2.2, h4, h5, h6, (f1 h6).1, (f1 h6).2.1, (f1 h6).2.2.1, (f1 h6).2.2.2, h7])
              | false =>
                cases h8 : (decide ((0 : Int) < (↑(cutL (r2 bs) (some (1 : Int)) none).length : Int))) with
                | true =>
                  have e : ctO feats (m, p, q, lo o, lo g, lo v) bs = Oc.err := by
                    unfold ctO
                    simp only [h1, h2, h3, h4, h5, h6, h7, h8, cond_true, cond_false]
                  rw [e]
                  exact Tr.follow_get (ct_0x feats m p q o g v f bs) (by simp only [hsm, h1, h2, h3, (f2 h3).1, (f2 h3).2.1, (f2 h3).2.2.1, (f2 h3).2.2.2.1, (f2 h3).2.2.2.2.1, (f2 h3).2.2.2.2.2, h4, h5, h6, (f1 h6).1, (f1 h6).2.1, (f1 h6).2.2.1, (f1 h6).2.2.2, h7, h8])
                | false =>
                  have e : ctO feats (m, p, q, lo o, lo g, lo v) bs = Oc.keep m ((cutL (r2 bs) none (some (1 : Int))).getD (Int.toNat (0 : Int)) (0 : Int) == (1 : Int)) q := by
                    unfold ctO
                    simp only [h1, h2, h3, h4, h5, h6, h7, h8, cond_true, cond_false]
                  rw [e]
                  exact Tr.follow_get (ct_0o feats m p q o g v f bs) (by simp only [hsm, h1, h2, h3, (f2 h3).1, (f2 h3).2.1, (f2 h3).2.2.1, (f2 h3).2.2.2.1, (f2 h3).2.2.2.2.1, (f2 h3).2.2.2.2.2, h4, h5, h6, (f1 h6).1, (f1 h6).2.1, (f1 h6).2.2.1, (f1 h6).2.2.2, h7, h8])
          | false =>
            have e : ctO feats (m, p, q, lo o, lo g, lo v) bs = Oc.err := by
              unfold ctO
              simp only [h1, h2, h3, h4, h5, cond_true, cond_false]
            rw [e]
            exact Tr.follow_get (ct_0h feats m p q o g v f bs) (by simp only [hsm, h1, h2, h3, (f2 h3).1, (f2 h3).2.1, (f2 h3).2.2.1, (f2 h3).2.2.2.1, (f2 h3).2.2.2.2.1, (f2 h3).2.2.2.2.2, h4, h5, (neE (c := 0) (d := 1) h4 rfl), (neE (c := 1) (d := 0) h4 rfl), (neE (c := 1) (d := 1) h4 rfl), (ne2 (c := 2) h4 rfl)])
        | false =>
          cases h9 : ((hd bs).getD (Int.toNat (0 : Int)) (0 : Int) == (0 : Int) && ((hd bs).getD (Int.toNat (1 : Int)) (0 : Int) == (1 : Int) && true)) with
          | true =>
            cases h10 : (hasB feats 18) with
            | true =>
              cases h11 : (decide ((↑(r2 bs).length : Int) < (1 : Int))) with
              | true =>
                have e : ctO feats (m, p, q, lo o, lo g, lo v) bs = Oc.err := by
                  unfold ctO
                  simp only [h1, h2, h3, h4, h9, h10, h11, cond_true, cond_false]
                rw [e]
                exact Tr.follow_get (ct_1m feats m p q o g v f bs) (by simp only [hsm, h1, h2, h3, (f2 h3).1, (f2 h3).2.1, (f2 h3).2.2.1, (f2 h3).2.2.2.1, (f2 h3).2.2.2.2.1, (f2 h3).2.2.2.2.2, h4, h9, h10, h11])
              | false =>
                cases h12 : (decide ((1 : Int) < (cutL (r2 bs) none (some (1 : Int))).getD (Int.toNat (0 : Int)) (0 : Int))) with
                | true =>
                  have e : ctO feats (m, p, q, lo o, lo g, lo v) bs = Oc.err := by
                    unfold ctO
                    simp only [h1, h2, h3, h4, h9, h10, h11, h12, cond_true, cond_false]
                  rw [e]
                  exact Tr.follow_get (ct_1b feats m p q o g v f bs) (by simp only [hsm, h1, h2, h3, (f2 h3).1, (f2 h3).2.1, (f2 h3).2.2.1, (f2 h3).2.2.2.1, (f2 h3).2.2.2.2.1, (f2 h3).2.2.2.2.2, h4, h9, h10, h11, (f1 h11).1, (f1 h11).2.1, (f1 h11).2.2.1, (f1 h11).2.2.2, h12])
                | false =>
                  cases h13 : (decide ((0 : Int) < (↑(cutL (r2 bs) (some (1 : Int)) none).length : Int))) with
                  | true =>
                    have e : ctO feats (m, p, q, lo o, lo g, lo v) bs = Oc.err := by
                      unfold ctO
                      simp only [h1, h2, h3, h4, h9, h10, h11, h12, h13, cond_true, cond_false]
                    rw [e]
                    exact Tr.follow_get (ct_1x feats m p q o g v f bs) (by simp only [hsm, h1, h2, h3, (f2 h3).1, (f2 h3).2.1, (f2 h3).2.2.1, (f2 h3).2.2.2.1, (f2 h3).2.2.2.2.1, (f2 h3).2.2.2.2.2, h4, h9, h10, h11, (f1 h11).1, (f1 h11).2.1, (f1 h11).2.2.1, (f1 h11).2.2.2, h12, h13])
                  | false =>
                    have e : ctO feats (m, p, q, lo o, lo g, lo v) bs = Oc.keep m p ((cutL (r2 bs) none (some (1 : Int))).getD (Int.toNat (0 : Int)) (0 : Int) == (1 : Int)) := by
                      unfold ctO
                      simp only [h1, h2, h3, h4, h9, h10, h11, h12, h13, cond_true, cond_false]
                    rw [e]
                    exact Tr.follow_get (ct_1o feats m p q o g v f bs) (by simp only [hsm, h1, h2, h3, (f2 h3).1, (f2 h3).2.1, (f2 h3).2.2.1, (f2 h3).2.2.2.1, (f2 h3).2.2.2.2.1, (f2 h3).2.2.2.2.2, h4, h9, h10, h11, (f1 h11).1, (f1 h11).2.1, (f1 h11).2.2.1, (f1 h11).2.2.2, h12, h13])
            | false =>
              have e : ctO feats (m, p, q, lo o, lo g, lo v) bs = Oc.err := by
                unfold ctO
                simp only [h1, h2, h3, h4, h9, h10, cond_true, cond_false]
              rw [e]
              exact Tr.follow_get (ct_1h feats m p q o g v f bs) (by simp only [hsm, h1, h2, h3, (f2 h3).1, (f2 h3).2.1, (f2 h3).2.2.1, (f2 h3).2.2.2.1, (f2 h3).2.2.2.2.1, (f2 h3).2.2.2.2.2, h4, h9, h10, (neE (c := 1) (d := 0) h9 rfl), (neE (c := 1) (d := 1) h9 rfl), (ne2 (c := 2) h9 rfl)])
          | false =>
            cases h14 : ((hd bs).getD (Int.toNat (0 : Int)) (0 : Int) == (1 : Int) && ((hd bs).getD (Int.toNat (1 : Int)) (0 : Int) == (0 : Int) && true)) with
            | true =>
              cases h15 : (hasB feats 18) with
              | true =>
                cases h16 : (decide ((↑(r2 bs).length : Int) < (4 : Int))) with
                | true =>
                  have e : ctO feats (m, p, q, lo o, lo g, lo v) bs = Oc.err := by
                    unfold ctO
                    simp only [h1, h2, h3, h4, h9, h14, h15, h16, cond_true, cond_false]
                  rw [e]
                  exact Tr.follow_get (ct_2m feats m p q o g v f bs) (by simp only [hsm, h1, h2, h3, (f2 h3).1, (f2 h3).2.1, (f2 h3).2.2.1, (f2 h3).2.2.2.1, (f2 h3).2.2.2.2.1, (f2 h3).2.2.2.2.2, h4, h9, h14, h15, h16])
                | false =>
                  cases h17 : (decide ((32 : Int) < nQ (q4 (r2 bs)))) with
                  | true =>
                    have e : ctO feats (m, p, q, lo o, lo g, lo v) bs = Oc.err := by
                      unfold ctO
                      simp only [h1, h2, h3, h4, h9, h14, h15, h16, h17, cond_true, cond_false]
                    rw [e]
                    exact Tr.follow_get (ct_2b feats m p q o g v f bs) (by simp only [hsm, h1, h2, h3, (f2 h3).1, (f2 h3).2.1, (f2 h3).2.2.1, (f2 h3).2.2.2.1, (f2 h3).2.2.2.2.1, (f2 h3).2.2.2.2.2, h4, h9, h14, h15, h16, (f4 h16).1, (f4 h16).2.1, (f4 h16).2.2.1, (f4 h16).2.2.2.1, (f4 h16).2.2.2.2.1, (f4 h16).2.2.2.2.2.1, (f4 h16).2.2.2.2.2.2.1, (f4 h16).2.2.2.2.2.2.2.1, (f4 h16).2.2.2.2.2.2.2.2.1, (f4 h16).2.2.2.2.2.2.2.2.2.1, (f4 h16).2.2.2.2.2.2.2.2.2.2.1, (f4 h16).2.2.2.2.2.2.2.2.2.2.2.1, (f4 h16).2.2.2.2.2.2.2.2.2.2.2.2.1, (f4 h16).2.2.2.2.2.2.2.2.2.2.2.2.2.1, (f4 h16).2.2.2.2.2.2.2.2.2.2.2.2.2.2, h17])
                  | false =>
                    cases h18 : ((phG (gM (r2 bs))).beq (0 : Nat)) with
                    | true =>
                      cases h19 : (decide ((↑(r4 (r2 bs)).length : Int) < (4 : Int))) with
                      | true =>
                        have e : ctO feats (m, p, q, lo o, lo g, lo v) bs = Oc.err := by
                          unfold ctO
                          simp only [h1, h2, h3, h4, h9, h14, h15, h16, h17, h18, h19, cond_true, cond_false]
                        rw [e]
                        exact Tr.follow_get (ct_2Am feats m p q o g v f bs) (by simp only [hsm, h1, h2, h3, (f2 h3).1, (f2 h3).2.1, (f2 h3).2.2.1, (f2 h3).2.2.2.1, (f2 h3).2.2.2.2.1, (f2 h3).2.2.2.2.2, h4, h9, h14, h15, h16, (f4 h16).1, (f4 h16).2.1, (f4 h16).2.2.1, (f4 h16).2.2.2.1, (f4 h16).2.2.2.2.1, (f4 h16).2.2.2.2.2.1, (f4 h16).2.2.2.2.2.2.1, (f4 h16).2.2.2.2.2.2.2.1, (f4 h16).2.2.2.2.2.2.2.2.1, (f4 h16).2.2.2.2.2.2.2.2.2.1, (f4 h16).2.2.2.2.2.2.2.2.2.2.1, (f4 h16).2.2.2.2.2.2.2.2.2.2.2.1, (f4 h16).2.2.2.2.2.2.2.2.2.2.2.2.1, (f4 h16).2.2.2.2.2.2.2.2.2.2.2.2.2.1, (f4 h16).2.2.2.2.2.2.2.2.2.2.2.2.2.2, h17, (fQ h17), h18, h19])
                      | false =>
                        cases h20 : (decide ((32 : Int) < nQ (q4 (r4 (r2 bs))))) with
                        | true =>
                          have e : ctO feats (m, p, q, lo o, lo g, lo v) bs = Oc.err := by
                            unfold ctO
                            simp only [h1, h2, h3, h4, h9, h14, h15, h16, h17, h18, h19, h20, cond_true, cond_false]
                          rw [e]
                          exact Tr.follow_get (ct_2Ab feats m p q o g v f bs) (by simp only [hsm, h1, h2, h3, (f2 h3).1, (f2 h3).2.1, (f2 h3).2.2.1, (f2 h3).2.2.2.1, (f2 h3).2.2.2.2.1, (f2 h3).2.2.2.2.2, h4, h9, h14, h15, h16, (f4 h16).1, (f4 h16).2.1, (f4 h16).2.2.1, (f4 h16).2.2.2.1, (f4 h16).2.2.2.2.1, (f4 h16).2.2.2.2.2.1, (f4 h16).2.2.2.2.2.2.1, (f4 h16).2.2.2.2.2.2.2.1, (f4 h16).2.2.2.2.2.2.2.2.1, (f4 h16).2.2.2.2.2.2.2.2.2.1, (f4 h16).2.2.2.2.2.2.2.2.2.2.1, (f4 h16).2.2.2.2.2.2.2.2.2.2.2.1, (f4 h16).2.2.2.2.2.2.2.2.2.2.2.2.1, (f4 h16).2.2.2.2.2.2.2.2.2.2.2.2.2.1, (f4 h16).2.2.2.2.2.2.2.2.2.2.2.2.2.2, h17, (fQ h17), h18, h19, (f4 h19).1, (f4 h19).2.1, (f4 h19).2.2.1, (f4 h19).2.2.2.1, (f4 h19).2.2.2.2.1, (f4 h19).2.2.2.2.2.1, (f4 h19).2.2.2.2.2.2.1, (f4 h19).2.2.2.2.2.2.2.1, (f4 h19).2.2.2.2.2.2.2.2.1, (f4 h19).2.2.2.2.2.2.2.2.2.1, (f4 h19).2.2.2.2.2.2.2.2.2.2.1, (f4 h19).2.2.2.2.2.2.2.2.2.2.2.1, (f4 h19).2.2.2.2.2.2.2.2.2.2.2.2.1, (f4 h19).2.2.2.2.2.2.2.2.2.2.2.2.2.1, (f4 h19).2.2.2.2.2.2.2.2.2.2.2.2.2.2, h20])
                        | false =>
                          cases h21 : ((phG (gM (r4 (r2 bs)))).beq (0 : Nat)) with
                          | true =>
                            cases h22 : (decide ((0 : Int) < (↑(r4 (r4 (r2 bs))).length : Int))) with
                            | true =>
                              have e : ctO feats (m, p, q, lo o, lo g, lo v) bs = Oc.err := by
                                unfold ctO
                                simp only [h1, h2, h3, h4, h9, h14, h15, h16, h17, h18, h19, h20, h21, h22, cond_true, cond_false]
                              rw [e]
                              exact Tr.follow_get (ct_2AAx feats m p q o g v f bs) (by simp only [hsm, h1, h2, h3, (f2 h3).1, (f2 h3).2.1, (f2 h3).2.2.1, (f2 h3).2.2.2.1, (f2 h3).2.2.2.2.1, (f2 h3).2.2.2.2.2, h4, h9, h14, h15, h16, (f4 h16).1, (f4 h16).2.1, (f4 h16).2.2.1, (f4 h16).2.2.2.1, (f4 h16).2.2.2.2.1, (f4 h16).2.2.2.2.2.1, (f4 h16).2.2.2.2.2.2.1, (f4 h16).2.2.2.2.2.2.2.1, (f4 h16).2.2.2.2.2.2.2.2.1, (f4 h16).2.2.2.2.2.2.2.2.2.1, (f4 h16).2.2.2.2.2.2.2.2.2.2.1, (f4 h16).2.2.2.2.2.2.2.2.2.2.2.1, (f4 h16).2.2.2.2.2.2.2.2.2.2.2.2.1, (f4 h16).2.2.2.2.2.2.2.2.2.2.2.2.2.1, (f4 h16).2.2.2.2.2.2.2.2.2.2.2.2.2.2, h17, (fQ h17), h18, h19, (f4 h19).1, (f4 h19).2.1, (f4 h19).2.2.1, (f4 h19).2.2.2.1, (f4 h19).2.2.2.2.1, (f4 h19).2.2.2.2.2.1, (f4 h19).2.2.2.2.2.2.1, (f4 h19).2.2.2.2.2.2.2.1, (f4 h19).2.2.2.2.2.2.2.2.1, (f4 h19).2.2.2.2.2.2.2.2.2.1, (f4 h19).2.2.2.2.2.2.2.2.2.2.1, (f4 h19).2.2.2.2.2.2.2.2.2.2.2.1, (f4 h19).2.2.2.2.2.2.2.2.2.2.2.2.1, (f4 h19).2.2.2.2.2.2.2.2.2.2.2.2.2.1, (f4 h19).2.2.2.2.2.2.2.2.2.2.2.2.2.2, h20, (fQ h20), h21, h22])
                            | false =>
                              have e : ctO feats (m, p, q, lo o, lo g, lo v) bs = Oc.tab none none := by
                                unfold ctO
                                simp only [h1, h2, h3, h4, h9, h14, h15, h16, h17, h18, h19, h20, h21, h22, cond_true, cond_false]
                              rw [e]
                              exact Tr.follow_get (ct_2AAo feats m p q o g v f bs) (by simp only [hsm, h1, h2, h3, (f2 h3).1, (f2 h3).2.1, (f2 h3).2.2.1, (f2 h3).2.2.2.1, (f2 h3).2.2.2.2.1, (f2 h3).2.2.2.2.2, h4, h9, h14, h15, h16, (f4 h16).1, (f4 h16).2.1, (f4 h16).2.2.1, (f4 h16).2.2.2.1, (f4 h16).2.2.2.2.1, (f4 h16).2.2.2.2.2.1, (f4 h16).2.2.2.2.2.2.1, (f4 h16).2.2.2.2.2.2.2.1, (f4 h16).2.2.2.2.2.2.2.2.1, (f4 h16).2.2.2.2.2.2.2.2.2.1, (f4 h16).2.2.2.2.2.2.2.2.2.2.1, (f4 h16).2.2.2.2.2.2.2.2.2.2.2.1, (f4 h16).2.2.2.2.2.2.2.2.2.2.2.2.1, (f4 h16).2.2.2.2.2.2.2.2.2.2.2.2.2.1, (f4 h16).2.2.2.2.2.2.2.2.2.2.2.2.2.2, h17, (fQ h17), h18, h19, (f4 h19).1, (f4 h19).2.1, (f4 h19).2.2.1, (f4 h19).2.2.2.1, (f4 h19).2.2.2.2.1, (f4 h19).2.2.2.2.2.1, (f4 h19).2.2.2.2.2.2.1, (f4 h19).2.2.2.2.2.2.2.1, (f4 h19).2.2.2.2.2.2.2.2.1, (f4 h19).2.2.2.2.2.2.2.2.2.1, (f4 h19).2.2.2.2.2.2.2.2.2.2.1, (f4 h19).2.2.2.2.2.2.2.2.2.2.2.1, (f4 h19).2.2.2.2.2.2.2.2.2.2.2.2.1, (f4 h19).2.2.2.2.2.2.2.2.2.2.2.2.2.1, (f4 h19).2.2.2.2.2.2.2.2.2.2.2.2.2.2, h20, (fQ h20), h21, h22])
                          | false =>
                            cases h23 : ((phG (gM (r4 (r2 bs)))).beq (1 : Nat)) with
                            | true =>
                              have e : ctO feats (m, p, q, lo o, lo g, lo v) bs = Oc.err := by
                                unfold ctO
                                simp only [h1, h2, h3, h4, h9, h14, h15, h16, h17, h18, h19, h20, h21, h23, cond_true, cond_false]
                              rw [e]
                              exact Tr.follow_get (ct_2AM feats m p q o g v f bs) (by simp only [hsm, h1, h2, h3, (f2 h3).1, (f2 h3).2.1, (f2 h3).2.2.1, (f2 h3).2.2.2.1, (f2 h3).2.2.2.2.1, (f2 h3).2.2.2.2.2, h4, h9, h14, h15, h16, (f4 h16).1, (f4 h16).2.1, (f4 h16).2.2.1, (f4 h16).2.2.2.1, (f4 h16).2.2.2.2.1, (f4 h16).2.2.2.2.2.1, (f4 h16).2.2.2.2.2.2.1, (f4 h16).2.2.2.2.2.2.2.1, (f4 h16).2.2.2.2.2.2.2.2.1, (f4 h16).2.2.2.2.2.2.2.2.2.1, (f4 h16).2.2.2.2.2.2.2.2.2.2.1, (f4 h16).2.2.2.2.2.2.2.2.2.2.2.1, (f4 h16).2.2.2.2.2.2.2.2.2.2.2.2.1, (f4 h16).2.2.2.2.2.2.2.2.2.2.2.2.2.1, (f4 h16).2.2.2.2.2.2.2.2.2.2.2.2.2.2, h17, (fQ h17), h18, h19, (f4 h19).1, (f4 h19).2.1, (f4 h19).2.2.1, (f4 h19).2.2.2.1, (f4 h19).2.2.2.2.1, (f4 h19).2.2.2.2.2.1, (f4 h19).2.2.2.2.2.2.1, (f4 h19).2.2.2.2.2.2.2.1, (f4 h19).2.2.2.2.2.2.2.2.1, (f4 h19).2.2.2.2.2.2.2.2.2.1, (f4 h19).2.2.2.2.2.2.2.2.2.2.1, (f4 h19).2.2.2.2.2.2.2.2.2.2.2.1, (f4 h19).2.2.2.2.2.2.2.2.2.2.2.2.1, (f4 h19).2.2.2.2.2.2.2.2.2.2.2.2.2.1, (f4 h19).2.2.2.2.2.2.2.2.2.2.2.2.2.2, h20, (fQ h20), h21, h23])
                            | false =>
                              cases h24 : ((gM (r4 (r2 bs))).snd.snd.snd.fst) with
                              | true =>
                                have e : ctO feats (m, p, q, lo o, lo g, lo v) bs = Oc.err := by
                                  unfold ctO
                                  simp only [h1, h2, h3, h4, h9, h14, h15, h16, h17, h18, h19, h20, h21, h23, h24, cond_true, cond_false]
                                rw [e]
                                exact Tr.follow_get (ct_2AB feats m p q o g v f bs) (by simp only [hsm, h1, h2, h3, (f2 h3).1, (f2 h3).2.1, (f2 h3).2.2.1, (f2 h3).2.2.2.1, (f2 h3).2.2.2.2.1, (f2 h3).2.2.2.2.2, h4, h9, h14, h15, h16, (f4 h16).1, (f4 h16).2.1, (f4 h16).2.2.1, (f4 h16).2.2.2.1, (f4 h16).2.2.2.2.1, (f4 h16).2.2.2.2.2.1, (f4 h16).2.2.2.2.2.2.1, (f4 h16).2.2.2.2.2.2.2.1, (f4 h16).2.2.2.2.2.2.2.2.1, (f4 h16).2.2.2.2.2.2.2.2.2.1, (f4 h16).2.2.2.2.2.2.2.2.2.2.1, (f4 h16).2.2.2.2.2.2.2.2.2.2.2.1, (f4 h16).2.2.2.2.2.2.2.2.2.2.2.2.1, (f4 h16).2.2.2.2.2.2.2.2.2.2.2.2.2.1, (f4 h16).2.2.2.2.2.2.2.2.2.2.2.2.2.2, h17, (fQ h17), h18, h19, (f4 h19).1, (f4 h19).2.1, (f4 h19).2.2.1, (f4 h19).2.2.2.1, (f4 h19).2.2.2.2.1, (f4 h19).2.2.2.2.2.1, (f4 h19).2.2.2.2.2.2.1, (f4 h19).2.2.2.2.2.2.2.1, (f4 h19).2.2.2.2.2.2.2.2.1, (f4 h19).2.2.2.2.2.2.2.2.2.1, (f4 h19).2.2.2.2.2.2.2.2.2.2.1, (f4 h19).2.2.2.2.2.2.2.2.2.2.2.1, (f4 h19).2.2.2.2.2.2.2.2.2.2.2.2.1, (f4 h19).2.2.2.2.2.2.2.2.2.2.2.2.2.1, (f4 h19).2.2.2.2.2.2.2.2.2.2.2.2.2.2, h20, (fQ h20), h21, h23, h24])
                              | false =>
                                cases h25 : (decide ((0 : Int) < (↑(gM (r4 (r2 bs))).snd.snd.fst.length : Int))) with
                                | true =>
                                  have e : ctO feats (m, p, q, lo o, lo g, lo v) bs = Oc.err := by
                                    unfold ctO
                                    simp only [h1, h2, h3, h4, h9, h14, h15, h16, h17, h18, h19, h20, h21, h23, h24, h25, cond_true, cond_false]
                                  rw [e]
                                  exact Tr.follow_get (ct_2AOx feats m p q o g v f bs) (by simp only [hsm, h1, h2, h3, (f2 h3).1, (f2 h3).2.1, (f2 h3).2.2.1, (f2 h3).2.2.2.1, (f2 h3).2.2.2.2.1, (f2 h3).2.2.2.2.2, h4, h9, h14, h15, h16, (f4 h16).1, (f4 h16).2.1, (f4 h16).2.2.1, (f4 h16).2.2.2.1, (f4 h16).2.2.2.2.1, (f4 h16).2.2.2.2.2.1, (f4 h16).2.2.2.2.2.2.1, (f4 h16).2.2.2.2.2.2.2.1, (f4 h16).2.2.2.2.2.2.2.2.1, (f4 h16).2.2.2.2.2.2.2.2.2.1, (f4 h16).2.2.2.2.2.2.2.2.2.2.1, (f4 h16).2.2.2.2.2.2.2.2.2.2.2.1, (f4 h16).2.2.2.2.2.2.2.2.2.2.2.2.1, (f4 h16).2.2.2.2.2.2.2.2.2.2.2.2.2.1, (f4 h16).2.2.2.2.2.2.2.2.2.2.2.2.2.2, h17, (fQ h17), h18, h19, (f4 h19).1, (f4 h19).2.1, (f4 h19).2.2.1, (f4 h19).2.2.2.1, (f4 h19).2.2.2.2.1, (f4 h19).2.2.2.2.2.1, (f4 h19).2.2.2.2.2.2.1, (f4 h19).2.2.2.2.2.2.2.1, (f4 h19).2.2.2.2.2.2.2.2.1, (f4 h19).2.2.2.2.2.2.2.2.2.1, (f4 h19).2.2.2.2.2.2.2.2.2.2.1, (f4 h19).2.2.2.2.2.2.2.2.2.2.2.1, (f4 h19).2.2.2.2.2.2.2.2.2.2.2.2.1, (f4 h19).2.2.2.2.2.2.2.2.2.2.2.2.2.1, (f4 h19).2.2.2.2.2.2.2.2.2.2.2.2.2.2, h20, (fQ h20), h21, h23, h24, h25])
                                | false =>
                                  have e : ctO feats (m, p, q, lo o, lo g, lo v) bs = Oc.tab none (some (gM (r4 (r2 bs))).2.1) := by
                                    unfold ctO
                                    simp only [h1, h2, h3, h4, h9, h14, h15, h16, h17, h18, h19, h20, h21, h23, h24, h25, cond_true, cond_false]
                                  rw [e]
                                  exact Tr.follow_get (ct_2AOo feats m p q o g v f bs) (by simp only [hsm, h1, h2, h3, (f2 h3).1, (f2 h3).2.1, (f2 h3).2.2.1, (f2 h3).2.2.2.1, (f2 h3).2.2.2.2.1, (f2 h3).2.2.2.2.2, h4, h9, h14, h15, h16, (f4 h16).1, (f4 h16).2.1, (f4 h16).2.2.1, (f4 h16).2.2.2.1, (f4 h16).2.2.2.2.1, (f4 h16).2.2.2.2.2.1, (f4 h16).2.2.2.2.2.2.1, (f4 h16).2.2.2.2.2.2.2.1, (f4 h16).2.2.2.2.2.2.2.2.1, (f4 h16).2.2.2.2.2.2.2.2.2.1, (f4 h16).2.2.2.2.2.2.2.2.2.2.1, (f4 h16).2.2.2.2.2.2.2.2.2.2.2.1, (f4 h16).2.2.2.2.2.2.2.2.2.2.2.2.1, (f4 h16).2.2.2.2.2.2.2.2.2.2.2.2.2.1, (f4 h16).2.2.2.2.2.2.2.2.2.2.2.2.2.2, h17, (fQ h17), h18, h19, (f4 h19).1, (f4 h19).2.1, (f4 h19).2.2.1, (f4 h19).2.2.2.1, (f4 h19).2.2.2.2.1, (f4 h19).2.2.2.2.2.1, (f4 h19).2.2.2.2.2.2.1, (f4 h19).2.2.2.2.2.2.2.1, (f4 h19).2.2.2.2.2.2.2.2.1, (f4 h19).2.2.2.2.2.2.2.2.2.1, (f4 h19).2.2.2.2.2.2.2.2.2.2.1, (f4 h19).2.2.2.2.2.2.2.2.2.2.2.1, (f4 h19).2.2.2.2.2.2.2.2.2.2.2.2.1, (f4 h19).2.2.2.2.2.2.2.2.2.2.2.2.2.1, (f4 h19).2.2.2.2.2.2.2.2.2.2.2.2.2.2, h20, (fQ h20), h21, h23, h24, h25])
                    | false =>
                      cases h26 : ((phG (gM (r2 bs))).beq (1 : Nat)) with
                      | true =>
                        have e : ctO feats (m, p, q, lo o, lo g, lo v) bs = Oc.err := by
                          unfold ctO
                          simp only [h1, h2, h3, h4, h9, h14, h15, h16, h17, h18, h26, cond_true, cond_false]
                        rw [e]
                        exact Tr.follow_get (ct_2M feats m p q o g v f bs) (by simp only [hsm, h1, h2, h3, (f2 h3).1, (f2 h3).2.1, (f2 h3).2.2.1, (f2 h3).2.2.2.1, (f2 h3).2.2.2.2.1, (f2 h3).2.2.2.2.2, h4, h9, h14, h15, h16, (f4 h16).1, (f4 h16).2.1, (f4 h16).2.2.1, (f4 h16).2.2.2.1, (f4 h16).2.2.2.2.1, (f4 h16).2.2.2.2.2.1, (f4 h16).2.2.2.2.2.2.1, (f4 h16).2.2.2.2.2.2.2.1, (f4 h16).2.2.2.2.2.2.2.2.1, (f4 h16).2.2.2.2.2.2.2.2.2.1, (f4 h16).2.2.2.2.2.2.2.2.2.2.1, (f4 h16).2.2.2.2.2.2.2.2.2.2.2.1, (f4 h16).2.2.2.2.2.2.2.2.2.2.2.2.1, (f4 h16).2.2.2.2.2.2.2.2.2.2.2.2.2.1, (f4 h16).2.2.2.2.2.2.2.2.2.2.2.2.2.2, h17, (fQ h17), h18, h26])
                      | false =>
                        cases h27 : ((gM (r2 bs)).snd.snd.snd.fst) with
                        | true =>
                          have e : ctO feats (m, p, q, lo o, lo g, lo v) bs = Oc.err := by
                            unfold ctO
                            simp only [h1, h2, h3, h4, h9, h14, h15, h16, h17, h18, h26, h27, cond_true, cond_false]
                          rw [e]
                          exact Tr.follow_get (ct_2B feats m p q o g v f bs) (by simp only [hsm, h1, h2, h3, (f2 h3).1, (f2 h3).2.1, (f2 h3).2.2.1, (f2 h3).2.2.2.1, (f2 h3).2.2.2.2.1, (f2 h3).2.2.2.2.2, h4, h9, h14, h15, h16, (f4 h16).1, (f4 h16).2.1, (f4 h16).2.2.1, (f4 h16).2.2.2.1, (f4 h16).2.2.2.2.1, (f4 h16).2.2.2.2.2.1, (f4 h16).2.2.2.2.2.2.1, (f4 h16).2.2.2.2.2.2.2.1, (f4 h16).2.2.2.2.2.2.2.2.1, (f4 h16).2.2.2.2.2.2.2.2.2.1, (f4 h16).2.2.2.2.2.2.2.2.2.2.1, (f4 h16).2.2.2.2.2.2.2.2.2.2.2.1, (f4 h16).2.2.2.2.2.2.2.2.2.2.2.2.1, (f4 h16).2.2.2.2.2.2.2.2.2.2.2.2.2.1, (f4 h16).2.2.2.2.2.2.2.2.2.2.2.2.2.2, h17, (fQ h17), h18, h26, h27])
                        | false =>
                          cases h28 : (decide ((↑(gM (r2 bs)).snd.snd.fst.length : Int) < (4 : Int))) with
                          | true =>
                            have e : ctO feats (m, p, q, lo o, lo g, lo v) bs = Oc.err := by
                              unfold ctO
                              simp only [h1, h2, h3, h4, h9, h14, h15, h16, h17, h18, h26, h27, h28, cond_true, cond_false]
                            rw [e]
                            exact Tr.follow_get (ct_2Om feats m p q o g v f bs) (by simp only [hsm, h1, h2, h3, (f2 h3).1, (f2 h3).2.1, (f2 h3).2.2.1, (f2 h3).2.2.2.1, (f2 h3).2.2.2.2.1, (f2 h3).2.2.2.2.2, h4, h9, h14, h15, h16, (f4 h16).1, (f4 h16).2.1, (f4 h16).2.2.1, (f4 h16).2.2.2.1, (f4 h16).2.2.2.2.1, (f4 h16).2.2.2.2.2.1, (f4 h16).2.2.2.2.2.2.1, (f4 h16).2.2.2.2.2.2.2.1, (f4 h16).2.2.2.2.2.2.2.2.1, (f4 h16).2.2.2.2.2.2.2.2.2.1, (f4 h16).2.2.2.2.2.2.2.2.2.2.1, (f4 h16).2.2.2.2.2.2.2.2.2.2.2.1, (f4 h16).2.2.2.2.2.2.2.2.2.2.2.2.1, (f4 h16).2.2.2.2.2.2.2.2.2.2.2.2.2.1, (f4 h16).2.2.2.2.2.2.2.2.2.2.2.2.2.2, h17, (fQ h17), h18, h26, h27, h28])
                          | false =>
                            cases h29 : (decide ((32 : Int) < nQ (q4 (gM (r2 bs)).snd.snd.fst))) with
                            | true =>
                              have e : ctO feats (m, p, q, lo o, lo g, lo v) bs = Oc.err := by
                                unfold ctO
                                simp only [h1, h2, h3, h4, h9, h14, h15, h16, h17, h18, h26, h27, h28, h29, cond_true, cond_false]
                              rw [e]
                              exact Tr.follow_get (ct_2Ob feats m p q o g v f bs) (by simp only [hsm, h1, h2, h3, (f2 h3).1, (f2 h3).2.1, (f2 h3).2.2.1, (f2 h3).2.2.2.1, (f2 h3).2.2.2.2.1, (f2 h3).2.2.2.2.2, h4, h9, h14, h15, h16, (f4 h16).1, (f4 h16).2.1, (f4 h16).2.2.1, (f4 h16).2.2.2.1, (f4 h16).2.2.2.2.1, (f4 h16).2.2.2.2.2.1, (f4 h16).2.2.2.2.2.2.1, (f4 h16).2.2.2.2.2.2.2.1, (f4 h16).2.2.2.2.2.2.2.2.1, (f4 h16).2.2.2.2.2.2.2.2.2.1, (f4 h16).2.2.2.2.2.2.2.2.2.2.1, (f4 h16).2.2.2.2.2.2.2.2.2.2.2.1, (f4 h16).2.2.2.2.2.2.2.2.2.2.2.2.1, (f4 h16).2.2.2.2.2.2.2.2.2.2.2.2.2.1, (f4 h16).2.2.2.2.2.2.2.2.2.2.2.2.2.2, h17, (fQ h17), h18, h26, h27, h28, (f4 h28).1, (f4 h28).2.1, (f4 h28).2.2.1, (f4 h28).2.2.2.1, (f4 h28).2.2.2.2.1, (f4 h28).2.2.2.2.2.1, (f4 h28).2.2.2.2.2.2.1, (f4 h28).2.2.2.2.2.2.2.1, (f4 h28).2.2.2.2.2.2.2.2.1, (f4 h28).2.2.2.2.2.2.2.2.2.1, (f4 h28).2.2.2.2.2.2.2.2.2.2.1, (f4 h28).2.2.2.2.2.2.2.2.2.2.2.1, (f4 h28).2.2.2.2.2.2.2.2.2.2.2.2.1, (f4 h28).2.2.2.2.2.2.2.2.2.2.2.2.2.1, (f4 h28).2.2.2.2.2.2.2.2.2.2.2.2.2.2, h29])
                            | false =>
                              cases h30 : ((phG (gM (gM (r2 bs)).snd.snd.fst)).beq (0 : Nat)) with
                              | true =>
                                cases h31 : (decide ((0 : Int) < (↑(r4 (gM (r2 bs)).snd.snd.fst).length : Int))) with
                                | true =>
                                  have e : ctO feats (m, p, q, lo o, lo g, lo v) bs = Oc.err := by
                                    unfold ctO
                                    simp only [h1, h2, h3, h4, h9, h14, h15, h16, h17, h18, h26, h27, h28, h29, h30, h31, cond_true, cond_false]
                                  rw [e]
                                  exact Tr.follow_get (ct_2OAx feats m p q o g v f bs) (by simp only [hsm, h1, h2, h3, (f2 h3).1, (f2 h3).2.1, (f2 h3).2.2.1, (f2 h3).2.2.2.1, (f2 h3).2.2.2.2.1, (f2 h3).2.2.2.2.2, h4, h9, h14, h15, h16, (f4 h16).1, (f4 h16).2.1, (f4 h16).2.2.1, (f4 h16).2.2.2.1, (f4 h16).2.2.2.2.1, (f4 h16).2.2.2.2.2.1, (f4 h16).2.2.2.2.2.2.1, (f4 h16).2.2.2.2.2.2.2.1, (f4 h16).2.2.2.2.2.2.2.2.1, (f4 h16).2.2.2.2.2.2.2.2.2.1, (f4 h16).2.2.2.2.2.2.2.2.2.2.1, (f4 h16).2.2.2.2.2.2.2.2.2.2.2.1, (f4 h16).2.2.2.2.2.2.2.2.2.2.2.2.1, (f4 h16).2.2.2.2.2.2.2.2.2.2.2.2.2.1, (f4 h16).2.2.2.2.2.2.2.2.2.2.2.2.2.2, h17, (fQ h17), h18, h26, h27, h28, (f4 h28).1, (f4 h28).2.1, (f4 h28).2.2.1, (f4 h28).2.2.2.1, (f4 h28).2.2.2.2.1, (f4 h28).2.2.2.2.2.1, (f4 h28).2.2.2.2.2.2.1, (f4 h28).2.2.2.2.2.2.2.1, (f4 h28).2.2.2.2.2.2.2.2.1, (f4 h28).2.2.2.2.2.2.2.2.2.1, (f4 h28).2.2.2.2.2.2.2.2.2.2.1, (f4 h28).2.2.2.2.2.2.2.2.2.2.2.1, (f4 h28).2.2.2.2.2.2.2.2.2.2.2.2.1, (f4 h28).2.2.2.2.2.2.2.2.2.2.2.2.2.1, (f4 h28).2.2.2.2.2.2.2.2.2.2.2.2.2.2, h29, (fQ h29), h30, h31])
                                | false =>
                                  have e : ctO feats (m, p, q, lo o, lo g, lo v) bs = Oc.tab (some (gM (r2 bs)).2.1) none := by
                                    unfold ctO
                                    simp only [h1, h2, h3, h4, h9, h14, h15, h16, h17, h18, h26, h27, h28, h29, h30, h31, cond_true, cond_false]
                                  rw [e]
                                  exact Tr.follow_get (ct_2OAo feats m p q o g v f bs) (by simp only [hsm, h1, h2, h3, (f2 h3).1, (f2 h3).2.1, (f2 h3).2.2.1, (f2 h3).2.2.2.1, (f2 h3).2.2.2.2.1, (f2 h3).2.2.2.2.2, h4, h9, h14, h15, h16, (f4 h16).1, (f4 h16).2.1, (f4 h16).2.2.1, (f4 h16).2.2.2.1, (f4 h16).2.2.2.2.1, (f4 h16).2.2.2.2.2.1, (f4 h16).2.2.2.2.2.2.1, (f4 h16).2.2.2.2.2.2.2.1, (f4 h16).2.2.2.2.2.2.2.2.1, (f4 h16).2.2.2.2.2.2.2.2.2.1, (f4 h16).2.2.2.2.2.2.2.2.2.2.1, (f4 h16).2.2.2.2.2.2.2.2.2.2.2.1, (f4 h16).2.2.2.2.2.2.2.2.2.2.2.2.1, (f4 h16).2.2.2.2.2.2.2.2.2.2.2.2.2.1, (f4 h16).2.2.2.2.2.2.2.2.2.2.2.2.2.2, h17, (fQ h17), h18, h26, h27, h28, (f4 h28).1, (f4 h28).2.1, (f4 h28).2.2.1, (f4 h28).2.2.2.1, (f4 h28).2.2.2.2.1, (f4 h28).2.2.2.2.2.1, (f4 h28).2.2.2.2.2.2.1, (f4 h28).2.2.2.2.2.2.2.1, (f4 h28).2.2.2.2.2.2.2.2.1, (f4 h28).2.2.2.2.2.2.2.2.2.1, (f4 h28).2.2.2.2.2.2.2.2.2.2.1, (f4 h28).2.2.2.2.2.2.2.2.2.2.2.1, (f4 h28).2.2.2.2.2.2.2.2.2.2.2.2.1, (f4 h28).2.2.2.2.2.2.2.2.2.2.2.2.2.1, (f4 h28).2.2.2.2.2.2.2.2.2.2.2.2.2.2, h29, (fQ h29), h30, h31])
                              | false =>
                                cases h32 : ((phG (gM (gM (r2 bs)).snd.snd.fst)).beq (1 : Nat)) with
                                | true =>
                                  have e : ctO feats (m, p, q, lo o, lo g, lo v) bs = Oc.err := by
                                    unfold ctO
                                    simp only [h1, h2, h3, h4, h9, h14, h15, h16, h17, h18, h26, h27, h28, h29, h30, h32, cond_true, cond_false]
                                  rw [e]
                                  exact Tr.follow_get (ct_2OM feats m p q o g v f bs) (by simp only [hsm, h1, h2, h3, (f2 h3).1, (f2 h3).2.1, (f2 h3).2.2.1, (f2 h3).2.2.2.1, (f2 h3).2.2.2.2.1, (f2 h3).2.2.2.2.2, h4, h9, h14, h15, h16, (f4 h16).1, (f4 h16).2.1, (f4 h16).2.2.1, (f4 h16).2.2.2.1, (f4 h16).2.2.2.2.1, (f4 h16).2.2.2.2.2.1, (f4 h16).2.2.2.2.2.2.1, (f4 h16).2.2.2.2.2.2.2.1, (f4 h16).2.2.2.2.2.2.2.2.1, (f4 h16).2.2.2.2.2.2.2.2.2.1, (f4 h16).2.2.2.2.2.2.2.2.2.2.1, (f4 h16).2.2.2.2.2.2.2.2.2.2.2.1, (f4 h16).2.2.2.2.2.2.2.2.2.2.2.2.1, (f4 h16).2.2.2.2.2.2.2.2.2.2.2.2.2.1, (f4 h16).2.2.2.2.2.2.2.2.2.2.2.2.2.2, h17, (fQ h17), h18, h26, h27, h28, (f4 h28).1, (f4 h28).2.1, (f4 h28).2.2.1, (f4 h28).2.2.2.1, (f4 h28).2.2.2.2.1, (f4 h28).2.2.2.2.2.1, (f4 h28).2.2.2.2.2.2.1, (f4 h28).2.2.2.2.2.2.2.1, (f4 h28).2.2.2.2.2.2.2.2.1, (f4 h28).2.2.2.2.2.2.2.2.2.1, (f4 h28).2.2.2.2.2.2.2.2.2.2.1, (f4 h28).2.2.2.2.2.2.2.2.2.2.2.1, (f4 h28).2.2.2.2.2.2.2.2.2.2.2.2.1, (f4 h28).2.2.2.2.2.2.2.2.2.2.2.2.2.1, (f4 h28).2.2.2.2.2.2.2.2.2.2.2.2.2.2, h29, (fQ h29), h30, h32])
                                | false =>
                                  cases h33 : ((gM (gM (r2 bs)).snd.snd.fst).snd.snd.snd.fst) with
                                  | true =>
                                    have e : ctO feats (m, p, q, lo o, lo g, lo v) bs = Oc.err := by
                                      unfold ctO
                                      simp only [h1, h2, h3, h4, h9, h14, h15, h16, h17, h18, h26, h27, h28, h29, h30, h32, h33, cond_true, cond_false]
                                    rw [e]
                                    exact Tr.follow_get (ct_2OB feats m p q o g v f bs) (by simp only [hsm, h1, h2, h3, (f2 h3).1, (f2 h3).2.1, (f2 h3).2.2.1, (f2 h3).2.2.2.1, (f2 h3).2.2.2.2.1, (f2 h3).2.2.2.2.2, h4, h9, h14, h15, h16, (f4 h16).1, (f4 h16).2.1, (f4 h16).2.2.1, (f4 h16).2.2.2.1, (f4 h16).2.2.2.2.1, (f4 h16).2.2.2.2.2.1, (f4 h16).2.2.2.2.2.2.1, (f4 h16).2.2.2.2.2.2.2.1, (f4 h16).2.2.2.2.2.2.2.2.1, (f4 h16).2.2.2.2.2.2.2.2.2.1, (f4 h16).2.2.2.2.2.2.2.2.2.2.1, (f4 h16).2.2.2.2.2.2.2.2.2.2.2.1, (f4 h16).2.2.2.2.2.2.2.2.2.2.2.2.1, (f4 h16).2.2.2.2.2.2.2.2.2.2.2.2.2.1, (f4 h16).2.2.2.2.2.2.2.2.2.2.2.2.2.2, h17, (fQ h17), h18, h26, h27, h28, (f4 h28).1, (f4 h28).2.1, (f4 h28).2.2.1, (f4 h28).2.2.2.1, (f4 h28).2.2.2.2.1, (f4 h28).2.2.2.2.2.1, (f4 h28).2.2.2.2.2.2.1, (f4 h28).2.2.2.2.2.2.2.1, (f4 h28).2.2.2.2.2.2.2.2.1, (f4 h28).2.2.2.2.2.2.2.2.2.1, (f4 h28).2.2.2.2.2.2.2.2.2.2.1, (f4 h28).2.2.2.2.2.2.2.2.2.2.2.1, (f4 h28).2.2.2.2.2.2.2.2.2.2.2.2.1, (f4 h28).2.2.2.2.2.2.2.2.2.2.2.2.2.1, (f4 h28).2.2.2.2.2.2.2.2.2.2.2.2.2.2, h29, (fQ h29), h30, h32, h33])
                                  | false =>
                                    cases h34 : (decide ((0 : Int) < (↑(gM (gM (r2 bs)).snd.snd.fst).snd.snd.fst.length : Int))) with
                                    | true =>
                                      have e : ctO feats (m, p, q, lo o, lo g, lo v) bs = Oc.err := by
                                        unfold ctO
                                        simp only [h1, h2, h3, h4, h9, h14, h15, h16, h17, h18, h26, h27, h28, h29, h30, h32, h33, h34, cond_true, cond_false]
                                      rw [e]
                                      exact Tr.follow_get (ct_2OOx feats m p q o g v f bs) (by simp only [hsm, h1, h2, h3, (f2 h3).1, (f2 h3).2.1, (f2 h3).2.2.1, (f2 h3).2.2.2.1, (f2 h3).2.2.2.2.1, (f2 h3).2.2.2.2.2, h4, h9, h14, h15, h16, (f4 h16).1, (f4 h16).2.1, (f4 h16).2.2.1, (f4 h16).2.2.2.1, (f4 h16).2.2.2.2.1, (f4 h16).2.2.2.2.2.1, (f4 h16).2.2.2.2.2.2.1, (f4 h16).2.2.2.2.2.2.2.1, (f4 h16).2.2.2.2.2.2.2.2.1, (f4 h16).2.2.2.2.2.2.2.2.2.1, (f4 h16).2.2.2.2.2.2.2.2.2.2.1, (f4 h16).2.2.2.2.2.2.2.2.2.2.2.1, (f4 h16).2.2.2.2.2.2.2.2.2.2.2.2.1, (f4 h16).2.2.2.2.2.2.2.2.2.2.2.2.2.1, (f4 h16).2.2.2.2.2.2.2.2.2.2.2.2.2.2, h17, (fQ h17), h18, h26, h27, h28, (f4 h28).1, (f4 h28).2.1, (f4 h28).2.2.1, (f4 h28).2.2.2.1, (f4 h28).2.2.2.2.1, (f4 h28).2.2.2.2.2.1, (f4 h28).2.2.2.2.2.2.1, (f4 h28).2.2.2.2.2.2.2.1, (f4 h28).2.2.2.2.2.2.2.2.1, (f4 h28).2.2.2.2.2.2.2.2.2.1, (f4 h28).2.2.2.2.2.2.2.2.2.2.1, (f4 h28).2.2.2.2.2.2.2.2.2.2.2.1, (f4 h28).2.2.2.2.2.2.2.2.2.2.2.2.1, (f4 h28).2.2.2.2.2.2.2.2.2.2.2.2.2.1, (f4 h28).2.2.2.2.2.2.2.2.2.2.2.2.2.2, h29, (fQ h29), h30, h32, h33, h34])
                                    | false =>
                                      have e : ctO feats (m, p, q, lo o, lo g, lo v) bs = Oc.tab (some (gM (r2 bs)).2.1) (some (gM (gM (r2 bs)).snd.snd.fst).2.1) := by
                                        unfold ctO
                                        simp only [h1, h2, h3, h4, h9, h14, h15, h16, h17, h18, h26, h27, h28, h29, h30, h32, h33, h34, cond_true, cond_false]
                                      rw [e]
                                      exact Tr.follow_get (ct_2OOo feats m p q o g v f bs) (by simp only [hsm, h1, h2, h3, (f2 h3).1, (f2 h3).2.1, (f2 h3).2.2.1, (f2 h3).2.2.2.1, (f2 h3).2.2.2.2.1, (f2 h3).2.2.2.2.2, h4, h9, h14, h15, h16, (f4 h16).1, (f4 h16).2.1, (f4 h16).2.2.1, (f4 h16).2.2.2.1, (f4 h16).2.2.2.2.1, (f4 h16).2.2.2.2.2.1, (f4 h16).2.2.2.2.2.2.1, (f4 h16).2.2.2.2.2.2.2.1, (f4 h16).2.2.2.2.2.2.2.2.1, (f4 h16).2.2.2.2.2.2.2.2.2.1, (f4 h16).2.2.2.2.2.2.2.2.2.2.1, (f4 h16).2.2.2.2.2.2.2.2.2.2.2.1, (f4 h16).2.2.2.2.2.2.2.2.2.2.2.2.1, (f4 h16).2.2.2.2.2.2.2.2.2.2.2.2.2.1, (f4 h16).2.2.2.2.2.2.2.2.2.2.2.2.2.2, h17, (fQ h17), h18, h26, h27, h28, (f4 h28).1, (f4 h28).2.1, (f4 h28).2.2.1, (f4 h28).2.2.2.1, (f4 h28).2.2.2.2.1, (f4 h28).2.2.2.2.2.1, (f4 h28).2.2.2.2.2.2.1, (f4 h28).2.2.2.2.2.2.2.1, (f4 h28).2.2.2.2.2.2.2.2.1, (f4 h28).2.2.2.2.2.2.2.2.2.1, (f4 h28).2.2.2.2.2.2.2.2.2.2.1, (f4 h28).2.2.2.2.2.2.2.2.2.2.2.1, (f4 h28).2.2.2.2.2.2.2.2.2.2.2.2.1, (f4 h28).2.2.2.2.2.2.2.2.2.2.2.2.2.1, (f4 h28).2.2.2.2.2.2.2.2.2.2.2.2.2.2, h29, (fQ h29), h30, h32, h33, h34])
              | false =>
                have e : ctO feats (m, p, q, lo o, lo g, lo v) bs = Oc.err := by
                  unfold ctO
                  simp only [h1, h2, h3, h4, h9, h14, h15, cond_true, cond_false]
                rw [e]
                exact Tr.follow_get (ct_2h feats m p q o g v f bs) (by simp only [hsm, h1, h2, h3, (f2 h3).1, (f2 h3).2.1, (f2 h3).2.2.1, (f2 h3).2.2.2.1, (f2 h3).2.2.2.2.1, (f2 h3).2.2.2.2.2, h4, h9, h14, h15, (neE (c := 1) (d := 1) h14 rfl), (ne2 (c := 2) h14 rfl)])
            | false =>
              cases h35 : ((hd bs).getD (Int.toNat (0 : Int)) (0 : Int) == (1 : Int) && ((hd bs).getD (Int.toNat (1 : Int)) (0 : Int) == (1 : Int) && true)) with
              | true =>
                cases h36 : (hasB feats 23) with
                | true =>
                  cases h37 : (decide ((↑(r2 bs).length : Int) < (6 : Int))) with
                  | true =>
                    have e : ctO feats (m, p, q, lo o, lo g, lo v) bs = Oc.err := by
                      unfold ctO
                      simp only [h1, h2, h3, h4, h9, h14, h35, h36, h37, cond_true, cond_false]
                    rw [e]
                    exact Tr.follow_get (ct_3m feats m p q o g v f bs) (by simp only [hsm, h1, h2, h3, (f2 h3).1, (f2 h3).2.1, (f2 h3).2.2.1, (f2 h3).2.2.2.1, (f2 h3).2.2.2.2.1, (f2 h3).2.2.2.2.2, h4, h9, h14, h35, h36, h37])
                  | false =>
                    cases h38 : (decide ((0 : Int) < (↑(cutL (r2 bs) (some (6 : Int)) none).length : Int))) with
                    | true =>
                      have e : ctO feats (m, p, q, lo o, lo g, lo v) bs = Oc.err := by
                        unfold ctO
                        simp only [h1, h2, h3, h4, h9, h14, h35, h36, h37, h38, cond_true, cond_false]
                      rw [e]
                      exact Tr.follow_get (ct_3x feats m p q o g v f bs) (by simp only [hsm, h1, h2, h3, (f2 h3).1, (f2 h3).2.1, (f2 h3).2.2.1, (f2 h3).2.2.2.1, (f2 h3).2.2.2.2.1, (f2 h3).2.2.2.2.2, h4, h9, h14, h35, h36, h37, (f6 h37).1, (f6 h37).2.1, h38]; rw [(f6 h37).2.2.1, (f6 h37).2.2.2.1, (f6 h37).2.2.2.2])
                    | false =>
                      have e : ctO feats (m, p, q, lo o, lo g, lo v) bs = Oc.keep (macAt (cutL (r2 bs) none (some 6))) p q := by
                        unfold ctO
                        simp only [h1, h2, h3, h4, h9, h14, h35, h36, h37, h38, cond_true, cond_false]
                      rw [e]
                      exact Tr.follow_get (ct_3o feats m p q o g v f bs) (by simp only [hsm, h1, h2, h3, (f2 h3).1, (f2 h3).2.1, (f2 h3).2.2.1, (f2 h3).2.2.2.1, (f2 h3).2.2.2.2.1, (f2 h3).2.2.2.2.2, h4, h9, h14, h35, h36, h37, (f6 h37).1, (f6 h37).2.1, h38]; rw [(f6 h37).2.2.1, (f6 h37).2.2.2.1, (f6 h37).2.2.2.2])
                | false =>
                  have e : ctO feats (m, p, q, lo o, lo g, lo v) bs = Oc.err := by
                    unfold ctO
                    simp only [h1, h2, h3, h4, h9, h14, h35, h36, cond_true, cond_false]
                  rw [e]
                  exact Tr.follow_get (ct_3h feats m p q o g v f bs) (by simp only [hsm, h1, h2, h3, (f2 h3).1, (f2 h3).2.1, (f2 h3).2.2.1, (f2 h3).2.2.2.1, (f2 h3).2.2.2.2.1, (f2 h3).2.2.2.2.2, h4, h9, h14, h35, h36, (ne2 (c := 2) h35 rfl)])
              | false =>
                cases h39 : ((hd bs).getD (Int.toNat (0 : Int)) (0 : Int) == (2 : Int)) with
                | true =>
                  cases hLE : (decide ((hd bs).getD (Int.toNat (1 : Int)) (0 : Int) ≤ (1 : Int))) with
                  | true =>
                    cases h41 : (hasB feats 19) with
                    | true =>
                      cases h42 : (decide ((↑(r2 bs).length : Int) < (2 : Int))) with
                      | true =>
                        cases h43 : ((hd bs).getD (Int.toNat (1 : Int)) (0 : Int) == (0 : Int)) with
                        | true =>
                          cases h44 : (bsF (lo v) (bitsV IntKind.i64 BinOp.or ((List.replicate (Int.toNat (2 : Int)) (0 : Int)).getD (Int.toNat (0 : Int)) (C24 (5 : Nat)).d) (shlV IntKind.i64 ((List.replicate (Int.toNat (2 : Int)) (0 : Int)).getD (Int.toNat (1 : Int)) (C24 (5 : Nat)).d) (8 : Int)))) with
                          | true =>
                            have e : ctO feats (m, p, q, lo o, lo g, lo v) bs = Oc.err := by
                              unfold ctO
                              simp only [h1, h2, h3, h4, h9, h14, h35, h39, hLE, h41, h42, h44, cond_true, cond_false]
                            rw [e]
                            exact Tr.follow_get (ct_4m0t feats m p q o g v f bs) (by simp only [hsm, h1, h2, h3, (f2 h3).1, (f2 h3).2.1, (f2 h3).2.2.1, (f2 h3).2.2.2.1, (f2 h3).2.2.2.2.1, (f2 h3).2.2.2.2.2, h4, h9, h14, h35, h39, hLE, h41, h42, (decide_eq_true hv), (fNt h44)]; simp only [h43, (fK1 h43)])
                          | false =>
                            have e : ctO feats (m, p, q, lo o, lo g, lo v) bs = Oc.err := by
                              unfold ctO
                              simp only [h1, h2, h3, h4, h9, h14, h35, h39, hLE, h41, h42, h44, cond_true, cond_false]
                            rw [e]
                            cases v with
                            | none =>
                              exact Tr.follow_get (ct_4m0fN feats m p q o g f bs) (by simp only [hsm, h1, h2, h3, (f2 h3).1, (f2 h3).2.1, (f2 h3).2.2.1, (f2 h3).2.2.2.1, (f2 h3).2.2.2.2.1, (f2 h3).2.2.2.2.2, h4, h9, h14, h35, h39, hLE, h41, h42]; simp only [h43])
                            | some w =>
                              obtain ⟨a, b, VS⟩ := w
                              exact Tr.follow_get (ct_4m0f feats m p q o g a b VS f bs) (by simp only [hsm, h1, h2, h3, (f2 h3).1, (f2 h3).2.1, (f2 h3).2.2.1, (f2 h3).2.2.2.1, (f2 h3).2.2.2.2.1, (f2 h3).2.2.2.2.2, h4, h9, h14, h35, h39, hLE, h41, h42, (decide_eq_true hv), (fNf h44), (fI hv (bitsV IntKind.i64 BinOp.or ((List.replicate (Int.toNat (2 : Int)) (0 : Int)).getD (Int.toNat (0 : Int)) (C24 (5 : Nat)).d) (shlV IntKind.i64 ((List.replicate (Int.toNat (2 : Int)) (0 : Int)).getD (Int.toNat (1 : Int)) (C24 (5 : Nat)).d) (8 : Int))))]; simp only [h43])
                        | false =>
                          cases h45 : (bsF (lo v) (bitsV IntKind.i64 BinOp.or ((List.replicate (Int.toNat (2 : Int)) (0 : Int)).getD (Int.toNat (0 : Int)) (C24 (5 : Nat)).d) (shlV IntKind.i64 ((List.replicate (Int.toNat (2 : Int)) (0 : Int)).getD (Int.toNat (1 : Int)) (C24 (5 : Nat)).d) (8 : Int)))) with
                          | true =>
                            have e : ctO feats (m, p, q, lo o, lo g, lo v) bs = Oc.err := by
                              unfold ctO
                              simp only [h1, h2, h3, h4, h9, h14, h35, h39, hLE, h41, h42, h45, cond_true, cond_false]
                            rw [e]
                            cases v with
                            | none =>
                              exact absurd h45 bsF_nil
                            | some w =>
                              obtain ⟨a, b, VS⟩ := w
                              exact Tr.follow_get (ct_4m1t feats m p q o g a b VS f bs) (by simp only [hsm, h1, h2, h3, (f2 h3).1, (f2 h3).2.1, (f2 h3).2.2.1, (f2 h3).2.2.2.1, (f2 h3).2.2.2.2.1, (f2 h3).2.2.2.2.2, h4, h9, h14, h35, h39, hLE, h41, h42, (decide_eq_true hv), h45, (fZ hv (bitsV IntKind.i64 BinOp.or ((List.replicate (Int.toNat (2 : Int)) (0 : Int)).getD (Int.toNat (0 : Int)) (C24 (5 : Nat)).d) (shlV IntKind.i64 ((List.replicate (Int.toNat (2 : Int)) (0 : Int)).getD (Int.toNat (1 : Int)) (C24 (5 : Nat)).d) (8 : Int)))), (fD hv h45)]; simp only [h43, (fK2 hb hLE h43)])
                          | false =>
                            have e : ctO feats (m, p, q, lo o, lo g, lo v) bs = Oc.err := by
                              unfold ctO
                              simp only [h1, h2, h3, h4, h9, h14, h35, h39, hLE, h41, h42, h45, cond_true, cond_false]
                            rw [e]
                            exact Tr.follow_get (ct_4m1f feats m p q o g v f bs) (by simp only [hsm, h1, h2, h3, (f2 h3).1, (f2 h3).2.1, (f2 h3).2.2.1, (f2 h3).2.2.2.1, (f2 h3).2.2.2.2.1, (f2 h3).2.2.2.2.2, h4, h9, h14, h35, h39, hLE, h41, h42, (decide_eq_true hv), h45]; simp only [h43, (fK2 hb hLE h43)])
                      | false =>
                        cases h46 : (decide ((4095 : Int) < nV (hd (r2 bs)))) with
                        | true =>
                          have e : ctO feats (m, p, q, lo o, lo g, lo v) bs = Oc.err := by
                            unfold ctO
                            simp only [h1, h2, h3, h4, h9, h14, h35, h39, hLE, h41, h42, h46, cond_true, cond_false]
                          rw [e]
                          exact Tr.follow_get (ct_4n feats m p q o g v f bs) (by simp only [hsm, h1, h2, h3, (f2 h3).1, (f2 h3).2.1, (f2 h3).2.2.1, (f2 h3).2.2.2.1, (f2 h3).2.2.2.2.1, (f2 h3).2.2.2.2.2, h4, h9, h14, h35, h39, hLE, h41, h42, (f2 h42).1, (f2 h42).2.1, (f2 h42).2.2.1, (f2 h42).2.2.2.1, (fR hb2 h42).1, (f2 h42).2.2.2.2.1, (f2 h42).2.2.2.2.2, (fR hb2 h42).2, h46])
                        | false =>
                          cases h47 : (decide ((0 : Int) < (↑(cutL (r2 bs) (some (2 : Int)) none).length : Int))) with
                          | true =>
                            cases h48 : ((hd bs).getD (Int.toNat (1 : Int)) (0 : Int) == (0 : Int)) with
                            | true =>
                              cases h49 : (bsF (lo v) (nV (hd (r2 bs)))) with
                              | true =>
                                have e : ctO feats (m, p, q, lo o, lo g, lo v) bs = Oc.err := by
                                  unfold ctO
                                  simp only [h1, h2, h3, h4, h9, h14, h35, h39, hLE, h41, h42, h46, h47, h49, cond_true, cond_false]
                                rw [e]
                                exact Tr.follow_get (ct_4x0t feats m p q o g v f bs) (by simp only [hsm, h1, h2, h3, (f2 h3).1, (f2 h3).2.1, (f2 h3).2.2.1, (f2 h3).2.2.2.1, (f2 h3).2.2.2.2.1, (f2 h3).2.2.2.2.2, h4, h9, h14, h35, h39, hLE, h41, h42, (f2 h42).1, (f2 h42).2.1, (f2 h42).2.2.1, (f2 h42).2.2.2.1, (fR hb2 h42).1, (f2 h42).2.2.2.2.1, (f2 h42).2.2.2.2.2, (fR hb2 h42).2, h46, (decide_eq_true hv), (fNt h49), h47]; simp only [h48, (fK1 h48)])
                              | false =>
                                have e : ctO feats (m, p, q, lo o, lo g, lo v) bs = Oc.err := by
                                  unfold ctO
                                  simp only [h1, h2, h3, h4, h9, h14, h35, h39, hLE, h41, h42, h46, h47, h49, cond_true, cond_false]
                                rw [e]
                                cases v with
                                | none =>
                                  exact Tr.follow_get (ct_4x0fN feats m p q o g f bs) (by simp only [hsm, h1, h2, h3, (f2 h3).1, (f2 h3).2.1, (f2 h3).2.2.1, (f2 h3).2.2.2.1, (f2 h3).2.2.2.2.1, (f2 h3).2.2.2.2.2, h4, h9, h14, h35, h39, hLE, h41, h42, (f2 h42).1, (f2 h42).2.1, (f2 h42).2.2.1, (f2 h42).2.2.2.1, (fR hb2 h42).1, (f2 h42).2.2.2.2.1, (f2 h42).2.2.2.2.2, (fR hb2 h42).2, h46, h47]; simp only [h48])
                                | some w =>
                                  obtain ⟨a, b, VS⟩ := w
                                  exact Tr.follow_get (ct_4x0f feats m p q o g a b VS f bs) (by simp only [hsm, h1, h2, h3, (f2 h3).1, (f2 h3).2.1, (f2 h3).2.2.1, (f2 h3).2.2.2.1, (f2 h3).2.2.2.2.1, (f2 h3).2.2.2.2.2, h4, h9, h14, h35, h39, hLE, h41, h42, (f2 h42).1, (f2 h42).2.1, (f2 h42).2.2.1, (f2 h42).2.2.2.1, (fR hb2 h42).1, (f2 h42).2.2.2.2.1, (f2 h42).2.2.2.2.2, (fR hb2 h42).2, h46, (decide_eq_true hv), (fNf h49), (fI hv (nV (hd (r2 bs)))), h47]; simp only [h48])
                            | false =>
                              cases h50 : (bsF (lo v) (nV (hd (r2 bs)))) with
                              | true =>
                                have e : ctO feats (m, p, q, lo o, lo g, lo v) bs = Oc.err := by
                                  unfold ctO
                                  simp only [h1, h2, h3, h4, h9, h14, h35, h39, hLE, h41, h42, h46, h47, h50, cond_true, cond_false]
                                rw [e]
                                cases v with
                                | none =>
                                  exact absurd h50 bsF_nil
                                | some w =>
                                  obtain ⟨a, b, VS⟩ := w
                                  exact Tr.follow_get (ct_4x1t feats m p q o g a b VS f bs) (by simp only [hsm, h1, h2, h3, (f2 h3).1, (f2 h3).2.1, (f2 h3).2.2.1, (f2 h3).2.2.2.1, (f2 h3).2.2.2.2.1, (f2 h3).2.2.2.2.2, h4, h9, h14, h35, h39, hLE, h41, h42, (f2 h42).1, (f2 h42).2.1, (f2 h42).2.2.1, (f2 h42).2.2.2.1, (fR hb2 h42).1, (f2 h42).2.2.2.2.1, (f2 h42).2.2.2.2.2, (fR hb2 h42).2, h46, (decide_eq_true hv), h50, (fZ hv (nV (hd (r2 bs)))), (fD hv h50), h47]; simp only [h48, (fK2 hb hLE h48)])
                              | false =>
                                have e : ctO feats (m, p, q, lo o, lo g, lo v) bs = Oc.err := by
                                  unfold ctO
                                  simp only [h1, h2, h3, h4, h9, h14, h35, h39, hLE, h41, h42, h46, h47, h50, cond_true, cond_false]
                                rw [e]
                                exact Tr.follow_get (ct_4x1f feats m p q o g v f bs) (by simp only [hsm, h1, h2, h3, (f2 h3).1, (f2 h3).2.1, (f2 h3).2.2.1, (f2 h3).2.2.2.1, (f2 h3).2.2.2.2.1, (f2 h3).2.2.2.2.2, h4, h9, h14, h35, h39, hLE, h41, h42, (f2 h42).1, (f2 h42).2.1, (f2 h42).2.2.1, (f2 h42).2.2.2.1, (fR hb2 h42).1, (f2 h42).2.2.2.2.1, (f2 h42).2.2.2.2.2, (fR hb2 h42).2, h46, (decide_eq_true hv), h50, h47]; simp only [h48, (fK2 hb hLE h48)])
                          | false =>
                            cases h51 : ((hd bs).getD (Int.toNat (1 : Int)) (0 : Int) == (0 : Int)) with
                            | true =>
                              cases h52 : (bsF (lo v) (nV (hd (r2 bs)))) with
                              | true =>
                                have e : ctO feats (m, p, q, lo o, lo g, lo v) bs = Oc.keep m p q := by
                                  unfold ctO
                                  simp only [h1, h2, h3, h4, h9, h14, h35, h39, hLE, h41, h42, h46, h47, h52, cond_true, cond_false]; simp only [h51, cond_true, cond_false]
                                rw [e]
                                exact Tr.follow_get (ct_4o0t feats m p q o g v f bs) (by simp only [hsm, h1, h2, h3, (f2 h3).1, (f2 h3).2.1, (f2 h3).2.2.1, (f2 h3).2.2.2.1, (f2 h3).2.2.2.2.1, (f2 h3).2.2.2.2.2, h4, h9, h14, h35, h39, hLE, h41, h42, (f2 h42).1, (f2 h42).2.1, (f2 h42).2.2.1, (f2 h42).2.2.2.1, (fR hb2 h42).1, (f2 h42).2.2.2.2.1, (f2 h42).2.2.2.2.2, (fR hb2 h42).2, h46, (decide_eq_true hv), (fNt h52), h47]; simp only [h51, (fK1 h51)])
                              | false =>
                                have e : ctO feats (m, p, q, lo o, lo g, lo v) bs = Oc.vl (insL (lo v) (bsZ (lo v) (nV (hd (r2 bs)))).toNat [(nV (hd (r2 bs)))]) := by
                                  unfold ctO
                                  simp only [h1, h2, h3, h4, h9, h14, h35, h39, hLE, h41, h42, h46, h47, h52, cond_true, cond_false]; simp only [h51, cond_true, cond_false]
                                rw [e]
                                cases v with
                                | none =>
                                  exact Tr.follow_get (ct_4o0fN feats m p q o g f bs) (by simp only [hsm, h1, h2, h3, (f2 h3).1, (f2 h3).2.1, (f2 h3).2.2.1, (f2 h3).2.2.2.1, (f2 h3).2.2.2.2.1, (f2 h3).2.2.2.2.2, h4, h9, h14, h35, h39, hLE, h41, h42, (f2 h42).1, (f2 h42).2.1, (f2 h42).2.2.1, (f2 h42).2.2.2.1, (fR hb2 h42).1, (f2 h42).2.2.2.2.1, (f2 h42).2.2.2.2.2, (fR hb2 h42).2, h46, h47]; simp only [h51])
                                | some w =>
                                  obtain ⟨a, b, VS⟩ := w
                                  exact Tr.follow_get (ct_4o0f feats m p q o g a b VS f bs) (by simp only [hsm, h1, h2, h3, (f2 h3).1, (f2 h3).2.1, (f2 h3).2.2.1, (f2 h3).2.2.2.1, (f2 h3).2.2.2.2.1, (f2 h3).2.2.2.2.2, h4, h9, h14, h35, h39, hLE, h41, h42, (f2 h42).1, (f2 h42).2.1, (f2 h42).2.2.1, (f2 h42).2.2.2.1, (fR hb2 h42).1, (f2 h42).2.2.2.2.1, (f2 h42).2.2.2.2.2, (fR hb2 h42).2, h46, (decide_eq_true hv), (fNf h52), (fI hv (nV (hd (r2 bs)))), h47]; simp only [h51])
                            | false =>
                              cases h53 : (bsF (lo v) (nV (hd (r2 bs)))) with
                              | true =>
                                have e : ctO feats (m, p, q, lo o, lo g, lo v) bs = Oc.vl (delL (lo v) (bsZ (lo v) (nV (hd (r2 bs)))).toNat (bsZ (lo v) (nV (hd (r2 bs))) + 1).toNat) := by
                                  unfold ctO
                                  simp only [h1, h2, h3, h4, h9, h14, h35, h39, hLE, h41, h42, h46, h47, h53, cond_true, cond_false]; simp only [h51, cond_true, cond_false]
                                rw [e]
                                cases v with
                                | none =>
                                  exact absurd h53 bsF_nil
                                | some w =>
                                  obtain ⟨a, b, VS⟩ := w
                                  exact Tr.follow_get (ct_4o1t feats m p q o g a b VS f bs) (by simp only [hsm, h1, h2, h3, (f2 h3).1, (f2 h3).2.1, (f2 h3).2.2.1, (f2 h3).2.2.2.1, (f2 h3).2.2.2.2.1, (f2 h3).2.2.2.2.2, h4, h9, h14, h35, h39, hLE, h41, h42, (f2 h42).1, (f2 h42).2.1, (f2 h42).2.2.1, (f2 h42).2.2.2.1, (fR hb2 h42).1, (f2 h42).2.2.2.2.1, (f2 h42).2.2.2.2.2, (fR hb2 h42).2, h46, (decide_eq_true hv), h53, (fZ hv (nV (hd (r2 bs)))), (fD hv h53), h47]; simp only [h51, (fK2 hb hLE h51)])
                              | false =>
                                have e : ctO feats (m, p, q, lo o, lo g, lo v) bs = Oc.keep m p q := by
                                  unfold ctO
                                  simp only [h1, h2, h3, h4, h9, h14, h35, h39, hLE, h41, h42, h46, h47, h53, cond_true, cond_false]; simp only [h51, cond_true, cond_false]
                                rw [e]
                                exact Tr.follow_get (ct_4o1f feats m p q o g v f bs) (by simp only [hsm, h1, h2, h3, (f2 h3).1, (f2 h3).2.1, (f2 h3).2.2.1, (f2 h3).2.2.2.1, (f2 h3).2.2.2.2.1, (f2 h3).2.2.2.2.2, h4, h9, h14, h35, h39, hLE, h41, h42, (f2 h42).1, (f2 h42).2.1, (f2 h42).2.2.1, (f2 h42).2.2.2.1, (fR hb2 h42).1, (f2 h42).2.2.2.2.1, (f2 h42).2.2.2.2.2, (fR hb2 h42).2, h46, (decide_eq_true hv), h53, h47]; simp only [h51, (fK2 hb hLE h51)])
                    | false =>
                      have e : ctO feats (m, p, q, lo o, lo g, lo v) bs = Oc.err := by
                        unfold ctO
                        simp only [h1, h2, h3, h4, h9, h14, h35, h39, hLE, h41, cond_true, cond_false]
                      rw [e]
                      exact Tr.follow_get (ct_4h feats m p q o g v f bs) (by simp only [hsm, h1, h2, h3, (f2 h3).1, (f2 h3).2.1, (f2 h3).2.2.1, (f2 h3).2.2.2.1, (f2 h3).2.2.2.2.1, (f2 h3).2.2.2.2.2, h4, h9, h14, h35, h39, hLE, h41])
                  | false =>
                    have e : ctO feats (m, p, q, lo o, lo g, lo v) bs = Oc.err := by
                      unfold ctO
                      simp only [h1, h2, h3, h4, h9, h14, h35, h39, hLE, cond_true, cond_false]
                    rw [e]
                    exact Tr.follow_get (ct_d2 feats m p q o g v f bs) (by simp only [hsm, h1, h2, h3, (f2 h3).1, (f2 h3).2.1, (f2 h3).2.2.1, (f2 h3).2.2.2.1, (f2 h3).2.2.2.2.1, (f2 h3).2.2.2.2.2, h4, h9, h14, h35, h39, hLE])
                | false =>
                  have e : ctO feats (m, p, q, lo o, lo g, lo v) bs = Oc.err := by
                    unfold ctO
                    simp only [h1, h2, h3, h4, h9, h14, h35, h39, cond_true, cond_false]
                  rw [e]
                  exact Tr.follow_get (ct_d1 feats m p q o g v f bs) (by simp only [hsm, h1, h2, h3, (f2 h3).1, (f2 h3).2.1, (f2 h3).2.2.1, (f2 h3).2.2.2.1, (f2 h3).2.2.2.2.1, (f2 h3).2.2.2.2.2, h4, h9, h14, h35, h39])
  | false =>
    have e : ctO feats (m, p, q, lo o, lo g, lo v) bs = Oc.err := by
      unfold ctO
      simp only [h1, cond_true, cond_false]
    rw [e]
    exact Tr.follow_get (ct_e1 feats m p q o g v f bs) (by simp only [hsm, h1])
theorem ct_get0 (feats : Int) (m : Mac) (p q : Bool) (o g : Lo Mac) (v : Lo Int) (hsm : smF (m, p, q, (lo o), (lo g), (lo v)) = true) :
    (f24T feats (m, p, q, o, g, v) none).get = some (ocL (m, p, q, o, g, v) (fltN (m, p, q, o, g, v) 0) (ctO feats (m, p, q, lo o, lo g, lo v) [])) := by
  have e : ctO feats (m, p, q, lo o, lo g, lo v) [] = Oc.err := by
    unfold ctO
    simp only
    cases okF (m, p, q, lo o, lo g, lo v) with
    | false => rfl
    | true =>
      cases hasB feats 17 with
      | false => rfl
      | true => rfl
  rw [e]
  cases h1 : okF (m, p, q, lo o, lo g, lo v) with
  | false => exact Tr.follow_get (ct_n1 feats m p q o g v) (by simp only [hsm, h1])
  | true =>
    cases h2 : (!hasB feats 17) with
    | true => exact Tr.follow_get (ct_n2 feats m p q o g v) (by simp only [hsm, h1, h2])
    | false => exact Tr.follow_get (ct_n3 feats m p q o g v) (by simp only [hsm, h1, h2])
def ocK : Oc → Nat
  | .err => 0
  | .keep _ _ _ => 1
  | .vl _ => 2
  | .tab _ _ => 3
def ocM (F : Fp) : Oc → Mac
  | .keep m _ _ => m
  | _ => F.1
def ocP (F : Fp) : Oc → Bool
  | .keep _ p _ => p
  | _ => F.2.1
def ocQ (F : Fp) : Oc → Bool
  | .keep _ _ q => q
  | _ => F.2.2.1
def ocV : Oc → List Int
  | .vl l => l
  | _ => []
def ocX : Oc → Bool
  | .tab none _ => true
  | _ => false
def ocY : Oc → Bool
  | .tab _ none => true
  | _ => false
def ocO : Oc → List Mac
  | .tab (some l) _ => l
  | _ => []
def ocG : Oc → List Mac
  | .tab _ (some l) => l
  | _ => []
def smX (ol gl : List Mac) (vl : List Int) : Bool := smF (mac0, false, false, ol, gl, vl)
def ctT (m : Mac) (p q : Bool) (o g : Lo Mac) (v : Lo Int) (N : Nat) (F : Fp) (x : Oc) : Tr (SV × List (SO C24)) :=
  .br (Nat.beq (ocK x) 0) (.leaf (.tup [clnS (m, p, q, o, g, v) N, .raw (.int .u8 1)], clnO (m, p, q, o, g, v)))
  (.br (Nat.beq (ocK x) 1) (.leaf (.tup [clnS (ocM F x, ocP F x, ocQ F x, o, g, v) N, .raw (.int .u8 0)], clnO (ocM F x, ocP F x, ocQ F x, o, g, v)))
  (.br (Nat.beq (ocK x) 2) (.leaf (.tup [clnS (m, p, q, o, g, some (true, false, ocV x)) N, .raw (.int .u8 0)], clnO (m, p, q, o, g, some (true, false, ocV x))))
  (.br (ocX x) (.br (ocY x) (.leaf (.tup [clnS (m, p, q, none, none, v) N, .raw (.int .u8 0)], clnO (m, p, q, none, none, v)))
      (.leaf (.tup [clnS (m, p, q, none, some (true, false, ocG x), v) N, .raw (.int .u8 0)], clnO (m, p, q, none, some (true, false, ocG x), v))))
    (.br (ocY x) (.leaf (.tup [clnS (m, p, q, some (true, false, ocO x), none, v) N, .raw (.int .u8 0)], clnO (m, p, q, some (true, false, ocO x), none, v)))
      (.leaf (.tup [clnS (m, p, q, some (true, false, ocO x), some (true, false, ocG x), v) N, .raw (.int .u8 0)], clnO (m, p, q, some (true, false, ocO x), some (true, false, ocG x), v)))))))
theorem ctT_get (m : Mac) (p q : Bool) (o g : Lo Mac) (v : Lo Int) (N : Nat) (F : Fp) (hF : F = (m, p, q, lo o, lo g, lo v)) (x : Oc) : (ctT m p q o g v N F x).get = some (ocL (m, p, q, o, g, v) N x) := by
  subst hF
  cases x with
  | err => rfl
  | keep a b c => rfl
  | vl l => rfl
  | tab a b => cases a <;> cases b <;> rfl
def ctrlT : FnF C24 := fun args os => match args with
  | [.raw (.int .u64 feats), .agg cs, s] => match decF cs 0 os with
    | some (((x0, x1, x2, x3, x4, x5), p, q, o, g, v), os1) => match decB s (fltN ((x0, x1, x2, x3, x4, x5), p, q, o, g, v) 0) os1 with
      | some (none, []) => withL o fun ol => withL g fun gl => withL v fun vl => .br (smX ol gl vl) (.leaf (.tup [clnS ((x0, x1, x2, x3, x4, x5), p, q, o, g, v) (fltN ((x0, x1, x2, x3, x4, x5), p, q, o, g, v) 0), .raw (.int .u8 1)], clnO ((x0, x1, x2, x3, x4, x5), p, q, o, g, v))) .fail
      | some (some (false, f, bs), []) => withL o fun ol => withL g fun gl => withL v fun vl => .br (smX ol gl vl) (.br (byB bs) (ctT (x0, x1, x2, x3, x4, x5) p q o g v (fltN ((x0, x1, x2, x3, x4, x5), p, q, o, g, v) 0 + 1) ((x0, x1, x2, x3, x4, x5), p, q, ol, gl, vl) (ctO feats ((x0, x1, x2, x3, x4, x5), p, q, ol, gl, vl) bs)) .fail) .fail
      | _ => .fail
    | _ => .fail
  | _ => .fail
theorem ctO_nil (feats : Int) (F : Fp) : ctO feats F [] = Oc.err := by
  obtain ⟨m, p, q, ol, gl, vl⟩ := F
  unfold ctO
  simp only
  cases okF (m, p, q, ol, gl, vl) with
  | false => rfl
  | true =>
    cases hasB feats 17 with
    | false => rfl
    | true => rfl
theorem ctrlT_ok : ∀ args os r, (ctrlT args os).get = some r → Fn0 Try.prog 12 args os r := fun args os r h => by
  unfold ctrlT at h
  split at h
  · rename_i feats cs s
    split at h
    · rename_i x0 x1 x2 x3 x4 x5 p q o g v os1 hF
      obtain ⟨rfl, rfl⟩ := decF_eq hF
      split at h
      · rename_i hB
        obtain ⟨rfl, rfl⟩ := decB_eq hB
        simp only [withL_eq] at h
        obtain ⟨hs, h2⟩ := Tr.get_ask.1 h
        clear h hF hB
        refine fnC_ok (sp := sfC) (ls := lsM) (unr := unM) (d := 10) plain mixed sfC_ok lsM_ok ?_
        rw [List.append_nil]
        have h3 := ct_get0 feats (x0, x1, x2, x3, x4, x5) p q o g v hs
        rw [ctO_nil] at h3
        exact Eq.trans h3 h2
      · rename_i f bs hB
        obtain ⟨rfl, rfl⟩ := decB_eq hB
        simp only [withL_eq] at h
        obtain ⟨hs, h2⟩ := Tr.get_ask.1 h
        obtain ⟨hb, h3⟩ := Tr.get_ask.1 h2
        clear h h2 hF hB
        refine fnC_ok (sp := sfC) (ls := lsM) (unr := unM) (d := 10) plain mixed sfC_ok lsM_ok ?_
        rw [List.append_nil]
        rw [ctT_get _ _ _ _ _ _ _ _ rfl] at h3
        exact Eq.trans (ct_get feats (x0, x1, x2, x3, x4, x5) p q o g v f bs hs hb) h3
      · cases h
    · cases h
  · cases h
end
end Go.Proofs.Ytgepgnjjhgmfnaa
