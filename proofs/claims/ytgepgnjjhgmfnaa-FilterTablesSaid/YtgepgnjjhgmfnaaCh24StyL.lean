/-
  Chapter 24: FilterStays, its laws: what bytes command, and what a command makes of a filter. Own work; nothing here is trusted.
-/
import Derived.Test.YtgepgnjjhgmfnaaCh24VlnL
import Derived.Test.YtgepgnjjhgmfnaaCh24CtrU
import Derived.Test.YtgepgnjjhgmfnaaCh24Same
namespace Go.Proofs.Ytgepgnjjhgmfnaa
open Go Go.Sx Go.RowKit
set_option maxRecDepth 1000000
set_option maxHeartbeats 8000000
set_option linter.unusedVariables false
set_option linter.unusedSimpArgs false
/-- A command. -/
inductive Cm
  | er
  | pr (b : Bool)
  | mn (b : Bool)
  | mc (m : Mac)
  | tb (a b : Option (List Mac))
  | ad (n : Int)
  | rm (n : Int)
def doC (F : Fp) : Cm → Oc
  | .er => .err
  | .pr b => .keep F.1 b F.2.2.1
  | .mn b => .keep F.1 F.2.1 b
  | .mc m => .keep m F.2.1 F.2.2.1
  | .tb a b => .tab a b
  | .ad n => bif bsF F.2.2.2.2.2 n then .keep F.1 F.2.1 F.2.2.1 else .vl (insL F.2.2.2.2.2 (bsZ F.2.2.2.2.2 n).toNat [n])
  | .rm n => bif bsF F.2.2.2.2.2 n then .vl (delL F.2.2.2.2.2 (bsZ F.2.2.2.2.2 n).toNat (bsZ F.2.2.2.2.2 n + 1).toNat) else .keep F.1 F.2.1 F.2.2.1
def cmO (feats : Int) (bs : List Int) : Cm :=
  (bif !hasB feats 17 then
  (Cm.er) else
  (bif decide ((↑bs.length : Int) < (2 : Int)) then
   (Cm.er) else
   (bif (hd bs).getD (Int.toNat (0 : Int)) (0 : Int) == (0 : Int) && ((hd bs).getD (Int.toNat (1 : Int)) (0 : Int) == (0 : Int) && true) then
   (bif hasB feats 18 then
    (bif decide ((↑(r2 bs).length : Int) < (1 : Int)) then
    (Cm.er) else
    (bif decide ((1 : Int) < (cutL (r2 bs) none (some (1 : Int))).getD (Int.toNat (0 : Int)) (0 : Int)) then
     (Cm.er) else
     (bif decide ((0 : Int) < (↑(cutL (r2 bs) (some (1 : Int)) none).length : Int)) then
     (Cm.er) else
     (Cm.pr ((cutL (r2 bs) none (some (1 : Int))).getD (Int.toNat (0 : Int)) (0 : Int) == (1 : Int)))))) else
    (Cm.er)) else
   (bif (hd bs).getD (Int.toNat (0 : Int)) (0 : Int) == (0 : Int) && ((hd bs).getD (Int.toNat (1 : Int)) (0 : Int) == (1 : Int) && true) then
    (bif hasB feats 18 then
    (bif decide ((↑(r2 bs).length : Int) < (1 : Int)) then
     (Cm.er) else
     (bif decide ((1 : Int) < (cutL (r2 bs) none (some (1 : Int))).getD (Int.toNat (0 : Int)) (0 : Int)) then
     (Cm.er) else
     (bif decide ((0 : Int) < (↑(cutL (r2 bs) (some (1 : Int)) none).length : Int)) then
      (Cm.er) else
      (Cm.mn ((cutL (r2 bs) none (some (1 : Int))).getD (Int.toNat (0 : Int)) (0 : Int) == (1 : Int)))))) else
    (Cm.er)) else
    (bif (hd bs).getD (Int.toNat (0 : Int)) (0 : Int) == (1 : Int) && ((hd bs).getD (Int.toNat (1 : Int)) (0 : Int) == (0 : Int) && true) then
    (bif hasB feats 18 then
     (bif decide ((↑(r2 bs).length : Int) < (4 : Int)) then
     (Cm.er) else
     (bif decide ((32 : Int) < nQ (q4 (r2 bs))) then
      (Cm.er) else
      (bif (phG (gM (r2 bs))).beq (0 : Nat) then
      (bif decide ((↑(r4 (r2 bs)).length : Int) < (4 : Int)) then
       (Cm.er) else
       (bif decide ((32 : Int) < nQ (q4 (r4 (r2 bs)))) then
       (Cm.er) else
       (bif (phG (gM (r4 (r2 bs)))).beq (0 : Nat) then
        (bif decide ((0 : Int) < (↑(r4 (r4 (r2 bs))).length : Int)) then
        (Cm.er) else
        (Cm.tb none none)) else
        (bif (phG (gM (r4 (r2 bs)))).beq (1 : Nat) then
        (Cm.er) else
        (bif (gM (r4 (r2 bs))).snd.snd.snd.fst then
         (Cm.er) else
         (bif decide ((0 : Int) < (↑(gM (r4 (r2 bs))).snd.snd.fst.length : Int)) then
         (Cm.er) else
         (Cm.tb none (some (gM (r4 (r2 bs))).2.1)))))))) else
      (bif (phG (gM (r2 bs))).beq (1 : Nat) then
       (Cm.er) else
       (bif (gM (r2 bs)).snd.snd.snd.fst then
       (Cm.er) else
       (bif decide ((↑(gM (r2 bs)).snd.snd.fst.length : Int) < (4 : Int)) then
        (Cm.er) else
        (bif decide ((32 : Int) < nQ (q4 (gM (r2 bs)).snd.snd.fst)) then
        (Cm.er) else
        (bif (phG (gM (gM (r2 bs)).snd.snd.fst)).beq (0 : Nat) then
         (bif decide ((0 : Int) < (↑(r4 (gM (r2 bs)).snd.snd.fst).length : Int)) then
         (Cm.er) else
         (Cm.tb (some (gM (r2 bs)).2.1) none)) else
         (bif (phG (gM (gM (r2 bs)).snd.snd.fst)).beq (1 : Nat) then
         (Cm.er) else
         (bif (gM (gM (r2 bs)).snd.snd.fst).snd.snd.snd.fst then
          (Cm.er) else
          (bif decide ((0 : Int) < (↑(gM (gM (r2 bs)).snd.snd.fst).snd.snd.fst.length : Int)) then
          (Cm.er) else
          (Cm.tb (some (gM (r2 bs)).2.1) (some (gM (gM (r2 bs)).snd.snd.fst).2.1))))))))))))) else
     (Cm.er)) else
    (bif (hd bs).getD (Int.toNat (0 : Int)) (0 : Int) == (1 : Int) && ((hd bs).getD (Int.toNat (1 : Int)) (0 : Int) == (1 : Int) && true) then
     (bif hasB feats 23 then
     (bif decide ((↑(r2 bs).length : Int) < (6 : Int)) then
      (Cm.er) else
      (bif decide ((0 : Int) < (↑(cutL (r2 bs) (some (6 : Int)) none).length : Int)) then
      (Cm.er) else
      (Cm.mc (macAt (cutL (r2 bs) none (some 6)))))) else
     (Cm.er)) else
     (bif (hd bs).getD (Int.toNat (0 : Int)) (0 : Int) == (2 : Int) then
     (bif decide ((hd bs).getD (Int.toNat (1 : Int)) (0 : Int) ≤ (1 : Int)) then
      (bif hasB feats 19 then
      (bif decide ((↑(r2 bs).length : Int) < (2 : Int)) then
       (Cm.er) else
       (bif decide ((4095 : Int) < nV (hd (r2 bs))) then
       (Cm.er) else
       (bif decide ((0 : Int) < (↑(cutL (r2 bs) (some (2 : Int)) none).length : Int)) then
        (Cm.er) else
        (bif (hd bs).getD (Int.toNat (1 : Int)) (0 : Int) == (0 : Int) then
        (Cm.ad (nV (hd (r2 bs)))) else
        (Cm.rm (nV (hd (r2 bs)))))))) else
      (Cm.er)) else
      (Cm.er)) else
     (Cm.er)))))))) 
theorem doC_cond (F : Fp) (c : Bool) (x y : Cm) : doC F (cond c x y) = cond c (doC F x) (doC F y) := by cases c <;> rfl
theorem ctO_do {feats : Int} {F : Fp} {bs : List Int} (hok : okF F = true) : ctO feats F bs = doC F (cmO feats bs) := by
  obtain ⟨m, p, q, ol, gl, vl⟩ := F
  unfold ctO cmO
  simp only [hok, cond_true, doC_cond]
  rfl
/-! ### What commands may say -/
def cmG : Cm → Prop
  | .tb a b => (a.getD []).length ≤ 32 ∧ (b.getD []).length ≤ 32
  | .ad n => 0 ≤ n ∧ n ≤ 4095
  | .rm n => 0 ≤ n ∧ n ≤ 4095
  | _ => True
theorem cmG_cond {c : Bool} {x y : Cm} (hx : c = true → cmG x) (hy : c = false → cmG y) : cmG (cond c x y) := by
  cases c with
  | true => exact hx rfl
  | false => exact hy rfl
theorem finM_len : ∀ (j K : Nat) (ms : List Mac) (s : List Int) (ph : Nat), (finM j K ms s ph).2.1.length ≤ ms.length + j
  | 0, K, ms, s, ph => Nat.le_refl _
  | j + 1, K, ms, s, ph => by
    unfold finM
    split
    · simp only [List.length_append, List.length_cons, List.length_nil]; omega
    · have := finM_len j (K + 1) (ms ++ [macAt (c6 s)]) (d6 s) 2
      simp only [List.length_append, List.length_cons, List.length_nil] at this
      omega
theorem gM_len {r : List Int} (h : decide ((32 : Int) < nQ (q4 r)) = false) : (gM r).2.1.length ≤ 32 := by
  have h := of_decide_eq_false h
  have := finM_len (nQ (q4 r)).toNat 0 [] (r4 r) 0
  simp only [List.length_nil, Nat.zero_add] at this
  show (finM (nQ (q4 r)).toNat 0 [] (r4 r) 0).2.1.length ≤ 32
  omega
theorem nV_pos {l : List Int} (h : byB l = true) : 0 ≤ nV l := by
  have h1 := byB_get h (Int.toNat 0)
  have h2 := byB_get h (Int.toNat 1)
  show 0 ≤ bitsV IntKind.i64 BinOp.or (l.getD (Int.toNat 0) 0) (shlV IntKind.i64 (l.getD (Int.toNat 1) 0) 8)
  generalize l.getD (Int.toNat 0) 0 = a at h1
  generalize l.getD (Int.toNat 1) 0 = b at h2
  obtain ⟨i, rfl⟩ := Int.eq_ofNat_of_zero_le h1.1
  obtain ⟨j, rfl⟩ := Int.eq_ofNat_of_zero_le h2.1
  have hs : ∀ j : Fin 256, shlV IntKind.i64 (j.val : Int) 8 = ((j.val * 256 : Nat) : Int) := by decide +kernel
  have hs := hs ⟨j, by omega⟩
  simp only at hs
  rw [hs]
  have hj : j * 256 < 2 ^ 16 := by omega
  have hi : i < 2 ^ 16 := by omega
  have ho := Nat.or_lt_two_pow hi hj
  have e : bitsV IntKind.i64 BinOp.or (i : Int) ((j * 256 : Nat) : Int) = IntKind.i64.wrap ((BitVec.ofInt 64 (i : Int) ||| BitVec.ofInt 64 ((j * 256 : Nat) : Int)).toNat : Int) := rfl
  have e1 : (BitVec.ofInt 64 (i : Int)).toNat = i := by rw [BitVec.ofInt_natCast, BitVec.toNat_ofNat]; exact Nat.mod_eq_of_lt (by omega)
  have e2 : (BitVec.ofInt 64 ((j * 256 : Nat) : Int)).toNat = j * 256 := by rw [BitVec.ofInt_natCast, BitVec.toNat_ofNat]; exact Nat.mod_eq_of_lt (by omega)
  rw [e, BitVec.toNat_or, e1, e2]
  generalize i ||| j * 256 = n at ho
  have hw : IntKind.i64.wrap (n : Int) = (n : Int) := by
    have : inR64 (n : Int) = true := inR64_mk (by omega)
    exact inR64_wrap this
  rw [hw]
  omega
theorem cmO_good {feats : Int} {bs : List Int} (hb : byB bs = true) : cmG (cmO feats bs) := by
  have hv : 0 ≤ nV (hd (r2 bs)) := nV_pos (byB_cut (byB_cut hb))
  unfold cmO
  repeat' (refine cmG_cond ?_ ?_ <;> intro _)
  all_goals first
    | trivial
    | exact ⟨hv, by have := of_decide_eq_false ‹decide ((4095 : Int) < nV (hd (r2 bs))) = false›; omega⟩
    | exact ⟨Nat.zero_le _, Nat.zero_le _⟩
    | exact ⟨Nat.zero_le _, gM_len ‹_›⟩
    | exact ⟨gM_len ‹_›, Nat.zero_le _⟩
    | exact ⟨gM_len ‹_›, gM_len ‹_›⟩
end Go.Proofs.Ytgepgnjjhgmfnaa
