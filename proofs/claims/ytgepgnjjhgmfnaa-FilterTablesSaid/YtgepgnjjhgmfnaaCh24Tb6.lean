/-
  Chapter 24: FilterTables, rounds of its loop over the map, and its end. Own work; nothing here is trusted.
-/
import Derived.Test.YtgepgnjjhgmfnaaCh24Tb5
namespace Go.Proofs.Ytgepgnjjhgmfnaa
open Go Go.Sx Go.RowKit
set_option maxRecDepth 1000000
set_option maxHeartbeats 8000000
set_option linter.unusedVariables false
set_option linter.unusedSimpArgs false
noncomputable section
def hasK (m : List (Int × Bool)) (n : Int) : Bool := (lkM m n).getD false
theorem nr_end (F : Fr) (m0 : Mac) (p q : Bool) (a b : Option (List Mac)) (c : Option (List Int)) (m : List (Int × Bool)) (k n : Int) : Tr.follow [false] (naR F (gw (m0, p, q, a, b, c)) m k n) =
    some ([decide (n < 4096)], (.exit 4, naV k n, naO F (gw (m0, p, q, a, b, c)) m)) := by
  cases a <;> cases b <;> cases c <;> kernel_rfl
theorem nr_no (F : Fr) (m0 : Mac) (p q : Bool) (a b : Option (List Mac)) (c : Option (List Int)) (m : List (Int × Bool)) (k n : Int) : Tr.follow [true, false, true] (naR F (gw (m0, p, q, a, b, c)) m k n) =
    some ([decide (n < 4096), hasK m n, inR64 (n + 1)], (.normal, naV k (n + 1), naO F (gw (m0, p, q, a, b, c)) m)) := by
  cases a <;> cases b <;> cases c <;> kernel_rfl
theorem nr_yes (F : Fr) (m0 : Mac) (p q : Bool) (a b : Option (List Mac)) (c : List Int) (m : List (Int × Bool)) (k n : Int) : Tr.follow [true, true, false, false, false, false, true, false, true, false, false, false, true, true] (naR F (gw (m0, p, q, a, b, some c)) m k n) =
    some ([decide (n < 4096), hasK m n, decide ((c.length : Int) ≤ k), false, false, false, Sx.inB k c.length, false, decide (k.toNat < c.length), false, false, c.getD k.toNat 0 != n, inR64 (k + 1), inR64 (n + 1)], (.normal, naV (k + 1) (n + 1), naO F (gw (m0, p, q, a, b, some c)) m)) := by
  cases a <;> cases b <;> kernel_rfl
theorem ze_end (F0 : Mac) (fp fq : Bool) (o g : Lo Mac) (s : Sv) (m0 : Mac) (p q : Bool) (a b : Option (List Mac)) (c : Option (List Int)) (m : List (Int × Bool)) (k : Int) : Tr.follow [true, true, true, true, true, true, true, true, true, true, true, true, true, true, true, true, true, true, true, true, true, true, true, true, true, true, true] (zeR F0 fp fq o g s (gw (m0, p, q, a, b, c)) m k) =
    some ([k == (((c.getD []).length : Nat) : Int), true, true, true, true, m0.1 == F0.1 && (m0.2.1 == F0.2.1 && (m0.2.2.1 == F0.2.2.1 && (m0.2.2.2.1 == F0.2.2.2.1 && (m0.2.2.2.2.1 == F0.2.2.2.2.1 && (m0.2.2.2.2.2 == F0.2.2.2.2.2 && true))))),
      true, true, true, true, p == fp, true, true, true, true, q == fq, true, true, true, true, decide ((a.getD []).length ≤ 100000), eqL (a.getD []) (lo o), true, true, true, true, decide ((b.getD []).length ≤ 100000)], (.normal, [.raw (.bool (eqL (b.getD []) (lo g)))], [])) := by
  cases o <;> cases g <;> cases a <;> cases b <;> cases c <;> kernel_rfl
theorem n_stop {F : Fr} {G : Gw} {m : List (Int × Bool)} {k : Int} : (naR F (gw G) m k 4096).get = some (.exit 4, naV k 4096, naO F (gw G) m) := by
  obtain ⟨m0, p, q, a, b, c⟩ := G
  exact Tr.follow_get (nr_end F m0 p q a b c m k 4096) (by rfl)
theorem n_no {F : Fr} {G : Gw} {m : List (Int × Bool)} {k : Int} {n : Nat} (hn : n < 4096) (hh : hasK m (n : Int) = false) : (naR F (gw G) m k (n : Int)).get = some (.normal, naV k ((n + 1 : Nat) : Int), naO F (gw G) m) := by
  obtain ⟨m0, p, q, a, b, c⟩ := G
  have k1 := decide_eq_true (show (n : Int) < 4096 by omega)
  have k4 : inR64 ((n : Int) + 1) = true := inR64_mk (by omega)
  rw [Int.natCast_add]
  exact Tr.follow_get (nr_no F m0 p q a b c m k n) (by simp only [k1, hh]; rw [k4])
theorem n_yes {F : Fr} {G : Gw} {m : List (Int × Bool)} {k n : Nat} (hn : n < 4096) (hh : hasK m (n : Int) = true) (hk : k < (pw G).2.2.2.2.2.length) (hl : (pw G).2.2.2.2.2.length ≤ 1000) (he : (pw G).2.2.2.2.2.getD k 0 = (n : Int)) :
    (naR F (gw G) m (k : Int) (n : Int)).get = some (.normal, naV ((k + 1 : Nat) : Int) ((n + 1 : Nat) : Int), naO F (gw G) m) := by
  obtain ⟨m0, p, q, a, b, c⟩ := G
  cases c with
  | none => exact absurd hk (Nat.not_lt_zero _)
  | some c =>
    have hk : k < c.length := hk
    have hl : c.length ≤ 1000 := hl
    have he : c.getD k 0 = (n : Int) := he
    have k1 := decide_eq_true (show (n : Int) < 4096 by omega)
    have k2 := decide_eq_false (show ¬ (c.length : Int) ≤ (k : Int) by omega)
    have k3 : Sx.inB (k : Int) c.length = true := inB_mk ⟨by omega, by omega⟩
    have k4 : inR64 ((n : Int) + 1) = true := inR64_mk (by omega)
    have k5 : inR64 ((k : Int) + 1) = true := inR64_mk (by omega)
    have k6 := decide_eq_true (show ((k : Nat) : Int).toNat < c.length by omega)
    have k7 : (c.getD ((k : Nat) : Int).toNat 0 != (n : Int)) = false := by
      rw [Int.toNat_natCast, he]; exact bne_self_eq_false _
    rw [Int.natCast_add, Int.natCast_add]
    exact Tr.follow_get (nr_yes F m0 p q a b c m k n) (by rw [k1, k2, k3, k6, hh]; simp only [k7]; rw [k4, k5])
theorem z_end {F0 : Mac} {fp fq : Bool} {o g : Lo Mac} {s : Sv} {G : Gw} {m : List (Int × Bool)} (h1 : G.1 = F0) (h2 : G.2.1 = fp) (h3 : G.2.2.1 = fq) (h4 : (pw G).2.2.2.1 = lo o) (h5 : (pw G).2.2.2.2.1 = lo g) (ho : (lo o).length ≤ 1000) (hg : (lo g).length ≤ 1000) :
    (zeR F0 fp fq o g s (gw G) m ((pw G).2.2.2.2.2.length : Int)).get = some (.normal, [.raw (.bool true)], []) := by
  obtain ⟨m0, p, q, a, b, c⟩ := G
  have h1 : m0 = F0 := h1
  have h2 : p = fp := h2
  have h3 : q = fq := h3
  have h4 : a.getD [] = lo o := h4
  have h5 : b.getD [] = lo g := h5
  subst h1 h2 h3
  have h := ze_end m0 p q o g s m0 p q a b c m ((c.getD []).length : Int)
  have e : ∀ l : List Mac, eqL l l = true := fun l => eqL_self l
  have k0 : (((c.getD []).length : Int) == ((c.getD []).length : Int)) = true := by simp
  rw [h4, h5, e, e, decide_eq_true (show (lo o).length ≤ 100000 by omega), decide_eq_true (show (lo g).length ≤ 100000 by omega), k0] at h
  refine Tr.follow_get h ?_
  simp only [beq_self_eq_true, Bool.and_self, Bool.and_true]
theorem p15 {F : Fr} {G : Gw} {m : List (Int × Bool)} {l : Bs} : (pieceL C24 Try.prog sfT2 noLs (fun _ _ => 20) 10 6 167 (.region 15 (opsOf 15) false) [6, 7, 2, 5] sl5 ⟨[.h 0, .h 1, .h 2, .h 3], 0, mO F (gw G) m l⟩).get = some (.normal, mV 0, mO F (gw G) m l) := by
  obtain ⟨m0, p, q, a, b, c⟩ := G
  cases a <;> cases b <;> cases c <;> kernel_rfl
theorem p24 {F : Fr} {G : Gw} {m : List (Int × Bool)} {l : Bs} {i : Int} : (pieceL C24 Try.prog sfT2 noLs (fun _ _ => 20) 10 6 167 (.region 24 (opsOf 24) false) sl5 [7, 2, 5, 14] ⟨mV i, 0, mO F (gw G) m l⟩).get = some (.normal, [.h 0, .h 1, .h 2, .raw (.int .i64 0)], naO F (gw G) m) := by
  obtain ⟨m0, p, q, a, b, c⟩ := G
  cases a <;> cases b <;> cases c <;> kernel_rfl
theorem p25 {F : Fr} {G : Gw} {m : List (Int × Bool)} : (pieceL C24 Try.prog sfT2 noLs (fun _ _ => 20) 10 6 167 (.region 25 (opsOf 25) false) [7, 2, 5, 14] sl4 ⟨[.h 0, .h 1, .h 2, .raw (.int .i64 0)], 0, naO F (gw G) m⟩).get = some (.normal, naV 0 0, naO F (gw G) m) := by
  obtain ⟨m0, p, q, a, b, c⟩ := G
  cases a <;> cases b <;> cases c <;> kernel_rfl
end
end Go.Proofs.Ytgepgnjjhgmfnaa
