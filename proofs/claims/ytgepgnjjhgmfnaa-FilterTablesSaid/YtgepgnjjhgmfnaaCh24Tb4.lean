/-
  Chapter 24: FilterTables, rounds of its loop over commands. Own work; nothing here is trusted.
-/
import Derived.Test.YtgepgnjjhgmfnaaCh24Tb3
namespace Go.Proofs.Ytgepgnjjhgmfnaa
open Go Go.Sx Go.RowKit
set_option maxRecDepth 1000000
set_option maxHeartbeats 8000000
set_option linter.unusedVariables false
set_option linter.unusedSimpArgs false
noncomputable section
abbrev fts : Int := 4304273440
abbrev xG (G : Gw) (l : Bs) (i : Int) : Oc := ctO fts (pw G) (eB l i)
theorem mr_end (F : Fr) (m0 : Mac) (p q : Bool) (a b : Option (List Mac)) (c : Option (List Int)) (m : List (Int × Bool)) (l : Bs) (i : Int) : Tr.follow [false] (mR sl5 F (gw (m0, p, q, a, b, c)) m l i) =
    some ([decide (i < (l.length : Int))], (.exit 2, mV i, mO F (gw (m0, p, q, a, b, c)) m l)) := by
  cases a <;> cases b <;> cases c <;> kernel_rfl
theorem mr_keep (F : Fr) (m0 : Mac) (p q : Bool) (a b : Option (List Mac)) (c : Option (List Int)) (m : List (Int × Bool)) (l : Bs) (i : Int) : Tr.follow [true, true, true, false, true, true, false, true, false, false, false, false, false, false, false, false, false, true] (mR sl5 F (gw (m0, p, q, a, b, c)) m l i) =
    some ([decide (i < (l.length : Int)), Sx.inB i l.length, decide (i.toNat < l.length), eN l i, smX (a.getD []) (b.getD []) (c.getD []), byB (eB l i), Nat.beq (ocK (xG (m0, p, q, a, b, c) l i)) 0, Nat.beq (ocK (xG (m0, p, q, a, b, c) l i)) 1, i == 0, false, false, false, false, false, false, false, false, inR64 (i + 1)],
      (.normal, mV (i + 1), mO F (gw (ocM (pw (m0, p, q, a, b, c)) (xG (m0, p, q, a, b, c) l i), ocP (pw (m0, p, q, a, b, c)) (xG (m0, p, q, a, b, c) l i), ocQ (pw (m0, p, q, a, b, c)) (xG (m0, p, q, a, b, c) l i), a, b, c)) m l)) := by
  cases a <;> cases b <;> cases c <;> kernel_rfl
theorem mr_vl (F : Fr) (m0 : Mac) (p q : Bool) (a b : Option (List Mac)) (c : Option (List Int)) (m : List (Int × Bool)) (l : Bs) (i : Int) : Tr.follow [true, true, true, false, true, true, false, false, true, false, false, false, false, false, false, false, false, false, true] (mR sl5 F (gw (m0, p, q, a, b, c)) m l i) =
    some ([decide (i < (l.length : Int)), Sx.inB i l.length, decide (i.toNat < l.length), eN l i, smX (a.getD []) (b.getD []) (c.getD []), byB (eB l i), Nat.beq (ocK (xG (m0, p, q, a, b, c) l i)) 0, Nat.beq (ocK (xG (m0, p, q, a, b, c) l i)) 1, Nat.beq (ocK (xG (m0, p, q, a, b, c) l i)) 2, i == 0, false, false, false, false, false, false, false, false, inR64 (i + 1)],
      (.normal, mV (i + 1), mO F (gw (m0, p, q, a, b, some (ocV (xG (m0, p, q, a, b, c) l i)))) m l)) := by
  cases a <;> cases b <;> cases c <;> kernel_rfl
theorem mz_ff (F : Fr) (m : List (Int × Bool)) (l : Bs) : Tr.follow [true, true, true, false, true, true, false, false, false, false, false, true, true, true, true, true, false, false, false, false, true, false, false, true] (mR sl5 F (gw gw0) m l 0) =
    some ([decide ((0 : Int) < (l.length : Int)), Sx.inB 0 l.length, decide ((0 : Int).toNat < l.length), eN l 0, true, byB (eB l 0), Nat.beq (ocK (xG gw0 l 0)) 0, Nat.beq (ocK (xG gw0 l 0)) 1, Nat.beq (ocK (xG gw0 l 0)) 2, ocX (xG gw0 l 0), ocY (xG gw0 l 0), true, true, true, true, true, decide ((32 : Int) < (F.2.2.2.1.2.1 : Int)), false, false, false, true, decide ((32 : Int) < (F.2.2.2.2.1.2.1 : Int)), false, true],
      (.normal, mV 1, mO F (gw (mac0, false, false, some (ocO (xG gw0 l 0)), some (ocG (xG gw0 l 0)), none)) m l)) := by kernel_rfl
theorem mz_tf (F : Fr) (m : List (Int × Bool)) (l : Bs) : Tr.follow [true, true, true, false, true, true, false, false, false, true, false, true, true, true, true, true, false, false, false, false, true, false, false, true] (mR sl5 F (gw gw0) m l 0) =
    some ([decide ((0 : Int) < (l.length : Int)), Sx.inB 0 l.length, decide ((0 : Int).toNat < l.length), eN l 0, true, byB (eB l 0), Nat.beq (ocK (xG gw0 l 0)) 0, Nat.beq (ocK (xG gw0 l 0)) 1, Nat.beq (ocK (xG gw0 l 0)) 2, ocX (xG gw0 l 0), ocY (xG gw0 l 0), true, true, true, true, true, decide ((32 : Int) < (F.2.2.2.1.2.1 : Int)), false, false, false, true, decide ((32 : Int) < (F.2.2.2.2.1.2.1 : Int)), false, true],
      (.normal, mV 1, mO F (gw (mac0, false, false, none, some (ocG (xG gw0 l 0)), none)) m l)) := by kernel_rfl
theorem mz_ft (F : Fr) (m : List (Int × Bool)) (l : Bs) : Tr.follow [true, true, true, false, true, true, false, false, false, false, true, true, true, true, true, true, false, false, false, false, true, false, false, true] (mR sl5 F (gw gw0) m l 0) =
    some ([decide ((0 : Int) < (l.length : Int)), Sx.inB 0 l.length, decide ((0 : Int).toNat < l.length), eN l 0, true, byB (eB l 0), Nat.beq (ocK (xG gw0 l 0)) 0, Nat.beq (ocK (xG gw0 l 0)) 1, Nat.beq (ocK (xG gw0 l 0)) 2, ocX (xG gw0 l 0), ocY (xG gw0 l 0), true, true, true, true, true, decide ((32 : Int) < (F.2.2.2.1.2.1 : Int)), false, false, false, true, decide ((32 : Int) < (F.2.2.2.2.1.2.1 : Int)), false, true],
      (.normal, mV 1, mO F (gw (mac0, false, false, some (ocO (xG gw0 l 0)), none, none)) m l)) := by kernel_rfl
theorem mz_tt (F : Fr) (m : List (Int × Bool)) (l : Bs) : Tr.follow [true, true, true, false, true, true, false, false, false, true, true, true, true, true, true, true, false, false, false, false, true, false, false, true] (mR sl5 F (gw gw0) m l 0) =
    some ([decide ((0 : Int) < (l.length : Int)), Sx.inB 0 l.length, decide ((0 : Int).toNat < l.length), eN l 0, true, byB (eB l 0), Nat.beq (ocK (xG gw0 l 0)) 0, Nat.beq (ocK (xG gw0 l 0)) 1, Nat.beq (ocK (xG gw0 l 0)) 2, ocX (xG gw0 l 0), ocY (xG gw0 l 0), true, true, true, true, true, decide ((32 : Int) < (F.2.2.2.1.2.1 : Int)), false, false, false, true, decide ((32 : Int) < (F.2.2.2.2.1.2.1 : Int)), false, true],
      (.normal, mV 1, mO F (gw (mac0, false, false, none, none, none)) m l)) := by kernel_rfl
theorem mz_e1 (F : Fr) (m : List (Int × Bool)) (l : Bs) : Tr.follow [true, true, true, false, true, true, true, true, true, true, true, true, true, true, true, true, true, true, true, true, true, true, true] (mR [4] F (gw gw0) m l 0) =
    some ([decide ((0 : Int) < (l.length : Int)), Sx.inB 0 l.length, decide ((0 : Int).toNat < l.length), eN l 0, true, byB (eB l 0), Nat.beq (ocK (xG gw0 l 0)) 0, true, true, true, true, true, decide ((32 : Int) < (F.2.2.2.1.2.1 : Int)), true, true, true, true, true, true, true, true, true, true],
      (.ret, [.raw (.bool true)], [])) := by kernel_rfl
theorem mz_e2 (F : Fr) (m : List (Int × Bool)) (l : Bs) : Tr.follow [true, true, true, false, true, true, true, true, true, true, true, true, false, false, false, false, true, true, true, true, true, true] (mR [4] F (gw gw0) m l 0) =
    some ([decide ((0 : Int) < (l.length : Int)), Sx.inB 0 l.length, decide ((0 : Int).toNat < l.length), eN l 0, true, byB (eB l 0), Nat.beq (ocK (xG gw0 l 0)) 0, true, true, true, true, true, decide ((32 : Int) < (F.2.2.2.1.2.1 : Int)), false, false, false, true, decide ((32 : Int) < (F.2.2.2.2.1.2.1 : Int)), true, true, true, true],
      (.ret, [.raw (.bool true)], [])) := by kernel_rfl
/-! ### a round, told by what the command makes -/
/-- What a command makes of a filter. -/
def stG (G : Gw) : Oc → Gw
  | .err => G
  | .keep m p q => (m, p, q, G.2.2.2.1, G.2.2.2.2.1, G.2.2.2.2.2)
  | .vl l => (G.1, G.2.1, G.2.2.1, G.2.2.2.1, G.2.2.2.2.1, some l)
  | .tab a b => (G.1, G.2.1, G.2.2.1, a, b, G.2.2.2.2.2)
theorem m_stop {F : Fr} {G : Gw} {m : List (Int × Bool)} {l : Bs} : (mR sl5 F (gw G) m l (l.length : Int)).get = some (.exit 2, mV (l.length : Int), mO F (gw G) m l) := by
  obtain ⟨m0, p, q, a, b, c⟩ := G
  exact Tr.follow_get (mr_end F m0 p q a b c m l _) (by rw [decide_eq_false (Int.lt_irrefl _)])
theorem m_go {F : Fr} {G : Gw} {m : List (Int × Bool)} {l : Bs} {k : Nat} (hk : k < l.length) (h0 : 0 < k) (hl : l.length ≤ 1000) (hn : eN l (k : Int) = false) (hb : byB (eB l (k : Int)) = true) (hs : smX (pw G).2.2.2.1 (pw G).2.2.2.2.1 (pw G).2.2.2.2.2 = true)
    (hx : (∃ x y z, xG G l (k : Int) = .keep x y z) ∨ ∃ x, xG G l (k : Int) = .vl x) : (mR sl5 F (gw G) m l (k : Int)).get = some (.normal, mV ((k + 1 : Nat) : Int), mO F (gw (stG G (xG G l (k : Int)))) m l) := by
  have k1 := decide_eq_true (show (k : Int) < (l.length : Int) by omega)
  have k2 : Sx.inB (k : Int) l.length = true := inB_mk ⟨by omega, by omega⟩
  have k3 := decide_eq_true (show ((k : Nat) : Int).toNat < l.length by omega)
  have k4 : inR64 ((k : Int) + 1) = true := inR64_mk (by omega)
  have k5 : ((k : Int) == 0) = false := by
    have : (k : Int) ≠ 0 := by omega
    simpa using this
  obtain ⟨m0, p, q, a, b, c⟩ := G
  have hs : smX (a.getD []) (b.getD []) (c.getD []) = true := hs
  rw [Int.natCast_add]
  rcases hx with ⟨x, y, z, hx⟩ | ⟨x, hx⟩
  · have h := mr_keep F m0 p q a b c m l (k : Int)
    rw [hx] at h ⊢
    exact Tr.follow_get h (by simp only [k1, k2, k3, hn, hb, hs, k4, k5]; rfl)
  · have h := mr_vl F m0 p q a b c m l (k : Int)
    rw [hx] at h ⊢
    exact Tr.follow_get h (by simp only [k1, k2, k3, hn, hb, hs, k4, k5]; rfl)
theorem m_tab {F : Fr} {m : List (Int × Bool)} {l : Bs} (hl : 0 < l.length) (hn : eN l 0 = false) (hb : byB (eB l 0) = true) (h1 : F.2.2.2.1.2.1 ≤ 32) (h2 : F.2.2.2.2.1.2.1 ≤ 32) {a b : Option (List Mac)} (hx : xG gw0 l 0 = .tab a b) :
    (mR sl5 F (gw gw0) m l 0).get = some (.normal, mV ((0 + 1 : Nat) : Int), mO F (gw (stG gw0 (xG gw0 l 0))) m l) := by
  have k1 := decide_eq_true (show (0 : Int) < (l.length : Int) by omega)
  have k2 : Sx.inB 0 l.length = true := inB_mk ⟨by omega, by omega⟩
  have k3 := decide_eq_true (show (0 : Int).toNat < l.length by omega)
  have k4 := decide_eq_false (show ¬ (32 : Int) < (F.2.2.2.1.2.1 : Int) by omega)
  have k5 := decide_eq_false (show ¬ (32 : Int) < (F.2.2.2.2.1.2.1 : Int) by omega)
  cases a with
  | none =>
    cases b with
    | none =>
      have h := mz_tt F m l
      rw [hx] at h ⊢
      exact Tr.follow_get h (by simp only [k1, k2, k3, hn, hb, k4, k5]; rfl)
    | some b =>
      have h := mz_tf F m l
      rw [hx] at h ⊢
      exact Tr.follow_get h (by simp only [k1, k2, k3, hn, hb, k4, k5]; rfl)
  | some a =>
    cases b with
    | none =>
      have h := mz_ft F m l
      rw [hx] at h ⊢
      exact Tr.follow_get h (by simp only [k1, k2, k3, hn, hb, k4, k5]; rfl)
    | some b =>
      have h := mz_ff F m l
      rw [hx] at h ⊢
      exact Tr.follow_get h (by simp only [k1, k2, k3, hn, hb, k4, k5]; rfl)
theorem m_err {F : Fr} {m : List (Int × Bool)} {l : Bs} (hl : 0 < l.length) (hn : eN l 0 = false) (hb : byB (eB l 0) = true) (h1 : 32 < F.2.2.2.1.2.1 ∨ 32 < F.2.2.2.2.1.2.1) (hx : xG gw0 l 0 = .err) :
    (mR [4] F (gw gw0) m l 0).get = some (.ret, [.raw (.bool true)], []) := by
  have k1 := decide_eq_true (show (0 : Int) < (l.length : Int) by omega)
  have k2 : Sx.inB 0 l.length = true := inB_mk ⟨by omega, by omega⟩
  have k3 := decide_eq_true (show (0 : Int).toNat < l.length by omega)
  by_cases h3 : 32 < F.2.2.2.1.2.1
  · have k4 := decide_eq_true (show (32 : Int) < (F.2.2.2.1.2.1 : Int) by omega)
    have h := mz_e1 F m l
    rw [hx] at h
    exact Tr.follow_get h (by simp only [k1, k2, k3, hn, hb, k4]; rfl)
  · have k4 := decide_eq_false (show ¬ (32 : Int) < (F.2.2.2.1.2.1 : Int) by omega)
    have k5 := decide_eq_true (show (32 : Int) < (F.2.2.2.2.1.2.1 : Int) by omega)
    have h := mz_e2 F m l
    rw [hx] at h
    exact Tr.follow_get h (by simp only [k1, k2, k3, hn, hb, k4, k5]; rfl)
end
end Go.Proofs.Ytgepgnjjhgmfnaa
