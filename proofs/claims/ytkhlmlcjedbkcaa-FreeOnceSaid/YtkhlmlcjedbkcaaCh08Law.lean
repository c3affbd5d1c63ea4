/-
  Chapter 8: words of bits, in plain Lean. Own work; nothing here is trusted.
-/
import Derived.Test.YtkhlmlcjedbkcaaCh08Free
namespace Go.Proofs.Ytkhlmlcjedbkcaa
open Go Go.Sx Go.RowKit
set_option maxRecDepth 100000
set_option maxHeartbeats 4000000
set_option linter.unusedVariables false
set_option linter.unusedSimpArgs false
abbrev V (x : Int) : BitVec 64 := BitVec.ofInt 64 x
def U (v : BitVec 64) : Int := (v.toNat : Int)
theorem U_range (v : BitVec 64) : 0 ≤ U v ∧ U v < 18446744073709551616 := by
  unfold U; have := v.isLt; omega
theorem wrapU (v : BitVec 64) : IntKind.u64.wrap (v.toNat : Int) = U v := by
  have : IntKind.u64.wrap (v.toNat : Int) = (v.toNat : Int) % 18446744073709551616 := by simp [IntKind.wrap, IntKind.bits, IntKind.signed]
  rw [this]; unfold U; have := v.isLt; omega
theorem VU (v : BitVec 64) : V (U v) = v := by
  unfold U V; rw [BitVec.ofInt_natCast, BitVec.ofNat_toNat, BitVec.setWidth_eq]
theorem UV {x : Int} (h : 0 ≤ x ∧ x < 18446744073709551616) : U (V x) = x := by
  obtain ⟨m, rfl⟩ := Int.eq_ofNat_of_zero_le h.1
  unfold U V
  rw [BitVec.ofInt_natCast, BitVec.toNat_ofNat, Nat.mod_eq_of_lt (by omega)]
theorem bAnd (x y : Int) : bitsV .u64 .and x y = U (V x &&& V y) := wrapU _
theorem bOr (x y : Int) : bitsV .u64 .or x y = U (V x ||| V y) := wrapU _
theorem bNot (x y : Int) : bitsV .u64 .andNot x y = U (V x &&& ~~~ V y) := wrapU _
theorem U_eq {u v : BitVec 64} : U u = U v ↔ u = v := by
  constructor
  · intro h; rw [← VU u, ← VU v, h]
  · intro h; rw [h]
theorem U_zero {u : BitVec 64} : U u = 0 ↔ u = 0#64 := U_eq (v := 0#64)
theorem shl_lit (i : Nat) (h : i ≤ 63) : shlV .u64 1 (i : Int) = U (BitVec.twoPow 64 i) := by
  show IntKind.u64.wrap (1 * 2 ^ (min (i : Int).toNat 64)) = _
  have e2 : min (i : Int).toNat 64 = i := by omega
  rw [e2, Int.one_mul]
  have e3 : (2 : Int) ^ i = ((BitVec.twoPow 64 i).toNat : Int) := by
    rw [BitVec.toNat_twoPow_of_lt (by omega)]; simp
  rw [e3]; exact wrapU _
theorem shr_bit {x b : Int} (hx : 0 ≤ x ∧ x < 18446744073709551616) (hb : 0 ≤ b ∧ b ≤ 63) : (bitsV .u64 .and (shrV .u64 x b) 1 == 1) = (V x).getLsbD b.toNat := by
  obtain ⟨m, rfl⟩ := Int.eq_ofNat_of_zero_le hx.1
  obtain ⟨i, rfl⟩ := Int.eq_ofNat_of_zero_le hb.1
  have e1 : shrV .u64 (m : Int) (i : Int) = ((m / 2 ^ i : Nat) : Int) := by
    show (m : Int).fdiv (2 ^ (min (i : Int).toNat 64)) = _
    have e2 : min (i : Int).toNat 64 = i := by omega
    have e3 : (2 : Int) ^ i = ((2 ^ i : Nat) : Int) := by simp
    rw [e2, e3, Int.fdiv_eq_ediv_of_nonneg _ (Int.natCast_nonneg _)]
    rfl
  rw [e1, bAnd]
  have e4 : V ((m / 2 ^ i : Nat) : Int) &&& V 1 = BitVec.ofNat 64 ((m / 2 ^ i) % 2) := by
    apply BitVec.eq_of_toNat_eq
    show (BitVec.ofInt 64 ((m / 2 ^ i : Nat) : Int) &&& BitVec.ofInt 64 ((1 : Nat) : Int)).toNat = _
    rw [BitVec.ofInt_natCast, BitVec.ofInt_natCast, BitVec.toNat_and, BitVec.toNat_ofNat, BitVec.toNat_ofNat, BitVec.toNat_ofNat]
    have : m / 2 ^ i ≤ m := Nat.div_le_self _ _
    rw [Nat.mod_eq_of_lt (show m / 2 ^ i < 2 ^ 64 by omega)]
    have h1 : 1 % 2 ^ 64 = 2 ^ 1 - 1 := rfl
    rw [h1, Nat.and_two_pow_sub_one_eq_mod]
    omega
  rw [e4]
  have e5 : (V (m : Int)).getLsbD i = m.testBit i := by
    unfold V
    rw [BitVec.ofInt_natCast, BitVec.getLsbD_ofNat]
    have : i < 64 := by omega
    simp [this]
  show (U (BitVec.ofNat 64 (m / 2 ^ i % 2)) == 1) = (V (m : Int)).getLsbD i
  rw [e5, Nat.testBit_eq_decide_div_mod_eq]
  have : m / 2 ^ i % 2 < 2 := Nat.mod_lt _ (by omega)
  unfold U
  rw [BitVec.toNat_ofNat, Nat.mod_eq_of_lt (show m / 2 ^ i % 2 < 2 ^ 64 by omega)]
  generalize m / 2 ^ i % 2 = q at this
  match q, this with
  | 0, _ => rfl
  | 1, _ => rfl


theorem wR (op : BinOp) (x y : Int) : 0 ≤ bitsV .u64 op x y ∧ bitsV .u64 op x y < 18446744073709551616 := by
  have h : ∀ v : BitVec 64, 0 ≤ IntKind.u64.wrap (v.toNat : Int) ∧ IntKind.u64.wrap (v.toNat : Int) < 18446744073709551616 := fun v => by rw [wrapU]; exact U_range v
  cases op <;> exact h _
abbrev wi (x : Int) : Int := Int.tdiv x 64
abbrev bi (x : Int) : Int := Int.tmod x 64
def bitOf (m : List Int) (x : Int) : Bool := bitsV .u64 .and (shrV .u64 (m.getD (wi x).toNat 0) (bi x)) 1 == 1
def setOf (m : List Int) (x : Int) : List Int := m.set (wi x).toNat (bitsV .u64 .or (m.getD (wi x).toNat 0) (shlV .u64 1 (bi x)))
def addL : List Int → List Int → List Int
  | [], m => m
  | x :: r, m => addL r (setOf m x)
def inS (size x : Int) : Bool := decide (0 ≤ x ∧ x < size)
def addOk (size : Int) : List Int → List Int → Bool
  | [], _ => true
  | x :: r, m => inS size x && (!bitOf m x && addOk size r (setOf m x))
def rngL (m : List Int) : Prop := ∀ j, 0 ≤ m.getD j 0 ∧ m.getD j 0 < 18446744073709551616
theorem set_len (m : List Int) (x : Int) : (setOf m x).length = m.length := by unfold setOf; exact List.length_set
theorem set_rng {m : List Int} (h : rngL m) (x : Int) : rngL (setOf m x) := fun j => by
  unfold setOf
  rw [List.getD_eq_getElem?_getD, List.getElem?_set]
  by_cases e : (wi x).toNat = j
  · rw [if_pos e]
    by_cases h2 : (wi x).toNat < m.length
    · rw [if_pos h2, Option.getD_some]; exact wR .or _ _
    · rw [if_neg h2]; exact ⟨by decide, by decide⟩
  · rw [if_neg e, ← List.getD_eq_getElem?_getD]; exact h j
theorem wi_bi {x : Int} (h : 0 ≤ x) : 0 ≤ wi x ∧ 0 ≤ bi x ∧ bi x ≤ 63 ∧ x = 64 * wi x + bi x := by
  have h1 : wi x = x / 64 := Int.tdiv_eq_ediv_of_nonneg h
  have h2 : bi x = x % 64 := Int.tmod_eq_emod_of_nonneg h
  rw [h1, h2]; omega
theorem bit_set {m : List Int} (hm : rngL m) {x y : Int} (hx : 0 ≤ x) (hy : 0 ≤ y) (hl : x < 64 * m.length) : bitOf (setOf m x) y = (decide (y = x) || bitOf m y) := by
  obtain ⟨x1, x2, x3, x4⟩ := wi_bi hx
  obtain ⟨y1, y2, y3, y4⟩ := wi_bi hy
  have hr := set_rng hm x
  unfold bitOf
  rw [shr_bit (hr _) ⟨y2, y3⟩, shr_bit (hm _) ⟨y2, y3⟩]
  unfold setOf
  rw [List.getD_eq_getElem?_getD, List.getElem?_set]
  by_cases e : (wi x).toNat = (wi y).toNat
  · rw [if_pos e, if_pos (by omega)]
    simp only [Option.getD_some]
    obtain ⟨b, hb⟩ := Int.eq_ofNat_of_zero_le x2
    rw [bOr, VU, BitVec.getLsbD_or, hb, shl_lit b (by omega), VU, BitVec.getLsbD_twoPow, e, Bool.or_comm]
    congr 1
    by_cases e2 : y = x
    · subst e2
      rw [decide_eq_true rfl, decide_eq_true (show b = (bi y).toNat by omega)]
      simp; omega
    · rw [decide_eq_false e2, decide_eq_false (show ¬ b = (bi y).toNat by omega)]; simp
  · rw [if_neg e, ← List.getD_eq_getElem?_getD, decide_eq_false (show ¬ y = x from fun e2 => e (by rw [e2]))]; simp
theorem addL_append : ∀ (a b m : List Int), addL (a ++ b) m = addL b (addL a m)
  | [], _, _ => rfl
  | x :: r, b, m => addL_append r b (setOf m x)
theorem addOk_append (size : Int) : ∀ (a b m : List Int), addOk size (a ++ b) m = (addOk size a m && addOk size b (addL a m))
  | [], b, m => by simp [addOk, addL]
  | x :: r, b, m => by
    simp only [List.cons_append, addOk, addL, addOk_append size r b (setOf m x), Bool.and_assoc]
theorem addOk_of {size : Int} : ∀ (l m : List Int), rngL m → size ≤ 64 * m.length → (∀ x ∈ l, 0 ≤ x ∧ x < size) → l.Nodup → (∀ x ∈ l, bitOf m x = false) → addOk size l m = true
  | [], _, _, _, _, _, _ => rfl
  | x :: r, m, hm, hl, hr, hd, hb => by
    obtain ⟨x1, x2⟩ := hr x List.mem_cons_self
    unfold addOk inS
    rw [decide_eq_true ⟨x1, x2⟩, hb x List.mem_cons_self, addOk_of r (setOf m x) (set_rng hm x) (by rw [set_len]; exact hl) (fun y hy => hr y (List.mem_cons_of_mem _ hy)) (List.nodup_cons.1 hd).2 fun y hy => ?_]
    · rfl
    · rw [bit_set hm x1 (hr y (List.mem_cons_of_mem _ hy)).1 (by omega), hb y (List.mem_cons_of_mem _ hy), decide_eq_false]
      · rfl
      · intro e
        exact (List.nodup_cons.1 hd).1 (by rw [← e]; exact hy)
/-- No bit yet. -/
def noBits (n : Nat) : List Int := List.replicate n 0
theorem no_rng (n : Nat) : rngL (noBits n) := fun j => by
  unfold noBits
  rw [List.getD_eq_getElem?_getD, List.getElem?_replicate]
  by_cases h : j < n
  · rw [if_pos h]; exact ⟨by decide, by decide⟩
  · rw [if_neg h]; exact ⟨by decide, by decide⟩
theorem no_bit (n : Nat) {x : Int} (hx : 0 ≤ x) : bitOf (noBits n) x = false := by
  obtain ⟨_, x2, x3, _⟩ := wi_bi hx
  unfold bitOf
  rw [shr_bit (no_rng n _) ⟨x2, x3⟩]
  have : (noBits n).getD (wi x).toNat 0 = 0 := by
    unfold noBits
    rw [List.getD_eq_getElem?_getD, List.getElem?_replicate]
    by_cases h : (wi x).toNat < n
    · rw [if_pos h]; rfl
    · rw [if_neg h]; rfl
  rw [this]
  simp
theorem addOk_new {size : Int} {n : Nat} {l : List Int} (hl : size ≤ 64 * n) (hr : ∀ x ∈ l, 0 ≤ x ∧ x < size) (hd : l.Nodup) : addOk size l (noBits n) = true :=
  addOk_of l _ (no_rng n) (by unfold noBits; rw [List.length_replicate]; exact hl) hr hd fun x hx => no_bit n (hr x hx).1
end Go.Proofs.Ytkhlmlcjedbkcaa
