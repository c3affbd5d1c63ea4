/-
  Chapter 27: a message is determined by its bytes. Own work; nothing here is trusted.
-/
import Derived.Test.YtgegagndihffpaaCh27Back1
namespace Go.Proofs.Ytgegagndihffpaa
open Go Go.Sx Go.RowKit
set_option maxRecDepth 1000000
set_option maxHeartbeats 8000000
set_option linter.unusedVariables false
set_option linter.unusedSimpArgs false
noncomputable section
theorem shl32_0 {n : Nat} (h : n < 256) : shlV .u32 ((n : Int) % 4294967296) (8 * 0) = ((n * 2 ^ 0 : Nat) : Int) := by
  show (((n : Int) % 4294967296) * 2 ^ 0) % 4294967296 = _
  omega
theorem shl32_1 {n : Nat} (h : n < 256) : shlV .u32 ((n : Int) % 4294967296) (8 * (0 + 1)) = ((n * 2 ^ 8 : Nat) : Int) := by
  show (((n : Int) % 4294967296) * 2 ^ 8) % 4294967296 = _
  omega
theorem shl32_2 {n : Nat} (h : n < 256) : shlV .u32 ((n : Int) % 4294967296) (8 * (0 + 1 + 1)) = ((n * 2 ^ 16 : Nat) : Int) := by
  show (((n : Int) % 4294967296) * 2 ^ 16) % 4294967296 = _
  omega
theorem shl32_3 {n : Nat} (h : n < 256) : shlV .u32 ((n : Int) % 4294967296) (8 * (0 + 1 + 1 + 1)) = ((n * 2 ^ 24 : Nat) : Int) := by
  show (((n : Int) % 4294967296) * 2 ^ 24) % 4294967296 = _
  omega
theorem shl16 {n : Nat} (h : n < 256) : shlV .u16 ((n : Int) % 65536) 8 = ((n * 2 ^ 8 : Nat) : Int) := by
  show (((n : Int) % 65536) * 2 ^ 8) % 65536 = _
  omega
theorem idR_eq {n0 n1 n2 n3 : Nat} (r : List Int) (h0 : n0 < 256) (h1 : n1 < 256) (h2 : n2 < 256) (h3 : n3 < 256) :
    idR ((n0 : Int) :: (n1 : Int) :: (n2 : Int) :: (n3 : Int) :: r) = ((n0 + n1 * 2 ^ 8 + n2 * 2 ^ 16 + n3 * 2 ^ 24 : Nat) : Int) := by
  show bitsV .u32 .or (bitsV .u32 .or (bitsV .u32 .or (bitsV .u32 .or 0 (shlV .u32 ((n0 : Int) % 4294967296) (8 * 0))) (shlV .u32 ((n1 : Int) % 4294967296) (8 * (0 + 1)))) (shlV .u32 ((n2 : Int) % 4294967296) (8 * (0 + 1 + 1)))) (shlV .u32 ((n3 : Int) % 4294967296) (8 * (0 + 1 + 1 + 1))) = _
  rw [shl32_0 h0, shl32_1 h1, shl32_2 h2, shl32_3 h3]
  have e0 : bitsV .u32 .or 0 ((n0 * 2 ^ 0 : Nat) : Int) = ((n0 : Nat) : Int) := by
    have := or32 (x := 0) (z := n0) 0 (by decide) (by omega)
    simpa using this
  rw [e0, or32 8 (by omega) (by omega), or32 16 (by omega) (by omega), or32 24 (by omega) (by omega)]
theorem evR_eq {a0 a1 a2 a3 : Int} {n0 n1 : Nat} (r : List Int) (h0 : n0 < 256) (h1 : n1 < 256) : evR (a0 :: a1 :: a2 :: a3 :: (n0 : Int) :: (n1 : Int) :: r) = ((n0 + n1 * 2 ^ 8 : Nat) : Int) := by
  show bitsV .u16 .or ((n0 : Int) % 65536) (shlV .u16 ((n1 : Int) % 65536) 8) = _
  rw [shl16 h1, show (n0 : Int) % 65536 = (n0 : Int) by omega, or16 8 (by omega) (by omega)]
theorem vlR_eq {a0 a1 a2 a3 a4 a5 : Int} {n0 n1 : Nat} (r : List Int) (h0 : n0 < 256) (h1 : n1 < 256) : vlR (a0 :: a1 :: a2 :: a3 :: a4 :: a5 :: (n0 : Int) :: (n1 : Int) :: r) = ((n0 + n1 * 2 ^ 8 : Nat) : Int) := by
  show bitsV .u16 .or ((n0 : Int) % 65536) (shlV .u16 ((n1 : Int) % 65536) 8) = _
  rw [shl16 h1, show (n0 : Int) % 65536 = (n0 : Int) by omega, or16 8 (by omega) (by omega)]
theorem nmX_eq (b : List Int) : nmX b = strOf (b.drop 8) := by
  unfold nmX
  simp only [intO_some, intO_none, List.map_id']
  rw [show ((b.length : Int)).toNat = b.length from rfl, List.take_length, show (8 : Int).toNat = 8 from rfl]
theorem u8_nat {x : Int} (h : isB8 x) : (((UInt8.ofNat x.toNat).toNat : Nat) : Int) = x := by
  have e : (UInt8.ofNat x.toNat).toNat = x.toNat % 256 := rfl
  rw [e]; omega
theorem strL_of {l : List Int} (h : ∀ x ∈ l, isB8 x) : strL (fun x : Int => x) (strOf l) = l := by
  unfold strL strOf
  simp only [List.toList_toArray, List.map_map]
  have : ∀ x ∈ l, ((fun b : UInt8 => ((b.toNat : Nat) : Int)) ∘ fun n : Int => UInt8.ofNat n.toNat) x = id x := fun x hx => u8_nat (h x hx)
  rw [List.map_congr_left this, List.map_id]
theorem strOf_L (s : ByteArray) : strOf (strL (fun x : Int => x) s) = s := by
  unfold strL strOf
  cases s with
  | mk d =>
    simp only [List.map_map]
    have : ∀ x ∈ d.toList, ((fun n : Int => UInt8.ofNat n.toNat) ∘ fun b : UInt8 => ((b.toNat : Nat) : Int)) x = id x := fun x _ => by
      show UInt8.ofNat (((x.toNat : Nat) : Int)).toNat = x
      rw [Int.toNat_natCast, UInt8.ofNat_toNat]
    rw [List.map_congr_left this, List.map_id]
theorem strL_b8 (s : ByteArray) : ∀ x ∈ strL (fun x : Int => x) s, isB8 x := fun x hx => by
  obtain ⟨u, _, rfl⟩ := List.mem_map.1 hx
  have := u.toNat_lt
  exact ⟨by show (0 : Int) ≤ ((u.toNat : Nat) : Int); omega, by show ((u.toNat : Nat) : Int) < 256; omega⟩
/-! A number's bytes. -/
theorem by32 (a : Nat) : (shrV .u32 (a : Int) (8 * 0) % 256 = ((a % 256 : Nat) : Int) ∧ shrV .u32 (a : Int) (8 * (0 + 1)) % 256 = ((a / 2 ^ 8 % 256 : Nat) : Int)) ∧ shrV .u32 (a : Int) (8 * (0 + 1 + 1)) % 256 = ((a / 2 ^ 16 % 256 : Nat) : Int) ∧ shrV .u32 (a : Int) (8 * (0 + 1 + 1 + 1)) % 256 = ((a / 2 ^ 24 % 256 : Nat) : Int) := by
  refine ⟨⟨?_, ?_⟩, ?_, ?_⟩
  · show Int.fdiv (a : Int) (2 ^ 0) % 256 = _
    rw [Int.fdiv_eq_ediv_of_nonneg _ (by decide)]; omega
  · show Int.fdiv (a : Int) (2 ^ 8) % 256 = _
    rw [Int.fdiv_eq_ediv_of_nonneg _ (by decide)]; omega
  · show Int.fdiv (a : Int) (2 ^ 16) % 256 = _
    rw [Int.fdiv_eq_ediv_of_nonneg _ (by decide)]; omega
  · show Int.fdiv (a : Int) (2 ^ 24) % 256 = _
    rw [Int.fdiv_eq_ediv_of_nonneg _ (by decide)]; omega
theorem by16 (a : Nat) : (a : Int) % 256 = ((a % 256 : Nat) : Int) ∧ shrV .u16 (a : Int) 8 % 256 = ((a / 2 ^ 8 % 256 : Nat) : Int) := by
  refine ⟨by omega, ?_⟩
  show Int.fdiv (a : Int) (2 ^ 8) % 256 = _
  rw [Int.fdiv_eq_ediv_of_nonneg _ (by decide)]; omega
theorem msgL_nat (a b c : Nat) (s : ByteArray) : msgL a b c s = ((a % 256 : Nat) : Int) :: ((a / 2 ^ 8 % 256 : Nat) : Int) :: ((a / 2 ^ 16 % 256 : Nat) : Int) :: ((a / 2 ^ 24 % 256 : Nat) : Int) :: ((b % 256 : Nat) : Int) :: ((b / 2 ^ 8 % 256 : Nat) : Int) :: ((c % 256 : Nat) : Int) :: ((c / 2 ^ 8 % 256 : Nat) : Int) :: strL (fun x : Int => x) s := by
  obtain ⟨⟨e0, e1⟩, e2, e3⟩ := by32 a
  obtain ⟨f0, f1⟩ := by16 b
  obtain ⟨g0, g1⟩ := by16 c
  unfold msgL
  rw [e0, e1, e2, e3, f0, f1, g0, g1]
  rfl
/-- What is read of a message's bytes is the message. -/
theorem read_msg {a b c : Int} {s : ByteArray} (ha : 0 ≤ a ∧ a ≤ 4294967295) (hb : 0 ≤ b ∧ b ≤ 65535) (hc : 0 ≤ c ∧ c ≤ 65535) (ho : okM b s = true) : readR (msgL a b c s) = ((a, b, c, s), 0) := by
  obtain ⟨a, rfl⟩ := Int.eq_ofNat_of_zero_le ha.1
  obtain ⟨b, rfl⟩ := Int.eq_ofNat_of_zero_le hb.1
  obtain ⟨c, rfl⟩ := Int.eq_ofNat_of_zero_le hc.1
  rw [msgL_nat]
  have e1 := idR_eq (((b % 256 : Nat) : Int) :: ((b / 2 ^ 8 % 256 : Nat) : Int) :: ((c % 256 : Nat) : Int) :: ((c / 2 ^ 8 % 256 : Nat) : Int) :: strL (fun x : Int => x) s) (n0 := a % 256) (n1 := a / 2 ^ 8 % 256) (n2 := a / 2 ^ 16 % 256) (n3 := a / 2 ^ 24 % 256) (by omega) (by omega) (by omega) (by omega)
  have e2 := evR_eq (a0 := ((a % 256 : Nat) : Int)) (a1 := ((a / 2 ^ 8 % 256 : Nat) : Int)) (a2 := ((a / 2 ^ 16 % 256 : Nat) : Int)) (a3 := ((a / 2 ^ 24 % 256 : Nat) : Int)) (n0 := b % 256) (n1 := b / 2 ^ 8 % 256) (((c % 256 : Nat) : Int) :: ((c / 2 ^ 8 % 256 : Nat) : Int) :: strL (fun x : Int => x) s) (by omega) (by omega)
  have e3 := vlR_eq (a0 := ((a % 256 : Nat) : Int)) (a1 := ((a / 2 ^ 8 % 256 : Nat) : Int)) (a2 := ((a / 2 ^ 16 % 256 : Nat) : Int)) (a3 := ((a / 2 ^ 24 % 256 : Nat) : Int)) (a4 := ((b % 256 : Nat) : Int)) (a5 := ((b / 2 ^ 8 % 256 : Nat) : Int)) (n0 := c % 256) (n1 := c / 2 ^ 8 % 256) (strL (fun x : Int => x) s) (by omega) (by omega)
  unfold readR
  rw [e1, e2, e3, nmX_eq]
  have e4 : ∀ (x0 x1 x2 x3 x4 x5 x6 x7 : Int) (r : List Int), List.drop 8 (x0 :: x1 :: x2 :: x3 :: x4 :: x5 :: x6 :: x7 :: r) = r := fun _ _ _ _ _ _ _ _ _ => rfl
  rw [e4, strOf_L]
  have n1 : a % 256 + a / 2 ^ 8 % 256 * 2 ^ 8 + a / 2 ^ 16 % 256 * 2 ^ 16 + a / 2 ^ 24 % 256 * 2 ^ 24 = a := by omega
  have n2 : b % 256 + b / 2 ^ 8 % 256 * 2 ^ 8 = b := by omega
  have n3 : c % 256 + c / 2 ^ 8 % 256 * 2 ^ 8 = c := by omega
  rw [n1, n2, n3, if_neg (by simp only [List.length_cons]; omega), if_pos ho]
/-- Bytes that are read as a message are its bytes. -/
theorem msg_read {b : List Int} (hb : ∀ x ∈ b, isB8 x) (h : (readR b).2 = 0) : okM (readR b).1.2.1 (readR b).1.2.2.2 = true ∧ msgL (readR b).1.1 (readR b).1.2.1 (readR b).1.2.2.1 (readR b).1.2.2.2 = b := by
  unfold readR at h ⊢
  by_cases h8 : (b.length : Int) < 8
  · rw [if_pos h8] at h; exact absurd h (by decide)
  rw [if_neg h8] at h ⊢
  by_cases ho : okM (evR b) (nmX b) = true
  case neg => rw [if_neg ho] at h; exact absurd h (by decide)
  rw [if_pos ho]
  refine ⟨ho, ?_⟩
  match b, hb, h8 with
  | [], _, h8 => simp at h8
  | [_], _, h8 => simp at h8
  | [_, _], _, h8 => simp at h8
  | [_, _, _], _, h8 => simp at h8
  | [_, _, _, _], _, h8 => simp at h8
  | [_, _, _, _, _], _, h8 => simp at h8
  | [_, _, _, _, _, _], _, h8 => simp at h8
  | [_, _, _, _, _, _, _], _, h8 => simp at h8
  | x0 :: x1 :: x2 :: x3 :: x4 :: x5 :: x6 :: x7 :: r, hb, h8 =>
    have g : ∀ x, x ∈ [x0, x1, x2, x3, x4, x5, x6, x7] → isB8 x := fun x hx => hb x (by
      have : x0 :: x1 :: x2 :: x3 :: x4 :: x5 :: x6 :: x7 :: r = [x0, x1, x2, x3, x4, x5, x6, x7] ++ r := rfl
      rw [this]; exact List.mem_append_left _ hx)
    have b0 := g x0 (by simp)
    have b1 := g x1 (by simp)
    have b2 := g x2 (by simp)
    have b3 := g x3 (by simp)
    have b4 := g x4 (by simp)
    have b5 := g x5 (by simp)
    have b6 := g x6 (by simp)
    have b7 := g x7 (by simp)
    have hr : ∀ x ∈ r, isB8 x := fun x hx => hb x (by simp [hx])
    clear g hb h8 ho h
    obtain ⟨n0, rfl⟩ := Int.eq_ofNat_of_zero_le b0.1
    obtain ⟨n1, rfl⟩ := Int.eq_ofNat_of_zero_le b1.1
    obtain ⟨n2, rfl⟩ := Int.eq_ofNat_of_zero_le b2.1
    obtain ⟨n3, rfl⟩ := Int.eq_ofNat_of_zero_le b3.1
    obtain ⟨n4, rfl⟩ := Int.eq_ofNat_of_zero_le b4.1
    obtain ⟨n5, rfl⟩ := Int.eq_ofNat_of_zero_le b5.1
    obtain ⟨n6, rfl⟩ := Int.eq_ofNat_of_zero_le b6.1
    obtain ⟨n7, rfl⟩ := Int.eq_ofNat_of_zero_le b7.1
    have c0 : n0 < 256 := by have := b0.2; omega
    have c1 : n1 < 256 := by have := b1.2; omega
    have c2 : n2 < 256 := by have := b2.2; omega
    have c3 : n3 < 256 := by have := b3.2; omega
    have c4 : n4 < 256 := by have := b4.2; omega
    have c5 : n5 < 256 := by have := b5.2; omega
    have c6 : n6 < 256 := by have := b6.2; omega
    have c7 : n7 < 256 := by have := b7.2; omega
    have e1 := idR_eq ((n4 : Int) :: (n5 : Int) :: (n6 : Int) :: (n7 : Int) :: r) c0 c1 c2 c3
    have e2 := evR_eq (a0 := (n0 : Int)) (a1 := (n1 : Int)) (a2 := (n2 : Int)) (a3 := (n3 : Int)) ((n6 : Int) :: (n7 : Int) :: r) c4 c5
    have e3 := vlR_eq (a0 := (n0 : Int)) (a1 := (n1 : Int)) (a2 := (n2 : Int)) (a3 := (n3 : Int)) (a4 := (n4 : Int)) (a5 := (n5 : Int)) r c6 c7
    simp only
    rw [e1, e2, e3, nmX_eq, msgL_nat]
    have e4 : List.drop 8 ((n0 : Int) :: (n1 : Int) :: (n2 : Int) :: (n3 : Int) :: (n4 : Int) :: (n5 : Int) :: (n6 : Int) :: (n7 : Int) :: r) = r := rfl
    rw [e4, strL_of hr]
    have d0 : (n0 + n1 * 2 ^ 8 + n2 * 2 ^ 16 + n3 * 2 ^ 24) % 256 = n0 := by omega
    have d1 : (n0 + n1 * 2 ^ 8 + n2 * 2 ^ 16 + n3 * 2 ^ 24) / 2 ^ 8 % 256 = n1 := by omega
    have d2 : (n0 + n1 * 2 ^ 8 + n2 * 2 ^ 16 + n3 * 2 ^ 24) / 2 ^ 16 % 256 = n2 := by omega
    have d3 : (n0 + n1 * 2 ^ 8 + n2 * 2 ^ 16 + n3 * 2 ^ 24) / 2 ^ 24 % 256 = n3 := by omega
    have d4 : (n4 + n5 * 2 ^ 8) % 256 = n4 := by omega
    have d5 : (n4 + n5 * 2 ^ 8) / 2 ^ 8 % 256 = n5 := by omega
    have d6 : (n6 + n7 * 2 ^ 8) % 256 = n6 := by omega
    have d7 : (n6 + n7 * 2 ^ 8) / 2 ^ 8 % 256 = n7 := by omega
    rw [d0, d1, d2, d3, d4, d5, d6, d7]
end
end Go.Proofs.Ytgegagndihffpaa
