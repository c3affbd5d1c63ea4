/-
  Chapter 24: numbers in order: added, taken away; laws. Own work; nothing here is trusted.
-/
import Derived.Test.YtgepgnjjhgmfnaaCh24CtrV
namespace Go.Proofs.Ytgepgnjjhgmfnaa
open Go Go.Sx Go.RowKit
set_option maxRecDepth 1000000
set_option maxHeartbeats 8000000
set_option linter.unusedVariables false
set_option linter.unusedSimpArgs false
abbrev vR (n : Int) : List Int := [(2 : Int), ((1 : Int) - (0 : Int)) % (256 : Int), n % (256 : Int), shrV IntKind.i64 n (8 : Int) % (256 : Int)]
theorem vR_by {n : Int} (h0 : 0 ≤ n) (h1 : n < 4096) : byB (vR n) = true := by
  have a1 : 0 ≤ n % 256 ∧ n % 256 < 256 := by omega
  have a2 : 0 ≤ shrV IntKind.i64 n (8 : Int) % (256 : Int) ∧ shrV IntKind.i64 n (8 : Int) % (256 : Int) < 256 := by omega
  unfold byB
  simp only [List.all_cons, List.all_nil, Bool.and_true, decide_eq_true a1.1, decide_eq_true a1.2, decide_eq_true a2.1, decide_eq_true a2.2]
  rfl
theorem isV_add {n : Int} (h0 : 0 ≤ n) (h1 : n < 4096) : isV (vB n) = true := by
  show ((2 : Int) == 2 && ((((1 : Int) - 1) % 256 == 0 || ((1 : Int) - 1) % 256 == 1) && !decide ((4095 : Int) < nV [n % 256, shrV IntKind.i64 n 8 % 256]))) = true
  rw [nV_eq h0 h1, decide_eq_false (by omega)]; rfl
theorem isV_rem {n : Int} (h0 : 0 ≤ n) (h1 : n < 4096) : isV (vR n) = true := by
  show ((2 : Int) == 2 && ((((1 : Int) - 0) % 256 == 0 || ((1 : Int) - 0) % 256 == 1) && !decide ((4095 : Int) < nV [n % 256, shrV IntKind.i64 n 8 % 256]))) = true
  rw [nV_eq h0 h1, decide_eq_false (by omega)]; rfl
theorem wV_add {vl : List Int} {n : Int} (h0 : 0 ≤ n) (h1 : n < 4096) : wV vl (vB n) = addV vl n := by
  show sel (((1 : Int) - 1) % 256 == 0) (addV vl (nV [n % 256, shrV IntKind.i64 n 8 % 256])) (remV vl (nV [n % 256, shrV IntKind.i64 n 8 % 256])) = _
  rw [nV_eq h0 h1]; rfl
theorem wV_rem {vl : List Int} {n : Int} (h0 : 0 ≤ n) (h1 : n < 4096) : wV vl (vR n) = remV vl n := by
  show sel (((1 : Int) - 0) % 256 == 0) (addV vl (nV [n % 256, shrV IntKind.i64 n 8 % 256])) (remV vl (nV [n % 256, shrV IntKind.i64 n 8 % 256])) = _
  rw [nV_eq h0 h1]; rfl
/-! ### Numbers in order -/
def srtV (l : List Int) : Prop := l.Pairwise (· < ·) ∧ ∀ x ∈ l, 0 ≤ x ∧ x ≤ 4095
theorem elI_get {ts : List Int} {k : Nat} (h : k < ts.length) : elI ts (k : Int) = ts[k] := by
  show ts.getD k 0 = _
  rw [List.getD_eq_getElem?_getD, List.getElem?_eq_getElem h]; rfl
theorem getD_get {ts : List Int} {k : Nat} (h : k < ts.length) : ts.getD k 0 = ts[k] := by
  rw [List.getD_eq_getElem?_getD, List.getElem?_eq_getElem h]; rfl
theorem okV_iff {ts : List Int} : noneP (badV ts) ts.length = true ↔ srtV ts := by
  rw [noneP_iff]
  constructor
  · intro h
    have h1 : ∀ k (hk : k < ts.length), 0 ≤ ts[k] ∧ ts[k] ≤ 4095 ∧ ∀ hp : 0 < k, ts[k - 1]'(by omega) < ts[k] := fun k hk => by
      have := h k hk
      unfold badV at this
      rw [elI_get hk] at this
      simp only [Bool.or_eq_false_iff, Bool.and_eq_false_imp, decide_eq_true_eq, decide_eq_false_iff_not] at this
      obtain ⟨a, b, c⟩ := this
      refine ⟨by omega, by omega, fun hp => ?_⟩
      have h2 := c (by omega)
      have e : ((k : Int) - 1) = ((k - 1 : Nat) : Int) := by omega
      rw [e, elI_get (show k - 1 < ts.length by omega)] at h2
      omega
    refine ⟨List.pairwise_iff_getElem.2 fun i j hi hj hij => ?_, fun x hx => ?_⟩
    · have : ∀ d (hd : i + d + 1 < ts.length), ts[i] < ts[i + d + 1] := by
        intro d
        induction d with
        | zero => intro hd; exact (h1 (i + 0 + 1) hd).2.2 (by omega)
        | succ d ih =>
          intro hd
          have a := ih (by omega)
          have b := (h1 (i + (d + 1) + 1) hd).2.2 (by omega)
          have e : ts[i + (d + 1) + 1 - 1]'(by omega) = ts[i + d + 1] := by congr 1
          omega
      have h3 := this (j - i - 1) (by omega)
      have e : ts[i + (j - i - 1) + 1]'(by omega) = ts[j] := by congr 1; omega
      omega
    · obtain ⟨k, hk, rfl⟩ := List.getElem_of_mem hx
      exact ⟨(h1 k hk).1, (h1 k hk).2.1⟩
  · intro ⟨hp, hr⟩ k hk
    have a := hr _ (List.getElem_mem hk)
    unfold badV
    rw [elI_get hk, decide_eq_false (by omega), decide_eq_false (by omega)]
    by_cases h0 : 0 < k
    · have e : ((k : Int) - 1) = ((k - 1 : Nat) : Int) := by omega
      rw [e, elI_get (show k - 1 < ts.length by omega)]
      have := List.pairwise_iff_getElem.1 hp (k - 1) k (by omega) hk (by omega)
      rw [decide_eq_false (show ¬ ts[k] ≤ ts[k - 1] by omega)]
      cases decide (0 < (k : Int)) <;> rfl
    · rw [decide_eq_false (show ¬ (0 : Int) < (k : Int) by omega)]; rfl
theorem okF_iff {F : Fp} : okF F = true ↔ F.2.2.2.1.length ≤ 32 ∧ F.2.2.2.2.1.length ≤ 32 ∧ srtV F.2.2.2.2.2 := by
  unfold okF
  rw [← okV_iff]
  simp only [Bool.and_eq_true, Bool.not_eq_true', decide_eq_false_iff_not]
  exact ⟨fun ⟨a, b, c⟩ => ⟨by omega, by omega, c⟩, fun ⟨a, b, c⟩ => ⟨by omega, by omega, c⟩⟩
section
variable {ts : List Int} {x : Int}
theorem bs_mono (h : ts.Pairwise (· < ·)) : ∀ k l, k ≤ l → l < ts.length → ts.getD k 0 ≤ ts.getD l 0 := fun k l hkl hl => by
  rw [getD_get hl, getD_get (show k < ts.length by omega)]
  rcases Nat.lt_or_ge k l with h1 | h1
  · have := List.pairwise_iff_getElem.1 h k l (by omega) hl h1; omega
  · obtain rfl : k = l := by omega
    exact Int.le_refl _
theorem bs_at (h : ts.Pairwise (· < ·)) : (∀ k, k < bsI ts x → ts.getD k 0 < x) ∧ ∀ k, bsI ts x ≤ k → k < ts.length → x ≤ ts.getD k 0 :=
  bsN_spec ts x _ 0 _ (Nat.zero_le _) (Nat.le_refl _) (by omega) (bs_mono h) (fun k hk => absurd hk (Nat.not_lt_zero _)) (fun k h1 h2 => by omega)
theorem in_take (h : ts.Pairwise (· < ·)) {y : Int} (hy : y ∈ ts.take (bsI ts x)) : y < x := by
  obtain ⟨k, hk, rfl⟩ := List.getElem_of_mem hy
  rw [List.length_take] at hk
  have := (bs_at (x := x) h).1 k (by omega)
  rw [getD_get (show k < ts.length by omega)] at this
  rw [List.getElem_take]
  exact this
theorem in_drop (h : ts.Pairwise (· < ·)) {y : Int} (hy : y ∈ ts.drop (bsI ts x)) : x ≤ y := by
  obtain ⟨k, hk, rfl⟩ := List.getElem_of_mem hy
  rw [List.length_drop] at hk
  have := (bs_at (x := x) h).2 (bsI ts x + k) (by omega) (by omega)
  rw [getD_get (show bsI ts x + k < ts.length by omega)] at this
  rw [List.getElem_drop]
  exact this
theorem bsF_iff (h : ts.Pairwise (· < ·)) : bsF ts x = true ↔ x ∈ ts := by
  unfold bsF
  rw [Bool.and_eq_true, decide_eq_true_eq, beq_iff_eq]
  constructor
  · rintro ⟨h1, h2⟩
    rw [← h2, getD_get (show bsI ts x < ts.length by omega)]
    exact List.getElem_mem _
  · intro hx
    rw [← List.take_append_drop (bsI ts x) ts, List.mem_append] at hx
    rcases hx with hx | hx
    · exact absurd (in_take h hx) (Int.lt_irrefl _)
    · obtain ⟨k, hk, e⟩ := List.getElem_of_mem hx
      rw [List.length_drop] at hk
      rw [List.getElem_drop] at e
      have hlt : bsI ts x < ts.length := by omega
      refine ⟨by omega, ?_⟩
      have a := (bs_at (x := x) h).2 (bsI ts x) (Nat.le_refl _) hlt
      have b := bs_mono h (bsI ts x) (bsI ts x + k) (by omega) (by omega)
      rw [getD_get (show bsI ts x + k < ts.length by omega), e] at b
      omega
theorem bsZ_nat : (bsZ ts x).toNat = bsI ts x := by rw [bsZ_eq]; rfl
theorem mem_addV (h : ts.Pairwise (· < ·)) {y : Int} : y ∈ addV ts x ↔ y = x ∨ y ∈ ts := by
  unfold addV
  cases hb : bsF ts x with
  | true => exact ⟨.inr, fun h1 => h1.elim (fun e => by rw [e]; exact (bsF_iff h).1 hb) id⟩
  | false =>
    show y ∈ insL ts _ [x] ↔ _
    unfold insL
    rw [bsZ_nat, List.mem_append, List.mem_append, List.mem_singleton]
    constructor
    · rintro ((h1 | h1) | h1)
      · exact .inr (List.mem_of_mem_take h1)
      · exact .inl h1
      · exact .inr (List.mem_of_mem_drop h1)
    · rintro (h1 | h1)
      · exact .inl (.inr h1)
      · rw [← List.take_append_drop (bsI ts x) ts, List.mem_append] at h1
        exact h1.elim (fun h2 => .inl (.inl h2)) .inr
theorem pw_addV (h : ts.Pairwise (· < ·)) : (addV ts x).Pairwise (· < ·) := by
  unfold addV
  cases hb : bsF ts x with
  | true => exact h
  | false =>
    show (insL ts _ [x]).Pairwise _
    unfold insL
    rw [bsZ_nat, List.append_assoc]
    refine List.pairwise_append.2 ⟨h.sublist (List.take_sublist _ _), List.pairwise_cons.2 ⟨fun y hy => ?_, h.sublist (List.drop_sublist _ _)⟩, fun y hy z hz => ?_⟩
    · have h1 := in_drop h hy
      have h2 : y ≠ x := fun e => by
        have := (bsF_iff h).2 (show x ∈ ts from e ▸ List.mem_of_mem_drop hy)
        rw [hb] at this; cases this
      omega
    · have h1 := in_take h hy
      rcases List.mem_cons.1 hz with rfl | hz
      · exact h1
      · have := in_drop h hz; omega
theorem split_at_bs (h : ts.Pairwise (· < ·)) (hb : bsF ts x = true) : ts = ts.take (bsI ts x) ++ x :: ts.drop (bsI ts x + 1) := by
  unfold bsF at hb
  rw [Bool.and_eq_true, decide_eq_true_eq, beq_iff_eq] at hb
  have hlt : bsI ts x < ts.length := by omega
  have e : ts[bsI ts x] = x := by rw [← getD_get hlt]; exact hb.2
  have := List.drop_eq_getElem_cons hlt
  rw [e] at this
  rw [← this, List.take_append_drop]
theorem mem_remV (h : ts.Pairwise (· < ·)) {y : Int} : y ∈ remV ts x ↔ y ∈ ts ∧ y ≠ x := by
  unfold remV
  cases hb : bsF ts x with
  | false => exact ⟨fun h1 => ⟨h1, fun e => by have := (bsF_iff h).2 (e ▸ h1); rw [hb] at this; cases this⟩, fun h1 => h1.1⟩
  | true =>
    show y ∈ delL ts _ _ ↔ _
    unfold delL
    rw [bsZ_nat]
    have hs := split_at_bs h hb
    have h' := h
    rw [hs] at h'
    obtain ⟨_, h2, h3⟩ := List.pairwise_append.1 h'
    obtain ⟨h4, _⟩ := List.pairwise_cons.1 h2
    rw [List.mem_append]
    constructor
    · rintro (h1 | h1)
      · exact ⟨List.mem_of_mem_take h1, by have := h3 y h1 x List.mem_cons_self; omega⟩
      · exact ⟨List.mem_of_mem_drop h1, by have := h4 y h1; omega⟩
    · rintro ⟨h1, h5⟩
      rw [hs, List.mem_append, List.mem_cons] at h1
      exact h1.elim .inl fun h1 => h1.elim (fun e => absurd e h5) .inr
theorem pw_remV (h : ts.Pairwise (· < ·)) : (remV ts x).Pairwise (· < ·) := by
  unfold remV
  cases hb : bsF ts x with
  | false => exact h
  | true =>
    show (delL ts _ _).Pairwise _
    unfold delL
    rw [bsZ_nat]
    have h' := h
    rw [split_at_bs h hb] at h'
    obtain ⟨h1, h2, h3⟩ := List.pairwise_append.1 h'
    obtain ⟨h4, h5⟩ := List.pairwise_cons.1 h2
    exact List.pairwise_append.2 ⟨h1, h5, fun a ha b hb => h3 a ha b (List.mem_cons_of_mem _ hb)⟩
theorem len_addV : (addV ts x).length ≤ ts.length + 1 := by
  unfold addV
  cases bsF ts x with
  | true => exact Nat.le_succ _
  | false =>
    show (insL ts _ [x]).length ≤ _
    simp only [insL, List.length_append, List.length_take, List.length_drop, List.length_cons, List.length_nil]
    omega
theorem len_remV : (remV ts x).length ≤ ts.length := by
  unfold remV
  cases bsF ts x with
  | false => exact Nat.le_refl _
  | true =>
    show (delL ts _ _).length ≤ _
    simp only [delL, List.length_append, List.length_take, List.length_drop]
    omega
end
/-- Lists in order with the same members are the same. -/
theorem srt_uniq : ∀ {l m : List Int}, l.Pairwise (· < ·) → m.Pairwise (· < ·) → (∀ y, y ∈ l ↔ y ∈ m) → l = m
  | [], [], _, _, _ => rfl
  | [], y :: m, _, _, h => absurd ((h y).2 List.mem_cons_self) List.not_mem_nil
  | x :: l, [], _, _, h => absurd ((h x).1 List.mem_cons_self) List.not_mem_nil
  | x :: l, y :: m, hl, hm, h => by
    obtain ⟨h1, h2⟩ := List.pairwise_cons.1 hl
    obtain ⟨h3, h4⟩ := List.pairwise_cons.1 hm
    have e : x = y := by
      rcases List.mem_cons.1 ((h x).1 List.mem_cons_self) with e | e
      · exact e
      · rcases List.mem_cons.1 ((h y).2 List.mem_cons_self) with e' | e'
        · exact e'.symm
        · have := h3 x e; have := h1 y e'; omega
    subst e
    congr 1
    refine srt_uniq h2 h4 fun z => ⟨fun hz => ?_, fun hz => ?_⟩
    · rcases List.mem_cons.1 ((h z).1 (List.mem_cons_of_mem _ hz)) with e | e
      · have := h1 z hz; omega
      · exact e
    · rcases List.mem_cons.1 ((h z).2 (List.mem_cons_of_mem _ hz)) with e | e
      · have := h3 z hz; omega
      · exact e
theorem srt_addV {ts : List Int} {x : Int} (h : srtV ts) (h0 : 0 ≤ x) (h1 : x < 4096) : srtV (addV ts x) :=
  ⟨pw_addV h.1, fun y hy => ((mem_addV h.1).1 hy).elim (fun e => by omega) (h.2 y)⟩
theorem srt_remV {ts : List Int} {x : Int} (h : srtV ts) : srtV (remV ts x) := ⟨pw_remV h.1, fun y hy => h.2 y ((mem_remV h.1).1 hy).1⟩
theorem add_comm_V {ts : List Int} {x y : Int} (h : ts.Pairwise (· < ·)) : addV (addV ts x) y = addV (addV ts y) x :=
  srt_uniq (pw_addV (pw_addV h)) (pw_addV (pw_addV h)) fun z => by
    rw [mem_addV (pw_addV h), mem_addV h, mem_addV (pw_addV h), mem_addV h]
    exact ⟨fun h => h.elim (fun e => .inr (.inl e)) fun h => h.elim .inl fun h => .inr (.inr h), fun h => h.elim (fun e => .inr (.inl e)) fun h => h.elim .inl fun h => .inr (.inr h)⟩
end Go.Proofs.Ytgepgnjjhgmfnaa
