/-
  Chapter 11: TokenGoes, the plain law. Own work; nothing here is trusted.
-/
import Derived.Test.YtiaboemkgpkcpaaCh11Law
import Derived.Test.YtiaboemkgpkcpaaCh11Cnt
namespace Go.Proofs.Ytiaboemkgpkcpaa
open Go Go.Sx Go.RowKit
set_option maxHeartbeats 1000000
set_option linter.unusedVariables false
noncomputable section
theorem lkM_ins {M : List (Int × Int)} {k v : Int} : ∀ {x : Int}, lkM (insM M k v) x = if x = k then some v else lkM M x := by
  induction M with
  | nil =>
    intro x
    by_cases h : x = k
    · subst h; simp [insM, lkM]
    · simp [insM, lkM, h]
  | cons p M ih =>
    intro x
    obtain ⟨j, b⟩ := p
    by_cases hj : k = j
    · subst hj
      by_cases h : x = k
      · subst h; simp [insM, lkM]
      · simp [insM, lkM, h]
    · by_cases h : x = j
      · subst h; simp [insM, lkM, hj, Ne.symm hj]
      · simp [insM, lkM, hj, h, ih]
theorem lkZ_ins {M : List (Int × Int)} {k v x : Int} : lkZ (insM M k v) x = if x = k then v else lkZ M x := by
  unfold lkZ
  rw [lkM_ins]
  split <;> rfl
theorem insM_key {M : List (Int × Int)} {k v x : Int} : x ∈ (insM M k v).map (·.1) ↔ x = k ∨ x ∈ M.map (·.1) := by
  induction M with
  | nil => simp [insM]
  | cons p M ih =>
    obtain ⟨j, b⟩ := p
    by_cases hj : k = j
    · subst hj; simp [insM]
    · simp only [insM, decide_eq_false hj, List.map_cons, List.mem_cons, ih]
      constructor
      · rintro (h | h | h)
        · exact .inr (.inl h)
        · exact .inl h
        · exact .inr (.inr h)
      · rintro (h | h | h)
        · exact .inr (.inl h)
        · exact .inl h
        · exact .inr (.inr h)
theorem insM_nodup {k v : Int} : ∀ {M : List (Int × Int)}, (M.map (·.1)).Nodup → ((insM M k v).map (·.1)).Nodup
  | [], _ => by simp [insM]
  | (j, b) :: M, h => by
    obtain ⟨h1, h2⟩ := List.nodup_cons.1 h
    by_cases hj : k = j
    · subst hj; simpa [insM] using h
    · simp only [insM, decide_eq_false hj, List.map_cons]
      refine List.nodup_cons.2 ⟨fun hm => ?_, insM_nodup h2⟩
      rcases insM_key.1 hm with e | e
      · exact hj e.symm
      · exact h1 e
theorem insM_len {k v : Int} : ∀ (M : List (Int × Int)), (insM M k v).length ≤ M.length + 1
  | [] => Nat.le_refl _
  | (j, b) :: M => by
    have := insM_len (k := k) (v := v) M
    by_cases hj : k = j
    · subst hj; simp [insM]
    · simp only [insM, decide_eq_false hj, List.length_cons]; omega
theorem insM_mem {k v : Int} {p : Int × Int} : ∀ {M : List (Int × Int)}, p ∈ insM M k v → p = (k, v) ∨ p ∈ M
  | [], h => .inl (by simpa [insM] using h)
  | (j, b) :: M, h => by
    by_cases hj : k = j
    · subst hj
      simp only [insM, decide_true, List.mem_cons] at h
      rcases h with h | h
      · exact .inl h
      · exact .inr (List.mem_cons_of_mem _ h)
    · simp only [insM, decide_eq_false hj, List.mem_cons] at h
      rcases h with h | h
      · exact .inr (h ▸ List.mem_cons_self)
      · rcases insM_mem h with h | h
        · exact .inl h
        · exact .inr (List.mem_cons_of_mem _ h)
theorem lkM_mem {M : List (Int × Int)} (hn : (M.map (·.1)).Nodup) {x v : Int} : (x, v) ∈ M ↔ lkM M x = some v := by
  induction M with
  | nil => simp [lkM]
  | cons p M ih =>
    obtain ⟨j, b⟩ := p
    obtain ⟨h1, h2⟩ := List.nodup_cons.1 hn
    by_cases h : x = j
    · subst h
      simp only [lkM, decide_true, List.mem_cons, Prod.mk.injEq, true_and, Option.some.injEq]
      constructor
      · rintro (h | h)
        · exact h.symm
        · exact absurd (List.mem_map.2 ⟨_, h, rfl⟩) h1
      · exact fun h => .inl h.symm
    · simp only [lkM, decide_eq_false h, List.mem_cons, Prod.mk.injEq, h, false_and, false_or]
      exact ih h2
theorem sub_len : ∀ {l m : List Int}, l.Nodup → (∀ x ∈ l, x ∈ m) → l.length ≤ m.length
  | [], _, _, _ => Nat.zero_le _
  | x :: l, m, hn, h => by
    obtain ⟨h1, h2⟩ := List.nodup_cons.1 hn
    have hx := h x List.mem_cons_self
    have := sub_len (m := m.erase x) h2 fun y hy => (List.mem_erase_of_ne (fun (e : y = x) => h1 (e ▸ hy))).2 (h y (List.mem_cons_of_mem _ hy))
    rw [List.length_erase_of_mem hx] at this
    have := List.length_pos_of_mem hx
    simp only [List.length_cons]; omega
/-- What holds between the tokens and what was said of them. -/
structure JT (T : List Tk) (M W : List (Int × Int)) (n : Nat) : Prop where
  srt : srtT T
  st : ∀ x, (was T x).1 = (lkZ M x).tmod 4
  wr : ∀ x, (was T x).1 = 3 → (was T x).2 = lkZ W x
  vals : ∀ p ∈ M, 1 ≤ p.2 ∧ p.2 ≤ 4
  nodup : (M.map (·.1)).Nodup
  len : M.length ≤ n
theorem JT_nil : JT [] [] [] 0 where
  srt := srtT_nil
  st x := by rw [was_nil]; rfl
  wr x h := by rw [was_nil] at h; cases h
  vals p h := by cases h
  nodup := List.nodup_nil
  len := Nat.le_refl _
theorem was_rng {T : List Tk} (h : srtT T) (x : Int) : 0 ≤ (was T x).1 ∧ (was T x).1 ≤ 3 := by
  rcases was_st h x with e | ⟨e, hm⟩
  · rw [e]; exact ⟨Int.le_refl _, by decide⟩
  · have := h.2 _ hm
    unfold vT at this
    simp only at this
    omega
theorem JT_ok {T : List Tk} {M W : List (Int × Int)} {n : Nat} {e : Tk} (h : JT T M W n) (hev : evB e = true) (hac : acT T e = true) : okE M W e = true := by
  obtain ⟨h1, h2⟩ := acT_iff.1 hac
  obtain ⟨e1, e2, e3, e4⟩ := evB_iff.1 hev
  have r := was_rng h.srt e.2.1
  have s := h.st e.2.1
  unfold okE
  simp only [Bool.and_eq_true, decide_eq_true_eq, beq_iff_eq, Bool.or_eq_true, Bool.not_eq_true', beq_eq_false_iff_ne, decide_eq_false_iff_not]
  refine ⟨e3, inR64_mk (by omega), by omega, ?_, ?_⟩
  · by_cases h4 : e.1 = 4
    · exact .inr (by rw [← h2 h4, h.wr _ (by omega)])
    · exact .inl h4
  · by_cases h4 : e.1 ≤ 2
    · exact .inr (e4.resolve_left (by omega))
    · exact .inl h4
theorem JT_step {T : List Tk} {M W : List (Int × Int)} {n : Nat} {e : Tk} (h : JT T M W n) (hev : evB e = true) (hac : acT T e = true) : JT (nwT T e) (insM M e.2.1 e.1) (insM W e.2.1 e.2.2) (n + 1) := by
  obtain ⟨h1, h2⟩ := nw_spec h.srt hev hac
  obtain ⟨e1, e2, e3, e4⟩ := evB_iff.1 hev
  refine ⟨h1, fun x => ?_, fun x hx => ?_, fun p hp => ?_, insM_nodup h.nodup, Nat.le_trans (insM_len _) (by have := h.len; omega)⟩
  · rw [h2, lkZ_ins]
    split
    · unfold aft
      split
      · rename_i h4; rw [h4]; rfl
      · show e.1 = _
        exact (Int.tmod_eq_of_lt (by omega) (by omega)).symm
    · exact h.st x
  · rw [h2] at hx ⊢
    rw [lkZ_ins]
    split
    · rename_i hc
      rw [if_pos hc] at hx
      unfold aft at hx ⊢
      split
      · rename_i h4; rw [if_pos h4] at hx; cases hx
      · rename_i h4
        rw [if_neg h4] at hx
        have hx : e.1 = 3 := hx
        show (if e.1 = 3 then e.2.2 else 0) = _
        rw [if_pos hx]
    · rename_i hc
      rw [if_neg hc] at hx
      exact h.wr x hx
  · rcases insM_mem hp with e | e
    · subst e; exact ⟨e1, e2⟩
    · exact h.vals p e
theorem okS_step {es : List Tk} {k : Nat} (h : okS es k = true) (ho : okE (mwS es k).1 (mwS es k).2 (elT es (k : Int)) = true) : okS es (k + 1) = true := by
  unfold okS at h ⊢
  rw [List.range_succ, List.all_append, h, Bool.true_and]
  simp only [List.all_cons, List.all_nil, Bool.and_true]
  exact ho
theorem okS_zero (es : List Tk) : okS es 0 = true := rfl
/-- A run, and what was said along it. -/
structure GoS (es : List Tk) (T : List Tk) (n : Nat) : Prop where
  ok : okS es n = true
  j : JT T (mwS es n).1 (mwS es n).2 n
theorem go_law {es : List Tk} : ∀ (r pre T : List Tk), es = pre ++ r → GoS es T pre.length →
    GoS es (goR r T pre.length).1 (goR r T pre.length).2.1 ∧ ((goR r T pre.length).2.2 = 0 → (goR r T pre.length).2.1 = es.length) ∧
    ((goR r T pre.length).2.2 ≠ 0 → (goR r T pre.length).2.1 < es.length ∧
      ((((goR r T pre.length).2.2 = 2 ∧ evB (elT es ((goR r T pre.length).2.1 : Int)) = false)) ∨ ((goR r T pre.length).2.2 = 8 ∧ evB (elT es ((goR r T pre.length).2.1 : Int)) = true ∧ acT (goR r T pre.length).1 (elT es ((goR r T pre.length).2.1 : Int)) = false)))
  | [], pre, T, he, h => ⟨h, fun _ => by rw [he, List.append_nil]; rfl, fun h => absurd rfl h⟩
  | e :: r, pre, T, he, h => by
    have hk : pre.length < es.length := by rw [he, List.length_append, List.length_cons]; omega
    have hel : elT es (pre.length : Int) = e := by
      rw [elT_get hk]
      simp only [he]
      rw [List.getElem_append_right (Nat.le_refl _)]
      simp
    unfold goR
    rw [okT_iff.2 h.j.srt, sel_true]
    cases hev : evB e with
    | false => exact ⟨h, nofun, fun _ => ⟨hk, .inl ⟨rfl, by rw [sel_false]; show evB (elT es (pre.length : Int)) = false; rw [hel]; exact hev⟩⟩⟩
    | true =>
      rw [sel_true]
      cases hac : acT T e with
      | false => exact ⟨h, nofun, fun _ => ⟨hk, .inr ⟨rfl, by rw [sel_false]; show evB (elT es (pre.length : Int)) = true; rw [hel]; exact hev, by rw [sel_false]; show acT T (elT es (pre.length : Int)) = false; rw [hel]; exact hac⟩⟩⟩
      | true =>
        rw [sel_true]
        have hn : pre.length + 1 = (pre ++ [e]).length := by simp
        rw [hn]
        refine go_law r (pre ++ [e]) (nwT T e) (by rw [he, List.append_assoc]; rfl) ?_
        rw [← hn]
        refine ⟨okS_step h.ok (by rw [hel]; exact JT_ok h.j hev hac), ?_⟩
        have := JT_step h.j hev hac
        rw [← hel] at this ⊢
        exact this
theorem run_go (es : List Tk) : GoS es (rT es) (rK es).toNat ∧ 0 ≤ rK es ∧ (rC es = 0 → (rK es).toNat = es.length) ∧
    (rC es ≠ 0 → (rK es).toNat < es.length ∧ ((rC es = 2 ∧ evB (elT es (rK es)) = false) ∨ (rC es = 8 ∧ evB (elT es (rK es)) = true ∧ acT (rT es) (elT es (rK es)) = false))) := by
  have h := go_law es [] [] rfl (es := es) ⟨okS_zero es, JT_nil⟩
  exact ⟨h.1, Int.natCast_nonneg _, h.2.1, h.2.2⟩
/-! ### Counts -/
theorem JT_len {T : List Tk} {M W : List (Int × Int)} {n : Nat} (h : JT T M W n) : (T.length : Int) = cntG M := by
  unfold cntG
  have hT : (T.map (·.1)).Nodup := by
    refine List.Pairwise.imp ?_ (List.pairwise_map.2 h.srt.1)
    intro a b hab; omega
  have hM : ((M.filter fun p => p.2.tmod 4 != 0).map (·.1)).Nodup := h.nodup.sublist (List.Sublist.map _ List.filter_sublist)
  have key : ∀ x, x ∈ T.map (·.1) ↔ x ∈ (M.filter fun p => p.2.tmod 4 != 0).map (·.1) := by
    intro x
    constructor
    · intro hx
      obtain ⟨⟨y, s, w⟩, hy, rfl⟩ := List.mem_map.1 hx
      obtain ⟨h1, h2⟩ := (was_in h.srt).1 hy
      have h3 := h.st y
      rw [h1] at h3
      have h3 : s = (lkZ M y).tmod 4 := h3
      cases hl : lkM M y with
      | none => unfold lkZ at h3; rw [hl] at h3; exact absurd h3 h2
      | some v =>
        unfold lkZ at h3; rw [hl] at h3
        refine List.mem_map.2 ⟨(y, v), List.mem_filter.2 ⟨(lkM_mem h.nodup).2 hl, ?_⟩, rfl⟩
        rw [bne_iff_ne]
        exact fun h4 => h2 (h3.trans h4)
    · intro hx
      obtain ⟨⟨y, v⟩, hy, rfl⟩ := List.mem_map.1 hx
      obtain ⟨h1, h2⟩ := List.mem_filter.1 hy
      have hl := (lkM_mem h.nodup).1 h1
      rw [bne_iff_ne] at h2
      have h3 := h.st y
      unfold lkZ at h3; rw [hl] at h3
      have h4 : (was T y).1 ≠ 0 := by rw [h3]; exact h2
      exact List.mem_map.2 ⟨_, (was_in h.srt).2 ⟨rfl, h4⟩, rfl⟩
  have h1 := sub_len hT fun x hx => (key x).1 hx
  have h2 := sub_len hM fun x hx => (key x).2 hx
  simp only [List.length_map] at h1 h2
  omega
theorem stA_was {T : List Tk} (h : srtT T) (x : Int) : stA T x = (was T x).1 := by unfold stA; rw [okT_iff.2 h]; rfl
theorem JT_goM {T : List Tk} {M W : List (Int × Int)} {n : Nat} (h : JT T M W n) (hT : T.length ≤ 100000) (hn : n ≤ 100000) : goM T M = true := by
  unfold goM
  rw [decide_eq_true hT, decide_eq_true (Nat.le_trans h.len hn), Bool.true_and, Bool.true_and]
  refine List.all_eq_true.2 fun ⟨x, v⟩ hp => ?_
  rw [beq_iff_eq, stA_was h.srt, h.st]
  unfold lkZ
  rw [(lkM_mem h.nodup).1 hp]
  rfl
theorem alS_all (T : List Tk) (s : Int) : (alS T s T.length).length = (T.filter fun x => x.2.1 == s).length := by
  unfold alS
  rw [List.take_length, List.length_map]
theorem cnt3 : ∀ (T : List Tk), (∀ x ∈ T, 1 ≤ x.2.1 ∧ x.2.1 ≤ 3) → (T.filter fun x => x.2.1 == 1).length + (T.filter fun x => x.2.1 == 2).length + (T.filter fun x => x.2.1 == 3).length = T.length
  | [], _ => rfl
  | x :: T, h => by
    have ih := cnt3 T fun y hy => h y (List.mem_cons_of_mem _ hy)
    have hx := h x List.mem_cons_self
    have : x.2.1 = 1 ∨ x.2.1 = 2 ∨ x.2.1 = 3 := by omega
    rcases this with e | e | e <;> simp [List.filter_cons, e] <;> omega
theorem cnZ_ok {T : List Tk} (h : srtT T) {s : Int} (hs : s ≠ 0) : cnZ T s = ((T.filter fun x => x.2.1 == s).length : Int) := by
  unfold cnZ
  rw [okT_iff.2 h, beq_eq_false_iff_ne.2 hs, alS_all]
  rfl
theorem cnZ_sum {T : List Tk} (h : srtT T) : cnZ T 1 + cnZ T 2 + cnZ T 3 = (T.length : Int) := by
  rw [cnZ_ok h (by decide), cnZ_ok h (by decide), cnZ_ok h (by decide)]
  have := cnt3 T fun x hx => by
    have := h.2 x hx
    unfold vT at this
    omega
  omega
theorem cnZ_pos {T : List Tk} (h : srtT T) {s : Int} (hs : s ≠ 0) : 0 ≤ cnZ T s := by rw [cnZ_ok h hs]; exact Int.natCast_nonneg _
end
end Go.Proofs.Ytiaboemkgpkcpaa
