/-
  Chapter 11: laws of tokens, in plain Lean: what a list of tokens says of each; a run and the events of each token. Own work; nothing here is trusted.
-/
import Derived.Test.YtiaboemkgpkcpaaCh11RunT
namespace Go.Proofs.Ytiaboemkgpkcpaa
open Go Go.Sx Go.RowKit
set_option maxRecDepth 100000
set_option maxHeartbeats 2000000
set_option linter.unusedVariables false
set_option linter.unusedSimpArgs false
def vT (x : Tk) : Prop := 0 ≤ x.1 ∧ 1 ≤ x.2.1 ∧ x.2.1 ≤ 3 ∧ (x.2.1 ≠ 3 → x.2.2 = 0)
def srtT (l : List Tk) : Prop := l.Pairwise (fun a b => a.1 < b.1) ∧ ∀ x ∈ l, vT x
theorem badT_iff {ts : List Tk} {k : Nat} (hk : k < ts.length) : badT ts k = false ↔ vT ts[k] ∧ ∀ hp : 0 < k, (ts[k - 1]'(by omega)).1 < ts[k].1 := by
  unfold badT
  rw [elT_get hk]
  have hp : (decide ((0 : Int) < (k : Int)) && decide (ts[k].1 ≤ (elT ts ((k : Int) - 1)).1)) = false ↔ ∀ hp : 0 < k, (ts[k - 1]'(by omega)).1 < ts[k].1 := by
    by_cases h0 : 0 < k
    · have e : ((k : Int) - 1) = ((k - 1 : Nat) : Int) := by omega
      rw [e, elT_get (show k - 1 < ts.length by omega), decide_eq_true (show (0 : Int) < (k : Int) by omega), Bool.true_and, decide_eq_false_iff_not]
      exact ⟨fun h _ => by omega, fun h => by have := h h0; omega⟩
    · rw [decide_eq_false (show ¬ (0 : Int) < (k : Int) by omega), Bool.false_and]
      exact ⟨fun _ h => absurd h h0, fun _ => rfl⟩
  rw [← hp]
  unfold vT
  generalize (decide ((0 : Int) < (k : Int)) && decide (ts[k].1 ≤ (elT ts ((k : Int) - 1)).1)) = q
  generalize ts[k] = x
  obtain ⟨a, s, w⟩ := x
  simp only
  by_cases h1 : a < 0
  · rw [decide_eq_true h1, sel_true]; exact ⟨nofun, fun h => by omega⟩
  · rw [decide_eq_false h1, sel_false]
    cases q with
    | true => exact ⟨nofun, fun h => by cases h.2⟩
    | false =>
      rw [sel_false]
      by_cases h2 : s < 1
      · rw [decide_eq_true h2, sel_true]; exact ⟨nofun, fun h => by omega⟩
      · rw [decide_eq_false h2, sel_false]
        by_cases h3 : 3 < s
        · rw [decide_eq_true h3, sel_true]; exact ⟨nofun, fun h => by omega⟩
        · rw [decide_eq_false h3, sel_false]
          by_cases h4 : s = 3
          · rw [show (s != 3) = false by rw [h4]; rfl, Bool.false_and]
            exact ⟨fun _ => ⟨⟨by omega, by omega, by omega, fun h => absurd h4 h⟩, rfl⟩, fun _ => rfl⟩
          · rw [show (s != 3) = true from bne_iff_ne.2 h4, Bool.true_and]
            by_cases h5 : w = 0
            · rw [show (w != 0) = false by rw [h5]; rfl]
              exact ⟨fun _ => ⟨⟨by omega, by omega, by omega, fun _ => h5⟩, rfl⟩, fun _ => rfl⟩
            · rw [show (w != 0) = true from bne_iff_ne.2 h5]
              exact ⟨nofun, fun h => absurd (h.1.2.2.2 h4) h5⟩
theorem okT_iff {ts : List Tk} : okT ts = true ↔ srtT ts := by
  unfold okT
  rw [noneP_iff]
  constructor
  · intro h
    have h1 := fun k (hk : k < ts.length) => (badT_iff hk).1 (h k hk)
    refine ⟨List.pairwise_iff_getElem.2 fun i j hi hj hij => ?_, fun x hx => ?_⟩
    · have : ∀ d (hd : i + d + 1 < ts.length), ts[i].1 < ts[i + d + 1].1 := by
        intro d
        induction d with
        | zero => intro hd; exact (h1 (i + 0 + 1) hd).2 (by omega)
        | succ d ih =>
          intro hd
          have a := ih (by omega)
          have b := (h1 (i + (d + 1) + 1) hd).2 (by omega)
          have e : ts[i + (d + 1) + 1 - 1]'(by omega) = ts[i + d + 1] := by congr 1
          rw [e] at b
          omega
      have h3 := this (j - i - 1) (by omega)
      have e : ts[i + (j - i - 1) + 1]'(by omega) = ts[j] := by congr 1; omega
      rw [e] at h3
      exact h3
    · obtain ⟨k, hk, rfl⟩ := List.getElem_of_mem hx
      exact (h1 k hk).1
  · intro ⟨hp, hr⟩ k hk
    exact (badT_iff hk).2 ⟨hr _ (List.getElem_mem hk), fun h0 => List.pairwise_iff_getElem.1 hp (k - 1) k (by omega) hk (by omega)⟩
theorem keys_pw {ts : List Tk} (h : srtT ts) : (keys ts).Pairwise (· < ·) := List.pairwise_map.2 h.1
/-- A list where a token stands in it, or would stand. -/
theorem spl {ts : List Tk} (h : srtT ts) (x : Int) : ∃ A B, ts = A ++ B ∧ (bsZ ts x).toNat = A.length ∧ (∀ a ∈ A, a.1 < x) ∧
    ((fdB ts x = true ∧ ∃ s w C, B = (x, s, w) :: C ∧ ∀ c ∈ C, x < c.1) ∨ (fdB ts x = false ∧ ∀ b ∈ B, x < b.1)) := by
  have hp := keys_pw h
  have hle : bsI (keys ts) x ≤ ts.length := by have := bsI_le (keys ts) x; rwa [keys_len] at this
  have hA : ∀ a ∈ ts.take (bsI (keys ts) x), a.1 < x := fun a ha => in_take hp (by
    have : a.1 ∈ (ts.take (bsI (keys ts) x)).map (·.1) := List.mem_map_of_mem ha
    rwa [List.map_take] at this)
  have hB : ∀ b ∈ ts.drop (bsI (keys ts) x), x ≤ b.1 := fun b hb => in_drop hp (by
    have : b.1 ∈ (ts.drop (bsI (keys ts) x)).map (·.1) := List.mem_map_of_mem hb
    rwa [List.map_drop] at this)
  refine ⟨_, _, (List.take_append_drop (bsI (keys ts) x) ts).symm, ?_, hA, ?_⟩
  · rw [bsZ_eq, List.length_take, Nat.min_eq_left hle]; rfl
  · have hpd := h.1.sublist (List.drop_sublist (bsI (keys ts) x) ts)
    unfold fdB
    by_cases hlt : bsI (keys ts) x < ts.length
    · have hd := List.drop_eq_getElem_cons hlt
      rw [decide_eq_true (show ((bsI (keys ts) x : Nat) : Int) < (ts.length : Int) by omega), Bool.true_and]
      have hg : ts.getD (bsI (keys ts) x) tk0 = ts[bsI (keys ts) x] := by rw [List.getD_eq_getElem?_getD, List.getElem?_eq_getElem hlt]; rfl
      rw [hg]
      rw [hd] at hpd hB ⊢
      generalize ts[bsI (keys ts) x] = y at hpd hB ⊢
      obtain ⟨a, s, w⟩ := y
      have h1 := hB _ List.mem_cons_self
      obtain ⟨h2, _⟩ := List.pairwise_cons.1 hpd
      by_cases he : a = x
      · subst he
        exact .inl ⟨beq_self_eq_true _, s, w, _, rfl, h2⟩
      · refine .inr ⟨beq_eq_false_iff_ne.2 he, fun b hb => ?_⟩
        simp only at h1
        rcases List.mem_cons.1 hb with rfl | hb
        · show x < a; omega
        · have := h2 b hb; simp only at this; omega
    · rw [List.drop_eq_nil_iff.2 (by omega)]
      exact .inr ⟨by rw [decide_eq_false (show ¬ ((bsI (keys ts) x : Nat) : Int) < (ts.length : Int) by omega)]; rfl, fun b hb => by cases hb⟩
theorem getD_mid {A C : List Tk} {x : Tk} : (A ++ x :: C).getD A.length tk0 = x := by
  rw [List.getD_eq_getElem?_getD, List.getElem?_append_right (Nat.le_refl _), Nat.sub_self]; rfl
/-- What was where a token is, or is not. -/
theorem was_in {ts : List Tk} (h : srtT ts) {x s w : Int} : (x, s, w) ∈ ts ↔ was ts x = (s, w) ∧ s ≠ 0 := by
  obtain ⟨A, B, rfl, hz, hA, ⟨hf, s', w', C, rfl, hC⟩ | ⟨hf, hB⟩⟩ := spl h x
  · have hw : was (A ++ (x, s', w') :: C) x = (s', w') := by
      unfold was
      rw [hf, sel_true, hz, getD_mid]
    rw [hw]
    have hv := h.2 (x, s', w') (List.mem_append_right _ List.mem_cons_self)
    unfold vT at hv
    simp only at hv
    constructor
    · intro hm
      rcases List.mem_append.1 hm with hm | hm
      · have := hA _ hm; simp only at this; omega
      · rcases List.mem_cons.1 hm with e | hm
        · cases e; exact ⟨rfl, by omega⟩
        · have := hC _ hm; simp only at this; omega
    · rintro ⟨e, _⟩
      cases e
      exact List.mem_append_right _ List.mem_cons_self
  · have hw : was (A ++ B) x = (0, 0) := by unfold was; rw [hf]; rfl
    rw [hw]
    constructor
    · intro hm
      rcases List.mem_append.1 hm with hm | hm
      · have := hA _ hm; simp only at this; omega
      · have := hB _ hm; simp only at this; omega
    · rintro ⟨e, h0⟩
      cases e; exact absurd rfl h0
theorem was_st {ts : List Tk} (h : srtT ts) (x : Int) : was ts x = (0, 0) ∨ (1 ≤ (was ts x).1 ∧ (x, (was ts x).1, (was ts x).2) ∈ ts) := by
  obtain ⟨A, B, rfl, hz, hA, ⟨hf, s', w', C, rfl, hC⟩ | ⟨hf, hB⟩⟩ := spl h x
  · have hw : was (A ++ (x, s', w') :: C) x = (s', w') := by
      unfold was
      rw [hf, sel_true, hz, getD_mid]
    have hm : (x, s', w') ∈ A ++ (x, s', w') :: C := List.mem_append_right _ List.mem_cons_self
    have hv := h.2 _ hm
    unfold vT at hv
    simp only at hv
    rw [hw]
    exact .inr ⟨hv.2.1, hm⟩
  · exact .inl (by unfold was; rw [hf]; rfl)
theorem srtT_uniq : ∀ {l m : List Tk}, l.Pairwise (fun a b => a.1 < b.1) → m.Pairwise (fun a b => a.1 < b.1) → (∀ y, y ∈ l ↔ y ∈ m) → l = m
  | [], [], _, _, _ => rfl
  | [], y :: m, _, _, h => absurd ((h y).2 List.mem_cons_self) List.not_mem_nil
  | x :: l, [], _, _, h => absurd ((h x).1 List.mem_cons_self) List.not_mem_nil
  | x :: l, y :: m, hl, hm, h => by
    obtain ⟨h1, h2⟩ := List.pairwise_cons.1 hl
    obtain ⟨h3, h4⟩ := List.pairwise_cons.1 hm
    have e : x = y := by
      rcases List.mem_cons.1 ((h x).1 List.mem_cons_self) with e | e
      · exact e
      · rcases List.mem_cons.1 ((h y).2 List.mem_cons_self) with e' | e'
        · exact e'.symm
        · have := h3 x e; have := h1 y e'; omega
    subst e
    congr 1
    refine srtT_uniq h2 h4 fun z => ⟨fun hz => ?_, fun hz => ?_⟩
    · rcases List.mem_cons.1 ((h z).1 (List.mem_cons_of_mem _ hz)) with e | e
      · have := h1 z hz; rw [e] at this; omega
      · exact e
    · rcases List.mem_cons.1 ((h z).2 (List.mem_cons_of_mem _ hz)) with e | e
      · have := h3 z hz; rw [e] at this; omega
      · exact e
theorem was_uniq {ts us : List Tk} (h : srtT ts) (h' : srtT us) (he : ∀ x, was ts x = was us x) : ts = us :=
  srtT_uniq h.1 h'.1 fun ⟨x, s, w⟩ => by rw [was_in h, was_in h', he]
/-! ### One event -/
/-- What an event makes of a token. -/
def aft (e : Tk) : Int × Int := if e.1 = 4 then (0, 0) else (e.1, if e.1 = 3 then e.2.2 else 0)
def pst (p : Int × Int) (e : Tk) : Option (Int × Int) := if evB e = true ∧ e.1 = p.1 + 1 ∧ (e.1 = 4 → p.2 = e.2.2) then some (aft e) else none
theorem evB_iff {e : Tk} : evB e = true ↔ 1 ≤ e.1 ∧ e.1 ≤ 4 ∧ 0 ≤ e.2.1 ∧ (3 ≤ e.1 ∨ e.2.2 = 0) := by
  unfold evB
  simp only [Bool.and_eq_true, decide_eq_true_eq, Bool.or_eq_true, beq_iff_eq]
theorem acT_iff {ts : List Tk} {e : Tk} : acT ts e = true ↔ e.1 = (was ts e.2.1).1 + 1 ∧ (e.1 = 4 → (was ts e.2.1).2 = e.2.2) := by
  unfold acT
  rw [Bool.and_eq_true, beq_iff_eq, Bool.or_eq_true, Bool.not_eq_true', beq_eq_false_iff_ne, beq_iff_eq]
  constructor
  · rintro ⟨h1, h2⟩; exact ⟨h1, fun h => h2.elim (fun h' => absurd h h') id⟩
  · rintro ⟨h1, h2⟩; exact ⟨h1, by by_cases h : e.1 = 4; exact .inr (h2 h); exact .inl h⟩
theorem pst_some {ts : List Tk} {e : Tk} : (evB e = true ∧ acT ts e = true) ↔ pst (was ts e.2.1) e = some (aft e) := by
  unfold pst
  rw [acT_iff]
  constructor
  · rintro ⟨h1, h2, h3⟩; rw [if_pos ⟨h1, h2, h3⟩]
  · intro h
    split at h
    · rename_i h'; exact h'
    · cases h
theorem pst_none {ts : List Tk} {e : Tk} (h : ¬ (evB e = true ∧ acT ts e = true)) : pst (was ts e.2.1) e = none := by
  unfold pst
  rw [acT_iff] at h
  rw [if_neg h]
theorem set_mid {A C : List Tk} {x y : Tk} : (A ++ x :: C).set A.length y = A ++ y :: C := by
  induction A with
  | nil => rfl
  | cons a A ih => simp only [List.cons_append, List.length_cons, List.set_cons_succ, ih]
theorem nw_spec {ts : List Tk} (h : srtT ts) {e : Tk} (hev : evB e = true) (hac : acT ts e = true) : srtT (nwT ts e) ∧ ∀ x, was (nwT ts e) x = if x = e.2.1 then aft e else was ts x := by
  obtain ⟨k, t, w⟩ := e
  have hev := evB_iff.1 hev
  have hac := acT_iff.1 hac
  simp only at hev hac
  -- a list with the same tokens but this one, and what stands for it
  have key : ∀ l : List Tk, srtT l → (∀ y, y ∈ l ↔ (y ∈ ts ∧ y.1 ≠ t) ∨ (k ≠ 4 ∧ y = (t, aft (k, t, w)))) → ∀ x, was l x = if x = t then aft (k, t, w) else was ts x := fun l hl hm x => by
    by_cases hx : x = t
    · subst hx
      rw [if_pos rfl]
      by_cases hk : k = 4
      · have ha : aft (k, x, w) = (0, 0) := by unfold aft; rw [if_pos hk]
        rw [ha]
        rcases was_st hl x with h1 | ⟨_, h1⟩
        · exact h1
        · rcases (hm _).1 h1 with h2 | h2
          · exact absurd rfl h2.2
          · exact absurd hk h2.1
      · have h1 := (hm _).2 (.inr ⟨hk, rfl⟩)
        have h2 : (x, (aft (k, x, w)).1, (aft (k, x, w)).2) ∈ l := h1
        exact ((was_in hl).1 h2).1
    · rw [if_neg hx]
      rcases was_st h x with h1 | ⟨h0, h1⟩
      · rcases was_st hl x with h2 | ⟨h3, h2⟩
        · rw [h1, h2]
        · rcases (hm _).1 h2 with h4 | h4
          · have := (was_in h).1 h4.1
            rw [h1] at this
            have e := congrArg Prod.fst this.1
            simp only at e
            omega
          · exact absurd (congrArg Prod.fst h4.2) hx
      · have h2 := (hm _).2 (.inl ⟨h1, hx⟩)
        exact ((was_in hl).1 h2).1
  have hvn : k ≠ 4 → vT (t, aft (k, t, w)) := fun hk => by
    unfold vT aft
    rw [if_neg hk]
    refine ⟨hev.2.2.1, hev.1, by simp only; omega, fun h3 => ?_⟩
    simp only at h3 ⊢
    rw [if_neg h3]
  have haft : k ≠ 4 → (t, aft (k, t, w)) = (t, k, sel (k == 3) w 0) := fun hk => by
    unfold aft
    rw [if_neg hk]
    by_cases h3 : k = 3
    · subst h3; rfl
    · simp only [if_neg h3, beq_eq_false_iff_ne.2 h3]; rfl
  suffices hs : srtT (nwT ts (k, t, w)) ∧ (∀ y, y ∈ nwT ts (k, t, w) ↔ (y ∈ ts ∧ y.1 ≠ t) ∨ (k ≠ 4 ∧ y = (t, aft (k, t, w)))) from ⟨hs.1, key _ hs.1 hs.2⟩
  obtain ⟨A, B, rfl, hz, hA, hB⟩ := spl h t
  have hp := h.1
  have hpA := (List.pairwise_append.1 hp).1
  unfold nwT
  simp only
  by_cases hk : k = 4
  · subst hk
    rcases hB with ⟨hf, s', w', C, rfl, hC⟩ | ⟨hf, hB⟩
    · obtain ⟨p1, p2, p3⟩ := List.pairwise_append.1 hp
      obtain ⟨p4, p5⟩ := List.pairwise_cons.1 p2
      show srtT (delL _ _ _) ∧ ∀ y, y ∈ delL _ _ _ ↔ _
      unfold delL
      rw [hz, List.take_left, show (A ++ (t, s', w') :: C).drop (A.length + 1) = C by rw [← List.drop_drop, List.drop_left]; rfl]
      refine ⟨⟨List.pairwise_append.2 ⟨p1, p5, fun a ha b hb => p3 a ha b (List.mem_cons_of_mem _ hb)⟩, fun x hx => h.2 x ?_⟩, fun y => ?_⟩
      · rcases List.mem_append.1 hx with hx | hx
        · exact List.mem_append_left _ hx
        · exact List.mem_append_right _ (List.mem_cons_of_mem _ hx)
      · rw [List.mem_append, List.mem_append, List.mem_cons]
        constructor
        · rintro (hy | hy)
          · exact .inl ⟨.inl hy, by have := hA y hy; omega⟩
          · exact .inl ⟨.inr (.inr hy), by have := hC y hy; omega⟩
        · rintro (⟨hy | rfl | hy, hn⟩ | ⟨hn, _⟩)
          · exact .inl hy
          · exact absurd rfl hn
          · exact .inr hy
          · exact absurd rfl hn
    · exfalso
      have : was (A ++ B) t = (0, 0) := by unfold was; rw [hf]; rfl
      rw [this] at hac
      have := hac.1
      simp only at this
      omega
  · rw [show (k == 4) = false from beq_eq_false_iff_ne.2 hk, sel_false]
    have hv := hvn hk
    have ha := haft hk
    rw [← ha]
    generalize (t, aft (k, t, w)) = y0 at hv ha ⊢
    have hy0 : y0.1 = t := by rw [ha]
    rcases hB with ⟨hf, s', w', C, rfl, hC⟩ | ⟨hf, hB⟩
    · obtain ⟨p1, p2, p3⟩ := List.pairwise_append.1 hp
      obtain ⟨p4, p5⟩ := List.pairwise_cons.1 p2
      rw [hf, sel_true, hz, set_mid]
      refine ⟨⟨List.pairwise_append.2 ⟨p1, List.pairwise_cons.2 ⟨fun c hc => by have := hC c hc; omega, p5⟩, fun a haa b hb => ?_⟩, fun x hx => ?_⟩, fun y => ?_⟩
      · rcases List.mem_cons.1 hb with rfl | hb
        · have := hA a haa; omega
        · exact p3 a haa b (List.mem_cons_of_mem _ hb)
      · rcases List.mem_append.1 hx with hx | hx
        · exact h.2 x (List.mem_append_left _ hx)
        · rcases List.mem_cons.1 hx with rfl | hx
          · exact hv
          · exact h.2 x (List.mem_append_right _ (List.mem_cons_of_mem _ hx))
      · rw [List.mem_append, List.mem_append, List.mem_cons, List.mem_cons]
        constructor
        · rintro (hy | rfl | hy)
          · exact .inl ⟨.inl hy, by have := hA y hy; omega⟩
          · exact .inr ⟨hk, rfl⟩
          · exact .inl ⟨.inr (.inr hy), by have := hC y hy; omega⟩
        · rintro (⟨hy | rfl | hy, hn⟩ | ⟨_, rfl⟩)
          · exact .inl hy
          · exact absurd rfl hn
          · exact .inr (.inr hy)
          · exact .inr (.inl rfl)
    · obtain ⟨p1, p2, p3⟩ := List.pairwise_append.1 hp
      rw [hf, sel_false]
      show srtT (insL _ _ _) ∧ ∀ y, y ∈ insL _ _ _ ↔ _
      unfold insL
      rw [hz, List.take_left, List.drop_left, List.append_assoc]
      refine ⟨⟨List.pairwise_append.2 ⟨p1, List.pairwise_cons.2 ⟨fun c hc => by have := hB c hc; omega, p2⟩, fun a haa b hb => ?_⟩, fun x hx => ?_⟩, fun y => ?_⟩
      · rcases List.mem_cons.1 hb with rfl | hb
        · have := hA a haa; omega
        · exact p3 a haa b hb
      · rcases List.mem_append.1 hx with hx | hx
        · exact h.2 x (List.mem_append_left _ hx)
        · rcases List.mem_cons.1 hx with rfl | hx
          · exact hv
          · exact h.2 x (List.mem_append_right _ hx)
      · rw [List.mem_append, List.mem_append, List.mem_append, List.mem_singleton]
        constructor
        · rintro (hy | rfl | hy)
          · exact .inl ⟨.inl hy, by have := hA y hy; omega⟩
          · exact .inr ⟨hk, rfl⟩
          · exact .inl ⟨.inr hy, by have := hB y hy; omega⟩
        · rintro (⟨hy | hy, hn⟩ | ⟨_, rfl⟩)
          · exact .inl hy
          · exact .inr (.inr hy)
          · exact .inr (.inl rfl)
/-! ### Runs -/
/-- The events of a token, one after the other. -/
def prun : Int × Int → List Tk → Option (Int × Int)
  | p, [] => some p
  | p, e :: r => match pst p e with
    | some q => prun q r
    | none => none
abbrev ofT (x : Int) (es : List Tk) : List Tk := es.filter fun e => e.2.1 == x
theorem run_law : ∀ (es t : List Tk) (k : Nat), srtT t → ((goR es t k).2.2 = 0 ↔ ∀ x, (prun (was t x) (ofT x es)).isSome = true) ∧ ((goR es t k).2.2 = 0 → srtT (goR es t k).1 ∧ ∀ x, prun (was t x) (ofT x es) = some (was (goR es t k).1 x))
  | [], t, k, h => ⟨⟨fun _ _ => rfl, fun _ => rfl⟩, fun _ => ⟨h, fun _ => rfl⟩⟩
  | e :: r, t, k, h => by
    have hx : ∀ x, ofT x (e :: r) = if x = e.2.1 then e :: ofT x r else ofT x r := fun x => by
      unfold ofT
      rw [List.filter_cons]
      by_cases hx : x = e.2.1
      · rw [if_pos hx, hx, beq_self_eq_true]; rfl
      · rw [if_neg hx, beq_eq_false_iff_ne.2 (fun e => hx e.symm)]; rfl
    unfold goR
    rw [okT_iff.2 h, sel_true]
    by_cases ho : evB e = true ∧ acT t e = true
    · obtain ⟨h1, h2⟩ := nw_spec h ho.1 ho.2
      rw [ho.1, ho.2, sel_true, sel_true]
      have hs : ∀ x, prun (was t x) (ofT x (e :: r)) = prun (was (nwT t e) x) (ofT x r) := fun x => by
        rw [hx, h2]
        by_cases he : x = e.2.1
        · subst he
          rw [if_pos rfl, if_pos rfl]
          show (match pst (was t e.2.1) e with | some q => prun q _ | none => none) = _
          rw [pst_some.1 ho]
        · rw [if_neg he, if_neg he]
      obtain ⟨i1, i2⟩ := run_law r (nwT t e) (k + 1) h1
      refine ⟨i1.trans ⟨fun g x => by rw [hs]; exact g x, fun g x => by rw [← hs]; exact g x⟩, fun g => ⟨(i2 g).1, fun x => by rw [hs]; exact (i2 g).2 x⟩⟩
    · have hn : prun (was t e.2.1) (ofT e.2.1 (e :: r)) = none := by
        rw [hx, if_pos rfl]
        show (match pst (was t e.2.1) e with | some q => prun q _ | none => none) = _
        rw [pst_none ho]
      have hc : (sel (evB e) (sel (acT t e) (goR r (nwT t e) (k + 1)) (t, k, 8)) (t, k, 2)).2.2 ≠ 0 := by
        cases he : evB e with
        | false => exact (show ¬ (2 : Int) = 0 by decide)
        | true =>
          cases ha : acT t e with
          | false => exact (show ¬ (8 : Int) = 0 by decide)
          | true => exact absurd ⟨he, ha⟩ ho
      exact ⟨⟨fun g => absurd g hc, fun g => by have := g e.2.1; rw [hn] at this; cases this⟩, fun g => absurd g hc⟩
theorem srtT_nil : srtT [] := ⟨List.Pairwise.nil, nofun⟩
theorem was_nil (x : Int) : was [] x = (0, 0) := by unfold was; rw [fdB_nil]; rfl
/-- A run from nothing goes through just if the events of each token do. -/
theorem rC_iff {es : List Tk} : rC es = 0 ↔ ∀ x, (prun (0, 0) (ofT x es)).isSome = true := by
  rw [rC_eq, (run_law es [] 0 srtT_nil).1]
  simp only [was_nil]
theorem rT_spec {es : List Tk} (h : rC es = 0) : srtT (rT es) ∧ ∀ x, prun (0, 0) (ofT x es) = some (was (rT es) x) := by
  rw [rC_eq] at h
  have := (run_law es [] 0 srtT_nil).2 h
  simp only [was_nil] at this
  exact this
theorem go_take : ∀ (es t : List Tk) (k : Nat), (goR (es.take ((goR es t k).2.1 - k)) t k).2.2 = 0
  | [], t, k => by rw [List.take_nil]; rfl
  | e :: r, t, k => by
    have hk := goR_k r (nwT t e) (k + 1)
    have hG : goR (e :: r) t k = sel (okT t) (sel (evB e) (sel (acT t e) (goR r (nwT t e) (k + 1)) (t, k, 8)) (t, k, 2)) (t, k, 2) := rfl
    rw [hG]
    cases ho : okT t with
    | false => simp only [sel_false, Nat.sub_self, List.take_zero]; rfl
    | true =>
      cases he : evB e with
      | false => simp only [sel_true, sel_false, Nat.sub_self, List.take_zero]; rfl
      | true =>
        cases ha : acT t e with
        | false => simp only [sel_true, sel_false, Nat.sub_self, List.take_zero]; rfl
        | true =>
          simp only [sel_true]
          have ih := go_take r (nwT t e) (k + 1)
          generalize (goR r (nwT t e) (k + 1)).2.1 = n at hk ih ⊢
          have e1 : n - k = (n - (k + 1)) + 1 := by omega
          rw [e1, List.take_succ_cons]
          show (sel (okT t) (sel (evB e) (sel (acT t e) (goR _ (nwT t e) (k + 1)) (t, k, 8)) (t, k, 2)) (t, k, 2)).2.2 = 0
          rw [ho, he, ha]
          exact ih
/-- What went is run through. -/
theorem rC_take (es : List Tk) : rC (es.take (rK es).toNat) = 0 := by
  have := go_take es [] 0
  rw [rC_eq, rK_eq]
  exact this
theorem rT_len (es : List Tk) : (rT es).length ≤ es.length := by
  have : ∀ (es t : List Tk) (k : Nat), (goR es t k).1.length ≤ t.length + es.length := by
    intro es
    induction es with
    | nil => intro t k; exact Nat.le_refl _
    | cons e r ih =>
      intro t k
      have h1 := ih (nwT t e) (k + 1)
      have h2 := len_nwT t e
      unfold goR
      cases okT t <;> cases evB e <;> cases acT t e <;> simp only [sel_true, sel_false, List.length_cons] <;> omega
  have := this es [] 0
  rw [rT_eq]
  simpa using this
/-! ### TokenApart -/
theorem ofT_ofT (x y : Int) (es : List Tk) : ofT x (ofT y es) = if x = y then ofT y es else [] := by
  unfold ofT
  rw [List.filter_filter]
  by_cases h : x = y
  · subst h
    rw [if_pos rfl]
    simp only [Bool.and_self]
  · rw [if_neg h, List.filter_eq_nil_iff]
    intro e _
    simp only [Bool.and_eq_true, beq_iff_eq]
    rintro ⟨h1, h2⟩
    exact h (h1.symm.trans h2)
theorem one_ok {es : List Tk} (h : rC es = 0) (y : Int) : rC (ofT y es) = 0 := rC_iff.2 fun x => by
  rw [ofT_ofT]
  by_cases hx : x = y
  · rw [if_pos hx]; exact rC_iff.1 h y
  · rw [if_neg hx]; rfl
theorem one_st {es : List Tk} (h : rC es = 0) (y : Int) : stA (rT (ofT y es)) y = stA (rT es) y := by
  obtain ⟨s1, w1⟩ := rT_spec h
  obtain ⟨s2, w2⟩ := rT_spec (one_ok h y)
  have e1 := w1 y
  have e2 := w2 y
  rw [ofT_ofT, if_pos rfl, e1] at e2
  unfold stA
  rw [okT_iff.2 s1, okT_iff.2 s2, sel_true, sel_true, ← Option.some.inj e2]
theorem swap_of {A B : List Tk} {a b : Tk} (h : a.2.1 ≠ b.2.1) (x : Int) : ofT x (A ++ b :: a :: B) = ofT x (A ++ a :: b :: B) := by
  unfold ofT
  rw [List.filter_append, List.filter_append]
  congr 1
  simp only [List.filter_cons]
  by_cases h1 : a.2.1 = x
  · have h2 : ¬ b.2.1 = x := fun e => h (h1.trans e.symm)
    simp only [beq_iff_eq.2 h1, beq_eq_false_iff_ne.2 h2]
    rfl
  · simp only [beq_eq_false_iff_ne.2 h1]
    rfl
theorem swap_ok {A B : List Tk} {a b : Tk} (h : a.2.1 ≠ b.2.1) (hr : rC (A ++ a :: b :: B) = 0) : rC (A ++ b :: a :: B) = 0 ∧ rT (A ++ b :: a :: B) = rT (A ++ a :: b :: B) := by
  have h1 : rC (A ++ b :: a :: B) = 0 := rC_iff.2 fun x => by rw [swap_of h]; exact rC_iff.1 hr x
  refine ⟨h1, ?_⟩
  obtain ⟨s1, w1⟩ := rT_spec h1
  obtain ⟨s2, w2⟩ := rT_spec hr
  exact was_uniq s1 s2 fun x => by
    have e1 := w1 x
    rw [swap_of h, w2 x] at e1
    exact (Option.some.inj e1).symm
theorem swap_set {es : List Tk} {k : Nat} (hk : k + 1 < es.length) : ∃ A B a b, es = A ++ a :: b :: B ∧ es.getD k tk0 = a ∧ es.getD (k + 1) tk0 = b ∧ (es.set k b).set (k + 1) a = A ++ b :: a :: B := by
  refine ⟨es.take k, es.drop (k + 2), es[k], es[k + 1], ?_, ?_, ?_, ?_⟩
  · rw [← List.drop_eq_getElem_cons hk, ← List.drop_eq_getElem_cons (show k < es.length by omega), List.take_append_drop]
  · rw [List.getD_eq_getElem?_getD, List.getElem?_eq_getElem (show k < es.length by omega)]; rfl
  · rw [List.getD_eq_getElem?_getD, List.getElem?_eq_getElem hk]; rfl
  · have hl : (es.take k).length = k := by rw [List.length_take]; omega
    have he : es = es.take k ++ es[k] :: es[k + 1] :: es.drop (k + 2) := by
      rw [← List.drop_eq_getElem_cons hk, ← List.drop_eq_getElem_cons (show k < es.length by omega), List.take_append_drop]
    generalize es[k] = a at he ⊢
    generalize es[k + 1] = b at he ⊢
    generalize es.take k = A at he hl ⊢
    generalize es.drop (k + 2) = B at he ⊢
    subst he
    subst hl
    rw [set_mid]
    have : (A ++ b :: b :: B) = (A ++ [b]) ++ b :: B := by simp
    rw [this, show A.length + 1 = (A ++ [b]).length by simp, set_mid]
    simp
end Go.Proofs.Ytiaboemkgpkcpaa
