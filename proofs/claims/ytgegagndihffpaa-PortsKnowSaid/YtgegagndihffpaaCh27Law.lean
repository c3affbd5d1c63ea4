/-
  Chapter 27: the plain law of lists of ports. Own work; nothing here is trusted.
-/
import Derived.Test.YtgegagndihffpaaCh27Acts
namespace Go.Proofs.Ytgegagndihffpaa
open Go Go.Sx Go.RowKit
set_option maxRecDepth 1000000
set_option maxHeartbeats 8000000
set_option linter.unusedVariables false
set_option linter.unusedSimpArgs false
noncomputable section
/-- Ports in order. -/
abbrev Srt (ts : List Pt) : Prop := ts.Pairwise fun a b => a.1 < b.1
/-- What is asked of one port. -/
def okE (most : Int) (rdy : Bool) (x : Pt) : Prop := 0 ≤ x.1 ∧ x.1 < most ∧ x.2.1.size ≤ 64 ∧ (x.2.2.2.2.2 = true → rdy = true) ∧ (x.2.2.2.2.1 = true → x.2.2.2.2.2 = true)
theorem elP_nat {ts : List Pt} {k : Nat} (h : k < ts.length) : elP ts (k : Int) = ts[k]'h := by
  show ts.getD k _ = _
  rw [List.getD_eq_getElem?_getD, List.getElem?_eq_getElem h]; rfl
theorem srt_of_adj : ∀ {ts : List Pt}, (∀ k (h : k + 1 < ts.length), (ts[k]'(by omega)).1 < (ts[k + 1]'h).1) → Srt ts
  | [], _ => .nil
  | [x], _ => List.pairwise_cons.2 ⟨fun z hz => (by cases hz), .nil⟩
  | x :: y :: r, h => by
    have ih : Srt (y :: r) := srt_of_adj (fun k hk => h (k + 1) (by simpa using hk))
    refine List.pairwise_cons.2 ⟨fun z hz => ?_, ih⟩
    have h0 : x.1 < y.1 := h 0 (by simp)
    rcases List.mem_cons.1 hz with rfl | hz
    · exact h0
    · exact Int.lt_trans h0 ((List.pairwise_cons.1 ih).1 z hz)
theorem okAt_iff {most : Int} {rdy : Bool} {ts : List Pt} {k : Nat} (hk : k < ts.length) : okAt most rdy ts k = true ↔ okE most rdy (ts[k]'hk) ∧ ∀ j, (hj : j + 1 = k) → (ts[j]'(by omega)).1 < (ts[k]'hk).1 := by
  unfold okAt okE
  rw [elP_nat hk]
  cases k with
  | zero =>
    generalize ts[0] = x
    obtain ⟨a, b, c, d, e, f⟩ := x
    cases e <;> cases f <;> cases rdy <;> simp <;> omega
  | succ j =>
    have e1 : elP ts (((j + 1 : Nat) : Int) - 1) = ts[j]'(by omega) := by
      rw [show ((j + 1 : Nat) : Int) - 1 = (j : Int) by omega]; exact elP_nat (by omega)
    rw [e1]
    have e2 : (∀ i, (hj : i + 1 = j + 1) → (ts[i]'(by omega)).1 < (ts[j + 1]'hk).1) ↔ (ts[j]'(by omega)).1 < (ts[j + 1]'hk).1 := by
      constructor
      · exact fun h => h j rfl
      · intro h i hi
        obtain rfl : i = j := by omega
        exact h
    rw [e2]
    generalize ts[j + 1] = x
    generalize (ts[j]'(by omega)) = y
    obtain ⟨a, b, c, d, e, f⟩ := x
    have e3 : decide (0 < ((j + 1 : Nat) : Int)) = true := decide_eq_true (by omega)
    rw [e3]
    cases e <;> cases f <;> cases rdy <;> simp <;> omega
theorem okAll_iff {most : Int} {rdy : Bool} {ts : List Pt} : okAll most rdy ts = true ↔ Srt ts ∧ ∀ x ∈ ts, okE most rdy x := by
  unfold okAll
  rw [List.all_eq_true]
  constructor
  · intro h
    have h' : ∀ k (hk : k < ts.length), okAt most rdy ts k = true := fun k hk => h k (List.mem_range.2 hk)
    refine ⟨srt_of_adj fun k hk => ((okAt_iff hk).1 (h' _ hk)).2 k rfl, fun x hx => ?_⟩
    obtain ⟨k, hk, rfl⟩ := List.getElem_of_mem hx
    exact ((okAt_iff hk).1 (h' _ hk)).1
  · rintro ⟨h1, h2⟩ k hk
    have hk := List.mem_range.1 hk
    refine (okAt_iff hk).2 ⟨h2 _ (List.getElem_mem hk), fun j hj => ?_⟩
    exact List.pairwise_iff_getElem.1 h1 j k (by omega) hk (by omega)
theorem okP_iff {most : Int} {rdy : Bool} {ts : List Pt} : okP most rdy ts = true ↔ (1 ≤ most ∧ most ≤ 32) ∧ Srt ts ∧ ∀ x ∈ ts, okE most rdy x := by
  unfold okP
  rw [Bool.and_eq_true, Bool.and_eq_true, okAll_iff]
  simp only [Bool.not_eq_true', decide_eq_false_iff_not]
  constructor
  · rintro ⟨h1, h2, h3⟩
    exact ⟨⟨by omega, by omega⟩, h3⟩
  · rintro ⟨⟨h1, h2⟩, h3⟩
    exact ⟨by omega, by omega, h3⟩
/-- There are few of them. -/
theorem srt_len : ∀ {ts : List Pt} {lo hi : Int}, Srt ts → (∀ x ∈ ts, lo ≤ x.1 ∧ x.1 < hi) → lo ≤ hi → (ts.length : Int) ≤ hi - lo
  | [], lo, hi, _, _, h => by simp; omega
  | x :: r, lo, hi, hs, hx, h => by
    obtain ⟨h1, h2⟩ := List.pairwise_cons.1 hs
    have hx0 := hx x List.mem_cons_self
    have := srt_len (lo := x.1 + 1) (hi := hi) h2 (fun y hy => ⟨by have := h1 y hy; omega, (hx y (List.mem_cons_of_mem _ hy)).2⟩) (by omega)
    simp; omega
theorem okP_len {most : Int} {rdy : Bool} {ts : List Pt} (h : okP most rdy ts = true) : ts.length ≤ 32 := by
  obtain ⟨⟨h1, h2⟩, hs, hx⟩ := okP_iff.1 h
  have := srt_len (lo := 0) (hi := most) hs (fun x hm => ⟨(hx x hm).1, (hx x hm).2.1⟩) (by omega)
  omega
/-! ### where a port stands -/
theorem at_none {ts : List Pt} {id : Int} (h : ∀ x ∈ ts, x.1 ≠ id) : atI ts id = -1 := by
  unfold atI
  rw [noneP_iff.2 (fun k hk => by
    show ((elP ts k).1 == id) = false
    rw [elP_nat hk]
    exact beq_eq_false_iff_ne.2 (h _ (List.getElem_mem hk)))]
theorem at_some {l r : List Pt} {x : Pt} {id : Int} (hx : x.1 = id) (h : ∀ y ∈ l, y.1 ≠ id) : atI (l ++ x :: r) id = (l.length : Int) := by
  have hn : l.length < (l ++ x :: r).length := by simp
  have hp : isI (l ++ x :: r) id l.length = true := by
    show ((elP (l ++ x :: r) (l.length : Int)).1 == id) = true
    rw [elP_nat hn]
    simp [hx]
  have hj : ∀ j, j < l.length → isI (l ++ x :: r) id j = false := fun j hj => by
    show ((elP (l ++ x :: r) (j : Int)).1 == id) = false
    rw [elP_nat (show j < (l ++ x :: r).length by simp; omega), List.getElem_append_left hj]
    exact beq_eq_false_iff_ne.2 (h _ (List.getElem_mem hj))
  unfold atI
  rw [noneP_off hn hp, fstP_of hn hp hj]
theorem at_cases : ∀ (ts : List Pt) (id : Int), (∀ x ∈ ts, x.1 ≠ id) ∨ ∃ l x r, ts = l ++ x :: r ∧ x.1 = id ∧ ∀ y ∈ l, y.1 ≠ id
  | [], id => .inl (fun _ h => by cases h)
  | x :: r, id => by
    by_cases hx : x.1 = id
    · exact .inr ⟨[], x, r, rfl, hx, fun _ h => by cases h⟩
    · rcases at_cases r id with h | ⟨l, y, r', rfl, h1, h2⟩
      · refine .inl fun y hy => ?_
        rcases List.mem_cons.1 hy with rfl | hy
        · exact hx
        · exact h y hy
      · refine .inr ⟨x :: l, y, r', rfl, h1, fun z hz => ?_⟩
        rcases List.mem_cons.1 hz with rfl | hz
        · exact hx
        · exact h2 z hz
theorem in_at {l r : List Pt} {a : Int} (hl : ∀ y ∈ l, y.1 ≤ a) (hr : ∀ y ∈ r, a < y.1) : inAt (l ++ r) a = l.length := by
  have hj : ∀ j, j < l.length → isB (l ++ r) a j = false := fun j hj => by
    show decide (a < (elP (l ++ r) (j : Int)).1) = false
    rw [elP_nat (show j < (l ++ r).length by simp; omega), List.getElem_append_left hj]
    exact decide_eq_false (by have := hl _ (List.getElem_mem hj); omega)
  unfold inAt
  cases r with
  | nil =>
    rw [noneP_iff.2 (fun k hk => hj k (by simpa using hk))]
    simp
  | cons x r =>
    have hn : l.length < (l ++ x :: r).length := by simp
    have hp : isB (l ++ x :: r) a l.length = true := by
      show decide (a < (elP (l ++ x :: r) (l.length : Int)).1) = true
      rw [elP_nat hn]
      simpa using hr x List.mem_cons_self
    rw [noneP_off hn hp, fstP_of hn hp hj]
theorem in_cases : ∀ {ts : List Pt} (a : Int), Srt ts → (∀ x ∈ ts, x.1 ≠ a) → ∃ l r, ts = l ++ r ∧ (∀ y ∈ l, y.1 < a) ∧ ∀ y ∈ r, a < y.1
  | [], a, _, _ => ⟨[], [], rfl, (fun _ h => by cases h), fun _ h => by cases h⟩
  | x :: r, a, hs, hn => by
    obtain ⟨h1, h2⟩ := List.pairwise_cons.1 hs
    have hx := hn x List.mem_cons_self
    by_cases hlt : x.1 < a
    · obtain ⟨l, r', rfl, h3, h4⟩ := in_cases a h2 (fun y hy => hn y (List.mem_cons_of_mem _ hy))
      refine ⟨x :: l, r', rfl, fun y hy => ?_, h4⟩
      rcases List.mem_cons.1 hy with rfl | hy
      · exact hlt
      · exact h3 y hy
    · refine ⟨[], x :: r, rfl, (fun _ h => by cases h), fun y hy => ?_⟩
      rcases List.mem_cons.1 hy with rfl | hy
      · omega
      · have := h1 y hy; omega
theorem ins_mid {α : Type} (l r : List α) (x : α) : insL (l ++ r) l.length [x] = l ++ x :: r := by
  unfold insL; rw [List.take_left' rfl, List.drop_left' rfl]; simp
theorem del_mid {α : Type} (l r : List α) (x : α) : delL (l ++ x :: r) l.length (l.length + 1) = l ++ r := by
  unfold delL
  rw [List.take_left' rfl, show l ++ x :: r = (l ++ [x]) ++ r by simp, List.drop_left' (by simp)]
theorem set_mid {α : Type} (l r : List α) (x y : α) : (l ++ x :: r).set l.length y = l ++ y :: r := by
  rw [List.set_append_right _ _ (Nat.le_refl _), Nat.sub_self]; rfl
theorem get_mid {α : Type} (l r : List α) (x d : α) : (l ++ x :: r).getD l.length d = x := by
  rw [List.getD_eq_getElem?_getD, List.getElem?_append_right (Nat.le_refl _), Nat.sub_self]; rfl
theorem srt_mid {l r : List Pt} {x : Pt} : Srt (l ++ x :: r) ↔ Srt (l ++ r) ∧ (∀ y ∈ l, y.1 < x.1) ∧ ∀ y ∈ r, x.1 < y.1 := by
  unfold Srt
  rw [List.pairwise_append, List.pairwise_append, List.pairwise_cons]
  constructor
  · rintro ⟨h1, ⟨h2, h3⟩, h4⟩
    exact ⟨⟨h1, h3, fun a ha b hb => h4 a ha b (List.mem_cons_of_mem _ hb)⟩, fun y hy => h4 y hy x List.mem_cons_self, h2⟩
  · rintro ⟨⟨h1, h3, h4⟩, h5, h2⟩
    refine ⟨h1, ⟨h2, h3⟩, fun a ha b hb => ?_⟩
    rcases List.mem_cons.1 hb with rfl | hb
    · exact h5 a ha
    · exact h4 a ha b hb
theorem mem_mid {α : Type} {l r : List α} {x y : α} : y ∈ l ++ x :: r ↔ y = x ∨ y ∈ l ++ r := by
  simp only [List.mem_append, List.mem_cons]
  constructor
  · rintro (h | h | h)
    · exact .inr (.inl h)
    · exact .inl h
    · exact .inr (.inr h)
  · rintro (h | h | h)
    · exact .inr (.inl h)
    · exact .inl h
    · exact .inr (.inr h)
/-! ### messages heard -/
def conE (x : Pt) : Pt := (x.1, x.2.1, true, x.2.2.2.1, x.2.2.2.2.1, x.2.2.2.2.2)
def namE (x : Pt) (s : ByteArray) : Pt := (x.1, s, x.2.2.1, x.2.2.2.1, x.2.2.2.2.1, x.2.2.2.2.2)
def hosE (x : Pt) (b : Bool) : Pt := (x.1, x.2.1, x.2.2.1, b, x.2.2.2.2.1, x.2.2.2.2.2)
def gueE (x : Pt) (b : Bool) : Pt := (x.1, x.2.1, x.2.2.1, x.2.2.2.1, b, x.2.2.2.2.2)
def rdyE (x : Pt) (b : Bool) : Pt := (x.1, x.2.1, x.2.2.1, x.2.2.2.1, x.2.2.2.2.1, b)
def clrE (x : Pt) : Pt := (x.1, x.2.1, x.2.2.1, x.2.2.2.1, false, false)
theorem know_none {most : Int} {ts : List Pt} {m : Mg} (h : ∀ x ∈ ts, x.1 ≠ m.1) :
    knowL most ts m = if okM m.2.1 m.2.2.2 = true ∧ m.2.1 = 1 ∧ m.1 % 18446744073709551616 < most % 18446744073709551616 then insL ts (inAt ts m.1) [(m.1, ByteArray.empty, false, false, false, false)] else ts := by
  unfold knowL knowK
  rw [at_none h]
  by_cases h1 : okM m.2.1 m.2.2.2 = true
  · by_cases h2 : m.2.1 = 1 ∧ m.1 % 18446744073709551616 < most % 18446744073709551616
    · rw [if_pos h1, if_pos (by decide), if_pos h2, if_pos ⟨h1, h2⟩]
    · rw [if_pos h1, if_pos (by decide), if_neg h2, if_neg (fun h => h2 h.2)]
  · rw [if_neg h1, if_neg (fun h => h1 h.1)]
/-- What becomes of the list's rest at the port that is meant. -/
def hearE (m : Mg) (x : Pt) : List Pt :=
  if m.2.1 = 2 then [] else if m.2.1 = 4 then [conE x] else if m.2.1 = 7 then [namE x m.2.2.2] else if m.2.1 = 6 then [hosE x (m.2.2.1 == 1)] else [x]
theorem know_some {most : Int} {l r : List Pt} {x : Pt} {m : Mg} (hx : x.1 = m.1) (h : ∀ y ∈ l, y.1 ≠ m.1) :
    knowL most (l ++ x :: r) m = if okM m.2.1 m.2.2.2 = true then l ++ (hearE m x ++ r) else l ++ x :: r := by
  unfold knowL knowK
  rw [at_some hx h]
  by_cases h1 : okM m.2.1 m.2.2.2 = true
  · have h0 : ¬ ((l.length : Int) < 0) := by omega
    have e1 : ((l.length : Int)).toNat = l.length := rfl
    have e2 : ((l.length : Int) + 1).toNat = l.length + 1 := by omega
    rw [if_pos h1, if_pos h1, if_neg h0]
    unfold hearE
    simp only [atP, e1, e2, del_mid, set_mid, get_mid]
    repeat' split
    all_goals rfl
  · rw [if_neg h1, if_neg h1]
theorem know_twice {most : Int} {ts : List Pt} (hs : Srt ts) (m : Mg) : knowL most (knowL most ts m) m = knowL most ts m := by
  by_cases ho : okM m.2.1 m.2.2.2 = true
  · rcases at_cases ts m.1 with h | ⟨l, x, r, rfl, hx, h⟩
    · rw [know_none h]
      split
      · rename_i hc
        obtain ⟨l, r, rfl, h1, h2⟩ := in_cases m.1 hs h
        rw [in_at (fun y hy => Int.le_of_lt (h1 y hy)) h2, ins_mid, know_some rfl (fun y hy => by have := h1 y hy; omega), if_pos ho]
        unfold hearE
        simp [hc.2.1]
      · rw [know_none h]
        rw [if_neg ‹_›]
    · rw [know_some hx h, if_pos ho]
      have hr : ∀ y ∈ r, y.1 ≠ m.1 := fun y hy => by have := (srt_mid.1 hs).2.2 y hy; omega
      have key : ∀ (z : Pt), z.1 = m.1 → hearE m z = [z] → knowL most (l ++ z :: r) m = l ++ z :: r := fun z hz h2 => by
        rw [know_some hz h, if_pos ho, h2]; rfl
      by_cases h2 : m.2.1 = 2
      · have e : hearE m x = [] := by unfold hearE; rw [if_pos h2]
        rw [e, List.nil_append, know_none (fun y hy => by rcases List.mem_append.1 hy with hy | hy; exact h y hy; exact hr y hy), if_neg (fun hc => by omega)]
      · obtain ⟨z, hz, e1, e2⟩ : ∃ z : Pt, z.1 = m.1 ∧ hearE m x = [z] ∧ hearE m z = [z] := by
          unfold hearE
          simp only [if_neg h2]
          by_cases h4 : m.2.1 = 4
          · exact ⟨conE x, hx, by rw [if_pos h4], by rw [if_pos h4]; rfl⟩
          · by_cases h7 : m.2.1 = 7
            · exact ⟨namE x m.2.2.2, hx, by rw [if_neg h4, if_pos h7], by rw [if_neg h4, if_pos h7]; rfl⟩
            · by_cases h6 : m.2.1 = 6
              · exact ⟨hosE x (m.2.2.1 == 1), hx, by rw [if_neg h4, if_neg h7, if_pos h6], by rw [if_neg h4, if_neg h7, if_pos h6]; rfl⟩
              · exact ⟨x, hx, by rw [if_neg h4, if_neg h7, if_neg h6], by rw [if_neg h4, if_neg h7, if_neg h6]⟩
        rw [e1]
        exact key z hz e2
  · unfold knowL knowK
    simp only [if_neg ho]
/-! ### acts -/
theorem okE_mono {most : Int} {x : Pt} {r s : Bool} (h : okE most r x) (hs : x.2.2.2.2.2 = true → s = true) : okE most s x := ⟨h.1, h.2.1, h.2.2.1, hs, h.2.2.2.2⟩
theorem okP_mid {most : Int} {rdy : Bool} {l r : List Pt} {x : Pt} : okP most rdy (l ++ x :: r) = true ↔ okP most rdy (l ++ r) = true ∧ okE most rdy x ∧ (∀ y ∈ l, y.1 < x.1) ∧ ∀ y ∈ r, x.1 < y.1 := by
  rw [okP_iff, okP_iff, srt_mid]
  constructor
  · rintro ⟨h1, ⟨h2, h3, h4⟩, h5⟩
    exact ⟨⟨h1, h2, fun y hy => h5 y (mem_mid.2 (.inr hy))⟩, h5 x (mem_mid.2 (.inl rfl)), h3, h4⟩
  · rintro ⟨⟨h1, h2, h5⟩, h6, h3, h4⟩
    refine ⟨h1, ⟨h2, h3, h4⟩, fun y hy => ?_⟩
    rcases mem_mid.1 hy with rfl | hy
    · exact h6
    · exact h5 y hy
/-- Another port at the place of one. -/
theorem okP_set {most : Int} {rdy : Bool} {l r : List Pt} {x y : Pt} (h : okP most rdy (l ++ x :: r) = true) (hy : y.1 = x.1) (he : okE most rdy y) : okP most rdy (l ++ y :: r) = true := by
  rw [okP_mid] at h ⊢
  exact ⟨h.1, he, by rw [hy]; exact h.2.2.1, by rw [hy]; exact h.2.2.2⟩
theorem ne_of_mid {most : Int} {rdy : Bool} {l r : List Pt} {x : Pt} (h : okP most rdy (l ++ x :: r) = true) : (∀ y ∈ l, y.1 ≠ x.1) ∧ ∀ y ∈ r, y.1 ≠ x.1 := by
  obtain ⟨_, _, h1, h2⟩ := okP_mid.1 h
  exact ⟨fun y hy => by have := h1 y hy; omega, fun y hy => by have := h2 y hy; omega⟩
theorem split_at {most : Int} {rdy : Bool} {ts : List Pt} {id : Int} (h : ¬ atI ts id < 0) : ∃ l x r, ts = l ++ x :: r ∧ x.1 = id ∧ (∀ y ∈ l, y.1 ≠ id) ∧ atI ts id = (l.length : Int) := by
  rcases at_cases ts id with hn | ⟨l, x, r, rfl, hx, hl⟩
  · rw [at_none hn] at h; omega
  · exact ⟨l, x, r, rfl, hx, hl, at_some hx hl⟩
/-- A port that was not there is put in. -/
theorem add_split {most : Int} {rdy : Bool} {ts : List Pt} {x : Pt} (h : okP most rdy ts = true) (hx : okE most rdy x) (hn : ¬ 0 ≤ atI ts x.1) :
    ∃ l r, ts = l ++ r ∧ insL ts (inAt ts x.1) [x] = l ++ x :: r ∧ (∀ y ∈ l, y.1 < x.1) ∧ (∀ y ∈ r, x.1 < y.1) ∧ okP most rdy (l ++ x :: r) = true := by
  have hno : ∀ y ∈ ts, y.1 ≠ x.1 := by
    rcases at_cases ts x.1 with h1 | ⟨l, y, r, rfl, hy, hl⟩
    · exact h1
    · rw [at_some hy hl] at hn; omega
  obtain ⟨l, r, rfl, h1, h2⟩ := in_cases x.1 (okP_iff.1 h).2.1 hno
  refine ⟨l, r, rfl, ?_, h1, h2, okP_mid.2 ⟨h, hx, h1, h2⟩⟩
  rw [in_at (fun y hy => Int.le_of_lt (h1 y hy)) h2, ins_mid]
theorem rem_mid {l r : List Pt} {x : Pt} (h : ∀ y ∈ l, y.1 ≠ x.1) : delL (l ++ x :: r) (atI (l ++ x :: r) x.1).toNat (atI (l ++ x :: r) x.1 + 1).toNat = l ++ r := by
  rw [at_some rfl h, show ((l.length : Int)).toNat = l.length from rfl, show ((l.length : Int) + 1).toNat = l.length + 1 by omega, del_mid]
theorem open_mid {l r : List Pt} {x : Pt} {on : Bool} (h : ∀ y ∈ l, y.1 ≠ x.1) : openL (l ++ x :: r) x.1 on = l ++ hosE x on :: r ∧ tellsO (l ++ x :: r) x.1 on = (x.2.2.2.2.2 && !(x.2.2.2.1 == on)) := by
  unfold openL tellsO
  rw [at_some rfl h]
  simp only [atP, show ((l.length : Int)).toNat = l.length from rfl, get_mid, set_mid]
  exact ⟨rfl, trivial⟩
theorem same_refl (m : Int) (r : Bool) (ts : List Pt) : sameP m r ts m r ts = true := by
  unfold sameP
  simp only [beq_self_eq_true, Bool.true_and, bne_self_eq_false', Bool.not_false]
  rw [noneP_iff]
  intro k hk
  show neP (elP ts k) (elP ts k) = false
  unfold neP
  simp
end
end Go.Proofs.Ytgegagndihffpaa
