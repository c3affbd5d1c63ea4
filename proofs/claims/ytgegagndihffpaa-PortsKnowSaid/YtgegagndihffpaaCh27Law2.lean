/-
  Chapter 27: the plain law of acts. Own work; nothing here is trusted.
-/
import Derived.Test.YtgegagndihffpaaCh27Done
namespace Go.Proofs.Ytgegagndihffpaa
open Go Go.Sx Go.RowKit
set_option maxRecDepth 1000000
set_option maxHeartbeats 8000000
set_option linter.unusedVariables false
set_option linter.unusedSimpArgs false
noncomputable section
/-! ### ready -/
def addE (x : Pt) : Mg := (x.1 % 4294967296, 1, 1, ByteArray.empty)
theorem clr_mid (l r : List Pt) (x : Pt) : clrP (l ++ x :: r) (l.length : Int) = l ++ clrE x :: r := by
  unfold clrP set4 set5
  simp only [show ((l.length : Int)).toNat = l.length from rfl, get_mid, set_mid]
  rfl
theorem addM_mid (l r : List Pt) (x : Pt) : addM (l ++ x :: r) (l.length : Int) = addE x := by
  unfold addM
  rw [clr_mid]
  simp only [show ((l.length : Int)).toNat = l.length from rfl, get_mid]
  rfl
def saysR (on : Bool) (l : List Pt) : Option (List Mg) := match on, l with
  | true, x :: r => some ((x :: r).map addE)
  | _, _ => none
theorem says_snoc (l : List Pt) (x : Pt) : saysR true (l ++ [x]) = some ((saysR true l).getD [] ++ [addE x]) := by
  cases l with
  | nil => rfl
  | cons y r => simp [saysR]
theorem runR_go (on : Bool) : ∀ (r l : List Pt), ((List.range' l.length r.length).foldl (stepR on) (l.map clrE ++ r, saysR on l)) = ((l ++ r).map clrE, saysR on (l ++ r))
  | [], l => by simp
  | x :: r, l => by
    rw [List.length_cons, List.range'_succ, List.foldl_cons]
    have ih := runR_go on r (l ++ [x])
    have e1 : (l ++ [x]).length = l.length + 1 := by simp
    have hl : (l.map clrE).length = l.length := List.length_map _
    have hs : stepR on (l.map clrE ++ x :: r, saysR on l) l.length = ((l ++ [x]).map clrE ++ r, saysR on (l ++ [x])) := by
      have h1 := clr_mid (l.map clrE) r x
      have h2 := addM_mid (l.map clrE) r x
      rw [hl] at h1 h2
      cases on with
      | true =>
        show (clrP (l.map clrE ++ x :: r) (l.length : Int), some ((saysR true l).getD [] ++ [addM (l.map clrE ++ x :: r) (l.length : Int)])) = _
        rw [h1, h2, says_snoc]; simp
      | false =>
        show (clrP (l.map clrE ++ x :: r) (l.length : Int), saysR false l) = _
        rw [h1]
        cases l <;> simp [saysR]
    rw [hs]
    rw [e1] at ih
    rw [ih]
    simp
theorem runR_eq (on : Bool) (ts : List Pt) : runR on ts = (ts.map clrE, saysR on ts) := by
  have h := runR_go on ts []
  have h0 : saysR on [] = none := by cases on <;> rfl
  rw [h0] at h
  show (List.range ts.length).foldl (stepR on) (ts, none) = _
  rw [List.range_eq_range']
  exact h
theorem okP_clr {most : Int} {rdy on : Bool} {ts : List Pt} (h : okP most rdy ts = true) : okP most on (ts.map clrE) = true := by
  rw [okP_iff] at h ⊢
  refine ⟨h.1, List.pairwise_map.2 h.2.1, fun x hx => ?_⟩
  obtain ⟨y, hy, rfl⟩ := List.mem_map.1 hx
  have := h.2.2 y hy
  exact ⟨this.1, this.2.1, this.2.2.1, nofun, nofun⟩
/-! ### what may be said -/
/-- A message that may be said behind an act. -/
def fineM (most : Int) (rdy : Bool) (us : List Pt) (m : Mg) : Prop :=
  okM m.2.1 m.2.2.2 = true ∧ (0 ≤ m.1 ∧ m.1 < 4294967296) ∧ ((m.2.1 = 6 ∨ m.2.1 = 7 ∨ m.2.1 = 4) → (findP most rdy us m.1).2 = true ∧ (findP most rdy us m.1).1.2.2.2.2.2 = true)
theorem find_mid {most : Int} {rdy : Bool} {l r : List Pt} {x : Pt} (h : okP most rdy (l ++ x :: r) = true) : findP most rdy (l ++ x :: r) x.1 = (x, true) := by
  obtain ⟨n1, n2⟩ := ne_of_mid h
  unfold findP
  rw [at_some rfl n1, if_pos ⟨by omega, h⟩]
  simp only [atP, show ((l.length : Int)).toNat = l.length from rfl, get_mid]
theorem okM_e {b : Int} (h : b = 1 ∨ b = 2 ∨ b = 4 ∨ b = 6) : okM b ByteArray.empty = true := by
  rcases h with rfl | rfl | rfl | rfl <;> kernel_rfl
theorem okM_7 {s : ByteArray} (h : s.size ≤ 64) : okM 7 s = true := by
  unfold okM
  rw [show decide ((7 : Int) < 7) = false from by decide, show ((7 : Int) != 7) = false from by decide, decide_eq_false (show ¬ (64 : Int) < (s.size : Int) by omega)]
  rfl
structure FineD (most : Int) (D : DR) : Prop where
  ok : okP most D.2.1 D.2.2.1 = true
  said : D.2.2.2.isSome = true → D.2.1 = true
  len : (D.2.2.2.getD []).length ≤ 1000
  fine : ∀ m ∈ D.2.2.2.getD [], fineM most D.2.1 D.2.2.1 m
theorem fine_none {most : Int} {r : Bool} {us : List Pt} (h : okP most r us = true) : FineD most (0, r, us, none) := ⟨h, nofun, by simp, fun m hm => by simp at hm⟩
theorem fine_one {most : Int} {us : List Pt} {m : Mg} (h : okP most true us = true) (hm : fineM most true us m) : FineD most (0, true, us, some [m]) := ⟨h, fun _ => rfl, by simp, fun x hx => by
  obtain rfl : x = m := by simpa using hx
  exact hm⟩
theorem okP_del {most : Int} {rdy : Bool} {l r : List Pt} {x : Pt} (h : okP most rdy (l ++ x :: r) = true) : okP most rdy (l ++ r) = true := (okP_mid.1 h).1
theorem mod_id {most : Int} {rdy : Bool} {x : Pt} (hm : most ≤ 32) (h : okE most rdy x) : x.1 % 4294967296 = x.1 := Int.emod_eq_of_lt h.1 (by have := h.2.1; omega)
/-- What the driver is told of a port. -/
theorem tell_fine {most : Int} {l r : List Pt} {x : Pt} (h : okP most true (l ++ x :: r) = true) (hr : x.2.2.2.2.2 = true) : ∀ m ∈ (optL (tellE x)).getD [], fineM most true (l ++ x :: r) m := by
  have hx := (okP_mid.1 h).2.1
  have hm := (okP_iff.1 h).1
  have hid := mod_id hm.2 hx
  have hf := find_mid h
  have h2 : (optL (tellE x)).getD [] = tellE x := by cases tellE x <;> rfl
  rw [h2]
  intro m hm'
  have hb : ∀ (ev : Int) (s : ByteArray), okM ev s = true → fineM most true (l ++ x :: r) (x.1 % 4294967296, ev, 1, s) := fun ev s ho => ⟨ho, by show 0 ≤ x.1 % 4294967296 ∧ x.1 % 4294967296 < 4294967296; omega, fun _ => by
    show (findP most true (l ++ x :: r) (x.1 % 4294967296)).2 = true ∧ (findP most true (l ++ x :: r) (x.1 % 4294967296)).1.2.2.2.2.2 = true
    rw [hid, hf]; exact ⟨rfl, hr⟩⟩
  unfold tellE at hm'
  rcases List.mem_append.1 hm' with h1 | h1
  · cases hc : x.2.2.1 with
    | true => rw [hc] at h1; simp at h1; subst h1; exact hb 4 _ (okM_e (.inr (.inr (.inl rfl))))
    | false => rw [hc] at h1; simp at h1
  · rcases List.mem_append.1 h1 with h1 | h1
    · cases hc : (x.2.1.toList == ByteArray.empty.toList) with
      | true => rw [hc] at h1; simp at h1
      | false => rw [hc] at h1; simp at h1; subst h1; exact hb 7 _ (okM_7 hx.2.2.1)
    · cases hc : x.2.2.2.1 with
      | true => rw [hc] at h1; simp at h1; subst h1; exact hb 6 _ (okM_e (.inr (.inr (.inr rfl))))
      | false => rw [hc] at h1; simp at h1
theorem tell_len (x : Pt) : ((optL (tellE x)).getD []).length ≤ 3 := by
  unfold tellE
  cases x.2.2.1 <;> cases x.2.2.2.1 <;> cases (x.2.1.toList == ByteArray.empty.toList) <;> simp [optL]
theorem guest_fine {most : Int} {rdy : Bool} {ts : List Pt} {m : Mg} (h : okP most rdy ts = true) : FineD most (0, guestR most rdy ts m) := by
  unfold guestR
  split
  · split
    · split
      · exact fine_none h
      · rw [runR_eq]
        refine ⟨okP_clr h, fun hs => ?_, ?_, fun x hx => ?_⟩
        · show (m.2.2.1 == 1) = true
          have hs : (saysR (m.2.2.1 == 1) ts).isSome = true := hs
          cases ho : (m.2.2.1 == 1) with
          | true => rfl
          | false => rw [ho] at hs; cases ts <;> cases hs
        · show ((saysR (m.2.2.1 == 1) ts).getD []).length ≤ 1000
          have := okP_len h
          cases ho : (m.2.2.1 == 1) with
          | true => cases ts with
            | nil => simp [saysR]
            | cons y r => simp [saysR] at this ⊢; omega
          | false => cases ts <;> simp [saysR]
        · have hx : x ∈ (saysR (m.2.2.1 == 1) ts).getD [] := hx
          have : x ∈ ts.map addE := by
            cases ho : (m.2.2.1 == 1) with
            | true => rw [ho] at hx; cases ts with
              | nil => simp [saysR] at hx
              | cons y r => simpa [saysR] using hx
            | false => rw [ho] at hx; cases ts <;> simp [saysR] at hx
          obtain ⟨y, hy, rfl⟩ := List.mem_map.1 this
          exact ⟨okM_e (.inl rfl), by show 0 ≤ y.1 % 4294967296 ∧ y.1 % 4294967296 < 4294967296; omega, fun hc => by
            have hc : (1 : Int) = 6 ∨ (1 : Int) = 7 ∨ (1 : Int) = 4 := hc
            omega⟩
    · split
      · exact fine_none h
      · rename_i h0 h1
        have hr : rdy = true := by cases rdy with
          | true => rfl
          | false => exact absurd (.inl rfl) h1
        subst hr
        obtain ⟨l, x, r, rfl, hx, hne, hat⟩ := split_at (most := most) (rdy := true) (id := m.1) (ts := ts) (fun hi => h1 (.inr hi))
        have e1 : ((l.length : Int)).toNat = l.length := rfl
        have e2 : ((l.length : Int) + 1).toNat = l.length + 1 := by omega
        simp only [atP, hat, e1, e2, get_mid, set_mid, del_mid]
        have hxe := (okP_mid.1 h).2.1
        split
        · split
          · split
            · exact fine_none h
            · have ok2 : okP most true (l ++ rdyE x true :: r) = true := okP_set h rfl ⟨hxe.1, hxe.2.1, hxe.2.2.1, fun _ => rfl, fun _ => rfl⟩
              refine ⟨ok2, fun _ => rfl, Nat.le_trans (tell_len x) (by decide), ?_⟩
              exact tell_fine (x := rdyE x true) ok2 rfl
          · exact fine_none (okP_del h)
        · split
          · rename_i h6
            exact fine_none (okP_set h rfl ⟨hxe.1, hxe.2.1, hxe.2.2.1, hxe.2.2.2.1, fun _ => h6.2⟩)
          · exact fine_none h
  · exact fine_none h
theorem done_fine {most : Int} {rdy : Bool} {ts : List Pt} {a : Ac} (h : okP most rdy ts = true) (h0 : (doneR most rdy ts a).1 = 0) : FineD most (doneR most rdy ts a) := by
  have hm := (okP_iff.1 h).1
  obtain ⟨kind, id, nm, on, m⟩ := a
  unfold doneR at h0 ⊢
  simp only [h, if_true] at h0 ⊢
  split
  · rename_i q1
    rw [if_pos q1] at h0
    by_cases c1 : id < 0
    · rw [if_pos c1] at h0; exact absurd h0 (by decide)
    rw [if_neg c1] at h0 ⊢
    by_cases c2 : most ≤ id
    · rw [if_pos c2] at h0; exact absurd h0 (by decide)
    rw [if_neg c2] at h0 ⊢
    by_cases c3 : (64 : Int) < (nm.size : Int)
    · rw [if_pos c3] at h0; exact absurd h0 (by decide)
    rw [if_neg c3] at h0 ⊢
    by_cases c4 : 0 ≤ atI ts id
    · rw [if_pos c4] at h0; exact absurd h0 (by decide)
    rw [if_neg c4] at h0 ⊢
    have hx : okE most rdy ((id, nm, on, false, false, false) : Pt) := ⟨by omega, by omega, by show nm.size ≤ 64; omega, nofun, nofun⟩
    obtain ⟨l, r, rfl, e1, _, _, o1⟩ := add_split (x := (id, nm, on, false, false, false)) h hx c4
    have e1 : insL (l ++ r) (inAt (l ++ r) id) [(id, nm, on, false, false, false)] = l ++ (id, nm, on, false, false, false) :: r := e1
    rw [e1]
    cases rdy with
    | false => exact fine_none o1
    | true => exact fine_one o1 ⟨okM_e (.inl rfl), by show 0 ≤ id % 4294967296 ∧ id % 4294967296 < 4294967296; omega, fun hc => by
        have hc : (1 : Int) = 6 ∨ (1 : Int) = 7 ∨ (1 : Int) = 4 := hc
        omega⟩
  · rename_i q1
    rw [if_neg q1] at h0
    split
    · rename_i q2
      rw [if_pos q2] at h0
      by_cases c1 : atI ts id < 0
      · rw [if_pos c1] at h0; exact absurd h0 (by decide)
      rw [if_neg c1] at h0 ⊢
      obtain ⟨l, x, r, rfl, hx, hne, hat⟩ := split_at (most := most) (rdy := rdy) c1
      have e2 : ((l.length : Int) + 1).toNat = l.length + 1 := by omega
      simp only [hat, show ((l.length : Int)).toNat = l.length from rfl, e2, del_mid]
      cases rdy with
      | false => exact fine_none (okP_del h)
      | true => exact fine_one (okP_del h) ⟨okM_e (.inr (.inl rfl)), by show 0 ≤ id % 4294967296 ∧ id % 4294967296 < 4294967296; omega, fun hc => by
          have hc : (2 : Int) = 6 ∨ (2 : Int) = 7 ∨ (2 : Int) = 4 := hc
          omega⟩
    · rename_i q2
      rw [if_neg q2] at h0
      split
      · rename_i q3
        rw [if_pos q3] at h0
        by_cases c1 : atI ts id < 0
        · rw [if_pos c1] at h0; exact absurd h0 (by decide)
        rw [if_neg c1] at h0 ⊢
        obtain ⟨l, x, r, rfl, hx, hne, hat⟩ := split_at (most := most) (rdy := rdy) c1
        subst hx
        have e := open_mid (l := l) (r := r) (x := x) (on := on) hne
        rw [e.1, e.2]
        have hxe := (okP_mid.1 h).2.1
        have ok2 : okP most rdy (l ++ hosE x on :: r) = true := okP_set h rfl ⟨hxe.1, hxe.2.1, hxe.2.2.1, hxe.2.2.2.1, hxe.2.2.2.2⟩
        cases ht : (x.2.2.2.2.2 && !(x.2.2.2.1 == on)) with
        | false => exact fine_none ok2
        | true =>
          rw [Bool.and_eq_true] at ht
          obtain rfl : rdy = true := hxe.2.2.2.1 ht.1
          refine fine_one ok2 ⟨okM_e (.inr (.inr (.inr rfl))), by show 0 ≤ x.1 % 4294967296 ∧ x.1 % 4294967296 < 4294967296; omega, fun _ => ?_⟩
          show (findP most true (l ++ hosE x on :: r) (x.1 % 4294967296)).2 = true ∧ (findP most true (l ++ hosE x on :: r) (x.1 % 4294967296)).1.2.2.2.2.2 = true
          rw [mod_id hm.2 hxe]
          have hf : findP most true (l ++ hosE x on :: r) x.1 = _ := find_mid (x := hosE x on) ok2
          rw [hf]
          exact ⟨rfl, ht.1⟩
      · exact guest_fine h
end
end Go.Proofs.Ytgegagndihffpaa
