/-
  Merged texts, part 5 of 6. Own work; nothing here is trusted.
-/
import Derived.Test.YtfgbhgeppdffaaaGreatTbPD
namespace Go.Proofs.YtfgbhgeppdffaaaGreat
abbrev Tt : Bool := true
abbrev Ff : Bool := false
open Go Go.Sx Go.RowKit
set_option maxRecDepth 100000
set_option maxHeartbeats 2000000
set_option linter.unusedVariables false
noncomputable section
abbrev Sg := Int × Int × Bool
def sgB (x : Sg) : Bool := decide (1 ≤ x.2.1 ∧ x.2.1 - 1 ≤ 18446744073709551615 - x.1)
def sgOrd : Bool → List Sg → Bool
  | _, [] => true
  | p, x :: r => (!p || x.2.2) && sgOrd x.2.2 r
def sgSum : List Sg → Int
  | [] => 0
  | x :: r => x.2.1 + sgSum r
def okSg (l : List Sg) : Bool := decide (l.length ≤ 64) && ((l.all sgB && sgOrd false l) && decide (sgSum l < 4294967296))
def chkE (l : List Sg) : Int := bif decide (64 < l.length) then 3 else bif okSg l then 0 else 2
def partS (w : Bool) (l : List Sg) : List Sg := l.filter fun x => x.2.2 == w
def eatO : List Sg → Int → List Sg
  | [], _ => []
  | x :: r, n => bif decide (n ≤ 0) then [] else bif decide (n < x.2.1) then [(x.1, n, x.2.2)] else x :: eatO r (n - x.2.1)
def eatR : List Sg → Int → List Sg
  | [], _ => []
  | x :: r, n => bif decide (n ≤ 0) then x :: r else bif decide (n < x.2.1) then (x.1 + n, x.2.1 - n, x.2.2) :: r else eatR r (n - x.2.1)
def cutS (l : List Sg) (f n : Int) : List Sg := bif okSg l then eatO (eatR l f) n else []
def contig (w : Bool) : Int → List Sg → Int → Prop
  | _, [], T => T = 0
  | A, x :: r, T => x.1 = A ∧ x.2.2 = w ∧ 1 ≤ x.2.1 ∧ contig w (A + x.2.1) r (T - x.2.1)
theorem contig.sum {w : Bool} : ∀ {l : List Sg} {A T : Int}, contig w A l T → sgSum l = T ∧ 0 ≤ T
  | [], A, T, h => by have h : T = 0 := h; subst h; exact ⟨rfl, Int.le_refl _⟩
  | x :: r, A, T, ⟨h1, h2, h3, h4⟩ => by
    obtain ⟨g1, g2⟩ := h4.sum
    refine ⟨?_, by omega⟩
    show x.2.1 + sgSum r = T
    omega
theorem contig.app {w : Bool} : ∀ {l l' : List Sg} {A T T' : Int}, contig w A l T → contig w (A + T) l' T' → contig w A (l ++ l') (T + T')
  | [], l', A, T, T', h, h' => by
    have h : T = 0 := h
    subst h
    rw [Int.add_zero] at h'; rw [Int.zero_add]; exact h'
  | x :: r, l', A, T, T', ⟨h1, h2, h3, h4⟩, h' => by
    refine ⟨h1, h2, h3, ?_⟩
    have := h4.app (l' := l') (T' := T') (by rw [show A + x.2.1 + (T - x.2.1) = A + T by omega]; exact h')
    rw [show T + T' - x.2.1 = T - x.2.1 + T' by omega]; exact this
theorem contig.eatO {w : Bool} : ∀ {l : List Sg} {A T n : Int}, contig w A l T → 0 ≤ n → n ≤ T → contig w A (eatO l n) n
  | [], A, T, n, h, h0, hn => by have h : T = 0 := h; show n = 0; omega
  | x :: r, A, T, n, ⟨h1, h2, h3, h4⟩, h0, hn => by
    unfold Proofs.YtfgbhgeppdffaaaGreat.eatO
    by_cases c1 : n ≤ 0
    · rw [decide_eq_true c1]; show n = 0; omega
    · rw [decide_eq_false c1, cond_false]
      by_cases c2 : n < x.2.1
      · rw [decide_eq_true c2]; exact ⟨h1, h2, by show 1 ≤ n; omega, by show n - n = 0; omega⟩
      · rw [decide_eq_false c2, cond_false]
        exact ⟨h1, h2, h3, h4.eatO (by omega) (by omega)⟩
theorem contig.eatR {w : Bool} : ∀ {l : List Sg} {A T n : Int}, contig w A l T → 0 ≤ n → n ≤ T → contig w (A + n) (eatR l n) (T - n)
  | [], A, T, n, h, h0, hn => by have h : T = 0 := h; show T - n = 0; omega
  | x :: r, A, T, n, ⟨h1, h2, h3, h4⟩, h0, hn => by
    unfold Proofs.YtfgbhgeppdffaaaGreat.eatR
    by_cases c1 : n ≤ 0
    · obtain rfl : n = 0 := by omega
      rw [decide_eq_true c1, cond_true, Int.add_zero, Int.sub_zero]; exact ⟨h1, h2, h3, h4⟩
    · rw [decide_eq_false c1, cond_false]
      by_cases c2 : n < x.2.1
      · rw [decide_eq_true c2]
        refine ⟨by show x.1 + n = A + n; omega, h2, by show 1 ≤ x.2.1 - n; omega, ?_⟩
        show contig w (A + n + (x.2.1 - n)) r (T - n - (x.2.1 - n))
        rw [show A + n + (x.2.1 - n) = A + x.2.1 by omega, show T - n - (x.2.1 - n) = T - x.2.1 by omega]; exact h4
      · rw [decide_eq_false c2, cond_false]
        have := h4.eatR (n := n - x.2.1) (by omega) (by omega)
        rw [show A + x.2.1 + (n - x.2.1) = A + n by omega, show T - x.2.1 - (n - x.2.1) = T - n by omega] at this
        exact this
theorem contig.all {w : Bool} : ∀ {l : List Sg} {A T n : Int}, contig w A l T → T ≤ n → Proofs.YtfgbhgeppdffaaaGreat.eatO l n = l
  | [], A, T, n, h, hn => rfl
  | x :: r, A, T, n, ⟨h1, h2, h3, h4⟩, hn => by
    have := h4.sum.2
    unfold Proofs.YtfgbhgeppdffaaaGreat.eatO
    rw [decide_eq_false (show ¬ n ≤ 0 by omega), cond_false, decide_eq_false (show ¬ n < x.2.1 by omega), cond_false, h4.all (by omega)]
theorem eat_len : ∀ (l : List Sg) (n : Int), (Proofs.YtfgbhgeppdffaaaGreat.eatO l n).length + (Proofs.YtfgbhgeppdffaaaGreat.eatR l n).length ≤ l.length + 1
  | [], n => Nat.zero_le _
  | x :: r, n => by
    unfold Proofs.YtfgbhgeppdffaaaGreat.eatO Proofs.YtfgbhgeppdffaaaGreat.eatR
    cases decide (n ≤ 0) with
    | true => simp only [cond_true, List.length_nil, List.length_cons]; omega
    | false =>
      simp only [cond_false]
      cases decide (n < x.2.1) with
      | true => simp only [cond_true, List.length_cons, List.length_nil]; omega
      | false =>
        simp only [cond_false, List.length_cons]
        have := eat_len r (n - x.2.1)
        omega
theorem eatR_zero : ∀ (l : List Sg), Proofs.YtfgbhgeppdffaaaGreat.eatR l 0 = l
  | [] => rfl
  | x :: r => rfl
theorem contig.ord {w : Bool} : ∀ {l : List Sg} {A T : Int} {p : Bool}, contig w A l T → (p = true → w = true) → sgOrd p l = true
  | [], _, _, _, _, _ => rfl
  | x :: r, A, T, p, ⟨h1, h2, h3, h4⟩, hp => by
    unfold sgOrd
    have h5 := h4.ord (p := x.2.2) (fun h => by rw [← h2]; exact h)
    rw [h5, Bool.and_true, h2]
    cases p with
    | false => rfl
    | true => rw [hp rfl]; rfl
theorem contig.bs {w : Bool} : ∀ {l : List Sg} {A T : Int}, contig w A l T → A + T ≤ 18446744073709551616 → l.all sgB = true
  | [], _, _, _, _ => rfl
  | x :: r, A, T, ⟨h1, h2, h3, h4⟩, hT => by
    have := h4.sum.2
    have h5 := h4.bs (by omega)
    rw [List.all_cons, h5, Bool.and_true]
    exact decide_eq_true ⟨h3, by omega⟩
theorem contig.ok {w : Bool} {l : List Sg} {A T : Int} (h : contig w A l T) (hl : l.length ≤ 64) (hT : T < 4294967296) (hA : A + T ≤ 18446744073709551616) : okSg l = true := by
  unfold okSg
  rw [decide_eq_true hl, h.bs hA, h.ord (p := false) (fun h => by cases h), h.sum.1, decide_eq_true hT]; rfl
theorem contig.part {w : Bool} : ∀ {l : List Sg} {A T : Int}, contig w A l T → partS w l = l ∧ partS (!w) l = []
  | [], _, _, _ => ⟨rfl, rfl⟩
  | x :: r, A, T, ⟨h1, h2, h3, h4⟩ => by
    obtain ⟨g1, g2⟩ := h4.part
    unfold partS at *
    rw [List.filter_cons, List.filter_cons, h2]
    cases w
    · exact ⟨by show x :: r.filter _ = _; rw [g1], g2⟩
    · exact ⟨by show x :: r.filter _ = _; rw [g1], g2⟩
theorem partS_app (w : Bool) (l l' : List Sg) : partS w (l ++ l') = partS w l ++ partS w l' := List.filter_append ..
def splitS (all : Int) : List Int → Int → Int → List Sg → List Sg
  | [], _, _, l => l
  | c :: cs, more, a, l => bif decide (c ≤ 0) || decide (all - a ≤ c) then splitS all cs more a l
    else bif decide (l.length < (cutS l 0 (a + c) ++ cutS l (a + c) all).length) then (bif decide (more = 0) then l else splitS all cs (more - 1) (a + c) (cutS l 0 (a + c) ++ cutS l (a + c) all))
    else splitS all cs more (a + c) (cutS l 0 (a + c) ++ cutS l (a + c) all)
def sumS (l : List Sg) : Int := bif okSg l then sgSum l else 0
theorem cut_two {w : Bool} {l : List Sg} {A T c : Int} (h : contig w A l T) (hl : l.length ≤ 64) (hT : T < 4294967296) (hA : A + T ≤ 18446744073709551616) (h0 : 0 ≤ c) (hc : c ≤ T) :
    contig w A (cutS l 0 c ++ cutS l c T) T ∧ (cutS l 0 c ++ cutS l c T).length ≤ l.length + 1 := by
  have ho := h.ok hl hT hA
  unfold cutS
  rw [ho, cond_true, cond_true, eatR_zero, (h.eatR h0 hc).all (n := T) (by omega)]
  refine ⟨?_, by rw [List.length_append]; exact eat_len l c⟩
  have := (h.eatO h0 hc).app (h.eatR h0 hc)
  rwa [show c + (T - c) = T by omega] at this
theorem splitS_ok {w : Bool} {A T : Int} (hT : T < 4294967296) (hA : A + T ≤ 18446744073709551616) : ∀ {cs : List Int} {more a : Int} {l : List Sg}, contig w A l T → 0 ≤ a → 0 ≤ more → (l.length : Int) + more ≤ 64 →
    contig w A (splitS T cs more a l) T ∧ ((splitS T cs more a l).length : Int) ≤ l.length + more
  | [], more, a, l, h, h0, hm, hl => ⟨h, by show (l.length : Int) ≤ _; omega⟩
  | c :: cs, more, a, l, h, h0, hm, hl => by
    unfold splitS
    cases hc : (decide (c ≤ 0) || decide (T - a ≤ c)) with
    | true => rw [cond_true]; exact splitS_ok hT hA h h0 hm hl
    | false =>
      rw [cond_false]
      simp only [Bool.or_eq_false_iff, decide_eq_false_iff_not] at hc
      obtain ⟨g1, g2⟩ := cut_two (c := a + c) h (by omega) hT hA (by omega) (by omega)
      cases hd : decide (l.length < (cutS l 0 (a + c) ++ cutS l (a + c) T).length) with
      | true =>
        rw [cond_true]
        cases he : decide (more = 0) with
        | true => rw [cond_true]; exact ⟨h, by omega⟩
        | false =>
          rw [cond_false]
          have he := of_decide_eq_false he
          obtain ⟨g3, g4⟩ := splitS_ok hT hA (cs := cs) (more := more - 1) (a := a + c) g1 (by omega) (by omega) (by omega)
          exact ⟨g3, by omega⟩
      | false =>
        rw [cond_false]
        have hd := of_decide_eq_false hd
        obtain ⟨g3, g4⟩ := splitS_ok hT hA (cs := cs) (more := more) (a := a + c) g1 (by omega) hm (by omega)
        exact ⟨g3, by omega⟩
def splitB (l : List Sg) (cs : List Int) (more : Int) : List Sg := splitS (sumS l) cs more 0 l
def cutB (l : List Sg) (cs : List Int) : List Sg := bif okSg l then
  splitB (partS false l) cs (64 - l.length) ++ splitB (partS true l) cs (64 - (splitB (partS false l) cs (64 - l.length)).length - (partS true l).length) else []
theorem memL_app (f : Nat → Int) : ∀ (n a m : Nat), memL f a (n + m) = memL f a n ++ memL f (a + n) m
  | 0, a, m => by rw [Nat.zero_add, Nat.add_zero]; rfl
  | n + 1, a, m => by
    rw [show n + 1 + m = (n + m) + 1 by omega]
    show f a :: memL f (a + 1) (n + m) = f a :: memL f (a + 1) n ++ memL f (a + (n + 1)) m
    rw [memL_app f n (a + 1) m, show a + 1 + n = a + (n + 1) by omega]; rfl
theorem memL_congr {f g : Nat → Int} : ∀ (n a : Nat), (∀ i, a ≤ i → i < a + n → f i = g i) → memL f a n = memL g a n
  | 0, a, h => rfl
  | n + 1, a, h => by
    show f a :: _ = g a :: _
    rw [h a (Nat.le_refl _) (by omega), memL_congr n (a + 1) fun i h1 h2 => h i (by omega) (by omega)]
theorem memL_own (f : Nat → Int) (us : List Int) (a : Nat) : memL (wrM f a us) a us.length = us := by
  refine List.ext_getElem? fun i => ?_
  by_cases hi : i < us.length
  · rw [memL_get _ _ _ _ hi, wrM_in (by omega) (by omega), show a + i - a = i by omega, List.getD_eq_getElem?_getD, List.getElem?_eq_getElem hi]; rfl
  · rw [List.getElem?_eq_none (by rw [memL_length]; omega), List.getElem?_eq_none (by omega)]
theorem memL_apart {f : Nat → Int} {us : List Int} {a b n : Nat} (h : b + n ≤ a ∨ a + us.length ≤ b) : memL (wrM f a us) b n = memL f b n :=
  memL_congr n b fun i h1 h2 => wrM_out (by omega)
def readS (f : Nat → Int) : List Sg → List Int
  | [] => []
  | x :: r => memL f x.1.toNat x.2.1.toNat ++ readS f r
def writeS : (Nat → Int) → List Sg → List Int → Nat → Int
  | f, [], _ => f
  | f, x :: r, b => writeS (wrM f x.1.toNat (b.take x.2.1.toNat)) r (b.drop x.2.1.toNat)
theorem contig.read {w : Bool} (f : Nat → Int) : ∀ {l : List Sg} {A T : Int}, contig w A l T → 0 ≤ A → readS f l = memL f A.toNat T.toNat
  | [], A, T, h, hA => by have h : T = 0 := h; subst h; rfl
  | x :: r, A, T, ⟨h1, h2, h3, h4⟩, hA => by
    have := h4.sum.2
    show memL f x.1.toNat x.2.1.toNat ++ readS f r = _
    rw [h4.read f (by omega), show T.toNat = x.2.1.toNat + (T - x.2.1).toNat by omega, memL_app, h1, show (A + x.2.1).toNat = A.toNat + x.2.1.toNat by omega]
theorem wrM_app (f : Nat → Int) (a : Nat) (us vs : List Int) : wrM (wrM f a us) (a + us.length) vs = wrM f a (us ++ vs) := by
  funext j
  by_cases h1 : a ≤ j ∧ j < a + us.length
  · rw [wrM_out (by omega), wrM_in (by omega) (by omega), wrM_in (by omega) (by rw [List.length_append]; omega), List.getD_eq_getElem?_getD, List.getD_eq_getElem?_getD, List.getElem?_append_left (by omega)]
  · by_cases h2 : a + us.length ≤ j ∧ j < a + us.length + vs.length
    · rw [wrM_in (by omega) (by omega), wrM_in (by omega) (by rw [List.length_append]; omega), List.getD_eq_getElem?_getD, List.getD_eq_getElem?_getD, List.getElem?_append_right (by omega)]
      rw [show j - (a + us.length) = j - a - us.length by omega]
    · rw [wrM_out (by omega), wrM_out (by omega), wrM_out (by rw [List.length_append]; omega)]
theorem wrM_nil (f : Nat → Int) (a : Nat) : wrM f a [] = f := by funext j; exact wrM_out (by simp; omega)
theorem contig.write {w : Bool} : ∀ {l : List Sg} {A T : Int} {f : Nat → Int} {b : List Int}, contig w A l T → 0 ≤ A → b.length = T.toNat → writeS f l b = wrM f A.toNat b
  | [], A, T, f, b, h, hA, hb => by
    have h : T = 0 := h
    subst h
    rw [List.length_eq_zero_iff.1 hb, wrM_nil]; rfl
  | x :: r, A, T, f, b, ⟨h1, h2, h3, h4⟩, hA, hb => by
    have := h4.sum.2
    have hk : x.2.1.toNat ≤ b.length := by omega
    show writeS (wrM f x.1.toNat (b.take x.2.1.toNat)) r (b.drop x.2.1.toNat) = _
    rw [h4.write (by omega) (by rw [List.length_drop]; omega), h1]
    have e : (A + x.2.1).toNat = A.toNat + (b.take x.2.1.toNat).length := by rw [List.length_take]; omega
    rw [e, wrM_app, List.take_append_drop]
end
end Go.Proofs.YtfgbhgeppdffaaaGreat
namespace Go.Proofs.YtfgbhgeppdffaaaGreat
open Go Go.Sx Go.RowKit
set_option maxRecDepth 1000000
set_option maxHeartbeats 8000000
set_option linter.unusedVariables false
set_option linter.unusedSimpArgs false
noncomputable section
abbrev ckSl : List Nat := [0, 2, 3, 10, 11, 12]
@[reducible] def ckSt (full : Bool) (ts : List Sg) (e S n K : Int) : List SV × List (SO CT) :=
  ([.h 0, .h 1, .h 2, .h 0, .raw (.int .i64 n), .raw (.int .i64 K)], [.sl false full 101 (ts : List Sg), .box [.raw (.int .i64 e)] 27, .box [.raw (.int .u64 S)] 33])
@[reducible] def ckN (S n K : Int) : List SV × List (SO CT) :=
  ([.raw (.slice none 0 0), .h 0, .h 1, .raw (.slice none 0 0), .raw (.int .i64 n), .raw (.int .i64 K)], [.box [.raw (.int .i64 0)] 27, .box [.raw (.int .u64 S)] 33])
abbrev ckR (full : Bool) (ts : List Sg) (e S n K : Int) := roundG CT Tryz.prog noSp noLs (fun _ _ => 20) 10 118 0 ckSl ⟨(ckSt full ts e S n K).1, 3, (ckSt full ts e S n K).2⟩
abbrev elS (ts : List Sg) (K : Int) : Sg := ts.getD K.toNat (0, 0, false)
def sgW (x : Sg) : Bool := decide (0 ≤ x.1 ∧ x.1 < 18446744073709551616 ∧ 0 ≤ x.2.1 ∧ x.2.1 < 4294967296)
def wfS (l : List Sg) : Bool := l.all sgW
theorem sgW_iff {x : Sg} : sgW x = true ↔ 0 ≤ x.1 ∧ x.1 < 18446744073709551616 ∧ 0 ≤ x.2.1 ∧ x.2.1 < 4294967296 := decide_eq_true_iff
theorem el_at {ts : List Sg} {k : Nat} (h : k < ts.length) : elS ts (k : Int) = ts[k] := by
  show ts.getD ((k : Int).toNat) _ = _
  rw [Int.toNat_natCast, List.getD_eq_getElem?_getD, List.getElem?_eq_getElem h]; rfl
theorem wf_at {ts : List Sg} {k : Nat} (hw : wfS ts = true) (h : k < ts.length) : 0 ≤ (elS ts (k : Int)).1 ∧ (elS ts (k : Int)).1 < 18446744073709551616 ∧ 0 ≤ (elS ts (k : Int)).2.1 ∧ (elS ts (k : Int)).2.1 < 4294967296 := by
  rw [el_at h]
  exact sgW_iff.1 (List.all_eq_true.1 hw _ (List.getElem_mem h))
def pad (ts : List Sg) (k : Nat) : Bool := !(sgB (elS ts (k : Int))) || ((decide (0 < k) && (elS ts ((k : Int) - 1)).2.2) && !(elS ts (k : Int)).2.2)
theorem sgOrd_iff : ∀ {l : List Sg} {p : Bool}, sgOrd p l = true ↔ ∀ k, k < l.length → (bif decide (0 < k) then (elS l ((k : Int) - 1)).2.2 else p) = true → (elS l (k : Int)).2.2 = true
  | [], p => by simp [sgOrd]
  | x :: r, p => by
    unfold sgOrd
    rw [Bool.and_eq_true, sgOrd_iff (l := r) (p := x.2.2)]
    have h0 : elS (x :: r) ((0 : Nat) : Int) = x := rfl
    have hs : ∀ k : Nat, elS (x :: r) ((k + 1 : Nat) : Int) = elS r (k : Int) := fun k => rfl
    have hq : ∀ k : Nat, (((k + 1 : Nat) : Int) - 1) = (k : Int) := fun k => by omega
    constructor
    · rintro ⟨h1, h2⟩ k hk hp
      cases k with
      | zero => rw [h0]; cases p <;> simp at h1 hp; exact h1
      | succ k =>
        rw [hs]
        refine h2 k (by simp at hk; omega) ?_
        rw [hq] at hp
        cases k with
        | zero => exact hp
        | succ k => rw [hq]; exact hp
    · intro h
      refine ⟨?_, fun k hk hp => ?_⟩
      · have := h 0 (by simp)
        rw [h0] at this
        cases p with
        | false => rfl
        | true => simpa using this rfl
      · have := h (k + 1) (by simp; omega)
        rw [hs, hq] at this
        refine this ?_
        cases k with
        | zero => exact hp
        | succ k => rw [hq] at hp; exact hp
theorem pad_none (ts : List Sg) : noneP (pad ts) ts.length = (ts.all sgB && sgOrd false ts) := by
  rw [Bool.eq_iff_iff, noneP_iff, Bool.and_eq_true, sgOrd_iff, List.all_eq_true]
  constructor
  · intro h
    refine ⟨fun x hx => ?_, fun k hk hp => ?_⟩
    · obtain ⟨k, hk, rfl⟩ := List.getElem_of_mem hx
      have := h k hk
      unfold pad at this
      rw [el_at hk] at this
      cases hb : sgB ts[k] with
      | true => rfl
      | false => rw [hb] at this; simp at this
    · have := h k hk
      unfold pad at this
      cases hw : (elS ts (k : Int)).2.2 with
      | true => rfl
      | false =>
        rw [hw] at this
        cases hk0 : decide (0 < k) with
        | false => rw [hk0] at hp; simp at hp
        | true => rw [hk0] at hp this; simp only [cond_true] at hp; rw [hp] at this; simp at this
  · rintro ⟨h1, h2⟩ k hk
    unfold pad
    have e1 := h1 _ (List.getElem_mem hk)
    rw [el_at hk, e1, Bool.not_true, Bool.false_or]
    cases hk0 : decide (0 < k) with
    | false => rfl
    | true =>
      rw [Bool.true_and]
      cases hp : (elS ts ((k : Int) - 1)).2.2 with
      | false => rfl
      | true =>
        have := h2 k hk (by rw [hk0]; exact hp)
        rw [el_at hk] at this
        rw [this]; rfl
theorem sum_take : ∀ {ts : List Sg} {k : Nat}, k < ts.length → sgSum (ts.take (k + 1)) = sgSum (ts.take k) + (elS ts (k : Int)).2.1
  | x :: r, 0, _ => by show x.2.1 + 0 = 0 + x.2.1; omega
  | x :: r, k + 1, h => by
    have ih := sum_take (ts := r) (k := k) (by simp at h; omega)
    show x.2.1 + sgSum (r.take (k + 1)) = x.2.1 + sgSum (r.take k) + (elS r (k : Int)).2.1
    omega
theorem wf_sum : ∀ {ts : List Sg}, wfS ts = true → 0 ≤ sgSum ts ∧ sgSum ts ≤ ts.length * 4294967296
  | [], _ => ⟨Int.le_refl _, Int.le_refl _⟩
  | x :: r, h => by
    have h : (sgW x && r.all sgW) = true := h
    rw [Bool.and_eq_true] at h
    obtain ⟨h1, h2⟩ := h
    have := sgW_iff.1 h1
    have ih := wf_sum (ts := r) h2
    show 0 ≤ x.2.1 + sgSum r ∧ x.2.1 + sgSum r ≤ ((r.length + 1 : Nat) : Int) * 4294967296
    omega
theorem wf_take {ts : List Sg} {k : Nat} (h : wfS ts = true) : wfS (ts.take k) = true := List.all_eq_true.2 fun x hx => List.all_eq_true.1 h x (List.mem_of_mem_take hx)
theorem ck_tree (full : Bool) (ts : List Sg) (S n K : Int) : (ckR full ts 0 S n K).get =
  bro (decide (K < n)) (bro (inB K ts.length) (bro (decide (K.toNat < ts.length)) (bro (decide ((elS ts K).snd.fst < (1 : Int))) (some (Ex.ret, [SV.h 0, SV.h 1, SV.h 2, SV.h 0, SV.raw (Value.int IntKind.i64 n), SV.raw (Value.int IntKind.i64 K)], [SO.sl false full 101 ts, SO.box [SV.raw (Value.int IntKind.i64 2)] 27, SO.box [SV.raw (Value.int IntKind.u64 S)] 33])) (bro (decide (((18446744073709551615 : Int) - (elS ts K).fst) % (18446744073709551616 : Int) < ((elS ts K).snd.fst % (18446744073709551616 : Int) - (1 : Int)) % (18446744073709551616 : Int))) (some (Ex.ret, [SV.h 0, SV.h 1, SV.h 2, SV.h 0, SV.raw (Value.int IntKind.i64 n), SV.raw (Value.int IntKind.i64 K)], [SO.sl false full 101 ts, SO.box [SV.raw (Value.int IntKind.i64 2)] 27, SO.box [SV.raw (Value.int IntKind.u64 S)] 33])) (bro (decide ((0 : Int) < K)) (bro (inR64 (K - (1 : Int))) (bro (inB (K - (1 : Int)) ts.length) (bro (decide ((K - (1 : Int)).toNat < ts.length)) (bro ((elS ts (K - 1)).snd.snd) (bro (!(elS ts K).snd.snd) (some (Ex.ret, [SV.h 0, SV.h 1, SV.h 2, SV.h 0, SV.raw (Value.int IntKind.i64 n), SV.raw (Value.int IntKind.i64 K)], [SO.sl false full 101 ts, SO.box [SV.raw (Value.int IntKind.i64 2)] 27, SO.box [SV.raw (Value.int IntKind.u64 S)] 33])) (bro (inR64 (K + (1 : Int))) (some (Ex.normal, [SV.h 0, SV.h 1, SV.h 2, SV.h 0, SV.raw (Value.int IntKind.i64 n), SV.raw (Value.int IntKind.i64 (K + (1 : Int)))], [SO.sl false full 101 ts, SO.box [SV.raw (Value.int IntKind.i64 0)] 27, SO.box [SV.raw (Value.int IntKind.u64 ((S + (elS ts K).snd.fst % (18446744073709551616 : Int)) % (18446744073709551616 : Int)))] 33])) (some (Ex.normal, [SV.h 0, SV.h 1, SV.h 2, SV.h 0, SV.raw (Value.int IntKind.i64 n), SV.raw (Value.int IntKind.i64 (IntKind.i64.wrap (K + (1 : Int))))], [SO.sl false full 101 ts, SO.box [SV.raw (Value.int IntKind.i64 0)] 27, SO.box [SV.raw (Value.int IntKind.u64 ((S + (elS ts K).snd.fst % (18446744073709551616 : Int)) % (18446744073709551616 : Int)))] 33])))) (bro (inR64 (K + (1 : Int))) (some (Ex.normal, [SV.h 0, SV.h 1, SV.h 2, SV.h 0, SV.raw (Value.int IntKind.i64 n), SV.raw (Value.int IntKind.i64 (K + (1 : Int)))], [SO.sl false full 101 ts, SO.box [SV.raw (Value.int IntKind.i64 0)] 27, SO.box [SV.raw (Value.int IntKind.u64 ((S + (elS ts K).snd.fst % (18446744073709551616 : Int)) % (18446744073709551616 : Int)))] 33])) (some (Ex.normal, [SV.h 0, SV.h 1, SV.h 2, SV.h 0, SV.raw (Value.int IntKind.i64 n), SV.raw (Value.int IntKind.i64 (IntKind.i64.wrap (K + (1 : Int))))], [SO.sl false full 101 ts, SO.box [SV.raw (Value.int IntKind.i64 0)] 27, SO.box [SV.raw (Value.int IntKind.u64 ((S + (elS ts K).snd.fst % (18446744073709551616 : Int)) % (18446744073709551616 : Int)))] 33])))) (none)) (none)) (bro (inB (IntKind.i64.wrap (K - (1 : Int))) ts.length) (bro (decide ((IntKind.i64.wrap (K - (1 : Int))).toNat < ts.length)) (bro ((elS ts (IntKind.i64.wrap (K - 1))).snd.snd) (bro (!(elS ts K).snd.snd) (some (Ex.ret, [SV.h 0, SV.h 1, SV.h 2, SV.h 0, SV.raw (Value.int IntKind.i64 n), SV.raw (Value.int IntKind.i64 K)], [SO.sl false full 101 ts, SO.box [SV.raw (Value.int IntKind.i64 2)] 27, SO.box [SV.raw (Value.int IntKind.u64 S)] 33])) (bro (inR64 (K + (1 : Int))) (some (Ex.normal, [SV.h 0, SV.h 1, SV.h 2, SV.h 0, SV.raw (Value.int IntKind.i64 n), SV.raw (Value.int IntKind.i64 (K + (1 : Int)))], [SO.sl false full 101 ts, SO.box [SV.raw (Value.int IntKind.i64 0)] 27, SO.box [SV.raw (Value.int IntKind.u64 ((S + (elS ts K).snd.fst % (18446744073709551616 : Int)) % (18446744073709551616 : Int)))] 33])) (some (Ex.normal, [SV.h 0, SV.h 1, SV.h 2, SV.h 0, SV.raw (Value.int IntKind.i64 n), SV.raw (Value.int IntKind.i64 (IntKind.i64.wrap (K + (1 : Int))))], [SO.sl false full 101 ts, SO.box [SV.raw (Value.int IntKind.i64 0)] 27, SO.box [SV.raw (Value.int IntKind.u64 ((S + (elS ts K).snd.fst % (18446744073709551616 : Int)) % (18446744073709551616 : Int)))] 33])))) (bro (inR64 (K + (1 : Int))) (some (Ex.normal, [SV.h 0, SV.h 1, SV.h 2, SV.h 0, SV.raw (Value.int IntKind.i64 n), SV.raw (Value.int IntKind.i64 (K + (1 : Int)))], [SO.sl false full 101 ts, SO.box [SV.raw (Value.int IntKind.i64 0)] 27, SO.box [SV.raw (Value.int IntKind.u64 ((S + (elS ts K).snd.fst % (18446744073709551616 : Int)) % (18446744073709551616 : Int)))] 33])) (some (Ex.normal, [SV.h 0, SV.h 1, SV.h 2, SV.h 0, SV.raw (Value.int IntKind.i64 n), SV.raw (Value.int IntKind.i64 (IntKind.i64.wrap (K + (1 : Int))))], [SO.sl false full 101 ts, SO.box [SV.raw (Value.int IntKind.i64 0)] 27, SO.box [SV.raw (Value.int IntKind.u64 ((S + (elS ts K).snd.fst % (18446744073709551616 : Int)) % (18446744073709551616 : Int)))] 33])))) (none)) (none))) (bro (inR64 (K + (1 : Int))) (some (Ex.normal, [SV.h 0, SV.h 1, SV.h 2, SV.h 0, SV.raw (Value.int IntKind.i64 n), SV.raw (Value.int IntKind.i64 (K + (1 : Int)))], [SO.sl false full 101 ts, SO.box [SV.raw (Value.int IntKind.i64 0)] 27, SO.box [SV.raw (Value.int IntKind.u64 ((S + (elS ts K).snd.fst % (18446744073709551616 : Int)) % (18446744073709551616 : Int)))] 33])) (some (Ex.normal, [SV.h 0, SV.h 1, SV.h 2, SV.h 0, SV.raw (Value.int IntKind.i64 n), SV.raw (Value.int IntKind.i64 (IntKind.i64.wrap (K + (1 : Int))))], [SO.sl false full 101 ts, SO.box [SV.raw (Value.int IntKind.i64 0)] 27, SO.box [SV.raw (Value.int IntKind.u64 ((S + (elS ts K).snd.fst % (18446744073709551616 : Int)) % (18446744073709551616 : Int)))] 33])))))) (none)) (none)) (some (Ex.exit 0, [SV.h 0, SV.h 1, SV.h 2, SV.h 0, SV.raw (Value.int IntKind.i64 n), SV.raw (Value.int IntKind.i64 K)], [SO.sl false full 101 ts, SO.box [SV.raw (Value.int IntKind.i64 0)] 27, SO.box [SV.raw (Value.int IntKind.u64 S)] 33])) := by kernel_rfl
theorem ckN_tree (S n K : Int) : (roundG CT Tryz.prog noSp noLs (fun _ _ => 20) 10 118 0 ckSl ⟨(ckN S n K).1, 2, (ckN S n K).2⟩).get =
  bro (decide (K < n)) (none) (some (Ex.exit 0, [SV.raw (Value.slice none 0 0), SV.h 0, SV.h 1, SV.raw (Value.slice none 0 0), SV.raw (Value.int IntKind.i64 n), SV.raw (Value.int IntKind.i64 K)], [SO.box [SV.raw (Value.int IntKind.i64 0)] 27, SO.box [SV.raw (Value.int IntKind.u64 S)] 33])) := by kernel_rfl
theorem ck_round {full : Bool} {ts : List Sg} {k : Nat} (hk : k < ts.length) (hl : ts.length ≤ 64) (hw : wfS ts = true) :
    (ckR full ts 0 (sgSum (ts.take k)) ts.length k).get = bro (pad ts k) (some (.ret, ckSt full ts 2 (sgSum (ts.take k)) ts.length k)) (some (.normal, ckSt full ts 0 (sgSum (ts.take (k + 1))) ts.length ((k + 1 : Nat) : Int))) := by
  have k1 := decide_eq_true (show (k : Int) < (ts.length : Int) by omega)
  have k2 : Sx.inB (k : Int) ts.length = true := inB_mk ⟨by omega, by omega⟩
  have k3 := decide_eq_true (show ((k : Nat) : Int).toNat < ts.length by omega)
  have k4 : inR64 ((k : Int) + 1) = true := inR64_mk (by omega)
  have k5 : inR64 ((k : Int) - 1) = true := inR64_mk (by omega)
  have w1 := wf_at hw hk
  have s1 := wf_sum (wf_take (k := k) hw)
  have s2 : (ts.take k).length ≤ 64 := by rw [List.length_take]; omega
  have s3 := sum_take hk
  have e1 : ((elS ts (k : Int)).2.1 % 18446744073709551616) = (elS ts (k : Int)).2.1 := Int.emod_eq_of_lt w1.2.2.1 (by omega)
  have e2 : (sgSum (ts.take k) + (elS ts (k : Int)).2.1) % 18446744073709551616 = sgSum (ts.take (k + 1)) := by rw [s3]; exact Int.emod_eq_of_lt (by omega) (by omega)
  refine (ck_tree full ts _ _ _).trans ?_
  rw [k1, k2, k3, k4, k5, e1, e2]
  simp only [bro_true]
  unfold pad
  cases c1 : decide ((elS ts (k : Int)).2.1 < (1 : Int)) with
  | true =>
    have c1 := of_decide_eq_true c1
    have : sgB (elS ts (k : Int)) = false := decide_eq_false (by omega)
    rw [this]; rfl
  | false =>
    have c1 := of_decide_eq_false c1
    have e3 : ((18446744073709551615 : Int) - (elS ts (k : Int)).1) % 18446744073709551616 = 18446744073709551615 - (elS ts (k : Int)).1 := Int.emod_eq_of_lt (by omega) (by omega)
    have e4 : ((elS ts (k : Int)).2.1 - (1 : Int)) % 18446744073709551616 = (elS ts (k : Int)).2.1 - 1 := Int.emod_eq_of_lt (by omega) (by omega)
    rw [e3, e4]
    cases c2 : decide ((18446744073709551615 : Int) - (elS ts (k : Int)).1 < (elS ts (k : Int)).2.1 - 1) with
    | true =>
      have c2 := of_decide_eq_true c2
      have : sgB (elS ts (k : Int)) = false := decide_eq_false (by omega)
      rw [this]; rfl
    | false =>
      have c2 := of_decide_eq_false c2
      have : sgB (elS ts (k : Int)) = true := decide_eq_true (by omega)
      rw [this]
      cases c3 : decide (0 < k) with
      | false =>
        have c3 := of_decide_eq_false c3
        obtain rfl : k = 0 := by omega
        rfl
      | true =>
        have c3 := of_decide_eq_true c3
        rw [decide_eq_true (show (0 : Int) < (k : Int) by omega), inB_mk (show 0 ≤ (k : Int) - 1 ∧ (k : Int) - 1 < (ts.length : Int) by omega), decide_eq_true (show ((k : Int) - 1).toNat < ts.length by omega)]
        cases (elS ts ((k : Int) - 1)).2.2 <;> cases (elS ts (k : Int)).2.2 <;> rfl
theorem ck_end {full : Bool} {ts : List Sg} {S : Int} : (ckR full ts 0 S ts.length (ts.length : Int)).get = some (.exit 0, ckSt full ts 0 S ts.length ts.length) := by
  refine (ck_tree full ts _ _ _).trans ?_
  rw [decide_eq_false (Int.lt_irrefl _)]; rfl
theorem ck_loop : loopOf Tryz.prog 118 0 = some (((loopOf Tryz.prog 118 0).get!).1, (loopOf Tryz.prog 118 0).get!.2) := by kernel_rfl
def ckLoop : LoopFn CT := fun li => match li with
  | ⟨[.h 0, .h 1, .h 2, .h 0, .raw (.int .i64 n), .raw (.int .i64 (.ofNat 0))], 3, [.sl false full 101 ts, .box [.raw (.int .i64 (.ofNat 0))] 27, .box [.raw (.int .u64 (.ofNat 0))] 33]⟩ =>
    .br (n == ((@List.length Sg ts : Nat) : Int)) (.br (decide (@List.length Sg ts ≤ 64 ∧ wfS ts = true)) (.br (noneP (pad ts) (@List.length Sg ts)) (.leaf (.exit 0, ckSt full ts 0 (sgSum ts) (@List.length Sg ts) (@List.length Sg ts))) (.leaf (.ret, ckSt full ts 2 (sgSum (@List.take Sg (fstP (pad ts) (@List.length Sg ts)) ts)) (@List.length Sg ts) (fstP (pad ts) (@List.length Sg ts) : Nat)))) .fail) .fail
  | ⟨[.raw (.slice none 0 0), .h 0, .h 1, .raw (.slice none 0 0), .raw (.int .i64 (.ofNat 0)), .raw (.int .i64 (.ofNat 0))], 2, [.box [.raw (.int .i64 (.ofNat 0))] 27, .box [.raw (.int .u64 (.ofNat 0))] 33]⟩ => .leaf (.exit 0, ckN 0 0 0)
  | _ => .fail
theorem ckLoop_ok : ∀ tm hp n x, (loopS ckSl [] ckLoop tm hp n).get = some x → InLoop Tryz.prog ((loopOf Tryz.prog 118 0).get!).1 (loopOf Tryz.prog 118 0).get!.2 tm hp n fun e tm hp n => (e, tm, hp, n) = x := loopS_of fun li r h => by
  unfold ckLoop at h
  split at h
  · rename_i n full ts
    change List Sg at ts
    obtain ⟨hn0, hB⟩ := Tr.get_ask.1 h
    obtain ⟨hl, hC⟩ := Tr.get_ask.1 hB
    clear h hB
    have hn0 : n = ((ts.length : Nat) : Int) := eq_of_beq hn0
    subst hn0
    obtain ⟨h1, h2⟩ : ts.length ≤ 64 ∧ wfS ts = true := of_decide_eq_true hl
    refine ⟨?_, ?_⟩
    · rcases Tr.get_br.1 hC with ⟨_, hD⟩ | ⟨_, hD⟩ <;> (simp only [Tr.get, Option.some.injEq] at hD; subst hD; exact Keeps.of3 (Nat.le_of_ble_eq_true rfl) rfl)
    · have e0 : ckSt full ts 0 (sgSum ts) ts.length ts.length = ckSt full ts 0 (sgSum (ts.take ts.length)) ts.length ((ts.length : Nat) : Int) := by rw [List.take_length]
      refine scan_li (n := ts.length) (stN := fun k => ckSt full ts 0 (sgSum (ts.take k)) ts.length (k : Int)) (stR := fun k => ckSt full ts 2 (sgSum (ts.take k)) ts.length (k : Int)) (p := pad ts) (d := 10) (unr := fun _ _ => 20) (sp := noSp) (ls := noLs) plain mixed noSp_ok noLs_ok ck_loop (fun k hk => ck_round hk h1 h2) ck_end ?_
      rw [← e0]; exact hC
  · simp only [Tr.get, Option.some.injEq] at h
    subst h
    refine ⟨Keeps.of3 (Nat.le_of_ble_eq_true rfl) rfl, ?_⟩
    refine scan_li (n := 0) (stN := fun k => ckN 0 0 0) (stR := fun k => ckN 0 0 0) (p := fun _ => false) (d := 10) (unr := fun _ _ => 20) (sp := noSp) (ls := noLs) plain mixed noSp_ok noLs_ok ck_loop (fun k hk => by omega) ?_ rfl
    exact (ckN_tree 0 0 0).trans rfl
  · cases h
def lsCk : LoopT CT := Sx.addL 118 0 (loopS ckSl [] ckLoop) noLs
theorem lsCk_ok : LoopTOk Tryz.prog lsCk := addL_ok ck_loop ckLoop_ok noLs_ok
abbrev lsCku (g b : Nat) : Nat := match g, b with
  | 118, 0 => 0 | _, _ => 20
end
end Go.Proofs.YtfgbhgeppdffaaaGreat
namespace Go.Proofs.YtfgbhgeppdffaaaGreat
open Go Go.Sx Go.RowKit
set_option maxRecDepth 1000000
set_option maxHeartbeats 8000000
set_option linter.unusedVariables false
noncomputable section
abbrev Rg := Int × Int
@[reducible] def memO (N : Nat) (f : Nat → Int) : List (SO CT) := [.box [.h 1, .h 2] 138, .sl true false 58 ([(0, (N : Int))] : List Rg), .rw 34 1 1 false [.h 3], .mem 5 N f]
end
end Go.Proofs.YtfgbhgeppdffaaaGreat
namespace Go.Proofs.YtfgbhgeppdffaaaGreat
open Go Go.Sx Go.RowKit
set_option maxRecDepth 1000000
set_option maxHeartbeats 8000000
set_option linter.unusedVariables false
set_option linter.unusedSimpArgs false
noncomputable section
def memC (N : Nat) (a n : Int) : Bool := decide (1 ≤ n ∧ a + n ≤ N)
theorem mem_chain {α : Type} {N : Nat} {a n : Int} (F T : Option α) (hN : 1 ≤ N ∧ N ≤ 4294967296) (ha : 0 ≤ a ∧ a < 18446744073709551616) (hn : 0 ≤ n ∧ n < 18446744073709551616) :
    bro (decide (n < (1 : Int))) F (bro (!decide (a ≤ (((N : Int) - 1) % 18446744073709551616 + 0) % 18446744073709551616)) F (bro (decide (a < 0)) F (bro (decide (((N : Int) - (a - 0) % 18446744073709551616) % 18446744073709551616 < n)) F (bro (bOk ((a - 0) % 18446744073709551616) (intO (N : Int) (some (((a - 0) % 18446744073709551616 + n) % 18446744073709551616))) (roomV 0 N none) && atV 0 N ((a - 0) % 18446744073709551616) none) T none)))) = bif memC N a n then T else F := by
  have e1 : (a - 0) % 18446744073709551616 = a := by rw [Int.sub_zero]; exact Int.emod_eq_of_lt ha.1 ha.2
  have e2 : ((N : Int) - 1) % 18446744073709551616 = (N : Int) - 1 := Int.emod_eq_of_lt (by omega) (by omega)
  rw [e1, e2, Int.add_zero, e2]
  unfold memC
  by_cases c1 : n < 1
  · rw [decide_eq_true c1, decide_eq_false (show ¬ (1 ≤ n ∧ a + n ≤ N) by omega)]; rfl
  · rw [decide_eq_false c1]
    by_cases c2 : a ≤ (N : Int) - 1
    · rw [decide_eq_true c2, decide_eq_false (show ¬ a < 0 by omega)]
      have e3 : ((N : Int) - a) % 18446744073709551616 = (N : Int) - a := Int.emod_eq_of_lt (by omega) (by omega)
      rw [e3]
      by_cases c3 : (N : Int) - a < n
      · rw [decide_eq_true c3, decide_eq_false (show ¬ (1 ≤ n ∧ a + n ≤ N) by omega)]; rfl
      · have e4 : (a + n) % 18446744073709551616 = a + n := Int.emod_eq_of_lt (by omega) (by omega)
        rw [decide_eq_false c3, decide_eq_true (show 1 ≤ n ∧ a + n ≤ N by omega), e4]
        have h5 : bOk a (intO (N : Int) (some (a + n))) (roomV 0 N none) = true := bOk_mk (by simp only [intO_some, roomV]; omega)
        rw [h5]; rfl
    · rw [decide_eq_false c2, decide_eq_false (show ¬ (1 ≤ n ∧ a + n ≤ N) by omega)]; rfl
theorem has_tree (N : Nat) (f : Nat → Int) (a n : Int) : (fnB CT Tryz.prog noSp noLs (fun _ _ => 20) 20 56 [.h 0, .raw (.int .u64 a), .raw (.int .u64 n)] (memO N f)).get =
  bro (decide (n < (1 : Int))) (some (SV.raw (Value.bool false), memO N f)) (bro (!decide (a ≤ (((N : Int) - 1) % 18446744073709551616 + 0) % 18446744073709551616)) (some (SV.raw (Value.bool false), memO N f)) (bro (decide (a < 0)) (some (SV.raw (Value.bool false), memO N f)) (bro (decide (((N : Int) - (a - 0) % 18446744073709551616) % 18446744073709551616 < n)) (some (SV.raw (Value.bool false), memO N f)) (bro (bOk ((a - 0) % 18446744073709551616) (intO (N : Int) (some (((a - 0) % 18446744073709551616 + n) % 18446744073709551616))) (roomV 0 N none) && atV 0 N ((a - 0) % 18446744073709551616) none) (some (SV.raw (Value.bool true), memO N f)) none)))) := by kernel_rfl
def rgB (rg : List Rg) (N : Nat) : Bool := match rg with
  | [(z, n)] => z == 0 && n == (N : Int)
  | _ => false
theorem rgB_eq {rg : List Rg} {N : Nat} (h : rgB rg N = true) : rg = [(0, (N : Int))] := by
  unfold rgB at h
  split at h
  · rw [Bool.and_eq_true, beq_iff_eq, beq_iff_eq] at h
    rw [h.1, h.2]
  · cases h
def memG (N : Nat) (a n : Int) : Bool := decide (1 ≤ N ∧ N ≤ 4294967296 ∧ (0 ≤ a ∧ a < 18446744073709551616) ∧ 0 ≤ n ∧ n < 4294967296)
theorem memG_iff {N : Nat} {a n : Int} : memG N a n = true ↔ 1 ≤ N ∧ N ≤ 4294967296 ∧ (0 ≤ a ∧ a < 18446744073709551616) ∧ 0 ≤ n ∧ n < 4294967296 := decide_eq_true_iff
def hasT : FnF CT := fun ws os => match ws, os with
  | [.h 0, .raw (.int .u64 a), .raw (.int .u64 n)], [.box [.h 1, .h 2] 138, .sl true false 58 rg, .rw 34 1 1 false [.h 3], .mem 5 N f] =>
    .br (rgB rg N) (.br (memG N a n) (.leaf (.raw (.bool (memC N a n)), memO N f)) .fail) .fail
  | _, _ => .fail
theorem hasT_ok : ∀ args os r, (hasT args os).get = some r → FnB Tryz.prog 56 args os r := fun args os r h => by
  unfold hasT at h
  split at h
  · rename_i a n rg N f
    change List Rg at rg
    obtain ⟨h1, hA⟩ := Tr.get_ask.1 h
    obtain ⟨h2, hB⟩ := Tr.get_ask.1 hA
    clear h hA
    obtain rfl : rg = [(0, (N : Int))] := rgB_eq h1
    have h2 := memG_iff.1 h2
    simp only [Tr.get, Option.some.injEq] at hB
    subst hB
    refine fnB_ok plain mixed noSp_ok noLs_ok (unr := fun _ _ => 20) (d := 20) ((has_tree N f a n).trans ?_)
    rw [mem_chain _ _ ⟨h2.1, h2.2.1⟩ h2.2.2.1 ⟨h2.2.2.2.1, by omega⟩]
    cases memC N a n <;> rfl
  · cases h
theorem byB : Tryz.prog.types[(5 : Nat)].bytes ≤ 8 := of_decide_eq_true (by kernel_rfl)
theorem rmB {n : Nat} (h : n ≤ 4294967296) : roomB n Tryz.prog.types[(5 : Nat)].bytes = true := decide_eq_true (Nat.le_trans (Nat.mul_le_mul h byB) (by decide))
theorem read_tree (N : Nat) (f : Nat → Int) (a n : Int) : (fnB CT Tryz.prog noSp noLs (fun _ _ => 20) 20 62 [.h 0, .raw (.int .u64 a), .raw (.int .i64 n)] (memO N f)).get =
  bro (decide (n < 0)) (some (SV.tup [SV.raw (Value.slice none 0 0), SV.raw (Value.int IntKind.i64 2)], memO N f)) (bro (n == 0) (some (SV.tup [SV.raw (Value.slice none 0 0), SV.raw (Value.int IntKind.i64 0)], memO N f)) (bro (decide (n % 18446744073709551616 < (1 : Int))) (some (SV.tup [SV.raw (Value.slice none 0 0), SV.raw (Value.int IntKind.i64 5)], memO N f)) (bro (!decide (a ≤ (((N : Int) - 1) % 18446744073709551616 + 0) % 18446744073709551616)) (some (SV.tup [SV.raw (Value.slice none 0 0), SV.raw (Value.int IntKind.i64 5)], memO N f)) (bro (decide (a < 0)) (some (SV.tup [SV.raw (Value.slice none 0 0), SV.raw (Value.int IntKind.i64 5)], memO N f)) (bro (decide (((N : Int) - (a - 0) % 18446744073709551616) % 18446744073709551616 < n % 18446744073709551616)) (some (SV.tup [SV.raw (Value.slice none 0 0), SV.raw (Value.int IntKind.i64 5)], memO N f)) (bro (bOk ((a - 0) % 18446744073709551616) (intO (N : Int) (some (((a - 0) % 18446744073709551616 + n % 18446744073709551616) % 18446744073709551616))) (roomV 0 N none) && atV 0 N ((a - 0) % 18446744073709551616) none) (bro (decide (0 + ((a - 0) % 18446744073709551616).toNat + ((intO (N : Int) (some (((a - 0) % 18446744073709551616 + n % 18446744073709551616) % 18446744073709551616))).toNat - ((a - 0) % 18446744073709551616).toNat) ≤ N)) (bro (roomB (([] : List Int).length + (List.map (fun x : Int => x) (memL f (0 + ((a - 0) % 18446744073709551616).toNat) ((intO (N : Int) (some (((a - 0) % 18446744073709551616 + n % 18446744073709551616) % 18446744073709551616))).toNat - ((a - 0) % 18446744073709551616).toNat))).length) Tryz.prog.types[(5 : Nat)].bytes) (some (SV.tup [SV.h 4, SV.raw (Value.int IntKind.i64 0)], memO N f ++ [SO.sl true false 5 ([] ++ List.map (fun x : Int => x) (memL f (0 + ((a - 0) % 18446744073709551616).toNat) ((intO (N : Int) (some (((a - 0) % 18446744073709551616 + n % 18446744073709551616) % 18446744073709551616))).toNat - ((a - 0) % 18446744073709551616).toNat)) : List Int)])) none) none) none)))))) := by kernel_rfl
theorem read_some {N : Nat} {f : Nat → Int} {a n : Int} (hg : memG N a n = true) (hm : memC N a n = true) : (fnB CT Tryz.prog noSp noLs (fun _ _ => 20) 20 62 [.h 0, .raw (.int .u64 a), .raw (.int .i64 n)] (memO N f)).get =
    some (SV.tup [SV.h 4, SV.raw (Value.int IntKind.i64 0)], memO N f ++ [SO.sl true false 5 (memL f a.toNat n.toNat : List Int)]) := by
  have h := memG_iff.1 hg
  have c : 1 ≤ n ∧ a + n ≤ N := of_decide_eq_true hm
  have e0 : n % 18446744073709551616 = n := Int.emod_eq_of_lt (by omega) (by omega)
  have e1 : (a - 0) % 18446744073709551616 = a := by rw [Int.sub_zero]; exact Int.emod_eq_of_lt h.2.2.1.1 h.2.2.1.2
  have e2 : (a + n) % 18446744073709551616 = a + n := Int.emod_eq_of_lt (by omega) (by omega)
  refine (read_tree N f a n).trans ?_
  rw [decide_eq_false (show ¬ n < 0 by omega), show (n == 0) = false by rw [beq_eq_false_iff_ne]; omega, e0, mem_chain _ _ ⟨h.1, h.2.1⟩ h.2.2.1 ⟨by omega, by omega⟩, hm, e1, e2]
  have e3 : (intO (N : Int) (some (a + n))).toNat - a.toNat = n.toNat := by simp only [intO_some]; omega
  rw [e3, Nat.zero_add, List.map_id', List.length_nil, Nat.zero_add, memL_length]
  rw [decide_eq_true (show a.toNat + n.toNat ≤ N by omega), rmB (by omega)]; rfl
theorem read_none {N : Nat} {f : Nat → Int} {a n : Int} (hg : memG N a n = true) (hm : memC N a n = false) : (fnB CT Tryz.prog noSp noLs (fun _ _ => 20) 20 62 [.h 0, .raw (.int .u64 a), .raw (.int .i64 n)] (memO N f)).get =
    bro (n == 0) (some (SV.tup [SV.raw (Value.slice none 0 0), SV.raw (Value.int IntKind.i64 0)], memO N f)) (some (SV.tup [SV.raw (Value.slice none 0 0), SV.raw (Value.int IntKind.i64 5)], memO N f)) := by
  have h := memG_iff.1 hg
  have e0 : n % 18446744073709551616 = n := Int.emod_eq_of_lt (by omega) (by omega)
  refine (read_tree N f a n).trans ?_
  rw [decide_eq_false (show ¬ n < 0 by omega), e0, mem_chain _ _ ⟨h.1, h.2.1⟩ h.2.2.1 ⟨by omega, by omega⟩, hm]; rfl
def readT : FnF CT := fun ws os => match ws, os with
  | [.h 0, .raw (.int .u64 a), .raw (.int .i64 n)], [.box [.h 1, .h 2] 138, .sl true false 58 rg, .rw 34 1 1 false [.h 3], .mem 5 N f] =>
    .br (rgB rg N) (.br (memG N a n) (.br (memC N a n) (.leaf (SV.tup [SV.h 4, SV.raw (Value.int IntKind.i64 0)], memO N f ++ [SO.sl true false 5 (memL f a.toNat n.toNat : List Int)]))
      (.br (n == 0) (.leaf (SV.tup [SV.raw (Value.slice none 0 0), SV.raw (Value.int IntKind.i64 0)], memO N f)) (.leaf (SV.tup [SV.raw (Value.slice none 0 0), SV.raw (Value.int IntKind.i64 5)], memO N f)))) .fail) .fail
  | _, _ => .fail
theorem readT_ok : ∀ args os r, (readT args os).get = some r → FnB Tryz.prog 62 args os r := fun args os r h => by
  unfold readT at h
  split at h
  · rename_i a n rg N f
    change List Rg at rg
    obtain ⟨h1, hA⟩ := Tr.get_ask.1 h
    obtain ⟨h2, hB⟩ := Tr.get_ask.1 hA
    clear h hA
    obtain rfl : rg = [(0, (N : Int))] := rgB_eq h1
    refine fnB_ok plain mixed noSp_ok noLs_ok (unr := fun _ _ => 20) (d := 20) ?_
    rcases Tr.get_br.1 hB with ⟨h3, hC⟩ | ⟨h3, hC⟩
    · simp only [Tr.get, Option.some.injEq] at hC
      subst hC
      exact read_some h2 h3
    · refine (read_none h2 h3).trans ?_
      rcases Tr.get_br.1 hC with ⟨h4, hD⟩ | ⟨h4, hD⟩ <;> (simp only [Tr.get, Option.some.injEq] at hD; subst hD; rw [h4]; rfl)
  · cases h
theorem wrO_tree (N : Nat) (f : Nat → Int) (a : Int) (u : Bool) (xs : List Int) : (fnB CT Tryz.prog noSp noLs (fun _ _ => 20) 20 55 [.h 0, .raw (.int .u64 a), .h 1] [.box [.h 2, .h 3] 138, .sl true u 5 (xs : List Int), .sl true false 58 ([(0, (N : Int))] : List Rg), .rw 34 1 1 false [.h 4], .mem 5 N (f)]).get =
  bro ((((xs.length) : Nat) : Int) == 0) (some (SV.raw (Value.int IntKind.i64 0), [.box [.h 2, .h 3] 138, .sl true u 5 (xs : List Int), .sl true false 58 ([(0, (N : Int))] : List Rg), .rw 34 1 1 false [.h 4], .mem 5 N (f)])) (bro (decide ((((xs.length) : Nat) : Int) % 18446744073709551616 < (1 : Int))) (some (SV.raw (Value.int IntKind.i64 5), [.box [.h 2, .h 3] 138, .sl true u 5 (xs : List Int), .sl true false 58 ([(0, (N : Int))] : List Rg), .rw 34 1 1 false [.h 4], .mem 5 N (f)])) (bro (!decide (a ≤ (((N : Int) - 1) % 18446744073709551616 + 0) % 18446744073709551616)) (some (SV.raw (Value.int IntKind.i64 5), [.box [.h 2, .h 3] 138, .sl true u 5 (xs : List Int), .sl true false 58 ([(0, (N : Int))] : List Rg), .rw 34 1 1 false [.h 4], .mem 5 N (f)])) (bro (decide (a < 0)) (some (SV.raw (Value.int IntKind.i64 5), [.box [.h 2, .h 3] 138, .sl true u 5 (xs : List Int), .sl true false 58 ([(0, (N : Int))] : List Rg), .rw 34 1 1 false [.h 4], .mem 5 N (f)])) (bro (decide (((N : Int) - (a - 0) % 18446744073709551616) % 18446744073709551616 < (((xs.length) : Nat) : Int) % 18446744073709551616)) (some (SV.raw (Value.int IntKind.i64 5), [.box [.h 2, .h 3] 138, .sl true u 5 (xs : List Int), .sl true false 58 ([(0, (N : Int))] : List Rg), .rw 34 1 1 false [.h 4], .mem 5 N (f)])) (bro (bOk ((a - 0) % 18446744073709551616) (intO (N : Int) (some (((a - 0) % 18446744073709551616 + (((xs.length) : Nat) : Int) % 18446744073709551616) % 18446744073709551616))) (roomV 0 N none) && atV 0 N ((a - 0) % 18446744073709551616) none) (bro (decide (0 + ((a - 0) % 18446744073709551616).toNat + (List.take ((intO (N : Int) (some (((a - 0) % 18446744073709551616 + (((xs.length) : Nat) : Int) % 18446744073709551616) % 18446744073709551616))).toNat - ((a - 0) % 18446744073709551616).toNat) xs).length ≤ N)) (some (SV.raw (Value.int IntKind.i64 0), [.box [.h 2, .h 3] 138, .sl true u 5 (xs : List Int), .sl true false 58 ([(0, (N : Int))] : List Rg), .rw 34 1 1 false [.h 4], .mem 5 N (wrM f (0 + ((a - 0) % 18446744073709551616).toNat) (List.map (fun x : Int => x) (List.take ((intO (N : Int) (some (((a - 0) % 18446744073709551616 + (((xs.length) : Nat) : Int) % 18446744073709551616) % 18446744073709551616))).toNat - ((a - 0) % 18446744073709551616).toNat) xs)))])) none) none))))) := by kernel_rfl
theorem wrO {N : Nat} {f : Nat → Int} {a : Int} {u : Bool} {xs : List Int} (hg : memG N a ((xs.length) : Nat) = true) (hm : memC N a ((xs.length) : Nat) = true) : (fnB CT Tryz.prog noSp noLs (fun _ _ => 20) 20 55 [.h 0, .raw (.int .u64 a), .h 1] [.box [.h 2, .h 3] 138, .sl true u 5 (xs : List Int), .sl true false 58 ([(0, (N : Int))] : List Rg), .rw 34 1 1 false [.h 4], .mem 5 N (f)]).get =
    some (SV.raw (Value.int IntKind.i64 0), [.box [.h 2, .h 3] 138, .sl true u 5 (xs : List Int), .sl true false 58 ([(0, (N : Int))] : List Rg), .rw 34 1 1 false [.h 4], .mem 5 N (wrM f a.toNat xs)]) := by
  have h := memG_iff.1 hg
  have c : 1 ≤ (((xs.length) : Nat) : Int) ∧ a + (((xs.length) : Nat) : Int) ≤ N := of_decide_eq_true hm
  have e0 : (((xs.length) : Nat) : Int) % 18446744073709551616 = (((xs.length) : Nat) : Int) := Int.emod_eq_of_lt (by omega) (by omega)
  have e1 : (a - 0) % 18446744073709551616 = a := by rw [Int.sub_zero]; exact Int.emod_eq_of_lt h.2.2.1.1 h.2.2.1.2
  have e2 : (a + (((xs.length) : Nat) : Int)) % 18446744073709551616 = a + (((xs.length) : Nat) : Int) := Int.emod_eq_of_lt (by omega) (by omega)
  refine (wrO_tree N f a u xs).trans ?_
  rw [show ((((xs.length) : Nat) : Int) == 0) = false by rw [beq_eq_false_iff_ne]; omega, e0, mem_chain _ _ ⟨h.1, h.2.1⟩ h.2.2.1 ⟨by omega, by omega⟩, hm, e1, e2]
  have e3 : (intO (N : Int) (some (a + (((xs.length) : Nat) : Int)))).toNat - a.toNat = (xs.length) := by simp only [intO_some]; omega
  have e4 : List.take (xs.length) xs = xs := List.take_of_length_le (Nat.le_refl _)
  rw [e3, e4, Nat.zero_add, List.map_id']
  
  rw [decide_eq_true (show a.toNat + xs.length ≤ N by omega)]; rfl
theorem wrPO_tree (N : Nat) (f : Nat → Int) (a : Int) (u : Bool) (xs : List Int) (bs off len : Nat) (cap : Option Nat) : (fnB CT Tryz.prog noSp noLs (fun _ _ => 20) 20 55 [.h 0, .raw (.int .u64 a), .vs 1 1 bs off len cap] [.box [.h 2, .h 3] 138, .sl true u 5 (xs : List Int), .sl true false 58 ([(0, (N : Int))] : List Rg), .rw 34 1 1 false [.h 4], .mem 5 N (f)]).get =
  bro (((len : Nat) : Int) == 0) (some (SV.raw (Value.int IntKind.i64 0), [.box [.h 2, .h 3] 138, .sl true u 5 (xs : List Int), .sl true false 58 ([(0, (N : Int))] : List Rg), .rw 34 1 1 false [.h 4], .mem 5 N (f)])) (bro (decide (((len : Nat) : Int) % 18446744073709551616 < (1 : Int))) (some (SV.raw (Value.int IntKind.i64 5), [.box [.h 2, .h 3] 138, .sl true u 5 (xs : List Int), .sl true false 58 ([(0, (N : Int))] : List Rg), .rw 34 1 1 false [.h 4], .mem 5 N (f)])) (bro (!decide (a ≤ (((N : Int) - 1) % 18446744073709551616 + 0) % 18446744073709551616)) (some (SV.raw (Value.int IntKind.i64 5), [.box [.h 2, .h 3] 138, .sl true u 5 (xs : List Int), .sl true false 58 ([(0, (N : Int))] : List Rg), .rw 34 1 1 false [.h 4], .mem 5 N (f)])) (bro (decide (a < 0)) (some (SV.raw (Value.int IntKind.i64 5), [.box [.h 2, .h 3] 138, .sl true u 5 (xs : List Int), .sl true false 58 ([(0, (N : Int))] : List Rg), .rw 34 1 1 false [.h 4], .mem 5 N (f)])) (bro (decide (((N : Int) - (a - 0) % 18446744073709551616) % 18446744073709551616 < ((len : Nat) : Int) % 18446744073709551616)) (some (SV.raw (Value.int IntKind.i64 5), [.box [.h 2, .h 3] 138, .sl true u 5 (xs : List Int), .sl true false 58 ([(0, (N : Int))] : List Rg), .rw 34 1 1 false [.h 4], .mem 5 N (f)])) (bro (bOk ((a - 0) % 18446744073709551616) (intO (N : Int) (some (((a - 0) % 18446744073709551616 + ((len : Nat) : Int) % 18446744073709551616) % 18446744073709551616))) (roomV 0 N none) && atV 0 N ((a - 0) % 18446744073709551616) none) (bro (decide (off + len ≤ xs.length)) (bro (decide (0 + ((a - 0) % 18446744073709551616).toNat + (List.take ((intO (N : Int) (some (((a - 0) % 18446744073709551616 + ((len : Nat) : Int) % 18446744073709551616) % 18446744073709551616))).toNat - ((a - 0) % 18446744073709551616).toNat) (List.take len (List.drop off xs))).length ≤ N)) (some (SV.raw (Value.int IntKind.i64 0), [.box [.h 2, .h 3] 138, .sl true u 5 (xs : List Int), .sl true false 58 ([(0, (N : Int))] : List Rg), .rw 34 1 1 false [.h 4], .mem 5 N (wrM f (0 + ((a - 0) % 18446744073709551616).toNat) (List.map (fun x : Int => x) (List.take ((intO (N : Int) (some (((a - 0) % 18446744073709551616 + ((len : Nat) : Int) % 18446744073709551616) % 18446744073709551616))).toNat - ((a - 0) % 18446744073709551616).toNat) (List.take len (List.drop off xs)))))])) none) none) none))))) := by kernel_rfl
theorem wrPO {N : Nat} {f : Nat → Int} {a : Int} {u : Bool} {xs : List Int} {bs off len : Nat} {cap : Option Nat} (hp : off + len ≤ xs.length) (hg : memG N a (len : Nat) = true) (hm : memC N a (len : Nat) = true) : (fnB CT Tryz.prog noSp noLs (fun _ _ => 20) 20 55 [.h 0, .raw (.int .u64 a), .vs 1 1 bs off len cap] [.box [.h 2, .h 3] 138, .sl true u 5 (xs : List Int), .sl true false 58 ([(0, (N : Int))] : List Rg), .rw 34 1 1 false [.h 4], .mem 5 N (f)]).get =
    some (SV.raw (Value.int IntKind.i64 0), [.box [.h 2, .h 3] 138, .sl true u 5 (xs : List Int), .sl true false 58 ([(0, (N : Int))] : List Rg), .rw 34 1 1 false [.h 4], .mem 5 N (wrM f a.toNat (List.take len (List.drop off xs)))]) := by
  have h := memG_iff.1 hg
  have c : 1 ≤ ((len : Nat) : Int) ∧ a + ((len : Nat) : Int) ≤ N := of_decide_eq_true hm
  have e0 : ((len : Nat) : Int) % 18446744073709551616 = ((len : Nat) : Int) := Int.emod_eq_of_lt (by omega) (by omega)
  have e1 : (a - 0) % 18446744073709551616 = a := by rw [Int.sub_zero]; exact Int.emod_eq_of_lt h.2.2.1.1 h.2.2.1.2
  have e2 : (a + ((len : Nat) : Int)) % 18446744073709551616 = a + ((len : Nat) : Int) := Int.emod_eq_of_lt (by omega) (by omega)
  refine (wrPO_tree N f a u xs bs off len cap).trans ?_
  rw [show (((len : Nat) : Int) == 0) = false by rw [beq_eq_false_iff_ne]; omega, e0, mem_chain _ _ ⟨h.1, h.2.1⟩ h.2.2.1 ⟨by omega, by omega⟩, hm, e1, e2]
  have e3 : (intO (N : Int) (some (a + ((len : Nat) : Int)))).toNat - a.toNat = len := by simp only [intO_some]; omega
  have e4 : List.take len (List.take len (List.drop off xs)) = (List.take len (List.drop off xs)) := List.take_of_length_le (by rw [List.length_take]; exact Nat.min_le_left _ _)
  rw [e3, e4, Nat.zero_add, List.map_id']
  rw [decide_eq_true hp]
  rw [decide_eq_true (show a.toNat + (List.take len (List.drop off xs)).length ≤ N by rw [List.length_take, List.length_drop]; omega)]; rfl
theorem wrV_tree (N : Nat) (f : Nat → Int) (a : Int) (u : Bool) (xs : List Int) : (fnB CT Tryz.prog noSp noLs (fun _ _ => 20) 20 55 [.h 0, .raw (.int .u64 a), .h 1] [.box [.h 2, .h 3] 138, .sl false u 5 (xs : List Int), .sl true false 58 ([(0, (N : Int))] : List Rg), .rw 34 1 1 false [.h 4], .mem 5 N (f)]).get =
  bro ((((xs.length) : Nat) : Int) == 0) (some (SV.raw (Value.int IntKind.i64 0), [.box [.h 2, .h 3] 138, .sl false u 5 (xs : List Int), .sl true false 58 ([(0, (N : Int))] : List Rg), .rw 34 1 1 false [.h 4], .mem 5 N (f)])) (bro (decide ((((xs.length) : Nat) : Int) % 18446744073709551616 < (1 : Int))) (some (SV.raw (Value.int IntKind.i64 5), [.box [.h 2, .h 3] 138, .sl false u 5 (xs : List Int), .sl true false 58 ([(0, (N : Int))] : List Rg), .rw 34 1 1 false [.h 4], .mem 5 N (f)])) (bro (!decide (a ≤ (((N : Int) - 1) % 18446744073709551616 + 0) % 18446744073709551616)) (some (SV.raw (Value.int IntKind.i64 5), [.box [.h 2, .h 3] 138, .sl false u 5 (xs : List Int), .sl true false 58 ([(0, (N : Int))] : List Rg), .rw 34 1 1 false [.h 4], .mem 5 N (f)])) (bro (decide (a < 0)) (some (SV.raw (Value.int IntKind.i64 5), [.box [.h 2, .h 3] 138, .sl false u 5 (xs : List Int), .sl true false 58 ([(0, (N : Int))] : List Rg), .rw 34 1 1 false [.h 4], .mem 5 N (f)])) (bro (decide (((N : Int) - (a - 0) % 18446744073709551616) % 18446744073709551616 < (((xs.length) : Nat) : Int) % 18446744073709551616)) (some (SV.raw (Value.int IntKind.i64 5), [.box [.h 2, .h 3] 138, .sl false u 5 (xs : List Int), .sl true false 58 ([(0, (N : Int))] : List Rg), .rw 34 1 1 false [.h 4], .mem 5 N (f)])) (bro (bOk ((a - 0) % 18446744073709551616) (intO (N : Int) (some (((a - 0) % 18446744073709551616 + (((xs.length) : Nat) : Int) % 18446744073709551616) % 18446744073709551616))) (roomV 0 N none) && atV 0 N ((a - 0) % 18446744073709551616) none) (bro (decide (0 + ((a - 0) % 18446744073709551616).toNat + (List.take ((intO (N : Int) (some (((a - 0) % 18446744073709551616 + (((xs.length) : Nat) : Int) % 18446744073709551616) % 18446744073709551616))).toNat - ((a - 0) % 18446744073709551616).toNat) xs).length ≤ N)) (some (SV.raw (Value.int IntKind.i64 0), [.box [.h 2, .h 3] 138, .sl false u 5 (xs : List Int), .sl true false 58 ([(0, (N : Int))] : List Rg), .rw 34 1 1 false [.h 4], .mem 5 N (wrM f (0 + ((a - 0) % 18446744073709551616).toNat) (List.map (fun x : Int => x) (List.take ((intO (N : Int) (some (((a - 0) % 18446744073709551616 + (((xs.length) : Nat) : Int) % 18446744073709551616) % 18446744073709551616))).toNat - ((a - 0) % 18446744073709551616).toNat) xs)))])) none) none))))) := by kernel_rfl
theorem wrV {N : Nat} {f : Nat → Int} {a : Int} {u : Bool} {xs : List Int} (hg : memG N a ((xs.length) : Nat) = true) (hm : memC N a ((xs.length) : Nat) = true) : (fnB CT Tryz.prog noSp noLs (fun _ _ => 20) 20 55 [.h 0, .raw (.int .u64 a), .h 1] [.box [.h 2, .h 3] 138, .sl false u 5 (xs : List Int), .sl true false 58 ([(0, (N : Int))] : List Rg), .rw 34 1 1 false [.h 4], .mem 5 N (f)]).get =
    some (SV.raw (Value.int IntKind.i64 0), [.box [.h 2, .h 3] 138, .sl false u 5 (xs : List Int), .sl true false 58 ([(0, (N : Int))] : List Rg), .rw 34 1 1 false [.h 4], .mem 5 N (wrM f a.toNat xs)]) := by
  have h := memG_iff.1 hg
  have c : 1 ≤ (((xs.length) : Nat) : Int) ∧ a + (((xs.length) : Nat) : Int) ≤ N := of_decide_eq_true hm
  have e0 : (((xs.length) : Nat) : Int) % 18446744073709551616 = (((xs.length) : Nat) : Int) := Int.emod_eq_of_lt (by omega) (by omega)
  have e1 : (a - 0) % 18446744073709551616 = a := by rw [Int.sub_zero]; exact Int.emod_eq_of_lt h.2.2.1.1 h.2.2.1.2
  have e2 : (a + (((xs.length) : Nat) : Int)) % 18446744073709551616 = a + (((xs.length) : Nat) : Int) := Int.emod_eq_of_lt (by omega) (by omega)
  refine (wrV_tree N f a u xs).trans ?_
  rw [show ((((xs.length) : Nat) : Int) == 0) = false by rw [beq_eq_false_iff_ne]; omega, e0, mem_chain _ _ ⟨h.1, h.2.1⟩ h.2.2.1 ⟨by omega, by omega⟩, hm, e1, e2]
  have e3 : (intO (N : Int) (some (a + (((xs.length) : Nat) : Int)))).toNat - a.toNat = (xs.length) := by simp only [intO_some]; omega
  have e4 : List.take (xs.length) xs = xs := List.take_of_length_le (Nat.le_refl _)
  rw [e3, e4, Nat.zero_add, List.map_id']
  
  rw [decide_eq_true (show a.toNat + xs.length ≤ N by omega)]; rfl
theorem wrPV_tree (N : Nat) (f : Nat → Int) (a : Int) (u : Bool) (xs : List Int) (bs off len : Nat) (cap : Option Nat) : (fnB CT Tryz.prog noSp noLs (fun _ _ => 20) 20 55 [.h 0, .raw (.int .u64 a), .vs 1 1 bs off len cap] [.box [.h 2, .h 3] 138, .sl false u 5 (xs : List Int), .sl true false 58 ([(0, (N : Int))] : List Rg), .rw 34 1 1 false [.h 4], .mem 5 N (f)]).get =
  bro (((len : Nat) : Int) == 0) (some (SV.raw (Value.int IntKind.i64 0), [.box [.h 2, .h 3] 138, .sl false u 5 (xs : List Int), .sl true false 58 ([(0, (N : Int))] : List Rg), .rw 34 1 1 false [.h 4], .mem 5 N (f)])) (bro (decide (((len : Nat) : Int) % 18446744073709551616 < (1 : Int))) (some (SV.raw (Value.int IntKind.i64 5), [.box [.h 2, .h 3] 138, .sl false u 5 (xs : List Int), .sl true false 58 ([(0, (N : Int))] : List Rg), .rw 34 1 1 false [.h 4], .mem 5 N (f)])) (bro (!decide (a ≤ (((N : Int) - 1) % 18446744073709551616 + 0) % 18446744073709551616)) (some (SV.raw (Value.int IntKind.i64 5), [.box [.h 2, .h 3] 138, .sl false u 5 (xs : List Int), .sl true false 58 ([(0, (N : Int))] : List Rg), .rw 34 1 1 false [.h 4], .mem 5 N (f)])) (bro (decide (a < 0)) (some (SV.raw (Value.int IntKind.i64 5), [.box [.h 2, .h 3] 138, .sl false u 5 (xs : List Int), .sl true false 58 ([(0, (N : Int))] : List Rg), .rw 34 1 1 false [.h 4], .mem 5 N (f)])) (bro (decide (((N : Int) - (a - 0) % 18446744073709551616) % 18446744073709551616 < ((len : Nat) : Int) % 18446744073709551616)) (some (SV.raw (Value.int IntKind.i64 5), [.box [.h 2, .h 3] 138, .sl false u 5 (xs : List Int), .sl true false 58 ([(0, (N : Int))] : List Rg), .rw 34 1 1 false [.h 4], .mem 5 N (f)])) (bro (bOk ((a - 0) % 18446744073709551616) (intO (N : Int) (some (((a - 0) % 18446744073709551616 + ((len : Nat) : Int) % 18446744073709551616) % 18446744073709551616))) (roomV 0 N none) && atV 0 N ((a - 0) % 18446744073709551616) none) (bro (decide (off + len ≤ xs.length)) (bro (decide (0 + ((a - 0) % 18446744073709551616).toNat + (List.take ((intO (N : Int) (some (((a - 0) % 18446744073709551616 + ((len : Nat) : Int) % 18446744073709551616) % 18446744073709551616))).toNat - ((a - 0) % 18446744073709551616).toNat) (List.take len (List.drop off xs))).length ≤ N)) (some (SV.raw (Value.int IntKind.i64 0), [.box [.h 2, .h 3] 138, .sl false u 5 (xs : List Int), .sl true false 58 ([(0, (N : Int))] : List Rg), .rw 34 1 1 false [.h 4], .mem 5 N (wrM f (0 + ((a - 0) % 18446744073709551616).toNat) (List.map (fun x : Int => x) (List.take ((intO (N : Int) (some (((a - 0) % 18446744073709551616 + ((len : Nat) : Int) % 18446744073709551616) % 18446744073709551616))).toNat - ((a - 0) % 18446744073709551616).toNat) (List.take len (List.drop off xs)))))])) none) none) none))))) := by kernel_rfl
theorem wrPV {N : Nat} {f : Nat → Int} {a : Int} {u : Bool} {xs : List Int} {bs off len : Nat} {cap : Option Nat} (hp : off + len ≤ xs.length) (hg : memG N a (len : Nat) = true) (hm : memC N a (len : Nat) = true) : (fnB CT Tryz.prog noSp noLs (fun _ _ => 20) 20 55 [.h 0, .raw (.int .u64 a), .vs 1 1 bs off len cap] [.box [.h 2, .h 3] 138, .sl false u 5 (xs : List Int), .sl true false 58 ([(0, (N : Int))] : List Rg), .rw 34 1 1 false [.h 4], .mem 5 N (f)]).get =
    some (SV.raw (Value.int IntKind.i64 0), [.box [.h 2, .h 3] 138, .sl false u 5 (xs : List Int), .sl true false 58 ([(0, (N : Int))] : List Rg), .rw 34 1 1 false [.h 4], .mem 5 N (wrM f a.toNat (List.take len (List.drop off xs)))]) := by
  have h := memG_iff.1 hg
  have c : 1 ≤ ((len : Nat) : Int) ∧ a + ((len : Nat) : Int) ≤ N := of_decide_eq_true hm
  have e0 : ((len : Nat) : Int) % 18446744073709551616 = ((len : Nat) : Int) := Int.emod_eq_of_lt (by omega) (by omega)
  have e1 : (a - 0) % 18446744073709551616 = a := by rw [Int.sub_zero]; exact Int.emod_eq_of_lt h.2.2.1.1 h.2.2.1.2
  have e2 : (a + ((len : Nat) : Int)) % 18446744073709551616 = a + ((len : Nat) : Int) := Int.emod_eq_of_lt (by omega) (by omega)
  refine (wrPV_tree N f a u xs bs off len cap).trans ?_
  rw [show (((len : Nat) : Int) == 0) = false by rw [beq_eq_false_iff_ne]; omega, e0, mem_chain _ _ ⟨h.1, h.2.1⟩ h.2.2.1 ⟨by omega, by omega⟩, hm, e1, e2]
  have e3 : (intO (N : Int) (some (a + ((len : Nat) : Int)))).toNat - a.toNat = len := by simp only [intO_some]; omega
  have e4 : List.take len (List.take len (List.drop off xs)) = (List.take len (List.drop off xs)) := List.take_of_length_le (by rw [List.length_take]; exact Nat.min_le_left _ _)
  rw [e3, e4, Nat.zero_add, List.map_id']
  rw [decide_eq_true hp]
  rw [decide_eq_true (show a.toNat + (List.take len (List.drop off xs)).length ≤ N by rw [List.length_take, List.length_drop]; omega)]; rfl
def writeT : FnF CT := fun ws os => match ws, os with
  | [.h 0, .raw (.int .u64 a), .h 1], [.box [.h 2, .h 3] 138, .sl true u 5 xs, .sl true false 58 rg, .rw 34 1 1 false [.h 4], .mem 5 N f] =>
    .br (rgB rg N) (.br (memG N a ((@List.length Int xs) : Nat)) (.br (memC N a ((@List.length Int xs) : Nat)) (.leaf (SV.raw (Value.int IntKind.i64 0), [.box [.h 2, .h 3] 138, .sl true u 5 (xs : List Int), .sl true false 58 ([(0, (N : Int))] : List Rg), .rw 34 1 1 false [.h 4], .mem 5 N (wrM f a.toNat xs)])) .fail) .fail) .fail
  | [.h 0, .raw (.int .u64 a), .vs 1 1 bs off len cap], [.box [.h 2, .h 3] 138, .sl true u 5 xs, .sl true false 58 rg, .rw 34 1 1 false [.h 4], .mem 5 N f] =>
    .br (rgB rg N) (.br (decide (off + len ≤ @List.length Int xs)) (.br (memG N a (len : Nat)) (.br (memC N a (len : Nat)) (.leaf (SV.raw (Value.int IntKind.i64 0), [.box [.h 2, .h 3] 138, .sl true u 5 (xs : List Int), .sl true false 58 ([(0, (N : Int))] : List Rg), .rw 34 1 1 false [.h 4], .mem 5 N (wrM f a.toNat (@List.take Int len (@List.drop Int off xs)))])) .fail) .fail) .fail) .fail
  | [.h 0, .raw (.int .u64 a), .h 1], [.box [.h 2, .h 3] 138, .sl false u 5 xs, .sl true false 58 rg, .rw 34 1 1 false [.h 4], .mem 5 N f] =>
    .br (rgB rg N) (.br (memG N a ((@List.length Int xs) : Nat)) (.br (memC N a ((@List.length Int xs) : Nat)) (.leaf (SV.raw (Value.int IntKind.i64 0), [.box [.h 2, .h 3] 138, .sl false u 5 (xs : List Int), .sl true false 58 ([(0, (N : Int))] : List Rg), .rw 34 1 1 false [.h 4], .mem 5 N (wrM f a.toNat xs)])) .fail) .fail) .fail
  | [.h 0, .raw (.int .u64 a), .vs 1 1 bs off len cap], [.box [.h 2, .h 3] 138, .sl false u 5 xs, .sl true false 58 rg, .rw 34 1 1 false [.h 4], .mem 5 N f] =>
    .br (rgB rg N) (.br (decide (off + len ≤ @List.length Int xs)) (.br (memG N a (len : Nat)) (.br (memC N a (len : Nat)) (.leaf (SV.raw (Value.int IntKind.i64 0), [.box [.h 2, .h 3] 138, .sl false u 5 (xs : List Int), .sl true false 58 ([(0, (N : Int))] : List Rg), .rw 34 1 1 false [.h 4], .mem 5 N (wrM f a.toNat (@List.take Int len (@List.drop Int off xs)))])) .fail) .fail) .fail) .fail
  | _, _ => .fail
theorem writeT_ok : ∀ args os r, (writeT args os).get = some r → FnB Tryz.prog 55 args os r := fun args os r h => by
  unfold writeT at h
  split at h
  · rename_i a u xs rg N f
    change List Rg at rg
    change List Int at xs
    obtain ⟨h1, hA⟩ := Tr.get_ask.1 h
    clear h
    obtain rfl : rg = [(0, (N : Int))] := rgB_eq h1
    obtain ⟨h2, hB⟩ := Tr.get_ask.1 hA
    obtain ⟨h3, hC⟩ := Tr.get_ask.1 hB
    simp only [Tr.get, Option.some.injEq] at hC
    subst hC
    exact fnB_ok plain mixed noSp_ok noLs_ok (unr := fun _ _ => 20) (d := 20) (wrO h2 h3)
  · rename_i a bs off len cap u xs rg N f
    change List Rg at rg
    change List Int at xs
    obtain ⟨h1, hA⟩ := Tr.get_ask.1 h
    clear h
    obtain rfl : rg = [(0, (N : Int))] := rgB_eq h1
    obtain ⟨hp, hA⟩ := Tr.get_ask.1 hA
    have hp : off + len ≤ xs.length := of_decide_eq_true hp
    obtain ⟨h2, hB⟩ := Tr.get_ask.1 hA
    obtain ⟨h3, hC⟩ := Tr.get_ask.1 hB
    simp only [Tr.get, Option.some.injEq] at hC
    subst hC
    exact fnB_ok plain mixed noSp_ok noLs_ok (unr := fun _ _ => 20) (d := 20) (wrPO hp h2 h3)
  · rename_i a u xs rg N f
    change List Rg at rg
    change List Int at xs
    obtain ⟨h1, hA⟩ := Tr.get_ask.1 h
    clear h
    obtain rfl : rg = [(0, (N : Int))] := rgB_eq h1
    obtain ⟨h2, hB⟩ := Tr.get_ask.1 hA
    obtain ⟨h3, hC⟩ := Tr.get_ask.1 hB
    simp only [Tr.get, Option.some.injEq] at hC
    subst hC
    exact fnB_ok plain mixed noSp_ok noLs_ok (unr := fun _ _ => 20) (d := 20) (wrV h2 h3)
  · rename_i a bs off len cap u xs rg N f
    change List Rg at rg
    change List Int at xs
    obtain ⟨h1, hA⟩ := Tr.get_ask.1 h
    clear h
    obtain rfl : rg = [(0, (N : Int))] := rgB_eq h1
    obtain ⟨hp, hA⟩ := Tr.get_ask.1 hA
    have hp : off + len ≤ xs.length := of_decide_eq_true hp
    obtain ⟨h2, hB⟩ := Tr.get_ask.1 hA
    obtain ⟨h3, hC⟩ := Tr.get_ask.1 hB
    simp only [Tr.get, Option.some.injEq] at hC
    subst hC
    exact fnB_ok plain mixed noSp_ok noLs_ok (unr := fun _ _ => 20) (d := 20) (wrPV hp h2 h3)
  · cases h
end
end Go.Proofs.YtfgbhgeppdffaaaGreat
namespace Go.Sx
noncomputable section
open Go.RowKit
variable {C : Tab} {P : Program}
theorem Fn0.ofB {g : Nat} {args : List SV} {os : List (SO C)} {v : SV} {os' : List (SO C)} (h : FnB P g args os (v, os')) : Fn0 P g args os (v, os'.drop os.length) := fun B X ρ w vals hX RR hd => by
  obtain ⟨h1, h2⟩ := h.2 B X ρ w vals hX RR hd
  refine ⟨h1, h2.mono ?_⟩
  rintro e w' ⟨ρ', u, rfl, h3, h4⟩
  refine ⟨ρ', u, rfl, ?_, h4⟩
  have hle : os.length ≤ os'.length := h.1.le
  have e1 : os.length + (os'.drop os.length).length = os'.length := by rw [List.length_drop]; omega
  have := Rel.less (hp' := numH os.length (os'.drop os.length)) h3 fun j o hj => by
    obtain ⟨q1, q2⟩ := find_num hj
    rw [List.getElem?_drop, show os.length + (j - os.length) = j by omega] at q2
    have := num_find (m := 0) q2
    rwa [Nat.zero_add] at this
  show Rel B X ρ' (numH os.length (os'.drop os.length)) (os.length + (os'.drop os.length).length) w'
  rw [e1]; exact this
def opq {α : Type} (a : α) : α := Classical.choose (⟨a, rfl⟩ : ∃ x, x = a)
theorem opq_eq {α : Type} (a : α) : opq a = a := Classical.choose_spec (⟨a, rfl⟩ : ∃ x, x = a)
end
end Go.Sx
namespace Go.Proofs.YtfgbhgeppdffaaaGreat
open Go Go.Sx Go.RowKit
set_option maxRecDepth 1000000
set_option maxHeartbeats 8000000
set_option linter.unusedVariables false
set_option linter.unusedSimpArgs false
noncomputable section
theorem cf_tree (full : Bool) (ts : List Sg) : (fnBD CT Tryz.prog noSp lsCk lsCku 10 118 [.h 0] [.sl false full 101 (ts : List Sg)]).get =
  bro (decide ((64 : Int) < (↑ts.length : Int))) (some (SV.raw (Value.int IntKind.i64 3), [SO.sl false full 101 ts])) (bro ((↑ts.length : Int) == (↑ts.length : Int)) (bro (decide (ts.length ≤ (64 : Nat) ∧ wfS ts = true)) (bro (noneP (pad ts) ts.length) (bro (decide ((4294967296 : Int) ≤ sgSum ts)) (some (SV.raw (Value.int IntKind.i64 2), [SO.sl false full 101 ts])) (some (SV.raw (Value.int IntKind.i64 0), [SO.sl false full 101 ts]))) (some (SV.raw (Value.int IntKind.i64 2), [SO.sl false full 101 ts]))) (none)) (none)) := by kernel_rfl
theorem cfN_tree  : (fnBD CT Tryz.prog noSp lsCk lsCku 10 118 [.raw (.slice none 0 0)] []).get =
  some (SV.raw (Value.int IntKind.i64 0), []) := by kernel_rfl
theorem cf_get {full : Bool} {ts : List Sg} (hw : wfS ts = true) : (fnBD CT Tryz.prog noSp lsCk lsCku 10 118 [.h 0] [.sl false full 101 (ts : List Sg)]).get = some (SV.raw (.int .i64 (chkE ts)), [SO.sl false full 101 ts]) := by
  refine (cf_tree full ts).trans ?_
  unfold chkE
  by_cases h1 : 64 < ts.length
  · rw [decide_eq_true h1, decide_eq_true (show (64 : Int) < (ts.length : Int) by omega)]; rfl
  · rw [decide_eq_false h1, decide_eq_false (show ¬ (64 : Int) < (ts.length : Int) by omega), beq_self_eq_true, decide_eq_true (show ts.length ≤ 64 ∧ wfS ts = true from ⟨by omega, hw⟩), pad_none]
    unfold okSg
    rw [decide_eq_true (show ts.length ≤ 64 by omega), Bool.true_and]
    cases (ts.all sgB && sgOrd false ts) with
    | false => rfl
    | true =>
      by_cases h2 : sgSum ts < 4294967296
      · rw [decide_eq_true h2, decide_eq_false (show ¬ (4294967296 : Int) ≤ sgSum ts by omega)]; rfl
      · rw [decide_eq_false h2, decide_eq_true (show (4294967296 : Int) ≤ sgSum ts by omega)]; rfl
def chkI (ts : List Sg) : Int := opq (chkE ts)
theorem chkI_ok {ts : List Sg} : (chkI ts == 0) = okSg ts := by
  unfold chkI
  rw [opq_eq]
  unfold chkE
  by_cases h1 : 64 < ts.length
  · have : okSg ts = false := by unfold okSg; rw [decide_eq_false (show ¬ ts.length ≤ 64 by omega)]; rfl
    rw [decide_eq_true h1, this]; rfl
  · rw [decide_eq_false h1]
    cases okSg ts <;> rfl
theorem chkI_bne {ts : List Sg} : (chkI ts != 0) = !(okSg ts) := by show (!(chkI ts == 0)) = _; rw [chkI_ok]
def chkT : FnF CT := fun ws os => match ws, os with
  | [.h 0], [.sl false full 101 ts] => .br (wfS ts) (.leaf (.raw (.int .i64 (chkI ts)), [])) .fail
  | [.raw (.slice none 0 0)], [] => .leaf (.raw (.int .i64 0), [])
  | _, _ => .fail
theorem chkT_ok : ∀ args os r, (chkT args os).get = some r → Fn0 Tryz.prog 118 args os r := fun args os r h => by
  unfold chkT at h
  split at h
  · rename_i full ts
    change List Sg at ts
    obtain ⟨h1, h2⟩ := Tr.get_ask.1 h
    simp only [Tr.get, Option.some.injEq] at h2
    subst h2
    have e : chkI ts = chkE ts := opq_eq _
    rw [e]
    exact Fn0.ofB (fnBD_ok plain mixed noSp_ok lsCk_ok (cf_get h1))
  · simp only [Tr.get, Option.some.injEq] at h
    subst h
    exact Fn0.ofB (fnBD_ok plain mixed noSp_ok lsCk_ok cfN_tree)
  · cases h
def sp1 : SpecT CT := addS 118 (seeS chkT) noSp
theorem sp1_ok : SpecTOk Tryz.prog sp1 := addS_ok (seeS_ok chkT_ok) noSp_ok
abbrev paSl : List Nat := [0, 1, 4, 10, 11, 12]
@[reducible] def paA (full : Bool) (ts : List Sg) (b : Bool) (n K : Int) : List SV × List (SO CT) := ([.h 0, .raw (.bool b), .raw (.slice none 0 0), .h 0, .raw (.int .i64 n), .raw (.int .i64 K)], [.sl false full 101 (ts : List Sg)])
@[reducible] def paB (full : Bool) (ts : List Sg) (us : List Sg) (b : Bool) (n K : Int) : List SV × List (SO CT) := ([.h 0, .raw (.bool b), .h 1, .h 0, .raw (.int .i64 n), .raw (.int .i64 K)], [.sl false full 101 (ts : List Sg), .sl true false 101 (us : List Sg)])
@[reducible] def paN (b : Bool) (n K : Int) : List SV × List (SO CT) := ([.raw (.slice none 0 0), .raw (.bool b), .raw (.slice none 0 0), .raw (.slice none 0 0), .raw (.int .i64 n), .raw (.int .i64 K)], [])
abbrev paR (nb : Nat) (x : List SV × List (SO CT)) := roundG CT Tryz.prog sp1 noLs (fun _ _ => 20) 10 61 0 paSl ⟨x.1, nb, x.2⟩
abbrev toSl : List Nat := [0, 2, 3, 9, 10, 11]
@[reducible] def toA (full : Bool) (ts : List Sg) (r v : Int) (n K : Int) : List SV × List (SO CT) := ([.h 0, .raw (.int .u64 r), .raw (.int .u64 v), .h 0, .raw (.int .i64 n), .raw (.int .i64 K)], [.sl false full 101 (ts : List Sg)])
@[reducible] def toN (r v : Int) (n K : Int) : List SV × List (SO CT) := ([.raw (.slice none 0 0), .raw (.int .u64 r), .raw (.int .u64 v), .raw (.slice none 0 0), .raw (.int .i64 n), .raw (.int .i64 K)], [])
abbrev toR (nb : Nat) (x : List SV × List (SO CT)) := roundG CT Tryz.prog sp1 noLs (fun _ _ => 20) 10 65 0 toSl ⟨x.1, nb, x.2⟩
def sp2 : SpecT CT := addS 55 (footS writeT) (addS 62 (footS readT) (addS 56 (footS hasT) sp1))
theorem sp2_ok : SpecTOk Tryz.prog sp2 := addS_ok (footS_ok writeT_ok) (addS_ok (footS_ok readT_ok) (addS_ok (footS_ok hasT_ok) sp1_ok))
abbrev inSl : List Nat := [0, 4, 23, 24, 25]
@[reducible] def memS (own full : Bool) (ts : List Sg) (N : Nat) (f : Nat → Int) : List (SO CT) := [.box [.h 2, .h 3] 138, .sl own full 101 (ts : List Sg), .sl true false 58 ([(0, (N : Int))] : List Rg), .rw 34 1 1 false [.h 4], .mem 5 N f]
@[reducible] def inA (own full : Bool) (ts : List Sg) (N : Nat) (f : Nat → Int) (e n K : Int) : List SV × List (SO CT) := ([.h 0, .raw (.int .i64 e), .h 1, .raw (.int .i64 n), .raw (.int .i64 K)], memS own full ts N f)
abbrev inR (nb : Nat) (x : List SV × List (SO CT)) := roundG CT Tryz.prog sp2 noLs (fun _ _ => 20) 10 60 0 inSl ⟨x.1, nb, x.2⟩
theorem paA_tree (full : Bool) (ts : List Sg) (b : Bool) (n K : Int) : (paR 1 (paA full ts b n K)).get =
  bro (decide (K < n)) (bro (inB K ts.length) (bro (decide (K.toNat < ts.length)) (bro ((elS ts K).snd.snd == b) (bro (inR64 (K + (1 : Int))) (some (Ex.normal, [SV.h 0, SV.raw (Value.bool b), SV.h 1, SV.h 0, SV.raw (Value.int IntKind.i64 n), SV.raw (Value.int IntKind.i64 (K + (1 : Int)))], [SO.sl false full 101 ts, SO.sl true false 101 [((elS ts K).fst, (elS ts K).snd.fst, (elS ts K).snd.snd)]])) (some (Ex.normal, [SV.h 0, SV.raw (Value.bool b), SV.h 1, SV.h 0, SV.raw (Value.int IntKind.i64 n), SV.raw (Value.int IntKind.i64 (IntKind.i64.wrap (K + (1 : Int))))], [SO.sl false full 101 ts, SO.sl true false 101 [((elS ts K).fst, (elS ts K).snd.fst, (elS ts K).snd.snd)]]))) (bro (inR64 (K + (1 : Int))) (some (Ex.normal, [SV.h 0, SV.raw (Value.bool b), SV.raw (Value.slice none 0 0), SV.h 0, SV.raw (Value.int IntKind.i64 n), SV.raw (Value.int IntKind.i64 (K + (1 : Int)))], [SO.sl false full 101 ts])) (some (Ex.normal, [SV.h 0, SV.raw (Value.bool b), SV.raw (Value.slice none 0 0), SV.h 0, SV.raw (Value.int IntKind.i64 n), SV.raw (Value.int IntKind.i64 (IntKind.i64.wrap (K + (1 : Int))))], [SO.sl false full 101 ts])))) (none)) (none)) (some (Ex.exit 0, [SV.h 0, SV.raw (Value.bool b), SV.raw (Value.slice none 0 0), SV.h 0, SV.raw (Value.int IntKind.i64 n), SV.raw (Value.int IntKind.i64 K)], [SO.sl false full 101 ts])) := by kernel_rfl
theorem paB_tree (full : Bool) (ts us : List Sg) (b : Bool) (n K : Int) : (paR 1 (paB full ts us b n K)).get =
  bro (decide (K < n)) (bro (inB K ts.length) (bro (decide (K.toNat < ts.length)) (bro ((elS ts K).snd.snd == b) (bro (roomB (us.length + [((elS ts K).fst, (elS ts K).snd.fst, (elS ts K).snd.snd)].length) Tryz.prog.types[(101 : Nat)].bytes) (bro (inR64 (K + (1 : Int))) (some (Ex.normal, [SV.h 0, SV.raw (Value.bool b), SV.h 1, SV.h 0, SV.raw (Value.int IntKind.i64 n), SV.raw (Value.int IntKind.i64 (K + (1 : Int)))], [SO.sl false full 101 ts, SO.sl true false 101 (us ++ [((elS ts K).fst, (elS ts K).snd.fst, (elS ts K).snd.snd)])])) (some (Ex.normal, [SV.h 0, SV.raw (Value.bool b), SV.h 1, SV.h 0, SV.raw (Value.int IntKind.i64 n), SV.raw (Value.int IntKind.i64 (IntKind.i64.wrap (K + (1 : Int))))], [SO.sl false full 101 ts, SO.sl true false 101 (us ++ [((elS ts K).fst, (elS ts K).snd.fst, (elS ts K).snd.snd)])]))) (none)) (bro (inR64 (K + (1 : Int))) (some (Ex.normal, [SV.h 0, SV.raw (Value.bool b), SV.h 1, SV.h 0, SV.raw (Value.int IntKind.i64 n), SV.raw (Value.int IntKind.i64 (K + (1 : Int)))], [SO.sl false full 101 ts, SO.sl true false 101 us])) (some (Ex.normal, [SV.h 0, SV.raw (Value.bool b), SV.h 1, SV.h 0, SV.raw (Value.int IntKind.i64 n), SV.raw (Value.int IntKind.i64 (IntKind.i64.wrap (K + (1 : Int))))], [SO.sl false full 101 ts, SO.sl true false 101 us])))) (none)) (none)) (some (Ex.exit 0, [SV.h 0, SV.raw (Value.bool b), SV.h 1, SV.h 0, SV.raw (Value.int IntKind.i64 n), SV.raw (Value.int IntKind.i64 K)], [SO.sl false full 101 ts, SO.sl true false 101 us])) := by kernel_rfl
theorem paN_tree (b : Bool) (n K : Int) : (paR 0 (paN b n K)).get =
  bro (decide (K < n)) (none) (some (Ex.exit 0, [SV.raw (Value.slice none 0 0), SV.raw (Value.bool b), SV.raw (Value.slice none 0 0), SV.raw (Value.slice none 0 0), SV.raw (Value.int IntKind.i64 n), SV.raw (Value.int IntKind.i64 K)], [])) := by kernel_rfl
theorem toA_tree (full : Bool) (ts : List Sg) (r v : Int) (n K : Int) : (toR 1 (toA full ts r v n K)).get =
  bro (decide (K < n)) (bro (inB K ts.length) (bro (decide (K.toNat < ts.length)) (bro ((elS ts K).snd.snd) (bro (inR64 (K + (1 : Int))) (some (Ex.normal, [SV.h 0, SV.raw (Value.int IntKind.u64 r), SV.raw (Value.int IntKind.u64 ((v + (elS ts K).snd.fst % (18446744073709551616 : Int)) % (18446744073709551616 : Int))), SV.h 0, SV.raw (Value.int IntKind.i64 n), SV.raw (Value.int IntKind.i64 (K + (1 : Int)))], [SO.sl false full 101 ts])) (some (Ex.normal, [SV.h 0, SV.raw (Value.int IntKind.u64 r), SV.raw (Value.int IntKind.u64 ((v + (elS ts K).snd.fst % (18446744073709551616 : Int)) % (18446744073709551616 : Int))), SV.h 0, SV.raw (Value.int IntKind.i64 n), SV.raw (Value.int IntKind.i64 (IntKind.i64.wrap (K + (1 : Int))))], [SO.sl false full 101 ts]))) (bro (inR64 (K + (1 : Int))) (some (Ex.normal, [SV.h 0, SV.raw (Value.int IntKind.u64 ((r + (elS ts K).snd.fst % (18446744073709551616 : Int)) % (18446744073709551616 : Int))), SV.raw (Value.int IntKind.u64 v), SV.h 0, SV.raw (Value.int IntKind.i64 n), SV.raw (Value.int IntKind.i64 (K + (1 : Int)))], [SO.sl false full 101 ts])) (some (Ex.normal, [SV.h 0, SV.raw (Value.int IntKind.u64 ((r + (elS ts K).snd.fst % (18446744073709551616 : Int)) % (18446744073709551616 : Int))), SV.raw (Value.int IntKind.u64 v), SV.h 0, SV.raw (Value.int IntKind.i64 n), SV.raw (Value.int IntKind.i64 (IntKind.i64.wrap (K + (1 : Int))))], [SO.sl false full 101 ts])))) (none)) (none)) (some (Ex.exit 0, [SV.h 0, SV.raw (Value.int IntKind.u64 r), SV.raw (Value.int IntKind.u64 v), SV.h 0, SV.raw (Value.int IntKind.i64 n), SV.raw (Value.int IntKind.i64 K)], [SO.sl false full 101 ts])) := by kernel_rfl
theorem toN_tree (r v : Int) (n K : Int) : (toR 0 (toN r v n K)).get =
  bro (decide (K < n)) (none) (some (Ex.exit 0, [SV.raw (Value.slice none 0 0), SV.raw (Value.int IntKind.u64 r), SV.raw (Value.int IntKind.u64 v), SV.raw (Value.slice none 0 0), SV.raw (Value.int IntKind.i64 n), SV.raw (Value.int IntKind.i64 K)], [])) := by kernel_rfl
theorem in_tree (own full : Bool) (ts : List Sg) (N : Nat) (f : Nat → Int) (e n K : Int) : (inR 5 (inA own full ts N f e n K)).get =
  bro (decide (K < n)) (bro (inB K ts.length) (bro (decide (K.toNat < ts.length)) (bro (rgB [((0 : Int), (↑N : Int))] N) (bro (memG N (elS ts K).fst ((elS ts K).snd.fst % (18446744073709551616 : Int))) (bro (!memC N (elS ts K).fst ((elS ts K).snd.fst % (18446744073709551616 : Int))) (some (Ex.ret, [SV.h 0, SV.raw (Value.int IntKind.i64 5), SV.h 1, SV.raw (Value.int IntKind.i64 n), SV.raw (Value.int IntKind.i64 K)], [SO.box [SV.h 2, SV.h 3] 138, SO.sl own full 101 ts, SO.sl true false 58 [((0 : Int), (↑N : Int))], SO.rw 34 1 1 false [SV.h ((0 : Nat) + (1 : Nat) + (1 : Nat) + (1 : Nat) + (1 : Nat))], SO.mem 5 N f])) (bro (inR64 (K + (1 : Int))) (some (Ex.normal, [SV.h 0, SV.raw (Value.int IntKind.i64 e), SV.h 1, SV.raw (Value.int IntKind.i64 n), SV.raw (Value.int IntKind.i64 (K + (1 : Int)))], [SO.box [SV.h 2, SV.h 3] 138, SO.sl own full 101 ts, SO.sl true false 58 [((0 : Int), (↑N : Int))], SO.rw 34 1 1 false [SV.h ((0 : Nat) + (1 : Nat) + (1 : Nat) + (1 : Nat) + (1 : Nat))], SO.mem 5 N f])) (some (Ex.normal, [SV.h 0, SV.raw (Value.int IntKind.i64 e), SV.h 1, SV.raw (Value.int IntKind.i64 n), SV.raw (Value.int IntKind.i64 (IntKind.i64.wrap (K + (1 : Int))))], [SO.box [SV.h 2, SV.h 3] 138, SO.sl own full 101 ts, SO.sl true false 58 [((0 : Int), (↑N : Int))], SO.rw 34 1 1 false [SV.h ((0 : Nat) + (1 : Nat) + (1 : Nat) + (1 : Nat) + (1 : Nat))], SO.mem 5 N f])))) (none)) (none)) (none)) (none)) (some (Ex.exit 0, [SV.h 0, SV.raw (Value.int IntKind.i64 e), SV.h 1, SV.raw (Value.int IntKind.i64 n), SV.raw (Value.int IntKind.i64 K)], [SO.box [SV.h 2, SV.h 3] 138, SO.sl own full 101 ts, SO.sl true false 58 [((0 : Int), (↑N : Int))], SO.rw 34 1 1 false [SV.h ((0 : Nat) + (1 : Nat) + (1 : Nat) + (1 : Nat) + (1 : Nat))], SO.mem 5 N f])) := by kernel_rfl
theorem byS : Tryz.prog.types[(101 : Nat)].bytes ≤ 64 := of_decide_eq_true (by kernel_rfl)
theorem rmS {n : Nat} (h : n ≤ 200000) : roomB n Tryz.prog.types[(101 : Nat)].bytes = true := decide_eq_true (Nat.le_trans (Nat.mul_le_mul h byS) (by decide))
theorem partS_step {ts : List Sg} {b : Bool} {k : Nat} (hk : k < ts.length) : partS b (ts.take (k + 1)) = bif ((elS ts (k : Int)).2.2 == b) then partS b (ts.take k) ++ [elS ts (k : Int)] else partS b (ts.take k) := by
  unfold partS
  rw [List.take_add_one, List.getElem?_eq_getElem hk, el_at hk, Option.toList_some, List.filter_append, List.filter_cons]
  cases (ts[k].2.2 == b) with
  | true => rfl
  | false => exact List.append_nil _
theorem partS_len (b : Bool) (ts : List Sg) : (partS b ts).length ≤ ts.length := List.length_filter_le _ _
@[reducible] def paSt (full : Bool) (ts : List Sg) (us : List Sg) (b : Bool) (n K : Int) : List SV × List (SO CT) := match us with
  | [] => paA full ts b n K
  | x :: us => paB full ts (x :: us) b n K
theorem pa_round {full : Bool} {ts us : List Sg} {b : Bool} {k : Nat} (hk : k < ts.length) (hl : ts.length ≤ 100000) (hu : us.length ≤ 100000) :
    (paR 1 (paSt full ts us b ts.length k)).get = some (.normal, paSt full ts (bif ((elS ts (k : Int)).2.2 == b) then us ++ [elS ts (k : Int)] else us) b ts.length ((k + 1 : Nat) : Int)) := by
  have k1 := decide_eq_true (show (k : Int) < (ts.length : Int) by omega)
  have k2 : Sx.inB (k : Int) ts.length = true := inB_mk ⟨by omega, by omega⟩
  have k3 := decide_eq_true (show ((k : Nat) : Int).toNat < ts.length by omega)
  have k4 : inR64 ((k : Int) + 1) = true := inR64_mk (by omega)
  cases us with
  | nil =>
    refine (paA_tree full ts b _ _).trans ?_
    rw [k1, k2, k3, k4]
    cases ((elS ts (k : Int)).2.2 == b) <;> rfl
  | cons x us =>
    refine (paB_tree full ts (x :: us) b _ _).trans ?_
    have k5 : roomB ((x :: us).length + [((elS ts (k : Int)).fst, (elS ts (k : Int)).snd.fst, (elS ts (k : Int)).snd.snd)].length) Tryz.prog.types[(101 : Nat)].bytes = true := rmS (by show (x :: us).length + 1 ≤ _; omega)
    rw [k1, k2, k3, k4, k5]
    cases ((elS ts (k : Int)).2.2 == b) <;> rfl
theorem pa_end {full : Bool} {ts us : List Sg} {b : Bool} : (paR 1 (paSt full ts us b ts.length (ts.length : Int))).get = some (.exit 0, paSt full ts us b ts.length ts.length) := by
  have k1 : decide ((ts.length : Int) < (ts.length : Int)) = false := decide_eq_false (Int.lt_irrefl _)
  cases us with
  | nil => exact (paA_tree full ts b _ _).trans (by rw [k1]; rfl)
  | cons x us => exact (paB_tree full ts (x :: us) b _ _).trans (by rw [k1]; rfl)
theorem pa_loop : loopOf Tryz.prog 61 0 = some (((loopOf Tryz.prog 61 0).get!).1, (loopOf Tryz.prog 61 0).get!.2) := by kernel_rfl
theorem paSt_keep (full : Bool) (ts us : List Sg) (b : Bool) (n K : Int) : Keeps 1 (paA full ts b n 0).2 (paSt full ts us b n K).2 := by
  cases us <;> exact Keeps.of3 (Nat.le_of_ble_eq_true rfl) rfl
theorem pa_run {full : Bool} {ts : List Sg} {b : Bool} (hl : ts.length ≤ 100000) :
    Keeps 1 (paA full ts b ts.length 0).2 (paSt full ts (partS b ts) b ts.length ts.length).2 ∧ LoopRun Tryz.prog ((loopOf Tryz.prog 61 0).get!).1 (loopOf Tryz.prog 61 0).get!.2 1 (LI.st paSl ⟨(paA full ts b ts.length 0).1, 1, (paA full ts b ts.length 0).2⟩) fun x T => ∃ vs os, (x = .exit 0 ∧ (vs, os) = paSt full ts (partS b ts) b ts.length ts.length) ∧ T = ⟨zipT paSl vs, numH 0 os, os.length⟩ := by
  refine ⟨paSt_keep _ _ _ _ _ _, ?_⟩
  refine loop_li (σ := Nat) (st := fun k => paSt full ts (partS b (ts.take k)) b ts.length (k : Int)) (Inv := fun k => k ≤ ts.length) (μ := fun k => ts.length - k) (d := 10) (unr := fun _ _ => 20) (sp := sp1) (ls := noLs) plain mixed sp1_ok noLs_ok pa_loop (fun k hk => ?_) 0 (Nat.zero_le _)
  by_cases h5 : k < ts.length
  · refine ⟨_, pa_round h5 hl (Nat.le_trans (partS_len b _) (by rw [List.length_take]; omega)), fun _ => ⟨k + 1, h5, by show ts.length - (k + 1) < ts.length - k; omega, ?_⟩, nofun⟩
    show paSt _ _ (bif _ then _ else _) _ _ _ = paSt _ _ (partS b (ts.take (k + 1))) _ _ _
    rw [partS_step h5]
  · have hk : k ≤ ts.length := hk
    obtain rfl : k = ts.length := by omega
    rw [List.take_length]
    exact ⟨_, pa_end, nofun, fun _ => ⟨rfl, rfl⟩⟩
def paLeaf (full : Bool) (ts : List Sg) (L : List Sg) (b : Bool) (n : Int) : Tr (Ex × List SV × List (SO CT)) := .br (decide ((opq L).length = 0)) (.leaf (.exit 0, paA full ts b n n)) (.leaf (.exit 0, paB full ts (opq L) b n n))
theorem paLeaf_get (full : Bool) (ts L : List Sg) (b : Bool) (n : Int) : (paLeaf full ts L b n).get = some (.exit 0, paSt full ts L b n n) := by
  unfold paLeaf
  rw [opq_eq]
  cases L <;> rfl
def paLoop : LoopFn CT := fun li => match li with
  | ⟨[.h 0, .raw (.bool b), .raw (.slice none 0 0), .h 0, .raw (.int .i64 n), .raw (.int .i64 (.ofNat 0))], 1, [.sl false full 101 ts]⟩ => .br (n == ((@List.length Sg ts : Nat) : Int)) (.br (decide (@List.length Sg ts ≤ 100000)) (paLeaf full ts (partS b ts) b (@List.length Sg ts : Nat)) .fail) .fail
  | ⟨[.raw (.slice none 0 0), .raw (.bool b), .raw (.slice none 0 0), .raw (.slice none 0 0), .raw (.int .i64 (.ofNat 0)), .raw (.int .i64 (.ofNat 0))], 0, []⟩ => .leaf (.exit 0, paN b 0 0)
  | _ => .fail
theorem paLoop_ok : ∀ tm hp n x, (loopS paSl [] paLoop tm hp n).get = some x → InLoop Tryz.prog ((loopOf Tryz.prog 61 0).get!).1 (loopOf Tryz.prog 61 0).get!.2 tm hp n fun e tm hp n => (e, tm, hp, n) = x := loopS_of fun li r h => by
  unfold paLoop at h
  split at h
  · rename_i b n full ts
    change List Sg at ts
    obtain ⟨hn0, hB⟩ := Tr.get_ask.1 h
    obtain ⟨hl, hC⟩ := Tr.get_ask.1 hB
    clear h hB
    have hn0 : n = ((ts.length : Nat) : Int) := eq_of_beq hn0
    subst hn0
    have hr := Option.some.inj (hC.symm.trans (paLeaf_get _ _ _ _ _))
    subst hr
    exact pa_run (of_decide_eq_true hl)
  · rename_i b
    simp only [Tr.get, Option.some.injEq] at h
    subst h
    refine ⟨Keeps.of3 (Nat.le_of_ble_eq_true rfl) rfl, ?_⟩
    refine scan_li (n := 0) (stN := fun k => paN b 0 0) (stR := fun k => paN b 0 0) (p := fun _ => false) (d := 10) (unr := fun _ _ => 20) (sp := sp1) (ls := noLs) plain mixed sp1_ok noLs_ok pa_loop (fun k hk => by omega) ?_ rfl
    exact (paN_tree b 0 0).trans rfl
  · cases h
def rdS (ts : List Sg) : Int := sgSum (partS false ts)
def wrS (ts : List Sg) : Int := sgSum (partS true ts)
theorem sgSum_app : ∀ (l m : List Sg), sgSum (l ++ m) = sgSum l + sgSum m
  | [], m => by show sgSum m = 0 + sgSum m; omega
  | x :: r, m => by show x.2.1 + sgSum (r ++ m) = x.2.1 + sgSum r + sgSum m; rw [sgSum_app r m]; omega
theorem wf_part {b : Bool} {ts : List Sg} (h : wfS ts = true) : wfS (partS b ts) = true := List.all_eq_true.2 fun x hx => List.all_eq_true.1 h x (List.mem_filter.1 hx).1
theorem sum_part {b : Bool} {ts : List Sg} {k : Nat} (h : wfS ts = true) (hk : k ≤ 64) : 0 ≤ sgSum (partS b (ts.take k)) ∧ sgSum (partS b (ts.take k)) ≤ 64 * 4294967296 := by
  have h1 := wf_sum (wf_part (b := b) (wf_take (k := k) h))
  have h2 := partS_len b (ts.take k)
  have h3 : (ts.take k).length ≤ k := by rw [List.length_take]; exact Nat.min_le_left _ _
  omega
theorem sum_step {b : Bool} {ts : List Sg} {k : Nat} (hk : k < ts.length) : sgSum (partS b (ts.take (k + 1))) = bif ((elS ts (k : Int)).2.2 == b) then sgSum (partS b (ts.take k)) + (elS ts (k : Int)).2.1 else sgSum (partS b (ts.take k)) := by
  rw [partS_step hk]
  cases ((elS ts (k : Int)).2.2 == b) with
  | false => rfl
  | true => rw [cond_true, cond_true, sgSum_app]; show _ + ((elS ts (k : Int)).2.1 + 0) = _; rw [Int.add_zero]
@[reducible] def toSt (full : Bool) (ts : List Sg) (k : Nat) : List SV × List (SO CT) := toA full ts (sgSum (partS false (ts.take k))) (sgSum (partS true (ts.take k))) ts.length (k : Int)
theorem to_round {full : Bool} {ts : List Sg} {k : Nat} (hk : k < ts.length) (hl : ts.length ≤ 64) (hw : wfS ts = true) : (toR 1 (toSt full ts k)).get = some (.normal, toSt full ts (k + 1)) := by
  have k1 := decide_eq_true (show (k : Int) < (ts.length : Int) by omega)
  have k2 : Sx.inB (k : Int) ts.length = true := inB_mk ⟨by omega, by omega⟩
  have k3 := decide_eq_true (show ((k : Nat) : Int).toNat < ts.length by omega)
  have k4 : inR64 ((k : Int) + 1) = true := inR64_mk (by omega)
  have w1 := wf_at hw hk
  have e1 : ((elS ts (k : Int)).2.1 % 18446744073709551616) = (elS ts (k : Int)).2.1 := Int.emod_eq_of_lt w1.2.2.1 (by omega)
  have s1 := sum_part (b := false) (k := k) hw (by omega)
  have s2 := sum_part (b := true) (k := k) hw (by omega)
  have e2 : (sgSum (partS false (ts.take k)) + (elS ts (k : Int)).2.1) % 18446744073709551616 = sgSum (partS false (ts.take k)) + (elS ts (k : Int)).2.1 := Int.emod_eq_of_lt (by omega) (by omega)
  have e3 : (sgSum (partS true (ts.take k)) + (elS ts (k : Int)).2.1) % 18446744073709551616 = sgSum (partS true (ts.take k)) + (elS ts (k : Int)).2.1 := Int.emod_eq_of_lt (by omega) (by omega)
  have f1 := sum_step (b := false) hk
  have f2 := sum_step (b := true) hk
  refine (toA_tree full ts _ _ _ _).trans ?_
  rw [k1, k2, k3, k4, e1, e2, e3]
  show _ = some (Ex.normal, toA full ts (sgSum (partS false (ts.take (k + 1)))) (sgSum (partS true (ts.take (k + 1)))) ts.length ((k + 1 : Nat) : Int))
  rw [f1, f2]
  cases (elS ts (k : Int)).2.2 <;> rfl
theorem to_end {full : Bool} {ts : List Sg} : (toR 1 (toSt full ts ts.length)).get = some (.exit 0, toSt full ts ts.length) := by
  refine (toA_tree full ts _ _ _ _).trans ?_
  rw [decide_eq_false (Int.lt_irrefl _)]; rfl
theorem to_loop : loopOf Tryz.prog 65 0 = some (((loopOf Tryz.prog 65 0).get!).1, (loopOf Tryz.prog 65 0).get!.2) := by kernel_rfl
def toLoop : LoopFn CT := fun li => match li with
  | ⟨[.h 0, .raw (.int .u64 (.ofNat 0)), .raw (.int .u64 (.ofNat 0)), .h 0, .raw (.int .i64 n), .raw (.int .i64 (.ofNat 0))], 1, [.sl false full 101 ts]⟩ => .br (n == ((@List.length Sg ts : Nat) : Int)) (.br (decide (@List.length Sg ts ≤ 64 ∧ wfS ts = true)) (.leaf (.exit 0, toA full ts (rdS ts) (wrS ts) (@List.length Sg ts : Nat) (@List.length Sg ts : Nat))) .fail) .fail
  | ⟨[.raw (.slice none 0 0), .raw (.int .u64 (.ofNat 0)), .raw (.int .u64 (.ofNat 0)), .raw (.slice none 0 0), .raw (.int .i64 (.ofNat 0)), .raw (.int .i64 (.ofNat 0))], 0, []⟩ => .leaf (.exit 0, toN 0 0 0 0)
  | _ => .fail
theorem toLoop_ok : ∀ tm hp n x, (loopS toSl [] toLoop tm hp n).get = some x → InLoop Tryz.prog ((loopOf Tryz.prog 65 0).get!).1 (loopOf Tryz.prog 65 0).get!.2 tm hp n fun e tm hp n => (e, tm, hp, n) = x := loopS_of fun li r h => by
  unfold toLoop at h
  split at h
  · rename_i n full ts
    change List Sg at ts
    obtain ⟨hn0, hB⟩ := Tr.get_ask.1 h
    obtain ⟨hl, hC⟩ := Tr.get_ask.1 hB
    clear h hB
    have hn0 : n = ((ts.length : Nat) : Int) := eq_of_beq hn0
    subst hn0
    obtain ⟨h1, h2⟩ : ts.length ≤ 64 ∧ wfS ts = true := of_decide_eq_true hl
    simp only [Tr.get, Option.some.injEq] at hC
    subst hC
    refine ⟨Keeps.of3 (Nat.le_of_ble_eq_true rfl) rfl, ?_⟩
    have e0 : toA full ts (rdS ts) (wrS ts) ts.length ts.length = toSt full ts ts.length := by unfold toSt rdS wrS; rw [List.take_length]
    refine scan_li (n := ts.length) (stN := fun k => toSt full ts k) (stR := fun k => toSt full ts k) (p := fun _ => false) (d := 10) (unr := fun _ _ => 20) (sp := sp1) (ls := noLs) plain mixed sp1_ok noLs_ok to_loop (fun k hk => to_round hk h1 h2) to_end ?_
    rw [show noneP (fun _ => false) ts.length = true from noneP_iff.2 fun _ _ => rfl, ← e0]; rfl
  · simp only [Tr.get, Option.some.injEq] at h
    subst h
    refine ⟨Keeps.of3 (Nat.le_of_ble_eq_true rfl) rfl, ?_⟩
    refine scan_li (n := 0) (stN := fun k => toN 0 0 0 0) (stR := fun k => toN 0 0 0 0) (p := fun _ => false) (d := 10) (unr := fun _ _ => 20) (sp := sp1) (ls := noLs) plain mixed sp1_ok noLs_ok to_loop (fun k hk => by omega) ?_ rfl
    exact (toN_tree 0 0 0 0).trans rfl
  · cases h
def outP (N : Nat) (ts : List Sg) (k : Nat) : Bool := !(memC N (elS ts (k : Int)).1 (elS ts (k : Int)).2.1)
theorem in_round {own full : Bool} {ts : List Sg} {N : Nat} {f : Nat → Int} {e : Int} {k : Nat} (hk : k < ts.length) (hl : ts.length ≤ 64) (hw : wfS ts = true) (hN : 1 ≤ N ∧ N ≤ 4294967296) :
    (inR 5 (inA own full ts N f e ts.length k)).get = bro (outP N ts k) (some (.ret, inA own full ts N f 5 ts.length k)) (some (.normal, inA own full ts N f e ts.length ((k + 1 : Nat) : Int))) := by
  have k1 := decide_eq_true (show (k : Int) < (ts.length : Int) by omega)
  have k2 : Sx.inB (k : Int) ts.length = true := inB_mk ⟨by omega, by omega⟩
  have k3 := decide_eq_true (show ((k : Nat) : Int).toNat < ts.length by omega)
  have k4 : inR64 ((k : Int) + 1) = true := inR64_mk (by omega)
  have w1 := wf_at hw hk
  have e1 : ((elS ts (k : Int)).2.1 % 18446744073709551616) = (elS ts (k : Int)).2.1 := Int.emod_eq_of_lt w1.2.2.1 (by omega)
  have k5 : memG N (elS ts (k : Int)).1 (elS ts (k : Int)).2.1 = true := memG_iff.2 ⟨hN.1, hN.2, ⟨w1.1, w1.2.1⟩, w1.2.2⟩
  have k6 : rgB [((0 : Int), (N : Int))] N = true := by unfold rgB; simp
  refine (in_tree own full ts N f e _ _).trans ?_
  rw [e1, k1, k2, k3, k4, k5, k6]
  unfold outP
  cases memC N (elS ts (k : Int)).1 (elS ts (k : Int)).2.1 <;> rfl
theorem in_end {own full : Bool} {ts : List Sg} {N : Nat} {f : Nat → Int} {e : Int} : (inR 5 (inA own full ts N f e ts.length (ts.length : Int))).get = some (.exit 0, inA own full ts N f e ts.length ts.length) := by
  refine (in_tree own full ts N f e _ _).trans ?_
  rw [decide_eq_false (Int.lt_irrefl _)]; rfl
theorem in_loop : loopOf Tryz.prog 60 0 = some (((loopOf Tryz.prog 60 0).get!).1, (loopOf Tryz.prog 60 0).get!.2) := by kernel_rfl
def inLoop : LoopFn CT := fun li => match li with
  | ⟨[.h 0, .raw (.int .i64 e), .h 1, .raw (.int .i64 n), .raw (.int .i64 (.ofNat 0))], 5, [.box [.h 2, .h 3] 138, .sl own full 101 ts, .sl true false 58 rg, .rw 34 1 1 false [.h 4], .mem 5 N f]⟩ =>
    .br (n == ((@List.length Sg ts : Nat) : Int)) (.br (rgB rg N) (.br (decide (@List.length Sg ts ≤ 64 ∧ wfS ts = true ∧ 1 ≤ N ∧ N ≤ 4294967296)) (.br (noneP (outP N ts) (@List.length Sg ts)) (.leaf (.exit 0, inA own full ts N f e (@List.length Sg ts : Nat) (@List.length Sg ts : Nat))) (.leaf (.ret, inA own full ts N f 5 (@List.length Sg ts : Nat) (fstP (outP N ts) (@List.length Sg ts) : Nat)))) .fail) .fail) .fail
  | _ => .fail
theorem inLoop_ok : ∀ tm hp n x, (loopS inSl [] inLoop tm hp n).get = some x → InLoop Tryz.prog ((loopOf Tryz.prog 60 0).get!).1 (loopOf Tryz.prog 60 0).get!.2 tm hp n fun e tm hp n => (e, tm, hp, n) = x := loopS_of fun li r h => by
  unfold inLoop at h
  split at h
  · rename_i e n own full ts rg N f
    change List Sg at ts
    change List Rg at rg
    obtain ⟨hn0, hB⟩ := Tr.get_ask.1 h
    obtain ⟨hg, hC⟩ := Tr.get_ask.1 hB
    obtain ⟨hl, hD⟩ := Tr.get_ask.1 hC
    clear h hB hC
    obtain rfl : rg = [(0, (N : Int))] := rgB_eq hg
    have hn0 : n = ((ts.length : Nat) : Int) := eq_of_beq hn0
    subst hn0
    obtain ⟨h1, h2, h3⟩ : ts.length ≤ 64 ∧ wfS ts = true ∧ 1 ≤ N ∧ N ≤ 4294967296 := of_decide_eq_true hl
    refine ⟨?_, ?_⟩
    · rcases Tr.get_br.1 hD with ⟨_, hE⟩ | ⟨_, hE⟩ <;> (simp only [Tr.get, Option.some.injEq] at hE; subst hE; exact Keeps.of3 (Nat.le_of_ble_eq_true rfl) rfl)
    · exact scan_li (n := ts.length) (stN := fun k => inA own full ts N f e ts.length (k : Int)) (stR := fun k => inA own full ts N f 5 ts.length (k : Int)) (p := outP N ts) (d := 10) (unr := fun _ _ => 20) (sp := sp2) (ls := noLs) plain mixed sp2_ok noLs_ok in_loop (fun k hk => in_round hk h1 h2 h3) in_end hD
  · cases h
def lsP : LoopT CT := Sx.addL 60 0 (loopS inSl [] inLoop) (Sx.addL 65 0 (loopS toSl [] toLoop) (Sx.addL 61 0 (loopS paSl [] paLoop) noLs))
theorem lsP_ok : LoopTOk Tryz.prog lsP := addL_ok in_loop inLoop_ok (addL_ok to_loop toLoop_ok (addL_ok pa_loop paLoop_ok noLs_ok))
abbrev lsPu (g b : Nat) : Nat := match g, b with
  | 60, 0 | 61, 0 | 65, 0 => 0 | _, _ => 20
theorem paF_tree (full : Bool) (ts : List Sg) (b : Bool) : (fnB CT Tryz.prog sp1 lsP lsPu 10 61 [.h 0, .raw (.bool b)] [.sl false full 101 (ts : List Sg)]).get =
  bro (wfS ts) (bro (chkI ts != (0 : Int)) (some (SV.raw (Value.slice none 0 0), [SO.sl false full 101 ts])) (bro ((↑ts.length : Int) == (↑ts.length : Int)) (bro (decide (ts.length ≤ (100000 : Nat))) (bro (decide ((opq (partS b ts)).length = (0 : Nat))) (some (SV.raw (Value.slice none 0 0), [SO.sl false full 101 ts])) (some (SV.h 1, [SO.sl false full 101 ts, SO.sl true false 101 (opq (partS b ts))]))) (none)) (none))) (none) := by kernel_rfl
theorem paFN_tree (b : Bool) : (fnB CT Tryz.prog sp1 lsP lsPu 10 61 [.raw (.slice none 0 0), .raw (.bool b)] []).get =
  some (SV.raw (Value.slice none 0 0), []) := by kernel_rfl
theorem toF_tree (full : Bool) (ts : List Sg) : (fnB CT Tryz.prog sp1 lsP lsPu 10 65 [.h 0] [.sl false full 101 (ts : List Sg)]).get =
  bro (wfS ts) (bro (chkI ts != (0 : Int)) (some (SV.tup [SV.raw (Value.int IntKind.u64 0), SV.raw (Value.int IntKind.u64 0)], [SO.sl false full 101 ts])) (bro ((↑ts.length : Int) == (↑ts.length : Int)) (bro (decide (ts.length ≤ (64 : Nat) ∧ wfS ts = true)) (some (SV.tup [SV.raw (Value.int IntKind.u64 (rdS ts)), SV.raw (Value.int IntKind.u64 (wrS ts))], [SO.sl false full 101 ts])) (none)) (none))) (none) := by kernel_rfl
theorem toFN_tree  : (fnB CT Tryz.prog sp1 lsP lsPu 10 65 [.raw (.slice none 0 0)] []).get =
  some (SV.tup [SV.raw (Value.int IntKind.u64 0), SV.raw (Value.int IntKind.u64 0)], []) := by kernel_rfl
theorem inO_tree (full : Bool) (ts : List Sg) (N : Nat) (f : Nat → Int) : (fnB CT Tryz.prog sp2 lsP lsPu 10 60 [.h 0, .h 1] (memS true full ts N f)).get =
  bro (rgB [((0 : Int), (↑N : Int))] N) (bro (memG N (0 : Int) (0 : Int)) (bro (wfS ts) (bro (chkI ts != (0 : Int)) (some (SV.raw (Value.int IntKind.i64 (chkI ts)), [SO.box [SV.h 2, SV.h 3] 138, SO.sl true full 101 ts, SO.sl true false 58 [((0 : Int), (↑N : Int))], SO.rw 34 1 1 false [SV.h ((0 : Nat) + (1 : Nat) + (1 : Nat) + (1 : Nat) + (1 : Nat))], SO.mem 5 N f])) (bro ((↑ts.length : Int) == (↑ts.length : Int)) (bro (rgB [((0 : Int), (↑N : Int))] N) (bro (decide (ts.length ≤ (64 : Nat) ∧ wfS ts = true ∧ (1 : Nat) ≤ N ∧ N ≤ (4294967296 : Nat))) (bro (noneP (outP N ts) ts.length) (some (SV.raw (Value.int IntKind.i64 0), [SO.box [SV.h 2, SV.h 3] 138, SO.sl true full 101 ts, SO.sl true false 58 [((0 : Int), (↑N : Int))], SO.rw 34 1 1 false [SV.h ((0 : Nat) + (1 : Nat) + (1 : Nat) + (1 : Nat) + (1 : Nat))], SO.mem 5 N f])) (some (SV.raw (Value.int IntKind.i64 5), [SO.box [SV.h 2, SV.h 3] 138, SO.sl true full 101 ts, SO.sl true false 58 [((0 : Int), (↑N : Int))], SO.rw 34 1 1 false [SV.h ((0 : Nat) + (1 : Nat) + (1 : Nat) + (1 : Nat) + (1 : Nat))], SO.mem 5 N f]))) (none)) (none)) (none))) (none)) (none)) (none) := by kernel_rfl
theorem inV_tree (full : Bool) (ts : List Sg) (N : Nat) (f : Nat → Int) : (fnB CT Tryz.prog sp2 lsP lsPu 10 60 [.h 0, .h 1] (memS false full ts N f)).get =
  bro (rgB [((0 : Int), (↑N : Int))] N) (bro (memG N (0 : Int) (0 : Int)) (bro (wfS ts) (bro (chkI ts != (0 : Int)) (some (SV.raw (Value.int IntKind.i64 (chkI ts)), [SO.box [SV.h 2, SV.h 3] 138, SO.sl false full 101 ts, SO.sl true false 58 [((0 : Int), (↑N : Int))], SO.rw 34 1 1 false [SV.h ((0 : Nat) + (1 : Nat) + (1 : Nat) + (1 : Nat) + (1 : Nat))], SO.mem 5 N f])) (bro ((↑ts.length : Int) == (↑ts.length : Int)) (bro (rgB [((0 : Int), (↑N : Int))] N) (bro (decide (ts.length ≤ (64 : Nat) ∧ wfS ts = true ∧ (1 : Nat) ≤ N ∧ N ≤ (4294967296 : Nat))) (bro (noneP (outP N ts) ts.length) (some (SV.raw (Value.int IntKind.i64 0), [SO.box [SV.h 2, SV.h 3] 138, SO.sl false full 101 ts, SO.sl true false 58 [((0 : Int), (↑N : Int))], SO.rw 34 1 1 false [SV.h ((0 : Nat) + (1 : Nat) + (1 : Nat) + (1 : Nat) + (1 : Nat))], SO.mem 5 N f])) (some (SV.raw (Value.int IntKind.i64 5), [SO.box [SV.h 2, SV.h 3] 138, SO.sl false full 101 ts, SO.sl true false 58 [((0 : Int), (↑N : Int))], SO.rw 34 1 1 false [SV.h ((0 : Nat) + (1 : Nat) + (1 : Nat) + (1 : Nat) + (1 : Nat))], SO.mem 5 N f]))) (none)) (none)) (none))) (none)) (none)) (none) := by kernel_rfl
theorem okSg_len {ts : List Sg} (h : okSg ts = true) : ts.length ≤ 64 := by
  unfold okSg at h
  rw [Bool.and_eq_true] at h
  exact of_decide_eq_true h.1
def okI (ts : List Sg) : Bool := opq (okSg ts)
theorem okI_eq (ts : List Sg) : okI ts = okSg ts := opq_eq _
def partI (b : Bool) (ts : List Sg) : List Sg := opq (partS b ts)
theorem partI_eq (b : Bool) (ts : List Sg) : partI b ts = partS b ts := opq_eq _
def partT : FnF CT := fun ws os => match ws, os with
  | [.h 0, .raw (.bool b)], [.sl false full 101 ts] => .br (wfS ts) (.br (okI ts) (.br (decide ((partI b ts).length = 0)) (.leaf (.raw (.slice none 0 0), [])) (.leaf (.h 1, [.sl true false 101 (partI b ts : List Sg)]))) (.leaf (.raw (.slice none 0 0), []))) .fail
  | [.raw (.slice none 0 0), .raw (.bool b)], [] => .leaf (.raw (.slice none 0 0), [])
  | _, _ => .fail
theorem partT_ok : ∀ args os r, (partT args os).get = some r → Fn0 Tryz.prog 61 args os r := fun args os r h => by
  unfold partT at h
  split at h
  · rename_i b full ts
    change List Sg at ts
    obtain ⟨h1, h2⟩ := Tr.get_ask.1 h
    have k := paF_tree full ts b
    rw [h1, chkI_bne, beq_self_eq_true] at k
    rw [okI_eq] at h2
    rcases Tr.get_br.1 h2 with ⟨h3, h4⟩ | ⟨h3, h4⟩
    · rw [h3, decide_eq_true (show ts.length ≤ 100000 from Nat.le_trans (okSg_len h3) (by decide))] at k
      rcases Tr.get_br.1 h4 with ⟨h5, h6⟩ | ⟨h5, h6⟩
      · simp only [Tr.get, Option.some.injEq] at h6
        subst h6
        have h5 : decide ((opq (partS b ts)).length = 0) = true := h5
        rw [h5] at k
        exact Fn0.ofB (fnB_ok plain mixed sp1_ok lsP_ok k)
      · simp only [Tr.get, Option.some.injEq] at h6
        subst h6
        have h5 : decide ((opq (partS b ts)).length = 0) = false := h5
        rw [h5] at k
        exact Fn0.ofB (fnB_ok plain mixed sp1_ok lsP_ok k)
    · simp only [Tr.get, Option.some.injEq] at h4
      subst h4
      rw [h3] at k
      exact Fn0.ofB (fnB_ok plain mixed sp1_ok lsP_ok k)
  · rename_i b
    simp only [Tr.get, Option.some.injEq] at h
    subst h
    exact Fn0.ofB (fnB_ok plain mixed sp1_ok lsP_ok (paFN_tree b))
  · cases h
def rdI (ts : List Sg) : Int := opq (bif okSg ts then rdS ts else 0)
def wrI (ts : List Sg) : Int := opq (bif okSg ts then wrS ts else 0)
theorem rdI_eq (ts : List Sg) : rdI ts = bif okSg ts then rdS ts else 0 := opq_eq _
theorem wrI_eq (ts : List Sg) : wrI ts = bif okSg ts then wrS ts else 0 := opq_eq _
def totT : FnF CT := fun ws os => match ws, os with
  | [.h 0], [.sl false full 101 ts] => .br (wfS ts) (.leaf (.tup [.raw (.int .u64 (rdI ts)), .raw (.int .u64 (wrI ts))], [])) .fail
  | [.raw (.slice none 0 0)], [] => .leaf (.tup [.raw (.int .u64 0), .raw (.int .u64 0)], [])
  | _, _ => .fail
theorem totT_ok : ∀ args os r, (totT args os).get = some r → Fn0 Tryz.prog 65 args os r := fun args os r h => by
  unfold totT at h
  split at h
  · rename_i full ts
    change List Sg at ts
    obtain ⟨h1, h2⟩ := Tr.get_ask.1 h
    simp only [Tr.get, Option.some.injEq] at h2
    subst h2
    have k := toF_tree full ts
    rw [h1, chkI_bne, beq_self_eq_true] at k
    rw [rdI_eq, wrI_eq]
    cases h3 : okSg ts with
    | true =>
      rw [h3, decide_eq_true (show ts.length ≤ 64 ∧ true = true from ⟨okSg_len h3, rfl⟩)] at k
      exact Fn0.ofB (fnB_ok plain mixed sp1_ok lsP_ok k)
    | false =>
      rw [h3] at k
      exact Fn0.ofB (fnB_ok plain mixed sp1_ok lsP_ok k)
  · simp only [Tr.get, Option.some.injEq] at h
    subst h
    exact Fn0.ofB (fnB_ok plain mixed sp1_ok lsP_ok toFN_tree)
  · cases h
def memA (N : Nat) (ts : List Sg) : Bool := ts.all fun x => memC N x.1 x.2.1
theorem out_none (N : Nat) (ts : List Sg) : noneP (outP N ts) ts.length = memA N ts := by
  rw [Bool.eq_iff_iff, noneP_iff]
  unfold memA outP
  rw [List.all_eq_true]
  constructor
  · intro h x hx
    obtain ⟨k, hk, rfl⟩ := List.getElem_of_mem hx
    have := h k hk
    rw [el_at hk] at this
    simpa using this
  · intro h k hk
    rw [el_at hk, h _ (List.getElem_mem hk)]; rfl
def inE (N : Nat) (ts : List Sg) : Int := opq (bif okSg ts then bif memA N ts then 0 else 5 else chkE ts)
theorem inE_eq (N : Nat) (ts : List Sg) : inE N ts = bif okSg ts then bif memA N ts then 0 else 5 else chkE ts := opq_eq _
def szB (N : Nat) : Bool := decide (1 ≤ N ∧ N ≤ 4294967296)
theorem in_get {own full : Bool} {ts : List Sg} {N : Nat} {f : Nat → Int} (hw : wfS ts = true) (hN : szB N = true) : (fnB CT Tryz.prog sp2 lsP lsPu 10 60 [.h 0, .h 1] (memS own full ts N f)).get = some (.raw (.int .i64 (inE N ts)), memS own full ts N f) := by
  have hN := of_decide_eq_true hN
  have k1 : memG N 0 0 = true := memG_iff.2 ⟨hN.1, hN.2, by omega, by omega⟩
  have k6 : rgB [((0 : Int), (N : Int))] N = true := by unfold rgB; simp
  have e : chkI ts = chkE ts := opq_eq _
  rw [inE_eq]
  have k : (fnB CT Tryz.prog sp2 lsP lsPu 10 60 [.h 0, .h 1] (memS own full ts N f)).get = bro (rgB [((0 : Int), (N : Int))] N) (bro (memG N 0 0) (bro (wfS ts) (bro (chkI ts != 0) (some (.raw (.int .i64 (chkI ts)), memS own full ts N f))
      (bro ((ts.length : Int) == (ts.length : Int)) (bro (rgB [((0 : Int), (N : Int))] N) (bro (decide (ts.length ≤ 64 ∧ wfS ts = true ∧ 1 ≤ N ∧ N ≤ 4294967296)) (bro (noneP (outP N ts) ts.length) (some (.raw (.int .i64 0), memS own full ts N f)) (some (.raw (.int .i64 5), memS own full ts N f))) none) none) none)) none) none) none := by
    cases own
    · exact inV_tree full ts N f
    · exact inO_tree full ts N f
  rw [k, k1, k6, hw, chkI_bne, beq_self_eq_true, out_none]
  cases h3 : okSg ts with
  | true =>
    rw [decide_eq_true (show ts.length ≤ 64 ∧ true = true ∧ 1 ≤ N ∧ N ≤ 4294967296 from ⟨okSg_len h3, rfl, hN⟩)]
    cases memA N ts <;> rfl
  | false => rw [e]; rfl
def inT : FnF CT := fun ws os => match ws, os with
  | [.h 0, .h 1], [.box [.h 2, .h 3] 138, .sl own full 101 ts, .sl true false 58 rg, .rw 34 1 1 false [.h 4], .mem 5 N f] =>
    .br (rgB rg N) (.br (wfS ts) (.br (szB N) (.leaf (.raw (.int .i64 (inE N ts)), memS own full ts N f)) .fail) .fail) .fail
  | _, _ => .fail
theorem inT_ok : ∀ args os r, (inT args os).get = some r → FnB Tryz.prog 60 args os r := fun args os r h => by
  unfold inT at h
  split at h
  · rename_i own full ts rg N f
    change List Sg at ts
    change List Rg at rg
    obtain ⟨h1, h2⟩ := Tr.get_ask.1 h
    obtain ⟨h3, h4⟩ := Tr.get_ask.1 h2
    obtain ⟨h5, h6⟩ := Tr.get_ask.1 h4
    clear h h2 h4
    obtain rfl : rg = [(0, (N : Int))] := rgB_eq h1
    simp only [Tr.get, Option.some.injEq] at h6
    subst h6
    exact fnB_ok plain mixed sp2_ok lsP_ok (in_get h3 h5)
  · cases h
def sp3 : SpecT CT := addS 60 (footS inT) (addS 61 (seeS partT) (addS 65 (seeS totT) sp2))
theorem sp3_ok : SpecTOk Tryz.prog sp3 := addS_ok (footS_ok inT_ok) (addS_ok (seeS_ok partT_ok) (addS_ok (seeS_ok totT_ok) sp2_ok))
end
end Go.Proofs.YtfgbhgeppdffaaaGreat
namespace Go.Proofs.YtfgbhgeppdffaaaGreat
open Go Go.Sx Go.RowKit
set_option maxRecDepth 1000000
set_option maxHeartbeats 8000000
set_option linter.unusedVariables false
noncomputable section
noncomputable def c19 : Code := ((Tryz.prog.funcs[(19 : Nat)]?).bind (·.body)).getD .skip
noncomputable def g0 : Code := seqA c19
noncomputable def g1 : Code := seqA (seqA (seqB c19))
noncomputable def g2 : Code := seqB (seqA (seqB c19))
noncomputable def gT : Code := seqB (seqB c19)
noncomputable def g4 : Code := seqA gT
noncomputable def gF : Code := seqA (seqB gT)
noncomputable def g5 : Code := seqA gF
noncomputable def gL : Code := inBl (inBl (seqB gF))
noncomputable def g6 : Code := seqA gL
noncomputable def gi : Code := seqA (seqB gL)
noncomputable def gB : Code := inBl (seqA (seqB (seqB gL)))
noncomputable def g7 : Code := seqA gB
noncomputable def g8 : Code := seqA (seqB gB)
noncomputable def g9 : Code := seqA (seqB (seqB gB))
noncomputable def g11 : Code := seqB (seqB (seqB gB))
noncomputable def g12 : Code := seqB (seqB (seqB gL))
noncomputable def g13 : Code := seqA (seqB (seqB gT))
theorem c19_eq : c19 = .seq g0 (.seq (.seq g1 g2) (.seq g4 (.seq (.seq g5 (.block 0 (.loop (.seq g6 (.seq gi (.seq (.block 1 (.seq g7 (.seq g8 (.seq g9 g11)))) g12)))))) (.seq g13 .ret)))) := by kernel_rfl
def spGa : SpecT CT := addS 62 (footS readT) sp3
theorem spGa_ok : SpecTOk Tryz.prog spGa := addS_ok (footS_ok readT_ok) sp3_ok
@[reducible] def gaL (c : Code) (slots outs : List Nat) (i : LI CT) : RT CT := pieceL CT Tryz.prog spGa noLs (fun _ _ => 20) 20 19 45 c slots outs i
@[reducible] def gaO (full : Bool) (ts ps : List Sg) (N : Nat) (f : Nat → Int) : List (SO CT) := memS true full ts N f ++ [.sl true false 101 (ps : List Sg)]
abbrev sg1 : List Nat := [0, 1, 7, 19, 20, 21]
@[reducible] def gaV (v : Value) (ps : List Sg) (k : Int) : List SV := [.h 0, .h 1, .raw v, .h 5, .raw (.int .i64 (ps.length : Int)), .raw (.int .i64 k)]
abbrev sgU : List Nat := [0, 1, 7, 19, 20, 21]
@[reducible] def gcV (x : SV) (u0 u1 u2 u3 u4 : Value) : List SV := [.raw u0, .raw u1, x, .raw u2, .raw u3, .raw u4]
def catG (ts : List In) : Bool := full1 ts && (decide (0 < (flI ts ts.length).length ∧ (flI ts ts.length).length ≤ 4294967296) && decide (ts.length ≤ 100000))
def catT : FnF CU := fun ws os => match ws, os with
  | [.h 0], [.ss 34 0 5 ts] => .br (opq (catG ts)) (.leaf (.h 1, dO ts (flI ts ts.length))) .fail
  | _, _ => .fail
theorem catT_ok : ∀ args os r, (catT args os).get = some r → FnB Tryz.prog 63 args os r := fun args os r h => by
  unfold catT at h
  split at h
  · rename_i ts
    change List In at ts
    obtain ⟨h1, h2⟩ := Tr.get_ask.1 h
    rw [opq_eq] at h1
    unfold catG at h1
    rw [Bool.and_eq_true, Bool.and_eq_true] at h1
    obtain ⟨hf, hl, hn⟩ := h1
    have hl := of_decide_eq_true hl
    have hn := of_decide_eq_true hn
    simp only [Tr.get, Option.some.injEq] at h2
    subst h2
    refine FnB.ofSelf (by kernel_rfl) rfl ?_ fun fz ρ w vals RR hd => ?_
    · intro i o hi hl
      match i, hi with
      | 0, hi => cases hi; exact .inr ⟨_, Nat.zero_lt_one, rfl, rfl⟩
      | 1, hi => cases hi; exact .inl rfl
      | n + 2, hi => cases hi
    · obtain ⟨u, ul, q1, q2, rfl⟩ := denL_cons.1 hd
      rw [denL_nil] at q2
      subst q2
      refine (cat_calls hf hl.2 hn hl.1 RR q1).mono ?_
      rintro e w' ⟨ρ', v, rfl, S, hv, ha, hb⟩
      exact ⟨ρ', v, rfl, ha, S, hb.st, hb.mn, hv⟩
  · cases h
def spCat : SpecT CU := addS 63 (footS catT) noSp
theorem spCat_ok : SpecTOk Tryz.prog spCat := addS_ok (footS_ok catT_ok) noSp_ok
@[reducible] def gcL (c : Code) (slots outs : List Nat) (i : LI CU) : RT CU := pieceL CU Tryz.prog spCat noLs (fun _ _ => 20) 20 19 45 c slots outs i
end
end Go.Proofs.YtfgbhgeppdffaaaGreat
namespace Go.Proofs.YtfgbhgeppdffaaaGreat
open Go Go.Sx Go.RowKit
set_option maxRecDepth 1000000
set_option maxHeartbeats 8000000
set_option linter.unusedVariables false
set_option linter.unusedSimpArgs false
noncomputable section
abbrev eaSl : List Nat := [0, 1, 4]
@[reducible] def eaH (o full : Bool) (tot : List Sg) (n : Int) : List SV × List (SO CT) := ([.h 0, .raw (.int .u64 n), .raw (.slice none 0 0)], [.box [.h 1] 150, .sl o full 101 (tot : List Sg)])
@[reducible] def eaA (o full : Bool) (tot : List Sg) (bs off len : Nat) (n : Int) : List SV × List (SO CT) := ([.h 0, .raw (.int .u64 n), .raw (.slice none 0 0)], [.box [.vs 1 3 bs off len none] 150, .sl o full 101 (tot : List Sg)])
@[reducible] def eaB (o full : Bool) (tot : List Sg) (bs off len : Nat) (us : List Sg) (n : Int) : List SV × List (SO CT) := ([.h 0, .raw (.int .u64 n), .h 2], [.box [.vs 1 3 bs off len none] 150, .sl o full 101 (tot : List Sg), .sl true false 101 (us : List Sg)])
@[reducible] def eaC (o full : Bool) (tot : List Sg) (us rs : List Sg) (n : Int) : List SV × List (SO CT) := ([.h 0, .raw (.int .u64 n), .h 2], [.box [.h 3] 150, .sl o full 101 (tot : List Sg), .sl true false 101 (us : List Sg), .sl true false 101 (rs : List Sg)])
def elN (ts : List Sg) (i : Nat) : Sg := ts.getD i (0, 0, false)
abbrev eaR (x : List SV × List (SO CT)) := roundG CT Tryz.prog sp3 noLs (fun _ _ => 20) 10 64 0 eaSl ⟨x.1, 2, x.2⟩
theorem eaH_tree (full : Bool) (tot : List Sg) (n : Int) : (eaR (eaH true full tot n)).get =
  bro (decide ((0 : Int) < n)) (bro (decide ((0 : Int) < (↑tot.length : Int))) (bro (inB (0 : Int) tot.length) (bro (decide (0 < tot.length)) (bro (decide ((elN tot 0).snd.fst % 18446744073709551616 < n)) (bro (decide ((elN tot 0).snd.fst % 18446744073709551616 < (elN tot 0).snd.fst % 18446744073709551616)) (bro (bOk (1 : Int) (↑tot.length : Int) (roomV 0 tot.length none) && true) (bro (decide (1 + ((↑tot.length : Int).toNat - 1) ≤ tot.length)) (bro (roomB ([(((elN tot 0).fst + (elN tot 0).snd.fst % 18446744073709551616) % 18446744073709551616, ((elN tot 0).snd.fst - (elN tot 0).snd.fst % 18446744073709551616 % 4294967296) % 4294967296, (elN tot 0).snd.snd)].length + (List.take ((↑tot.length : Int).toNat - 1) (List.drop (1) tot)).length) Tryz.prog.types[(101 : Nat)].bytes) (some (Ex.ret, [SV.h 0, SV.raw (Value.int IntKind.u64 ((n - (elN tot 0).snd.fst % 18446744073709551616) % 18446744073709551616)), SV.h 2], [SO.box [SV.h 3] 150, SO.sl true full 101 tot, SO.sl true false 101 [((elN tot 0).fst, (elN tot 0).snd.fst % 18446744073709551616 % 4294967296, (elN tot 0).snd.snd)], SO.sl true false 101 ((((elN tot 0).fst + (elN tot 0).snd.fst % 18446744073709551616) % 18446744073709551616, ((elN tot 0).snd.fst - (elN tot 0).snd.fst % 18446744073709551616 % 4294967296) % 4294967296, (elN tot 0).snd.snd) :: (List.take ((↑tot.length : Int).toNat - 1) (List.drop (1) tot)))])) (none)) (none)) (none)) (bro (bOk (1 : Int) (↑tot.length : Int) (roomV 0 tot.length none) && true) (some (Ex.normal, [SV.h 0, SV.raw (Value.int IntKind.u64 ((n - (elN tot 0).snd.fst % 18446744073709551616) % 18446744073709551616)), SV.h 2], [SO.box [SV.vs 1 3 (0 : Nat) (1 : Nat) ((↑tot.length : Int).toNat - 1) none] 150, SO.sl true full 101 tot, SO.sl true false 101 [((elN tot 0).fst, (elN tot 0).snd.fst % 18446744073709551616 % 4294967296, (elN tot 0).snd.snd)]])) (none))) (bro (decide (n < (elN tot 0).snd.fst % 18446744073709551616)) (bro (bOk (1 : Int) (↑tot.length : Int) (roomV 0 tot.length none) && true) (bro (decide (1 + ((↑tot.length : Int).toNat - 1) ≤ tot.length)) (bro (roomB ([(((elN tot 0).fst + n) % 18446744073709551616, ((elN tot 0).snd.fst - n % 4294967296) % 4294967296, (elN tot 0).snd.snd)].length + (List.take ((↑tot.length : Int).toNat - 1) (List.drop (1) tot)).length) Tryz.prog.types[(101 : Nat)].bytes) (some (Ex.ret, [SV.h 0, SV.raw (Value.int IntKind.u64 ((n - n) % 18446744073709551616)), SV.h 2], [SO.box [SV.h 3] 150, SO.sl true full 101 tot, SO.sl true false 101 [((elN tot 0).fst, n % 4294967296, (elN tot 0).snd.snd)], SO.sl true false 101 ((((elN tot 0).fst + n) % 18446744073709551616, ((elN tot 0).snd.fst - n % 4294967296) % 4294967296, (elN tot 0).snd.snd) :: (List.take ((↑tot.length : Int).toNat - 1) (List.drop (1) tot)))])) (none)) (none)) (none)) (bro (bOk (1 : Int) (↑tot.length : Int) (roomV 0 tot.length none) && true) (some (Ex.normal, [SV.h 0, SV.raw (Value.int IntKind.u64 ((n - n) % 18446744073709551616)), SV.h 2], [SO.box [SV.vs 1 3 (0 : Nat) (1 : Nat) ((↑tot.length : Int).toNat - 1) none] 150, SO.sl true full 101 tot, SO.sl true false 101 [((elN tot 0).fst, n % 4294967296, (elN tot 0).snd.snd)]])) (none)))) (none)) (none)) (some (Ex.exit 0, [SV.h 0, SV.raw (Value.int IntKind.u64 n), SV.raw (Value.slice none 0 0)], [SO.box [SV.h 1] 150, SO.sl true full 101 tot]))) (some (Ex.exit 0, [SV.h 0, SV.raw (Value.int IntKind.u64 n), SV.raw (Value.slice none 0 0)], [SO.box [SV.h 1] 150, SO.sl true full 101 tot])) := by kernel_rfl
theorem eaA_tree (full : Bool) (tot : List Sg) (bs off len : Nat) (n : Int) : (eaR (eaA true full tot bs off len n)).get =
  bro (decide ((0 : Int) < n)) (bro (decide ((0 : Int) < (↑len : Int))) (bro (inB (0 : Int) len) (bro (decide (off < tot.length)) (bro (decide (off < tot.length)) (bro (decide ((elN tot off).snd.fst % 18446744073709551616 < n)) (bro (decide ((elN tot off).snd.fst % 18446744073709551616 < (elN tot off).snd.fst % 18446744073709551616)) (bro (bOk (1 : Int) (↑len : Int) (roomV off tot.length none) && true) (bro (decide (off + 1 + ((↑len : Int).toNat - 1) ≤ tot.length)) (bro (roomB ([(((elN tot off).fst + (elN tot off).snd.fst % 18446744073709551616) % 18446744073709551616, ((elN tot off).snd.fst - (elN tot off).snd.fst % 18446744073709551616 % 4294967296) % 4294967296, (elN tot off).snd.snd)].length + (List.take ((↑len : Int).toNat - 1) (List.drop (off + 1) tot)).length) Tryz.prog.types[(101 : Nat)].bytes) (some (Ex.ret, [SV.h 0, SV.raw (Value.int IntKind.u64 ((n - (elN tot off).snd.fst % 18446744073709551616) % 18446744073709551616)), SV.h 2], [SO.box [SV.h 3] 150, SO.sl true full 101 tot, SO.sl true false 101 [((elN tot off).fst, (elN tot off).snd.fst % 18446744073709551616 % 4294967296, (elN tot off).snd.snd)], SO.sl true false 101 ((((elN tot off).fst + (elN tot off).snd.fst % 18446744073709551616) % 18446744073709551616, ((elN tot off).snd.fst - (elN tot off).snd.fst % 18446744073709551616 % 4294967296) % 4294967296, (elN tot off).snd.snd) :: (List.take ((↑len : Int).toNat - 1) (List.drop (off + 1) tot)))])) (none)) (none)) (none)) (bro (bOk (1 : Int) (↑len : Int) (roomV off tot.length none) && true) (some (Ex.normal, [SV.h 0, SV.raw (Value.int IntKind.u64 ((n - (elN tot off).snd.fst % 18446744073709551616) % 18446744073709551616)), SV.h 2], [SO.box [SV.vs 1 3 (baseN bs off (1 : Int)) (off + 1) ((↑len : Int).toNat - 1) none] 150, SO.sl true full 101 tot, SO.sl true false 101 [((elN tot off).fst, (elN tot off).snd.fst % 18446744073709551616 % 4294967296, (elN tot off).snd.snd)]])) (none))) (bro (decide (n < (elN tot off).snd.fst % 18446744073709551616)) (bro (bOk (1 : Int) (↑len : Int) (roomV off tot.length none) && true) (bro (decide (off + 1 + ((↑len : Int).toNat - 1) ≤ tot.length)) (bro (roomB ([(((elN tot off).fst + n) % 18446744073709551616, ((elN tot off).snd.fst - n % 4294967296) % 4294967296, (elN tot off).snd.snd)].length + (List.take ((↑len : Int).toNat - 1) (List.drop (off + 1) tot)).length) Tryz.prog.types[(101 : Nat)].bytes) (some (Ex.ret, [SV.h 0, SV.raw (Value.int IntKind.u64 ((n - n) % 18446744073709551616)), SV.h 2], [SO.box [SV.h 3] 150, SO.sl true full 101 tot, SO.sl true false 101 [((elN tot off).fst, n % 4294967296, (elN tot off).snd.snd)], SO.sl true false 101 ((((elN tot off).fst + n) % 18446744073709551616, ((elN tot off).snd.fst - n % 4294967296) % 4294967296, (elN tot off).snd.snd) :: (List.take ((↑len : Int).toNat - 1) (List.drop (off + 1) tot)))])) (none)) (none)) (none)) (bro (bOk (1 : Int) (↑len : Int) (roomV off tot.length none) && true) (some (Ex.normal, [SV.h 0, SV.raw (Value.int IntKind.u64 ((n - n) % 18446744073709551616)), SV.h 2], [SO.box [SV.vs 1 3 (baseN bs off (1 : Int)) (off + 1) ((↑len : Int).toNat - 1) none] 150, SO.sl true full 101 tot, SO.sl true false 101 [((elN tot off).fst, n % 4294967296, (elN tot off).snd.snd)]])) (none)))) (none)) (none)) (none)) (bro (off.beq (0 : Nat)) (bro (shutB len tot.length none) (some (Ex.exit 0, [SV.h 0, SV.raw (Value.int IntKind.u64 n), SV.raw (Value.slice none 0 0)], [SO.box [SV.h 2] 150, SO.gone, SO.sl true false 101 (List.take len tot)])) (none)) (some (Ex.exit 0, [SV.h 0, SV.raw (Value.int IntKind.u64 n), SV.raw (Value.slice none 0 0)], [SO.box [SV.vs 1 3 bs off len none] 150, SO.sl true full 101 tot])))) (bro (off.beq (0 : Nat)) (bro (shutB len tot.length none) (some (Ex.exit 0, [SV.h 0, SV.raw (Value.int IntKind.u64 n), SV.raw (Value.slice none 0 0)], [SO.box [SV.h 2] 150, SO.gone, SO.sl true false 101 (List.take len tot)])) (none)) (some (Ex.exit 0, [SV.h 0, SV.raw (Value.int IntKind.u64 n), SV.raw (Value.slice none 0 0)], [SO.box [SV.vs 1 3 bs off len none] 150, SO.sl true full 101 tot]))) := by kernel_rfl
theorem eaB_tree (full : Bool) (tot us : List Sg) (bs off len : Nat) (n : Int) : (eaR (eaB true full tot bs off len us n)).get =
  bro (decide ((0 : Int) < n)) (bro (decide ((0 : Int) < (↑len : Int))) (bro (inB (0 : Int) len) (bro (decide (off < tot.length)) (bro (decide (off < tot.length)) (bro (decide ((elN tot off).snd.fst % 18446744073709551616 < n)) (bro (roomB (us.length + [((elN tot off).fst, (elN tot off).snd.fst % 18446744073709551616 % 4294967296, (elN tot off).snd.snd)].length) Tryz.prog.types[(101 : Nat)].bytes) (bro (decide ((elN tot off).snd.fst % 18446744073709551616 < (elN tot off).snd.fst % 18446744073709551616)) (bro (bOk (1 : Int) (↑len : Int) (roomV off tot.length none) && true) (bro (decide (off + 1 + ((↑len : Int).toNat - 1) ≤ tot.length)) (bro (roomB ([(((elN tot off).fst + (elN tot off).snd.fst % 18446744073709551616) % 18446744073709551616, ((elN tot off).snd.fst - (elN tot off).snd.fst % 18446744073709551616 % 4294967296) % 4294967296, (elN tot off).snd.snd)].length + (List.take ((↑len : Int).toNat - 1) (List.drop (off + 1) tot)).length) Tryz.prog.types[(101 : Nat)].bytes) (some (Ex.ret, [SV.h 0, SV.raw (Value.int IntKind.u64 ((n - (elN tot off).snd.fst % 18446744073709551616) % 18446744073709551616)), SV.h 2], [SO.box [SV.h 3] 150, SO.sl true full 101 tot, SO.sl true false 101 (us ++ [((elN tot off).fst, (elN tot off).snd.fst % 18446744073709551616 % 4294967296, (elN tot off).snd.snd)]), SO.sl true false 101 ((((elN tot off).fst + (elN tot off).snd.fst % 18446744073709551616) % 18446744073709551616, ((elN tot off).snd.fst - (elN tot off).snd.fst % 18446744073709551616 % 4294967296) % 4294967296, (elN tot off).snd.snd) :: (List.take ((↑len : Int).toNat - 1) (List.drop (off + 1) tot)))])) (none)) (none)) (none)) (bro (bOk (1 : Int) (↑len : Int) (roomV off tot.length none) && true) (some (Ex.normal, [SV.h 0, SV.raw (Value.int IntKind.u64 ((n - (elN tot off).snd.fst % 18446744073709551616) % 18446744073709551616)), SV.h 2], [SO.box [SV.vs 1 3 (baseN bs off (1 : Int)) (off + 1) ((↑len : Int).toNat - 1) none] 150, SO.sl true full 101 tot, SO.sl true false 101 (us ++ [((elN tot off).fst, (elN tot off).snd.fst % 18446744073709551616 % 4294967296, (elN tot off).snd.snd)])])) (none))) (none)) (bro (roomB (us.length + [((elN tot off).fst, n % 4294967296, (elN tot off).snd.snd)].length) Tryz.prog.types[(101 : Nat)].bytes) (bro (decide (n < (elN tot off).snd.fst % 18446744073709551616)) (bro (bOk (1 : Int) (↑len : Int) (roomV off tot.length none) && true) (bro (decide (off + 1 + ((↑len : Int).toNat - 1) ≤ tot.length)) (bro (roomB ([(((elN tot off).fst + n) % 18446744073709551616, ((elN tot off).snd.fst - n % 4294967296) % 4294967296, (elN tot off).snd.snd)].length + (List.take ((↑len : Int).toNat - 1) (List.drop (off + 1) tot)).length) Tryz.prog.types[(101 : Nat)].bytes) (some (Ex.ret, [SV.h 0, SV.raw (Value.int IntKind.u64 ((n - n) % 18446744073709551616)), SV.h 2], [SO.box [SV.h 3] 150, SO.sl true full 101 tot, SO.sl true false 101 (us ++ [((elN tot off).fst, n % 4294967296, (elN tot off).snd.snd)]), SO.sl true false 101 ((((elN tot off).fst + n) % 18446744073709551616, ((elN tot off).snd.fst - n % 4294967296) % 4294967296, (elN tot off).snd.snd) :: (List.take ((↑len : Int).toNat - 1) (List.drop (off + 1) tot)))])) (none)) (none)) (none)) (bro (bOk (1 : Int) (↑len : Int) (roomV off tot.length none) && true) (some (Ex.normal, [SV.h 0, SV.raw (Value.int IntKind.u64 ((n - n) % 18446744073709551616)), SV.h 2], [SO.box [SV.vs 1 3 (baseN bs off (1 : Int)) (off + 1) ((↑len : Int).toNat - 1) none] 150, SO.sl true full 101 tot, SO.sl true false 101 (us ++ [((elN tot off).fst, n % 4294967296, (elN tot off).snd.snd)])])) (none))) (none))) (none)) (none)) (none)) (bro (off.beq (0 : Nat)) (bro (shutB len tot.length none) (some (Ex.exit 0, [SV.h 0, SV.raw (Value.int IntKind.u64 n), SV.h 2], [SO.box [SV.h 3] 150, SO.gone, SO.sl true false 101 us, SO.sl true false 101 (List.take len tot)])) (none)) (some (Ex.exit 0, [SV.h 0, SV.raw (Value.int IntKind.u64 n), SV.h 2], [SO.box [SV.vs 1 3 bs off len none] 150, SO.sl true full 101 tot, SO.sl true false 101 us])))) (bro (off.beq (0 : Nat)) (bro (shutB len tot.length none) (some (Ex.exit 0, [SV.h 0, SV.raw (Value.int IntKind.u64 n), SV.h 2], [SO.box [SV.h 3] 150, SO.gone, SO.sl true false 101 us, SO.sl true false 101 (List.take len tot)])) (none)) (some (Ex.exit 0, [SV.h 0, SV.raw (Value.int IntKind.u64 n), SV.h 2], [SO.box [SV.vs 1 3 bs off len none] 150, SO.sl true full 101 tot, SO.sl true false 101 us]))) := by kernel_rfl
theorem eaN_tree (n : Int) : (roundG CT Tryz.prog sp3 noLs (fun _ _ => 20) 10 64 0 eaSl ⟨[.h 0, .raw (.int .u64 n), .raw (.slice none 0 0)], 1, [.box [.raw (.slice none 0 0)] 150]⟩).get =
  bro (decide ((0 : Int) < n)) (some (Ex.exit 0, [SV.h 0, SV.raw (Value.int IntKind.u64 n), SV.raw (Value.slice none 0 0)], [SO.box [SV.raw (Value.slice none 0 0)] 150])) (some (Ex.exit 0, [SV.h 0, SV.raw (Value.int IntKind.u64 n), SV.raw (Value.slice none 0 0)], [SO.box [SV.raw (Value.slice none 0 0)] 150])) := by kernel_rfl
theorem elN_at {ts : List Sg} {k : Nat} (h : k < ts.length) : elN ts k = ts[k] := by
  unfold elN
  rw [List.getD_eq_getElem?_getD, List.getElem?_eq_getElem h]; rfl
theorem wfN_at {ts : List Sg} {k : Nat} (hw : wfS ts = true) (h : k < ts.length) : 0 ≤ (elN ts k).1 ∧ (elN ts k).1 < 18446744073709551616 ∧ 0 ≤ (elN ts k).2.1 ∧ (elN ts k).2.1 < 4294967296 := by
  rw [elN_at h]
  exact sgW_iff.1 (List.all_eq_true.1 hw _ (List.getElem_mem h))
theorem sgBN_at {ts : List Sg} {k : Nat} (hw : ts.all sgB = true) (h : k < ts.length) : 1 ≤ (elN ts k).2.1 ∧ (elN ts k).2.1 - 1 ≤ 18446744073709551615 - (elN ts k).1 := by
  rw [elN_at h]
  exact of_decide_eq_true (List.all_eq_true.1 hw _ (List.getElem_mem h))
def cutL (x : Sg) (n : Int) : Sg := (x.1, n, x.2.2)
def cutR (x : Sg) (n : Int) : Sg := (x.1 + n, x.2.1 - n, x.2.2)
theorem rmS' {n : Nat} (h : n ≤ 200000) : roomB n Tryz.prog.types[(101 : Nat)].bytes = true := rmS h
theorem eaH_go {full : Bool} {tot : List Sg} {n : Int} (h0 : 0 < tot.length) (hw : wfS tot = true) (hb : tot.all sgB = true) (hn : 0 < n ∧ n < 18446744073709551616) (hle : (elN tot 0).2.1 ≤ n) : (eaR (eaH true full tot n)).get = some (.normal, eaB true full tot 0 1 (tot.length - 1) [elN tot 0] (n - (elN tot 0).2.1)) := by
  have w1 := wfN_at hw (show 0 < tot.length by omega)
  have b1 := sgBN_at hb (show 0 < tot.length by omega)
  have e1 : (elN tot 0).2.1 % 18446744073709551616 = (elN tot 0).2.1 := Int.emod_eq_of_lt w1.2.2.1 (by omega)
  have bk : (bOk 1 ((tot.length : Nat) : Int) (roomV 0 tot.length none) && true) = true := by
    rw [Bool.and_true]; exact bOk_mk (by simp only [roomV]; omega)
  refine (eaH_tree full tot n).trans ?_
  rw [decide_eq_true hn.1, decide_eq_true (show (0 : Int) < ((tot.length : Nat) : Int) by omega), inB_mk (show 0 ≤ (0 : Int) ∧ (0 : Int) < ((tot.length : Nat) : Int) by omega), decide_eq_true (show 0 < tot.length by omega)]
  generalize elN tot 0 = x at *
  rw [e1]
  have e3 : x.2.1 % 4294967296 = x.2.1 := Int.emod_eq_of_lt w1.2.2.1 w1.2.2.2
  have e2 : (n - x.2.1) % 18446744073709551616 = n - x.2.1 := Int.emod_eq_of_lt (by omega) (by omega)
  by_cases c : x.2.1 < n
  · rw [decide_eq_true c, decide_eq_false (Int.lt_irrefl x.2.1), bk, e2, e3]; rfl
  · obtain rfl : n = x.2.1 := by omega
    rw [decide_eq_false (Int.lt_irrefl x.2.1), bk, e2, e3]; rfl
theorem eaH_part {full : Bool} {tot : List Sg} {n : Int} (h0 : 0 < tot.length) (hw : wfS tot = true) (hb : tot.all sgB = true) (ht : tot.length ≤ 100000) (hn : 0 < n ∧ n < 18446744073709551616) (hlt : n < (elN tot 0).2.1) : (eaR (eaH true full tot n)).get = some (.ret, eaC true full tot [cutL (elN tot 0) n] (cutR (elN tot 0) n :: (tot.drop 1).take (tot.length - 1)) 0) := by
  have w1 := wfN_at hw (show 0 < tot.length by omega)
  have b1 := sgBN_at hb (show 0 < tot.length by omega)
  have e1 : (elN tot 0).2.1 % 18446744073709551616 = (elN tot 0).2.1 := Int.emod_eq_of_lt w1.2.2.1 (by omega)
  have bk : (bOk 1 ((tot.length : Nat) : Int) (roomV 0 tot.length none) && true) = true := by
    rw [Bool.and_true]; exact bOk_mk (by simp only [roomV]; omega)
  refine (eaH_tree full tot n).trans ?_
  rw [decide_eq_true hn.1, decide_eq_true (show (0 : Int) < ((tot.length : Nat) : Int) by omega), inB_mk (show 0 ≤ (0 : Int) ∧ (0 : Int) < ((tot.length : Nat) : Int) by omega), decide_eq_true (show 0 < tot.length by omega)]
  generalize elN tot 0 = x at *
  rw [e1]
  have e2 : n % 4294967296 = n := Int.emod_eq_of_lt (by omega) (by omega)
  have e3 : (x.1 + n) % 18446744073709551616 = x.1 + n := Int.emod_eq_of_lt (by omega) (by omega)
  have e4 : (x.2.1 - n) % 4294967296 = x.2.1 - n := Int.emod_eq_of_lt (by omega) (by omega)
  have e5 : (n - n) % 18446744073709551616 = 0 := by rw [Int.sub_self]; rfl
  have r2 : ∀ (z : Sg) (l : List Sg), roomB ([z].length + (List.take (((tot.length : Nat) : Int).toNat - 1) l).length) Tryz.prog.types[(101 : Nat)].bytes = true := fun z l => rmS' (by
    show 1 + _ ≤ _
    rw [List.length_take]
    have : min (((tot.length : Nat) : Int).toNat - 1) l.length ≤ (((tot.length : Nat) : Int).toNat - 1) := Nat.min_le_left _ _
    omega)
  rw [decide_eq_false (show ¬ x.2.1 < n by omega), decide_eq_true hlt, bk, e2, e3, e4, e5, r2 (x.fst + n, x.snd.fst - n, x.snd.snd), decide_eq_true (show 1 + (((tot.length : Nat) : Int).toNat - 1) ≤ tot.length by omega)]; rfl
theorem eaH_end {full : Bool} {tot : List Sg} {n : Int} (h : n ≤ 0 ∨ tot.length = 0) : (eaR (eaH true full tot n)).get = some (.exit 0, eaH true full tot n) := by
  refine (eaH_tree full tot n).trans ?_
  by_cases c : 0 < n
  · rw [decide_eq_true c, decide_eq_false (show ¬ (0 : Int) < ((tot.length : Nat) : Int) by omega)]; rfl
  · rw [decide_eq_false c]; rfl
theorem eaA_go {full : Bool} {tot : List Sg} {bs o len : Nat} {n : Int} (h0 : 0 < len ∧ o + 1 + len ≤ tot.length) (hw : wfS tot = true) (hb : tot.all sgB = true) (hn : 0 < n ∧ n < 18446744073709551616) (hle : (elN tot (o + 1)).2.1 ≤ n) : (eaR (eaA true full tot bs (o + 1) len n)).get = some (.normal, eaB true full tot (o + 1) (o + 1 + 1) (len - 1) [elN tot (o + 1)] (n - (elN tot (o + 1)).2.1)) := by
  have w1 := wfN_at hw (show (o + 1) < tot.length by omega)
  have b1 := sgBN_at hb (show (o + 1) < tot.length by omega)
  have e1 : (elN tot (o + 1)).2.1 % 18446744073709551616 = (elN tot (o + 1)).2.1 := Int.emod_eq_of_lt w1.2.2.1 (by omega)
  have bk : (bOk 1 ((len : Nat) : Int) (roomV (o + 1) tot.length none) && true) = true := by
    rw [Bool.and_true]; exact bOk_mk (by simp only [roomV]; omega)
  refine (eaA_tree full tot bs (o + 1) len n).trans ?_
  rw [decide_eq_true hn.1, decide_eq_true (show (0 : Int) < ((len : Nat) : Int) by omega), inB_mk (show 0 ≤ (0 : Int) ∧ (0 : Int) < ((len : Nat) : Int) by omega), decide_eq_true (show (o + 1) < tot.length by omega)]
  generalize elN tot (o + 1) = x at *
  rw [e1]
  have e3 : x.2.1 % 4294967296 = x.2.1 := Int.emod_eq_of_lt w1.2.2.1 w1.2.2.2
  have e2 : (n - x.2.1) % 18446744073709551616 = n - x.2.1 := Int.emod_eq_of_lt (by omega) (by omega)
  by_cases c : x.2.1 < n
  · rw [decide_eq_true c, decide_eq_false (Int.lt_irrefl x.2.1), bk, e2, e3]; rfl
  · obtain rfl : n = x.2.1 := by omega
    rw [decide_eq_false (Int.lt_irrefl x.2.1), bk, e2, e3]; rfl
theorem eaA_part {full : Bool} {tot : List Sg} {bs o len : Nat} {n : Int} (h0 : 0 < len ∧ o + 1 + len ≤ tot.length) (hw : wfS tot = true) (hb : tot.all sgB = true) (ht : tot.length ≤ 100000) (hn : 0 < n ∧ n < 18446744073709551616) (hlt : n < (elN tot (o + 1)).2.1) : (eaR (eaA true full tot bs (o + 1) len n)).get = some (.ret, eaC true full tot [cutL (elN tot (o + 1)) n] (cutR (elN tot (o + 1)) n :: (tot.drop (o + 1 + 1)).take (len - 1)) 0) := by
  have w1 := wfN_at hw (show (o + 1) < tot.length by omega)
  have b1 := sgBN_at hb (show (o + 1) < tot.length by omega)
  have e1 : (elN tot (o + 1)).2.1 % 18446744073709551616 = (elN tot (o + 1)).2.1 := Int.emod_eq_of_lt w1.2.2.1 (by omega)
  have bk : (bOk 1 ((len : Nat) : Int) (roomV (o + 1) tot.length none) && true) = true := by
    rw [Bool.and_true]; exact bOk_mk (by simp only [roomV]; omega)
  refine (eaA_tree full tot bs (o + 1) len n).trans ?_
  rw [decide_eq_true hn.1, decide_eq_true (show (0 : Int) < ((len : Nat) : Int) by omega), inB_mk (show 0 ≤ (0 : Int) ∧ (0 : Int) < ((len : Nat) : Int) by omega), decide_eq_true (show (o + 1) < tot.length by omega)]
  generalize elN tot (o + 1) = x at *
  rw [e1]
  have e2 : n % 4294967296 = n := Int.emod_eq_of_lt (by omega) (by omega)
  have e3 : (x.1 + n) % 18446744073709551616 = x.1 + n := Int.emod_eq_of_lt (by omega) (by omega)
  have e4 : (x.2.1 - n) % 4294967296 = x.2.1 - n := Int.emod_eq_of_lt (by omega) (by omega)
  have e5 : (n - n) % 18446744073709551616 = 0 := by rw [Int.sub_self]; rfl
  have r2 : ∀ (z : Sg) (l : List Sg), roomB ([z].length + (List.take (((len : Nat) : Int).toNat - 1) l).length) Tryz.prog.types[(101 : Nat)].bytes = true := fun z l => rmS' (by
    show 1 + _ ≤ _
    rw [List.length_take]
    have : min (((len : Nat) : Int).toNat - 1) l.length ≤ (((len : Nat) : Int).toNat - 1) := Nat.min_le_left _ _
    omega)
  rw [decide_eq_false (show ¬ x.2.1 < n by omega), decide_eq_true hlt, bk, e2, e3, e4, e5, r2 (x.fst + n, x.snd.fst - n, x.snd.snd), decide_eq_true (show o + 1 + 1 + (((len : Nat) : Int).toNat - 1) ≤ tot.length by omega)]; rfl
theorem eaA_end {full : Bool} {tot : List Sg} {bs o len : Nat} {n : Int} (h : n ≤ 0 ∨ len = 0) : (eaR (eaA true full tot bs (o + 1) len n)).get = some (.exit 0, eaA true full tot bs (o + 1) len n) := by
  refine (eaA_tree full tot bs (o + 1) len n).trans ?_
  by_cases c : 0 < n
  · rw [decide_eq_true c, decide_eq_false (show ¬ (0 : Int) < ((len : Nat) : Int) by omega)]; rfl
  · rw [decide_eq_false c]; rfl
theorem eaB_go {full : Bool} {tot us : List Sg} {bs o len : Nat} {n : Int} (h0 : 0 < len ∧ o + 1 + len ≤ tot.length) (hw : wfS tot = true) (hb : tot.all sgB = true) (hu : us.length ≤ 100000) (hn : 0 < n ∧ n < 18446744073709551616) (hle : (elN tot (o + 1)).2.1 ≤ n) : (eaR (eaB true full tot bs (o + 1) len us n)).get = some (.normal, eaB true full tot (o + 1) (o + 1 + 1) (len - 1) (us ++ [elN tot (o + 1)]) (n - (elN tot (o + 1)).2.1)) := by
  have w1 := wfN_at hw (show (o + 1) < tot.length by omega)
  have b1 := sgBN_at hb (show (o + 1) < tot.length by omega)
  have e1 : (elN tot (o + 1)).2.1 % 18446744073709551616 = (elN tot (o + 1)).2.1 := Int.emod_eq_of_lt w1.2.2.1 (by omega)
  have bk : (bOk 1 ((len : Nat) : Int) (roomV (o + 1) tot.length none) && true) = true := by
    rw [Bool.and_true]; exact bOk_mk (by simp only [roomV]; omega)
  have r1 : ∀ z : Sg, roomB (us.length + [z].length) Tryz.prog.types[(101 : Nat)].bytes = true := fun z => rmS' (by show us.length + 1 ≤ _; omega)
  refine (eaB_tree full tot us bs (o + 1) len n).trans ?_
  rw [decide_eq_true hn.1, decide_eq_true (show (0 : Int) < ((len : Nat) : Int) by omega), inB_mk (show 0 ≤ (0 : Int) ∧ (0 : Int) < ((len : Nat) : Int) by omega), decide_eq_true (show (o + 1) < tot.length by omega)]
  generalize elN tot (o + 1) = x at *
  rw [e1]
  have e3 : x.2.1 % 4294967296 = x.2.1 := Int.emod_eq_of_lt w1.2.2.1 w1.2.2.2
  have e2 : (n - x.2.1) % 18446744073709551616 = n - x.2.1 := Int.emod_eq_of_lt (by omega) (by omega)
  by_cases c : x.2.1 < n
  · rw [decide_eq_true c, decide_eq_false (Int.lt_irrefl x.2.1), bk, e2, e3, r1]; rfl
  · obtain rfl : n = x.2.1 := by omega
    rw [decide_eq_false (Int.lt_irrefl x.2.1), bk, e2, e3, r1]; rfl
theorem eaB_part {full : Bool} {tot us : List Sg} {bs o len : Nat} {n : Int} (h0 : 0 < len ∧ o + 1 + len ≤ tot.length) (hw : wfS tot = true) (hb : tot.all sgB = true) (ht : tot.length ≤ 100000) (hu : us.length ≤ 100000) (hn : 0 < n ∧ n < 18446744073709551616) (hlt : n < (elN tot (o + 1)).2.1) : (eaR (eaB true full tot bs (o + 1) len us n)).get = some (.ret, eaC true full tot (us ++ [cutL (elN tot (o + 1)) n]) (cutR (elN tot (o + 1)) n :: (tot.drop (o + 1 + 1)).take (len - 1)) 0) := by
  have w1 := wfN_at hw (show (o + 1) < tot.length by omega)
  have b1 := sgBN_at hb (show (o + 1) < tot.length by omega)
  have e1 : (elN tot (o + 1)).2.1 % 18446744073709551616 = (elN tot (o + 1)).2.1 := Int.emod_eq_of_lt w1.2.2.1 (by omega)
  have bk : (bOk 1 ((len : Nat) : Int) (roomV (o + 1) tot.length none) && true) = true := by
    rw [Bool.and_true]; exact bOk_mk (by simp only [roomV]; omega)
  have r1 : ∀ z : Sg, roomB (us.length + [z].length) Tryz.prog.types[(101 : Nat)].bytes = true := fun z => rmS' (by show us.length + 1 ≤ _; omega)
  refine (eaB_tree full tot us bs (o + 1) len n).trans ?_
  rw [decide_eq_true hn.1, decide_eq_true (show (0 : Int) < ((len : Nat) : Int) by omega), inB_mk (show 0 ≤ (0 : Int) ∧ (0 : Int) < ((len : Nat) : Int) by omega), decide_eq_true (show (o + 1) < tot.length by omega)]
  generalize elN tot (o + 1) = x at *
  rw [e1]
  have e2 : n % 4294967296 = n := Int.emod_eq_of_lt (by omega) (by omega)
  have e3 : (x.1 + n) % 18446744073709551616 = x.1 + n := Int.emod_eq_of_lt (by omega) (by omega)
  have e4 : (x.2.1 - n) % 4294967296 = x.2.1 - n := Int.emod_eq_of_lt (by omega) (by omega)
  have e5 : (n - n) % 18446744073709551616 = 0 := by rw [Int.sub_self]; rfl
  have r2 : ∀ (z : Sg) (l : List Sg), roomB ([z].length + (List.take (((len : Nat) : Int).toNat - 1) l).length) Tryz.prog.types[(101 : Nat)].bytes = true := fun z l => rmS' (by
    show 1 + _ ≤ _
    rw [List.length_take]
    have : min (((len : Nat) : Int).toNat - 1) l.length ≤ (((len : Nat) : Int).toNat - 1) := Nat.min_le_left _ _
    omega)
  rw [decide_eq_false (show ¬ x.2.1 < n by omega), decide_eq_true hlt, bk, e2, e3, e4, e5, r2 (x.fst + n, x.snd.fst - n, x.snd.snd), r1 (x.fst, n, x.snd.snd), decide_eq_true (show o + 1 + 1 + (((len : Nat) : Int).toNat - 1) ≤ tot.length by omega)]; rfl
theorem eaB_end {full : Bool} {tot us : List Sg} {bs o len : Nat} {n : Int} (h : n ≤ 0 ∨ len = 0) : (eaR (eaB true full tot bs (o + 1) len us n)).get = some (.exit 0, eaB true full tot bs (o + 1) len us n) := by
  refine (eaB_tree full tot us bs (o + 1) len n).trans ?_
  by_cases c : 0 < n
  · rw [decide_eq_true c, decide_eq_false (show ¬ (0 : Int) < ((len : Nat) : Int) by omega)]; rfl
  · rw [decide_eq_false c]; rfl
theorem eaN_end (n : Int) : (roundG CT Tryz.prog sp3 noLs (fun _ _ => 20) 10 64 0 eaSl ⟨[.h 0, .raw (.int .u64 n), .raw (.slice none 0 0)], 1, [.box [.raw (.slice none 0 0)] 150]⟩).get = some (.exit 0, [.h 0, .raw (.int .u64 n), .raw (.slice none 0 0)], [.box [.raw (.slice none 0 0)] 150]) := by
  refine (eaN_tree n).trans ?_
  cases decide ((0 : Int) < n) <;> rfl
def eatN : List Sg → Int → Nat
  | [], _ => 0
  | x :: r, n => bif decide (n ≤ 0) then 0 else bif decide (n < x.2.1) then 0 else eatN r (n - x.2.1) + 1
def remS (l : List Sg) (n : Int) (k : Nat) : Int := n - sgSum (l.take k)
theorem remS_cons (x : Sg) (r : List Sg) (n : Int) (k : Nat) : remS (x :: r) n (k + 1) = remS r (n - x.2.1) k := by
  unfold remS
  show n - (x.2.1 + sgSum (r.take k)) = n - x.2.1 - sgSum (r.take k)
  omega
theorem elN_cons (x : Sg) (r : List Sg) (k : Nat) : elN (x :: r) (k + 1) = elN r k := rfl
theorem eatN_le : ∀ (l : List Sg) (n : Int), eatN l n ≤ l.length
  | [], n => Nat.le_refl _
  | x :: r, n => by
    unfold eatN
    cases decide (n ≤ 0) with
    | true => exact Nat.zero_le _
    | false => cases decide (n < x.2.1) with
      | true => exact Nat.zero_le _
      | false => have := eatN_le r (n - x.2.1); simp only [cond_false, List.length_cons]; omega
theorem eatN_go : ∀ {l : List Sg} {n : Int} {k : Nat}, k < eatN l n → 0 < remS l n k ∧ (elN l k).2.1 ≤ remS l n k
  | [], n, k, h => absurd h (Nat.not_lt_zero k)
  | x :: r, n, k, h => by
    unfold eatN at h
    by_cases c1 : n ≤ 0
    · rw [decide_eq_true c1] at h; exact absurd h (Nat.not_lt_zero k)
    · rw [decide_eq_false c1, cond_false] at h
      by_cases c2 : n < x.2.1
      · rw [decide_eq_true c2] at h; exact absurd h (Nat.not_lt_zero k)
      · rw [decide_eq_false c2, cond_false] at h
        cases k with
        | zero => exact ⟨by show 0 < n - 0; omega, by show x.2.1 ≤ n - 0; omega⟩
        | succ k => rw [remS_cons, elN_cons]; exact eatN_go (by omega)
theorem eatN_end : ∀ {l : List Sg} {n : Int}, eatN l n < l.length → remS l n (eatN l n) ≤ 0 ∨ remS l n (eatN l n) < (elN l (eatN l n)).2.1
  | [], n, h => absurd h (Nat.not_lt_zero _)
  | x :: r, n, h => by
    unfold eatN at h ⊢
    by_cases c1 : n ≤ 0
    · rw [decide_eq_true c1]; exact .inl (by show n - 0 ≤ 0; omega)
    · rw [decide_eq_false c1, cond_false] at h ⊢
      by_cases c2 : n < x.2.1
      · rw [decide_eq_true c2]; exact .inr (by show n - 0 < x.2.1; omega)
      · rw [decide_eq_false c2, cond_false] at h ⊢
        rw [remS_cons, elN_cons]
        exact eatN_end (by simpa using h)
def eatP (l : List Sg) (n : Int) : Bool := decide (eatN l n < l.length) && decide (0 < remS l n (eatN l n))
theorem eatN_0 {x : Sg} {r : List Sg} {n : Int} (c : n ≤ 0 ∨ n < x.2.1) : eatN (x :: r) n = 0 := by
  unfold eatN
  rcases c with c | c
  · rw [decide_eq_true c]; rfl
  · rw [decide_eq_true c]; cases decide (n ≤ 0) <;> rfl
theorem eatN_s {x : Sg} {r : List Sg} {n : Int} (c1 : ¬ n ≤ 0) (c2 : ¬ n < x.2.1) : eatN (x :: r) n = eatN r (n - x.2.1) + 1 := by
  show (bif decide (n ≤ 0) then 0 else bif decide (n < x.2.1) then 0 else eatN r (n - x.2.1) + 1) = _
  rw [decide_eq_false c1, decide_eq_false c2]; rfl
theorem eatO_s {x : Sg} {r : List Sg} {n : Int} (c1 : ¬ n ≤ 0) (c2 : ¬ n < x.2.1) : eatO (x :: r) n = x :: eatO r (n - x.2.1) := by
  show (bif decide (n ≤ 0) then [] else bif decide (n < x.2.1) then [(x.1, n, x.2.2)] else x :: eatO r (n - x.2.1)) = _
  rw [decide_eq_false c1, decide_eq_false c2]; rfl
theorem eatR_s {x : Sg} {r : List Sg} {n : Int} (c1 : ¬ n ≤ 0) (c2 : ¬ n < x.2.1) : eatR (x :: r) n = eatR r (n - x.2.1) := by
  show (bif decide (n ≤ 0) then x :: r else bif decide (n < x.2.1) then (x.1 + n, x.2.1 - n, x.2.2) :: r else eatR r (n - x.2.1)) = _
  rw [decide_eq_false c1, decide_eq_false c2]; rfl
theorem eatP_iff {l : List Sg} {n : Int} : eatP l n = true ↔ eatN l n < l.length ∧ 0 < remS l n (eatN l n) := by
  unfold eatP; rw [Bool.and_eq_true, decide_eq_true_eq, decide_eq_true_eq]
theorem eatP_s {x : Sg} {r : List Sg} {n : Int} (c1 : ¬ n ≤ 0) (c2 : ¬ n < x.2.1) : eatP (x :: r) n = eatP r (n - x.2.1) := by
  rw [Bool.eq_iff_iff, eatP_iff, eatP_iff, eatN_s c1 c2, remS_cons, List.length_cons]
  constructor <;> rintro ⟨h1, h2⟩ <;> exact ⟨by omega, h2⟩
theorem eat_part : ∀ {l : List Sg} {n : Int}, eatP l n = true → eatO l n = l.take (eatN l n) ++ [cutL (elN l (eatN l n)) (remS l n (eatN l n))] ∧ eatR l n = cutR (elN l (eatN l n)) (remS l n (eatN l n)) :: l.drop (eatN l n + 1)
  | [], n, h => by simp [eatP] at h
  | x :: r, n, h => by
    by_cases c1 : n ≤ 0
    · have h := (eatP_iff.1 h).2
      rw [eatN_0 (.inl c1)] at h
      have : (0 : Int) < n - 0 := h
      omega
    · by_cases c2 : n < x.2.1
      · rw [eatN_0 (.inr c2)]
        have e : remS (x :: r) n 0 = n := by show n - 0 = n; omega
        rw [e]
        unfold eatO eatR
        rw [decide_eq_false c1, decide_eq_true c2]; exact ⟨rfl, rfl⟩
      · rw [eatP_s c1 c2] at h
        obtain ⟨h1, h2⟩ := eat_part h
        rw [eatN_s c1 c2, remS_cons, elN_cons, eatO_s c1 c2, eatR_s c1 c2, h1, h2]
        exact ⟨rfl, rfl⟩
theorem eat_full : ∀ {l : List Sg} {n : Int}, eatP l n = false → eatO l n = l.take (eatN l n) ∧ eatR l n = l.drop (eatN l n)
  | [], n, h => ⟨rfl, rfl⟩
  | x :: r, n, h => by
    by_cases c1 : n ≤ 0
    · rw [eatN_0 (.inl c1)]
      unfold eatO eatR
      rw [decide_eq_true c1]; exact ⟨rfl, rfl⟩
    · by_cases c2 : n < x.2.1
      · exfalso
        have : eatP (x :: r) n = true := eatP_iff.2 (by
          rw [eatN_0 (.inr c2)]
          exact ⟨Nat.zero_lt_succ _, by show (0 : Int) < n - 0; omega⟩)
        rw [this] at h; cases h
      · rw [eatP_s c1 c2] at h
        obtain ⟨h1, h2⟩ := eat_full h
        rw [eatN_s c1 c2, eatO_s c1 c2, eatR_s c1 c2, h1, h2]
        exact ⟨rfl, rfl⟩
theorem eatO_nil {l : List Sg} {n : Int} : eatO l n = [] ↔ eatN l n = 0 ∧ eatP l n = false := by
  cases h : eatP l n with
  | true => rw [(eat_part h).1]; simp
  | false =>
    rw [(eat_full h).1]
    constructor
    · intro e
      refine ⟨?_, rfl⟩
      have := congrArg List.length e
      rw [List.length_take, List.length_nil] at this
      have h2 := eatN_le l n
      omega
    · rintro ⟨e, _⟩; rw [e]; rfl
theorem take_succN {l : List Sg} {k : Nat} (h : k < l.length) : l.take (k + 1) = l.take k ++ [elN l k] := by
  rw [List.take_add_one, List.getElem?_eq_getElem h, elN_at h]; rfl
theorem remS_succ {l : List Sg} {n : Int} {k : Nat} (h : k < l.length) : remS l n (k + 1) = remS l n k - (elN l k).2.1 := by
  unfold remS
  rw [take_succN h, sgSum_app]
  show n - (sgSum (l.take k) + ((elN l k).2.1 + 0)) = _
  omega
theorem remS_le {l : List Sg} {n : Int} (hw : wfS l = true) (k : Nat) : remS l n k ≤ n := by
  have := (wf_sum (wf_take (k := k) hw)).1
  unfold remS; omega
@[reducible] def eaSt (ini : Int → List SV × List (SO CT)) (full : Bool) (tot : List Sg) (b : Nat) (ts : List Sg) (n : Int) (k : Nat) : List SV × List (SO CT) := match k with
  | 0 => ini n
  | k + 1 => eaB true full tot (b + k) (b + k + 1) (ts.length - (k + 1)) (ts.take (k + 1)) (remS ts n (k + 1))
def eaE (ini : Int → List SV × List (SO CT)) (full : Bool) (tot : List Sg) (b : Nat) (ts : List Sg) (n : Int) : Ex × List SV × List (SO CT) := bif eatP ts n then (.ret, eaC true full tot (eatO ts n) (eatR ts n) 0) else (.exit 0, eaSt ini full tot b ts n (eatN ts n))
theorem ea_loop : loopOf Tryz.prog 64 0 = some (((loopOf Tryz.prog 64 0).get!).1, (loopOf Tryz.prog 64 0).get!.2) := by kernel_rfl
theorem ea_run {ini : Int → List SV × List (SO CT)} {full : Bool} {tot : List Sg} {b : Nat} {ts : List Sg} {n : Int} (hb : ts = (tot.drop b).take ts.length) (hbl : b + ts.length ≤ tot.length) (hw : wfS tot = true) (hs : tot.all sgB = true) (ht : tot.length ≤ 100000) (hn : 0 ≤ n ∧ n < 18446744073709551616)
    (i1 : 0 < ts.length → 0 < n → (elN tot b).2.1 ≤ n → (eaR (ini n)).get = some (.normal, eaB true full tot b (b + 1) (ts.length - 1) [elN tot b] (n - (elN tot b).2.1)))
    (i2 : 0 < ts.length → 0 < n → n < (elN tot b).2.1 → (eaR (ini n)).get = some (.ret, eaC true full tot [cutL (elN tot b) n] (cutR (elN tot b) n :: (tot.drop (b + 1)).take (ts.length - 1)) 0))
    (i3 : n ≤ 0 ∨ ts.length = 0 → (eaR (ini n)).get = some (.exit 0, ini n)) :
    LoopRun Tryz.prog ((loopOf Tryz.prog 64 0).get!).1 (loopOf Tryz.prog 64 0).get!.2 2 (LI.st eaSl ⟨(ini n).1, 2, (ini n).2⟩) fun x T => ∃ vs os, (x = (eaE ini full tot b ts n).1 ∧ (vs, os) = (eaE ini full tot b ts n).2) ∧ T = ⟨zipT eaSl vs, numH 0 os, os.length⟩ := by
  have hel : ∀ k, k < ts.length → elN ts k = elN tot (b + k) := fun k hk => by
    rw [elN_at hk, elN_at (show b + k < tot.length by omega)]
    have : ts[k]? = tot[b + k]? := by rw [hb, List.getElem?_take, if_pos hk, List.getElem?_drop]
    rw [List.getElem?_eq_getElem hk, List.getElem?_eq_getElem (show b + k < tot.length by omega)] at this
    exact Option.some.inj this
  have hwt : wfS ts = true := by
    rw [hb]
    exact List.all_eq_true.2 fun x hx => List.all_eq_true.1 hw x (List.mem_of_mem_drop (List.mem_of_mem_take hx))
  have hdr : ∀ k, k < ts.length → ts.drop (k + 1) = (tot.drop (b + k + 1)).take (ts.length - (k + 1)) := fun k hk => by
    conv => lhs; rw [hb]
    rw [List.drop_take, List.drop_drop, show b + (k + 1) = b + k + 1 by omega]
  refine loop_li (σ := Nat) (st := fun k => eaSt ini full tot b ts n k) (Inv := fun k => k ≤ eatN ts n) (μ := fun k => eatN ts n - k) (d := 10) (unr := fun _ _ => 20) (sp := sp3) (ls := noLs) plain mixed sp3_ok noLs_ok ea_loop (fun k hk => ?_) 0 (Nat.zero_le _)
  have hle := eatN_le ts n
  by_cases h5 : k < eatN ts n
  · obtain ⟨g1, g2⟩ := eatN_go h5
    have hkl : k < ts.length := by omega
    have hr := remS_le (n := n) hwt k
    cases k with
    | zero =>
      have e0 : remS ts n 0 = n := by show n - 0 = n; omega
      rw [e0] at g1 g2
      rw [hel 0 hkl] at g2
      refine ⟨_, i1 hkl g1 g2, fun _ => ⟨1, h5, by show eatN ts n - (0 + 1) < eatN ts n - 0; omega, ?_⟩, nofun⟩
      show eaB true full tot b (b + 1) (ts.length - 1) [elN tot b] (n - (elN tot b).2.1) = eaB true full tot (b + 0) (b + 0 + 1) (ts.length - (0 + 1)) (ts.take (0 + 1)) (remS ts n (0 + 1))
      rw [take_succN hkl, remS_succ hkl, hel 0 hkl, e0]; rfl
    | succ k =>
      rw [hel (k + 1) hkl, show b + (k + 1) = b + k + 1 by omega] at g2
      have := eaB_go (full := full) (tot := tot) (us := ts.take (k + 1)) (bs := b + k) (o := b + k) (len := ts.length - (k + 1)) (n := remS ts n (k + 1)) ⟨by omega, by omega⟩ hw hs (by rw [List.length_take]; omega) ⟨g1, by omega⟩ g2
      refine ⟨_, this, fun _ => ⟨k + 2, h5, by show eatN ts n - (k + 1 + 1) < eatN ts n - (k + 1); omega, ?_⟩, nofun⟩
      show eaB true full tot (b + k + 1) (b + k + 1 + 1) (ts.length - (k + 1) - 1) (ts.take (k + 1) ++ [elN tot (b + k + 1)]) (remS ts n (k + 1) - (elN tot (b + k + 1)).2.1) = eaB true full tot (b + (k + 1)) (b + (k + 1) + 1) (ts.length - (k + 1 + 1)) (ts.take (k + 1 + 1)) (remS ts n (k + 1 + 1))
      rw [take_succN hkl, remS_succ hkl, hel (k + 1) hkl, show b + (k + 1) = b + k + 1 by omega, Nat.sub_sub]
  · have hk : k ≤ eatN ts n := hk
    obtain rfl : k = eatN ts n := by omega
    unfold eaE
    cases hp : eatP ts n with
    | true =>
      obtain ⟨q1, q2⟩ := eat_part hp
      unfold eatP at hp
      simp only [Bool.and_eq_true, decide_eq_true_eq] at hp
      obtain ⟨hkl, hpos⟩ := hp
      have hend := (eatN_end hkl).resolve_left (by omega)
      have hr := remS_le (n := n) hwt (eatN ts n)
      generalize eatN ts n = k at *
      cases k with
      | zero =>
        have e0 : remS ts n 0 = n := by show n - 0 = n; omega
        rw [e0] at hpos hend q1 q2
        rw [hel 0 hkl] at hend q1 q2
        refine ⟨_, i2 hkl hpos hend, nofun, fun _ => ⟨rfl, ?_⟩⟩
        show eaC true full tot _ _ 0 = eaC true full tot _ _ 0
        rw [q1, q2, hdr 0 hkl]; rfl
      | succ k =>
        rw [hel (k + 1) hkl, show b + (k + 1) = b + k + 1 by omega] at hend q1 q2
        have := eaB_part (full := full) (tot := tot) (us := ts.take (k + 1)) (bs := b + k) (o := b + k) (len := ts.length - (k + 1)) (n := remS ts n (k + 1)) ⟨by omega, by omega⟩ hw hs ht (by rw [List.length_take]; omega) ⟨hpos, by omega⟩ hend
        refine ⟨_, this, nofun, fun _ => ⟨rfl, ?_⟩⟩
        show eaC true full tot _ _ 0 = eaC true full tot _ _ 0
        rw [q1, q2, hdr (k + 1) hkl, Nat.sub_sub, show b + (k + 1) + 1 = b + k + 1 + 1 by omega]
    | false =>
      unfold eatP at hp
      simp only [Bool.and_eq_false_iff, decide_eq_false_iff_not] at hp
      generalize eatN ts n = k at *
      cases k with
      | zero =>
        have e0 : remS ts n 0 = n := by show n - 0 = n; omega
        rw [e0] at hp
        exact ⟨_, i3 (by omega), nofun, fun _ => ⟨rfl, rfl⟩⟩
      | succ k => exact ⟨_, eaB_end (o := b + k) (by omega), nofun, fun _ => ⟨rfl, rfl⟩⟩
end
end Go.Proofs.YtfgbhgeppdffaaaGreat
namespace Go.Proofs.YtfgbhgeppdffaaaGreat
open Go Go.Sx Go.RowKit
set_option maxRecDepth 1000000
set_option maxHeartbeats 8000000
set_option linter.unusedVariables false
noncomputable section
theorem ga_0 (full : Bool) (ts : List Sg) (N : Nat) (f : Nat → Int) : (gaL g0 [0, 1] [0, 1] ⟨[.h 0, .h 1], 5, memS true full ts N f⟩).get =
  some (Ex.normal, [SV.h 0, SV.h 1], [SO.box [SV.h 2, SV.h 3] 138, SO.sl true full 101 ts, SO.sl true false 58 [((0 : Int), (↑N : Int))], SO.rw 34 1 1 false [SV.h 4], SO.mem 5 N f]) := by kernel_rfl
theorem ga_1 (full : Bool) (ts : List Sg) (N : Nat) (f : Nat → Int) : (gaL g1 [0, 1] [0, 1, 6] ⟨[.h 0, .h 1], 5, memS true full ts N f⟩).get =
  bro (rgB [((0 : Int), (↑N : Int))] N) (bro (wfS ts) (bro (szB N) (some (Ex.normal, [SV.h 0, SV.h 1, SV.raw (Value.int IntKind.i64 (inE N ts))], [SO.box [SV.h 2, SV.h 3] 138, SO.sl true full 101 ts, SO.sl true false 58 [((0 : Int), (↑N : Int))], SO.rw 34 1 1 false [SV.h 4], SO.mem 5 N f])) (none)) (none)) (none) := by kernel_rfl
theorem ga_2 (full : Bool) (ts : List Sg) (N : Nat) (f : Nat → Int) (e : Int) : (gaL g2 [0, 1, 6] [0, 1] ⟨[.h 0, .h 1, .raw (.int .i64 e)], 5, memS true full ts N f⟩).get =
  bro (e != (0 : Int)) (some (Ex.ret, [SV.h 0, SV.h 1], [SO.box [SV.h 2, SV.h 3] 138, SO.sl true full 101 ts, SO.sl true false 58 [((0 : Int), (↑N : Int))], SO.rw 34 1 1 false [SV.h 4], SO.mem 5 N f])) (some (Ex.normal, [SV.h 0, SV.h 1], [SO.box [SV.h 2, SV.h 3] 138, SO.sl true full 101 ts, SO.sl true false 58 [((0 : Int), (↑N : Int))], SO.rw 34 1 1 false [SV.h 4], SO.mem 5 N f])) := by kernel_rfl
theorem ga_4 (full : Bool) (ts : List Sg) (N : Nat) (f : Nat → Int) : (gaL g4 [0, 1] [0, 1, 7] ⟨[.h 0, .h 1], 5, memS true full ts N f⟩).get =
  some (Ex.normal, [SV.h 0, SV.h 1, SV.raw (Value.slice none 0 0)], [SO.box [SV.h 2, SV.h 3] 138, SO.sl true full 101 ts, SO.sl true false 58 [((0 : Int), (↑N : Int))], SO.rw 34 1 1 false [SV.h 4], SO.mem 5 N f]) := by kernel_rfl
theorem ga_5 (v : Value) (full : Bool) (ts : List Sg) (N : Nat) (f : Nat → Int) : (gaL g5 [0, 1, 7] sg1 ⟨[.h 0, .h 1, .raw v], 5, memS true full ts N f⟩).get =
  bro (wfS ts) (bro (okI ts) (bro (decide ((partI false ts).length = (0 : Nat))) (some (Ex.normal, [SV.h 0, SV.h 1, SV.raw v, SV.raw (Value.slice none 0 0), SV.raw (Value.int IntKind.i64 (↑(0 : Nat) : Int)), SV.raw (Value.int IntKind.i64 0)], [SO.box [SV.h 2, SV.h 3] 138, SO.sl true full 101 ts, SO.sl true false 58 [((0 : Int), (↑N : Int))], SO.rw 34 1 1 false [SV.h 4], SO.mem 5 N f])) (some (Ex.normal, [SV.h 0, SV.h 1, SV.raw v, SV.h 5, SV.raw (Value.int IntKind.i64 (↑(partI false ts).length : Int)), SV.raw (Value.int IntKind.i64 0)], [SO.box [SV.h 2, SV.h 3] 138, SO.sl true full 101 ts, SO.sl true false 58 [((0 : Int), (↑N : Int))], SO.rw 34 1 1 false [SV.h 4], SO.mem 5 N f, SO.sl true false 101 (partI false ts)]))) (some (Ex.normal, [SV.h 0, SV.h 1, SV.raw v, SV.raw (Value.slice none 0 0), SV.raw (Value.int IntKind.i64 (↑(0 : Nat) : Int)), SV.raw (Value.int IntKind.i64 0)], [SO.box [SV.h 2, SV.h 3] 138, SO.sl true full 101 ts, SO.sl true false 58 [((0 : Int), (↑N : Int))], SO.rw 34 1 1 false [SV.h 4], SO.mem 5 N f]))) (none) := by kernel_rfl
theorem ga_6 (v : Value) (full : Bool) (ts ps : List Sg) (N : Nat) (f : Nat → Int) (k : Int) : (gaL g6 sg1 [0, 1, 7, 19, 20, 21, 22] ⟨gaV v ps k, 6, gaO full ts ps N f⟩).get =
  some (Ex.normal, [SV.h 0, SV.h 1, SV.raw v, SV.h 5, SV.raw (Value.int IntKind.i64 (↑ps.length : Int)), SV.raw (Value.int IntKind.i64 k), SV.raw (Value.bool (decide (k < (↑ps.length : Int))))], [SO.box [SV.h 2, SV.h 3] 138, SO.sl true full 101 ts, SO.sl true false 58 [((0 : Int), (↑N : Int))], SO.rw 34 1 1 false [SV.h 4], SO.mem 5 N f, SO.sl true false 101 ps]) := by kernel_rfl
theorem ga_i (v : Value) (full : Bool) (ts ps : List Sg) (N : Nat) (f : Nat → Int) (k : Int) (b : Bool) : (gaL gi [0, 1, 7, 19, 20, 21, 22] sg1 ⟨gaV v ps k ++ [.raw (.bool b)], 6, gaO full ts ps N f⟩).get =
  bro (b) (some (Ex.normal, [SV.h 0, SV.h 1, SV.raw v, SV.h 5, SV.raw (Value.int IntKind.i64 (↑ps.length : Int)), SV.raw (Value.int IntKind.i64 k)], [SO.box [SV.h 2, SV.h 3] 138, SO.sl true full 101 ts, SO.sl true false 58 [((0 : Int), (↑N : Int))], SO.rw 34 1 1 false [SV.h 4], SO.mem 5 N f, SO.sl true false 101 ps])) (some (Ex.exit 0, [SV.h 0, SV.h 1, SV.raw v, SV.h 5, SV.raw (Value.int IntKind.i64 (↑ps.length : Int)), SV.raw (Value.int IntKind.i64 k)], [SO.box [SV.h 2, SV.h 3] 138, SO.sl true full 101 ts, SO.sl true false 58 [((0 : Int), (↑N : Int))], SO.rw 34 1 1 false [SV.h 4], SO.mem 5 N f, SO.sl true false 101 ps])) := by kernel_rfl
theorem ga_7 (v : Value) (full : Bool) (ts ps : List Sg) (N : Nat) (f : Nat → Int) (k : Int) : (gaL g7 sg1 [0, 1, 7, 19, 20, 21, 9] ⟨gaV v ps k, 6, gaO full ts ps N f⟩).get =
  bro (inB k ps.length) (bro (decide (k.toNat < ps.length)) (some (Ex.normal, [SV.h 0, SV.h 1, SV.raw v, SV.h 5, SV.raw (Value.int IntKind.i64 (↑ps.length : Int)), SV.raw (Value.int IntKind.i64 k), SV.h 6], [SO.box [SV.h 2, SV.h 3] 138, SO.sl true full 101 ts, SO.sl true false 58 [((0 : Int), (↑N : Int))], SO.rw 34 1 1 false [SV.h 4], SO.mem 5 N f, SO.sl true false 101 ps, SO.box [SV.raw (Value.int IntKind.u64 (elN ps k.toNat).fst), SV.raw (Value.int IntKind.u32 (elN ps k.toNat).snd.fst), SV.raw (Value.bool (elN ps k.toNat).snd.snd)] 101])) (none)) (none) := by kernel_rfl
theorem ga_8 (v : Value) (full : Bool) (ts ps : List Sg) (N : Nat) (f : Nat → Int) (k : Int) (a n : Int) (b : Bool) : (gaL g8 [0, 1, 7, 19, 20, 21, 9] [0, 1, 7, 19, 20, 21, 10, 11] ⟨gaV v ps k ++ [.h 6], 6, gaO full ts ps N f ++ [.box [.raw (.int .u64 a), .raw (.int .u32 n), .raw (.bool b)] 101]⟩).get =
  bro (inR64 n) (bro (rgB [((0 : Int), (↑N : Int))] N) (bro (memG N a n) (bro (memC N a n) (some (Ex.normal, [SV.h 0, SV.h 1, SV.raw v, SV.h 5, SV.raw (Value.int IntKind.i64 (↑ps.length : Int)), SV.raw (Value.int IntKind.i64 k), SV.h 6, SV.raw (Value.int IntKind.i64 0)], [SO.box [SV.h 2, SV.h 3] 138, SO.sl true full 101 ts, SO.sl true false 58 [((0 : Int), (↑N : Int))], SO.rw 34 1 1 false [SV.h 4], SO.mem 5 N f, SO.sl true false 101 ps, SO.sl true false 5 (memL f a.toNat n.toNat)])) (bro (n == (0 : Int)) (some (Ex.normal, [SV.h 0, SV.h 1, SV.raw v, SV.h 5, SV.raw (Value.int IntKind.i64 (↑ps.length : Int)), SV.raw (Value.int IntKind.i64 k), SV.raw (Value.slice none 0 0), SV.raw (Value.int IntKind.i64 0)], [SO.box [SV.h 2, SV.h 3] 138, SO.sl true full 101 ts, SO.sl true false 58 [((0 : Int), (↑N : Int))], SO.rw 34 1 1 false [SV.h 4], SO.mem 5 N f, SO.sl true false 101 ps])) (some (Ex.normal, [SV.h 0, SV.h 1, SV.raw v, SV.h 5, SV.raw (Value.int IntKind.i64 (↑ps.length : Int)), SV.raw (Value.int IntKind.i64 k), SV.raw (Value.slice none 0 0), SV.raw (Value.int IntKind.i64 5)], [SO.box [SV.h 2, SV.h 3] 138, SO.sl true full 101 ts, SO.sl true false 58 [((0 : Int), (↑N : Int))], SO.rw 34 1 1 false [SV.h 4], SO.mem 5 N f, SO.sl true false 101 ps])))) (none)) (none)) (bro (rgB [((0 : Int), (↑N : Int))] N) (bro (memG N a (IntKind.i64.wrap n)) (bro (memC N a (IntKind.i64.wrap n)) (some (Ex.normal, [SV.h 0, SV.h 1, SV.raw v, SV.h 5, SV.raw (Value.int IntKind.i64 (↑ps.length : Int)), SV.raw (Value.int IntKind.i64 k), SV.h 6, SV.raw (Value.int IntKind.i64 0)], [SO.box [SV.h 2, SV.h 3] 138, SO.sl true full 101 ts, SO.sl true false 58 [((0 : Int), (↑N : Int))], SO.rw 34 1 1 false [SV.h 4], SO.mem 5 N f, SO.sl true false 101 ps, SO.sl true false 5 (memL f a.toNat (IntKind.i64.wrap n).toNat)])) (bro (IntKind.i64.wrap n == (0 : Int)) (some (Ex.normal, [SV.h 0, SV.h 1, SV.raw v, SV.h 5, SV.raw (Value.int IntKind.i64 (↑ps.length : Int)), SV.raw (Value.int IntKind.i64 k), SV.raw (Value.slice none 0 0), SV.raw (Value.int IntKind.i64 0)], [SO.box [SV.h 2, SV.h 3] 138, SO.sl true full 101 ts, SO.sl true false 58 [((0 : Int), (↑N : Int))], SO.rw 34 1 1 false [SV.h 4], SO.mem 5 N f, SO.sl true false 101 ps])) (some (Ex.normal, [SV.h 0, SV.h 1, SV.raw v, SV.h 5, SV.raw (Value.int IntKind.i64 (↑ps.length : Int)), SV.raw (Value.int IntKind.i64 k), SV.raw (Value.slice none 0 0), SV.raw (Value.int IntKind.i64 5)], [SO.box [SV.h 2, SV.h 3] 138, SO.sl true full 101 ts, SO.sl true false 58 [((0 : Int), (↑N : Int))], SO.rw 34 1 1 false [SV.h 4], SO.mem 5 N f, SO.sl true false 101 ps])))) (none)) (none)) := by kernel_rfl
theorem ga_9 (v : Value) (full : Bool) (ts ps : List Sg) (N : Nat) (f : Nat → Int) (k : Int) (xs : List Int) : (gaL g9 [0, 1, 7, 19, 20, 21, 10, 11] [0, 1, 7, 19, 20, 21, 10] ⟨gaV v ps k ++ [.h 6, .raw (.int .i64 0)], 6, gaO full ts ps N f ++ [.sl true false 5 (xs : List Int)]⟩).get =
  some (Ex.normal, [SV.h 0, SV.h 1, SV.raw v, SV.h 5, SV.raw (Value.int IntKind.i64 (↑ps.length : Int)), SV.raw (Value.int IntKind.i64 k), SV.h 6], [SO.box [SV.h 2, SV.h 3] 138, SO.sl true full 101 ts, SO.sl true false 58 [((0 : Int), (↑N : Int))], SO.rw 34 1 1 false [SV.h 4], SO.mem 5 N f, SO.sl true false 101 ps, SO.sl true false 5 xs]) := by kernel_rfl
theorem ga_12 (v : Value) (full : Bool) (ts ps : List Sg) (N : Nat) (f : Nat → Int) (k : Int) : (gaL g12 sg1 sg1 ⟨gaV v ps k, 6, gaO full ts ps N f⟩).get =
  bro (inR64 (k + (1 : Int))) (some (Ex.normal, [SV.h 0, SV.h 1, SV.raw v, SV.h 5, SV.raw (Value.int IntKind.i64 (↑ps.length : Int)), SV.raw (Value.int IntKind.i64 (k + (1 : Int)))], [SO.box [SV.h 2, SV.h 3] 138, SO.sl true full 101 ts, SO.sl true false 58 [((0 : Int), (↑N : Int))], SO.rw 34 1 1 false [SV.h 4], SO.mem 5 N f, SO.sl true false 101 ps])) (some (Ex.normal, [SV.h 0, SV.h 1, SV.raw v, SV.h 5, SV.raw (Value.int IntKind.i64 (↑ps.length : Int)), SV.raw (Value.int IntKind.i64 (IntKind.i64.wrap (k + (1 : Int))))], [SO.box [SV.h 2, SV.h 3] 138, SO.sl true full 101 ts, SO.sl true false 58 [((0 : Int), (↑N : Int))], SO.rw 34 1 1 false [SV.h 4], SO.mem 5 N f, SO.sl true false 101 ps])) := by kernel_rfl
theorem gc_nil (u0 u1 u2 u3 u4 : Value) (a : Option Addr) (l c : Nat) : (gcL g11 [0, 1, 7, 19, 20, 21, 10] sgU ⟨gcV (.raw (.slice none 0 0)) u0 u1 u2 u3 u4 ++ [.raw (.slice a l c)], 0, ([] : List (SO CU))⟩).get =
  some (Ex.normal, [SV.raw u0, SV.raw u1, SV.h 0, SV.raw u2, SV.raw u3, SV.raw u4], [SO.sl true false 34 [(a, l, c)]]) := by kernel_rfl
theorem gc_go (u0 u1 u2 u3 u4 : Value) (tv : List Sv) (a : Option Addr) (l c : Nat) : (gcL g11 [0, 1, 7, 19, 20, 21, 10] sgU ⟨gcV (.h 0) u0 u1 u2 u3 u4 ++ [.raw (.slice a l c)], 0, ([.sl true false 34 (tv : List Sv)] : List (SO CU))⟩).get =
  bro (roomB (tv.length + 1) Tryz.prog.types[(34 : Nat)].bytes) (some (Ex.normal, [SV.raw u0, SV.raw u1, SV.h 0, SV.raw u2, SV.raw u3, SV.raw u4], [SO.sl true false 34 (tv ++ [(a, l, c)])])) (none) := by kernel_rfl
theorem gc_13 (ts : List In) : (gcL g13 [7] [4, 5] ⟨[.h 0], 1, cO ts⟩).get =
  bro (opq (catG ts)) (some (Ex.normal, [SV.h 1, SV.raw (Value.int IntKind.i64 0)], [SO.ss (34 : Nat) (0 : Nat) (5 : Nat) ts, SO.sl true false 5 (flI ts ts.length)])) (none) := by kernel_rfl
def oT (tv : List Sv) : List (SO CU) := match tv with
  | [] => []
  | t :: r => [.sl true false 34 (t :: r : List Sv)]
def xT (tv : List Sv) : SV := match tv with
  | [] => .raw (.slice none 0 0)
  | _ :: _ => .h 0
theorem oT_own (tv : List Sv) : owned (oT tv) = true := by cases tv <;> rfl
def InU (w : World) (t : Sv) (b : List Int) : Prop := ∃ ad c, t = (some ad, b.length, c) ∧ b.length ≤ c ∧ ad.block < w.heap.size ∧ ∀ i x, ((CU 5).flat b)[i]? = some x → w.cell? (ad.add i) = some x
theorem InU.stay {w w' : World} {t : Sv} {b : List Int} (h : InU w t b) (hs : w.heap.size ≤ w'.heap.size) (ho : ∀ ad, t.1 = some ad → w'.heap[ad.block]? = w.heap[ad.block]?) : InU w' t b := by
  obtain ⟨ad, c, rfl, h1, h2, h3⟩ := h
  refine ⟨ad, c, rfl, h1, Nat.lt_of_lt_of_le h2 hs, fun i x hx => ?_⟩
  rw [World.cell?_of_block (w := w) (a := ad.add i) (by rw [Addr.add_block]; exact ho ad rfl)]
  exact h3 i x hx
theorem InU.lt {w : World} {t : Sv} {b : List Int} (h : InU w t b) : ∀ ad, t.1 = some ad → ad.block < w.heap.size := by
  obtain ⟨ad, c, rfl, h1, h2, h3⟩ := h
  intro ad' e; cases e; exact h2
structure Two (fz : Nat → Prop) (w0 : World) (ρ : Asg) (os : List (SO CT)) (σ : Asg) (tv : List Sv) (bs : List (List Int)) (w : World) : Prop where
  cu : Self (fun _ => False) σ (oT tv) w
  own : ∀ g, Mine σ (oT tv) g → w0.heap.size ≤ g ∧ ¬ Mine ρ os g ∧ ¬ fz g
  inn : ∀ t ∈ tv, ∀ ad, t.1 = some ad → w0.heap.size ≤ ad.block ∧ ¬ Mine ρ os ad.block ∧ ¬ fz ad.block ∧ ¬ Mine σ (oT tv) ad.block
  len : tv.length = bs.length
  val : ∀ (j : Nat) (t : Sv) (b : List Int), tv[j]? = some t → bs[j]? = some b → InU w t b
theorem Two.lt {fz : Nat → Prop} {w0 w : World} {ρ σ : Asg} {os : List (SO CT)} {tv : List Sv} {bs : List (List Int)} (h : Two fz w0 ρ os σ tv bs w) {t : Sv} (ht : t ∈ tv) : ∀ ad, t.1 = some ad → ad.block < w.heap.size := fun ad e => by
  obtain ⟨j, hj, rfl⟩ := List.getElem_of_mem ht
  have hb : j < bs.length := by rw [← h.len]; exact hj
  exact (h.val j _ _ (List.getElem?_eq_getElem hj) (List.getElem?_eq_getElem hb)).lt ad e
theorem Two.step {fz : Nat → Prop} {w0 w w' : World} {ρ ρ' σ : Asg} {os os' : List (SO CT)} {tv : List Sv} {bs : List (List Int)} (h : Two fz w0 ρ os σ tv bs w) (s : Stood ρ os w w') (hm : ∀ g, Mine ρ' os' g → w.heap.size ≤ g ∨ Mine ρ os g) : Two fz w0 ρ' os' σ tv bs w' := by
  refine ⟨Self.raw h.cu (oT_own tv) s.size fun b hb hmb => s.old b hb (hmb.elim (fun hmb => (h.own b hmb).2.1) False.elim), fun g hg => ?_, fun t ht ad e => ?_, h.len, fun j t b h1 h2 => ?_⟩
  · obtain ⟨k1, k2, k3⟩ := h.own g hg
    exact ⟨k1, fun hg' => (hm g hg').elim (fun hx => by have := Mine.lt h.cu hg; omega) k2, k3⟩
  · obtain ⟨k1, k2, k3, k4⟩ := h.inn t ht ad e
    have := h.lt ht ad e
    exact ⟨k1, fun hg' => (hm _ hg').elim (fun hx => by omega) k2, k3, k4⟩
  · have ht : t ∈ tv := List.mem_iff_getElem?.2 ⟨j, h1⟩
    exact (h.val j t b h1 h2).stay s.size fun ad e => s.old _ (h.lt ht ad e) (h.inn t ht ad e).2.1
theorem Two.sub {fz : Nat → Prop} {w0 w : World} {ρ ρ' σ : Asg} {os os' : List (SO CT)} {tv : List Sv} {bs : List (List Int)} (h : Two fz w0 ρ os σ tv bs w) (hm : ∀ g, Mine ρ' os' g → Mine ρ os g) : Two fz w0 ρ' os' σ tv bs w :=
  ⟨h.cu, fun g hg => ⟨(h.own g hg).1, fun hx => (h.own g hg).2.1 (hm g hx), (h.own g hg).2.2⟩, fun t ht ad e => ⟨(h.inn t ht ad e).1, fun hx => (h.inn t ht ad e).2.1 (hm _ hx), (h.inn t ht ad e).2.2⟩, h.len, h.val⟩
structure Gp (fz : Nat → Prop) (w0 : World) (ρ0 : Asg) (S0 : List (SO CT)) (σ : Asg) (tv : List Sv) (bs : List (List Int)) (slots : List Nat) (vs : List SV) (os : List (SO CT)) (a : Act) (w : World) : Prop where
  N : a.tmps.size = 45
  df : a.defers = []
  ex : ∃ ρ, Self fz ρ os w ∧ TmOk ρ (zipT slots vs) a ∧ (∀ j, j < 5 → ρ j = ρ0 j) ∧ Bg w0 ρ0 S0 ρ os w ∧ Two fz w0 ρ os σ tv bs w
theorem f19_ex : ∃ fn, Tryz.prog.funcs[(19 : Nat)]? = some fn ∧ fn.body = some c19 ∧ fn.ntmps = 45 ∧ fn.results = #[.tmp 4, .tmp 5] := ⟨_, rfl, by kernel_rfl, by kernel_rfl, by kernel_rfl⟩
theorem lps_19 : ([g0, g1, g2, g4, g5, g6, gi, g7, g8, g9, g11, g12, g13].all fun c => (lps 0 c).isEmpty) = true := by kernel_rfl
theorem lp19 : ∀ c ∈ [g0, g1, g2, g4, g5, g6, gi, g7, g8, g9, g11, g12, g13], lps 0 c = [] := fun c hc => List.isEmpty_iff.1 (List.all_eq_true.1 lps_19 c hc)
section
variable {fz : Nat → Prop} {w0 : World} {ρ0 σ : Asg} {S0 : List (SO CT)} {tv : List Sv} {bs : List (List Int)}
theorem Gp.step {c : Code} (hc : lps 0 c = []) {slots outs : List Nat} {vs vs' : List SV} {os os' : List (SO CT)} {x : Ex} {nb : Nat} (h : (gaL c slots outs ⟨vs, nb, os⟩).get = some (x, vs', os')) (h5 : 5 ≤ nb) (hle : nb ≤ os.length) {a : Act} {w : World} (H : Gp fz w0 ρ0 S0 σ tv bs slots vs os a w) :
    c.wp Tryz.prog (fun e a' w' => e = exitOf x ∧ Gp fz w0 ρ0 S0 σ tv bs outs vs' os' a' w') a w := by
  obtain ⟨hN, hd, ρ, q1, q2, q3, q4, q5⟩ := H
  obtain ⟨fn, h1, h2, h3, _⟩ := f19_ex
  refine wp_mono (self_stepN plain mixed spGa_ok noLs_ok h1 h2 h3 (fun x hx => by rw [hc] at hx; cases hx) h hle hN q1 q2) fun e a' w' hq => ?_
  obtain ⟨rfl, hN, hD, ρ', k1, k2, k3, k4, k5⟩ := hq
  exact ⟨rfl, hN, hD.trans hd, ρ', k2, k5, fun j hj => (k1 j (by omega)).trans (q3 j hj), q4.step k3 k4, q5.step k3 k4⟩
end
theorem rgB_self (N : Nat) : rgB [((0 : Int), (N : Int))] N = true := by
  unfold rgB
  simp
section
variable {v : Value} {full : Bool} {ts ps : List Sg} {N : Nat} {f : Nat → Int}
theorem pg_1 (hw : wfS ts = true) (hN : szB N = true) (he : inE N ts = 0) : (gaL g1 [0, 1] [0, 1, 6] ⟨[.h 0, .h 1], 5, memS true full ts N f⟩).get = some (.normal, [.h 0, .h 1, .raw (.int .i64 0)], memS true full ts N f) := by
  refine (ga_1 full ts N f).trans ?_
  rw [rgB_self, hw, hN, he]; rfl
theorem pg_2 : (gaL g2 [0, 1, 6] [0, 1] ⟨[.h 0, .h 1, .raw (.int .i64 0)], 5, memS true full ts N f⟩).get = some (.normal, [.h 0, .h 1], memS true full ts N f) := (ga_2 full ts N f 0).trans rfl
theorem pg_5 (hw : wfS ts = true) (ho : okI ts = true) (hps : partI false ts = ps) (hne : ps.length ≠ 0) : (gaL g5 [0, 1, 7] sg1 ⟨[.h 0, .h 1, .raw v], 5, memS true full ts N f⟩).get = some (.normal, gaV v ps ((0 : Nat) : Int), gaO full ts ps N f) := by
  refine (ga_5 v full ts N f).trans ?_
  rw [hps, hw, ho, decide_eq_false hne]; rfl
theorem pg_i {k : Int} {b : Bool} : (gaL gi [0, 1, 7, 19, 20, 21, 22] sg1 ⟨gaV v ps k ++ [.raw (.bool b)], 6, gaO full ts ps N f⟩).get = some (bif b then .normal else .exit 0, gaV v ps k, gaO full ts ps N f) := by
  refine (ga_i v full ts ps N f k b).trans ?_
  cases b <;> rfl
theorem pg_7 {k : Nat} (hk : k < ps.length) : (gaL g7 sg1 [0, 1, 7, 19, 20, 21, 9] ⟨gaV v ps (k : Nat), 6, gaO full ts ps N f⟩).get = some (.normal, gaV v ps (k : Nat) ++ [.h 6], gaO full ts ps N f ++ [.box [.raw (.int .u64 (elN ps k).1), .raw (.int .u32 (elN ps k).2.1), .raw (.bool (elN ps k).2.2)] 101]) := by
  refine (ga_7 v full ts ps N f _).trans ?_
  rw [inB_mk (show 0 ≤ ((k : Nat) : Int) ∧ ((k : Nat) : Int) < (ps.length : Int) by omega), decide_eq_true (show ((k : Nat) : Int).toNat < ps.length by omega), Int.toNat_natCast]; rfl
theorem pg_8 {k : Nat} {a n : Int} {b : Bool} (hn : inR64 n = true) (hg : memG N a n = true) (hm : memC N a n = true) : (gaL g8 [0, 1, 7, 19, 20, 21, 9] [0, 1, 7, 19, 20, 21, 10, 11] ⟨gaV v ps (k : Nat) ++ [.h 6], 6, gaO full ts ps N f ++ [.box [.raw (.int .u64 a), .raw (.int .u32 n), .raw (.bool b)] 101]⟩).get =
    some (.normal, gaV v ps (k : Nat) ++ [.h 6, .raw (.int .i64 0)], gaO full ts ps N f ++ [.sl true false 5 (memL f a.toNat n.toNat : List Int)]) := by
  refine (ga_8 v full ts ps N f _ a n b).trans ?_
  rw [hn, rgB_self, hg, hm]; rfl
theorem pg_12 {k : Nat} (hk : k < 100000) : (gaL g12 sg1 sg1 ⟨gaV v ps (k : Nat), 6, gaO full ts ps N f⟩).get = some (.normal, gaV v ps ((k + 1 : Nat) : Int), gaO full ts ps N f) := by
  refine (ga_12 v full ts ps N f _).trans ?_
  rw [inR64_mk (show -9223372036854775808 ≤ ((k : Nat) : Int) + 1 ∧ ((k : Nat) : Int) + 1 ≤ 9223372036854775807 by omega), Int.natCast_add]; rfl
theorem byV : Tryz.prog.types[(34 : Nat)].bytes ≤ 1000 := of_decide_eq_true (by kernel_rfl)
theorem pc_go {tv : List Sv} (hl : tv.length ≤ 1000) {u0 u1 u2 u3 u4 : Value} {t : Sv} : (gcL g11 [0, 1, 7, 19, 20, 21, 10] sgU ⟨gcV (xT tv) u0 u1 u2 u3 u4 ++ [.raw (.slice t.1 t.2.1 t.2.2)], 0, oT tv⟩).get = some (.normal, gcV (.h 0) u0 u1 u2 u3 u4, oT (tv ++ [t])) := by
  obtain ⟨a, l, c⟩ := t
  cases tv with
  | nil => exact gc_nil u0 u1 u2 u3 u4 a l c
  | cons x r =>
    refine (gc_go u0 u1 u2 u3 u4 (x :: r) a l c).trans ?_
    rw [show roomB ((x :: r).length + 1) Tryz.prog.types[(34 : Nat)].bytes = true from decide_eq_true (Nat.le_trans (Nat.mul_le_mul (show (x :: r).length + 1 ≤ 1001 by omega) byV) (by decide))]
    rfl
end
def ix6 : List Nat := [0, 1, 2, 3, 4, 5]
variable {fz : Nat → Prop} {w0 : World} {ρ0 σ : Asg} {tv : List Sv} {bs : List (List Int)} {v7 : Value} {full : Bool} {ts ps : List Sg} {N : Nat} {f : Nat → Int}
theorem owns_live' {C : Tab} {O : SO C} (h : O.owns = true) : O.live = true := by cases O <;> first | exact h | rfl
@[reducible] def gaX (full : Bool) (ts ps : List Sg) (N : Nat) (f : Nat → Int) (xs : List Int) : List (SO CT) := gaO full ts ps N f ++ [.sl true false 5 (xs : List Int)]
theorem pick6 {xs : List Int} : (gaO full ts ps N f).map (renO (pickF ix6 (gaX full ts ps N f xs).length)) = ix6.map fun i => (gaX full ts ps N f xs).getD i .gone := rfl
theorem ix6_in {xs : List Int} : ∀ i ∈ ix6, i < (gaX full ts ps N f xs).length := by
  show ∀ i ∈ ix6, i < 7
  decide
theorem ix6_lo {n j : Nat} (h : j < 6) : pickF ix6 n j = j := by
  match j, h with
  | 0, _ => rfl
  | 1, _ => rfl
  | 2, _ => rfl
  | 3, _ => rfl
  | 4, _ => rfl
  | 5, _ => rfl
  | n + 6, h => omega
theorem own_gaO : owned (gaO full ts ps N f) = true := rfl
theorem g11_go {k : Nat} {xs : List Int} (hl : tv.length ≤ 1000) (hx : den σ (xT tv) = some v7) {a : Act} {w : World}
    (H : Gp fz w0 ρ0 (memS true full ts N f) σ tv bs [0, 1, 7, 19, 20, 21, 10] (gaV v7 ps (k : Nat) ++ [.h 6]) (gaX full ts ps N f xs) a w) :
    g11.wp Tryz.prog (fun e a' w' => e = .normal ∧ ∃ σ' t v7', den σ' (xT (tv ++ [t])) = some v7' ∧ Gp fz w0 ρ0 (memS true full ts N f) σ' (tv ++ [t]) (bs ++ [xs]) sg1 (gaV v7' ps (k : Nat)) (gaO full ts ps N f) a' w') a w := by
  obtain ⟨hN, hd, ρ, S, T, A, Bq, W⟩ := H
  have f6 : find 6 (numH 0 (gaX full ts ps N f xs)) = some (.sl true false 5 (xs : List Int)) := rfl
  obtain ⟨_, hv, ad0, cap, rfl, hle, _, hown⟩ := S.obj 6 _ f6
  obtain ⟨g, tot, rfl, _⟩ := id hown
  have mineg : Mine ρ (gaX full ts ps N f xs) g := ⟨6, _, _, rfl, rfl, hv, rfl⟩
  have hglt : g < w.heap.size := S.blkOk 6 _ _ g f6 rfl hv rfl
  obtain ⟨t, ht⟩ : ∃ t : Sv, t = (some ⟨g, 0, none⟩, xs.length, cap) := ⟨_, rfl⟩
  have hIn : InU w t xs := by
    rw [ht]
    exact ⟨⟨g, 0, none⟩, cap, rfl, hle, hglt, fun i x hx => by
      obtain ⟨a', e, hc⟩ := hown.cell i x hx
      cases e; exact hc⟩
  obtain ⟨u0, x0, y0⟩ := T 0 (.h 0) rfl
  obtain ⟨u1, x1, y1⟩ := T 1 (.h 1) rfl
  obtain ⟨_, x7, y7⟩ := T 7 (.raw v7) rfl
  cases x7
  obtain ⟨u19, x19, y19⟩ := T 19 (.h 5) rfl
  obtain ⟨_, x20, y20⟩ := T 20 (.raw (.int .i64 (ps.length : Int))) rfl
  cases x20
  obtain ⟨_, x21, y21⟩ := T 21 (.raw (.int .i64 ((k : Nat) : Int))) rfl
  cases x21
  obtain ⟨u10, x10, y10⟩ := T 10 (.h 6) rfl
  have x10 : ρ 6 = some u10 := x10
  rw [hv] at x10
  cases x10
  have x0 : ρ 0 = some u0 := x0
  have x1 : ρ 1 = some u1 := x1
  have x19 : ρ 5 = some u19 := x19
  have TU : TmOk σ (zipT [0, 1, 7, 19, 20, 21, 10] (gcV (xT tv) u0 u1 u19 (.int .i64 (ps.length : Int)) (.int .i64 ((k : Nat) : Int)) ++ [.raw (.slice t.1 t.2.1 t.2.2)])) a :=
    TmL.ok (ts := [0, 1, 7, 19, 20, 21, 10]) ⟨⟨_, rfl, y0⟩, ⟨_, rfl, y1⟩, ⟨v7, hx, y7⟩, ⟨_, rfl, y19⟩, ⟨_, rfl, y20⟩, ⟨_, rfl, y21⟩, ⟨_, rfl, by rw [ht]; exact y10⟩, trivial⟩
  obtain ⟨fn, h1, h2, h3, _⟩ := f19_ex
  have SP := Self.pick S ix6 pick6 ix6_in (by decide) rfl
  have pk : ∀ {b : Nat}, Mine (fun j => ρ (pickF ix6 (gaX full ts ps N f xs).length j)) (gaO full ts ps N f) b → Mine ρ (gaX full ts ps N f xs) b := fun hm => Mine.pick pick6 ix6_in hm
  have hgno : ¬ Mine (fun j => ρ (pickF ix6 (gaX full ts ps N f xs).length j)) (gaO full ts ps N f) g := by
    rintro ⟨i, o, v, e1, e2, e3, e4⟩
    obtain ⟨hlt, hp⟩ := pick_get pick6 ix6_in e1
    have hlt : i < 6 := hlt
    rw [ix6_lo hlt] at hp
    have e3 : ρ (pickF ix6 (gaX full ts ps N f xs).length i) = some v := e3
    rw [ix6_lo hlt] at e3
    have q1 := num_find (m := 0) hp
    rw [Nat.zero_add] at q1
    exact S.sep 6 i _ _ _ _ g (by omega) f6 q1 rfl (owns_live' (by rw [renO_owns]; exact e2)) hv e3 rfl e4
  have hg0 : w0.heap.size ≤ g := by
    rcases Bq.mn g mineg with h | ⟨i, o, v, k1, k2, k3, k4⟩
    · exact h
    · have hi : i < 5 := (List.getElem?_eq_some_iff.1 k1).1
      have k1' : (gaX full ts ps N f xs)[i]? = some o := by
        show ((memS true full ts N f ++ _) ++ _)[i]? = _
        rw [List.getElem?_append_left (by show i < 6; omega), List.getElem?_append_left hi]; exact k1
      have fi := num_find (m := 0) k1'
      rw [Nat.zero_add] at fi
      exact absurd k4 (S.sep 6 i _ _ _ _ g (by omega) f6 fi rfl (owns_live' k2) hv ((A i hi).trans k3) rfl)
  have hgf : ¬ fz g := fun hf => S.frz g hf (.inr (mine_wr.2 mineg))
  refine wp_mono (self_stepN (C := CU) plain mixed spCat_ok noLs_ok h1 h2 h3 (fun x hx => by rw [lp19 g11 (by simp)] at hx; cases hx) (pc_go hl (t := t)) (Nat.zero_le _) hN W.cu TU) fun e a' w' hq => ?_
  obtain ⟨rfl, hN', hD', σ', _, C2, st, mn, T2⟩ := hq
  obtain ⟨v7', z7, y7'⟩ := T2 7 (.h 0) rfl
  have hxT : xT (tv ++ [t]) = .h 0 := by cases tv <;> rfl
  have gt : ∀ (s : Nat) (u : Value), find s (zipT sgU (gcV (.h 0) u0 u1 u19 (.int .i64 (ps.length : Int)) (.int .i64 ((k : Nat) : Int)))) = some (.raw u) → a'.tmps[s]? = some u := fun s u hs => by
    obtain ⟨u', e1, e2⟩ := T2 s _ hs
    cases e1; exact e2
  have hsz := Bq.st.size
  refine ⟨rfl, σ', t, v7', by rw [hxT]; exact z7, hN', hD'.trans hd, fun j => ρ (pickF ix6 (gaX full ts ps N f xs).length j), ?_, ?_, fun j hj => ?_, ?_, ?_⟩
  · exact Self.raw SP own_gaO st.size fun b hb hm => st.old b hb fun hms => hm.elim (fun hm => (W.own b hms).2.1 (pk hm)) (W.own b hms).2.2
  · exact TmL.ok (ts := sg1) ⟨⟨u0, x0, gt 0 _ rfl⟩, ⟨u1, x1, gt 1 _ rfl⟩, ⟨v7', rfl, y7'⟩, ⟨u19, x19, gt 19 _ rfl⟩, ⟨_, rfl, gt 20 _ rfl⟩, ⟨_, rfl, gt 21 _ rfl⟩, trivial⟩
  · show ρ (pickF ix6 _ j) = _
    rw [ix6_lo (by omega)]; exact A j hj
  · exact (Bq.sub fun b hb => pk hb).up ⟨st.sys, st.tape, st.out, st.size, fun b hb => st.old b (Nat.lt_of_lt_of_le hb hsz) fun hms => by have := (W.own b hms).1; omega⟩
  · refine ⟨C2, fun b hb => ?_, fun t' ht' ad e => ?_, by simp [W.len], fun j t' b e1 e2 => ?_⟩
    · rcases mn b hb with hb' | hb'
      · exact ⟨by omega, fun hm => by have := Mine.lt SP hm; omega, fun hf => by have := (S.fzHeap hf).1; omega⟩
      · exact ⟨(W.own b hb').1, fun hm => (W.own b hb').2.1 (pk hm), (W.own b hb').2.2⟩
    · rcases List.mem_append.1 ht' with ht' | ht'
      · obtain ⟨k1, k2, k3, k4⟩ := W.inn t' ht' ad e
        have := W.lt ht' ad e
        exact ⟨k1, fun hm => k2 (pk hm), k3, fun hm => (mn _ hm).elim (fun h => by omega) k4⟩
      · rw [List.mem_singleton] at ht'
        subst ht'
        rw [ht] at e
        cases e
        exact ⟨hg0, hgno, hgf, fun hm => (mn g hm).elim (fun h => by omega) fun h => (W.own g h).2.1 mineg⟩
    · rw [List.getElem?_append] at e1 e2
      rw [W.len] at e1
      split at e1
      · rename_i hlt
        rw [if_pos hlt] at e2
        have hm : t' ∈ tv := List.mem_iff_getElem?.2 ⟨j, e1⟩
        exact (W.val j t' b e1 e2).stay st.size fun ad e => st.old _ (W.lt hm ad e) (W.inn t' hm ad e).2.2.2
      · rename_i hge
        rw [if_neg hge] at e2
        have e : j - bs.length = 0 := by
          have := (List.getElem?_eq_some_iff.1 e1).1
          simp at this; omega
        rw [e] at e1 e2
        cases e1; cases e2
        exact hIn.stay st.size fun ad e => st.old _ (hIn.lt ad e) (by
          rw [ht] at e; cases e
          exact fun hms => (W.own g hms).2.1 mineg)
def sgL (f : Nat → Int) (x : Sg) : List Int := memL f x.1.toNat x.2.1.toNat
def bK (f : Nat → Int) (ps : List Sg) (k : Nat) : List (List Int) := (ps.take k).map (sgL f)
theorem bK_succ {f : Nat → Int} {ps : List Sg} {k : Nat} (h : k < ps.length) : bK f ps (k + 1) = bK f ps k ++ [sgL f (elN ps k)] := by
  unfold bK elN
  rw [List.take_add_one, List.getElem?_eq_getElem h, List.getD_eq_getElem?_getD, List.getElem?_eq_getElem h, List.map_append]
  rfl
theorem bK_len {f : Nat → Int} {ps : List Sg} {k : Nat} (h : k ≤ ps.length) : (bK f ps k).length = k := by
  unfold bK
  rw [List.length_map, List.length_take, Nat.min_eq_left h]
def sgG (N : Nat) (x : Sg) : Bool := inR64 x.2.1 && (memG N x.1 x.2.1 && memC N x.1 x.2.1)
theorem sgG_at {N : Nat} {ps : List Sg} (h : ps.all (sgG N) = true) {k : Nat} (hk : k < ps.length) : inR64 (elN ps k).2.1 = true ∧ memG N (elN ps k).1 (elN ps k).2.1 = true ∧ memC N (elN ps k).1 (elN ps k).2.1 = true := by
  have := List.all_eq_true.1 h ps[k] (List.getElem_mem hk)
  unfold sgG at this
  rw [Bool.and_eq_true, Bool.and_eq_true] at this
  have e : elN ps k = ps[k] := by
    unfold elN
    rw [List.getD_eq_getElem?_getD, List.getElem?_eq_getElem hk]; rfl
  rw [e]
  exact this
section
variable {fz : Nat → Prop} {w0 : World} {ρ0 : Asg} {full : Bool} {ts ps : List Sg} {N : Nat} {f : Nat → Int}
def Gk (fz : Nat → Prop) (w0 : World) (ρ0 : Asg) (full : Bool) (ts ps : List Sg) (N : Nat) (f : Nat → Int) (k : Nat) (a : Act) (w : World) : Prop :=
  ∃ σ tv v7, den σ (xT tv) = some v7 ∧ Gp fz w0 ρ0 (memS true full ts N f) σ tv (bK f ps k) sg1 (gaV v7 ps (k : Nat)) (gaO full ts ps N f) a w
theorem Gp.tm {S0 os : List (SO CT)} {σ : Asg} {tv : List Sv} {bs : List (List Int)} {slots : List Nat} {vs : List SV} {a : Act} {w : World} (h : Gp fz w0 ρ0 S0 σ tv bs slots vs os a w) {t : Nat} {v : Value} (ht : find t (zipT slots vs) = some (.raw v)) : a.tmps[t]? = some v := by
  obtain ⟨_, _, ρ, _, g2, _⟩ := h
  obtain ⟨u, h1, h2⟩ := g2 t _ ht
  cases h1
  exact h2
theorem Gp.len {S0 os : List (SO CT)} {σ : Asg} {tv : List Sv} {bs : List (List Int)} {slots : List Nat} {vs : List SV} {a : Act} {w : World} (h : Gp fz w0 ρ0 S0 σ tv bs slots vs os a w) : tv.length = bs.length := by
  obtain ⟨_, _, ρ, _, _, _, _, g⟩ := h
  exact g.len
abbrev gaC : Code := .seq g6 (.seq gi (.seq (.block 1 (.seq g7 (.seq g8 (.seq g9 g11)))) g12))
theorem ga_round {k : Nat} (hk : k < ps.length) (hl : ps.length ≤ 1000) (hs : ps.all (sgG N) = true) {a : Act} {w : World} (H : Gk fz w0 ρ0 full ts ps N f k a w) : gaC.wp Tryz.prog (fun e a' w' => e = .normal ∧ Gk fz w0 ρ0 full ts ps N f (k + 1) a' w') a w := by
  obtain ⟨σ, tv, v7, hx, H⟩ := H
  obtain ⟨s1, s2, s3⟩ := sgG_at hs hk
  have htl : tv.length ≤ 1000 := by rw [H.len, bK_len (by omega)]; omega
  refine wp_seq (wp_mono (H.step (lp19 _ (by simp)) (ga_6 v7 full ts ps N f _) (by decide) (by show 6 ≤ 6; decide)) fun e a1 w1 hq => ?_)
  obtain ⟨rfl, H1⟩ := hq
  refine wp_seq (wp_mono (H1.step (lp19 gi (by simp)) (pg_i (v := v7) (k := (k : Nat)) (b := decide (((k : Nat) : Int) < (ps.length : Int)))) (by decide) (by show 6 ≤ 6; decide)) fun e a2 w2 hq => ?_)
  rw [decide_eq_true (show ((k : Nat) : Int) < (ps.length : Int) by omega)] at hq
  obtain ⟨rfl, H2⟩ := hq
  refine wp_seq (wp_block (wp_seq (wp_mono (H2.step (lp19 _ (by simp)) (pg_7 hk) (by decide) (by show 6 ≤ 6; decide)) fun e a3 w3 hq => ?_)))
  obtain ⟨rfl, H3⟩ := hq
  refine wp_seq (wp_mono (H3.step (lp19 _ (by simp)) (pg_8 s1 s2 s3) (by decide) (by show 6 ≤ 7; decide)) fun e a4 w4 hq => ?_)
  obtain ⟨rfl, H4⟩ := hq
  refine wp_seq (wp_mono (H4.step (lp19 _ (by simp)) (ga_9 v7 full ts ps N f _ _) (by decide) (by show 6 ≤ 7; decide)) fun e a5 w5 hq => ?_)
  obtain ⟨rfl, H5⟩ := hq
  refine wp_mono (g11_go htl hx H5) fun e a6 w6 hq => ?_
  obtain ⟨rfl, σ', t, v7', hx', H6⟩ := hq
  refine wp_mono (H6.step (lp19 _ (by simp)) (pg_12 (by omega)) (by decide) (by show 6 ≤ 6; decide)) fun e a7 w7 hq => ?_
  obtain ⟨rfl, H7⟩ := hq
  refine ⟨rfl, σ', tv ++ [t], v7', hx', ?_⟩
  rw [bK_succ hk]
  exact H7
theorem ga_loop (hl : ps.length ≤ 1000) (hs : ps.all (sgG N) = true) {a : Act} {w : World} (H : Gk fz w0 ρ0 full ts ps N f 0 a w) : (Code.block 0 (.loop gaC)).wp Tryz.prog (fun e a' w' => e = .normal ∧ Gk fz w0 ρ0 full ts ps N f ps.length a' w') a w := by
  refine wp_block (wp_loop (fun a w => ∃ k : Nat, k ≤ ps.length ∧ Gk fz w0 ρ0 full ts ps N f k a w) (fun a w => muK ps.length a.tmps[21]?) ⟨0, Nat.zero_le _, H⟩ ?_)
  rintro a w ⟨k, hk, H⟩
  have y1 : a.tmps[21]? = some (.int .i64 ((k : Nat) : Int)) := by
    obtain ⟨σ, tv, v7, hx, H⟩ := H
    exact H.tm rfl
  by_cases hlt : k < ps.length
  · refine wp_mono (ga_round hlt hl hs H) fun e a1 w1 hq => ?_
    obtain ⟨rfl, H1⟩ := hq
    have y2 : a1.tmps[21]? = some (.int .i64 ((k + 1 : Nat) : Int)) := by
      obtain ⟨σ, tv, v7, hx, H⟩ := H1
      exact H.tm rfl
    refine ⟨⟨k + 1, hlt, H1⟩, ?_⟩
    rw [y1, y2]
    show ps.length - ((k + 1 : Nat) : Int).toNat < ps.length - ((k : Nat) : Int).toNat
    omega
  · obtain rfl : k = ps.length := by omega
    obtain ⟨σ, tv, v7, hx, H⟩ := H
    refine wp_seq (wp_mono (H.step (lp19 _ (by simp)) (ga_6 v7 full ts ps N f _) (by decide) (by show 6 ≤ 6; decide)) fun e a1 w1 hq => ?_)
    obtain ⟨rfl, H1⟩ := hq
    refine wp_seq (wp_mono (H1.step (lp19 gi (by simp)) (pg_i (v := v7) (k := (ps.length : Nat)) (b := decide (((ps.length : Nat) : Int) < (ps.length : Int)))) (by decide) (by show 6 ≤ 6; decide)) fun e a2 w2 hq => ?_)
    rw [decide_eq_false (show ¬ ((ps.length : Nat) : Int) < (ps.length : Int) by omega)] at hq
    obtain ⟨rfl, H2⟩ := hq
    exact ⟨rfl, σ, tv, v7, hx, H2⟩
end
def cuE (t : Sv) (b : List Int) : In := ((none, 0, 0), t.1.map fun ad => (ad, t.2.2), b)
def cuOf (tv : List Sv) (bs : List (List Int)) : List In := List.zipWith cuE tv bs
theorem cu_len {tv : List Sv} {bs : List (List Int)} (h : tv.length = bs.length) : (cuOf tv bs).length = bs.length := by
  unfold cuOf
  rw [List.length_zipWith, h, Nat.min_self]
theorem cu_mem {tv : List Sv} {bs : List (List Int)} {x : In} (h : x ∈ cuOf tv bs) : ∃ (j : Nat) (t : Sv) (b : List Int), tv[j]? = some t ∧ bs[j]? = some b ∧ x = cuE t b := by
  obtain ⟨j, hj⟩ := List.mem_iff_getElem?.1 h
  unfold cuOf at hj
  rw [List.getElem?_zipWith] at hj
  cases ht : tv[j]? with
  | none => rw [ht] at hj; cases hj
  | some t =>
    cases hb : bs[j]? with
    | none => rw [ht, hb] at hj; cases hj
    | some b => rw [ht, hb] at hj; cases hj; exact ⟨j, t, b, ht, hb, rfl⟩
theorem cu_flat : ∀ {tv : List Sv} {bs : List (List Int)}, tv.length = bs.length → (∀ (j : Nat) (t : Sv) (b : List Int), tv[j]? = some t → bs[j]? = some b → ∃ ad c, t = (some ad, b.length, c)) → ssFlat (CU 34) 0 (cuOf tv bs) = (CU 34).flat tv
  | [], [], _, _ => rfl
  | [], _ :: _, h, _ => by cases h
  | _ :: _, [], h, _ => by cases h
  | t :: ts, b :: bs, h, hj => by
    obtain ⟨ad, c, rfl⟩ := hj 0 t b rfl rfl
    have ih := cu_flat (tv := ts) (bs := bs) (Nat.succ.inj h) fun j t b h1 h2 => hj (j + 1) t b h1 h2
    show ssCells (CU 34) 0 (cuE (some ad, b.length, c) b) ++ ssFlat (CU 34) 0 (cuOf ts bs) = (CU 34).enc (some ad, b.length, c) ++ (CU 34).flat ts
    rw [ih]
    rfl
theorem cu_join : ∀ {tv : List Sv} {bs : List (List Int)}, tv.length = bs.length → ((cuOf tv bs).map fun x => x.2.2).flatten = bs.flatten
  | [], [], _ => rfl
  | [], _ :: _, h => by cases h
  | _ :: _, [], h => by cases h
  | t :: ts, b :: bs, h => by
    have ih := cu_join (tv := ts) (bs := bs) (Nat.succ.inj h)
    show (b :: ((cuOf ts bs).map fun x => x.2.2)).flatten = _
    rw [List.flatten_cons, ih, List.flatten_cons]
theorem bK_flat {f : Nat → Int} {ps : List Sg} : (bK f ps ps.length).flatten = readS f ps := by
  unfold bK
  rw [List.take_length]
  induction ps with
  | nil => rfl
  | cons x r ih =>
    rw [List.map_cons, List.flatten_cons, ih]
    rfl
section
variable {fz : Nat → Prop} {w0 : World} {ρ0 σ : Asg} {tv : List Sv} {bs : List (List Int)} {v7 : Value} {full : Bool} {ts ps : List Sg} {N : Nat} {f : Nat → Int}
def ixF : List Nat := [0, 1, 2, 3, 4, 6]
@[reducible] def gaR (full : Bool) (ts : List Sg) (N : Nat) (f : Nat → Int) (xs : List Int) : List (SO CT) := memS true full ts N f ++ [.sl true false 5 (xs : List Int)]
theorem pickF6 {xs : List Int} : (gaR full ts N f xs).map (renO (pickF ixF (gaX full ts ps N f xs).length)) = ixF.map fun i => (gaX full ts ps N f xs).getD i .gone := rfl
theorem ixF_in {xs : List Int} : ∀ i ∈ ixF, i < (gaX full ts ps N f xs).length := by
  show ∀ i ∈ ixF, i < 7
  decide
theorem ixF_lo {n j : Nat} (h : j < 5) : pickF ixF n j = j := by
  match j, h with
  | 0, _ => rfl
  | 1, _ => rfl
  | 2, _ => rfl
  | 3, _ => rfl
  | 4, _ => rfl
  | n + 5, h => omega
theorem own_gaR {xs : List Int} : owned (gaR full ts N f xs) = true := rfl
theorem mine_snoc' {C : Tab} {ρ : Asg} {os : List (SO C)} {o : SO C} {v : Value} {g : Nat} (h : Mine (ρ.add os.length v) (os ++ [o]) g) : blk v = some g ∨ Mine ρ os g := by
  obtain ⟨i, O, u, h1, h2, h3, h4⟩ := h
  by_cases hi : i = os.length
  · subst hi
    have : (ρ.add os.length v) os.length = some v := Asg.add_self ρ os.length v
    rw [this] at h3
    cases h3
    exact .inl h4
  · have hlt : i < os.length := by
      have := (List.getElem?_eq_some_iff.1 h1).1
      simp at this
      omega
    rw [List.getElem?_append_left hlt] at h1
    refine .inr ⟨i, O, u, h1, h2, ?_, h4⟩
    unfold Asg.add at h3
    rw [if_neg hi] at h3
    exact h3
theorem g13_go (hx : den σ (xT tv) = some v7) (hbs : ∀ b ∈ bs, 0 < b.length) (hb0 : bs ≠ []) (hbl : bs.length ≤ 1000) (hfl : bs.flatten.length ≤ 4294967296) {k : Int} {a : Act} {w : World} (H : Gp fz w0 ρ0 (memS true full ts N f) σ tv bs sg1 (gaV v7 ps k) (gaO full ts ps N f) a w) :
    g13.wp Tryz.prog (fun e a' w' => e = .normal ∧ a'.defers = [] ∧ ∃ ρ v, a'.tmps[4]? = some v ∧ a'.tmps[5]? = some (.int .i64 0) ∧ ρ 5 = some v ∧ (∀ j, j < 5 → ρ j = ρ0 j) ∧ Self fz ρ (gaR full ts N f bs.flatten) w' ∧ Bg w0 ρ0 (memS true full ts N f) ρ (gaR full ts N f bs.flatten) w') a w := by
  have hlen := H.len
  have y7 : a.tmps[7]? = some v7 := H.tm rfl
  obtain ⟨hN, hd, ρ, S, T, A, Bq, W⟩ := H
  obtain ⟨t0, tr, rfl⟩ : ∃ t r, tv = t :: r := by
    cases tv with
    | nil => exact absurd (List.eq_nil_of_length_eq_zero hlen.symm) hb0
    | cons t r => exact ⟨t, r, rfl⟩
  have hx : σ 0 = some v7 := hx
  have f0 : find 0 (numH 0 (oT (t0 :: tr))) = some (.sl true false 34 (t0 :: tr : List Sv)) := rfl
  obtain ⟨_, hv0, a0, cap, rfl, hle, _, hown⟩ := W.cu.obj 0 _ f0
  rw [hv0] at hx
  cases hx
  obtain ⟨rb, tot, rfl, _⟩ := id hown
  generalize htv : t0 :: tr = tv at *
  have hrlt : rb < w.heap.size := W.cu.blkOk 0 _ _ _ f0 rfl hv0 rfl
  let fU : Nat → Prop := fun b => ∃ (t : Sv) (ad : Addr), t ∈ tv ∧ t.1 = some ad ∧ ad.block = b
  have hfU : ∀ b, fU b → b < w.heap.size := fun b hb => by
    obtain ⟨t, ad, h1, h2, rfl⟩ := hb
    exact W.lt h1 ad h2
  have hshape : ∀ (j : Nat) (t : Sv) (b : List Int), tv[j]? = some t → bs[j]? = some b → ∃ ad c, t = (some ad, b.length, c) := fun j t b h1 h2 => by
    obtain ⟨ad, c, e, _⟩ := W.val j t b h1 h2
    exact ⟨ad, c, e⟩
  have hcl : (cuOf tv bs).length = tv.length := (cu_len hlen).trans hlen.symm
  have hflat := cu_flat hlen hshape
  have s0 : Self (C := CU) fU (fun _ => none) [] w := Self.empty hfU
  have no0 : ∀ {ρ : Asg} {b : Nat}, ¬ Mine (C := CU) ρ [] b := fun hm => by obtain ⟨i, O, u, q1, _⟩ := hm; cases q1
  have s1 := s0.snoc (o := .ss 34 0 5 (cuOf tv bs)) (v := .slice (some ⟨rb, 0, none⟩) tv.length cap) (fz' := fU) rfl rfl
    ⟨some ⟨rb, 0, none⟩, cap, congrArg (fun n => Value.slice (some ⟨rb, 0, none⟩) n cap) hcl.symm, Nat.le_trans (Nat.le_of_eq hcl) hle, fun j x hx => hown.cell j x ((congrArg (fun l => l[j]?) hflat).symm.trans hx)⟩
    (fun b hb => by cases hb; exact hrlt) (fun b _ hm => no0 hm) (fun h => by cases h) (fun _ => rfl) (fun b hb => ⟨hfU b hb, no0, fun h => by cases h⟩) (fun b hb => hb) (fun X hX t ht => by
      obtain ⟨j, t', b, h1, h2, rfl⟩ := cu_mem ht
      have hm : t' ∈ tv := List.mem_iff_getElem?.2 ⟨j, h1⟩
      obtain ⟨ad, c, rfl, hc1, hc2, hc3⟩ := W.val j t' b h1 h2
      refine ⟨(fun e => by cases e), fun a' c' e => ?_⟩
      cases e
      refine ⟨hc1, fun _ => ⟨?_, hc3⟩⟩
      rw [hX]
      exact ⟨_, ad, hm, rfl, rfl⟩)
  have no1 : ∀ {ρ : Asg} {b : Nat}, ¬ Mine (C := CU) ρ (cO (cuOf tv bs)) b := fun hm => by
    obtain ⟨i, O, u, q1, q2, _⟩ := hm
    cases i with
    | zero => cases q1; cases q2
    | succ i => cases q1
  have hjoin : flI (cuOf tv bs) (cuOf tv bs).length = bs.flatten := by
    unfold flI
    rw [List.take_length]
    exact cu_join hlen
  have hpos : 0 < bs.flatten.length := by
    cases bs with
    | nil => exact absurd rfl hb0
    | cons b r =>
      have := hbs b List.mem_cons_self
      rw [List.flatten_cons, List.length_append]; omega
  have hG : catG (cuOf tv bs) = true := by
    unfold catG
    rw [hjoin, cu_len hlen]
    rw [Bool.and_eq_true, Bool.and_eq_true]
    refine ⟨List.all_eq_true.2 fun x hx => ?_, decide_eq_true ⟨hpos, hfl⟩, decide_eq_true (by omega)⟩
    obtain ⟨j, t, b, h1, h2, rfl⟩ := cu_mem hx
    obtain ⟨ad, c, rfl, hc1, _⟩ := W.val j t b h1 h2
    have hb := hbs b (List.mem_iff_getElem?.2 ⟨j, h2⟩)
    show (!Nat.beq c 0) = true
    cases c with
    | zero => omega
    | succ c => rfl
  obtain ⟨fn, h1, h2, h3, _⟩ := f19_ex
  have pz : (gcL g13 [7] [4, 5] ⟨[.h 0], 1, cO (cuOf tv bs)⟩).get = some (.normal, [.h 1, .raw (.int .i64 0)], dO (cuOf tv bs) bs.flatten) := by
    refine (gc_13 (cuOf tv bs)).trans ?_
    rw [opq_eq, hG, hjoin]; rfl
  refine wp_mono (self_stepN (C := CU) plain mixed spCat_ok noLs_ok h1 h2 h3 (fun x hx => by rw [lp19 g13 (by simp)] at hx; cases hx) pz (Nat.le_refl _) hN s1 (TmL.ok (ts := [7]) ⟨⟨_, rfl, y7⟩, trivial⟩)) fun e a' w' hq => ?_
  obtain ⟨rfl, hN', hD', σ', _, C2, st, mn, T2⟩ := hq
  obtain ⟨v4, z4, q4⟩ := T2 4 (.h 1) rfl
  obtain ⟨_, z5, q5⟩ := T2 5 (.raw (.int .i64 0)) rfl
  cases z5
  have z4 : σ' 1 = some v4 := z4
  have f1 : find 1 (numH 0 (dO (cuOf tv bs) bs.flatten)) = some (.sl true false 5 (bs.flatten : List Int)) := rfl
  obtain ⟨_, hv1, a1, cap1, rfl, hle1, hful1, hown1⟩ := C2.obj 1 _ f1
  rw [hv1] at z4
  cases z4
  obtain ⟨g, tot1, rfl, _⟩ := id hown1
  have hg1 : g < w'.heap.size := C2.blkOk 1 _ _ _ f1 rfl hv1 rfl
  have hgw : w.heap.size ≤ g := (mn g ⟨1, _, _, rfl, rfl, hv1, rfl⟩).elim id fun h => (no1 h).elim
  have hall : ∀ b, b < w.heap.size → w'.heap[b]? = w.heap[b]? := fun b hb => st.old b hb no1
  have S' : Self fz ρ (gaO full ts ps N f) w' := Self.raw S own_gaO st.size fun b hb _ => hall b hb
  have S2 : Self fz (ρ.add (gaO full ts ps N f).length (.slice (some ⟨g, 0, none⟩) bs.flatten.length cap1)) (gaX full ts ps N f bs.flatten) w' := by
    refine Self.snoc (fz' := fz) S' rfl rfl ⟨_, cap1, rfl, hle1, hful1, ?_⟩ ?_ ?_ ?_ (fun _ => rfl) ?_ (fun g h => h) (fun X h => trivial)
    · exact ownsL.to (c := CT 5) hown1 (fun _ _ _ => trivial) (fun _ _ => rfl)
    · intro b hb; cases hb; exact hg1
    · intro b hb hm; cases hb
      have : g < w.heap.size := Mine.lt S hm
      omega
    · intro _ i O u b e1 e2 e3 hb e5
      cases hb
      have : g < w.heap.size := Mine.lt S ⟨i, O, u, e1, owned_at own_gaO e1 e2, e3, e5⟩
      omega
    · intro b hb
      refine ⟨(S'.fzHeap hb).1, fun hm => S'.frz b hb (.inr (mine_wr.2 hm)), fun _ e => ?_⟩
      cases e
      have : g < w.heap.size := (S.fzHeap hb).1
      omega
  have SF := Self.pick S2 ixF pickF6 ixF_in (by decide) rfl
  have hsz := Bq.st.size
  have aN : ∀ j, j < 6 → (ρ.add (gaO full ts ps N f).length (.slice (some ⟨g, 0, none⟩) bs.flatten.length cap1)) j = ρ j := fun j hj => by
    unfold Asg.add
    rw [if_neg (by show ¬ j = 6; omega)]
  refine ⟨rfl, hD'.trans hd, _, _, q4, q5, ?_, fun j hj => ?_, SF, ?_⟩
  · exact Asg.add_self ρ 6 _
  · show (ρ.add _ _) (pickF ixF _ j) = _
    rw [ixF_lo hj, aN j (by omega)]; exact A j hj
  · have h := Bq.up (w' := w') ⟨st.sys, st.tape, st.out, st.size, fun b hb => hall b (by omega)⟩
    refine ⟨h.st, fun b hb => ?_⟩
    rcases mine_snoc' (Mine.pick pickF6 ixF_in hb) with e | e
    · cases e; exact .inl (Nat.le_trans hsz hgw)
    · exact h.mn b e
end
def gaG (ts : List Sg) (N : Nat) (f : Nat → Int) : Bool := (wfS ts && (szB N && okSg ts)) && (memA N ts && (decide ((partS false ts).length ≠ 0) && ((partS false ts).all (sgG N) && decide ((readS f (partS false ts)).length ≤ 4294967296))))
def gaGI (ts : List Sg) (N : Nat) (f : Nat → Int) : Bool := opq (gaG ts N f)
def readI (f : Nat → Int) (ts : List Sg) : List Int := opq (readS f (partS false ts))
theorem gaGI_eq (ts : List Sg) (N : Nat) (f : Nat → Int) : gaGI ts N f = gaG ts N f := opq_eq _
theorem readI_eq (f : Nat → Int) (ts : List Sg) : readI f ts = readS f (partS false ts) := opq_eq _
theorem part_len (b : Bool) (ts : List Sg) : (partS b ts).length ≤ ts.length := List.length_filter_le _ _
theorem gather_ok {full : Bool} {ts : List Sg} {N : Nat} {f : Nat → Int} (h : gaG ts N f = true) : FnB Tryz.prog 19 [.h 0, .h 1] (memS true full ts N f) (.tup [.h 5, .raw (.int .i64 0)], gaR full ts N f (readS f (partS false ts))) := by
  unfold gaG at h
  simp only [Bool.and_eq_true] at h
  obtain ⟨⟨hw, hN, hok⟩, hm, hne, hs, hfl⟩ := h
  have hne := of_decide_eq_true hne
  have hfl := of_decide_eq_true hfl
  have he : inE N ts = 0 := by rw [inE_eq, hok, hm]; rfl
  obtain ⟨ps, hps⟩ : ∃ ps, partS false ts = ps := ⟨_, rfl⟩
  have hpi : partI false ts = ps := (partI_eq false ts).trans hps
  have hoi : okI ts = true := (okI_eq ts).trans hok
  rw [hps] at hne hs hfl ⊢
  have hl : ps.length ≤ 1000 := by
    have h1 := part_len false ts
    rw [hps] at h1
    have := okSg_len hok
    omega
  refine FnB.ofSelf (by kernel_rfl) rfl (fun i o hi hl => .inl (owned_at own_gaR hi hl)) fun fz ρ w vals S hd => ?_
  obtain ⟨u0, ul, q0, q1, rfl⟩ := denL_cons.1 hd
  obtain ⟨u1, ul2, q2, q3, rfl⟩ := denL_cons.1 q1
  rw [denL_nil] at q3
  subst q3
  obtain ⟨fn, h1, h2, h3, h4⟩ := f19_ex
  refine calls_of_wp h1 h2 ?_
  rw [h3]
  have W0 : Two fz w ρ (memS true full ts N f) (fun _ => none) [] [] w := by
    refine ⟨Self.empty (fun g hg => hg.elim), fun g hg => ?_, (fun t ht => by cases ht), rfl, (fun j t b e => by cases e)⟩
    obtain ⟨i, O, u, e, _⟩ := hg
    cases e
  have H0 : Gp fz w ρ (memS true full ts N f) (fun _ => none) [] [] [0, 1] [.h 0, .h 1] (memS true full ts N f) { tmps := #[u0, u1] ++ Array.replicate (45 - (#[u0, u1] : Array Value).size) undef, defers := [] } w :=
    ⟨by rw [Array.size_append, Array.size_replicate]; rfl, rfl, ρ, S, TmL.ok (ts := [0, 1]) ⟨⟨u0, q0, arg_at rfl⟩, ⟨u1, q2, arg_at rfl⟩, trivial⟩, fun _ _ => rfl, Bg.start, W0⟩
  rw [c19_eq]
  have l5 : 5 ≤ (memS true full ts N f).length := Nat.le_refl 5
  refine wp_seq (wp_mono (H0.step (lp19 _ (by simp)) (ga_0 full ts N f) (by decide) l5) fun e a1 w1 hq => ?_)
  obtain ⟨rfl, H1⟩ := hq
  refine wp_seq (wp_seq (wp_mono (H1.step (lp19 _ (by simp)) (pg_1 hw hN he) (by decide) l5) fun e a2 w2 hq => ?_))
  obtain ⟨rfl, H2⟩ := hq
  refine wp_mono (H2.step (lp19 _ (by simp)) pg_2 (by decide) l5) fun e a3 w3 hq => ?_
  obtain ⟨rfl, H3⟩ := hq
  refine wp_seq (wp_mono (H3.step (lp19 _ (by simp)) (ga_4 full ts N f) (by decide) l5) fun e a4 w4 hq => ?_)
  obtain ⟨rfl, H4⟩ := hq
  refine wp_seq (wp_seq (wp_mono (H4.step (lp19 _ (by simp)) (pg_5 hw hoi hpi hne) (by decide) l5) fun e a5 w5 hq => ?_))
  obtain ⟨rfl, H5⟩ := hq
  refine wp_mono (ga_loop hl hs ⟨_, [], .slice none 0 0, rfl, H5⟩) fun e a6 w6 hq => ?_
  obtain ⟨rfl, σ, tv, v7, hx, H6⟩ := hq
  have hflat := bK_flat (f := f) (ps := ps)
  refine wp_seq (wp_mono (g13_go hx (fun b hb => ?_) ?_ ?_ ?_ H6) fun e a7 w7 hq => ?_)
  · unfold bK at hb
    obtain ⟨x, hx, rfl⟩ := List.mem_map.1 hb
    have hx' := List.all_eq_true.1 hs x (List.mem_of_mem_take hx)
    unfold sgG at hx'
    simp only [Bool.and_eq_true] at hx'
    have hc := of_decide_eq_true hx'.2.2
    show 0 < (memL f x.1.toNat x.2.1.toNat).length
    rw [memL_length]
    omega
  · intro e
    have := bK_len (f := f) (Nat.le_refl ps.length)
    rw [e] at this
    exact hne this.symm
  · rw [bK_len (Nat.le_refl _)]; exact hl
  · rw [hflat]; exact hfl
  · obtain ⟨rfl, hd7, ρ', v, z4, z5, hv, hA, S7, B7⟩ := hq
    rw [hflat] at S7 B7
    refine wp_ret (bodyPost_ret (results_tmp2 h4 _ _ _) hd7 ⟨ρ', _, rfl, hA, S7, B7.st, B7.mn, ?_⟩)
    have x4 : a7.tmps.getD 4 undef = v := by rw [Array.getD_eq_getD_getElem?, z4]; rfl
    have x5 : a7.tmps.getD 5 undef = .int .i64 0 := by rw [Array.getD_eq_getD_getElem?, z5]; rfl
    rw [x4, x5]
    simp [den, denL, hv]
def gatT : FnF CT := fun ws os => match ws, os with
  | [.h 0, .h 1], [.box [.h 2, .h 3] 138, .sl true full 101 ts, .sl true false 58 rg, .rw 34 1 1 false [.h 4], .mem 5 N f] =>
    .br (rgB rg N) (.br (gaGI ts N f) (.leaf (.tup [.h 5, .raw (.int .i64 0)], gaR full ts N f (readI f ts))) .fail) .fail
  | _, _ => .fail
theorem gatT_ok : ∀ args os r, (gatT args os).get = some r → FnB Tryz.prog 19 args os r := fun args os r h => by
  unfold gatT at h
  split at h
  · rename_i full ts rg N f
    change List Sg at ts
    change List Rg at rg
    obtain ⟨h1, h2⟩ := Tr.get_ask.1 h
    obtain ⟨h3, h4⟩ := Tr.get_ask.1 h2
    clear h h2
    obtain rfl : rg = [(0, (N : Int))] := rgB_eq h1
    simp only [Tr.get, Option.some.injEq] at h4
    subst h4
    rw [gaGI_eq] at h3
    rw [readI_eq]
    exact gather_ok h3
  · cases h
end
end Go.Proofs.YtfgbhgeppdffaaaGreat
namespace Go.Proofs.YtfgbhgeppdffaaaGreat
open Go Go.Sx Go.RowKit
set_option maxRecDepth 1000000
set_option maxHeartbeats 8000000
set_option linter.unusedVariables false
set_option linter.unusedSimpArgs false
noncomputable section
def eatOI (l : List Sg) (n : Int) : List Sg := opq (eatO l n)
def eatRI (l : List Sg) (n : Int) : List Sg := opq (eatR l n)
def eatNI (l : List Sg) (n : Int) : Nat := opq (eatN l n)
def eatPI (l : List Sg) (n : Int) : Bool := opq (eatP l n)
def remI (l : List Sg) (n : Int) : Int := opq (remS l n (eatN l n))
theorem eatOI_eq (l : List Sg) (n : Int) : eatOI l n = eatO l n := opq_eq _
theorem eatRI_eq (l : List Sg) (n : Int) : eatRI l n = eatR l n := opq_eq _
theorem eatNI_eq (l : List Sg) (n : Int) : eatNI l n = eatN l n := opq_eq _
theorem eatPI_eq (l : List Sg) (n : Int) : eatPI l n = eatP l n := opq_eq _
theorem remI_eq (l : List Sg) (n : Int) : remI l n = remS l n (eatN l n) := opq_eq _
def eaG (tot : List Sg) (n : Int) : Bool := decide (tot.length ≤ 100000 ∧ 0 ≤ n ∧ n < 18446744073709551616) && (wfS tot && tot.all sgB)
theorem eaG_iff {tot : List Sg} {n : Int} : eaG tot n = true ↔ (tot.length ≤ 100000 ∧ 0 ≤ n ∧ n < 18446744073709551616) ∧ wfS tot = true ∧ tot.all sgB = true := by
  unfold eaG; rw [Bool.and_eq_true, Bool.and_eq_true, decide_eq_true_eq]
def eaLeaf (ini : Int → List SV × List (SO CT)) (full : Bool) (tot : List Sg) (b : Nat) (ts : List Sg) (n : Int) : Tr (Ex × List SV × List (SO CT)) :=
  .br (eatPI ts n) (.leaf (.ret, eaC true full tot (eatOI ts n) (eatRI ts n) 0)) (.br (decide (eatNI ts n = 0)) (.leaf (.exit 0, ini n)) (.leaf (.exit 0, eaB true full tot (b + eatNI ts n - 1) (b + eatNI ts n) (ts.length - eatNI ts n) (eatOI ts n) (remI ts n))))
theorem eaLeaf_get (ini : Int → List SV × List (SO CT)) (full : Bool) (tot : List Sg) (b : Nat) (ts : List Sg) (n : Int) : (eaLeaf ini full tot b ts n).get = some (eaE ini full tot b ts n) := by
  unfold eaLeaf eaE
  rw [eatPI_eq, eatNI_eq, eatOI_eq, eatRI_eq, remI_eq]
  cases hp : eatP ts n with
  | true => rfl
  | false =>
    rw [cond_false, (eat_full hp).1]
    generalize eatN ts n = k
    cases k with
    | zero => rfl
    | succ k => rfl
def eaLoop : LoopFn CT := fun li => match li with
  | ⟨[.h 0, .raw (.int .u64 n), .raw (.slice none 0 0)], 2, [.box [.h 1] 150, .sl true full 101 tot]⟩ => .br (eaG tot n) (eaLeaf (eaH true full tot) full tot 0 tot n) .fail
  | ⟨[.h 0, .raw (.int .u64 n), .raw (.slice none 0 0)], 2, [.box [.vs 1 3 bs off len none] 150, .sl true full 101 tot]⟩ => .br (decide (1 ≤ off ∧ off + len ≤ @List.length Sg tot)) (.br (eaG tot n) (eaLeaf (eaA true full tot bs off len) full tot off (@List.take Sg len (@List.drop Sg off tot)) n) .fail) .fail
  | ⟨[.h 0, .raw (.int .u64 n), .raw (.slice none 0 0)], 1, [.box [.raw (.slice none 0 0)] 150]⟩ => .leaf (.exit 0, [.h 0, .raw (.int .u64 n), .raw (.slice none 0 0)], [.box [.raw (.slice none 0 0)] 150])
  | _ => .fail
theorem eaE_keep (ini : Int → List SV × List (SO CT)) (full : Bool) (tot : List Sg) (b : Nat) (ts : List Sg) (n : Int) (hi : ∃ x, (ini n).2 = [.box x 150, .sl true full 101 (tot : List Sg)]) : Keeps 2 (ini n).2 (eaE ini full tot b ts n).2.2 := by
  obtain ⟨x, hx⟩ := hi
  unfold eaE
  rw [hx]
  cases eatP ts n with
  | true => exact Keeps.of3 (Nat.le_of_ble_eq_true rfl) rfl
  | false =>
    rw [cond_false]
    cases eatN ts n with
    | zero => show Keeps 2 _ (ini n).2; rw [hx]; exact Keeps.of3 (Nat.le_of_ble_eq_true rfl) rfl
    | succ k => exact Keeps.of3 (Nat.le_of_ble_eq_true rfl) rfl
theorem eaLoop_ok : ∀ tm hp n x, (loopS eaSl [] eaLoop tm hp n).get = some x → InLoop Tryz.prog ((loopOf Tryz.prog 64 0).get!).1 (loopOf Tryz.prog 64 0).get!.2 tm hp n fun e tm hp n => (e, tm, hp, n) = x := loopS_of fun li r h => by
  unfold eaLoop at h
  split at h
  · rename_i n full tot
    change List Sg at tot
    obtain ⟨hg, hC⟩ := Tr.get_ask.1 h
    clear h
    obtain ⟨⟨h1, h2⟩, h3, h4⟩ := eaG_iff.1 hg
    have hr := Option.some.inj (hC.symm.trans (eaLeaf_get _ _ _ _ _ _))
    subst hr
    refine ⟨eaE_keep (eaH true full tot) full tot 0 tot n ⟨_, rfl⟩, ?_⟩
    exact ea_run (ini := eaH true full tot) (b := 0) (ts := tot) (by simp) (by omega) h3 h4 h1 h2 (fun a b c => eaH_go a h3 h4 ⟨b, h2.2⟩ c) (fun a b c => eaH_part a h3 h4 h1 ⟨b, h2.2⟩ c) (fun a => eaH_end a)
  · rename_i n bs off len full tot
    change List Sg at tot
    obtain ⟨ho, hB⟩ := Tr.get_ask.1 h
    obtain ⟨hg, hC⟩ := Tr.get_ask.1 hB
    clear h hB
    have ho : 1 ≤ off ∧ off + len ≤ tot.length := of_decide_eq_true ho
    obtain ⟨⟨h1, h2⟩, h3, h4⟩ := eaG_iff.1 hg
    have hr := Option.some.inj (hC.symm.trans (eaLeaf_get _ _ _ _ _ _))
    subst hr
    refine ⟨eaE_keep (eaA true full tot bs off len) full tot off (@List.take Sg len (@List.drop Sg off tot)) n ⟨_, rfl⟩, ?_⟩
    obtain ⟨o, rfl⟩ : ∃ o, off = o + 1 := ⟨off - 1, by omega⟩
    have hl : ((tot.drop (o + 1)).take len).length = len := by rw [List.length_take, List.length_drop]; omega
    refine ea_run (ini := eaA true full tot bs (o + 1) len) (b := o + 1) (ts := (tot.drop (o + 1)).take len) (by rw [hl]) (by omega) h3 h4 h1 h2 (fun a b c => ?_) (fun a b c => ?_) (fun a => ?_)
    · rw [hl] at a ⊢; exact eaA_go ⟨a, ho.2⟩ h3 h4 ⟨b, h2.2⟩ c
    · rw [hl] at a ⊢; exact eaA_part ⟨a, ho.2⟩ h3 h4 h1 ⟨b, h2.2⟩ c
    · rw [hl] at a; exact eaA_end a
  · rename_i n
    simp only [Tr.get, Option.some.injEq] at h
    subst h
    refine ⟨Keeps.of3 (Nat.le_of_ble_eq_true rfl) rfl, ?_⟩
    refine scan_li (n := 0) (stN := fun k => ([.h 0, .raw (.int .u64 n), .raw (.slice none 0 0)], [.box [.raw (.slice none 0 0)] 150])) (stR := fun k => ([.h 0, .raw (.int .u64 n), .raw (.slice none 0 0)], [.box [.raw (.slice none 0 0)] 150])) (p := fun _ => false) (d := 10) (unr := fun _ _ => 20) (sp := sp3) (ls := noLs) plain mixed sp3_ok noLs_ok ea_loop (fun k hk => by omega) ?_ rfl
    exact eaN_end n
  · cases h
def lsE : LoopT CT := Sx.addL 64 0 (loopS eaSl [] eaLoop) noLs
theorem lsE_ok : LoopTOk Tryz.prog lsE := addL_ok ea_loop eaLoop_ok noLs_ok
abbrev lsEu (g b : Nat) : Nat := match g, b with
  | 64, 0 => 0 | _, _ => 20
end
end Go.Proofs.YtfgbhgeppdffaaaGreat
namespace Go.Proofs.YtfgbhgeppdffaaaGreat
open Go Go.Sx Go.RowKit
set_option maxRecDepth 1000000
set_option maxHeartbeats 8000000
set_option linter.unusedVariables false
noncomputable section
noncomputable def c20 : Code := ((Tryz.prog.funcs[(20 : Nat)]?).bind (·.body)).getD .skip
noncomputable def h0 : Code := seqA c20
noncomputable def h1 : Code := seqA (seqA (seqB c20))
noncomputable def h2 : Code := seqB (seqA (seqB c20))
noncomputable def hT : Code := seqB (seqB c20)
noncomputable def h4 : Code := seqA hT
noncomputable def h5 : Code := seqA (seqB hT)
noncomputable def hF : Code := seqA (seqB (seqB hT))
noncomputable def h6 : Code := seqA hF
noncomputable def hL : Code := inBl (inBl (seqB hF))
noncomputable def h13 : Code := seqA (seqB (seqB (seqB hT)))
theorem c20_eq : c20 = .seq h0 (.seq (.seq h1 h2) (.seq h4 (.seq h5 (.seq (.seq h6 (.block 0 (.loop hL))) (.seq h13 .ret))))) := by kernel_rfl
@[reducible] def scL (c : Code) (slots outs : List Nat) (i : LI CT) : RT CT := pieceL CT Tryz.prog sp3 lsE lsEu 20 20 49 c slots outs i
@[reducible] def scO (fl fb : Bool) (ts : List Sg) (bs : List Int) (N : Nat) (f : Nat → Int) : List (SO CT) := [.box [.h 3, .h 4] 138, .sl true fl 101 (ts : List Sg), .sl true fb 5 (bs : List Int), .sl true false 58 ([(0, (N : Int))] : List Rg), .rw 34 1 1 false [.h 5], .mem 5 N f]
@[reducible] def scP (fl fb : Bool) (ts : List Sg) (bs : List Int) (N : Nat) (f : Nat → Int) (es : List Sg) : List (SO CT) := scO fl fb ts bs N f ++ [.sl true false 101 (es : List Sg)]
abbrev sh1 : List Nat := [0, 2, 10, 25, 26, 27]
@[reducible] def scV (es : List Sg) (n k : Int) : List SV := [.h 0, .h 2, .raw (.int .i64 n), .h 6, .raw (.int .i64 (es.length : Int)), .raw (.int .i64 k)]
theorem sc_0 (fl fb : Bool) (ts : List Sg) (bs : List Int) (N : Nat) (f : Nat → Int) : (scL h0 [0, 1, 2] [0, 1, 2] ⟨[.h 0, .h 1, .h 2], 6, scO fl fb ts bs N f⟩).get =
  some (Ex.normal, [SV.h 0, SV.h 1, SV.h 2], [SO.box [SV.h 3, SV.h 4] 138, SO.sl true fl 101 ts, SO.sl true fb 5 bs, SO.sl true false 58 [((0 : Int), (↑N : Int))], SO.rw 34 1 1 false [SV.h 5], SO.mem 5 N f]) := by kernel_rfl
theorem sc_1 (fl fb : Bool) (ts : List Sg) (bs : List Int) (N : Nat) (f : Nat → Int) : (scL h1 [0, 1, 2] [0, 1, 2, 8] ⟨[.h 0, .h 1, .h 2], 6, scO fl fb ts bs N f⟩).get =
  bro (rgB [((0 : Int), (↑N : Int))] N) (bro (wfS ts) (bro (szB N) (some (Ex.normal, [SV.h 0, SV.h 1, SV.h 2, SV.raw (Value.int IntKind.i64 (inE N ts))], [SO.box [SV.h 3, SV.h 4] 138, SO.sl true fl 101 ts, SO.sl true fb 5 bs, SO.sl true false 58 [((0 : Int), (↑N : Int))], SO.rw 34 1 1 false [SV.h 5], SO.mem 5 N f])) (none)) (none)) (none) := by kernel_rfl
theorem sc_2 (fl fb : Bool) (ts : List Sg) (bs : List Int) (N : Nat) (f : Nat → Int) (e : Int) : (scL h2 [0, 1, 2, 8] [0, 1, 2] ⟨[.h 0, .h 1, .h 2, .raw (.int .i64 e)], 6, scO fl fb ts bs N f⟩).get =
  bro (e != (0 : Int)) (some (Ex.ret, [SV.h 0, SV.h 1, SV.h 2], [SO.box [SV.h 3, SV.h 4] 138, SO.sl true fl 101 ts, SO.sl true fb 5 bs, SO.sl true false 58 [((0 : Int), (↑N : Int))], SO.rw 34 1 1 false [SV.h 5], SO.mem 5 N f])) (some (Ex.normal, [SV.h 0, SV.h 1, SV.h 2], [SO.box [SV.h 3, SV.h 4] 138, SO.sl true fl 101 ts, SO.sl true fb 5 bs, SO.sl true false 58 [((0 : Int), (↑N : Int))], SO.rw 34 1 1 false [SV.h 5], SO.mem 5 N f])) := by kernel_rfl
theorem sc_4 (fl fb : Bool) (ts : List Sg) (bs : List Int) (N : Nat) (f : Nat → Int) : (scL h4 [0, 1, 2] [0, 2, 9] ⟨[.h 0, .h 1, .h 2], 6, scO fl fb ts bs N f⟩).get =
  bro (wfS ts) (bro (okI ts) (bro (decide ((partI true ts).length = (0 : Nat))) (some (Ex.normal, [SV.h 0, SV.h 2, SV.h 6], [SO.box [SV.h 3, SV.h 4] 138, SO.sl true fl 101 ts, SO.sl true fb 5 bs, SO.sl true false 58 [((0 : Int), (↑N : Int))], SO.rw 34 1 1 false [SV.h 5], SO.mem 5 N f, SO.box [SV.raw (Value.slice none 0 0)] 150])) (some (Ex.normal, [SV.h 0, SV.h 2, SV.h 6], [SO.box [SV.h 3, SV.h 4] 138, SO.sl true fl 101 ts, SO.sl true fb 5 bs, SO.sl true false 58 [((0 : Int), (↑N : Int))], SO.rw 34 1 1 false [SV.h 5], SO.mem 5 N f, SO.box [SV.h 7] 150, SO.sl true false 101 (partI true ts)]))) (some (Ex.normal, [SV.h 0, SV.h 2, SV.h 6], [SO.box [SV.h 3, SV.h 4] 138, SO.sl true fl 101 ts, SO.sl true fb 5 bs, SO.sl true false 58 [((0 : Int), (↑N : Int))], SO.rw 34 1 1 false [SV.h 5], SO.mem 5 N f, SO.box [SV.raw (Value.slice none 0 0)] 150]))) (none) := by kernel_rfl
theorem sc_13 (fl fb : Bool) (ts : List Sg) (bs : List Int) (N : Nat) (f : Nat → Int) (es : List Sg) (n k : Int) : (scL h13 sh1 [6, 7] ⟨scV es n k, 6, scP fl fb ts bs N f es⟩).get =
  some (Ex.normal, [SV.raw (Value.int IntKind.i64 n), SV.raw (Value.int IntKind.i64 0)], [SO.box [SV.h 3, SV.h 4] 138, SO.sl true fl 101 ts, SO.sl true fb 5 bs, SO.sl true false 58 [((0 : Int), (↑N : Int))], SO.rw 34 1 1 false [SV.h 5], SO.mem 5 N f]) := by kernel_rfl
@[reducible] def hiI (bs : List Int) (n l : Int) : Int := intO ((bs.length : Nat) : Int) (some (n + l))
theorem sc_go (fl fb : Bool) (ts : List Sg) (bs : List Int) (N : Nat) (f : Nat → Int) (es : List Sg) (n k : Int) : Tr.follow [Tt,Tt,Tt,Tt,Tt,Tt,Tt,Tt,Tt,Tt,Tt,Tt] (scL hL sh1 sh1 ⟨scV es n k, 6, scP fl fb ts bs N f es⟩) =
  some ([decide (k < (es.length : Int)), inB k es.length, decide (k.toNat < es.length), inR64 (elN es k.toNat).2.1, inR64 (n + (elN es k.toNat).2.1), bOk n (hiI bs n (elN es k.toNat).2.1) (roomV 0 bs.length none) && atV 0 bs.length n none, rgB [((0 : Int), (N : Int))] N,
    decide (0 + n.toNat + ((hiI bs n (elN es k.toNat).2.1).toNat - n.toNat) ≤ bs.length), memG N (elN es k.toNat).1 (((hiI bs n (elN es k.toNat).2.1).toNat - n.toNat : Nat) : Int), memC N (elN es k.toNat).1 (((hiI bs n (elN es k.toNat).2.1).toNat - n.toNat : Nat) : Int), inR64 (n + (elN es k.toNat).2.1), inR64 (k + 1)],
  (Ex.normal, scV es (n + (elN es k.toNat).2.1) (k + 1), scP fl fb ts bs N (wrM f (elN es k.toNat).1.toNat (List.take ((hiI bs n (elN es k.toNat).2.1).toNat - n.toNat) (List.drop (0 + n.toNat) bs))) es)) := by kernel_rfl
theorem sc_end (fl fb : Bool) (ts : List Sg) (bs : List Int) (N : Nat) (f : Nat → Int) (es : List Sg) (n k : Int) : Tr.follow [Ff] (scL hL sh1 sh1 ⟨scV es n k, 6, scP fl fb ts bs N f es⟩) =
  some ([decide (k < (es.length : Int))], (Ex.exit 0, scV es n k, scP fl fb ts bs N f es)) := by kernel_rfl
def ofS (es : List Sg) (k : Nat) : Nat := ((es.take k).map fun x => x.2.1.toNat).sum
theorem ofS_succ {es : List Sg} {k : Nat} (h : k < es.length) : ofS es (k + 1) = ofS es k + (elN es k).2.1.toNat := by
  unfold ofS elN
  rw [List.take_add_one, List.getElem?_eq_getElem h, List.getD_eq_getElem?_getD, List.getElem?_eq_getElem h, List.map_append, List.sum_append]
  simp
theorem ofS_le (es : List Sg) (k : Nat) : ofS es k ≤ ofS es es.length := by
  unfold ofS
  rw [List.take_length]
  conv => rhs; rw [← List.take_append_drop k es, List.map_append, List.sum_append]
  exact Nat.le_add_right _ _
theorem writeS_snoc : ∀ {l : List Sg} {f : Nat → Int} {b : List Int} {x : Sg}, writeS f (l ++ [x]) b = wrM (writeS f l b) x.1.toNat (List.take x.2.1.toNat (List.drop (l.map fun x => x.2.1.toNat).sum b))
  | [], f, b, x => by
    show wrM f x.1.toNat (b.take x.2.1.toNat) = _
    rfl
  | y :: r, f, b, x => by
    show writeS (wrM f y.1.toNat (b.take y.2.1.toNat)) (r ++ [x]) (b.drop y.2.1.toNat) = _
    rw [writeS_snoc, List.drop_drop, List.map_cons, List.sum_cons]
    rfl
def wK (f : Nat → Int) (es : List Sg) (bs : List Int) (k : Nat) : Nat → Int := writeS f (es.take k) bs
theorem wK_succ {f : Nat → Int} {es : List Sg} {bs : List Int} {k : Nat} (h : k < es.length) : wK f es bs (k + 1) = wrM (wK f es bs k) (elN es k).1.toNat (List.take (elN es k).2.1.toNat (List.drop (ofS es k) bs)) := by
  unfold wK elN ofS
  rw [List.take_add_one, List.getElem?_eq_getElem h, List.getD_eq_getElem?_getD, List.getElem?_eq_getElem h]
  exact writeS_snoc
section
variable {fl fb : Bool} {ts : List Sg} {bs : List Int} {N : Nat} {f : Nat → Int} {es : List Sg}
theorem psc_go {k : Nat} (hk : k < es.length) (hl : es.length ≤ 1000) (hs : es.all (sgG N) = true) (hb : ofS es es.length ≤ bs.length) (hbl : bs.length ≤ 4294967296) :
    (scL hL sh1 sh1 ⟨scV es (ofS es k : Nat) (k : Nat), 6, scP fl fb ts bs N (wK f es bs k) es⟩).get = some (.normal, scV es (ofS es (k + 1) : Nat) ((k + 1 : Nat) : Int), scP fl fb ts bs N (wK f es bs (k + 1)) es) := by
  have hp := sc_go fl fb ts bs N (wK f es bs k) es (ofS es k : Nat) (k : Nat)
  obtain ⟨s1, s2, s3⟩ := sgG_at hs hk
  have h1 := ofS_le es (k + 1)
  rw [ofS_succ hk] at h1
  have hn := of_decide_eq_true s3
  have e : ((k : Nat) : Int).toNat = k := Int.toNat_natCast k
  rw [e] at hp
  generalize hx : elN es k = x at *
  have en : ((ofS es k : Nat) : Int).toNat = ofS es k := Int.toNat_natCast _
  have ex : ((x.2.1.toNat : Nat) : Int) = x.2.1 := Int.toNat_of_nonneg (by omega)
  have ehi : (hiI bs ((ofS es k : Nat) : Int) x.2.1).toNat = ofS es k + x.2.1.toNat := by
    show (((ofS es k : Nat) : Int) + x.2.1).toNat = _
    omega
  have hbok : (bOk ((ofS es k : Nat) : Int) (hiI bs ((ofS es k : Nat) : Int) x.2.1) (roomV 0 bs.length none) && atV 0 bs.length ((ofS es k : Nat) : Int) none) = true := by
    rw [bOk_mk ⟨by omega, by show ((ofS es k : Nat) : Int) ≤ ((ofS es k : Nat) : Int) + x.2.1; omega, by show ((ofS es k : Nat) : Int) + x.2.1 ≤ ((bs.length : Nat) : Int) - ((0 : Nat) : Int); omega⟩]; rfl
  rw [ehi, en, Nat.add_sub_cancel_left, ex, Nat.zero_add] at hp
  rw [decide_eq_true (show ((k : Nat) : Int) < (es.length : Int) by omega), inB_mk (show 0 ≤ ((k : Nat) : Int) ∧ ((k : Nat) : Int) < (es.length : Int) by omega), decide_eq_true hk, s1, inR64_mk (show -9223372036854775808 ≤ ((ofS es k : Nat) : Int) + x.2.1 ∧ ((ofS es k : Nat) : Int) + x.2.1 ≤ 9223372036854775807 by omega), hbok, rgB_self,
    decide_eq_true (show ofS es k + x.2.1.toNat ≤ bs.length by omega), s2, s3, inR64_mk (show -9223372036854775808 ≤ ((k : Nat) : Int) + 1 ∧ ((k : Nat) : Int) + 1 ≤ 9223372036854775807 by omega)] at hp
  refine (Tr.follow_get hp rfl).trans ?_
  rw [wK_succ hk, ofS_succ hk, hx, Int.natCast_add, Int.natCast_add, ex]
  rfl
theorem psc_end : (scL hL sh1 sh1 ⟨scV es (ofS es es.length : Nat) (es.length : Nat), 6, scP fl fb ts bs N (wK f es bs es.length) es⟩).get = some (.exit 0, scV es (ofS es es.length : Nat) (es.length : Nat), scP fl fb ts bs N (wK f es bs es.length) es) := by
  have hp := sc_end fl fb ts bs N (wK f es bs es.length) es (ofS es es.length : Nat) (es.length : Nat)
  rw [decide_eq_false (show ¬ ((es.length : Nat) : Int) < (es.length : Int) by omega)] at hp
  exact Tr.follow_get hp rfl
end
theorem sc_5 (fl fb : Bool) (ts : List Sg) (bs : List Int) (N : Nat) (f : Nat → Int) (ps : List Sg) : (scL h5 [0, 2, 9] [0, 2, 9, 10] ⟨[.h 0, .h 2, .h 6], 6, (scO fl fb ts bs N f ++ [.box [.h 7] 150, .sl true false 101 (ps : List Sg)])⟩).get =
  some (Ex.normal, [SV.h 0, SV.h 2, SV.h 6, SV.raw (Value.int IntKind.i64 0)], [SO.box [SV.h 3, SV.h 4] 138, SO.sl true fl 101 ts, SO.sl true fb 5 bs, SO.sl true false 58 [((0 : Int), (↑N : Int))], SO.rw 34 1 1 false [SV.h 5], SO.mem 5 N f, SO.box [SV.h 7] 150, SO.sl true false 101 ps]) := by kernel_rfl
theorem sc_6 (fl fb : Bool) (ts : List Sg) (bs : List Int) (N : Nat) (f : Nat → Int) (ps : List Sg) : (scL h6 [0, 2, 9, 10] sh1 ⟨[.h 0, .h 2, .h 6, .raw (.int .i64 0)], 6, (scO fl fb ts bs N f ++ [.box [.h 7] 150, .sl true false 101 (ps : List Sg)])⟩).get =
  bro (eaG ps ((↑bs.length : Int) % (18446744073709551616 : Int))) (bro (eatPI ps ((↑bs.length : Int) % (18446744073709551616 : Int))) (some (Ex.normal, [SV.h 0, SV.h 2, SV.raw (Value.int IntKind.i64 0), SV.h 6, SV.raw (Value.int IntKind.i64 (↑(eatOI ps ((↑bs.length : Int) % (18446744073709551616 : Int))).length : Int)), SV.raw (Value.int IntKind.i64 0)], [SO.box [SV.h 3, SV.h 4] 138, SO.sl true fl 101 ts, SO.sl true fb 5 bs, SO.sl true false 58 [((0 : Int), (↑N : Int))], SO.rw 34 1 1 false [SV.h 5], SO.mem 5 N f, SO.sl true false 101 (eatOI ps ((↑bs.length : Int) % (18446744073709551616 : Int)))])) (bro (decide (eatNI ps ((↑bs.length : Int) % (18446744073709551616 : Int)) = (0 : Nat))) (some (Ex.normal, [SV.h 0, SV.h 2, SV.raw (Value.int IntKind.i64 0), SV.raw (Value.slice none 0 0), SV.raw (Value.int IntKind.i64 (↑(0 : Nat) : Int)), SV.raw (Value.int IntKind.i64 0)], [SO.box [SV.h 3, SV.h 4] 138, SO.sl true fl 101 ts, SO.sl true fb 5 bs, SO.sl true false 58 [((0 : Int), (↑N : Int))], SO.rw 34 1 1 false [SV.h 5], SO.mem 5 N f])) (some (Ex.normal, [SV.h 0, SV.h 2, SV.raw (Value.int IntKind.i64 0), SV.h 6, SV.raw (Value.int IntKind.i64 (↑(eatOI ps ((↑bs.length : Int) % (18446744073709551616 : Int))).length : Int)), SV.raw (Value.int IntKind.i64 0)], [SO.box [SV.h 3, SV.h 4] 138, SO.sl true fl 101 ts, SO.sl true fb 5 bs, SO.sl true false 58 [((0 : Int), (↑N : Int))], SO.rw 34 1 1 false [SV.h 5], SO.mem 5 N f, SO.sl true false 101 (eatOI ps ((↑bs.length : Int) % (18446744073709551616 : Int)))])))) (none) := by kernel_rfl
theorem Pq.stepL {C : Tab} {nb : Nat} {fz : Nat → Prop} {w0 : World} {ρ0 : Asg} {S0 : List (SO C)} {sp : SpecT C} (hs : SpecTOk Tryz.prog sp) {ls : LoopT C} (hl : LoopTOk Tryz.prog ls) {unr : Nat → Nat → Nat} {d g N n : Nat} {c c0 : Code} {fn : Func} (hfn : Tryz.prog.funcs[g]? = some fn) (hb : fn.body = some c0) (hN0 : fn.ntmps = N)
    (hc : lps 0 c = []) {slots outs : List Nat} {vs vs' : List SV} {os os' : List (SO C)} {x : Ex}
    (h : (pieceL C Tryz.prog sp ls unr d g N c slots outs ⟨vs, n, os⟩).get = some (x, vs', os')) (hnb : nb ≤ n) (hle : n ≤ os.length) {a : Act} {w : World} (H : Pq nb fz w0 ρ0 S0 N slots vs os a w) :
    c.wp Tryz.prog (fun e a' w' => e = exitOf x ∧ Pq nb fz w0 ρ0 S0 N outs vs' os' a' w') a w := by
  obtain ⟨hN, hd, ρ, g1, g2, g3, g4⟩ := H
  refine wp_mono (self_stepN plain mixed hs hl hfn hb hN0 (fun x hx => by rw [hc] at hx; cases hx) h hle hN g1 g2) fun e a' w' hq => ?_
  obtain ⟨rfl, hN, hD, ρ', k1, k2, k3, k4, k5⟩ := hq
  exact ⟨rfl, hN, hD.trans hd, ρ', k2, k5, fun j hj => (k1 j (by omega)).trans (g3 j hj), g4.step k3 k4⟩
theorem f20_ex : ∃ fn, Tryz.prog.funcs[(20 : Nat)]? = some fn ∧ fn.body = some c20 ∧ fn.ntmps = 49 ∧ fn.results = #[.tmp 6, .tmp 7] := ⟨_, rfl, by kernel_rfl, by kernel_rfl, by kernel_rfl⟩
theorem lps_20 : ([h0, h1, h2, h4, h5, h6, hL, h13].all fun c => (lps 0 c).isEmpty) = true := by kernel_rfl
theorem lp20 : ∀ c ∈ [h0, h1, h2, h4, h5, h6, hL, h13], lps 0 c = [] := fun c hc => List.isEmpty_iff.1 (List.all_eq_true.1 lps_20 c hc)
section
variable {fz : Nat → Prop} {w0 : World} {ρ0 : Asg} {S0 : List (SO CT)}
theorem step20 {c : Code} (hc : lps 0 c = []) {slots outs : List Nat} {vs vs' : List SV} {os os' : List (SO CT)} {x : Ex} (h : (scL c slots outs ⟨vs, 6, os⟩).get = some (x, vs', os')) (hle : 6 ≤ os.length) {a : Act} {w : World} (H : Pq 6 fz w0 ρ0 S0 49 slots vs os a w) :
    c.wp Tryz.prog (fun e a' w' => e = exitOf x ∧ Pq 6 fz w0 ρ0 S0 49 outs vs' os' a' w') a w := by
  obtain ⟨fn, h1, h2, h3, _⟩ := f20_ex
  exact Pq.stepL sp3_ok lsE_ok h1 h2 h3 hc h (Nat.le_refl _) hle H
end
section
variable {fl fb : Bool} {ts : List Sg} {bs : List Int} {N : Nat} {f : Nat → Int}
theorem ps_1 (hw : wfS ts = true) (hN : szB N = true) (he : inE N ts = 0) : (scL h1 [0, 1, 2] [0, 1, 2, 8] ⟨[.h 0, .h 1, .h 2], 6, scO fl fb ts bs N f⟩).get = some (.normal, [.h 0, .h 1, .h 2, .raw (.int .i64 0)], scO fl fb ts bs N f) := by
  refine (sc_1 fl fb ts bs N f).trans ?_
  rw [rgB_self, hw, hN, he]; rfl
theorem ps_2 : (scL h2 [0, 1, 2, 8] [0, 1, 2] ⟨[.h 0, .h 1, .h 2, .raw (.int .i64 0)], 6, scO fl fb ts bs N f⟩).get = some (.normal, [.h 0, .h 1, .h 2], scO fl fb ts bs N f) := (sc_2 fl fb ts bs N f 0).trans rfl
theorem ps_4 {ps : List Sg} (hw : wfS ts = true) (ho : okI ts = true) (hps : partI true ts = ps) (hne : ps.length ≠ 0) : (scL h4 [0, 1, 2] [0, 2, 9] ⟨[.h 0, .h 1, .h 2], 6, scO fl fb ts bs N f⟩).get = some (.normal, [.h 0, .h 2, .h 6], scO fl fb ts bs N f ++ [.box [.h 7] 150, .sl true false 101 (ps : List Sg)]) := by
  refine (sc_4 fl fb ts bs N f).trans ?_
  rw [hps, hw, ho, decide_eq_false hne]; rfl
theorem ps_6 {ps es : List Sg} {n : Int} (hn : ((bs.length : Nat) : Int) % 18446744073709551616 = n) (hg : eaG ps n = true) (hes : eatO ps n = es) (hne : es ≠ []) : (scL h6 [0, 2, 9, 10] sh1 ⟨[.h 0, .h 2, .h 6, .raw (.int .i64 0)], 6, scO fl fb ts bs N f ++ [.box [.h 7] 150, .sl true false 101 (ps : List Sg)]⟩).get = some (.normal, scV es 0 ((0 : Nat) : Int), scP fl fb ts bs N f es) := by
  refine (sc_6 fl fb ts bs N f ps).trans ?_
  have hq : eatOI ps n = es := (eatOI_eq ps n).trans hes
  rw [hn, hg, hq]
  have hnil : ¬ (eatN ps n = 0 ∧ eatP ps n = false) := fun h => hne (hes.symm.trans (eatO_nil.2 h))
  rw [eatPI_eq, eatNI_eq]
  cases hp : eatP ps n with
  | true => rfl
  | false =>
    rw [decide_eq_false (fun h => hnil ⟨h, hp⟩)]
    rfl
end
def scE (ts : List Sg) (bs : List Int) : List Sg := eatO (partS true ts) (bs.length : Nat)
def scG (ts : List Sg) (bs : List Int) (N : Nat) : Bool := (wfS ts && (szB N && okSg ts)) && (memA N ts && (decide ((partS true ts).length ≠ 0 ∧ bs.length ≤ 4294967296 ∧ (scE ts bs).length ≠ 0 ∧ (scE ts bs).length ≤ 1000 ∧ ofS (scE ts bs) (scE ts bs).length ≤ bs.length) && (eaG (partS true ts) (bs.length : Nat) && (scE ts bs).all (sgG N))))
theorem scatter_ok {fl fb : Bool} {ts : List Sg} {bs : List Int} {N : Nat} {f : Nat → Int} (h : scG ts bs N = true) : FnB Tryz.prog 20 [.h 0, .h 1, .h 2] (scO fl fb ts bs N f) (.tup [.raw (.int .i64 (ofS (scE ts bs) (scE ts bs).length : Nat)), .raw (.int .i64 0)], scO fl fb ts bs N (writeS f (scE ts bs) bs)) := by
  unfold scG at h
  simp only [Bool.and_eq_true] at h
  obtain ⟨⟨hw, hN, hok⟩, hm, hd, hg, hs⟩ := h
  obtain ⟨hne, hbl, hne2, hl, hb⟩ := of_decide_eq_true hd
  have he : inE N ts = 0 := by rw [inE_eq, hok, hm]; rfl
  obtain ⟨ps, hps⟩ : ∃ ps, partS true ts = ps := ⟨_, rfl⟩
  have hpi : partI true ts = ps := (partI_eq true ts).trans hps
  have hoi : okI ts = true := (okI_eq ts).trans hok
  have hes : scE ts bs = eatO ps (bs.length : Nat) := by unfold scE; rw [hps]
  generalize scE ts bs = es at *
  rw [hps] at hne hg
  have hn : ((bs.length : Nat) : Int) % 18446744073709551616 = (bs.length : Nat) := Int.emod_eq_of_lt (by omega) (by omega)
  refine FnB.ofSelf (by kernel_rfl) rfl (fun i o hi hl => .inl (owned_at (os := scO fl fb ts bs N (writeS f es bs)) rfl hi hl)) fun fz ρ w vals S hd => ?_
  obtain ⟨u0, ul, q0, q1, rfl⟩ := denL_cons.1 hd
  obtain ⟨u1, ul2, q2, q3, rfl⟩ := denL_cons.1 q1
  obtain ⟨u2, ul3, q4, q5, rfl⟩ := denL_cons.1 q3
  rw [denL_nil] at q5
  subst q5
  obtain ⟨fn, h1, h2, h3, h4⟩ := f20_ex
  refine calls_of_wp h1 h2 ?_
  rw [h3]
  have H0 : Pq 6 fz w ρ (scO fl fb ts bs N f) 49 [0, 1, 2] [.h 0, .h 1, .h 2] (scO fl fb ts bs N f) { tmps := #[u0, u1, u2] ++ Array.replicate (49 - (#[u0, u1, u2] : Array Value).size) undef, defers := [] } w :=
    ⟨by rw [Array.size_append, Array.size_replicate]; rfl, rfl, ρ, S, TmL.ok (ts := [0, 1, 2]) ⟨⟨u0, q0, arg_at rfl⟩, ⟨u1, q2, arg_at rfl⟩, ⟨u2, q4, arg_at rfl⟩, trivial⟩, fun _ _ => rfl, Bg.start⟩
  rw [c20_eq]
  have l6 : ∀ f, 6 ≤ (scO fl fb ts bs N f).length := fun _ => Nat.le_refl 6
  have l7 : ∀ f, 6 ≤ (scP fl fb ts bs N f es).length := fun _ => by show 6 ≤ 7; decide
  have l8 : 6 ≤ (scO fl fb ts bs N f ++ ([.box [.h 7] 150, .sl true false 101 (ps : List Sg)] : List (SO CT))).length := by show 6 ≤ 8; decide
  refine wp_seq (wp_mono (step20 (lp20 _ (by simp)) (sc_0 fl fb ts bs N f) (l6 f) H0) fun e a1 w1 hq => ?_)
  obtain ⟨rfl, H1⟩ := hq
  refine wp_seq (wp_seq (wp_mono (step20 (lp20 _ (by simp)) (ps_1 hw hN he) (l6 f) H1) fun e a2 w2 hq => ?_))
  obtain ⟨rfl, H2⟩ := hq
  refine wp_mono (step20 (lp20 _ (by simp)) ps_2 (l6 f) H2) fun e a3 w3 hq => ?_
  obtain ⟨rfl, H3⟩ := hq
  refine wp_seq (wp_mono (step20 (lp20 _ (by simp)) (ps_4 hw hoi hpi hne) (l6 f) H3) fun e a4 w4 hq => ?_)
  obtain ⟨rfl, H4⟩ := hq
  refine wp_seq (wp_mono (step20 (lp20 _ (by simp)) (sc_5 fl fb ts bs N f ps) l8 H4) fun e a5 w5 hq => ?_)
  obtain ⟨rfl, H5⟩ := hq
  refine wp_seq (wp_seq (wp_mono (step20 (lp20 _ (by simp)) (ps_6 hn hg hes.symm (fun e => hne2 (by rw [e]; rfl))) l8 H5) fun e a6 w6 hq => ?_))
  obtain ⟨rfl, H6⟩ := hq
  have loop : (Code.block 0 (.loop hL)).wp Tryz.prog (fun e a w' => e = .normal ∧ Pq 6 fz w ρ (scO fl fb ts bs N f) 49 sh1 (scV es (ofS es es.length : Nat) (es.length : Nat)) (scP fl fb ts bs N (wK f es bs es.length) es) a w') a6 w6 := by
    refine wp_block (wp_loop (fun a w' => ∃ k : Nat, k ≤ es.length ∧ Pq 6 fz w ρ (scO fl fb ts bs N f) 49 sh1 (scV es (ofS es k : Nat) (k : Nat)) (scP fl fb ts bs N (wK f es bs k) es) a w') (fun a w => muK es.length a.tmps[27]?) ⟨0, Nat.zero_le _, H6⟩ ?_)
    rintro a w ⟨k, hk, H⟩
    have y1 := H.tm (t := 27) (v := .int .i64 ((k : Nat) : Int)) rfl
    by_cases hlt : k < es.length
    · refine wp_mono (step20 (lp20 _ (by simp)) (psc_go hlt hl hs hb hbl) (l7 _) H) fun e a1 w1 hq => ?_
      obtain ⟨rfl, H1⟩ := hq
      have y2 := H1.tm (t := 27) (v := .int .i64 ((k + 1 : Nat) : Int)) rfl
      refine ⟨⟨k + 1, hlt, H1⟩, ?_⟩
      rw [y1, y2]
      show es.length - ((k + 1 : Nat) : Int).toNat < es.length - ((k : Nat) : Int).toNat
      omega
    · obtain rfl : k = es.length := by omega
      refine wp_mono (step20 (lp20 _ (by simp)) psc_end (l7 _) H) fun e a1 w1 hq => ?_
      obtain ⟨rfl, H1⟩ := hq
      exact ⟨rfl, H1⟩
  refine wp_mono loop fun e a7 w7 hq => ?_
  obtain ⟨rfl, H7⟩ := hq
  have hwk : wK f es bs es.length = writeS f es bs := by unfold wK; rw [List.take_length]
  rw [hwk] at H7
  refine wp_seq (wp_mono (step20 (lp20 _ (by simp)) (sc_13 fl fb ts bs N (writeS f es bs) es _ _) (l7 _) H7) fun e a8 w8 hq => ?_)
  obtain ⟨rfl, H8⟩ := hq
  have z6 := H8.tm (t := 6) (v := .int .i64 (ofS es es.length : Nat)) rfl
  have z7 := H8.tm (t := 7) (v := .int .i64 0) rfl
  obtain ⟨_, hd8, ρ', S8, _, A8, B8⟩ := H8
  refine wp_ret (bodyPost_ret (results_tmp2 h4 _ _ _) hd8 ⟨ρ', _, rfl, A8, S8, B8.st, B8.mn, ?_⟩)
  have x4 : a8.tmps.getD 6 undef = .int .i64 (ofS es es.length : Nat) := by rw [Array.getD_eq_getD_getElem?, z6]; rfl
  have x5 : a8.tmps.getD 7 undef = .int .i64 0 := by rw [Array.getD_eq_getD_getElem?, z7]; rfl
  rw [x4, x5]
  rfl
noncomputable def c21 : Code := ((Tryz.prog.funcs[(21 : Nat)]?).bind (·.body)).getD .skip
noncomputable def r0 : Code := seqA c21
noncomputable def r1 : Code := seqA (seqA (seqB c21))
noncomputable def r2 : Code := seqB (seqA (seqB c21))
noncomputable def rT : Code := seqB (seqB c21)
noncomputable def r4 : Code := seqA rT
noncomputable def r5 : Code := seqA (seqB rT)
noncomputable def r6 : Code := seqA (seqB (seqB rT))
noncomputable def rU : Code := seqB (seqB (seqB rT))
noncomputable def r10 : Code := seqA (seqA rU)
noncomputable def rL : Code := inBl (inBl (seqB (seqA rU)))
noncomputable def r15 : Code := seqA (seqB rU)
noncomputable def r16 : Code := seqA (seqB (seqB rU))
noncomputable def r18 : Code := seqA (seqB (seqB (seqB rU)))
noncomputable def r19 : Code := seqA (seqB (seqB (seqB (seqB rU))))
noncomputable def r21 : Code := seqA (seqB (seqB (seqB (seqB (seqB rU)))))
theorem c21_eq : c21 = .seq r0 (.seq (.seq r1 r2) (.seq r4 (.seq r5 (.seq r6 (.seq (.seq r10 (.block 1 (.loop rL))) (.seq r15 (.seq r16 (.seq r18 (.seq r19 (.seq r21 .ret)))))))))) := by kernel_rfl
def spRs : SpecT CT := addS 19 (footS gatT) sp3
theorem spRs_ok : SpecTOk Tryz.prog spRs := addS_ok (footS_ok gatT_ok) sp3_ok
@[reducible] def rsL (c : Code) (slots outs : List Nat) (i : LI CT) : RT CT := pieceL CT Tryz.prog spRs noLs (fun _ _ => 20) 20 21 76 c slots outs i
abbrev sr1 : List Nat := [0, 2, 10, 12, 42, 43, 44]
@[reducible] def rsV (ps : List Sg) (n wt k : Int) : List SV := [.h 0, .raw (.int .u32 n), .h 5, .raw (.int .u64 wt), .h 5, .raw (.int .i64 (ps.length : Int)), .raw (.int .i64 k)]
theorem rs_0 (full : Bool) (ts : List Sg) (N : Nat) (f : Nat → Int) (n : Int) : (rsL r0 [0, 1, 2] [0, 1, 2] ⟨[.h 0, .h 1, .raw (.int .u32 n)], 5, memS true full ts N f⟩).get =
  some (Ex.normal, [SV.h 0, SV.h 1, SV.raw (Value.int IntKind.u32 n)], [SO.box [SV.h 2, SV.h 3] 138, SO.sl true full 101 ts, SO.sl true false 58 [((0 : Int), (↑N : Int))], SO.rw 34 1 1 false [SV.h 4], SO.mem 5 N f]) := by kernel_rfl
theorem rs_1 (full : Bool) (ts : List Sg) (N : Nat) (f : Nat → Int) (n : Int) : (rsL r1 [0, 1, 2] [0, 1, 2, 9] ⟨[.h 0, .h 1, .raw (.int .u32 n)], 5, memS true full ts N f⟩).get =
  bro (rgB [((0 : Int), (↑N : Int))] N) (bro (wfS ts) (bro (szB N) (some (Ex.normal, [SV.h 0, SV.h 1, SV.raw (Value.int IntKind.u32 n), SV.raw (Value.int IntKind.i64 (inE N ts))], [SO.box [SV.h 2, SV.h 3] 138, SO.sl true full 101 ts, SO.sl true false 58 [((0 : Int), (↑N : Int))], SO.rw 34 1 1 false [SV.h 4], SO.mem 5 N f])) (none)) (none)) (none) := by kernel_rfl
theorem rs_2 (full : Bool) (ts : List Sg) (N : Nat) (f : Nat → Int) (n : Int) (e : Int) : (rsL r2 [0, 1, 2, 9] [0, 1, 2] ⟨[.h 0, .h 1, .raw (.int .u32 n), .raw (.int .i64 e)], 5, memS true full ts N f⟩).get =
  bro (e != (0 : Int)) (some (Ex.ret, [SV.h 0, SV.h 1, SV.raw (Value.int IntKind.u32 n)], [SO.box [SV.h 2, SV.h 3] 138, SO.sl true full 101 ts, SO.sl true false 58 [((0 : Int), (↑N : Int))], SO.rw 34 1 1 false [SV.h 4], SO.mem 5 N f])) (some (Ex.normal, [SV.h 0, SV.h 1, SV.raw (Value.int IntKind.u32 n)], [SO.box [SV.h 2, SV.h 3] 138, SO.sl true full 101 ts, SO.sl true false 58 [((0 : Int), (↑N : Int))], SO.rw 34 1 1 false [SV.h 4], SO.mem 5 N f])) := by kernel_rfl
theorem rs_4 (full : Bool) (ts : List Sg) (N : Nat) (f : Nat → Int) (n : Int) : (rsL r4 [0, 1, 2] [0, 2, 10] ⟨[.h 0, .h 1, .raw (.int .u32 n)], 5, memS true full ts N f⟩).get =
  bro (wfS ts) (bro (okI ts) (bro (decide ((partI true ts).length = (0 : Nat))) (some (Ex.normal, [SV.h 0, SV.raw (Value.int IntKind.u32 n), SV.raw (Value.slice none 0 0)], [SO.box [SV.h 2, SV.h 3] 138, SO.sl true full 101 ts, SO.sl true false 58 [((0 : Int), (↑N : Int))], SO.rw 34 1 1 false [SV.h 4], SO.mem 5 N f])) (some (Ex.normal, [SV.h 0, SV.raw (Value.int IntKind.u32 n), SV.h 5], [SO.box [SV.h 2, SV.h 3] 138, SO.sl true full 101 ts, SO.sl true false 58 [((0 : Int), (↑N : Int))], SO.rw 34 1 1 false [SV.h 4], SO.mem 5 N f, SO.sl true false 101 (partI true ts)]))) (some (Ex.normal, [SV.h 0, SV.raw (Value.int IntKind.u32 n), SV.raw (Value.slice none 0 0)], [SO.box [SV.h 2, SV.h 3] 138, SO.sl true full 101 ts, SO.sl true false 58 [((0 : Int), (↑N : Int))], SO.rw 34 1 1 false [SV.h 4], SO.mem 5 N f]))) (none) := by kernel_rfl
theorem rs_5 (full : Bool) (ts ps : List Sg) (N : Nat) (f : Nat → Int) (n wt : Int) : (rsL r5 [0, 2, 10] [0, 2, 10, 12] ⟨[.h 0, .raw (.int .u32 n), .h 5], 5, gaO full ts ps N f⟩).get =
  bro (wfS ps) (some (Ex.normal, [SV.h 0, SV.raw (Value.int IntKind.u32 n), SV.h 5, SV.raw (Value.int IntKind.u64 (wrI ps))], [SO.box [SV.h 2, SV.h 3] 138, SO.sl true full 101 ts, SO.sl true false 58 [((0 : Int), (↑N : Int))], SO.rw 34 1 1 false [SV.h 4], SO.mem 5 N f, SO.sl true false 101 ps])) (none) := by kernel_rfl
theorem rs_6 (full : Bool) (ts ps : List Sg) (N : Nat) (f : Nat → Int) (n wt : Int) : (rsL r6 [0, 2, 10, 12] [0, 2, 10, 12] ⟨[.h 0, .raw (.int .u32 n), .h 5, .raw (.int .u64 wt)], 5, gaO full ts ps N f⟩).get =
  bro (wt == (0 : Int)) (some (Ex.ret, [SV.h 0, SV.raw (Value.int IntKind.u32 n), SV.h 5, SV.raw (Value.int IntKind.u64 wt)], [SO.box [SV.h 2, SV.h 3] 138, SO.sl true full 101 ts, SO.sl true false 58 [((0 : Int), (↑N : Int))], SO.rw 34 1 1 false [SV.h 4], SO.mem 5 N f, SO.sl true false 101 ps])) (bro (n == (0 : Int)) (some (Ex.ret, [SV.h 0, SV.raw (Value.int IntKind.u32 n), SV.h 5, SV.raw (Value.int IntKind.u64 wt)], [SO.box [SV.h 2, SV.h 3] 138, SO.sl true full 101 ts, SO.sl true false 58 [((0 : Int), (↑N : Int))], SO.rw 34 1 1 false [SV.h 4], SO.mem 5 N f, SO.sl true false 101 ps])) (bro (decide (wt < n % (18446744073709551616 : Int))) (some (Ex.ret, [SV.h 0, SV.raw (Value.int IntKind.u32 n), SV.h 5, SV.raw (Value.int IntKind.u64 wt)], [SO.box [SV.h 2, SV.h 3] 138, SO.sl true full 101 ts, SO.sl true false 58 [((0 : Int), (↑N : Int))], SO.rw 34 1 1 false [SV.h 4], SO.mem 5 N f, SO.sl true false 101 ps])) (some (Ex.normal, [SV.h 0, SV.raw (Value.int IntKind.u32 n), SV.h 5, SV.raw (Value.int IntKind.u64 wt)], [SO.box [SV.h 2, SV.h 3] 138, SO.sl true full 101 ts, SO.sl true false 58 [((0 : Int), (↑N : Int))], SO.rw 34 1 1 false [SV.h 4], SO.mem 5 N f, SO.sl true false 101 ps])))) := by kernel_rfl
theorem rs_10 (full : Bool) (ts ps : List Sg) (N : Nat) (f : Nat → Int) (n wt : Int) : (rsL r10 [0, 2, 10, 12] sr1 ⟨[.h 0, .raw (.int .u32 n), .h 5, .raw (.int .u64 wt)], 5, gaO full ts ps N f⟩).get =
  some (Ex.normal, [SV.h 0, SV.raw (Value.int IntKind.u32 n), SV.h 5, SV.raw (Value.int IntKind.u64 wt), SV.h 5, SV.raw (Value.int IntKind.i64 (↑ps.length : Int)), SV.raw (Value.int IntKind.i64 0)], [SO.box [SV.h 2, SV.h 3] 138, SO.sl true full 101 ts, SO.sl true false 58 [((0 : Int), (↑N : Int))], SO.rw 34 1 1 false [SV.h 4], SO.mem 5 N f, SO.sl true false 101 ps]) := by kernel_rfl
theorem rs_L (full : Bool) (ts ps : List Sg) (N : Nat) (f : Nat → Int) (n wt : Int) (k : Int) : (rsL rL sr1 sr1 ⟨rsV ps n wt k, 5, gaO full ts ps N f⟩).get =
  bro (decide (k < (↑ps.length : Int))) (bro (inB k ps.length) (bro (decide (k.toNat < ps.length)) (bro (inR64 (k + (1 : Int))) (some (Ex.normal, [SV.h 0, SV.raw (Value.int IntKind.u32 n), SV.h 5, SV.raw (Value.int IntKind.u64 wt), SV.h 5, SV.raw (Value.int IntKind.i64 (↑ps.length : Int)), SV.raw (Value.int IntKind.i64 (k + (1 : Int)))], [SO.box [SV.h 2, SV.h 3] 138, SO.sl true full 101 ts, SO.sl true false 58 [((0 : Int), (↑N : Int))], SO.rw 34 1 1 false [SV.h 4], SO.mem 5 N f, SO.sl true false 101 (ps.set k.toNat ((elN ps k.toNat).fst, (elN ps k.toNat).snd.fst, false))])) (some (Ex.normal, [SV.h 0, SV.raw (Value.int IntKind.u32 n), SV.h 5, SV.raw (Value.int IntKind.u64 wt), SV.h 5, SV.raw (Value.int IntKind.i64 (↑ps.length : Int)), SV.raw (Value.int IntKind.i64 (IntKind.i64.wrap (k + (1 : Int))))], [SO.box [SV.h 2, SV.h 3] 138, SO.sl true full 101 ts, SO.sl true false 58 [((0 : Int), (↑N : Int))], SO.rw 34 1 1 false [SV.h 4], SO.mem 5 N f, SO.sl true false 101 (ps.set k.toNat ((elN ps k.toNat).fst, (elN ps k.toNat).snd.fst, false))]))) (none)) (none)) (some (Ex.exit 1, [SV.h 0, SV.raw (Value.int IntKind.u32 n), SV.h 5, SV.raw (Value.int IntKind.u64 wt), SV.h 5, SV.raw (Value.int IntKind.i64 (↑ps.length : Int)), SV.raw (Value.int IntKind.i64 k)], [SO.box [SV.h 2, SV.h 3] 138, SO.sl true full 101 ts, SO.sl true false 58 [((0 : Int), (↑N : Int))], SO.rw 34 1 1 false [SV.h 4], SO.mem 5 N f, SO.sl true false 101 ps])) := by kernel_rfl
theorem rs_15 (full : Bool) (ts ps : List Sg) (N : Nat) (f : Nat → Int) (n wt : Int) (k : Int) : (rsL r15 sr1 [2, 12, 14, 15] ⟨rsV ps n wt k, 5, gaO full ts ps N f⟩).get =
  bro (rgB [((0 : Int), (↑N : Int))] N) (bro (gaGI ps N f) (some (Ex.normal, [SV.raw (Value.int IntKind.u32 n), SV.raw (Value.int IntKind.u64 wt), SV.h 5, SV.raw (Value.int IntKind.i64 0)], [SO.box [SV.h 2, SV.h 3] 138, SO.sl true full 101 ts, SO.sl true false 58 [((0 : Int), (↑N : Int))], SO.rw 34 1 1 false [SV.h 4], SO.mem 5 N f, SO.sl true false 5 (readI f ps)])) (none)) (none) := by kernel_rfl
theorem rs_16 (full : Bool) (ts ps : List Sg) (N : Nat) (f : Nat → Int) (n wt : Int) (xs : List Int) : (rsL r16 [2, 12, 14, 15] [2, 12, 14] ⟨[.raw (.int .u32 n), .raw (.int .u64 wt), .h 5, .raw (.int .i64 0)], 5, gaR full ts N f xs⟩).get =
  some (Ex.normal, [SV.raw (Value.int IntKind.u32 n), SV.raw (Value.int IntKind.u64 wt), SV.h 5], [SO.box [SV.h 2, SV.h 3] 138, SO.sl true full 101 ts, SO.sl true false 58 [((0 : Int), (↑N : Int))], SO.rw 34 1 1 false [SV.h 4], SO.mem 5 N f, SO.sl true false 5 xs]) := by kernel_rfl
theorem rs_18 (full : Bool) (ts ps : List Sg) (N : Nat) (f : Nat → Int) (n wt : Int) (xs : List Int) : (rsL r18 [2, 12, 14] [2, 14, 16] ⟨[.raw (.int .u32 n), .raw (.int .u64 wt), .h 5], 5, gaR full ts N f xs⟩).get =
  bro (inB ((wt - (1 : Int)) % (18446744073709551616 : Int)) xs.length) (bro (decide (((wt - (1 : Int)) % (18446744073709551616 : Int)).toNat < xs.length)) (some (Ex.normal, [SV.raw (Value.int IntKind.u32 n), SV.h 5, SV.raw (Value.int IntKind.u8 (xs.getD ((wt - (1 : Int)) % (18446744073709551616 : Int)).toNat (CT (5 : TypeId)).d))], [SO.box [SV.h 2, SV.h 3] 138, SO.sl true full 101 ts, SO.sl true false 58 [((0 : Int), (↑N : Int))], SO.rw 34 1 1 false [SV.h 4], SO.mem 5 N f, SO.sl true false 5 xs])) (none)) (none) := by kernel_rfl
theorem rs_19 (full : Bool) (ts ps : List Sg) (N : Nat) (f : Nat → Int) (n wt : Int) (xs : List Int) (s : Int) : (rsL r19 [2, 14, 16] [2, 14, 16] ⟨[.raw (.int .u32 n), .h 5, .raw (.int .u8 s)], 5, gaR full ts N f xs⟩).get =
  bro (s != (0 : Int)) (some (Ex.ret, [SV.raw (Value.int IntKind.u32 n), SV.h 5, SV.raw (Value.int IntKind.u8 s)], [SO.box [SV.h 2, SV.h 3] 138, SO.sl true full 101 ts, SO.sl true false 58 [((0 : Int), (↑N : Int))], SO.rw 34 1 1 false [SV.h 4], SO.mem 5 N f, SO.sl true false 5 xs])) (some (Ex.normal, [SV.raw (Value.int IntKind.u32 n), SV.h 5, SV.raw (Value.int IntKind.u8 s)], [SO.box [SV.h 2, SV.h 3] 138, SO.sl true full 101 ts, SO.sl true false 58 [((0 : Int), (↑N : Int))], SO.rw 34 1 1 false [SV.h 4], SO.mem 5 N f, SO.sl true false 5 xs])) := by kernel_rfl
theorem rs_21 (full : Bool) (ts ps : List Sg) (N : Nat) (f : Nat → Int) (n wt : Int) (xs : List Int) (s : Int) : (rsL r21 [2, 14, 16] [6, 7, 8] ⟨[.raw (.int .u32 n), .h 5, .raw (.int .u8 s)], 5, gaR full ts N f xs⟩).get =
  bro (bOk (0 : Int) ((n - (1 : Int)) % (4294967296 : Int)) ((n - (1 : Int)) % (4294967296 : Int)) && decide ((n - (1 : Int)) % (4294967296 : Int) ≤ roomV (0 : Nat) xs.length none)) (bro (shutB ((n - (1 : Int)) % (4294967296 : Int)).toNat xs.length (some ((n - (1 : Int)) % (4294967296 : Int)).toNat)) (some (Ex.normal, [SV.h 5, SV.raw (Value.int IntKind.u8 s), SV.raw (Value.int IntKind.i64 0)], [SO.box [SV.h 2, SV.h 3] 138, SO.sl true full 101 ts, SO.sl true false 58 [((0 : Int), (↑N : Int))], SO.rw 34 1 1 false [SV.h 4], SO.mem 5 N f, SO.sl true false 5 (List.take ((n - (1 : Int)) % (4294967296 : Int)).toNat xs)])) (none)) (none) := by kernel_rfl
theorem f21_ex : ∃ fn, Tryz.prog.funcs[(21 : Nat)]? = some fn ∧ fn.body = some c21 ∧ fn.ntmps = 76 ∧ fn.results = #[.tmp 6, .tmp 7, .tmp 8] := ⟨_, rfl, by kernel_rfl, by kernel_rfl, by kernel_rfl⟩
theorem lps_21 : ([r0, r1, r2, r4, r5, r6, r10, rL, r15, r16, r18, r19, r21].all fun c => (lps 0 c).isEmpty) = true := by kernel_rfl
theorem lp21 : ∀ c ∈ [r0, r1, r2, r4, r5, r6, r10, rL, r15, r16, r18, r19, r21], lps 0 c = [] := fun c hc => List.isEmpty_iff.1 (List.all_eq_true.1 lps_21 c hc)
section
variable {fz : Nat → Prop} {w0 : World} {ρ0 : Asg} {S0 : List (SO CT)}
theorem step21 {c : Code} (hc : lps 0 c = []) {slots outs : List Nat} {vs vs' : List SV} {os os' : List (SO CT)} {x : Ex} (h : (rsL c slots outs ⟨vs, 5, os⟩).get = some (x, vs', os')) (hle : 5 ≤ os.length) {a : Act} {w : World} (H : Pq 5 fz w0 ρ0 S0 76 slots vs os a w) :
    c.wp Tryz.prog (fun e a' w' => e = exitOf x ∧ Pq 5 fz w0 ρ0 S0 76 outs vs' os' a' w') a w := by
  obtain ⟨fn, h1, h2, h3, _⟩ := f21_ex
  exact Pq.step spRs_ok h1 h2 h3 hc h (Nat.le_refl _) hle H
end
def rdE (x : Sg) : Sg := (x.1, x.2.1, false)
def fK (ps : List Sg) (k : Nat) : List Sg := (ps.take k).map rdE ++ ps.drop k
theorem fK_full (ps : List Sg) : fK ps ps.length = ps.map rdE := by
  unfold fK
  rw [List.take_length, List.drop_length, List.append_nil]
theorem fK_len (ps : List Sg) (k : Nat) : (fK ps k).length = ps.length := by
  unfold fK
  rw [List.length_append, List.length_map, ← List.length_append, List.take_append_drop]
theorem fK_at {ps : List Sg} {k : Nat} (h : k < ps.length) : elN (fK ps k) k = elN ps k := by
  unfold elN fK
  have hl : ((ps.take k).map rdE).length = k := by rw [List.length_map, List.length_take]; omega
  rw [List.getD_eq_getElem?_getD, List.getD_eq_getElem?_getD, List.getElem?_append_right (by omega), hl, List.getElem?_drop, Nat.sub_self, Nat.add_zero]
theorem fK_succ {ps : List Sg} {k : Nat} (h : k < ps.length) : (fK ps k).set k (rdE (elN ps k)) = fK ps (k + 1) := by
  have hl : ((ps.take k).map rdE).length = k := by rw [List.length_map, List.length_take]; omega
  have he : elN ps k = ps[k] := by unfold elN; rw [List.getD_eq_getElem?_getD, List.getElem?_eq_getElem h]; rfl
  unfold fK
  rw [List.set_append, if_neg (by omega), hl, Nat.sub_self, List.drop_eq_getElem_cons h, List.set_cons_zero, List.take_add_one, List.getElem?_eq_getElem h, List.map_append, List.append_assoc, he]
  rfl
section
variable {full : Bool} {ts ps : List Sg} {N : Nat} {f : Nat → Int} {n wt : Int}
theorem prs_go {k : Nat} (hk : k < ps.length) (hl : ps.length ≤ 1000) : (rsL rL sr1 sr1 ⟨rsV (fK ps k) n wt (k : Nat), 5, gaO full ts (fK ps k) N f⟩).get = some (.normal, rsV (fK ps (k + 1)) n wt ((k + 1 : Nat) : Int), gaO full ts (fK ps (k + 1)) N f) := by
  refine (rs_L full ts (fK ps k) N f n wt (k : Nat)).trans ?_
  have e : ((k : Nat) : Int).toNat = k := Int.toNat_natCast k
  rw [e, fK_len, decide_eq_true (show ((k : Nat) : Int) < (ps.length : Int) by omega), inB_mk (show 0 ≤ ((k : Nat) : Int) ∧ ((k : Nat) : Int) < (ps.length : Int) by omega), decide_eq_true hk, inR64_mk (show -9223372036854775808 ≤ ((k : Nat) : Int) + 1 ∧ ((k : Nat) : Int) + 1 ≤ 9223372036854775807 by omega), fK_at hk]
  have hs := fK_succ hk
  unfold rdE at hs
  rw [hs, Int.natCast_add]
  show some (Ex.normal, _, _) = some (Ex.normal, rsV (fK ps (k + 1)) n wt _, _)
  show _ = some (Ex.normal, [_, _, _, _, _, SV.raw (Value.int IntKind.i64 ((fK ps (k + 1)).length : Int)), _], _)
  rw [fK_len]
  rfl
theorem prs_end : (rsL rL sr1 sr1 ⟨rsV (fK ps ps.length) n wt (ps.length : Nat), 5, gaO full ts (fK ps ps.length) N f⟩).get = some (.exit 1, rsV (fK ps ps.length) n wt (ps.length : Nat), gaO full ts (fK ps ps.length) N f) := by
  refine (rs_L full ts (fK ps ps.length) N f n wt (ps.length : Nat)).trans ?_
  rw [decide_eq_false (show ¬ ((ps.length : Nat) : Int) < ((fK ps ps.length).length : Int) by rw [fK_len]; omega)]
  rfl
end
end
end Go.Proofs.YtfgbhgeppdffaaaGreat
