/-
  Chapter 8: FreeOnce's loop. Own work; nothing here is trusted.
-/
import Derived.Test.YtkhlmlcjedbkcaaCh08OnceP
namespace Go.Proofs.Ytkhlmlcjedbkcaa
open Go Go.Sx Go.RowKit
set_option maxRecDepth 1000000
set_option maxHeartbeats 8000000
set_option linter.unusedVariables false
set_option linter.unusedSimpArgs false
noncomputable section
theorem upto_in : ∀ (n : Nat) (x : Int), x ∈ upto n → 0 ≤ x ∧ x < (n : Int)
  | 0, _, h => by cases h
  | n + 1, x, h => by
    simp only [upto, List.mem_append, List.mem_singleton] at h
    rcases h with h | h
    · have := upto_in n x h; omega
    · omega
theorem upto_nodup : ∀ n : Nat, (upto n).Nodup
  | 0 => List.nodup_nil
  | n + 1 => by
    unfold upto
    rw [List.nodup_append]
    refine ⟨upto_nodup n, by simp, fun x hx y hy => ?_⟩
    have := upto_in n x hx
    simp only [List.mem_singleton] at hy
    omega
theorem okF_perm {size : Int} {l l' : List Int} (hp : l.Perm l') (h : okF size l = true) : okF size l' = true := by
  obtain ⟨h1, h2, h3⟩ := okF_iff.1 h
  exact okF_iff.2 ⟨by rw [← hp.length_eq]; exact h1, fun x hx => h2 x (hp.mem_iff.2 hx), (hp.nodup_iff).1 h3⟩
theorem okF_sub {size : Int} {l l' : List Int} (hp : l'.Sublist l) (h : okF size l = true) : okF size l' = true := by
  obtain ⟨h1, h2, h3⟩ := okF_iff.1 h
  have := hp.length_le
  exact okF_iff.2 ⟨by omega, fun x hx => h2 x (hp.subset hx), h3.sublist hp⟩
theorem td (B : List Int) (p : Int) : tkL B p ++ drL B p = B := List.take_append_drop _ _
/-- What is free and what is taken are together all numbers, each once. -/
structure Good (size : Int) (ts out : List Int) : Prop where
  ok : okF size (ts ++ out) = true
  len : (ts.length : Int) + (out.length : Int) = size
theorem Good.okT {size : Int} {ts out : List Int} (h : Good size ts out) : okF size ts = true := okF_sub (List.sublist_append_left _ _) h.ok
theorem Good.seen {size : Int} {ts out : List Int} (h : Good size ts out) : seenAll size ts out = true := by
  obtain ⟨h1, h2, h3⟩ := okF_iff.1 h.ok
  rw [List.length_append] at h1
  unfold seenAll
  rw [h.okT, decide_eq_true (show out.length ≤ 1000 by omega), seenOk_of out [] (h3.sublist (List.sublist_append_right _ _)) fun x hx => ⟨?_, rfl⟩]
  · rfl
  · have := h2 x (List.mem_append_right _ hx)
    unfold noIn inS
    rw [decide_eq_true this]
    have hn : ¬ x ∈ ts := fun hts => (List.nodup_append.1 h3).2.2 x hts x hx rfl
    simpa using hn
theorem good_take {size : Int} {ts out : List Int} (h : Good size ts out) {n : Int} : Good size (drL ts n) (out ++ tkL ts n) := by
  constructor
  · refine okF_perm ?_ h.ok
    have : ts ++ out = tkL ts n ++ (drL ts n ++ out) := by rw [← List.append_assoc, td]
    rw [this, ← List.append_assoc (drL ts n)]
    exact List.perm_append_comm
  · rw [← h.len]
    have := congrArg List.length (td ts n)
    simp only [List.length_append] at this ⊢
    omega
abbrev giveT' (ts out : List Int) (m : Int) : List Int := List.take ((intO (out.length : Int) none).toNat - ((out.length : Int) - m).toNat) (List.drop (0 + ((out.length : Int) - m).toNat) out) ++ ts
abbrev giveO (out : List Int) (m : Int) : List Int := List.take ((out.length : Int) - m).toNat out
theorem give_drop (out : List Int) (m : Int) : List.take ((intO (out.length : Int) none).toNat - ((out.length : Int) - m).toNat) (List.drop (0 + ((out.length : Int) - m).toNat) out) = out.drop ((out.length : Int) - m).toNat := by
  rw [Nat.zero_add]
  refine List.take_of_length_le ?_
  rw [List.length_drop]
  exact Nat.le_refl _
theorem good_give {size : Int} {ts out : List Int} (h : Good size ts out) (m : Int) : Good size (giveT' ts out m) (giveO out m) := by
  unfold giveT' giveO
  rw [give_drop]
  generalize ((out.length : Int) - m).toNat = K
  constructor
  · refine okF_perm ?_ h.ok
    have : ts ++ out = (ts ++ out.take K) ++ out.drop K := by rw [List.append_assoc, List.take_append_drop]
    rw [this, List.append_assoc (out.drop K)]
    exact List.perm_append_comm
  · rw [← h.len]
    have := congrArg List.length (List.take_append_drop K out)
    simp only [List.length_append] at this ⊢
    omega
abbrev St := Option (List Int × List Int)
def curS (l0 : List Int) : St → List Int × List Int
  | none => (l0, [])
  | some p => p
def leastI (a b : Int) : Int := if b < a then b else a
def stepS (l0 : List Int) (s : St) (a : Int) : St :=
  if 0 < a then (if 1 + a % 20 ≤ ((curS l0 s).1.length : Int) then some (drL (curS l0 s).1 (1 + a % 20), (curS l0 s).2 ++ tkL (curS l0 s).1 (1 + a % 20)) else s)
  else if leastI (a % 20) ((curS l0 s).2.length : Int) = 0 then s else some (giveT' (curS l0 s).1 (curS l0 s).2 (leastI (a % 20) ((curS l0 s).2.length : Int)), giveO (curS l0 s).2 (leastI (a % 20) ((curS l0 s).2.length : Int)))
theorem good_step {size : Int} {l0 : List Int} {s : St} (h : Good size (curS l0 s).1 (curS l0 s).2) (a : Int) : Good size (curS l0 (stepS l0 s a)).1 (curS l0 (stepS l0 s a)).2 := by
  unfold stepS
  split
  · split
    · exact good_take h
    · exact h
  · split
    · exact h
    · exact good_give h _
@[reducible] def onSt (f1 f3 : Bool) (size : Int) (l0 l : List Int) (x : Nat × St) : List SV × List (SO C8) := match x.2 with
  | none => onStA f1 f3 size l0 l (x.1 : Int)
  | some p => onStB f1 false f3 false size l0 l p.1 p.2 (x.1 : Int)
def isB (s : St) : Bool := s.isSome
def goodB (size : Int) (l0 : List Int) : Bool := okF size l0 && decide ((l0.length : Int) = size)
def onLoop : LoopFn C8 := fun li => match li with
  | ⟨[.h 0, .raw (.slice none 0 0), .raw (.int .i64 (.ofNat 0)), .raw (.int .i64 size), .h 1, .raw (.bool false)], 3, [.box [.raw (.int .i64 size2), .h 2] 26, .sl false f3 3 l, .sl true f1 3 l0]⟩ =>
    .br (size2 == size) (.br (goodB size l0) (.br (decide (l.length ≤ 100)) (.br (isB (l.foldl (stepS l0) none)) (.leaf (.exit 0, onStB f1 false f3 false size l0 l (curS l0 (l.foldl (stepS l0) none)).1 (curS l0 (l.foldl (stepS l0) none)).2 (l.length : Int))) (.leaf (.exit 0, onStA f1 f3 size l0 l (l.length : Int)))) .fail) .fail) .fail
  | _ => .fail
theorem on_loop : loopOf Try.prog 5 0 = some (189, (loopOf Try.prog 5 0).get!.2) := by kernel_rfl
section
variable {size : Int} {ts out : List Int} {n : Int} (h1 : 1 ≤ n) (h2 : n ≤ (ts.length : Int))
include h1 h2
theorem tk_len : ((tkL ts n).length : Int) = n := by unfold tkL; rw [List.length_take]; omega
theorem dr_len : ((drL ts n).length : Int) = (ts.length : Int) - n := by unfold drL; rw [List.length_drop]; omega
end
theorem on_round {f1 f3 : Bool} {size : Int} {l0 l : List Int} (hl : l.length ≤ 100) {k : Nat} (hk : k < l.length) {s : St} (G : Good size (curS l0 s).1 (curS l0 s).2) :
    ∃ y, (roundG C8 Try.prog sfN lsI un5 10 5 0 onSlots ⟨(onSt f1 f3 size l0 l (k, s)).1, 3, (onSt f1 f3 size l0 l (k, s)).2⟩).get = some y ∧ isNorm y.1 = true ∧ y.2 = onSt f1 f3 size l0 l (k + 1, stepS l0 s (l.getD k 0)) := by
  have k1 := decide_eq_true (show (k : Int) < (l.length : Int) by omega)
  have k2 : Sx.inB (k : Int) l.length = true := inB_mk ⟨by omega, by omega⟩
  have k3 := decide_eq_true hk
  have k4 : inR64 ((k : Int) + 1) = true := inR64_mk (by omega)
  have hs := (okF_iff.1 G.okT).1
  have glen := G.len
  cases s with
  | none =>
    have G : Good size l0 [] := G
    have glen : (l0.length : Int) + ((([] : List Int).length : Nat) : Int) = size := glen
    simp only [List.length_nil] at glen
    have pz1 := onA_zero1 f1 f3 size l0 l (k : Int)
    have pz2 := onA_zero2 f1 f3 size l0 l (k : Int)
    have pf := onA_full f1 f3 size l0 l (k : Int)
    have pt := onA_take f1 f3 size l0 l (k : Int)
    unfold stepS
    simp only [show ((k : Nat) : Int).toNat = k from rfl] at pz1 pz2 pf pt
    generalize l.getD k 0 = a at *
    have a1 := Int.emod_nonneg a (show (20 : Int) ≠ 0 by decide)
    have a2 := Int.emod_lt_of_pos a (show (0 : Int) < 20 by decide)
    by_cases h0 : 0 < a
    · have e0 := decide_eq_true h0
      rw [if_pos h0]
      generalize hn : 1 + a % 20 = n at *
      have e1 : inR64 n = true := inR64_mk (by omega)
      have e2 := decide_eq_true (show 1 ≤ n by omega)
      have e5 : inR64 (size - ((0 : Nat) : Int)) = true := inR64_mk (by omega)
      by_cases hle : n ≤ (l0.length : Int)
      · rw [if_pos (show n ≤ ((curS l0 none).1.length : Int) from hle)]
        have e3 := decide_eq_true hle
        have e6 := decide_eq_false (show ¬ size - ((0 : Nat) : Int) < n by omega)
        have tl := tk_len (by omega) hle
        have dl := dr_len (by omega) hle
        have G2 : Good size (drL l0 n) (tkL l0 n) := good_take G
        have e7 : okG size (drL l0 n) (tkL l0 n) = true := by unfold okG; rw [td]; exact G.okT
        have e8 : (eqL (tkL l0 n ++ drL l0 n) l0 && small (tkL l0 n ++ drL l0 n)) = true := by rw [td]; simp only [eqL, small, beq_self_eq_true, Bool.true_and]; exact decide_eq_true (by omega)
        have e9 : (((tkL l0 n).length : Int) != n) = false := by rw [tl]; exact bne_self_eq_false' _
        have e10 : roomB (tkL l0 n).length Try.prog.types[(3 : Nat)].bytes = true := room3 (by omega)
        have e11 := decide_eq_false (show ¬ (tkL l0 n).length = 0 by omega)
        have e13 : inR64 (size - ((tkL l0 n).length : Int)) = true := inR64_mk (by omega)
        have e14 : (((drL l0 n).length : Int) != size - ((tkL l0 n).length : Int)) = false := by rw [dl, tl, show size - n = (l0.length : Int) - n by omega]; exact bne_self_eq_false' _
        simp only [k1, k2, k3, k4, e0, e1, e2, e3, e5, e6, e7, e8, e9, e10, e11, e13, e14, G.okT, G2.okT, G2.seen, beq_self_eq_true, show (!(((0 : Int) == 7) == false)) = false from rfl] at pt
        exact ⟨_, Tr.follow_get pt rfl, rfl, rfl⟩
      · rw [if_neg (show ¬ n ≤ ((curS l0 none).1.length : Int) from hle)]
        have e3 := decide_eq_false hle
        have e6 := decide_eq_true (show size - ((0 : Nat) : Int) < n by omega)
        simp only [k1, k2, k3, k4, e0, e1, e2, e3, e5, e6, G.okT, show (!(((7 : Int) == 7) == true)) = false from rfl] at pf
        exact ⟨_, Tr.follow_get pf rfl, rfl, rfl⟩
    · have e0 := decide_eq_false h0
      rw [if_neg h0]
      by_cases hz : 0 < a % 20
      · rw [if_pos (show leastI (a % 20) ((curS l0 none).2.length : Int) = 0 from if_pos hz)]
        have ez := decide_eq_true (show ((0 : Nat) : Int) < a % 20 by omega)
        simp only [k1, k2, k3, k4, e0, ez] at pz1
        exact ⟨_, Tr.follow_get pz1 rfl, rfl, rfl⟩
      · have hz0 : a % 20 = 0 := by omega
        rw [if_pos (show leastI (a % 20) ((curS l0 none).2.length : Int) = 0 from (if_neg hz).trans hz0)]
        have ez := decide_eq_false (show ¬ ((0 : Nat) : Int) < a % 20 by omega)
        have eb : (a % 20 == 0) = true := by rw [hz0]; rfl
        simp only [k1, k2, k3, k4, e0, ez, eb] at pz2
        exact ⟨_, Tr.follow_get pz2 rfl, rfl, rfl⟩
  | some p =>
    obtain ⟨ts, out⟩ := p
    have G : Good size ts out := G
    have glen : (ts.length : Int) + (out.length : Int) = size := glen
    have pz1 := onB_zero1 f1 false f3 false size l0 l ts out (k : Int)
    have pz2 := onB_zero2 f1 false f3 false size l0 l ts out (k : Int)
    have pf := onB_full f1 false f3 false size l0 l ts out (k : Int)
    have pt := onB_take f1 false f3 false size l0 l ts out (k : Int)
    have pg1 := onB_give1 f1 false f3 false size l0 l ts out (k : Int)
    have pg2 := onB_give2 f1 false f3 false size l0 l ts out (k : Int)
    unfold stepS
    simp only [show ((k : Nat) : Int).toNat = k from rfl] at pz1 pz2 pf pt pg1 pg2
    generalize l.getD k 0 = a at *
    have a1 := Int.emod_nonneg a (show (20 : Int) ≠ 0 by decide)
    have a2 := Int.emod_lt_of_pos a (show (0 : Int) < 20 by decide)
    have e5 : inR64 (size - (out.length : Int)) = true := inR64_mk (by omega)
    by_cases h0 : 0 < a
    · have e0 := decide_eq_true h0
      rw [if_pos h0]
      generalize hn : 1 + a % 20 = n at *
      have e1 : inR64 n = true := inR64_mk (by omega)
      have e2 := decide_eq_true (show 1 ≤ n by omega)
      by_cases hle : n ≤ (ts.length : Int)
      · rw [if_pos (show n ≤ ((curS l0 (some (ts, out))).1.length : Int) from hle)]
        have e3 := decide_eq_true hle
        have e6 := decide_eq_false (show ¬ size - (out.length : Int) < n by omega)
        have tl := tk_len (by omega) hle
        have dl := dr_len (by omega) hle
        have G2 : Good size (drL ts n) (out ++ tkL ts n) := good_take G
        have al : (((out ++ tkL ts n).length : Nat) : Int) = (out.length : Int) + n := by rw [List.length_append]; omega
        have e7 : okG size (drL ts n) (tkL ts n) = true := by unfold okG; rw [td]; exact G.okT
        have e8 : (eqL (tkL ts n ++ drL ts n) ts && small (tkL ts n ++ drL ts n)) = true := by rw [td]; simp only [eqL, small, beq_self_eq_true, Bool.true_and]; exact decide_eq_true (by omega)
        have e9 : (((tkL ts n).length : Int) != n) = false := by rw [tl]; exact bne_self_eq_false' _
        have e10 : roomB (out.length + (tkL ts n).length) Try.prog.types[(3 : Nat)].bytes = true := room3 (by omega)
        have e13 : inR64 (size - ((out ++ tkL ts n).length : Int)) = true := inR64_mk (by omega)
        have e14 : (((drL ts n).length : Int) != size - ((out ++ tkL ts n).length : Int)) = false := by rw [dl, al, show size - ((out.length : Int) + n) = (ts.length : Int) - n by omega]; exact bne_self_eq_false' _
        simp only [k1, k2, k3, k4, e0, e1, e2, e3, e5, e6, e7, e8, e9, e10, e13, e14, G.okT, G2.okT, G2.seen, beq_self_eq_true, show (!(((0 : Int) == 7) == false)) = false from rfl] at pt
        exact ⟨_, Tr.follow_get pt rfl, rfl, rfl⟩
      · rw [if_neg (show ¬ n ≤ ((curS l0 (some (ts, out))).1.length : Int) from hle)]
        have e3 := decide_eq_false hle
        have e6 := decide_eq_true (show size - (out.length : Int) < n by omega)
        simp only [k1, k2, k3, k4, e0, e1, e2, e3, e5, e6, G.okT, show (!(((7 : Int) == 7) == true)) = false from rfl] at pf
        exact ⟨_, Tr.follow_get pf rfl, rfl, rfl⟩
    · have e0 := decide_eq_false h0
      rw [if_neg h0]
      have key : ∀ m : Int, 0 < m → m ≤ (out.length : Int) → inR64 ((out.length : Int) - m) = true ∧
          (bOk ((out.length : Int) - m) (intO (out.length : Int) none) (roomV 0 out.length none) && atV 0 out.length ((out.length : Int) - m) none) = true ∧
          (decide (0 + ((out.length : Int) - m).toNat + ((intO (out.length : Int) none).toNat - ((out.length : Int) - m).toNat) ≤ out.length) && capLe ((intO (out.length : Int) none).toNat - ((out.length : Int) - m).toNat) (capS none ((out.length : Int) - m))) = true ∧
          okG size ts (List.take ((intO (out.length : Int) none).toNat - ((out.length : Int) - m).toNat) (List.drop (0 + ((out.length : Int) - m).toNat) out)) = true ∧
          (bOk 0 ((out.length : Int) - m) ((out.length : Int) - m) && decide ((out.length : Int) - m ≤ roomV 0 out.length none)) = true ∧
          shutB ((out.length : Int) - m).toNat out.length (some ((out.length : Int) - m).toNat) = true ∧
          Good size (giveT' ts out m) (giveO out m) ∧ inR64 (size - ((giveO out m).length : Int)) = true ∧ (((giveT' ts out m).length : Int) != size - ((giveO out m).length : Int)) = false := fun m m1 m2 => by
        have G2 := good_give G m
        have hln : (intO (out.length : Int) none).toNat = out.length := rfl
        refine ⟨inR64_mk (by omega), ?_, ?_, G2.okT, ?_, ?_, G2, inR64_mk ?_, ?_⟩
        · simp only [atV, Bool.and_true, roomV, intO]; exact bOk_mk ⟨by omega, by omega, by omega⟩
        · simp only [capLe, capS, Bool.and_true, hln]; exact decide_eq_true (by omega)
        · rw [bOk_mk ⟨by omega, by omega, by omega⟩]; simp only [roomV, Bool.true_and]; exact decide_eq_true (by omega)
        · simp only [shutB, Bool.and_eq_true, decide_eq_true_eq]; omega
        · have := G2.len; omega
        · have := G2.len
          rw [show size - ((giveO out m).length : Int) = ((giveT' ts out m).length : Int) by omega]; exact bne_self_eq_false' _
      by_cases hz : (out.length : Int) < a % 20
      · have ez := decide_eq_true hz
        have el : leastI (a % 20) ((curS l0 (some (ts, out))).2.length : Int) = (out.length : Int) := if_pos hz
        rw [el]
        by_cases ho : (out.length : Int) = 0
        · rw [if_pos ho]
          have eb : ((out.length : Int) == 0) = true := by rw [ho]; rfl
          simp only [k1, k2, k3, k4, e0, ez, eb] at pz1
          exact ⟨_, Tr.follow_get pz1 rfl, rfl, rfl⟩
        · rw [if_neg ho]
          have eb : ((out.length : Int) == 0) = false := beq_eq_false_iff_ne.2 ho
          obtain ⟨q1, q2, q3, q4, q5, q6, G2, q7, q8⟩ := key (out.length : Int) (by omega) (Int.le_refl _)
          have q9 := G2.okT
          have q10 := G2.seen
          simp only [giveT', giveO] at q7 q8 q9 q10
          simp only [k1, k2, k3, k4, e0, ez, eb, q1, q2, q3, q4, q5, q6, q7, q8, q9, q10, beq_self_eq_true] at pg1
          exact ⟨_, Tr.follow_get pg1 rfl, rfl, rfl⟩
      · have ez := decide_eq_false hz
        have el : leastI (a % 20) ((curS l0 (some (ts, out))).2.length : Int) = a % 20 := if_neg hz
        rw [el]
        by_cases ho : a % 20 = 0
        · rw [if_pos ho]
          have eb : (a % 20 == 0) = true := by rw [ho]; rfl
          simp only [k1, k2, k3, k4, e0, ez, eb] at pz2
          exact ⟨_, Tr.follow_get pz2 rfl, rfl, rfl⟩
        · rw [if_neg ho]
          have eb : (a % 20 == 0) = false := beq_eq_false_iff_ne.2 ho
          obtain ⟨q1, q2, q3, q4, q5, q6, G2, q7, q8⟩ := key (a % 20) (by omega) (by omega)
          have q9 := G2.okT
          have q10 := G2.seen
          simp only [giveT', giveO] at q7 q8 q9 q10
          simp only [k1, k2, k3, k4, e0, ez, eb, q1, q2, q3, q4, q5, q6, q7, q8, q9, q10, beq_self_eq_true] at pg2
          exact ⟨_, Tr.follow_get pg2 rfl, rfl, rfl⟩
theorem onLoop_ok : ∀ tm hp n x, (loopS [5, 7, 8, 0, 1, 4] [] onLoop tm hp n).get = some x → InLoop Try.prog 189 (loopOf Try.prog 5 0).get!.2 tm hp n fun e tm hp n => (e, tm, hp, n) = x := loopS_of fun li r h => by
  unfold onLoop at h
  split at h
  · rename_i size size2 f3 l f1 l0
    obtain ⟨hn0, h⟩ := Tr.get_ask.1 h
    obtain ⟨hs, h⟩ := Tr.get_ask.1 h
    obtain ⟨hlen, h⟩ := Tr.get_ask.1 h
    have hn0 := eq_of_beq hn0
    subst hn0
    change List Int at l l0
    obtain rfl : r = (.exit 0, onSt f1 f3 size2 l0 l (l.length, l.foldl (stepS l0) none)) := by
      generalize l.foldl (stepS l0) none = S at h ⊢
      cases S with
      | none => exact (Option.some.inj h).symm
      | some p => exact (Option.some.inj h).symm
    unfold goodB at hs
    rw [Bool.and_eq_true] at hs
    obtain ⟨hok, h0⟩ := hs
    have h0 : ((l0.length : Nat) : Int) = size2 := of_decide_eq_true h0
    have hlen : l.length ≤ 100 := of_decide_eq_true hlen
    have G0 : Good size2 l0 [] := ⟨by rw [List.append_nil]; exact hok, by simp only [List.length_nil]; omega⟩
    generalize hS : l.foldl (stepS l0) none = S
    refine ⟨?_, ?_⟩
    · cases S with
      | none => exact Keeps.of2 (Nat.le_refl 3) rfl (fun o ho => by cases ho)
      | some p => exact Keeps.of2 (show 3 ≤ 5 by decide) rfl (fun o ho => by
          simp only [List.drop, List.mem_cons, List.not_mem_nil, or_false] at ho
          rcases ho with rfl | rfl <;> exact .inl rfl)
    refine loop_li (σ := Nat × St) (st := onSt f1 f3 size2 l0 l) (Inv := fun x => x.1 ≤ l.length ∧ Good size2 (curS l0 x.2).1 (curS l0 x.2).2 ∧ (l.drop x.1).foldl (stepS l0) x.2 = S) (μ := fun x => l.length - x.1) (d := 10) (unr := un5) (sp := sfN) (ls := lsI) plain mixed sfN_ok lsI_ok on_loop (fun x hx => ?_) (0, none) ⟨Nat.zero_le _, G0, hS⟩
    obtain ⟨k, s⟩ := x
    obtain ⟨hi, G, hf⟩ := hx
    simp only at hi G hf
    by_cases h5 : k < l.length
    · obtain ⟨y, r1, r2, r3⟩ := on_round (f1 := f1) (f3 := f3) hlen h5 G
      refine ⟨y, r1, fun _ => ⟨(k + 1, stepS l0 s (l.getD k 0)), ⟨by omega, good_step G _, ?_⟩, by simp only; omega, r3⟩, fun h => by rw [r2] at h; cases h⟩
      rw [getD_drop h5] at hf
      exact hf
    · have : k = l.length := by omega
      subst this
      have hs' : s = S := by rw [List.drop_length] at hf; exact hf
      subst hs'
      cases s with
      | none => exact ⟨_, Tr.follow_get (onA_end f1 f3 size2 l0 l _) (by rw [decide_eq_false (by omega)]), nofun, fun _ => ⟨rfl, rfl⟩⟩
      | some p => exact ⟨_, Tr.follow_get (onB_end f1 false f3 false size2 l0 l p.1 p.2 _) (by rw [decide_eq_false (by omega)]), nofun, fun _ => ⟨rfl, rfl⟩⟩
  · cases h
def lsN : LoopT C8 := Sx.addL 5 0 (loopS [5, 7, 8, 0, 1, 4] [] onLoop) noLs
theorem lsN_ok : LoopTOk Try.prog lsN := addL_ok on_loop onLoop_ok noLs_ok
def sfF : SpecT C8 := addS 6 (viewS lv8T) (addS 7 (viewS pk8T) (addS 8 (viewS newT) noSp))
theorem sfF_ok : SpecTOk Try.prog sfF := addS_ok (viewS_ok lv8T_ok) (addS_ok (viewS_ok pk8T_ok) (addS_ok (viewS_ok newT_ok) noSp_ok))
end
end Go.Proofs.Ytkhlmlcjedbkcaa
