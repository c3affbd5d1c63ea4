/-
  The symbolic evaluator: functions that take an owned slice over, and what it may hold beyond its length. Own work; nothing here is trusted.
-/
import Derived.Test.YtkhlmlcjedbkcaaSxSee
namespace Go.Sx
noncomputable section
open Go.RowKit

variable {C : Tab} {P : Program} {R : Type}

def fnX (C : Tab) (P : Program) (sp : SpecT C) (ls : LoopT C) (unr : Nat → Nat → Nat) (d g : Nat) (args : List SV) (hp : Hp C) (n : Nat) : Tr (SV × List (SO C)) :=
  (evalT C P sp ls unr d g args hp n fun sv hp n => .leaf (sv, hp, n)).bind fun q => shutL [q.1] q.2.1 q.2.2 fun vs hp _ => (canonV 0 vs hp).bind fun y => match y.1 with
    | [v] => .leaf (v, y.2)
    | _ => .fail
theorem fnX_run (hp0 : Plain P) (hm : P.follows .mixedOrders = true) {sp : SpecT C} (hs : SpecTOk P sp) {ls : LoopT C} (hl : LoopTOk P ls) {unr : Nat → Nat → Nat} {d g : Nat} {args : List SV} {hp : Hp C} {n : Nat} {r : SV × List (SO C)}
    (h : (fnX C P sp ls unr d g args hp n).get = some r) {B : World} {X : Own} {ρ : Asg} {w : World} {vals : List Value} (hX : X.nb = 0) (RR : Rel B X ρ hp n w) (hd : denL ρ args = some vals) :
    (∃ fn, P.funcs[g]? = some fn ∧ fn.body.isSome = true) ∧ Calls P g vals.toArray w fun e w' => ∃ ρ' v, e = .returned v ∧ Rel B X ρ' (numH 0 r.2) r.2.length w' ∧ den ρ' r.1 = some v := by
  unfold fnX at h
  obtain ⟨⟨sv, hp1, n1⟩, h1, h2⟩ := Tr.get_bind h
  obtain ⟨vs2, hp2, n2, h2, s1⟩ := shutL_spec _ _ _ _ h2
  obtain ⟨⟨ws, os1⟩, h3, h4⟩ := Tr.get_bind h2
  simp only at h4
  split at h4
  · rename_i v
    simp only [Tr.get, Option.some.injEq] at h4
    subst h4
    obtain ⟨f, hf⟩ := canonV_ok (n := n2) h3
    obtain ⟨g1, g2⟩ := evalT_ok hp0 hm hs hl (unr := unr) d _ g args hp n _ B X ρ w vals h1 RR hd
    refine ⟨g1, g2.mono ?_⟩
    rintro e w' ⟨ρ', v', sv', hp', n', rfl, h5, h6, h7, h8, h9⟩
    simp only [Tr.get, Option.some.injEq, Prod.mk.injEq] at h9
    obtain ⟨rfl, rfl, rfl⟩ := h9
    obtain ⟨ρ2, p2, R2, d2⟩ := s1 B X ρ' w' [v'] h8 (denL_one h7)
    have hR := R2.ren (hp' := numH 0 os1) (n' := os1.length) (f := f) hf.ren (by omega) (fun i hi => by omega) hf.fresh
    refine ⟨_, v', rfl, hR, ?_⟩
    rw [← hf.vals, ← denL_ren] at d2
    obtain ⟨u, l, d3, d4, d5⟩ := denL_cons.1 d2
    simp only [List.cons.injEq] at d5
    rw [d5.1]; exact d3
  · cases h4
/-- A function that takes its slices over. -/
theorem fnO_ok (hp0 : Plain P) (hm : P.follows .mixedOrders = true) {sp : SpecT C} (hs : SpecTOk P sp) {ls : LoopT C} (hl : LoopTOk P ls) {unr : Nat → Nat → Nat} {d g : Nat} {args : List SV} {os : List (SO C)} {r : SV × List (SO C)}
    (h : (fnX C P sp ls unr d g args (numH 0 os) os.length).get = some r) : FnOwn P g args os r := fun B X ρ w vals hX RR hd => fnX_run hp0 hm hs hl h hX RR hd
/-- .. the first of them laid open. -/
theorem fnI_ok (hp0 : Plain P) (hm : P.follows .mixedOrders = true) {sp : SpecT C} (hs : SpecTOk P sp) {ls : LoopT C} (hl : LoopTOk P ls) {unr : Nat → Nat → Nat} {d g : Nat} {args : List SV} {f : Bool} {e : TypeId} {ts : List (C e).α} {os : List (SO C)} {r : SV × List (SO C)}
    (h : ∀ tc : List (C e).α, tc.take ts.length = ts → ts.length ≤ tc.length →
      (fnX C P sp ls unr d g (.vs (os.length + 1) (C e).sz 0 0 ts.length none :: args) ((os.length + 1, .sl true true e tc) :: (0, .gone) :: numH 0 (.sl true f e ts :: os)) (os.length + 1 + 1)).get = some r) :
    FnOwn P g (.h 0 :: args) (.sl true f e ts :: os) r := fun B X ρ w vals hX RR hd => by
  obtain ⟨v, l, d1, d2, rfl⟩ := denL_cons.1 hd
  have hi : find 0 (numH 0 (SO.sl true f e ts :: os)) = some (.sl true f e ts) := by simp [numH, find]
  obtain ⟨tc, t1, t2, u, R', d'⟩ := RR.open1 hi d1
  exact fnX_run hp0 hm hs hl (h tc t1 t2) hX R' (denL_cons.2 ⟨v, l, d', denL_mono (Asg.le_add ρ _ u (RR.fresh _ (Nat.le_refl _))) _ _ d2, rfl⟩)
/-- One put in at a place, one taken out. -/
def insL {α : Type} (ts : List α) (i : Nat) (us : List α) : List α := ts.take i ++ us ++ ts.drop i
def delL {α : Type} (ts : List α) (i j : Nat) : List α := ts.take i ++ ts.drop j
theorem take_at {α : Type} {l m : List α} {n : Nat} (h : n = l.length) : (l ++ m).take n = l := by subst h; exact List.take_left
theorem drop_at {α : Type} {l m : List α} {n : Nat} (h : n = l.length) : (l ++ m).drop n = m := by subst h; exact List.drop_left
theorem ins_shift_list {α : Type} (a b rest : List α) (x : α) {k1 k2 k3 k4 k5 k6 k7 : Nat} (hb : 0 < b.length) (h1 : k1 = a.length + 1) (h2 : k2 = a.length) (h3 : b.length ≤ k3) (h4 : k4 = b.length) (h5 : k5 = a.length) (h6 : 1 ≤ k6) (h7 : k7 = a.length + b.length + 1) :
    List.take k7 (overL (overL (a ++ b ++ rest) k1 (List.take k4 (List.take k3 (List.drop k2 (a ++ b ++ rest))))) k5 (List.take k6 [x])) = a ++ ([x] ++ b) := by
  have e1 : List.take k4 (List.take k3 (List.drop k2 (a ++ b ++ rest))) = b := by
    rw [List.append_assoc, drop_at h2, List.take_take, Nat.min_eq_left (by omega), take_at h4]
  have e2 : List.take k6 [x] = [x] := List.take_of_length_le (by simpa using h6)
  rw [e1, e2]
  unfold overL
  have hl : ((a ++ b ++ rest).take k1).length = a.length + 1 := by rw [List.length_take]; simp; omega
  have e3 : (List.take k1 (a ++ b ++ rest) ++ b ++ List.drop (k1 + b.length) (a ++ b ++ rest)).take k5 = a := by
    rw [List.append_assoc, List.take_append_of_le_length (by omega), List.take_take, Nat.min_eq_left (by omega), List.append_assoc, take_at h5]
  have e4 : (List.take k1 (a ++ b ++ rest) ++ b ++ List.drop (k1 + b.length) (a ++ b ++ rest)).drop (k5 + [x].length) = b ++ List.drop (k1 + b.length) (a ++ b ++ rest) := by
    rw [List.append_assoc, drop_at (by rw [hl, h5]; rfl)]
  rw [e3, e4, ← List.append_assoc, List.append_assoc a, take_at (by simp; omega)]
theorem ins_grow_list {α : Type} (a b : List α) (x z : α) {k0 k1 k2 k3 k4 k5 k6 k7 k8 : Nat} (h0 : k0 = 0) (hb : 0 < b.length) (h1 : k1 = a.length) (h2 : k2 = b.length + 1) (h3 : k3 = a.length) (h4 : 1 ≤ k4) (h5 : k5 = a.length + 1) (h6 : b.length ≤ k6) (h7 : b.length ≤ k7) (h8 : k8 = a.length) :
    overL (overL (List.take k1 (List.drop k0 (a ++ b ++ [])) ++ List.replicate k2 z) k3 (List.take k4 [x])) k5 (List.take k6 (List.take k7 (List.drop k8 (a ++ b ++ [])))) = a ++ ([x] ++ b) := by
  subst h0
  have e1 : List.take k1 (List.drop 0 (a ++ b ++ [])) = a := by rw [List.drop_zero, List.append_assoc, take_at h1]
  have e2 : List.take k6 (List.take k7 (List.drop k8 (a ++ b ++ []))) = b := by
    rw [List.append_nil, drop_at h8, List.take_of_length_le h7, List.take_of_length_le h6]
  have e3 : List.take k4 [x] = [x] := List.take_of_length_le (by simpa using h4)
  rw [e1, e2, e3]
  unfold overL
  subst h2
  have e4 : (a ++ List.replicate (b.length + 1) z).take k3 = a := take_at h3
  have e5 : (a ++ List.replicate (b.length + 1) z).drop (k3 + [x].length) = List.replicate b.length z := by
    rw [List.replicate_succ, show a ++ z :: List.replicate b.length z = (a ++ [z]) ++ List.replicate b.length z by simp, drop_at (by simp; omega)]
  rw [e4, e5, take_at (by simp; omega), List.drop_of_length_le (by simp; omega)]
  simp
theorem del_list {α : Type} (ts : List α) (z : α) {i j k1 k2 k3 k4 k5 k6 : Nat} (hij : i ≤ j) (hj : j ≤ ts.length) (h2 : k2 = i) (h3 : ts.length - j ≤ k3) (h4 : k4 = j) (h5 : k5 = i + (ts.length - j)) (h1 : k1 = i + (ts.length - j)) :
    List.take k1 (overL (overL ts k2 (List.take k3 (List.drop k4 ts))) k5 (List.replicate k6 z)) = delL ts i j := by
  have e1 : List.take k3 (List.drop k4 ts) = ts.drop j := by rw [h4, List.take_of_length_le (by rw [List.length_drop]; omega)]
  rw [e1, h2]
  unfold overL delL
  have hl : (ts.take i ++ ts.drop j).length = i + (ts.length - j) := by rw [List.length_append, List.length_take, List.length_drop]; omega
  rw [take_at (l := ts.take i ++ ts.drop j) (by rw [hl]; exact h5), List.append_assoc, take_at (by rw [hl]; exact h1)]
end
end Go.Sx
