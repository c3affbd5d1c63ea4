/-
  The symbolic evaluator: handles under other numbers, and a part of a run laid into a greater one. Own work; nothing here is trusted.
-/
import Derived.Test.YtkhlmlcjedbkcaaSxSpec
namespace Go.Sx
noncomputable section
open Go.RowKit

variable {C : Tab} {P : Program} {R : Type}

mutual
def renV (f : Nat → Nat) : SV → SV
  | .raw v => .raw v
  | .h i => .h (f i)
  | .ep i o => .ep (f i) o
  | .bs i o l c => .bs (f i) o l c
  | .vs i s b o l c => .vs (f i) s b o l c
  | .el i a s j => .el (f i) a s j
  | .agg cs => .agg (renL f cs)
  | .tup cs => .tup (renL f cs)
  | .fn g cs => .fn g (renL f cs)
def renL (f : Nat → Nat) : List SV → List SV
  | [] => []
  | v :: r => renV f v :: renL f r
end
def renO (f : Nat → Nat) : SO C → SO C
  | .box cs t => .box (renL f cs) t
  | .mv k ag vt ks vs => .mv k ag vt ks (renL f vs)
  | o => o
mutual
theorem den_ren (ρ : Asg) (f : Nat → Nat) : ∀ (v : SV), den (fun i => ρ (f i)) v = den ρ (renV f v)
  | .raw _ => rfl
  | .h _ => rfl
  | .ep _ _ => rfl
  | .bs _ _ _ _ => rfl
  | .vs _ _ _ _ _ _ => rfl
  | .el _ _ _ _ => rfl
  | .agg cs => by simp only [den, renV, denL_ren ρ f cs]
  | .tup cs => by simp only [den, renV, denL_ren ρ f cs]
  | .fn _ cs => by simp only [den, renV, denL_ren ρ f cs]
theorem denL_ren (ρ : Asg) (f : Nat → Nat) : ∀ (l : List SV), denL (fun i => ρ (f i)) l = denL ρ (renL f l)
  | [] => rfl
  | v :: r => by simp only [denL, renL, den_ren ρ f v, denL_ren ρ f r]
end

/-- What may be seen of an object: a slice that is owned may be seen as a view; anything may be given up. -/
def subO : SO C → SO C → Prop
  | .gone, _ => True
  | .sl own full e ts, .sl own' full' e' ts' => (own = true → own' = true) ∧ (full = true → full' = true) ∧ e = e' ∧ HEq ts ts'
  | o, o' => o = o'
theorem subO.refl (o : SO C) : subO o o := by
  cases o with
  | sl own full e ts => exact ⟨fun h => h, fun h => h, rfl, HEq.rfl⟩
  | gone => trivial
  | _ => rfl
theorem subO.owns {o o' : SO C} (h : subO o o') (ho : o.owns = true) : o'.owns = true := by
  cases o with
  | sl own full e ts =>
    cases o' with
    | sl own' full' e' ts' => exact h.1 ho
    | _ => simp [subO] at h
  | box cs t => cases o' <;> simp [subO] at h; rfl
  | mp k vt m => cases o' <;> simp [subO] at h; rfl
  | mv k ag vt ks vs => cases o' <;> simp [subO] at h; rfl
  | gone => simp [SO.owns] at ho
theorem subO.live {o o' : SO C} (h : subO o o') : o.live = true → o'.live = true := by
  cases o <;> cases o' <;> simp [subO] at h <;> simp [SO.live]
theorem subO.isSl {o o' : SO C} (h : subO o o') : o.isSl = true → o'.isSl = true := by
  cases o <;> cases o' <;> simp [subO] at h <;> simp [SO.isSl]
theorem renO_owns (f : Nat → Nat) (o : SO C) : (renO f o).owns = o.owns := by cases o <;> rfl
theorem renO_live (f : Nat → Nat) (o : SO C) : (renO f o).live = o.live := by cases o <;> rfl
theorem renO_isSl (f : Nat → Nat) (o : SO C) : (renO f o).isSl = o.isSl := by cases o <;> rfl

theorem okObj.ren {ρ : Asg} {f : Nat → Nat} {w : World} {okb : Nat → Prop} {v : Value} {o : SO C} : okObj (fun i => ρ (f i)) w okb v o ↔ okObj ρ w okb v (renO f o) := by
  cases o with
  | box cs t => simp only [okObj, renO, denL_ren]
  | mv k ag vt ks vs => simp only [okObj, renO, denL_ren]
  | _ => exact Iff.rfl
theorem okObj.sub {ρ : Asg} {w : World} {okb okb' : Nat → Prop} {v : Value} {o o' : SO C} (h : okObj ρ w okb v o') (hs : subO o o') (hb : o.owns = true → ∀ g, blk v = some g → okb' g) : okObj ρ w okb' v o := by
  have view : ∀ {own' full' : Bool} {e : TypeId} {ts : List (C e).α} {a : Option Addr} {cap : Nat}, (match own' with
      | true => ownsL w okb (C e) e a cap ts
      | false => ∀ j x, ((C e).flat ts)[j]? = some x → ∃ a', a = some a' ∧ w.cell? (a'.add j) = some x) → ∀ j x, ((C e).flat ts)[j]? = some x → ∃ a', a = some a' ∧ w.cell? (a'.add j) = some x := by
    intro own' full' e ts a cap h3
    cases own' with
    | false => exact h3
    | true => exact h3.cell
  cases o with
  | box cs t =>
    cases o' <;> simp [subO] at hs
    obtain ⟨rfl, rfl⟩ := hs
    obtain ⟨g, vs, rfl, h1, h2, h3⟩ := h
    exact ⟨g, vs, rfl, hb rfl g rfl, h2, h3⟩
  | mp k vt m =>
    have e : SO.mp k vt m = o' := by cases o' <;> first | exact hs | simp [subO] at hs
    subst e
    obtain ⟨g, es, clock, rfl, h1, h2⟩ := h
    exact ⟨g, es, clock, rfl, hb rfl g rfl, h2⟩
  | mv k ag vt ks vs =>
    have e : SO.mv k ag vt ks vs = o' := by cases o' <;> first | exact hs | simp [subO] at hs
    subst e
    obtain ⟨g, es, clock, us, rfl, h1, h2⟩ := h
    exact ⟨g, es, clock, us, rfl, hb rfl g rfl, h2⟩
  | gone => trivial
  | sl own full e ts =>
    cases o' with
    | sl own' full' e' ts' =>
      obtain ⟨s1, s2, rfl, s3⟩ := hs
      cases s3
      obtain ⟨a, cap, rfl, h1, h2, h3⟩ := h
      refine ⟨a, cap, rfl, h1, fun hf => h2 (s2 hf), ?_⟩
      cases own with
      | false => exact view (full' := full') h3
      | true =>
        have := s1 rfl; subst this
        exact h3.to (fun g hg _ => hb rfl g (by subst hg; rfl)) (fun _ _ => rfl)
    | _ => simp [subO] at hs

/-- Other numbers: entries are left out, owners made views. -/
structure Renum (hp : Hp C) (f : Nat → Nat) (hp' : Hp C) : Prop where
  ent : ∀ j o, find j hp' = some o → ∃ O, find (f j) hp = some O ∧ subO (renO f o) O
  inj : ∀ i j oi oj, find i hp' = some oi → find j hp' = some oj → i ≠ j → oi.owns = true → oj.live = true → f i ≠ f j

section rel
variable {B : World} {X : Own} {ρ : Asg} {hp hp' : Hp C} {n : Nat} {w : World} {f : Nat → Nat}

/-- The handles of a run under other numbers; the base keeps its own. -/
theorem Rel.ren (h : Rel B X ρ hp n w) (hr : Renum hp f hp') {n' : Nat} (hnb : X.nb ≤ n') (hbase : ∀ i, i < X.nb → f i = i) (hfresh : ∀ i, n' ≤ i → n ≤ f i) : Rel B X (fun i => ρ (f i)) hp' n' w where
  os := h.os
  tape := h.tape
  out := h.out
  size := h.size
  old := h.old
  nbLe := hnb
  agree := fun i hi => by show ρ (f i) = _; rw [hbase i hi]; exact h.agree i hi
  fresh := fun i hi => h.fresh _ (hfresh i hi)
  one := fun i v hv => h.one _ v hv
  obj := fun j o hj => by
    obtain ⟨O, h1, h2⟩ := hr.ent j o hj
    obtain ⟨v, hv, hok⟩ := h.obj _ O h1
    exact ⟨v, hv, okObj.ren.2 (hok.sub h2 fun ho g hg => h.okOwn h1 (h2.owns ho) hv hg)⟩
  sep := fun i j oi oj vi vj g hij hi hj ho hl hvi hvj hg => by
    obtain ⟨Oi, h1, h2⟩ := hr.ent i oi hi
    obtain ⟨Oj, h3, h4⟩ := hr.ent j oj hj
    exact h.sep (f i) (f j) Oi Oj vi vj g (hr.inj i j oi oj hi hj hij ho hl) h1 h3 (h2.owns (by rw [renO_owns]; exact ho)) (h4.live (by rw [renO_live]; exact hl)) hvi hvj hg
  blkOk := fun i o v g hi hl hv hg => by
    obtain ⟨O, h1, h2⟩ := hr.ent i o hi
    exact h.blkOk (f i) O v g h1 (h2.live (by rw [renO_live]; exact hl)) hv hg
  prov := fun i o v g hi hl hv hg => by
    obtain ⟨O, h1, h2⟩ := hr.ent i o hi
    exact h.prov (f i) O v g h1 (h2.live (by rw [renO_live]; exact hl)) hv hg
  nn := fun i o v hi hs hv => by
    obtain ⟨O, h1, h2⟩ := hr.ent i o hi
    exact h.nn (f i) O v h1 (h2.isSl (by rw [renO_isSl]; exact hs)) hv

/-- A part of a heap, by its own numbers, as the start of a run of its own. -/
theorem Rel.down (h : Rel B X ρ hp n w) {m nb : Nat} (hnb : nb ≤ m) (hr : Renum hp f hp') (hfresh : ∀ i, m ≤ i → n ≤ f i) : Rel w (ownOf (fun i => ρ (f i)) hp' nb) (fun i => ρ (f i)) hp' m w where
  os := rfl
  tape := rfl
  out := rfl
  size := Nat.le_refl _
  old := fun _ _ _ => rfl
  nbLe := hnb
  agree := fun i hi => (if_pos hi).symm
  fresh := fun i hi => h.fresh _ (hfresh i hi)
  one := fun i v hv => h.one _ v hv
  obj := fun j o hj => by
    obtain ⟨O, h1, h2⟩ := hr.ent j o hj
    obtain ⟨v, hv, hok⟩ := h.obj _ O h1
    exact ⟨v, hv, okObj.ren.2 (hok.sub h2 fun ho g hg => .inr ⟨j, o, v, hj, by rw [renO_owns] at ho; exact ho, hv, hg⟩)⟩
  sep := fun i j oi oj vi vj g hij hi hj ho hl hvi hvj hg => by
    obtain ⟨Oi, h1, h2⟩ := hr.ent i oi hi
    obtain ⟨Oj, h3, h4⟩ := hr.ent j oj hj
    exact h.sep (f i) (f j) Oi Oj vi vj g (hr.inj i j oi oj hi hj hij ho hl) h1 h3 (h2.owns (by rw [renO_owns]; exact ho)) (h4.live (by rw [renO_live]; exact hl)) hvi hvj hg
  blkOk := fun i o v g hi hl hv hg => by
    obtain ⟨O, h1, h2⟩ := hr.ent i o hi
    exact h.blkOk (f i) O v g h1 (h2.live (by rw [renO_live]; exact hl)) hv hg
  prov := fun i o v g hi hl hv hg => .inr (.inr ⟨i, o, v, hi, hl, hv, hg⟩)
  nn := fun i o v hi hs hv => by
    obtain ⟨O, h1, h2⟩ := hr.ent i o hi
    exact h.nn (f i) O v h1 (h2.isSl (by rw [renO_isSl]; exact hs)) hv

def upHp (f : Nat → Nat) : Hp C → Hp C
  | [] => []
  | (j, o) :: r => (f j, renO f o) :: upHp f r
theorem find_up {f : Nat → Nat} {x : Nat} : ∀ {H : Hp C} {O : SO C}, find x (upHp f H) = some O → ∃ j o, find j H = some o ∧ f j = x ∧ O = renO f o
  | (j, o) :: r, O, h => by
    unfold upHp at h
    rw [find_cons] at h
    split at h
    · rename_i e; cases h; exact ⟨j, o, by rw [find_cons, if_pos rfl], e.symm, rfl⟩
    · rename_i e
      obtain ⟨j', o', h1, h2, h3⟩ := find_up h
      have hne : j' ≠ j := fun e' => e (by rw [← e', h2])
      exact ⟨j', o', by rw [find_cons, if_neg hne]; exact h1, h2, h3⟩
theorem up_some {f : Nat → Nat} {j : Nat} : ∀ {H : Hp C} {o : SO C}, find j H = some o → ∃ O, find (f j) (upHp f H) = some O
  | (i, o) :: r, O, h => by
    unfold upHp
    rw [find_cons]
    split
    · exact ⟨_, rfl⟩
    · rename_i hne
      rw [find_cons] at h
      split at h
      · rename_i e; subst e; exact absurd rfl hne
      · exact up_some h

/-- What a run of its own leaves, laid back. -/
def backA (ρ ρ1 : Asg) (n m : Nat) : Asg := fun x => if x < n then ρ x else ρ1 (x - n + m)
theorem Rel.up (h : Rel B X ρ hp n w) {fd fu : Nat → Nat} {m : Nat} (hr : Renum hp fd hp') (hfu : ∀ j, m ≤ j → fu j = n + (j - m)) (hfb : ∀ j, j < m → fu j = fd j ∧ fd j < n)
    {hpG : Hp C} (hG : ∀ x O, find x hpG = some O → find x hp = some O ∨ (O = .gone ∧ ∃ O', find x hp = some O'))
    {ρ1 : Asg} {hp1 : Hp C} {n1 : Nat} {w1 : World} (h1 : Rel w (ownOf (fun i => ρ (fd i)) hp' m) ρ1 hp1 n1 w1)
    (hex : ∀ j o, find j hp1 = some o → (j < m → ∃ o0, find j hp' = some o0 ∧ (o.owns = true → o0.owns = true) ∧ (o.live = true → o0.live = true)) ∧ (m ≤ j → o.owns = true ∨ o.live = false))
    (hall : ∀ j o, find j hp' = some o → o.owns = true → (j < m ∧ ∃ o1, find j hp1 = some o1) ∨ find (fd j) hpG = some .gone) :
    Rel B X (backA ρ ρ1 n m) (upHp fu hp1 ++ hpG) (n + (n1 - m)) w1 ∧ ρ.le (backA ρ ρ1 n m) ∧ ∀ j, backA ρ ρ1 n m (fu j) = ρ1 j := by
  have hmn : m ≤ n1 := h1.nbLe
  have e1 : ∀ j, backA ρ ρ1 n m (fu j) = ρ1 j := fun j => by
    unfold backA
    by_cases hj : j < m
    · rw [(hfb j hj).1, if_pos (hfb j hj).2, h1.agree j hj]
      exact (if_pos hj).symm
    · rw [if_neg (by rw [hfu j (by omega)]; omega), hfu j (by omega)]
      congr 1; omega
  have le0 : ρ.le (backA ρ ρ1 n m) := fun i v hv => by
    unfold backA
    have : i < n := by
      by_cases hlt : i < n
      · exact hlt
      · rw [h.fresh i (by omega)] at hv; cases hv
    rw [if_pos this]; exact hv
  have low : ∀ x o v, find x hp = some o → backA ρ ρ1 n m x = some v → ρ x = some v := fun x o v hx hv => by
    obtain ⟨v', hv', _⟩ := h.obj x o hx
    have := le0 _ _ hv'
    rw [hv] at this; cases this; exact hv'
  have part : ∀ x O, find x (upHp fu hp1 ++ hpG) = some O → (∃ j o, find j hp1 = some o ∧ fu j = x ∧ O = renO fu o) ∨ (find x hp = some O ∧ ∀ j o, find j hp' = some o → o.owns = true → fd j ≠ x) ∨ (O = .gone ∧ ∃ O', find x hp = some O') := fun x O hx => by
    rw [find_append] at hx
    split at hx
    · rename_i o' ho'; cases hx; exact .inl (find_up ho')
    · rename_i hno
      rcases hG x O hx with hG' | hG'
      · by_cases hg : O = .gone
        · exact .inr (.inr ⟨hg, O, hG'⟩)
        · refine .inr (.inl ⟨hG', fun j o hj ho e => ?_⟩)
          rcases hall j o hj ho with ⟨hlt, o1, ho1⟩ | hgone
          · obtain ⟨O', hO'⟩ := up_some (f := fu) ho1
            rw [(hfb j hlt).1, e, hno] at hO'; cases hO'
          · rw [e, hx] at hgone; cases hgone; exact hg rfl
      · exact .inr (.inr hG')
  -- who owns a block of the part
  have wrOld : ∀ {g}, (ownOf (fun i => ρ (fd i)) hp' m).wr g → ∃ j o O v, find j hp' = some o ∧ o.owns = true ∧ find (fd j) hp = some O ∧ O.owns = true ∧ ρ (fd j) = some v ∧ blk v = some g := fun {g} hg => by
    obtain ⟨j, o, v, hj, ho, hv, hb⟩ := hg
    obtain ⟨O, h2, h3⟩ := hr.ent j o hj
    exact ⟨j, o, O, v, hj, ho, h2, h3.owns (by rw [renO_owns]; exact ho), hv, hb⟩
  have wrB : ∀ {g}, (ownOf (fun i => ρ (fd i)) hp' m).wr g → okB B X g := fun {g} hg => by
    obtain ⟨j, o, O, v, _, _, h2, h3, hv, hb⟩ := wrOld hg
    exact h.okOwn h2 h3 hv hb
  have okb : ∀ g, okB w (ownOf (fun i => ρ (fd i)) hp' m) g → okB B X g := fun g hg => by
    rcases hg with hg | hg
    · exact .inl (Nat.le_trans h.size hg)
    · exact wrB hg
  have val0 : ∀ {j v}, j < m → ρ1 j = some v → ρ (fd j) = some v := fun {j v} hlt hv => by
    have := h1.agree j hlt
    rw [hv] at this
    have e : (ownOf (fun i => ρ (fd i)) hp' m).ba j = ρ (fd j) := if_pos hlt
    rw [e] at this
    exact this.symm
  have blk1 : ∀ {j o v g}, find j hp1 = some o → o.owns = true → ρ1 j = some v → blk v = some g → okB w (ownOf (fun i => ρ (fd i)) hp' m) g := fun {j o v g} hj hl hv hb => by
    by_cases hlt : j < m
    · obtain ⟨o0, h2, h3, _⟩ := (hex j o hj).1 hlt
      exact .inr ⟨j, o0, v, h2, h3 hl, val0 hlt hv, hb⟩
    · exact h1.okOwn hj hl hv hb
  have blk2 : ∀ {j o v g}, find j hp1 = some o → o.live = true → ρ1 j = some v → blk v = some g → okB w (ownOf (fun i => ρ (fd i)) hp' m) g ∨ (j < m ∧ ∃ O, find (fd j) hp = some O ∧ O.live = true ∧ ρ (fd j) = some v) := fun {j o v g} hj hl hv hb => by
    by_cases hlt : j < m
    · obtain ⟨o0, h2, _, h3⟩ := (hex j o hj).1 hlt
      obtain ⟨O, h4, h5⟩ := hr.ent j o0 h2
      exact .inr ⟨hlt, O, h4, h5.live (by rw [renO_live]; exact h3 hl), val0 hlt hv⟩
    · exact .inl (h1.okOwn hj (((hex j o hj).2 (by omega)).elim id fun h => by rw [h] at hl; cases hl) hv hb)
  have hid : ∀ {x O v g}, find x hp = some O → (∀ j o, find j hp' = some o → o.owns = true → fd j ≠ x) → O.live = true → ρ x = some v → blk v = some g → w1.heap[g]? = w.heap[g]? ∧ ¬ okB w (ownOf (fun i => ρ (fd i)) hp' m) g := fun {x O v g} hx hno hl hv hb => by
    have hlt := h.blkOk x O v g hx hl hv hb
    have hnw : ¬ (ownOf (fun i => ρ (fd i)) hp' m).wr g := fun hg => by
      obtain ⟨j, o, O', v', hj, ho, h2, h3, hv', hb'⟩ := wrOld hg
      exact h.sep (fd j) x O' O v' v g (hno j o hj ho) h2 hx h3 hl hv' hv hb' hb
    refine ⟨h1.old g hlt hnw, fun hg => ?_⟩
    rcases hg with hg | hg
    · omega
    · exact hnw hg
  refine ⟨?_, le0, e1⟩
  exact {
    os := h1.os.trans h.os, tape := h1.tape.trans h.tape, out := h1.out.trans h.out, size := Nat.le_trans h.size h1.size
    old := fun b hb hx => by
      rw [← h.old b hb hx]
      refine h1.old b (Nat.lt_of_lt_of_le hb h.size) fun hg => ?_
      rcases wrB hg with h' | h'
      · omega
      · exact hx h'
    nbLe := Nat.le_trans h.nbLe (Nat.le_add_right _ _)
    agree := fun i hi => by
      have := h.nbLe
      unfold backA; rw [if_pos (by omega)]; exact h.agree i hi
    fresh := fun i hi => by
      unfold backA; rw [if_neg (by omega)]; exact h1.fresh _ (by omega)
    one := fun i v hv => by
      unfold backA at hv
      split at hv
      · exact h.one i v hv
      · exact h1.one _ v hv
    obj := fun x O hx => by
      rcases part x O hx with ⟨j, o, hj, rfl, rfl⟩ | ⟨hx, hno⟩ | ⟨rfl, O', hx⟩
      · obtain ⟨v, hv, hok⟩ := h1.obj j o hj
        refine ⟨v, by rw [e1]; exact hv, ?_⟩
        have hok' : okObj (fun i => backA ρ ρ1 n m (fu i)) w1 (okB w (ownOf (fun i => ρ (fd i)) hp' m)) v o := by
          have : (fun i => backA ρ ρ1 n m (fu i)) = ρ1 := funext e1
          rw [this]; exact hok
        exact (okObj.ren.1 hok').sub (subO.refl _) fun ho g hg => okb g (h1.okOwn hj (by rw [renO_owns] at ho; exact ho) hv hg)
      · obtain ⟨v, hv, hok⟩ := h.obj x O hx
        exact ⟨v, le0 _ _ hv, hok.keep le0 fun hl g hg => (hid hx hno hl hv hg).1⟩
      · obtain ⟨v, hv, _⟩ := h.obj x O' hx
        exact ⟨v, le0 _ _ hv, trivial⟩
    sep := fun i j oi oj vi vj g hij hi hj ho hl hvi hvj hg => by
      rcases part i oi hi with ⟨i', oi', hi', rfl, rfl⟩ | ⟨hi', hino⟩ | ⟨rfl, _⟩ <;> rcases part j oj hj with ⟨j', oj', hj', rfl, rfl⟩ | ⟨hj', hjno⟩ | ⟨rfl, _⟩
      · rw [e1] at hvi hvj
        rw [renO_owns] at ho; rw [renO_live] at hl
        exact h1.sep i' j' oi' oj' vi vj g (fun e => hij (by rw [e])) hi' hj' ho hl hvi hvj hg
      · intro hgj
        rw [e1] at hvi
        rw [renO_owns] at ho
        exact (hid hj' hjno hl (low _ _ _ hj' hvj) hgj).2 (blk1 hi' ho hvi hg)
      · simp [SO.live] at hl
      · intro hgj
        rw [e1] at hvj
        rw [renO_live] at hl
        rcases blk2 hj' hl hvj hgj with hb | ⟨hlt, O, h2, h3, h4⟩
        · exact (hid hi' hino (live_of_owns ho) (low _ _ _ hi' hvi) hg).2 hb
        · exact h.sep i (fd j') oi O vi vj g (fun e => hij (by rw [e, (hfb j' hlt).1])) hi' h2 ho h3 (low _ _ _ hi' hvi) h4 hg hgj
      · exact h.sep i j oi oj vi vj g hij hi' hj' ho hl (low _ _ _ hi' hvi) (low _ _ _ hj' hvj) hg
      · simp [SO.live] at hl
      all_goals simp [SO.owns] at ho
    blkOk := fun i o v g hi hl hv hg => by
      rcases part i o hi with ⟨i', oi', hi', rfl, rfl⟩ | ⟨hi', _⟩ | ⟨rfl, _⟩
      · rw [e1] at hv; rw [renO_live] at hl
        exact h1.blkOk i' oi' v g hi' hl hv hg
      · exact Nat.lt_of_lt_of_le (h.blkOk i o v g hi' hl (low _ _ _ hi' hv) hg) h1.size
      · simp [SO.live] at hl
    prov := fun i o v g hi hl hv hg => by
      rcases part i o hi with ⟨i', oi', hi', rfl, rfl⟩ | ⟨hi', _⟩ | ⟨rfl, _⟩
      · rw [e1] at hv; rw [renO_live] at hl
        rcases blk2 hi' hl hv hg with hb | ⟨_, O, h2, h3, h4⟩
        · exact (okb g hb).view
        · exact h.prov _ O v g h2 h3 h4 hg
      · exact h.prov i o v g hi' hl (low _ _ _ hi' hv) hg
      · simp [SO.live] at hl
    nn := fun i o v hi hs hv => by
      rcases part i o hi with ⟨i', oi', hi', rfl, rfl⟩ | ⟨hi', _⟩ | ⟨rfl, _⟩
      · rw [e1] at hv; rw [renO_isSl] at hs
        exact h1.nn i' oi' v hi' hs hv
      · exact h.nn i o v hi' hs (low _ _ _ hi' hv)
      · simp [SO.isSl] at hs }
end rel
end
end Go.Sx
