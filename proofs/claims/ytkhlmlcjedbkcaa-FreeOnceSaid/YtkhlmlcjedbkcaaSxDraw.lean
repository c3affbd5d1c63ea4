/-
  The symbolic evaluator: regions whose order is drawn. Own work; nothing here is trusted.
-/
import Derived.Test.YtkhlmlcjedbkcaaSxLoop
import Derived.Orders
namespace Go.Sx
noncomputable section
open Go.RowKit

variable {C : Tab} {P : Program} {R : Type}

/-! ### A part of a heap, and what is put back. -/
def cut (ρ : Asg) (m : Nat) : Asg := fun i => if i < m then ρ i else none
theorem cut_le (ρ : Asg) (m : Nat) : (cut ρ m).le ρ := fun i v h => by
  unfold cut at h
  split at h
  · exact h
  · cases h
theorem cut_mono {ρ : Asg} {m m' : Nat} (h : m ≤ m') : (cut ρ m).le (cut ρ m') := fun i v hi => by
  unfold cut at hi ⊢
  split at hi
  · rw [if_pos (by omega)]; exact hi
  · cases hi
theorem cut_some {ρ : Asg} {m i : Nat} {v : Value} (h : ρ i = some v) (hi : i < m) : cut ρ m i = some v := by
  unfold cut; rw [if_pos hi]; exact h

def denO (ρ : Asg) : SO C → Prop
  | .box cs _ => ∃ vs, denL ρ cs = some vs
  | .mv _ _ _ _ cs => ∃ vs, denL ρ cs = some vs
  | _ => True
theorem denO_mono {ρ ρ' : Asg} (h : ρ.le ρ') {o : SO C} (ho : denO ρ o) : denO ρ' o := by
  cases o with
  | box cs t => obtain ⟨vs, hv⟩ := ho; exact ⟨vs, denL_mono h _ _ hv⟩
  | mv k ag vt ks cs => obtain ⟨vs, hv⟩ := ho; exact ⟨vs, denL_mono h _ _ hv⟩
  | _ => trivial
theorem okObj.toDen {ρ : Asg} {w : World} {okb : Nat → Prop} {v : Value} {o : SO C} (h : okObj ρ w okb v o) : denO ρ o := by
  cases o with
  | box cs t => obtain ⟨g, vs, _, _, hv, _⟩ := h; exact ⟨vs, hv⟩
  | mv k ag vt ks cs => obtain ⟨g, es, clock, vs, _, _, hv, _⟩ := h; exact ⟨vs, hv⟩
  | _ => trivial

def ownOf (ρ : Asg) (U : Hp C) (lo : Nat) : Own :=
  ⟨fun g => ∃ x o v, find x U = some o ∧ o.owns = true ∧ ρ x = some v ∧ blk v = some g, fun g => ∃ x o v, find x U = some o ∧ o.live = true ∧ ρ x = some v ∧ blk v = some g, cut ρ lo, lo⟩

def mergeA (ρ ρ1 : Asg) (lo hi : Nat) : Asg := fun x => if lo ≤ x ∧ x < hi then ρ1 x else ρ x

theorem live_of_owns {o : SO C} (h : o.owns = true) : o.live = true := by cases o <;> simp [SO.owns] at h <;> rfl

section parts
variable {B : World} {X : Own} {ρ ρ1 : Asg} {H U δ H' : Hp C} {nF lo hi : Nat} {w w1 : World}

/-- The block behind an owner is one that may be written. -/
theorem Rel.okOwn (h : Rel B X ρ H nF w) {x : Nat} {o : SO C} {v : Value} {g : Nat} (hx : find x H = some o) (ho : o.owns = true) (hv : ρ x = some v) (hg : blk v = some g) : okB B X g := by
  obtain ⟨v', hv', hok⟩ := h.obj x o hx
  rw [hv] at hv'; cases hv'
  cases o with
  | box cs t => obtain ⟨g', vs, rfl, h1, _⟩ := hok; simp [blk] at hg; subst hg; exact h1
  | sl own full e ts =>
    simp only [SO.owns] at ho; subst ho
    obtain ⟨a, cap, rfl, _, _, h3⟩ := hok
    obtain ⟨g', rfl, h4⟩ := h3.block
    simp [blk] at hg; subst hg; exact h4
  | mp k vt m => obtain ⟨g', es, clock, rfl, h1, _⟩ := hok; simp [blk] at hg; subst hg; exact h1
  | mv k ag vt ks vs => obtain ⟨g', es, clock, us, rfl, h1, _⟩ := hok; simp [blk] at hg; subst hg; exact h1
  | gone => simp [SO.owns] at ho

def Within (ρ : Asg) (H U : Hp C) (lo : Nat) : Prop := ∀ x o, find x U = some o → find x H = some o ∧ x < lo ∧ denO (cut ρ lo) o

theorem okObj.part {ρ ρ' : Asg} {w : World} {okb okb' : Nat → Prop} {v : Value} {o : SO C} (h : okObj ρ w okb v o) (hd : denO ρ' o) (hle : ρ'.le ρ)
    (hb : o.owns = true → ∀ g, blk v = some g → okb' g) : okObj ρ' w okb' v o := by
  cases o with
  | box cs t =>
    obtain ⟨g, vs, rfl, h1, h2, h3⟩ := h
    obtain ⟨vs', hv'⟩ := hd
    have := denL_mono hle _ _ hv'
    rw [h2] at this; cases this
    exact ⟨g, vs, rfl, hb rfl g rfl, hv', h3⟩
  | sl own full e ts =>
    obtain ⟨a, cap, rfl, h1, h2, h3⟩ := h
    refine ⟨a, cap, rfl, h1, h2, ?_⟩
    cases own with
    | true =>
      exact h3.to (fun g hg _ => hb rfl g (by subst hg; rfl)) (fun _ _ => rfl)
    | false => exact h3
  | mp k vt m => obtain ⟨g, es, clock, rfl, h1, h2⟩ := h; exact ⟨g, es, clock, rfl, hb rfl g rfl, h2⟩
  | mv k ag vt ks vs =>
    obtain ⟨g, es, clock, us, rfl, h1, h2, h3⟩ := h
    obtain ⟨vs', hv'⟩ := hd
    have := denL_mono hle _ _ hv'
    rw [h2] at this; cases this
    exact ⟨g, es, clock, us, rfl, hb rfl g rfl, hv', h3⟩
  | gone => trivial

theorem Rel.restrict (h : Rel B X ρ H nF w) (hU : Within ρ H U lo) : Rel w (ownOf ρ U lo) (cut ρ lo) U lo w where
  os := rfl
  tape := rfl
  out := rfl
  size := Nat.le_refl _
  old := fun _ _ _ => rfl
  nbLe := Nat.le_refl _
  agree := fun _ _ => rfl
  fresh := fun i hi => by unfold cut; rw [if_neg (by omega)]
  one := fun i v hi => h.one i v (cut_le _ _ i v hi)
  obj := fun x o hx => by
    obtain ⟨h1, h2, h3⟩ := hU x o hx
    obtain ⟨v, hv, hok⟩ := h.obj x o h1
    exact ⟨v, cut_some hv h2, hok.part h3 (cut_le _ _) fun ho g hg => .inr ⟨x, o, v, hx, ho, hv, hg⟩⟩
  sep := fun i j oi oj vi vj g hij hi hj ho hl hvi hvj hg => h.sep i j oi oj vi vj g hij (hU i oi hi).1 (hU j oj hj).1 ho hl (cut_le _ _ _ _ hvi) (cut_le _ _ _ _ hvj) hg
  blkOk := fun i o v g hi hl hv hg => h.blkOk i o v g (hU i o hi).1 hl (cut_le _ _ _ _ hv) hg
  prov := fun i o v g hi hl hv hg => .inr (.inr ⟨i, o, v, hi, hl, cut_le _ _ _ _ hv, hg⟩)
  nn := fun i o v hi hs hv => h.nn i o v (hU i o hi).1 hs (cut_le _ _ _ _ hv)

theorem Rel.merge (h : Rel B X ρ H nF w) (hU : Within ρ H U lo) (h1 : Rel w (ownOf ρ U lo) ρ1 (δ ++ U) hi w1) (hlh : lo ≤ hi) (hhn : hi ≤ nF) (hno : ∀ x, lo ≤ x → x < hi → ρ x = none) (hnb : X.nb ≤ lo)
    (hd : ∀ x o, find x δ = some o → find x H' = some o) (hn : ∀ x, find x δ = none → find x H' = find x H) (happ : ∀ x, find x (δ ++ U) = match find x δ with | some o => some o | none => find x U) :
    Rel B X (mergeA ρ ρ1 lo hi) H' nF w1 ∧ ρ1 = cut (mergeA ρ ρ1 lo hi) hi ∧ ρ.le (mergeA ρ ρ1 lo hi) := by
  have e1 : ρ1 = cut (mergeA ρ ρ1 lo hi) hi := by
    funext x
    unfold cut mergeA
    by_cases hx : x < hi
    · rw [if_pos hx]
      by_cases hl : lo ≤ x
      · rw [if_pos ⟨hl, hx⟩]
      · rw [if_neg (by omega), h1.agree x (show x < lo by omega)]
        show cut ρ lo x = ρ x
        unfold cut; rw [if_pos (by omega)]
    · rw [if_neg hx]; exact h1.fresh x (by omega)
  have le1 : ρ1.le (mergeA ρ ρ1 lo hi) := by intro i v hv; rw [e1] at hv; exact cut_le _ _ _ _ hv
  have le0 : ρ.le (mergeA ρ ρ1 lo hi) := fun i v hv => by
    unfold mergeA
    split
    · rename_i hi'; rw [hno i hi'.1 hi'.2] at hv; cases hv
    · exact hv
  -- an entry of the new heap: either of the step's own answer, or hidden from it
  have part : ∀ x o, find x H' = some o → find x (δ ++ U) = some o ∨ (find x δ = none ∧ find x U = none ∧ find x H = some o) := fun x o hx => by
    rw [happ]
    cases hδ : find x δ with
    | some o' => rw [hd x o' hδ] at hx; cases hx; exact .inl rfl
    | none =>
      rw [hn x hδ] at hx
      cases hu : find x U with
      | some o' => have := (hU x o' hu).1; rw [hx] at this; cases this; exact .inl rfl
      | none => exact .inr ⟨rfl, rfl, hx⟩
  have val1 : ∀ x o, find x (δ ++ U) = some o → ∃ v, ρ1 x = some v := fun x o hx => by obtain ⟨v, hv, _⟩ := h1.obj x o hx; exact ⟨v, hv⟩
  have back1 : ∀ x o v, find x (δ ++ U) = some o → mergeA ρ ρ1 lo hi x = some v → ρ1 x = some v := fun x o v hx hv => by
    obtain ⟨v', hv'⟩ := val1 x o hx
    have := le1 _ _ hv'
    rw [hv] at this; cases this; exact hv'
  have back0 : ∀ x o v, find x H = some o → mergeA ρ ρ1 lo hi x = some v → ρ x = some v := fun x o v hx hv => by
    obtain ⟨v', hv', _⟩ := h.obj x o hx
    have := le0 _ _ hv'
    rw [hv] at this; cases this; exact hv'
  have ownU : ∀ {x o v g}, find x U = some o → o.owns = true → ρ x = some v → blk v = some g → okB B X g := fun hx ho hv hg => h.okOwn (hU _ _ hx).1 ho hv hg
  have okb : ∀ g, okB w (ownOf ρ U lo) g → okB B X g := fun g hg => by
    rcases hg with hg | ⟨x, o, v, hx, ho, hv, hg⟩
    · exact .inl (Nat.le_trans h.size hg)
    · exact ownU hx ho hv hg
  have okv : ∀ g, okV w (ownOf ρ U lo) g → okV B X g := fun g hg => by
    rcases hg with hg | ⟨x, o, v, hx, ho, hv, hg⟩ | ⟨x, o, v, hx, hl, hv, hg⟩
    · exact .inl (Nat.le_trans h.size hg)
    · exact (ownU hx ho hv hg).view
    · exact h.prov x o v g (hU x o hx).1 hl hv hg
  -- a hidden entry's block stands
  have hid : ∀ x o v g, find x U = none → find x H = some o → o.live = true → ρ x = some v → blk v = some g → w1.heap[g]? = w.heap[g]? := fun x o v g hxu hx hl hv hg => by
    refine h1.old g (h.blkOk x o v g hx hl hv hg) ?_
    rintro ⟨y, oy, vy, hy, hoy, hvy, hgy⟩
    have hyx : y ≠ x := fun e => by subst e; rw [hxu] at hy; cases hy
    exact h.sep y x oy o vy v g hyx (hU y oy hy).1 hx hoy hl hvy hv hgy hg
  refine ⟨?_, e1, le0⟩
  exact {
    os := h1.os.trans h.os, tape := h1.tape.trans h.tape, out := h1.out.trans h.out, size := Nat.le_trans h.size h1.size
    old := fun b hb hx => by
      rw [← h.old b hb hx]
      refine h1.old b (Nat.lt_of_lt_of_le hb h.size) ?_
      rintro ⟨y, oy, vy, hy, hoy, hvy, hgy⟩
      rcases ownU hy hoy hvy hgy with h' | h'
      · omega
      · exact hx h'
    nbLe := h.nbLe
    agree := fun i hi' => by
      unfold mergeA; rw [if_neg (by omega)]; exact h.agree i hi'
    fresh := fun i hi' => by
      unfold mergeA; rw [if_neg (by omega)]; exact h.fresh i hi'
    one := fun i v hv => by
      unfold mergeA at hv
      split at hv
      · exact h1.one i v hv
      · exact h.one i v hv
    obj := fun x o hx => by
      rcases part x o hx with hx | ⟨hxδ, hxu, hx⟩
      · obtain ⟨v, hv, hok⟩ := h1.obj x o hx
        refine ⟨v, le1 _ _ hv, ?_⟩
        have := hok.keep le1 (fun _ _ _ => rfl)
        exact this.part this.toDen (Asg.le_refl _) fun ho g hg => okb g (h1.okOwn hx ho hv hg)
      · obtain ⟨v, hv, hok⟩ := h.obj x o hx
        exact ⟨v, le0 _ _ hv, hok.keep le0 fun hl g hg => hid x o v g hxu hx hl hv hg⟩
    sep := fun i j oi oj vi vj g hij hi' hj ho hl hvi hvj hg => by
      rcases part i oi hi' with hi' | ⟨hiδ, hiu, hi'⟩ <;> rcases part j oj hj with hj | ⟨hjδ, hju, hj⟩
      · exact h1.sep i j oi oj vi vj g hij hi' hj ho hl (back1 _ _ _ hi' hvi) (back1 _ _ _ hj hvj) hg
      · intro hgj
        have hvj' := back0 _ _ _ hj hvj
        have hlt := h.blkOk j oj vj g hj hl hvj' hgj
        rcases h1.okOwn hi' ho (back1 _ _ _ hi' hvi) hg with hb | ⟨y, oy, vy, hy, hoy, hvy, hgy⟩
        · omega
        · have hyj : y ≠ j := fun e => by subst e; rw [hju] at hy; cases hy
          exact h.sep y j oy oj vy vj g hyj (hU y oy hy).1 hj hoy hl hvy hvj' hgy hgj
      · intro hgj
        have hvi' := back0 _ _ _ hi' hvi
        have hlt := h.blkOk i oi vi g hi' (live_of_owns ho) hvi' hg
        rcases h1.prov j oj vj g hj hl (back1 _ _ _ hj hvj) hgj with hb | ⟨y, oy, vy, hy, hoy, hvy, hgy⟩ | ⟨y, oy, vy, hy, hly, hvy, hgy⟩
        · omega
        · have hyi : y ≠ i := fun e => by subst e; rw [hiu] at hy; cases hy
          exact h.sep y i oy oi vy vi g hyi (hU y oy hy).1 hi' hoy (live_of_owns ho) hvy hvi' hgy hg
        · have hyi : i ≠ y := fun e => by subst e; rw [hiu] at hy; cases hy
          exact h.sep i y oi oy vi vy g hyi hi' (hU y oy hy).1 ho hly hvi' hvy hg hgy
      · exact h.sep i j oi oj vi vj g hij hi' hj ho hl (back0 _ _ _ hi' hvi) (back0 _ _ _ hj hvj) hg
    blkOk := fun i o v g hi' hl hv hg => by
      rcases part i o hi' with hi' | ⟨_, _, hi'⟩
      · exact h1.blkOk i o v g hi' hl (back1 _ _ _ hi' hv) hg
      · exact Nat.lt_of_lt_of_le (h.blkOk i o v g hi' hl (back0 _ _ _ hi' hv) hg) h1.size
    prov := fun i o v g hi' hl hv hg => by
      rcases part i o hi' with hi' | ⟨_, _, hi'⟩
      · exact okv g (h1.prov i o v g hi' hl (back1 _ _ _ hi' hv) hg)
      · exact h.prov i o v g hi' hl (back0 _ _ _ hi' hv) hg
    nn := fun i o v hi' hs hv => by
      rcases part i o hi' with hi' | ⟨_, _, hi'⟩
      · exact h1.nn i o v hi' hs (back1 _ _ _ hi' hv)
      · exact h.nn i o v hi' hs (back0 _ _ _ hi' hv) }
end parts
end
end Go.Sx
