/-
  The symbolic evaluator: owned slices laid open, parts of them made slices of their own; functions that take their slices over. Own work; nothing here is trusted.
-/
import Derived.Test.YtkhlmlcjedbkcaaSxFn
import Derived.Test.YtkhlmlcjedbkcaaSxRound
namespace Go.Sx
noncomputable section
open Go.RowKit

variable {C : Tab} {P : Program} {R : Type}

section rel
variable {B : World} {X : Own} {ρ : Asg} {hp : Hp C} {n : Nat} {w : World}

/-- Another handle to what one owner has, the owner given up. -/
theorem Rel.swap (R : Rel B X ρ hp n w) {id : Nat} {o o' : SO C} {v v' : Value} (hi : find id hp = some o) (hv : ρ id = some v) (hown : o.owns = true) (hone : v'.oneCell' = true) (hb : ∀ g, blk v' = some g → blk v = some g)
    (hok : okObj ρ w (okB B X) v' o') (hnn : o'.isSl = true → nnV v' = true) : Rel B X (ρ.add n v') ((n, o') :: (id, .gone) :: hp) (n + 1) w := by
  have hl : o.live = true := live_of_owns hown
  have Rg := R.gone id hv
  refine Rg.add hone hok (fun g hg => R.blkOk id _ _ g hi hl hv (hb g hg)) (fun j oj vj g hj hlj hvj hgj hg => ?_) (fun g hg => R.prov id _ _ g hi hl hv (hb g hg)) hnn
  rw [find_cons] at hj
  split at hj
  · simp at hj; subst hj; simp [SO.live] at hlj
  · rename_i hji
    exact absurd hgj (R.sep id j o oj v vj g (Ne.symm hji) hi hj hown hlj hv hvj (hb g hg))

/-- All that an owned slice may hold. -/
theorem Rel.open1 (R : Rel B X ρ hp n w) {id : Nat} {full : Bool} {e : TypeId} {ts : List (C e).α} {v : Value} (hi : find id hp = some (.sl true full e ts)) (hv : ρ id = some v) :
    ∃ tc : List (C e).α, tc.take ts.length = ts ∧ ts.length ≤ tc.length ∧ ∃ u, Rel B X (ρ.add n u) ((n, .sl true true e tc) :: (id, .gone) :: hp) (n + 1) w ∧ den (ρ.add n u) (.vs n (C e).sz 0 0 ts.length none) = some v := by
  obtain ⟨v', hv', a, c, rfl, h1, h2, g, tot, rfl, hok, hheap, hcapt, htake⟩ := R.obj id _ hi
  rw [hv] at hv'; cases hv'
  have hl : (tot.take c).length = c := by rw [List.length_take]; omega
  refine ⟨tot.take c, ?_, by rw [hl]; exact h1, .slice (some ⟨g, 0, none⟩) c c, ?_, ?_⟩
  · rw [List.take_take, Nat.min_eq_left h1]; exact htake
  · refine R.swap hi hv rfl rfl (fun g' hg' => hg') ⟨_, c, by rw [hl], by rw [hl]; exact Nat.le_refl _, fun _ => hl.symm, g, tot, rfl, hok, hheap, hcapt, by rw [hl]⟩ (fun _ => rfl)
  · simp only [den, Asg.add_self, Option.bind_some, vsV, capO, Nat.zero_mul, Nat.sub_zero, Addr.add_zero, ite_self, show Nat.min 0 0 = 0 from rfl]

def shutB (len tl : Nat) : Option Nat → Bool
  | none => decide (len ≤ tl)
  | some m => decide (len ≤ m) && decide (m ≤ tl)
/-- A part from the first element on, as a slice of its own. -/
theorem Rel.shut (R : Rel B X ρ hp n w) {id bs off len : Nat} {cap : Option Nat} {full : Bool} {e : TypeId} {ts : List (C e).α} {v : Value} (hi : find id hp = some (.sl true full e ts)) (hv : den ρ (.vs id (C e).sz bs off len cap) = some v) (h0 : off = 0) (hs : shutB len ts.length cap = true) :
    Rel B X (ρ.add n v) ((n, .sl true false e (ts.take len)) :: (id, .gone) :: hp) (n + 1) w := by
  subst h0
  obtain ⟨a, c, hid, hc, _, rfl, _⟩ := vs_den R hi hv
  obtain ⟨v', hv', a', c', e1, h1, h2, g, tot, rfl, hok, hheap, hcapt, htake⟩ := R.obj id _ hi
  rw [hid] at hv'; cases hv'
  cases e1
  have ha : (if 0 = c then (⟨g, 0, none⟩ : Addr).add (Nat.min bs 0 * (C e).sz) else (⟨g, 0, none⟩ : Addr).add (0 * (C e).sz)) = ⟨g, 0, none⟩ := by
    rw [show Nat.min bs 0 = 0 from Nat.min_zero _, Nat.zero_mul, Addr.add_zero, ite_self]
  rw [ha]
  have hlen : len ≤ ts.length ∧ len ≤ capO cap (c - 0) ∧ capO cap (c - 0) ≤ c := by
    cases cap with
    | none => have := of_decide_eq_true hs; simp only [capO]; omega
    | some m =>
      simp only [shutB, Bool.and_eq_true, decide_eq_true_eq] at hs
      simp only [capO]; omega
  have hl : (ts.take len).length = len := by rw [List.length_take]; omega
  refine R.swap hi hid rfl rfl (fun g' hg' => hg') ⟨_, capO cap (c - 0), by rw [hl], by rw [hl]; exact hlen.2.1, fun h => (by cases h), g, tot, rfl, hok, hheap, by omega, ?_⟩ (fun _ => rfl)
  rw [hl, ← htake, List.take_take, Nat.min_eq_left hlen.1]
end rel

/-! ### parts made slices of their own, wherever they stand -/
mutual
def shutV {α : Type} : SV → Hp C → Nat → (SV → Hp C → Nat → Tr α) → Tr α
  | .vs id sz bs off len cap, hp, n, k => match find id hp with
    | some (.sl true _ e ts) => match Nat.beq sz (C e).sz with
      | true => .br (Nat.beq off 0) (.br (shutB len ts.length cap) (k (.h n) ((n, .sl true false e (ts.take len)) :: (id, .gone) :: hp) (n + 1)) .fail) (k (.vs id sz bs off len cap) hp n)
      | false => k (.vs id sz bs off len cap) hp n
    | _ => k (.vs id sz bs off len cap) hp n
  | .agg cs, hp, n, k => shutL cs hp n fun cs hp n => k (.agg cs) hp n
  | .tup cs, hp, n, k => shutL cs hp n fun cs hp n => k (.tup cs) hp n
  | .raw v, hp, n, k => k (.raw v) hp n
  | .h i, hp, n, k => k (.h i) hp n
  | .ep i o, hp, n, k => k (.ep i o) hp n
  | .bs i o l c, hp, n, k => k (.bs i o l c) hp n
  | .el i a s j, hp, n, k => k (.el i a s j) hp n
  | .fn g cs, hp, n, k => k (.fn g cs) hp n
def shutL {α : Type} : List SV → Hp C → Nat → (List SV → Hp C → Nat → Tr α) → Tr α
  | [], hp, n, k => k [] hp n
  | v :: r, hp, n, k => shutV v hp n fun v hp n => shutL r hp n fun r hp n => k (v :: r) hp n
end
/-- The same values in the same world. -/
def Same1 (v : SV) (hp : Hp C) (n : Nat) (v' : SV) (hp' : Hp C) (n' : Nat) : Prop :=
  ∀ B X ρ w u, Rel B X ρ hp n w → den ρ v = some u → ∃ ρ', ρ.le ρ' ∧ Rel B X ρ' hp' n' w ∧ den ρ' v' = some u
def SameL (vs : List SV) (hp : Hp C) (n : Nat) (vs' : List SV) (hp' : Hp C) (n' : Nat) : Prop :=
  ∀ B X ρ w us, Rel B X ρ hp n w → denL ρ vs = some us → ∃ ρ', ρ.le ρ' ∧ Rel B X ρ' hp' n' w ∧ denL ρ' vs' = some us
theorem Same1.refl (v : SV) (hp : Hp C) (n : Nat) : Same1 v hp n v hp n := fun _ _ ρ _ _ h hd => ⟨ρ, Asg.le_refl _, h, hd⟩
mutual
theorem shutV_spec {α : Type} {r : α} : ∀ (v : SV) (hp : Hp C) (n : Nat) (k : SV → Hp C → Nat → Tr α), (shutV v hp n k).get = some r → ∃ v' hp' n', (k v' hp' n').get = some r ∧ Same1 v hp n v' hp' n'
  | .vs id sz bs off len cap, hp, n, k, h => by
    unfold shutV at h
    split at h
    · rename_i full e ts hid
      split at h
      · rename_i hsz
        have hsz := Nat.eq_of_beq_eq_true hsz
        subst hsz
        rcases Tr.get_br.1 h with ⟨h0, h⟩ | ⟨_, h⟩
        · obtain ⟨hs, h⟩ := Tr.get_ask.1 h
          refine ⟨_, _, _, h, fun B X ρ w u RR hd => ⟨ρ.add n u, Asg.le_add ρ n u (RR.fresh n (Nat.le_refl _)), RR.shut hid hd (Nat.eq_of_beq_eq_true h0) hs, Asg.add_self ρ n u⟩⟩
        · exact ⟨_, _, _, h, Same1.refl _ _ _⟩
      · exact ⟨_, _, _, h, Same1.refl _ _ _⟩
    · exact ⟨_, _, _, h, Same1.refl _ _ _⟩
  | .agg cs, hp, n, k, h => by
    unfold shutV at h
    obtain ⟨vs', hp', n', h1, h2⟩ := shutL_spec cs hp n _ h
    refine ⟨_, _, _, h1, fun B X ρ w u RR hd => ?_⟩
    simp only [den, Option.map_eq_some_iff] at hd
    obtain ⟨l, hl, rfl⟩ := hd
    obtain ⟨ρ', q1, q2, q3⟩ := h2 B X ρ w l RR hl
    exact ⟨ρ', q1, q2, by simp [den, q3]⟩
  | .tup cs, hp, n, k, h => by
    unfold shutV at h
    obtain ⟨vs', hp', n', h1, h2⟩ := shutL_spec cs hp n _ h
    refine ⟨_, _, _, h1, fun B X ρ w u RR hd => ?_⟩
    simp only [den, Option.map_eq_some_iff] at hd
    obtain ⟨l, hl, rfl⟩ := hd
    obtain ⟨ρ', q1, q2, q3⟩ := h2 B X ρ w l RR hl
    exact ⟨ρ', q1, q2, by simp [den, q3]⟩
  | .raw _, hp, n, k, h => ⟨_, _, _, h, Same1.refl _ _ _⟩
  | .h _, hp, n, k, h => ⟨_, _, _, h, Same1.refl _ _ _⟩
  | .ep _ _, hp, n, k, h => ⟨_, _, _, h, Same1.refl _ _ _⟩
  | .bs _ _ _ _, hp, n, k, h => ⟨_, _, _, h, Same1.refl _ _ _⟩
  | .el _ _ _ _, hp, n, k, h => ⟨_, _, _, h, Same1.refl _ _ _⟩
  | .fn _ _, hp, n, k, h => ⟨_, _, _, h, Same1.refl _ _ _⟩
theorem shutL_spec {α : Type} {r : α} : ∀ (vs : List SV) (hp : Hp C) (n : Nat) (k : List SV → Hp C → Nat → Tr α), (shutL vs hp n k).get = some r → ∃ vs' hp' n', (k vs' hp' n').get = some r ∧ SameL vs hp n vs' hp' n'
  | [], hp, n, k, h => ⟨_, _, _, h, fun _ _ ρ _ _ RR hd => ⟨ρ, Asg.le_refl _, RR, hd⟩⟩
  | v :: vs, hp, n, k, h => by
    unfold shutL at h
    obtain ⟨v', hp1, n1, h1, h2⟩ := shutV_spec v hp n _ h
    obtain ⟨vs', hp2, n2, h3, h4⟩ := shutL_spec vs hp1 n1 _ h1
    refine ⟨_, _, _, h3, fun B X ρ w us RR hd => ?_⟩
    obtain ⟨u, l, d1, d2, rfl⟩ := denL_cons.1 hd
    obtain ⟨ρ1, q1, q2, q3⟩ := h2 B X ρ w u RR d1
    obtain ⟨ρ2, q4, q5, q6⟩ := h4 B X ρ1 w l q2 (denL_mono q1 _ _ d2)
    exact ⟨ρ2, Asg.le_trans q1 q4, q5, denL_cons.2 ⟨u, l, den_mono q4 _ _ q3, q6, rfl⟩⟩
end
/-- .. in boxes. -/
def shutBs {α : Type} : List Nat → Hp C → Nat → (Hp C → Nat → Tr α) → Tr α
  | [], hp, n, k => k hp n
  | i :: r, hp, n, k => match find i hp with
    | some (.box cs _) => shutL cs hp n fun cs hp n => match find i hp with
      | some (.box _ t) => shutBs r ((i, .box cs t) :: hp) n k
      | _ => .fail
    | _ => shutBs r hp n k
theorem shutBs_spec {α : Type} {x : α} : ∀ (l : List Nat) (hp : Hp C) (n : Nat) (k : Hp C → Nat → Tr α), (shutBs l hp n k).get = some x → ∃ hp' n', (k hp' n').get = some x ∧ ∀ B X ρ w, Rel B X ρ hp n w → ∃ ρ', ρ.le ρ' ∧ Rel B X ρ' hp' n' w
  | [], hp, n, k, h => ⟨_, _, h, fun _ _ ρ _ RR => ⟨ρ, Asg.le_refl _, RR⟩⟩
  | i :: r, hp, n, k, h => by
    unfold shutBs at h
    split at h
    · rename_i cs t hi
      obtain ⟨cs', hp1, n1, h1, h2⟩ := shutL_spec cs hp n _ h
      have h1 : (match find i hp1 with
        | some (.box _ t) => shutBs r ((i, .box cs' t) :: hp1) n1 k
        | _ => .fail).get = some x := h1
      split at h1
      · skip
        rename_i x1 x2 cs1 t1 hi1
        obtain ⟨hp2, n2, h3, h4⟩ := shutBs_spec r _ _ k h1
        refine ⟨_, _, h3, fun B X ρ w RR => ?_⟩
        obtain ⟨v, hv, g, us, rfl, q1, q2, q3⟩ := RR.obj i _ hi
        obtain ⟨ρ1, p1, R1, p2⟩ := h2 B X ρ w us RR q2
        obtain ⟨v', hv', g', us', rfl, q4, q5, q6⟩ := R1.obj i _ hi1
        have := p1 _ _ hv
        rw [hv'] at this; cases this
        rw [q3] at q6; cases q6
        have R2 := R1.reobj (o' := .box cs' t) hi1 hv' ⟨g, us, rfl, q4, p2, q3⟩ (fun h => h) (fun h => h)
        obtain ⟨ρ2, p3, R3⟩ := h4 B X ρ1 w R2
        exact ⟨ρ2, Asg.le_trans p1 p3, R3⟩
      · cases h1
    · exact shutBs_spec r hp n k h

/-! ### functions that take their slices over -/
def FnOwn (P : Program) (g : Nat) (args : List SV) (os : List (SO C)) (r : SV × List (SO C)) : Prop :=
  ∀ B X ρ w vals, X.nb = 0 → Rel B X ρ (numH 0 os) os.length w → denL ρ args = some vals →
    (∃ fn, P.funcs[g]? = some fn ∧ fn.body.isSome = true) ∧ Calls P g vals.toArray w fun e w' => ∃ ρ' v, e = .returned v ∧ Rel B X ρ' (numH 0 r.2) r.2.length w' ∧ den ρ' r.1 = some v
def ownS (F : FnF C) : List SV → Hp C → Nat → OT C := fun vs hp n => match noDup (relL vs 0).2, objsN (relL vs 0).2 hp (relL vs 0).2 with
  | true, some os => (F (relL vs 0).1 os).bind fun r => match allOwn r.2 with
    | true => .leaf (renV (fun j => n + j) r.1, numH n r.2 ++ (gonesH (relL vs 0).2 ++ hp), n + r.2.length)
    | false => .fail
  | _, _ => .fail
theorem ownS_ok {g : Nat} {F : FnF C} (hF : ∀ args os r, (F args os).get = some r → FnOwn P g args os r) : ∀ vs hp n x, (ownS F vs hp n).get = some x → FnAns P g vs hp n x := fun vs hp n x h B X ρ w args RR hargs => by
  unfold ownS at h
  split at h
  · rename_i os hnd hos
    obtain ⟨r, h1, h2⟩ := Tr.get_bind h
    split at h2
    · rename_i hown
      simp only [Tr.get, Option.some.injEq] at h2
      subst h2
      obtain ⟨hlen, hat⟩ := objsN_at hos
      generalize hids : (relL vs 0).2 = ids at *
      have hlt : ∀ j i, ids[j]? = some i → i < n ∧ ∃ O, find i hp = some O := fun j i hj => by
        have : j < os.length := by rw [hlen]; exact (List.getElem?_eq_some_iff.1 hj).1
        obtain ⟨i', O, g1, g2, _⟩ := hat j _ (List.getElem?_eq_getElem this)
        rw [hj] at g1; cases g1
        obtain ⟨v, hv, _⟩ := RR.obj i _ g2
        refine ⟨?_, O, g2⟩
        by_cases hlt : i < n
        · exact hlt
        · rw [RR.fresh i (by omega)] at hv; cases hv
      have hfd : ∀ j i, ids[j]? = some i → mapN ids n j = i := fun j i hj => by unfold mapN; rw [hj]
      have hr : Renum hp (mapN ids n) (numH 0 os) := ⟨fun j o hj => by
        obtain ⟨_, g2⟩ := find_num hj
        rw [Nat.sub_zero] at g2
        obtain ⟨i, O, g3, g4, g5⟩ := hat j o g2
        exact ⟨O, by rw [hfd j i g3]; exact g4, by rw [numO_ren hfd g5]; exact subO.refl _⟩, fun i j oi oj hi hj hij _ _ e => by
        obtain ⟨_, g2⟩ := find_num hi
        obtain ⟨_, g4⟩ := find_num hj
        rw [Nat.sub_zero] at g2 g4
        obtain ⟨x, _, g5, _⟩ := hat i oi g2
        obtain ⟨y, _, g6, _⟩ := hat j oj g4
        rw [hfd i x g5, hfd j y g6] at e
        subst e
        obtain ⟨l1, e1⟩ := List.getElem?_eq_some_iff.1 g5
        obtain ⟨l2, e2⟩ := List.getElem?_eq_some_iff.1 g6
        have hp' := List.pairwise_iff_getElem.1 (noDup_spec hnd)
        rcases Nat.lt_trichotomy i j with hl | hl | hl
        · exact hp' _ _ l1 l2 hl (e1.trans e2.symm)
        · exact hij hl
        · exact hp' _ _ l2 l1 hl (e2.trans e1.symm)⟩
      have RD := RR.down (m := os.length) (nb := 0) (Nat.zero_le _) hr (fun i hi => by
        unfold mapN
        rw [List.getElem?_eq_none (by omega)]
        exact Nat.le_add_right _ _)
      have hren : renL (mapN ids n) (relL vs 0).1 = vs := renL_rel _ vs 0 fun i x hx => by
        rw [hids] at hx
        rw [Nat.zero_add]
        unfold mapN; rw [hx]
      have hd : denL (fun i => ρ (mapN ids n i)) (relL vs 0).1 = some args := by rw [denL_ren, hren]; exact hargs
      obtain ⟨g1, g2⟩ := hF _ _ _ h1 w _ _ w args rfl RD hd
      refine ⟨g1, g2.mono ?_⟩
      rintro e w' ⟨ρ1, v, rfl, R1, hv⟩
      obtain ⟨u1, u2, u3⟩ := RR.up (fu := fun j => n + j) (hpG := gonesH ids ++ hp) (m := 0) hr (fun j _ => by omega) (fun j hj => by omega) (fun x O hx => by
          rw [find_append] at hx
          split at hx
          · rename_i o ho
            cases hx
            obtain ⟨q1, q2⟩ := find_gones ho
            obtain ⟨i, hi⟩ := List.mem_iff_getElem?.1 q2
            exact .inr ⟨q1, (hlt i x hi).2⟩
          · exact .inl hx) R1
        (fun j o hj => by
          obtain ⟨g3, g4⟩ := find_num hj
          rw [Nat.sub_zero] at g4
          exact ⟨fun hlt => by omega, fun _ => .inl (isNew_spec (allOwn_at hown _ o g4)).1⟩)
        (fun j o hj ho => by
          obtain ⟨_, g3⟩ := find_num hj
          rw [Nat.sub_zero] at g3
          obtain ⟨i, O, q1, _, _⟩ := hat j o g3
          refine .inr ?_
          rw [hfd j i q1, find_append, gones_find (List.mem_iff_getElem?.2 ⟨j, q1⟩)])
      have hup : ∀ (l : List (SO C)) (k : Nat), allOwn l = true → upHp (fun j => n + j) (numH k l) = numH (n + k) l := by
        intro l
        induction l with
        | nil => intro _ _; rfl
        | cons o l ih =>
          intro k ho
          unfold allOwn at ho
          split at ho
          · rename_i hno
            have := ih (k + 1) ho
            simp only [numH, upHp, this, (isNew_spec hno).2]
            rw [show n + (k + 1) = n + k + 1 by omega]
          · cases ho
      rw [hup r.2 0 hown, Nat.add_zero, Nat.sub_zero] at u1
      exact ⟨_, v, _, _, _, rfl, u2, ⟨by omega, List.suffix_append_of_suffix (List.suffix_append _ _)⟩, by rw [← den_ren]; rw [show (fun i => backA ρ ρ1 n 0 (n + i)) = ρ1 from funext u3]; exact hv, u1, rfl⟩
    · cases h2
  · cases h

/-! ### functions that see parts of slices -/
mutual
def seeV : SV → Nat → SV × List SV
  | .raw v, _ => (.raw v, [])
  | .h i, m => (.h m, [.h i])
  | .vs i s b o l c, m => (.h m, [.vs i s b o l c])
  | .ep i o, m => (.h m, [.ep i o])
  | .bs i o l c, m => (.h m, [.bs i o l c])
  | .el i a s j, m => (.h m, [.el i a s j])
  | .agg cs, m => (.agg (seeL cs m).1, (seeL cs m).2)
  | .tup cs, m => (.tup (seeL cs m).1, (seeL cs m).2)
  | .fn g cs, m => (.fn g (seeL cs m).1, (seeL cs m).2)
def seeL : List SV → Nat → List SV × List SV
  | [], _ => ([], [])
  | v :: r, m => ((seeV v m).1 :: (seeL r (m + (seeV v m).2.length)).1, (seeV v m).2 ++ (seeL r (m + (seeV v m).2.length)).2)
end
mutual
theorem seeV_den {ρ ρ0 : Asg} : ∀ (v : SV) (m : Nat), (∀ i x, (seeV v m).2[i]? = some x → ρ0 (m + i) = den ρ x) → den ρ0 (seeV v m).1 = den ρ v
  | .raw _, _, _ => rfl
  | .h i, m, h => by simpa [seeV, den] using h 0 _ rfl
  | .vs i s b o l c, m, h => by simpa [seeV, den] using h 0 _ rfl
  | .ep i o, m, h => by simpa [seeV, den] using h 0 _ rfl
  | .bs i o l c, m, h => by simpa [seeV, den] using h 0 _ rfl
  | .el i a s j, m, h => by simpa [seeV, den] using h 0 _ rfl
  | .agg cs, m, h => by simp only [seeV, den, seeL_den cs m h]
  | .tup cs, m, h => by simp only [seeV, den, seeL_den cs m h]
  | .fn _ cs, m, h => by simp only [seeV, den, seeL_den cs m h]
theorem seeL_den {ρ ρ0 : Asg} : ∀ (l : List SV) (m : Nat), (∀ i x, (seeL l m).2[i]? = some x → ρ0 (m + i) = den ρ x) → denL ρ0 (seeL l m).1 = denL ρ l
  | [], _, _ => rfl
  | v :: r, m, h => by
    simp only [seeL, denL]
    rw [seeV_den v m fun i x hx => h i x (by
      simp only [seeL]
      rw [List.getElem?_append_left (List.getElem?_eq_some_iff.1 hx).1]; exact hx),
      seeL_den r _ fun i x hx => by
        rw [Nat.add_assoc]
        refine h _ x ?_
        simp only [seeL]
        rw [List.getElem?_append_right (by omega), Nat.add_sub_cancel_left]; exact hx]
end
def capLe (len : Nat) : Option Nat → Bool
  | none => true
  | some m => decide (len ≤ m)
def seeO {α : Type} (hp : Hp C) : List SV → (List (SO C) → Tr α) → Tr α
  | [], k => k []
  | x :: r, k => match x with
    | .h i => match find i hp with
      | some (.sl _ full e ts) => seeO hp r fun os => k (.sl false full e ts :: os)
      | _ => .fail
    | .vs i sz bs off len cap => match find i hp with
      | some (.sl _ _ e ts) => match Nat.beq sz (C e).sz with
        | true => .br (decide (off + len ≤ ts.length) && capLe len cap) (seeO hp r fun os => k (.sl false false e ((ts.drop off).take len) :: os)) .fail
        | false => .fail
      | _ => .fail
    | _ => .fail
/-- What is seen stands as views. -/
structure Seen (ρ : Asg) (w : World) (x : SV) (o : SO C) : Prop where
  ex : ∃ full e ts v, o = .sl false full e ts ∧ den ρ x = some v ∧ nnV v = true ∧ (∀ g, blk v = some g → g < w.heap.size) ∧ v.oneCell' = true ∧ okObj ρ w (fun _ => True) v o
theorem seeO_spec {α : Type} {r : α} : ∀ (xs : List SV) (hp : Hp C) (k : List (SO C) → Tr α), (seeO hp xs k).get = some r → ∃ os, (k os).get = some r ∧ os.length = xs.length ∧
    ∀ B X ρ n w, Rel B X ρ hp n w → (∀ x ∈ xs, ∃ v, den ρ x = some v) → ∀ (i : Nat) (x : SV) (o : SO C), xs[i]? = some x → os[i]? = some o → Seen ρ w x o
  | [], hp, k, h => ⟨[], h, rfl, fun _ _ _ _ _ _ _ i x o hx => by simp at hx⟩
  | x :: xs, hp, k, h => by
    have step : ∀ (o : SO C), (seeO hp xs fun os => k (o :: os)).get = some r → (∀ B X ρ n w, Rel B X ρ hp n w → (∃ v, den ρ x = some v) → Seen ρ w x o) → ∃ os, (k os).get = some r ∧ os.length = (x :: xs).length ∧
        ∀ B X ρ n w, Rel B X ρ hp n w → (∀ y ∈ x :: xs, ∃ v, den ρ y = some v) → ∀ (i : Nat) (y : SV) (o : SO C), (x :: xs)[i]? = some y → os[i]? = some o → Seen ρ w y o := fun o h hs => by
      obtain ⟨os, h1, h2, h3⟩ := seeO_spec xs hp _ h
      refine ⟨o :: os, h1, by simp [h2], fun B X ρ n w RR hd i y o' hy ho => ?_⟩
      match i with
      | 0 => simp at hy ho; subst hy; subst ho; exact hs B X ρ n w RR (hd _ List.mem_cons_self)
      | i + 1 => exact h3 B X ρ n w RR (fun z hz => hd z (List.mem_cons_of_mem _ hz)) i y o' (by simpa using hy) (by simpa using ho)
    unfold seeO at h
    split at h
    · rename_i i
      split at h
      · rename_i own full e ts hi
        refine step _ h fun B X ρ n w RR hd => ?_
        obtain ⟨v, hv⟩ := hd
        have hv0 : ρ i = some v := hv
        obtain ⟨a, c, rfl, h1, h2⟩ := flat_cell RR hi hv0
        obtain ⟨v', hv', a', c', e1, _, h3, _⟩ := RR.obj i _ hi
        rw [hv0] at hv'; cases hv'; cases e1
        exact ⟨full, e, ts, _, rfl, hv, RR.nn i _ _ hi rfl hv0, fun g hg => RR.blkOk i _ _ g hi rfl hv0 hg, rfl, a, c, rfl, h1, h3, h2⟩
      · cases h
    · rename_i i sz bs off len cap
      split at h
      · rename_i own full e ts hi
        split at h
        · rename_i hsz
          have hsz := Nat.eq_of_beq_eq_true hsz
          subst hsz
          obtain ⟨hb, h⟩ := Tr.get_ask.1 h
          rw [Bool.and_eq_true, decide_eq_true_eq] at hb
          obtain ⟨hb, hcl⟩ := hb
          refine step _ h fun B X ρ n w RR hd => ?_
          obtain ⟨v, hv⟩ := hd
          obtain ⟨a, c, hid, hc, _, rfl, hcell⟩ := vs_den RR hi hv
          have hlen : ((ts.drop off).take len).length = len := by rw [List.length_take, List.length_drop]; omega
          have hcap : len ≤ capO cap (c - off) := by
            cases cap with
            | none => simp only [capO]; omega
            | some m => exact of_decide_eq_true hcl
          have hcells : ∀ (j : Nat) (y : Value), ((C e).flat ((ts.drop off).take len))[j]? = some y → ∃ a', some (if off = c then a.add (Nat.min bs off * (C e).sz) else a.add (off * (C e).sz)) = some a' ∧ w.cell? (a'.add j) = some y := fun j y hy => by
            refine ⟨_, rfl, ?_⟩
            have hj : j < len * (C e).sz := by
              have := (List.getElem?_eq_some_iff.1 hy).1
              rwa [(C e).flat_length, hlen] at this
            have hne : ¬ off = c := fun e => by
              have : len = 0 := by omega
              subst this; simp at hj
            rw [if_neg hne, Addr.add_add]
            rw [(C e).flat_take, (C e).flat_drop, List.getElem?_take, if_pos (by exact hj), List.getElem?_drop] at hy
            exact hcell _ _ hy
          refine ⟨false, e, _, _, rfl, hv, rfl, fun g hg => RR.blkOk i _ _ g hi rfl hid ?_, rfl, _, _, by rw [hlen], by rw [hlen]; exact hcap, fun h => (by cases h), hcells⟩
          simp only [blk] at hg ⊢
          split at hg
          · rw [Addr.add_block] at hg; exact hg
          · rw [Addr.add_block] at hg; exact hg
        · cases h
      · cases h
    · cases h
end
end Go.Sx
