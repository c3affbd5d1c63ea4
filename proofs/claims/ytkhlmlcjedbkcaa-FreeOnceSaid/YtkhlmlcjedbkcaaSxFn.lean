/-
  The symbolic evaluator: what functions answer to slices that are seen, told by their elements alone. Own work; nothing here is trusted.
-/
import Derived.Test.YtkhlmlcjedbkcaaSxTree
namespace Go.Sx
noncomputable section
open Go.RowKit

variable {C : Tab} {P : Program} {R : Type}

/-! Handles numbered in the order in which they stand. -/
mutual
def relV : SV → Nat → SV × List Nat
  | .raw v, _ => (.raw v, [])
  | .h i, m => (.h m, [i])
  | .ep i o, m => (.ep m o, [i])
  | .bs i o l c, m => (.bs m o l c, [i])
  | .vs i s b o l c, m => (.vs m s b o l c, [i])
  | .el i a s j, m => (.el m a s j, [i])
  | .agg cs, m => (.agg (relL cs m).1, (relL cs m).2)
  | .tup cs, m => (.tup (relL cs m).1, (relL cs m).2)
  | .fn g cs, m => (.fn g (relL cs m).1, (relL cs m).2)
def relL : List SV → Nat → List SV × List Nat
  | [], _ => ([], [])
  | v :: r, m => ((relV v m).1 :: (relL r (m + (relV v m).2.length)).1, (relV v m).2 ++ (relL r (m + (relV v m).2.length)).2)
end
mutual
theorem renV_rel (f : Nat → Nat) : ∀ (v : SV) (m : Nat), (∀ i x, (relV v m).2[i]? = some x → f (m + i) = x) → renV f (relV v m).1 = v
  | .raw _, _, _ => rfl
  | .h i, m, h => by have := h 0 i rfl; simp only [relV, renV]; rw [← this]; rfl
  | .ep i o, m, h => by have := h 0 i rfl; simp only [relV, renV]; rw [← this]; rfl
  | .bs i o l c, m, h => by have := h 0 i rfl; simp only [relV, renV]; rw [← this]; rfl
  | .vs i s b o l c, m, h => by have := h 0 i rfl; simp only [relV, renV]; rw [← this]; rfl
  | .el i a s j, m, h => by have := h 0 i rfl; simp only [relV, renV]; rw [← this]; rfl
  | .agg cs, m, h => by simp only [relV, renV]; rw [renL_rel f cs m (fun i x hx => h i x hx)]
  | .tup cs, m, h => by simp only [relV, renV]; rw [renL_rel f cs m (fun i x hx => h i x hx)]
  | .fn g cs, m, h => by simp only [relV, renV]; rw [renL_rel f cs m (fun i x hx => h i x hx)]
theorem renL_rel (f : Nat → Nat) : ∀ (l : List SV) (m : Nat), (∀ i x, (relL l m).2[i]? = some x → f (m + i) = x) → renL f (relL l m).1 = l
  | [], _, _ => rfl
  | v :: r, m, h => by
    simp only [relL, renL]
    rw [renV_rel f v m, renL_rel f r]
    · intro i x hx
      have := h ((relV v m).2.length + i) x (by simp only [relL]; rw [List.getElem?_append_right (by omega)]; simpa using hx)
      rw [← this]; congr 1; omega
    · intro i x hx
      refine h i x ?_
      simp only [relL]
      rw [List.getElem?_append_left (List.getElem?_eq_some_iff.1 hx).1]
      exact hx
end

def numH (m : Nat) : List (SO C) → Hp C
  | [] => []
  | o :: r => (m, o) :: numH (m + 1) r
theorem find_num {j : Nat} {o : SO C} : ∀ {os : List (SO C)} {m : Nat}, find j (numH m os) = some o → m ≤ j ∧ os[j - m]? = some o
  | [], m, h => by cases h
  | x :: r, m, h => by
    unfold numH at h
    rw [find_cons] at h
    split at h
    · rename_i e; subst e; cases h; exact ⟨Nat.le_refl _, by simp⟩
    · obtain ⟨h1, h2⟩ := find_num h
      refine ⟨by omega, ?_⟩
      have : j - m = (j - (m + 1)) + 1 := by omega
      rw [this]; simpa using h2
theorem num_find {o : SO C} : ∀ {os : List (SO C)} {m i : Nat}, os[i]? = some o → find (m + i) (numH m os) = some o
  | [], m, i, h => by simp at h
  | x :: r, m, 0, h => by
    simp at h; subst h
    unfold numH; rw [find_cons, if_pos (by omega)]
  | x :: r, m, i + 1, h => by
    unfold numH; rw [find_cons, if_neg (by omega)]
    have := num_find (m := m + 1) (show r[i]? = some o by simpa using h)
    rw [show m + (i + 1) = m + 1 + i by omega]; exact this
/-- The slices behind handles, as views. -/
def views (hp : Hp C) : List Nat → Option (List (SO C))
  | [] => some []
  | i :: r => match find i hp with
    | some (.sl _ full e ts) => match views hp r with
      | some os => some (.sl false full e ts :: os)
      | none => none
    | _ => none
theorem views_at {hp : Hp C} : ∀ {ids : List Nat} {os : List (SO C)}, views hp ids = some os → os.length = ids.length ∧ ∀ (j : Nat) (o : SO C), os[j]? = some o → ∃ i own full e ts, ids[j]? = some i ∧ find i hp = some (.sl own full e ts) ∧ o = .sl false full e ts
  | [], os, h => by simp only [views, Option.some.injEq] at h; subst h; exact ⟨rfl, fun j o h => by simp at h⟩
  | i :: r, os, h => by
    unfold views at h
    split at h
    · rename_i own full e ts hi
      split at h
      · rename_i os' hos
        cases h
        obtain ⟨h1, h2⟩ := views_at hos
        refine ⟨by simp [h1], fun j o hj => ?_⟩
        match j with
        | 0 => simp at hj; subst hj; exact ⟨i, own, full, e, ts, rfl, hi, rfl⟩
        | j + 1 => simpa using h2 j o (by simpa using hj)
      · cases h
    · cases h

mutual
theorem renV_flat (f : Nat → Nat) : ∀ (v : SV), flatV v = true → renV f v = v
  | .raw _, _ => rfl
  | .h _, h | .ep _ _, h | .bs _ _ _ _, h | .el _ _ _ _, h | .vs _ _ _ _ _ _, h => by simp [flatV] at h
  | .agg cs, h => by simp only [flatV] at h; simp only [renV, renL_flat f cs h]
  | .tup cs, h => by simp only [flatV] at h; simp only [renV, renL_flat f cs h]
  | .fn _ cs, h => by simp only [flatV] at h; simp only [renV, renL_flat f cs h]
theorem renL_flat (f : Nat → Nat) : ∀ (l : List SV), flatL l = true → renL f l = l
  | [], _ => rfl
  | v :: r, h => by
    simp only [flatL] at h
    split at h
    · rename_i hv; simp only [renL, renV_flat f v hv, renL_flat f r h]
    · cases h
end
/-- New slices and maps. -/
def isNew : SO C → Bool
  | .sl own _ _ _ => own
  | .mp _ _ _ => true
  | .mv _ _ _ _ vs => flatL vs
  | _ => false
theorem isNew_spec {o : SO C} (h : isNew o = true) : o.owns = true ∧ ∀ f, renO f o = o := by
  cases o <;> simp [isNew] at h
  · exact ⟨h, fun _ => rfl⟩
  · exact ⟨rfl, fun _ => rfl⟩
  · exact ⟨rfl, fun f => by simp only [renO, renL_flat f _ h]⟩
def allOwn : List (SO C) → Bool
  | [] => true
  | o :: r => match isNew o with
    | true => allOwn r
    | false => false
theorem allOwn_at : ∀ {os : List (SO C)}, allOwn os = true → ∀ (j : Nat) (o : SO C), os[j]? = some o → isNew o = true
  | [], _, j, o, h => by simp at h
  | x :: r, h, j, o, hj => by
    unfold allOwn at h
    split at h
    · rename_i hx
      match j with
      | 0 => simp at hj; subst hj; exact hx
      | j + 1 => exact allOwn_at (os := r) h j o (by simpa using hj)
    · cases h
def mapN (ids : List Nat) (n : Nat) : Nat → Nat := fun j => match ids[j]? with
  | some i => i
  | none => n + (j - ids.length)

/-- What a function answers that sees slices and lays new ones. -/
abbrev FnF (C : Tab) := List SV → List (SO C) → Tr (SV × List (SO C))
def Fn0 (P : Program) (g : Nat) (args : List SV) (os : List (SO C)) (r : SV × List (SO C)) : Prop :=
  ∀ B X ρ w vals, X.nb = os.length → Rel B X ρ (numH 0 os) os.length w → denL ρ args = some vals →
    (∃ fn, P.funcs[g]? = some fn ∧ fn.body.isSome = true) ∧ Calls P g vals.toArray w fun e w' => ∃ ρ' v, e = .returned v ∧ Rel B X ρ' (numH os.length r.2) (os.length + r.2.length) w' ∧ den ρ' r.1 = some v
def viewS (F : FnF C) : List SV → Hp C → Nat → OT C := fun vs hp n => match views hp (relL vs 0).2 with
  | none => .fail
  | some os => (F (relL vs 0).1 os).bind fun r => match allOwn r.2 with
    | true => .leaf (renV (mapN (relL vs 0).2 n) r.1, numH n r.2 ++ hp, n + r.2.length)
    | false => .fail
theorem viewS_ok {g : Nat} {F : FnF C} (hF : ∀ args os r, (F args os).get = some r → Fn0 P g args os r) : ∀ vs hp n x, (viewS F vs hp n).get = some x → FnAns P g vs hp n x := fun vs hp n x h B X ρ w args RR hargs => by
  unfold viewS at h
  split at h
  · cases h
  · rename_i os hos
    obtain ⟨r, h1, h2⟩ := Tr.get_bind h
    split at h2
    · rename_i hown
      simp only [Tr.get, Option.some.injEq] at h2
      subst h2
      obtain ⟨hlen, hat⟩ := views_at hos
      generalize hids : (relL vs 0).2 = ids at *
      have hlt : ∀ j i, ids[j]? = some i → i < n := fun j i hj => by
        have : j < os.length := by rw [hlen]; exact (List.getElem?_eq_some_iff.1 hj).1
        obtain ⟨i', own, full, e, ts, g1, g2, _⟩ := hat j _ (List.getElem?_eq_getElem this)
        rw [hj] at g1; cases g1
        obtain ⟨v, hv, _⟩ := RR.obj i _ g2
        by_cases hlt : i < n
        · exact hlt
        · rw [RR.fresh i (by omega)] at hv; cases hv
      have hlo : ∀ j, j < os.length → ∃ i, ids[j]? = some i ∧ mapN ids n j = i ∧ i < n := fun j hj => by
        have hj' : ids[j]? = some (ids[j]'(by omega)) := List.getElem?_eq_getElem (by omega)
        refine ⟨_, hj', ?_, hlt j _ hj'⟩
        unfold mapN; rw [hj']
      have hhi : ∀ j, os.length ≤ j → mapN ids n j = n + (j - os.length) := fun j hj => by
        unfold mapN
        rw [List.getElem?_eq_none (by omega), hlen]
      have hren : renL (mapN ids n) (relL vs 0).1 = vs := renL_rel _ vs 0 fun i x hx => by
        rw [hids] at hx
        rw [Nat.zero_add]
        unfold mapN; rw [hx]
      have hr : Renum hp (mapN ids n) (numH 0 os) := ⟨fun j o hj => by
        obtain ⟨_, g2⟩ := find_num hj
        rw [Nat.sub_zero] at g2
        obtain ⟨i, own, full, e, ts, g3, g4, rfl⟩ := hat j o g2
        refine ⟨.sl own full e ts, ?_, ⟨nofun, fun h => h, rfl, HEq.rfl⟩⟩
        unfold mapN; rw [g3]; exact g4, fun i j oi oj hi hj hij ho => by
        obtain ⟨_, g2⟩ := find_num hi
        obtain ⟨_, own, full, e, ts, _, _, rfl⟩ := hat _ oi g2
        cases ho⟩
      have RD := RR.down (m := os.length) (nb := os.length) (Nat.le_refl _) hr (fun i hi => by rw [hhi i hi]; omega)
      have hd : denL (fun i => ρ (mapN ids n i)) (relL vs 0).1 = some args := by rw [denL_ren, hren]; exact hargs
      obtain ⟨g1, g2⟩ := hF _ _ _ h1 w _ _ w args rfl RD hd
      refine ⟨g1, g2.mono ?_⟩
      rintro e w' ⟨ρ1, v, rfl, R1, hv⟩
      obtain ⟨u1, u2, u3⟩ := RR.up (fu := mapN ids n) (hpG := hp) hr hhi (fun j hj => by obtain ⟨i, _, e, hi⟩ := hlo j hj; exact ⟨rfl, by rw [e]; exact hi⟩) (fun x O hx => .inl hx) R1
        (fun j o hj => by
          obtain ⟨g3, g4⟩ := find_num hj
          exact ⟨fun hlt => by omega, fun _ => .inl (isNew_spec (allOwn_at hown _ o g4)).1⟩)
        (fun j o hj ho => by
          obtain ⟨_, g3⟩ := find_num hj
          obtain ⟨_, own, full, e, ts, _, _, rfl⟩ := hat _ o g3
          cases ho)
      have hup : ∀ (l : List (SO C)) (k : Nat), allOwn l = true → os.length ≤ k → upHp (mapN ids n) (numH k l) = numH (n + (k - os.length)) l := by
        intro l
        induction l with
        | nil => intro _ _ _; rfl
        | cons o l ih =>
          intro k ho hk
          unfold allOwn at ho
          split at ho
          · rename_i hno
            have := ih (k + 1) ho (by omega)
            simp only [numH, upHp, this, (isNew_spec hno).2, hhi k hk]
            rw [show n + (k - os.length) + 1 = n + (k + 1 - os.length) by omega]
          · cases ho
      rw [hup r.2 os.length hown (Nat.le_refl _), Nat.sub_self, Nat.add_zero, Nat.add_sub_cancel_left] at u1
      exact ⟨_, v, _, _, _, rfl, u2, ⟨by omega, List.suffix_append _ _⟩, by rw [← den_ren]; rw [show (fun i => backA ρ ρ1 n os.length (mapN ids n i)) = ρ1 from funext u3]; exact hv, u1, rfl⟩
    · cases h2

/-- From an evaluation by the function's own numbers. -/
theorem Fn0.of {call : CallF C (OT C)} (hc : ∀ x, CallOk P (fun y : OT C => y.get = some x) call) {g : Nat} {args : List SV} {os : List (SO C)} {q : SV × Hp C × Nat} (h : (call g args (numH 0 os) os.length (fun sv hp n => .leaf (sv, hp, n))).get = some q)
    {r : SV × List (SO C)} (ks : List Nat) (hlen : ks.length = r.2.length) (hsv : q.1 = renV (mapN (List.range os.length ++ ks) (q.2.2)) r.1)
    (hos : ∀ (i k : Nat) (o : SO C), ks[i]? = some k → r.2[i]? = some o → find k q.2.1 = some o ∧ renO (mapN (List.range os.length ++ ks) (q.2.2)) o = o) (hnd : ks.Nodup) : Fn0 P g args os r := fun B X ρ w vals hX RR hd => by
  obtain ⟨h1, h2⟩ := hc q g args (numH 0 os) os.length _ B X ρ w vals h RR hd
  refine ⟨h1, h2.mono ?_⟩
  rintro e w' ⟨ρ', v, sv, hp', n', rfl, h3, h4, h5, h6, h7⟩
  have h7 : (sv, hp', n') = q := by simpa [Tr.get] using h7
  subst h7
  generalize hf : mapN (List.range os.length ++ ks) n' = f at *
  have hn := h4.1
  have flo : ∀ i, i < os.length → f i = i := fun i hi => by
    rw [← hf]; unfold mapN
    rw [List.getElem?_append_left (by simpa using hi), List.getElem?_range hi]
  have fmid : ∀ i k, ks[i]? = some k → f (os.length + i) = k := fun i k hk => by
    rw [← hf]; unfold mapN
    rw [List.getElem?_append_right (by simp)]
    simp only [List.length_range, Nat.add_sub_cancel_left, hk]
  have fhi : ∀ i, os.length + r.2.length ≤ i → n' ≤ f i := fun i hi => by
    rw [← hf]; unfold mapN
    rw [List.getElem?_eq_none (by simp; omega)]
    exact Nat.le_add_right _ _
  have hR := h6.ren (hp' := numH os.length r.2) (n' := os.length + r.2.length) (f := f) ⟨fun j o hj => by
      obtain ⟨g1, g2⟩ := find_num hj
      have hlt := (List.getElem?_eq_some_iff.1 g2).1
      have hk : ks[j - os.length]? = some (ks[j - os.length]'(by omega)) := List.getElem?_eq_getElem (by omega)
      obtain ⟨g3, g4⟩ := hos _ _ o hk g2
      refine ⟨o, ?_, by rw [g4]; exact subO.refl _⟩
      have := fmid _ _ hk
      rw [show os.length + (j - os.length) = j by omega] at this
      rw [this]; exact g3, fun i j oi oj hi hj hij _ _ e => by
      obtain ⟨g1, g2⟩ := find_num hi
      obtain ⟨g3, g4⟩ := find_num hj
      have l1 := (List.getElem?_eq_some_iff.1 g2).1
      have l2 := (List.getElem?_eq_some_iff.1 g4).1
      have e1 := fmid (i - os.length) _ (List.getElem?_eq_getElem (by omega))
      have e2 := fmid (j - os.length) _ (List.getElem?_eq_getElem (by omega))
      rw [show os.length + (i - os.length) = i by omega] at e1
      rw [show os.length + (j - os.length) = j by omega] at e2
      rw [e1, e2] at e
      have hp := List.pairwise_iff_getElem.1 hnd
      rcases Nat.lt_trichotomy (i - os.length) (j - os.length) with hl | hl | hl
      · exact hp _ _ (by omega) (by omega) hl e
      · omega
      · exact hp _ _ (by omega) (by omega) hl e.symm⟩ (by omega) (fun i hi => flo i (by omega)) fhi
  refine ⟨_, v, rfl, hR, ?_⟩
  rw [den_ren, ← hsv]; exact h5
end
end Go.Sx
