/-
  The symbolic evaluator: functions that see slices and parts of slices, and lay new ones. Own work; nothing here is trusted.
-/
import Derived.Test.YtkhlmlcjedbkcaaSxCanon
namespace Go.Sx
noncomputable section
open Go.RowKit

variable {C : Tab} {P : Program} {R : Type}
section rel
variable {B : World} {X : Own} {ρ : Asg} {hp : Hp C} {n : Nat} {w : World}

/-- What a run of its own has laid anew, behind what there was. -/
theorem Rel.join (h : Rel B X ρ hp n w) {m : Nat} {ρ0 : Asg} {V : Nat → Prop} {ρ1 : Asg} {news : List (SO C)} {w1 : World} (h1 : Rel w ⟨fun _ => False, V, ρ0, m⟩ ρ1 (numH m news) (m + news.length) w1) (hown : allOwn news = true) :
    ∃ ρ', Rel B X ρ' (numH n news ++ hp) (n + news.length) w1 ∧ ρ.le ρ' ∧ ∀ j, ρ' (n + j) = ρ1 (m + j) := by
  have okb : ∀ g, okB w ⟨fun _ => False, V, ρ0, m⟩ g → w.heap.size ≤ g := fun g hg => hg.elim id False.elim
  have hnew : ∀ j o, find j (numH 0 news) = some o → find (m + j) (numH m news) = some o ∧ isNew o = true := fun j o hj => by
    obtain ⟨_, g2⟩ := find_num hj
    rw [Nat.sub_zero] at g2
    exact ⟨num_find g2, allOwn_at hown _ _ g2⟩
  have R2 : Rel w (ownOf (fun i => ρ ((fun i => i) i)) ([] : Hp C) 0) (fun j => ρ1 (m + j)) (numH 0 news) news.length w1 :=
    { os := h1.os, tape := h1.tape, out := h1.out, size := h1.size
      old := fun b hb _ => h1.old b hb id
      nbLe := Nat.zero_le _
      agree := fun i hi => absurd hi (Nat.not_lt_zero _)
      fresh := fun i hi => h1.fresh _ (by omega)
      one := fun i v hv => h1.one _ v hv
      obj := fun i o hi => by
        obtain ⟨g1, g2⟩ := hnew i o hi
        obtain ⟨v, hv, hok⟩ := h1.obj _ o g1
        refine ⟨v, hv, ?_⟩
        have hok' : okObj (fun j => ρ1 (m + j)) w1 (okB w ⟨fun _ => False, V, ρ0, m⟩) v o := okObj.ren.2 (by rw [(isNew_spec g2).2]; exact hok)
        exact hok'.sub (subO.refl _) fun ho g hg => .inl (okb g (h1.okOwn g1 ho hv hg))
      sep := fun i j oi oj vi vj g hij hi hj ho hl hvi hvj hg => h1.sep (m + i) (m + j) oi oj vi vj g (by omega) (hnew i oi hi).1 (hnew j oj hj).1 ho hl hvi hvj hg
      blkOk := fun i o v g hi hl hv hg => h1.blkOk (m + i) o v g (hnew i o hi).1 hl hv hg
      prov := fun i o v g hi hl hv hg => .inl (okb g (h1.okOwn (hnew i o hi).1 (isNew_spec (hnew i o hi).2).1 hv hg))
      nn := fun i o v hi hs hv => h1.nn (m + i) o v (hnew i o hi).1 hs hv }
  have hr : Renum hp (fun i => i) ([] : Hp C) := ⟨fun j o hj => by simp [find] at hj, fun i j oi oj hi => by simp [find] at hi⟩
  obtain ⟨u1, u2, u3⟩ := h.up (fd := fun i => i) (fu := fun j => n + j) (hpG := hp) (m := 0) hr (fun j _ => by omega) (fun j hj => by omega) (fun x O hx => .inl hx) R2
    (fun j o hj => ⟨fun hlt => by omega, fun _ => .inl (isNew_spec (hnew j o hj).2).1⟩) (fun j o hj => by simp [find] at hj)
  have hup : ∀ (l : List (SO C)) (k : Nat), allOwn l = true → upHp (fun j => n + j) (numH k l) = numH (n + k) l := by
    intro l
    induction l with
    | nil => intro _ _; rfl
    | cons o l ih =>
      intro k ho
      unfold allOwn at ho
      split at ho
      · rename_i hno
        have := ih (k + 1) ho
        simp only [numH, upHp, this, (isNew_spec hno).2]
        rw [show n + (k + 1) = n + k + 1 by omega]
      · cases ho
  rw [hup news 0 hown, Nat.add_zero, Nat.sub_zero] at u1
  exact ⟨_, u1, u2, u3⟩

/-- Views of what there is, as the start of a run of its own. -/
theorem Rel.seen (h : Rel B X ρ hp n w) {xs : List SV} {os : List (SO C)} (hl : os.length = xs.length) (hs : ∀ (i : Nat) (x : SV) (o : SO C), xs[i]? = some x → os[i]? = some o → Seen ρ w x o) :
    Rel w ⟨fun _ => False, fun _ => True, fun i => match xs[i]? with | some x => den ρ x | none => none, os.length⟩ (fun i => match xs[i]? with | some x => den ρ x | none => none) (numH 0 os) os.length w := by
  have at_ : ∀ j o, find j (numH 0 os) = some o → ∃ x, xs[j]? = some x ∧ Seen ρ w x o := fun j o hj => by
    obtain ⟨_, g2⟩ := find_num hj
    rw [Nat.sub_zero] at g2
    have hlt := (List.getElem?_eq_some_iff.1 g2).1
    exact ⟨_, List.getElem?_eq_getElem (by omega), hs j _ o (List.getElem?_eq_getElem (by omega)) g2⟩
  have noOwn : ∀ j o, find j (numH 0 os) = some o → o.owns = false := fun j o hj => by
    obtain ⟨x, _, ⟨full, e, ts, v, rfl, _⟩⟩ := at_ j o hj
    rfl
  refine { os := rfl, tape := rfl, out := rfl, size := Nat.le_refl _, old := fun _ _ _ => rfl, nbLe := Nat.le_refl _, agree := fun _ _ => rfl, fresh := fun i hi => ?_, one := fun i v hv => ?_, obj := fun j o hj => ?_,
           sep := fun i j oi oj vi vj g _ hi _ ho => (by rw [noOwn i oi hi] at ho; cases ho),
           blkOk := fun j o v g hj _ hv hg => ?_, prov := fun _ _ _ _ _ _ _ _ => .inr (.inr trivial), nn := fun j o v hj _ hv => ?_ }
  · simp only [List.getElem?_eq_none (show xs.length ≤ i by omega)]
  · split at hv
    · rename_i x hx
      have hlt := (List.getElem?_eq_some_iff.1 hx).1
      obtain ⟨full, e, ts, u, _, h2, _, _, h5, _⟩ := (hs i x _ hx (List.getElem?_eq_getElem (by omega))).ex
      rw [h2] at hv; cases hv; exact h5
    · cases hv
  · obtain ⟨x, hx, ⟨full, e, ts, u, rfl, h2, h3, h4, h5, h6⟩⟩ := at_ j o hj
    refine ⟨u, by simp only [hx]; exact h2, ?_⟩
    obtain ⟨a, cap, q1, q2, q3, q4⟩ := h6
    exact ⟨a, cap, q1, q2, q3, q4⟩
  · obtain ⟨x, hx, ⟨full, e, ts, u, rfl, h2, h3, h4, h5, h6⟩⟩ := at_ j o hj
    simp only [hx] at hv
    rw [h2] at hv; cases hv; exact h4 g hg
  · obtain ⟨x, hx, ⟨full, e, ts, u, rfl, h2, h3, h4, h5, h6⟩⟩ := at_ j o hj
    simp only [hx] at hv
    rw [h2] at hv; cases hv; exact h3
end rel

mutual
def anyVs : SV → Bool
  | .vs _ _ _ _ _ _ => true
  | .agg cs => anyVsL cs
  | .tup cs => anyVsL cs
  | .fn _ cs => anyVsL cs
  | _ => false
def anyVsL : List SV → Bool
  | [] => false
  | v :: r => match anyVs v with
    | true => true
    | false => anyVsL r
end
mutual
theorem seeV_ex {ρ : Asg} : ∀ (v : SV) (m : Nat) (u : Value), den ρ v = some u → ∀ x ∈ (seeV v m).2, ∃ w, den ρ x = some w
  | .raw _, _, _, _, x, hx => by simp [seeV] at hx
  | .h i, m, u, h, x, hx => by simp [seeV] at hx; subst hx; exact ⟨u, h⟩
  | .vs i s b o l c, m, u, h, x, hx => by simp [seeV] at hx; subst hx; exact ⟨u, h⟩
  | .ep i o, m, u, h, x, hx => by simp [seeV] at hx; subst hx; exact ⟨u, h⟩
  | .bs i o l c, m, u, h, x, hx => by simp [seeV] at hx; subst hx; exact ⟨u, h⟩
  | .el i a s j, m, u, h, x, hx => by simp [seeV] at hx; subst hx; exact ⟨u, h⟩
  | .agg cs, m, u, h, x, hx => by
    simp only [den, Option.map_eq_some_iff] at h
    obtain ⟨l, hl, _⟩ := h
    exact seeL_ex cs m l hl x (by simpa [seeV] using hx)
  | .tup cs, m, u, h, x, hx => by
    simp only [den, Option.map_eq_some_iff] at h
    obtain ⟨l, hl, _⟩ := h
    exact seeL_ex cs m l hl x (by simpa [seeV] using hx)
  | .fn g cs, m, u, h, x, hx => by
    simp only [den, Option.map_eq_some_iff] at h
    obtain ⟨l, hl, _⟩ := h
    exact seeL_ex cs m l hl x (by simpa [seeV] using hx)
theorem seeL_ex {ρ : Asg} : ∀ (l : List SV) (m : Nat) (us : List Value), denL ρ l = some us → ∀ x ∈ (seeL l m).2, ∃ w, den ρ x = some w
  | [], _, _, _, x, hx => by simp [seeL] at hx
  | v :: r, m, us, h, x, hx => by
    obtain ⟨u, l, h1, h2, _⟩ := denL_cons.1 h
    simp only [seeL] at hx
    rcases List.mem_append.1 hx with hx | hx
    · exact seeV_ex v m u h1 x hx
    · exact seeL_ex r _ l h2 x hx
end
def viewB (F : FnF C) : List SV → Hp C → Nat → OT C := fun vs hp n => seeO hp (seeL vs 0).2 fun os => (F (seeL vs 0).1 os).bind fun r => match allOwn r.2, numV (rangeL os.length r.2.length) r.1 with
  | true, some u => .leaf (renV (fun j => n + j) u, numH n r.2 ++ hp, n + r.2.length)
  | _, _ => .fail
def seeS (F : FnF C) : List SV → Hp C → Nat → OT C := fun vs hp n => match anyVsL vs with
  | false => viewS F vs hp n
  | true => viewB F vs hp n
theorem viewB_ok {g : Nat} {F : FnF C} (hF : ∀ args os r, (F args os).get = some r → Fn0 P g args os r) : ∀ vs hp n x, (viewB F vs hp n).get = some x → FnAns P g vs hp n x := fun vs hp n x h B X ρ w args RR hargs => by
  unfold viewB at h
  obtain ⟨os, h0, hlen, hs⟩ := seeO_spec _ hp _ h
  obtain ⟨r, h1, h2⟩ := Tr.get_bind h0
  split at h2
  · rename_i u hown hnum
    simp only [Tr.get, Option.some.injEq] at h2
    subst h2
    have hden : ∀ (l : List SV) (m : Nat) (us : List Value), denL ρ l = some us → ∀ x ∈ (seeL l m).2, ∃ v, den ρ x = some v := seeL_ex
    have hseen := hs B X ρ n w RR (hden vs 0 args hargs)
    have RS := RR.seen hlen hseen
    have hd : denL (fun i => match (seeL vs 0).2[i]? with | some x => den ρ x | none => none) (seeL vs 0).1 = some args := by
      rw [seeL_den (ρ := ρ) vs 0 fun i x hx => by simp only [Nat.zero_add, hx]]
      exact hargs
    obtain ⟨g1, g2⟩ := hF _ _ _ h1 w _ _ w args rfl RS hd
    refine ⟨g1, g2.mono ?_⟩
    rintro e w' ⟨ρ1, v, rfl, R1, hv⟩
    obtain ⟨ρ', u1, u2, u3⟩ := RR.join R1 hown
    refine ⟨ρ', v, _, _, _, rfl, u2, ⟨by omega, List.suffix_append _ _⟩, ?_, u1, rfl⟩
    have hr1 := numV_ren (f := fun j => os.length + j) (ids := rangeL os.length r.2.length) (fun j i hj => by
      have hlt := (List.getElem?_eq_some_iff.1 hj).1
      rw [rangeL_len] at hlt
      rw [rangeL_at _ _ _ hlt] at hj
      exact Option.some.inj hj) r.1 hnum
    rw [← hr1, ← den_ren] at hv
    rw [← den_ren]
    rw [show (fun i => ρ' (n + i)) = fun i => ρ1 (os.length + i) from funext u3]
    exact hv
  · cases h2
theorem seeS_ok {g : Nat} {F : FnF C} (hF : ∀ args os r, (F args os).get = some r → Fn0 P g args os r) : ∀ vs hp n x, (seeS F vs hp n).get = some x → FnAns P g vs hp n x := fun vs hp n x h => by
  unfold seeS at h
  split at h
  · exact viewS_ok hF vs hp n x h
  · exact viewB_ok hF vs hp n x h
end
end Go.Sx
