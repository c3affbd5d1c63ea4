/-
  The symbolic evaluator: loops by induction over what stands at their head. Own work; nothing here is trusted.
-/
import Derived.Test.YtkhlmlcjedbkcaaSxFn
namespace Go.Sx
noncomputable section
open Go.RowKit

variable {C : Tab} {P : Program} {R : Type}

/-- What stands at a loop's head or behind it. -/
structure LS (C : Tab) where
  tm : Tm
  hp : Hp C
  n : Nat
/-- A state under other numbers: what is left out is forgotten. -/
structure Fits (f : Nat → Nat) (tm : Tm) (hp : Hp C) (n : Nat) (S : LS C) : Prop where
  ren : Renum hp f S.hp
  fresh : ∀ i, S.n ≤ i → n ≤ f i
  tmp : ∀ t sv, find t S.tm = some sv → find t tm = some (renV f sv)

/-- From this state on, the loop's body at the head, the run ends in one of these states; handles below nb are those that there were. -/
def LoopRun (P : Program) (N : Nat) (c : Code) (nb : Nat) (S : LS C) (Q : Ex → LS C → Prop) : Prop :=
  ∀ B X ρ w a, X.nb = nb → a.tmps.size = N → a.defers = [] → Rel B X ρ S.hp S.n w → TmOk ρ S.tm a → ∀ b kk cs, ∃ e a' w',
    (∃ x T ρ', Q x T ∧ e = exitOf x ∧ a'.tmps.size = N ∧ a'.defers = [] ∧ Rel B X ρ' T.hp T.n w' ∧ TmOk ρ' T.tm a') ∧
    Arrives P (lone (b.at a (.code c :: .inLoop c :: kk)) cs w) b kk cs e a' w'

theorem Fits.tmOk {f : Nat → Nat} {tm : Tm} {hp : Hp C} {n : Nat} {S : LS C} (h : Fits f tm hp n S) {ρ : Asg} {a : Act} (T : TmOk ρ tm a) : TmOk (fun i => ρ (f i)) S.tm a := fun t sv ht => by
  obtain ⟨v, h1, h2⟩ := T t _ (h.tmp t sv ht)
  exact ⟨v, by rw [den_ren]; exact h1, h2⟩

/-- From there on it may go on as from this state: in the same world, by other numbers. -/
def Into (nb : Nat) (tm : Tm) (hp : Hp C) (n : Nat) (S : LS C) : Prop :=
  ∀ B X ρ w a, X.nb = nb → Rel B X ρ hp n w → TmOk ρ tm a → ∃ ρ', Rel B X ρ' S.hp S.n w ∧ TmOk ρ' S.tm a
theorem Fits.into {f : Nat → Nat} {tm : Tm} {hp : Hp C} {n : Nat} {S : LS C} {nb : Nat} (h : Fits f tm hp n S) (hb : ∀ i, i < nb → f i = i) (hn : nb ≤ S.n) : Into nb tm hp n S := fun B X ρ w a hX RR T =>
  ⟨fun i => ρ (f i), RR.ren h.ren (by rw [hX]; exact hn) (fun i hi => hb i (by rw [← hX]; exact hi)) h.fresh, h.tmOk T⟩

/-- One round, told by a tree: it goes on in a lesser state, or ends. -/
inductive RoundOk (nb : Nat) {σ : Type} (st : σ → LS C) (Inv : σ → Prop) (μ : σ → Nat) (m : Nat) (Q : Ex → LS C → Prop) : Ex × Tm × Hp C × Nat → Prop
  | next (s : σ) (tm : Tm) (hp : Hp C) (n : Nat) (hs : Inv s) (hm : μ s < m) (hf : Into nb tm hp n (st s)) : RoundOk nb st Inv μ m Q (.normal, tm, hp, n)
  | stop (x : Ex) (T : LS C) (tm : Tm) (hp : Hp C) (n : Nat) (hx : ∀ y, x = y → exitOf y ≠ .normal) (hq : Q x T) (hf : Into nb tm hp n T) : RoundOk nb st Inv μ m Q (x, tm, hp, n)

/-- How a round is reckoned. -/
def roundT (P : Program) (call : CallF C (OT C)) (il : Nat → LoopF C (LT C)) (callL : CallF C (LT C)) (dr : DrawF C (LT C)) (N : Nat) (unr : Nat → Nat) (c : Code) (blk : Nat) (S : LS C) : LT C :=
  codeS (ansT _) P callL dr il N unr c blk (fun x tm hp n => .leaf (x, tm, hp, n)) S.tm S.hp S.n

theorem loop_ind (hp0 : Plain P) {callL : CallF C (LT C)} {dr : DrawF C (LT C)} {il : Nat → LoopF C (LT C)} {N : Nat} {unr : Nat → Nat} {c : Code} {blk : Nat}
    (hc : ∀ x, CallOk P (fun y : LT C => y.get = some x) callL) (hd : ∀ x, DrawOk P (fun y : LT C => y.get = some x) dr) (hl : ∀ x b l, (b, l) ∈ lps blk c → LoopOkAt P (fun y : LT C => y.get = some x) N l (il b N l))
    {nb : Nat} {σ : Type} {st : σ → LS C} {Inv : σ → Prop} {μ : σ → Nat} {Q : Ex → LS C → Prop}
    (h : ∀ s, Inv s → ∃ r, (codeS (ansT _) P callL dr il N unr c blk (fun x tm hp n => .leaf (x, tm, hp, n)) (st s).tm (st s).hp (st s).n).get = some r ∧ RoundOk nb st Inv μ (μ s) Q r) :
    ∀ m s, μ s ≤ m → Inv s → LoopRun P N c nb (st s) Q := by
  intro m
  induction m with
  | zero =>
    intro s hm hs B X ρ w a hX hN hD RR T b kk cs
    obtain ⟨r, h1, h2⟩ := h s hs
    obtain ⟨e₁, a₁, w₁, hq, harr⟩ := codeS_sound (I := fun y : LT C => y.get = some r) hp0 (ansT_ok r) (hc r) (hd r) c blk (hl r) _ _ _ _ B X ρ w a h1 hN hD RR T b (.inLoop c :: kk) cs
    obtain ⟨x, ρ', tm', hp', n', rfl, g1, g2, g3, g4, g5, g6, g7⟩ := hq
    simp only [Tr.get, Option.some.injEq] at g7
    subst g7
    cases h2 with
    | next s' _ _ _ _ hlt => omega
    | stop _ T _ _ _ hx hq hf =>
      obtain ⟨ρ2, r1, r2⟩ := hf B X ρ' _ _ hX g5 g6
      refine ⟨_, a₁, w₁, ⟨x, T, ρ2, hq, rfl, g3, g4, r1, r2⟩, .pass (x := .inLoop c) rfl (fun _ _ => .inl (hx x rfl)) harr⟩
  | succ m ih =>
    intro s hm hs B X ρ w a hX hN hD RR T b kk cs
    obtain ⟨r, h1, h2⟩ := h s hs
    obtain ⟨e₁, a₁, w₁, hq, harr⟩ := codeS_sound (I := fun y : LT C => y.get = some r) hp0 (ansT_ok r) (hc r) (hd r) c blk (hl r) _ _ _ _ B X ρ w a h1 hN hD RR T b (.inLoop c :: kk) cs
    obtain ⟨x, ρ', tm', hp', n', rfl, g1, g2, g3, g4, g5, g6, g7⟩ := hq
    simp only [Tr.get, Option.some.injEq] at g7
    subst g7
    cases h2 with
    | next s' _ _ _ hs' hlt hf =>
      obtain ⟨ρ2, r1, r2⟩ := hf B X ρ' _ _ hX g5 g6
      obtain ⟨e₂, a₂, w₂, hq₂, harr₂⟩ := ih s' (by omega) hs' B X ρ2 w₁ a₁ hX g3 g4 r1 r2 b kk cs
      exact ⟨e₂, a₂, w₂, hq₂, .of_steps (Steps.trans harr (.one step_inLoop)) harr₂⟩
    | stop _ T _ _ _ hx hq hf =>
      obtain ⟨ρ2, r1, r2⟩ := hf B X ρ' _ _ hX g5 g6
      refine ⟨_, a₁, w₁, ⟨x, T, ρ2, hq, rfl, g3, g4, r1, r2⟩, .pass (x := .inLoop c) rfl (fun _ _ => .inl (hx x rfl)) harr⟩

/-! A loop of a function, told by what it makes of the values in its slots. -/
def getAll : List Nat → Tm → Option (List SV)
  | [], _ => some []
  | t :: r, tm => match find t tm with
    | some v => match getAll r tm with
      | some l => some (v :: l)
      | none => none
    | none => none
def zipT : List Nat → List SV → Tm
  | t :: r, v :: l => (t, v) :: zipT r l
  | _, _ => []
theorem getAll_zip {f : Nat → Nat} {tm : Tm} : ∀ {ts : List Nat} {l vs : List SV}, getAll ts tm = some l → renL f vs = l → ∀ t sv, find t (zipT ts vs) = some sv → find t tm = some (renV f sv)
  | [], l, vs, _, _, t, sv, h => by simp [zipT, find] at h
  | u :: r, l, vs, h, hv, t, sv, ht => by
    unfold getAll at h
    split at h
    · rename_i v hu
      split at h
      · rename_i l' hl
        cases h
        match vs, hv with
        | x :: vs, hv =>
          simp only [renL, List.cons.injEq] at hv
          unfold zipT at ht
          rw [find_cons] at ht
          split at ht
          · rename_i e; subst e; cases ht; rw [hu, hv.1]
          · exact getAll_zip hl hv.2 t sv ht
      · cases h
    · cases h
theorem find_zip_ren {f : Nat → Nat} {t : Nat} : ∀ {ts : List Nat} {vs : List SV} {sv : SV}, find t (zipT ts (renL f vs)) = some sv → ∃ u, find t (zipT ts vs) = some u ∧ sv = renV f u
  | [], vs, sv, h => by cases vs <;> simp [zipT, find, renL] at h
  | u :: r, [], sv, h => by simp [zipT, find, renL] at h
  | u :: r, x :: vs, sv, h => by
    simp only [renL, zipT] at h ⊢
    rw [find_cons] at h
    rw [find_cons]
    split at h
    · rename_i e; cases h; rw [if_pos e]; exact ⟨x, rfl, rfl⟩
    · rename_i e; rw [if_neg e]; exact find_zip_ren h

def posN (i : Nat) : List Nat → Nat → Option Nat
  | [], _ => none
  | j :: r, k => match Nat.beq i j with
    | true => some k
    | false => posN i r (k + 1)
theorem posN_at {i k' : Nat} : ∀ {ids : List Nat} {k : Nat}, posN i ids k = some k' → ∃ j, k' = k + j ∧ ids[j]? = some i
  | j :: r, k, h => by
    unfold posN at h
    split at h
    · rename_i hb; cases h; exact ⟨0, rfl, by rw [Nat.eq_of_beq_eq_true hb]; rfl⟩
    · obtain ⟨m, h1, h2⟩ := posN_at h; exact ⟨m + 1, by omega, by simpa using h2⟩
mutual
def numV (ids : List Nat) : SV → Option SV
  | .raw v => some (.raw v)
  | .h i => match posN i ids 0 with
    | some j => some (.h j)
    | none => none
  | .ep i o => match posN i ids 0 with
    | some j => some (.ep j o)
    | none => none
  | .bs i o l c => match posN i ids 0 with
    | some j => some (.bs j o l c)
    | none => none
  | .vs i s b o l c => match posN i ids 0 with
    | some j => some (.vs j s b o l c)
    | none => none
  | .el i a s q => match posN i ids 0 with
    | some j => some (.el j a s q)
    | none => none
  | .agg cs => match numL ids cs with
    | some l => some (.agg l)
    | none => none
  | .tup cs => match numL ids cs with
    | some l => some (.tup l)
    | none => none
  | .fn g cs => match numL ids cs with
    | some l => some (.fn g l)
    | none => none
def numL (ids : List Nat) : List SV → Option (List SV)
  | [] => some []
  | v :: r => match numV ids v with
    | some x => match numL ids r with
      | some l => some (x :: l)
      | none => none
    | none => none
end
mutual
theorem numV_ren {f : Nat → Nat} {ids : List Nat} (hf : ∀ j i, ids[j]? = some i → f j = i) : ∀ (v : SV) {v' : SV}, numV ids v = some v' → renV f v' = v
  | .raw _, _, h => by simp only [numV, Option.some.injEq] at h; subst h; rfl
  | .h i, _, h => by
    simp only [numV] at h; split at h
    · rename_i j hj; cases h; obtain ⟨m, h1, h2⟩ := posN_at hj; simp only [renV, h1, Nat.zero_add, hf m i h2]
    · cases h
  | .ep i o, _, h => by
    simp only [numV] at h; split at h
    · rename_i j hj; cases h; obtain ⟨m, h1, h2⟩ := posN_at hj; simp only [renV, h1, Nat.zero_add, hf m i h2]
    · cases h
  | .bs i o l c, _, h => by
    simp only [numV] at h; split at h
    · rename_i j hj; cases h; obtain ⟨m, h1, h2⟩ := posN_at hj; simp only [renV, h1, Nat.zero_add, hf m i h2]
    · cases h
  | .vs i s b o l c, _, h => by
    simp only [numV] at h; split at h
    · rename_i j hj; cases h; obtain ⟨m, h1, h2⟩ := posN_at hj; simp only [renV, h1, Nat.zero_add, hf m i h2]
    · cases h
  | .el i a s q, _, h => by
    simp only [numV] at h; split at h
    · rename_i j hj; cases h; obtain ⟨m, h1, h2⟩ := posN_at hj; simp only [renV, h1, Nat.zero_add, hf m i h2]
    · cases h
  | .agg cs, _, h => by
    simp only [numV] at h; split at h
    · rename_i l hl; cases h; simp only [renV, numL_ren hf cs hl]
    · cases h
  | .tup cs, _, h => by
    simp only [numV] at h; split at h
    · rename_i l hl; cases h; simp only [renV, numL_ren hf cs hl]
    · cases h
  | .fn g cs, _, h => by
    simp only [numV] at h; split at h
    · rename_i l hl; cases h; simp only [renV, numL_ren hf cs hl]
    · cases h
theorem numL_ren {f : Nat → Nat} {ids : List Nat} (hf : ∀ j i, ids[j]? = some i → f j = i) : ∀ (l : List SV) {l' : List SV}, numL ids l = some l' → renL f l' = l
  | [], _, h => by simp only [numL, Option.some.injEq] at h; subst h; rfl
  | v :: r, _, h => by
    simp only [numL] at h
    split at h
    · rename_i x hx
      split at h
      · rename_i l hl; cases h; simp only [renL, numV_ren hf v hx, numL_ren hf r hl]
      · cases h
    · cases h
end
def numO (ids : List Nat) : SO C → Option (SO C)
  | .box cs t => match numL ids cs with
    | some l => some (.box l t)
    | none => none
  | .sl own full e ts => some (.sl own full e ts)
  | .mp k vt m => some (.mp k vt m)
  | .mv k ag vt ks vs => match numL ids vs with
    | some l => some (.mv k ag vt ks l)
    | none => none
  | .gone => none
theorem numO_ren {f : Nat → Nat} {ids : List Nat} (hf : ∀ j i, ids[j]? = some i → f j = i) {o o' : SO C} (h : numO ids o = some o') : renO f o' = o := by
  unfold numO at h
  split at h
  · split at h
    · rename_i l hl; cases h; simp only [renO, numL_ren hf _ hl]
    · cases h
  · cases h; rfl
  · cases h; rfl
  · split at h
    · rename_i l hl; cases h; simp only [renO, numL_ren hf _ hl]
    · cases h
  · cases h
def objsN (ids : List Nat) (hp : Hp C) : List Nat → Option (List (SO C))
  | [] => some []
  | i :: r => match find i hp with
    | some o => match numO ids o with
      | some x => match objsN ids hp r with
        | some l => some (x :: l)
        | none => none
      | none => none
    | none => none
theorem objsN_at {ids : List Nat} {hp : Hp C} : ∀ {is : List Nat} {os : List (SO C)}, objsN ids hp is = some os → os.length = is.length ∧ ∀ (j : Nat) (o : SO C), os[j]? = some o → ∃ i O, is[j]? = some i ∧ find i hp = some O ∧ numO ids O = some o
  | [], os, h => by simp only [objsN, Option.some.injEq] at h; subst h; exact ⟨rfl, fun j o h => by simp at h⟩
  | i :: r, os, h => by
    unfold objsN at h
    split at h
    · rename_i O hO
      split at h
      · rename_i x hx
        split at h
        · rename_i l hl
          cases h
          obtain ⟨h1, h2⟩ := objsN_at hl
          refine ⟨by simp [h1], fun j o hj => ?_⟩
          match j with
          | 0 => simp at hj; subst hj; exact ⟨i, O, rfl, hO, hx⟩
          | j + 1 => simpa using h2 j o (by simpa using hj)
        · cases h
      · cases h
    · cases h
/-- What is reached from handles; a guess, nothing leans on it. -/
def boxHs : SO C → List Nat
  | .box cs _ => hsL cs
  | .mv _ _ _ _ cs => hsL cs
  | _ => []
def hsAllV : SV → List Nat
  | .h i => [i]
  | .ep i _ => [i]
  | .bs i _ _ _ => [i]
  | .vs i _ _ _ _ _ => [i]
  | .el i _ _ _ => [i]
  | _ => []
def reachN (hp : Hp C) : Nat → List Nat → List Nat → List Nat
  | 0, _, acc => acc.reverse
  | _, [], acc => acc.reverse
  | f + 1, i :: r, acc => match memN i acc with
    | true => reachN hp f r acc
    | false => match find i hp with
      | some (.box cs _) => reachN hp f (r ++ (relL cs 0).2) (i :: acc)
      | some (.mv _ _ _ _ cs) => reachN hp f (r ++ (relL cs 0).2) (i :: acc)
      | _ => reachN hp f r (i :: acc)
def noDup : List Nat → Bool
  | [] => true
  | i :: r => match memN i r with
    | true => false
    | false => noDup r
theorem noDup_spec : ∀ {l : List Nat}, noDup l = true → l.Nodup
  | [], _ => List.nodup_nil
  | i :: r, h => by
    unfold noDup at h
    split at h
    · cases h
    · rename_i hm
      refine List.nodup_cons.2 ⟨fun hi => ?_, noDup_spec h⟩
      rw [memN_mem hi] at hm; cases hm
def gonesH : List Nat → Hp C
  | [] => []
  | i :: r => (i, .gone) :: gonesH r
theorem find_gones {x : Nat} {O : SO C} : ∀ {l : List Nat}, find x (gonesH l) = some O → O = .gone ∧ x ∈ l
  | i :: r, h => by
    unfold gonesH at h
    rw [find_cons] at h
    split at h
    · rename_i e; subst e; cases h; exact ⟨rfl, List.mem_cons_self⟩
    · exact ⟨(find_gones h).1, List.mem_cons_of_mem _ (find_gones h).2⟩
theorem gones_find {x : Nat} : ∀ {l : List Nat}, x ∈ l → find x (gonesH (C := C) l) = some .gone
  | i :: r, h => by
    unfold gonesH
    rw [find_cons]
    split
    · rfl
    · rename_i hne
      rcases List.mem_cons.1 h with rfl | h
      · exact absurd rfl hne
      · exact gones_find h

/-- The values in a loop's slots, handles by numbers of their own: those of the base first. -/
structure LI (C : Tab) where
  vs : List SV
  nb : Nat
  os : List (SO C)
def LI.st (slots : List Nat) (i : LI C) : LS C := ⟨zipT slots i.vs, numH 0 i.os, i.os.length⟩
structure Keeps (nb : Nat) (os os1 : List (SO C)) : Prop where
  le : nb ≤ os1.length
  lo : ∀ (j : Nat) (o : SO C), os1[j]? = some o → j < nb → ∃ o0, os[j]? = some o0 ∧ (o.owns = true → o0.owns = true) ∧ (o.live = true → o0.live = true)
  hi : ∀ (j : Nat) (o : SO C), os1[j]? = some o → nb ≤ j → o.owns = true ∨ o.live = false
abbrev LoopFn (C : Tab) := LI C → Tr (Ex × List SV × List (SO C))
def loopS (bs ks : List Nat) (F : LoopFn C) : Tm → Hp C → Nat → LT C := fun tm hp n => match getAll bs tm, getAll ks tm with
  | some bv, some kv => forceIds (reachN hp 1000 (relL bv 0).2 []) fun base => forceIds (relL kv 0).2 fun kids => match noDup (base ++ kids), numL (base ++ kids) (bv ++ kv), objsN (base ++ kids) hp (base ++ kids) with
    | true, some vs, some os => (F ⟨vs, base.length, os⟩).bind fun r =>
      .leaf (r.1, zipT (bs ++ ks) (renL (mapN base n) r.2.1), upHp (mapN base n) (numH 0 r.2.2) ++ (gonesH kids ++ hp), n + (r.2.2.length - base.length))
    | _, _, _ => .fail
  | _, _ => .fail
where
  forceIds (l : List Nat) (k : List Nat → LT C) : LT C := match l with
    | [] => k []
    | i :: r => forceN i fun i => forceIds r fun r => k (i :: r)
theorem forceIds_eq (l : List Nat) (k : List Nat → LT C) : loopS.forceIds l k = k l := by
  induction l generalizing k with
  | nil => rfl
  | cons i r ih => unfold loopS.forceIds; rw [forceN_eq, ih]
theorem getAll_append {tm : Tm} : ∀ {bs ks : List Nat} {bv kv : List SV}, getAll bs tm = some bv → getAll ks tm = some kv → getAll (bs ++ ks) tm = some (bv ++ kv)
  | [], ks, bv, kv, h, h' => by simp only [getAll, Option.some.injEq] at h; subst h; exact h'
  | b :: bs, ks, bv, kv, h, h' => by
    unfold getAll at h
    split at h
    · rename_i v hv
      split at h
      · rename_i l hl
        cases h
        simp only [List.cons_append, getAll, hv, getAll_append hl h']
      · cases h
    · cases h
theorem loopS_ok {N : Nat} {c : Code} {bs ks : List Nat} {F : LoopFn C}
    (hF : ∀ li r, (F li).get = some r → Keeps li.nb li.os r.2.2 ∧ LoopRun P N c li.nb (li.st (bs ++ ks)) fun x T => x = r.1 ∧ T = ⟨zipT (bs ++ ks) r.2.1, numH 0 r.2.2, r.2.2.length⟩) :
    ∀ tm hp n x, (loopS bs ks F tm hp n).get = some x → InLoop P N c tm hp n fun e tm hp n => (e, tm, hp, n) = x := fun tm hp n x h => by
  unfold loopS at h
  split at h
  · rename_i bv kv hbv hkv
    rw [forceIds_eq, forceIds_eq] at h
    generalize reachN hp 1000 (relL bv 0).2 [] = base at *
    generalize (relL kv 0).2 = kids at *
    split at h
    · rename_i vs os hnd hvs hos
      obtain ⟨r, h1, h2⟩ := Tr.get_bind h
      simp only [Tr.get, Option.some.injEq] at h2
      subst h2
      obtain ⟨hk, hrun⟩ := hF _ _ h1
      intro B X ρ w a hN hD RR T b kk cs
      obtain ⟨hlen, hat⟩ := objsN_at hos
      have hlt : ∀ j i, (base ++ kids)[j]? = some i → i < n ∧ ∃ O, find i hp = some O := fun j i hj => by
        have : j < os.length := by rw [hlen]; exact (List.getElem?_eq_some_iff.1 hj).1
        obtain ⟨i', O, g1, g2, _⟩ := hat j _ (List.getElem?_eq_getElem this)
        rw [hj] at g1; cases g1
        obtain ⟨v, hv, _⟩ := RR.obj i _ g2
        refine ⟨?_, O, g2⟩
        by_cases hlt : i < n
        · exact hlt
        · rw [RR.fresh i (by omega)] at hv; cases hv
      have hfd : ∀ j i, (base ++ kids)[j]? = some i → mapN (base ++ kids) n j = i := fun j i hj => by unfold mapN; rw [hj]
      have hfhi : ∀ j, os.length ≤ j → n ≤ mapN (base ++ kids) n j := fun j hj => by
        unfold mapN
        rw [List.getElem?_eq_none (by omega)]
        exact Nat.le_add_right _ _
      have hr : Renum hp (mapN (base ++ kids) n) (numH 0 os) := ⟨fun j o hj => by
        obtain ⟨_, g2⟩ := find_num hj
        rw [Nat.sub_zero] at g2
        obtain ⟨i, O, g3, g4, g5⟩ := hat j o g2
        exact ⟨O, by rw [hfd j i g3]; exact g4, by rw [numO_ren hfd g5]; exact subO.refl _⟩, fun i j oi oj hi hj hij _ _ e => by
        obtain ⟨_, g2⟩ := find_num hi
        obtain ⟨_, g4⟩ := find_num hj
        rw [Nat.sub_zero] at g2 g4
        obtain ⟨x, _, g5, _⟩ := hat i oi g2
        obtain ⟨y, _, g6, _⟩ := hat j oj g4
        rw [hfd i x g5, hfd j y g6] at e
        subst e
        obtain ⟨l1, e1⟩ := List.getElem?_eq_some_iff.1 g5
        obtain ⟨l2, e2⟩ := List.getElem?_eq_some_iff.1 g6
        have hp' := List.pairwise_iff_getElem.1 (noDup_spec hnd)
        rcases Nat.lt_trichotomy i j with hl | hl | hl
        · exact hp' _ _ l1 l2 hl (e1.trans e2.symm)
        · exact hij hl
        · exact hp' _ _ l2 l1 hl (e2.trans e1.symm)⟩
      have RD := RR.down (m := os.length) (nb := base.length) (by rw [hlen]; simp) hr hfhi
      have T' : TmOk (fun i => ρ (mapN (base ++ kids) n i)) (zipT (bs ++ ks) vs) a := fun t sv ht => by
        obtain ⟨v, g1, g2⟩ := T t _ (getAll_zip (getAll_append hbv hkv) (numL_ren hfd _ hvs) t sv ht)
        exact ⟨v, by rw [den_ren]; exact g1, g2⟩
      obtain ⟨e, a', w', ⟨x, T1, ρ1, ⟨rfl, rfl⟩, rfl, g1, g2, R1, T2⟩, harr⟩ := hrun w _ _ w a rfl hN hD RD T' b kk cs
      have hfu : ∀ j, base.length ≤ j → mapN base n j = n + (j - base.length) := fun j hj => by
        unfold mapN
        rw [List.getElem?_eq_none (by omega)]
      have hfb : ∀ j, j < base.length → mapN base n j = mapN (base ++ kids) n j ∧ mapN (base ++ kids) n j < n := fun j hj => by
        have e1 : base[j]? = some (base[j]'hj) := List.getElem?_eq_getElem hj
        have e2 : (base ++ kids)[j]? = some (base[j]'hj) := by rw [List.getElem?_append_left hj]; exact e1
        rw [hfd j _ e2]
        exact ⟨by unfold mapN; rw [e1], (hlt j _ e2).1⟩
      obtain ⟨u1, u2, u3⟩ := RR.up (fu := mapN base n) (hpG := gonesH kids ++ hp) hr hfu hfb (fun x O hx => by
          rw [find_append] at hx
          split at hx
          · rename_i o ho
            cases hx
            obtain ⟨q1, q2⟩ := find_gones ho
            obtain ⟨i, hi⟩ := List.mem_iff_getElem?.1 q2
            exact .inr ⟨q1, (hlt (base.length + i) x (by rw [List.getElem?_append_right (by omega)]; simpa using hi)).2⟩
          · exact .inl hx) R1
        (fun j o hj => by
          obtain ⟨_, q2⟩ := find_num hj
          rw [Nat.sub_zero] at q2
          refine ⟨fun hlt => ?_, fun hge => hk.hi j o q2 hge⟩
          obtain ⟨o0, q3, q4⟩ := hk.lo j o q2 hlt
          exact ⟨o0, by have := num_find (m := 0) q3; rwa [Nat.zero_add] at this, q4⟩)
        (fun j o hj ho => by
          obtain ⟨_, q2⟩ := find_num hj
          rw [Nat.sub_zero] at q2
          by_cases hjb : j < base.length
          · refine .inl ⟨hjb, ?_⟩
            have hl : j < r.2.2.length := Nat.lt_of_lt_of_le hjb hk.le
            have := num_find (m := 0) (List.getElem?_eq_getElem hl)
            rw [Nat.zero_add] at this
            exact ⟨_, this⟩
          · obtain ⟨i, O, q3, q4, q5⟩ := hat j o q2
            refine .inr ?_
            rw [hfd j i q3, find_append]
            rw [List.getElem?_append_right (by omega)] at q3
            rw [gones_find (List.mem_iff_getElem?.2 ⟨_, q3⟩)])
      have e3 : (fun i => backA ρ ρ1 n base.length (mapN base n i)) = ρ1 := funext u3
      refine ⟨_, a', w', ⟨r.1, _, _, _, _, rfl, u2, ⟨by omega, ?_⟩, g1, g2, u1, ?_, rfl⟩, harr⟩
      · exact (List.suffix_append _ _).trans (List.suffix_append _ _)
      · intro t sv ht
        obtain ⟨u, q1, rfl⟩ := find_zip_ren ht
        obtain ⟨v, q2, q3⟩ := T2 t u q1
        exact ⟨v, by rw [← den_ren, e3]; exact q2, q3⟩
    · cases h
  · cases h

/-- The evaluator for any answers. -/
def evalR (A : Ans R) (C : Tab) (P : Program) (sp : SpecT C) (ls : LoopT C) (unr : Nat → Nat → Nat) (d : Nat) : CallF C R := callG A P (toF A sp) (toL A ls) unr (fun d _ => drawS A P (evalT C P sp ls unr d)) d
theorem evalR_ok {A : Ans R} {I : R → Prop} (hA : AnsOk A I) (hp0' : Plain P) (hm : P.follows .mixedOrders = true) {sp : SpecT C} (hs : SpecTOk P sp) {ls : LoopT C} (hl : LoopTOk P ls) {unr : Nat → Nat → Nat} (d : Nat) : CallOk P I (evalR A C P sp ls unr d) :=
  callG_sound hp0' hA (hs.f hA) (hl.f hA) (fun d _ _ => drawS_ok hp0' hm hA (evalT_ok hp0' hm hs hl d)) d
/-- One round of a loop of function g. -/
def roundE (C : Tab) (P : Program) (sp : SpecT C) (ls : LoopT C) (unr : Nat → Nat → Nat) (d g N blk : Nat) (c : Code) (S : LS C) : LT C :=
  codeS (ansT _) P (evalR (ansT _) C P sp ls unr d) (drawS (ansT _) P (evalT C P sp ls unr d)) (toL (ansT _) ls g) N (unr g) c blk (fun x tm hp n => .leaf (x, tm, hp, n)) S.tm S.hp S.n
theorem lps_sub {b b' : Nat} {l : Code} : ∀ {c : Code}, (b, l) ∈ lps b' c → (∀ x, x ∈ lps b l → x ∈ lps b' c)
  | .seq x y, h, z, hz => by
    rcases List.mem_append.1 h with h | h
    · exact List.mem_append_left _ (lps_sub h z hz)
    · exact List.mem_append_right _ (lps_sub h z hz)
  | .cond _ x y, h, z, hz => by
    rcases List.mem_append.1 h with h | h
    · exact List.mem_append_left _ (lps_sub h z hz)
    · exact List.mem_append_right _ (lps_sub h z hz)
  | .block id x, h, z, hz => lps_sub (c := x) h z hz
  | .loop c, h, z, hz => by
    rcases List.mem_cons.1 h with h | h
    · cases h; exact List.mem_cons_of_mem _ hz
    · exact List.mem_cons_of_mem _ (lps_sub h z hz)
  | .skip, h, _, _ => nomatch h
  | .region _ _ _, h, _, _ => nomatch h
  | .rangeFunc .., h, _, _ => nomatch h
  | .exit _, h, _, _ => nomatch h
  | .scope _, h, _, _ => nomatch h
  | .label _, h, _, _ => nomatch h
  | .goto _, h, _, _ => nomatch h
  | .ret, h, _, _ => nomatch h
  | .refuse _, h, _, _ => nomatch h
theorem pickL_sub {blk : Nat} {l : Code} : ∀ {ls : List (Nat × Code)}, l ∈ pickL blk ls → (blk, l) ∈ ls
  | (b, x) :: r, h => by
    unfold pickL at h
    split at h
    · rename_i hb
      cases Nat.eq_of_beq_eq_true hb
      rcases List.mem_cons.1 h with rfl | h
      · exact List.mem_cons_self
      · exact List.mem_cons_of_mem _ (pickL_sub h)
    · exact List.mem_cons_of_mem _ (pickL_sub h)
/-- The induction, over the evaluator. -/
theorem loop_run (hp0 : Plain P) (hm : P.follows .mixedOrders = true) {sp : SpecT C} (hs : SpecTOk P sp) {ls : LoopT C} (hl : LoopTOk P ls) {unr : Nat → Nat → Nat} {d g blk N : Nat} {c : Code} (hc : loopOf P g blk = some (N, c))
    {nb : Nat} {σ : Type} {st : σ → LS C} {Inv : σ → Prop} {μ : σ → Nat} {Q : Ex → LS C → Prop}
    (h : ∀ s, Inv s → ∃ r, (roundE C P sp ls unr d g N blk c (st s)).get = some r ∧ RoundOk nb st Inv μ (μ s) Q r) (s : σ) (hi : Inv s) : LoopRun P N c nb (st s) Q := by
  unfold loopOf at hc
  split at hc
  · rename_i fn hfn
    split at hc
    · rename_i body hb
      split at hc
      · rename_i l hol
        cases hc
        have hmem : (blk, c) ∈ lps 0 body := by
          refine pickL_sub ?_
          unfold onlyL at hol
          split at hol
          · rename_i x hx; cases hol; rw [hx]; exact List.mem_singleton_self _
          · cases hol
        exact loop_ind hp0 (fun x => evalR_ok (ansT_ok x) hp0 hm hs hl d) (fun x => drawS_ok hp0 hm (ansT_ok x) (evalT_ok hp0 hm hs hl d)) (fun x b l' hl' => hl.f (ansT_ok x) g fn body hfn hb b l' (lps_sub hmem _ hl')) h (μ s) s (Nat.le_refl _) hi
      · cases hc
    · cases hc
  · cases hc
end
end Go.Sx
