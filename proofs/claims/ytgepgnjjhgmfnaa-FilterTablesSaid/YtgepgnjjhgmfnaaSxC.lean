/-
  The symbolic evaluator over the model, part C. Own work; nothing here is trusted.
-/
import Derived.Test.YtgepgnjjhgmfnaaSxB
import Derived.ProofKit
import Derived.OpenShut
import Derived.ShutString
import Derived.ChangeOld
import Derived.ChangeSame
import Derived.Below
import Derived.Carry
import Derived.Laws.IdiomRangeMap
import Derived.HandedShaped
/-
  The symbolic evaluator: loops by induction over what stands at their head. Own work; nothing here is trusted.
-/
namespace Go.Sx
noncomputable section
open Go.RowKit

variable {C : Tab} {P : Program} {R : Type}

/-- What stands at a loop's head or behind it. -/
structure LS (C : Tab) where
  tm : Tm
  hp : Hp C
  n : Nat
/-- A state under other numbers: what is left out is forgotten. -/
structure Fits (f : Nat → Nat) (tm : Tm) (hp : Hp C) (n : Nat) (S : LS C) : Prop where
  ren : Renum hp f S.hp
  fresh : ∀ i, S.n ≤ i → n ≤ f i
  tmp : ∀ t sv, find t S.tm = some sv → find t tm = some (renV f sv)

/-- From this state on, the loop's body at the head, the run ends in one of these states; handles below nb are those that there were. -/
def LoopRun (P : Program) (N : Nat) (c : Code) (nb : Nat) (S : LS C) (Q : Ex → LS C → Prop) : Prop :=
  ∀ B X ρ w a, X.nb = nb → a.tmps.size = N → a.defers = [] → Rel B X ρ S.hp S.n w → TmOk ρ S.tm a → ∀ b kk cs, ∃ e a' w',
    (∃ x T ρ', Q x T ∧ e = exitOf x ∧ a'.tmps.size = N ∧ a'.defers = [] ∧ Rel B X ρ' T.hp T.n w' ∧ TmOk ρ' T.tm a') ∧
    Arrives P (lone (b.at a (.code c :: .inLoop c :: kk)) cs w) b kk cs e a' w'

theorem Fits.tmOk {f : Nat → Nat} {tm : Tm} {hp : Hp C} {n : Nat} {S : LS C} (h : Fits f tm hp n S) {ρ : Asg} {a : Act} (T : TmOk ρ tm a) : TmOk (fun i => ρ (f i)) S.tm a := fun t sv ht => by
  obtain ⟨v, h1, h2⟩ := T t _ (h.tmp t sv ht)
  exact ⟨v, by rw [den_ren]; exact h1, h2⟩

/-- From there on it may go on as from this state: in the same world, by other numbers. -/
def Into (nb : Nat) (tm : Tm) (hp : Hp C) (n : Nat) (S : LS C) : Prop :=
  ∀ B X ρ w a, X.nb = nb → Rel B X ρ hp n w → TmOk ρ tm a → ∃ ρ', Rel B X ρ' S.hp S.n w ∧ TmOk ρ' S.tm a
theorem Fits.into {f : Nat → Nat} {tm : Tm} {hp : Hp C} {n : Nat} {S : LS C} {nb : Nat} (h : Fits f tm hp n S) (hb : ∀ i, i < nb → f i = i) (hn : nb ≤ S.n) : Into nb tm hp n S := fun B X ρ w a hX RR T =>
  ⟨fun i => ρ (f i), RR.ren h.ren (by rw [hX]; exact hn) (fun i hi => hb i (by rw [← hX]; exact hi)) h.fresh, h.tmOk T⟩

/-- One round, told by a tree: it goes on in a lesser state, or ends. -/
inductive RoundOk (nb : Nat) {σ : Type} (st : σ → LS C) (Inv : σ → Prop) (μ : σ → Nat) (m : Nat) (Q : Ex → LS C → Prop) : Ex × Tm × Hp C × Nat → Prop
  | next (s : σ) (tm : Tm) (hp : Hp C) (n : Nat) (hs : Inv s) (hm : μ s < m) (hf : Into nb tm hp n (st s)) : RoundOk nb st Inv μ m Q (.normal, tm, hp, n)
  | stop (x : Ex) (T : LS C) (tm : Tm) (hp : Hp C) (n : Nat) (hx : ∀ y, x = y → exitOf y ≠ .normal) (hq : Q x T) (hf : Into nb tm hp n T) : RoundOk nb st Inv μ m Q (x, tm, hp, n)

/-- How a round is reckoned. -/
def roundT (P : Program) (call : CallF C (OT C)) (il : Nat → LoopF C (LT C)) (callL : CallF C (LT C)) (dr : DrawF C (LT C)) (N : Nat) (unr : Nat → Nat) (c : Code) (blk : Nat) (S : LS C) : LT C :=
  codeS (ansT _) P callL dr il N unr c blk (fun x tm hp n => .leaf (x, tm, hp, n)) S.tm S.hp S.n

theorem loop_ind (hp0 : Plain P) {callL : CallF C (LT C)} {dr : DrawF C (LT C)} {il : Nat → LoopF C (LT C)} {N : Nat} {unr : Nat → Nat} {c : Code} {blk : Nat}
    (hc : ∀ x, CallOk P (fun y : LT C => y.get = some x) callL) (hd : ∀ x, DrawOk P (fun y : LT C => y.get = some x) dr) (hl : ∀ x b l, (b, l) ∈ lps blk c → LoopOkAt P (fun y : LT C => y.get = some x) N l (il b N l))
    {nb : Nat} {σ : Type} {st : σ → LS C} {Inv : σ → Prop} {μ : σ → Nat} {Q : Ex → LS C → Prop}
    (h : ∀ s, Inv s → ∃ r, (codeS (ansT _) P callL dr il N unr c blk (fun x tm hp n => .leaf (x, tm, hp, n)) (st s).tm (st s).hp (st s).n).get = some r ∧ RoundOk nb st Inv μ (μ s) Q r) :
    ∀ m s, μ s ≤ m → Inv s → LoopRun P N c nb (st s) Q := by
  intro m
  induction m with
  | zero =>
    intro s hm hs B X ρ w a hX hN hD RR T b kk cs
    obtain ⟨r, h1, h2⟩ := h s hs
    obtain ⟨e₁, a₁, w₁, hq, harr⟩ := codeS_sound (I := fun y : LT C => y.get = some r) hp0 (ansT_ok r) (hc r) (hd r) c blk (hl r) _ _ _ _ B X ρ w a h1 hN hD RR T b (.inLoop c :: kk) cs
    obtain ⟨x, ρ', tm', hp', n', rfl, g1, g2, g3, g4, g5, g6, g7⟩ := hq
    simp only [Tr.get, Option.some.injEq] at g7
    subst g7
    cases h2 with
    | next s' _ _ _ _ hlt => omega
    | stop _ T _ _ _ hx hq hf =>
      obtain ⟨ρ2, r1, r2⟩ := hf B X ρ' _ _ hX g5 g6
      refine ⟨_, a₁, w₁, ⟨x, T, ρ2, hq, rfl, g3, g4, r1, r2⟩, .pass (x := .inLoop c) rfl (fun _ _ => .inl (hx x rfl)) harr⟩
  | succ m ih =>
    intro s hm hs B X ρ w a hX hN hD RR T b kk cs
    obtain ⟨r, h1, h2⟩ := h s hs
    obtain ⟨e₁, a₁, w₁, hq, harr⟩ := codeS_sound (I := fun y : LT C => y.get = some r) hp0 (ansT_ok r) (hc r) (hd r) c blk (hl r) _ _ _ _ B X ρ w a h1 hN hD RR T b (.inLoop c :: kk) cs
    obtain ⟨x, ρ', tm', hp', n', rfl, g1, g2, g3, g4, g5, g6, g7⟩ := hq
    simp only [Tr.get, Option.some.injEq] at g7
    subst g7
    cases h2 with
    | next s' _ _ _ hs' hlt hf =>
      obtain ⟨ρ2, r1, r2⟩ := hf B X ρ' _ _ hX g5 g6
      obtain ⟨e₂, a₂, w₂, hq₂, harr₂⟩ := ih s' (by omega) hs' B X ρ2 w₁ a₁ hX g3 g4 r1 r2 b kk cs
      exact ⟨e₂, a₂, w₂, hq₂, .of_steps (Steps.trans harr (.one step_inLoop)) harr₂⟩
    | stop _ T _ _ _ hx hq hf =>
      obtain ⟨ρ2, r1, r2⟩ := hf B X ρ' _ _ hX g5 g6
      refine ⟨_, a₁, w₁, ⟨x, T, ρ2, hq, rfl, g3, g4, r1, r2⟩, .pass (x := .inLoop c) rfl (fun _ _ => .inl (hx x rfl)) harr⟩

/-! A loop of a function, told by what it makes of the values in its slots. -/
def getAll : List Nat → Tm → Option (List SV)
  | [], _ => some []
  | t :: r, tm => match find t tm with
    | some v => match getAll r tm with
      | some l => some (v :: l)
      | none => none
    | none => none
def zipT : List Nat → List SV → Tm
  | t :: r, v :: l => (t, v) :: zipT r l
  | _, _ => []
theorem getAll_zip {f : Nat → Nat} {tm : Tm} : ∀ {ts : List Nat} {l vs : List SV}, getAll ts tm = some l → renL f vs = l → ∀ t sv, find t (zipT ts vs) = some sv → find t tm = some (renV f sv)
  | [], l, vs, _, _, t, sv, h => by simp [zipT, find] at h
  | u :: r, l, vs, h, hv, t, sv, ht => by
    unfold getAll at h
    split at h
    · rename_i v hu
      split at h
      · rename_i l' hl
        cases h
        match vs, hv with
        | x :: vs, hv =>
          simp only [renL, List.cons.injEq] at hv
          unfold zipT at ht
          rw [find_cons] at ht
          split at ht
          · rename_i e; subst e; cases ht; rw [hu, hv.1]
          · exact getAll_zip hl hv.2 t sv ht
      · cases h
    · cases h
theorem find_zip_ren {f : Nat → Nat} {t : Nat} : ∀ {ts : List Nat} {vs : List SV} {sv : SV}, find t (zipT ts (renL f vs)) = some sv → ∃ u, find t (zipT ts vs) = some u ∧ sv = renV f u
  | [], vs, sv, h => by cases vs <;> simp [zipT, find, renL] at h
  | u :: r, [], sv, h => by simp [zipT, find, renL] at h
  | u :: r, x :: vs, sv, h => by
    simp only [renL, zipT] at h ⊢
    rw [find_cons] at h
    rw [find_cons]
    split at h
    · rename_i e; cases h; rw [if_pos e]; exact ⟨x, rfl, rfl⟩
    · rename_i e; rw [if_neg e]; exact find_zip_ren h

def posN (i : Nat) : List Nat → Nat → Option Nat
  | [], _ => none
  | j :: r, k => match Nat.beq i j with
    | true => some k
    | false => posN i r (k + 1)
theorem posN_at {i k' : Nat} : ∀ {ids : List Nat} {k : Nat}, posN i ids k = some k' → ∃ j, k' = k + j ∧ ids[j]? = some i
  | j :: r, k, h => by
    unfold posN at h
    split at h
    · rename_i hb; cases h; exact ⟨0, rfl, by rw [Nat.eq_of_beq_eq_true hb]; rfl⟩
    · obtain ⟨m, h1, h2⟩ := posN_at h; exact ⟨m + 1, by omega, by simpa using h2⟩
mutual
def numV (ids : List Nat) : SV → Option SV
  | .raw v => some (.raw v)
  | .h i => match posN i ids 0 with
    | some j => some (.h j)
    | none => none
  | .ep i o => match posN i ids 0 with
    | some j => some (.ep j o)
    | none => none
  | .bs i o l c => match posN i ids 0 with
    | some j => some (.bs j o l c)
    | none => none
  | .vs i s b o l c => match posN i ids 0 with
    | some j => some (.vs j s b o l c)
    | none => none
  | .el i a s q => match posN i ids 0 with
    | some j => some (.el j a s q)
    | none => none
  | .agg cs => match numL ids cs with
    | some l => some (.agg l)
    | none => none
  | .tup cs => match numL ids cs with
    | some l => some (.tup l)
    | none => none
  | .fn g cs => match numL ids cs with
    | some l => some (.fn g l)
    | none => none
def numL (ids : List Nat) : List SV → Option (List SV)
  | [] => some []
  | v :: r => match numV ids v with
    | some x => match numL ids r with
      | some l => some (x :: l)
      | none => none
    | none => none
end
mutual
theorem numV_ren {f : Nat → Nat} {ids : List Nat} (hf : ∀ j i, ids[j]? = some i → f j = i) : ∀ (v : SV) {v' : SV}, numV ids v = some v' → renV f v' = v
  | .raw _, _, h => by simp only [numV, Option.some.injEq] at h; subst h; rfl
  | .h i, _, h => by
    simp only [numV] at h; split at h
    · rename_i j hj; cases h; obtain ⟨m, h1, h2⟩ := posN_at hj; simp only [renV, h1, Nat.zero_add, hf m i h2]
    · cases h
  | .ep i o, _, h => by
    simp only [numV] at h; split at h
    · rename_i j hj; cases h; obtain ⟨m, h1, h2⟩ := posN_at hj; simp only [renV, h1, Nat.zero_add, hf m i h2]
    · cases h
  | .bs i o l c, _, h => by
    simp only [numV] at h; split at h
    · rename_i j hj; cases h; obtain ⟨m, h1, h2⟩ := posN_at hj; simp only [renV, h1, Nat.zero_add, hf m i h2]
    · cases h
  | .vs i s b o l c, _, h => by
    simp only [numV] at h; split at h
    · rename_i j hj; cases h; obtain ⟨m, h1, h2⟩ := posN_at hj; simp only [renV, h1, Nat.zero_add, hf m i h2]
    · cases h
  | .el i a s q, _, h => by
    simp only [numV] at h; split at h
    · rename_i j hj; cases h; obtain ⟨m, h1, h2⟩ := posN_at hj; simp only [renV, h1, Nat.zero_add, hf m i h2]
    · cases h
  | .agg cs, _, h => by
    simp only [numV] at h; split at h
    · rename_i l hl; cases h; simp only [renV, numL_ren hf cs hl]
    · cases h
  | .tup cs, _, h => by
    simp only [numV] at h; split at h
    · rename_i l hl; cases h; simp only [renV, numL_ren hf cs hl]
    · cases h
  | .fn g cs, _, h => by
    simp only [numV] at h; split at h
    · rename_i l hl; cases h; simp only [renV, numL_ren hf cs hl]
    · cases h
theorem numL_ren {f : Nat → Nat} {ids : List Nat} (hf : ∀ j i, ids[j]? = some i → f j = i) : ∀ (l : List SV) {l' : List SV}, numL ids l = some l' → renL f l' = l
  | [], _, h => by simp only [numL, Option.some.injEq] at h; subst h; rfl
  | v :: r, _, h => by
    simp only [numL] at h
    split at h
    · rename_i x hx
      split at h
      · rename_i l hl; cases h; simp only [renL, numV_ren hf v hx, numL_ren hf r hl]
      · cases h
    · cases h
end
def numO (ids : List Nat) : SO C → Option (SO C)
  | .box cs t => match numL ids cs with
    | some l => some (.box l t)
    | none => none
  | .sl own full e ts => some (.sl own full e ts)
  | .mp k vt m => some (.mp k vt m)
  | .mv k ag vt ks vs => match numL ids vs with
    | some l => some (.mv k ag vt ks l)
    | none => none
  | .ss e pos it ts => some (.ss e pos it ts)
  | .gone => some .gone
theorem numO_ren {f : Nat → Nat} {ids : List Nat} (hf : ∀ j i, ids[j]? = some i → f j = i) {o o' : SO C} (h : numO ids o = some o') : renO f o' = o := by
  unfold numO at h
  split at h
  · split at h
    · rename_i l hl; cases h; simp only [renO, numL_ren hf _ hl]
    · cases h
  · cases h; rfl
  · cases h; rfl
  · split at h
    · rename_i l hl; cases h; simp only [renO, numL_ren hf _ hl]
    · cases h
  · cases h; rfl
  · cases h; rfl
theorem numO_owns {ids : List Nat} {o o' : SO C} (h : numO ids o = some o') : o'.owns = o.owns := by
  cases o with
  | box cs t =>
    simp only [numO] at h
    split at h
    · cases h; rfl
    · cases h
  | sl own full e ts => simp only [numO] at h; cases h; rfl
  | mp k vt m => simp only [numO] at h; cases h; rfl
  | mv k ag len ks vs =>
    simp only [numO] at h
    split at h
    · cases h; rfl
    · cases h
  | ss e pos it ts => simp only [numO] at h; cases h; rfl
  | gone => simp only [numO] at h; cases h; rfl
def objsN (ids : List Nat) (hp : Hp C) : List Nat → Option (List (SO C))
  | [] => some []
  | i :: r => match find i hp with
    | some o => match numO ids o with
      | some x => match objsN ids hp r with
        | some l => some (x :: l)
        | none => none
      | none => none
    | none => none
theorem objsN_at {ids : List Nat} {hp : Hp C} : ∀ {is : List Nat} {os : List (SO C)}, objsN ids hp is = some os → os.length = is.length ∧ ∀ (j : Nat) (o : SO C), os[j]? = some o → ∃ i O, is[j]? = some i ∧ find i hp = some O ∧ numO ids O = some o
  | [], os, h => by simp only [objsN, Option.some.injEq] at h; subst h; exact ⟨rfl, fun j o h => by simp at h⟩
  | i :: r, os, h => by
    unfold objsN at h
    split at h
    · rename_i O hO
      split at h
      · rename_i x hx
        split at h
        · rename_i l hl
          cases h
          obtain ⟨h1, h2⟩ := objsN_at hl
          refine ⟨by simp [h1], fun j o hj => ?_⟩
          match j with
          | 0 => simp at hj; subst hj; exact ⟨i, O, rfl, hO, hx⟩
          | j + 1 => simpa using h2 j o (by simpa using hj)
        · cases h
      · cases h
    · cases h
/-- What is reached from handles; a guess, nothing leans on it. -/
def boxHs : SO C → List Nat
  | .box cs _ => hsL cs
  | .mv _ _ _ _ cs => hsL cs
  | _ => []
def hsAllV : SV → List Nat
  | .h i => [i]
  | .ep i _ => [i]
  | .bs i _ _ _ => [i]
  | .vs i _ _ _ _ _ => [i]
  | .el i _ _ _ => [i]
  | _ => []
def reachN (hp : Hp C) : Nat → List Nat → List Nat → List Nat
  | 0, _, acc => acc.reverse
  | _, [], acc => acc.reverse
  | f + 1, i :: r, acc => match memN i acc with
    | true => reachN hp f r acc
    | false => match find i hp with
      | some (.box cs _) => reachN hp f (r ++ (relL cs 0).2) (i :: acc)
      | some (.mv _ _ _ _ cs) => reachN hp f (r ++ (relL cs 0).2) (i :: acc)
      | _ => reachN hp f r (i :: acc)
def noDup : List Nat → Bool
  | [] => true
  | i :: r => match memN i r with
    | true => false
    | false => noDup r
theorem noDup_spec : ∀ {l : List Nat}, noDup l = true → l.Nodup
  | [], _ => List.nodup_nil
  | i :: r, h => by
    unfold noDup at h
    split at h
    · cases h
    · rename_i hm
      refine List.nodup_cons.2 ⟨fun hi => ?_, noDup_spec h⟩
      rw [memN_mem hi] at hm; cases hm
def gonesH : List Nat → Hp C
  | [] => []
  | i :: r => (i, .gone) :: gonesH r
theorem find_gones {x : Nat} {O : SO C} : ∀ {l : List Nat}, find x (gonesH l) = some O → O = .gone ∧ x ∈ l
  | i :: r, h => by
    unfold gonesH at h
    rw [find_cons] at h
    split at h
    · rename_i e; subst e; cases h; exact ⟨rfl, List.mem_cons_self⟩
    · exact ⟨(find_gones h).1, List.mem_cons_of_mem _ (find_gones h).2⟩
theorem gones_find {x : Nat} : ∀ {l : List Nat}, x ∈ l → find x (gonesH (C := C) l) = some .gone
  | i :: r, h => by
    unfold gonesH
    rw [find_cons]
    split
    · rfl
    · rename_i hne
      rcases List.mem_cons.1 h with rfl | h
      · exact absurd rfl hne
      · exact gones_find h

/-- The values in a loop's slots, handles by numbers of their own: those of the base first. -/
structure LI (C : Tab) where
  vs : List SV
  nb : Nat
  os : List (SO C)
def LI.st (slots : List Nat) (i : LI C) : LS C := ⟨zipT slots i.vs, numH 0 i.os, i.os.length⟩
structure Keeps (nb : Nat) (os os1 : List (SO C)) : Prop where
  le : nb ≤ os1.length
  lo : ∀ (j : Nat) (o : SO C), os1[j]? = some o → j < nb → ∃ o0, os[j]? = some o0 ∧ (o.owns = true → o0.owns = true) ∧ (o.live = true → o0.live = true)
abbrev LoopFn (C : Tab) := LI C → Tr (Ex × List SV × List (SO C))
def loopS (bs ks : List Nat) (F : LoopFn C) : Tm → Hp C → Nat → LT C := fun tm hp n => match getAll bs tm, getAll ks tm with
  | some bv, some kv => forceIds (reachN hp 1000 (relL bv 0).2 []) fun base => forceIds (relL kv 0).2 fun kids => match noDup (base ++ kids), numL (base ++ kids) (bv ++ kv), objsN (base ++ kids) hp (base ++ kids) with
    | true, some vs, some os => (F ⟨vs, base.length, os⟩).bind fun r =>
      .leaf (r.1, zipT (bs ++ ks) (renL (mapN base n) r.2.1), upHp (mapN base n) (numH 0 r.2.2) ++ (gonesH kids ++ hp), n + (r.2.2.length - base.length))
    | _, _, _ => .fail
  | _, _ => .fail
where
  forceIds (l : List Nat) (k : List Nat → LT C) : LT C := match l with
    | [] => k []
    | i :: r => forceN i fun i => forceIds r fun r => k (i :: r)
theorem forceIds_eq (l : List Nat) (k : List Nat → LT C) : loopS.forceIds l k = k l := by
  induction l generalizing k with
  | nil => rfl
  | cons i r ih => unfold loopS.forceIds; rw [forceN_eq, ih]
theorem getAll_append {tm : Tm} : ∀ {bs ks : List Nat} {bv kv : List SV}, getAll bs tm = some bv → getAll ks tm = some kv → getAll (bs ++ ks) tm = some (bv ++ kv)
  | [], ks, bv, kv, h, h' => by simp only [getAll, Option.some.injEq] at h; subst h; exact h'
  | b :: bs, ks, bv, kv, h, h' => by
    unfold getAll at h
    split at h
    · rename_i v hv
      split at h
      · rename_i l hl
        cases h
        simp only [List.cons_append, getAll, hv, getAll_append hl h']
      · cases h
    · cases h
theorem loopS_ok {N : Nat} {c : Code} {bs ks : List Nat} {F : LoopFn C}
    (hF : ∀ li r, (F li).get = some r → Keeps li.nb li.os r.2.2 ∧ LoopRun P N c li.nb (li.st (bs ++ ks)) fun x T => x = r.1 ∧ T = ⟨zipT (bs ++ ks) r.2.1, numH 0 r.2.2, r.2.2.length⟩) :
    ∀ tm hp n x, (loopS bs ks F tm hp n).get = some x → InLoop P N c tm hp n fun e tm hp n => (e, tm, hp, n) = x := fun tm hp n x h => by
  unfold loopS at h
  split at h
  · rename_i bv kv hbv hkv
    rw [forceIds_eq, forceIds_eq] at h
    generalize reachN hp 1000 (relL bv 0).2 [] = base at *
    generalize (relL kv 0).2 = kids at *
    split at h
    · rename_i vs os hnd hvs hos
      obtain ⟨r, h1, h2⟩ := Tr.get_bind h
      simp only [Tr.get, Option.some.injEq] at h2
      subst h2
      obtain ⟨hk, hrun⟩ := hF _ _ h1
      intro B X ρ w a hN hD RR T b kk cs
      obtain ⟨hlen, hat⟩ := objsN_at hos
      have hlt : ∀ j i, (base ++ kids)[j]? = some i → i < n ∧ ∃ O, find i hp = some O := fun j i hj => by
        have : j < os.length := by rw [hlen]; exact (List.getElem?_eq_some_iff.1 hj).1
        obtain ⟨i', O, g1, g2, _⟩ := hat j _ (List.getElem?_eq_getElem this)
        rw [hj] at g1; cases g1
        obtain ⟨v, hv, _⟩ := RR.obj i _ g2
        refine ⟨?_, O, g2⟩
        by_cases hlt : i < n
        · exact hlt
        · rw [RR.fresh i (by omega)] at hv; cases hv
      have hfd : ∀ j i, (base ++ kids)[j]? = some i → mapN (base ++ kids) n j = i := fun j i hj => by unfold mapN; rw [hj]
      have hfhi : ∀ j, os.length ≤ j → n ≤ mapN (base ++ kids) n j := fun j hj => by
        unfold mapN
        rw [List.getElem?_eq_none (by omega)]
        exact Nat.le_add_right _ _
      have hr : Renum hp (mapN (base ++ kids) n) (numH 0 os) := ⟨fun j o hj => by
        obtain ⟨_, g2⟩ := find_num hj
        rw [Nat.sub_zero] at g2
        obtain ⟨i, O, g3, g4, g5⟩ := hat j o g2
        exact ⟨O, by rw [hfd j i g3]; exact g4, by rw [numO_ren hfd g5]; exact subO.refl _⟩, fun i j oi oj hi hj hij _ _ e => by
        obtain ⟨_, g2⟩ := find_num hi
        obtain ⟨_, g4⟩ := find_num hj
        rw [Nat.sub_zero] at g2 g4
        obtain ⟨x, _, g5, _⟩ := hat i oi g2
        obtain ⟨y, _, g6, _⟩ := hat j oj g4
        rw [hfd i x g5, hfd j y g6] at e
        subst e
        obtain ⟨l1, e1⟩ := List.getElem?_eq_some_iff.1 g5
        obtain ⟨l2, e2⟩ := List.getElem?_eq_some_iff.1 g6
        have hp' := List.pairwise_iff_getElem.1 (noDup_spec hnd)
        rcases Nat.lt_trichotomy i j with hl | hl | hl
        · exact hp' _ _ l1 l2 hl (e1.trans e2.symm)
        · exact hij hl
        · exact hp' _ _ l2 l1 hl (e2.trans e1.symm)⟩
      have RD := RR.down (m := os.length) (nb := base.length) (by rw [hlen]; simp) hr hfhi
      have T' : TmOk (fun i => ρ (mapN (base ++ kids) n i)) (zipT (bs ++ ks) vs) a := fun t sv ht => by
        obtain ⟨v, g1, g2⟩ := T t _ (getAll_zip (getAll_append hbv hkv) (numL_ren hfd _ hvs) t sv ht)
        exact ⟨v, by rw [den_ren]; exact g1, g2⟩
      obtain ⟨e, a', w', ⟨x, T1, ρ1, ⟨rfl, rfl⟩, rfl, g1, g2, R1, T2⟩, harr⟩ := hrun w _ _ w a rfl hN hD RD T' b kk cs
      have hfu : ∀ j, base.length ≤ j → mapN base n j = n + (j - base.length) := fun j hj => by
        unfold mapN
        rw [List.getElem?_eq_none (by omega)]
      have hfb : ∀ j, j < base.length → mapN base n j = mapN (base ++ kids) n j ∧ mapN (base ++ kids) n j < n := fun j hj => by
        have e1 : base[j]? = some (base[j]'hj) := List.getElem?_eq_getElem hj
        have e2 : (base ++ kids)[j]? = some (base[j]'hj) := by rw [List.getElem?_append_left hj]; exact e1
        rw [hfd j _ e2]
        exact ⟨by unfold mapN; rw [e1], (hlt j _ e2).1⟩
      obtain ⟨u1, u2, u3⟩ := RR.up (fu := mapN base n) (hpG := gonesH kids ++ hp) hr hfu hfb (fun x O hx => by
          rw [find_append] at hx
          split at hx
          · rename_i o ho
            cases hx
            obtain ⟨q1, q2⟩ := find_gones ho
            obtain ⟨i, hi⟩ := List.mem_iff_getElem?.1 q2
            exact .inr ⟨q1, (hlt (base.length + i) x (by rw [List.getElem?_append_right (by omega)]; simpa using hi)).2⟩
          · exact .inl hx) R1
        (fun j o hj => by
          obtain ⟨_, q2⟩ := find_num hj
          rw [Nat.sub_zero] at q2
          refine ⟨fun hlt => ?_, fun hge => .inr (.inr fun j' o' O hj' _ ho' hO => ?_)⟩
          rotate_left
          · obtain ⟨_, s2⟩ := find_num hj'
            rw [Nat.sub_zero] at s2
            obtain ⟨i, O', s3, s4, s5⟩ := hat j' o' s2
            rw [hfd j' i s3, s4] at hO
            cases hO
            rw [← numO_owns s5]; exact ho'
          obtain ⟨o0, q3, q4⟩ := hk.lo j o q2 hlt
          exact ⟨o0, by have := num_find (m := 0) q3; rwa [Nat.zero_add] at this, q4⟩)
        (fun j o hj ho => by
          obtain ⟨_, q2⟩ := find_num hj
          rw [Nat.sub_zero] at q2
          by_cases hjb : j < base.length
          · refine .inl ⟨hjb, ?_⟩
            have hl : j < r.2.2.length := Nat.lt_of_lt_of_le hjb hk.le
            have := num_find (m := 0) (List.getElem?_eq_getElem hl)
            rw [Nat.zero_add] at this
            exact ⟨_, this⟩
          · obtain ⟨i, O, q3, q4, q5⟩ := hat j o q2
            refine .inr ?_
            rw [hfd j i q3, find_append]
            rw [List.getElem?_append_right (by omega)] at q3
            rw [gones_find (List.mem_iff_getElem?.2 ⟨_, q3⟩)])
      have e3 : (fun i => backA ρ ρ1 n base.length (mapN base n i)) = ρ1 := funext u3
      refine ⟨_, a', w', ⟨r.1, _, _, _, _, rfl, u2, ⟨by omega, ?_⟩, g1, g2, u1, ?_, rfl⟩, harr⟩
      · exact (List.suffix_append _ _).trans (List.suffix_append _ _)
      · intro t sv ht
        obtain ⟨u, q1, rfl⟩ := find_zip_ren ht
        obtain ⟨v, q2, q3⟩ := T2 t u q1
        exact ⟨v, by rw [← den_ren, e3]; exact q2, q3⟩
    · cases h
  · cases h

/-- The evaluator for any answers. -/
def evalR (A : Ans R) (C : Tab) (P : Program) (sp : SpecT C) (ls : LoopT C) (unr : Nat → Nat → Nat) (d : Nat) : CallF C R := callG A P (toF A sp) (toL A ls) unr (fun d _ => drawS A P (evalT C P sp ls unr d)) d
theorem evalR_ok {A : Ans R} {I : R → Prop} (hA : AnsOk A I) (hp0' : Plain P) (hm : P.follows .mixedOrders = true) {sp : SpecT C} (hs : SpecTOk P sp) {ls : LoopT C} (hl : LoopTOk P ls) {unr : Nat → Nat → Nat} (d : Nat) : CallOk P I (evalR A C P sp ls unr d) :=
  callG_sound hp0' hA (hs.f hA) (hl.f hA) (fun d _ _ => drawS_ok hp0' hm hA (evalT_ok hp0' hm hs hl d)) d
/-- One round of a loop of function g. -/
def roundE (C : Tab) (P : Program) (sp : SpecT C) (ls : LoopT C) (unr : Nat → Nat → Nat) (d g N blk : Nat) (c : Code) (S : LS C) : LT C :=
  codeS (ansT _) P (evalR (ansT _) C P sp ls unr d) (drawS (ansT _) P (evalT C P sp ls unr d)) (toL (ansT _) ls g) N (unr g) c blk (fun x tm hp n => .leaf (x, tm, hp, n)) S.tm S.hp S.n
theorem lps_sub {b b' : Nat} {l : Code} : ∀ {c : Code}, (b, l) ∈ lps b' c → (∀ x, x ∈ lps b l → x ∈ lps b' c)
  | .seq x y, h, z, hz => by
    rcases List.mem_append.1 h with h | h
    · exact List.mem_append_left _ (lps_sub h z hz)
    · exact List.mem_append_right _ (lps_sub h z hz)
  | .cond _ x y, h, z, hz => by
    rcases List.mem_append.1 h with h | h
    · exact List.mem_append_left _ (lps_sub h z hz)
    · exact List.mem_append_right _ (lps_sub h z hz)
  | .block id x, h, z, hz => lps_sub (c := x) h z hz
  | .loop c, h, z, hz => by
    rcases List.mem_cons.1 h with h | h
    · cases h; exact List.mem_cons_of_mem _ hz
    · exact List.mem_cons_of_mem _ (lps_sub h z hz)
  | .skip, h, _, _ => nomatch h
  | .region _ _ _, h, _, _ => nomatch h
  | .rangeFunc .., h, _, _ => nomatch h
  | .exit _, h, _, _ => nomatch h
  | .scope _, h, _, _ => nomatch h
  | .label _, h, _, _ => nomatch h
  | .goto _, h, _, _ => nomatch h
  | .ret, h, _, _ => nomatch h
  | .refuse _, h, _, _ => nomatch h
theorem pickL_sub {blk : Nat} {l : Code} : ∀ {ls : List (Nat × Code)}, l ∈ pickL blk ls → (blk, l) ∈ ls
  | (b, x) :: r, h => by
    unfold pickL at h
    split at h
    · rename_i hb
      cases Nat.eq_of_beq_eq_true hb
      rcases List.mem_cons.1 h with rfl | h
      · exact List.mem_cons_self
      · exact List.mem_cons_of_mem _ (pickL_sub h)
    · exact List.mem_cons_of_mem _ (pickL_sub h)
/-- The induction, over the evaluator. -/
theorem loop_run (hp0 : Plain P) (hm : P.follows .mixedOrders = true) {sp : SpecT C} (hs : SpecTOk P sp) {ls : LoopT C} (hl : LoopTOk P ls) {unr : Nat → Nat → Nat} {d g blk N : Nat} {c : Code} (hc : loopOf P g blk = some (N, c))
    {nb : Nat} {σ : Type} {st : σ → LS C} {Inv : σ → Prop} {μ : σ → Nat} {Q : Ex → LS C → Prop}
    (h : ∀ s, Inv s → ∃ r, (roundE C P sp ls unr d g N blk c (st s)).get = some r ∧ RoundOk nb st Inv μ (μ s) Q r) (s : σ) (hi : Inv s) : LoopRun P N c nb (st s) Q := by
  unfold loopOf at hc
  split at hc
  · rename_i fn hfn
    split at hc
    · rename_i body hb
      split at hc
      · rename_i l hol
        cases hc
        have hmem : (blk, c) ∈ lps 0 body := by
          refine pickL_sub ?_
          unfold onlyL at hol
          split at hol
          · rename_i x hx; cases hol; rw [hx]; exact List.mem_singleton_self _
          · cases hol
        exact loop_ind hp0 (fun x => evalR_ok (ansT_ok x) hp0 hm hs hl d) (fun x => drawS_ok hp0 hm (ansT_ok x) (evalT_ok hp0 hm hs hl d)) (fun x b l' hl' => hl.f (ansT_ok x) g fn body hfn hb b l' (lps_sub hmem _ hl')) h (μ s) s (Nat.le_refl _) hi
      · cases hc
    · cases hc
  · cases hc
end
end Go.Sx

/-
  The symbolic evaluator: owned slices laid open, parts of them made slices of their own; functions that take their slices over. Own work; nothing here is trusted.
-/
namespace Go.Sx
noncomputable section
open Go.RowKit

variable {C : Tab} {P : Program} {R : Type}

section rel
variable {B : World} {X : Own} {ρ : Asg} {hp : Hp C} {n : Nat} {w : World}

/-- Another handle to what one owner has, the owner given up. -/
theorem Rel.swap (R : Rel B X ρ hp n w) {id : Nat} {o o' : SO C} {v v' : Value} (hi : find id hp = some o) (hv : ρ id = some v) (hown : o.owns = true) (hone : v'.oneCell' = true) (hb : ∀ g, blk v' = some g → blk v = some g)
    (hok : okObj ρ w (okB B X) v' o') (hnn : o'.isSl = true → nnV v' = true) (hin : InnO B X o' := by exact trivial) : Rel B X (ρ.add n v') ((n, o') :: (id, .gone) :: hp) (n + 1) w := by
  have hl : o.live = true := live_of_owns hown
  have Rg := R.gone id hv
  refine Rg.add hone hok (fun g hg => R.blkOk id _ _ g hi hl hv (hb g hg)) (fun j oj vj g hj hlj hvj hgj hg => ?_) (fun g hg => R.prov id _ _ g hi hl hv (hb g hg)) hnn hin
  rw [find_cons] at hj
  split at hj
  · simp at hj; subst hj; simp [SO.live] at hlj
  · rename_i hji
    exact absurd hgj (R.sep id j o oj v vj g (Ne.symm hji) hi hj hown hlj hv hvj (hb g hg))

/-- All that an owned slice may hold. -/
theorem Rel.open1 (R : Rel B X ρ hp n w) {id : Nat} {full : Bool} {e : TypeId} {ts : List (C e).α} {v : Value} (hi : find id hp = some (.sl true full e ts)) (hv : ρ id = some v) :
    ∃ tc : List (C e).α, tc.take ts.length = ts ∧ ts.length ≤ tc.length ∧ ∃ u, Rel B X (ρ.add n u) ((n, .sl true true e tc) :: (id, .gone) :: hp) (n + 1) w ∧ den (ρ.add n u) (.vs n (C e).sz 0 0 ts.length none) = some v := by
  obtain ⟨v', hv', a, c, rfl, h1, h2, g, tot, rfl, hok, hheap, hcapt, htake⟩ := R.obj id _ hi
  rw [hv] at hv'; cases hv'
  have hl : (tot.take c).length = c := by rw [List.length_take]; omega
  refine ⟨tot.take c, ?_, by rw [hl]; exact h1, .slice (some ⟨g, 0, none⟩) c c, ?_, ?_⟩
  · rw [List.take_take, Nat.min_eq_left h1]; exact htake
  · refine R.swap hi hv rfl rfl (fun g' hg' => hg') ⟨_, c, by rw [hl], by rw [hl]; exact Nat.le_refl _, fun _ => hl.symm, g, tot, rfl, hok, hheap, hcapt, by rw [hl]⟩ (fun _ => rfl)
  · simp only [den, Asg.add_self, Option.bind_some, vsV, capO, Nat.zero_mul, Nat.sub_zero, Addr.add_zero, ite_self, show Nat.min 0 0 = 0 from rfl]

def shutB (len tl : Nat) : Option Nat → Bool
  | none => decide (len ≤ tl)
  | some m => decide (len ≤ m) && decide (m ≤ tl)
/-- A part from the first element on, as a slice of its own. -/
theorem Rel.shut (R : Rel B X ρ hp n w) {id bs off len : Nat} {cap : Option Nat} {full : Bool} {e : TypeId} {ts : List (C e).α} {v : Value} (hi : find id hp = some (.sl true full e ts)) (hv : den ρ (.vs id (C e).sz bs off len cap) = some v) (h0 : off = 0) (hs : shutB len ts.length cap = true) :
    Rel B X (ρ.add n v) ((n, .sl true false e (ts.take len)) :: (id, .gone) :: hp) (n + 1) w := by
  subst h0
  obtain ⟨a, c, hid, hc, _, rfl, _⟩ := vs_den R hi hv
  obtain ⟨v', hv', a', c', e1, h1, h2, g, tot, rfl, hok, hheap, hcapt, htake⟩ := R.obj id _ hi
  rw [hid] at hv'; cases hv'
  cases e1
  have ha : (if 0 = c then (⟨g, 0, none⟩ : Addr).add (Nat.min bs 0 * (C e).sz) else (⟨g, 0, none⟩ : Addr).add (0 * (C e).sz)) = ⟨g, 0, none⟩ := by
    rw [show Nat.min bs 0 = 0 from Nat.min_zero _, Nat.zero_mul, Addr.add_zero, ite_self]
  rw [ha]
  have hlen : len ≤ ts.length ∧ len ≤ capO cap (c - 0) ∧ capO cap (c - 0) ≤ c := by
    cases cap with
    | none => have := of_decide_eq_true hs; simp only [capO]; omega
    | some m =>
      simp only [shutB, Bool.and_eq_true, decide_eq_true_eq] at hs
      simp only [capO]; omega
  have hl : (ts.take len).length = len := by rw [List.length_take]; omega
  refine R.swap hi hid rfl rfl (fun g' hg' => hg') ⟨_, capO cap (c - 0), by rw [hl], by rw [hl]; exact hlen.2.1, fun h => (by cases h), g, tot, rfl, hok, hheap, by omega, ?_⟩ (fun _ => rfl)
  rw [hl, ← htake, List.take_take, Nat.min_eq_left hlen.1]
end rel

/-! ### parts made slices of their own, wherever they stand -/
mutual
def shutV {α : Type} : SV → Hp C → Nat → (SV → Hp C → Nat → Tr α) → Tr α
  | .vs id sz bs off len cap, hp, n, k => match find id hp with
    | some (.sl true _ e ts) => match Nat.beq sz (C e).sz with
      | true => .br (Nat.beq off 0) (.br (shutB len ts.length cap) (k (.h n) ((n, .sl true false e (ts.take len)) :: (id, .gone) :: hp) (n + 1)) .fail) (k (.vs id sz bs off len cap) hp n)
      | false => k (.vs id sz bs off len cap) hp n
    | _ => k (.vs id sz bs off len cap) hp n
  | .agg cs, hp, n, k => shutL cs hp n fun cs hp n => k (.agg cs) hp n
  | .tup cs, hp, n, k => shutL cs hp n fun cs hp n => k (.tup cs) hp n
  | .raw v, hp, n, k => k (.raw v) hp n
  | .h i, hp, n, k => k (.h i) hp n
  | .ep i o, hp, n, k => k (.ep i o) hp n
  | .bs i o l c, hp, n, k => k (.bs i o l c) hp n
  | .el i a s j, hp, n, k => k (.el i a s j) hp n
  | .fn g cs, hp, n, k => k (.fn g cs) hp n
def shutL {α : Type} : List SV → Hp C → Nat → (List SV → Hp C → Nat → Tr α) → Tr α
  | [], hp, n, k => k [] hp n
  | v :: r, hp, n, k => shutV v hp n fun v hp n => shutL r hp n fun r hp n => k (v :: r) hp n
end
/-- The same values in the same world. -/
def Same1 (v : SV) (hp : Hp C) (n : Nat) (v' : SV) (hp' : Hp C) (n' : Nat) : Prop :=
  ∀ B X ρ w u, Rel B X ρ hp n w → den ρ v = some u → ∃ ρ', ρ.le ρ' ∧ Rel B X ρ' hp' n' w ∧ den ρ' v' = some u
def SameL (vs : List SV) (hp : Hp C) (n : Nat) (vs' : List SV) (hp' : Hp C) (n' : Nat) : Prop :=
  ∀ B X ρ w us, Rel B X ρ hp n w → denL ρ vs = some us → ∃ ρ', ρ.le ρ' ∧ Rel B X ρ' hp' n' w ∧ denL ρ' vs' = some us
theorem Same1.refl (v : SV) (hp : Hp C) (n : Nat) : Same1 v hp n v hp n := fun _ _ ρ _ _ h hd => ⟨ρ, Asg.le_refl _, h, hd⟩
mutual
theorem shutV_spec {α : Type} {r : α} : ∀ (v : SV) (hp : Hp C) (n : Nat) (k : SV → Hp C → Nat → Tr α), (shutV v hp n k).get = some r → ∃ v' hp' n', (k v' hp' n').get = some r ∧ Same1 v hp n v' hp' n'
  | .vs id sz bs off len cap, hp, n, k, h => by
    unfold shutV at h
    split at h
    · rename_i full e ts hid
      split at h
      · rename_i hsz
        have hsz := Nat.eq_of_beq_eq_true hsz
        subst hsz
        rcases Tr.get_br.1 h with ⟨h0, h⟩ | ⟨_, h⟩
        · obtain ⟨hs, h⟩ := Tr.get_ask.1 h
          refine ⟨_, _, _, h, fun B X ρ w u RR hd => ⟨ρ.add n u, Asg.le_add ρ n u (RR.fresh n (Nat.le_refl _)), RR.shut hid hd (Nat.eq_of_beq_eq_true h0) hs, Asg.add_self ρ n u⟩⟩
        · exact ⟨_, _, _, h, Same1.refl _ _ _⟩
      · exact ⟨_, _, _, h, Same1.refl _ _ _⟩
    · exact ⟨_, _, _, h, Same1.refl _ _ _⟩
  | .agg cs, hp, n, k, h => by
    unfold shutV at h
    obtain ⟨vs', hp', n', h1, h2⟩ := shutL_spec cs hp n _ h
    refine ⟨_, _, _, h1, fun B X ρ w u RR hd => ?_⟩
    simp only [den, Option.map_eq_some_iff] at hd
    obtain ⟨l, hl, rfl⟩ := hd
    obtain ⟨ρ', q1, q2, q3⟩ := h2 B X ρ w l RR hl
    exact ⟨ρ', q1, q2, by simp [den, q3]⟩
  | .tup cs, hp, n, k, h => by
    unfold shutV at h
    obtain ⟨vs', hp', n', h1, h2⟩ := shutL_spec cs hp n _ h
    refine ⟨_, _, _, h1, fun B X ρ w u RR hd => ?_⟩
    simp only [den, Option.map_eq_some_iff] at hd
    obtain ⟨l, hl, rfl⟩ := hd
    obtain ⟨ρ', q1, q2, q3⟩ := h2 B X ρ w l RR hl
    exact ⟨ρ', q1, q2, by simp [den, q3]⟩
  | .raw _, hp, n, k, h => ⟨_, _, _, h, Same1.refl _ _ _⟩
  | .h _, hp, n, k, h => ⟨_, _, _, h, Same1.refl _ _ _⟩
  | .ep _ _, hp, n, k, h => ⟨_, _, _, h, Same1.refl _ _ _⟩
  | .bs _ _ _ _, hp, n, k, h => ⟨_, _, _, h, Same1.refl _ _ _⟩
  | .el _ _ _ _, hp, n, k, h => ⟨_, _, _, h, Same1.refl _ _ _⟩
  | .fn _ _, hp, n, k, h => ⟨_, _, _, h, Same1.refl _ _ _⟩
theorem shutL_spec {α : Type} {r : α} : ∀ (vs : List SV) (hp : Hp C) (n : Nat) (k : List SV → Hp C → Nat → Tr α), (shutL vs hp n k).get = some r → ∃ vs' hp' n', (k vs' hp' n').get = some r ∧ SameL vs hp n vs' hp' n'
  | [], hp, n, k, h => ⟨_, _, _, h, fun _ _ ρ _ _ RR hd => ⟨ρ, Asg.le_refl _, RR, hd⟩⟩
  | v :: vs, hp, n, k, h => by
    unfold shutL at h
    obtain ⟨v', hp1, n1, h1, h2⟩ := shutV_spec v hp n _ h
    obtain ⟨vs', hp2, n2, h3, h4⟩ := shutL_spec vs hp1 n1 _ h1
    refine ⟨_, _, _, h3, fun B X ρ w us RR hd => ?_⟩
    obtain ⟨u, l, d1, d2, rfl⟩ := denL_cons.1 hd
    obtain ⟨ρ1, q1, q2, q3⟩ := h2 B X ρ w u RR d1
    obtain ⟨ρ2, q4, q5, q6⟩ := h4 B X ρ1 w l q2 (denL_mono q1 _ _ d2)
    exact ⟨ρ2, Asg.le_trans q1 q4, q5, denL_cons.2 ⟨u, l, den_mono q4 _ _ q3, q6, rfl⟩⟩
end
/-- .. in boxes. -/
def shutBs {α : Type} : List Nat → Hp C → Nat → (Hp C → Nat → Tr α) → Tr α
  | [], hp, n, k => k hp n
  | i :: r, hp, n, k => match find i hp with
    | some (.box cs _) => shutL cs hp n fun cs hp n => match find i hp with
      | some (.box _ t) => shutBs r ((i, .box cs t) :: hp) n k
      | _ => .fail
    | _ => shutBs r hp n k
theorem shutBs_spec {α : Type} {x : α} : ∀ (l : List Nat) (hp : Hp C) (n : Nat) (k : Hp C → Nat → Tr α), (shutBs l hp n k).get = some x → ∃ hp' n', (k hp' n').get = some x ∧ ∀ B X ρ w, Rel B X ρ hp n w → ∃ ρ', ρ.le ρ' ∧ Rel B X ρ' hp' n' w
  | [], hp, n, k, h => ⟨_, _, h, fun _ _ ρ _ RR => ⟨ρ, Asg.le_refl _, RR⟩⟩
  | i :: r, hp, n, k, h => by
    unfold shutBs at h
    split at h
    · rename_i cs t hi
      obtain ⟨cs', hp1, n1, h1, h2⟩ := shutL_spec cs hp n _ h
      have h1 : (match find i hp1 with
        | some (.box _ t) => shutBs r ((i, .box cs' t) :: hp1) n1 k
        | _ => .fail).get = some x := h1
      split at h1
      · skip
        rename_i x1 x2 cs1 t1 hi1
        obtain ⟨hp2, n2, h3, h4⟩ := shutBs_spec r _ _ k h1
        refine ⟨_, _, h3, fun B X ρ w RR => ?_⟩
        obtain ⟨v, hv, g, us, rfl, q1, q2, q3⟩ := RR.obj i _ hi
        obtain ⟨ρ1, p1, R1, p2⟩ := h2 B X ρ w us RR q2
        obtain ⟨v', hv', g', us', rfl, q4, q5, q6⟩ := R1.obj i _ hi1
        have := p1 _ _ hv
        rw [hv'] at this; cases this
        rw [q3] at q6; cases q6
        have R2 := R1.reobj (o' := .box cs' t) hi1 hv' ⟨g, us, rfl, q4, p2, q3⟩ (fun h => h) (fun h => h)
        obtain ⟨ρ2, p3, R3⟩ := h4 B X ρ1 w R2
        exact ⟨ρ2, Asg.le_trans p1 p3, R3⟩
      · cases h1
    · exact shutBs_spec r hp n k h

/-! ### functions that take their slices over -/
def FnOwn (P : Program) (g : Nat) (args : List SV) (os : List (SO C)) (r : SV × List (SO C)) : Prop :=
  ∀ B X ρ w vals, X.nb = 0 → Rel B X ρ (numH 0 os) os.length w → denL ρ args = some vals →
    (∃ fn, P.funcs[g]? = some fn ∧ fn.body.isSome = true) ∧ Calls P g vals.toArray w fun e w' => ∃ ρ' v, e = .returned v ∧ Rel B X ρ' (numH 0 r.2) r.2.length w' ∧ den ρ' r.1 = some v
def ownS (F : FnF C) : List SV → Hp C → Nat → OT C := fun vs hp n => match noDup (relL vs 0).2, objsN (relL vs 0).2 hp (relL vs 0).2 with
  | true, some os => (F (relL vs 0).1 os).bind fun r => match allOwn r.2 with
    | true => .leaf (renV (fun j => n + j) r.1, numH n r.2 ++ (gonesH (relL vs 0).2 ++ hp), n + r.2.length)
    | false => .fail
  | _, _ => .fail
theorem ownS_ok {g : Nat} {F : FnF C} (hF : ∀ args os r, (F args os).get = some r → FnOwn P g args os r) : ∀ vs hp n x, (ownS F vs hp n).get = some x → FnAns P g vs hp n x := fun vs hp n x h B X ρ w args RR hargs => by
  unfold ownS at h
  split at h
  · rename_i os hnd hos
    obtain ⟨r, h1, h2⟩ := Tr.get_bind h
    split at h2
    · rename_i hown
      simp only [Tr.get, Option.some.injEq] at h2
      subst h2
      obtain ⟨hlen, hat⟩ := objsN_at hos
      generalize hids : (relL vs 0).2 = ids at *
      have hlt : ∀ j i, ids[j]? = some i → i < n ∧ ∃ O, find i hp = some O := fun j i hj => by
        have : j < os.length := by rw [hlen]; exact (List.getElem?_eq_some_iff.1 hj).1
        obtain ⟨i', O, g1, g2, _⟩ := hat j _ (List.getElem?_eq_getElem this)
        rw [hj] at g1; cases g1
        obtain ⟨v, hv, _⟩ := RR.obj i _ g2
        refine ⟨?_, O, g2⟩
        by_cases hlt : i < n
        · exact hlt
        · rw [RR.fresh i (by omega)] at hv; cases hv
      have hfd : ∀ j i, ids[j]? = some i → mapN ids n j = i := fun j i hj => by unfold mapN; rw [hj]
      have hr : Renum hp (mapN ids n) (numH 0 os) := ⟨fun j o hj => by
        obtain ⟨_, g2⟩ := find_num hj
        rw [Nat.sub_zero] at g2
        obtain ⟨i, O, g3, g4, g5⟩ := hat j o g2
        exact ⟨O, by rw [hfd j i g3]; exact g4, by rw [numO_ren hfd g5]; exact subO.refl _⟩, fun i j oi oj hi hj hij _ _ e => by
        obtain ⟨_, g2⟩ := find_num hi
        obtain ⟨_, g4⟩ := find_num hj
        rw [Nat.sub_zero] at g2 g4
        obtain ⟨x, _, g5, _⟩ := hat i oi g2
        obtain ⟨y, _, g6, _⟩ := hat j oj g4
        rw [hfd i x g5, hfd j y g6] at e
        subst e
        obtain ⟨l1, e1⟩ := List.getElem?_eq_some_iff.1 g5
        obtain ⟨l2, e2⟩ := List.getElem?_eq_some_iff.1 g6
        have hp' := List.pairwise_iff_getElem.1 (noDup_spec hnd)
        rcases Nat.lt_trichotomy i j with hl | hl | hl
        · exact hp' _ _ l1 l2 hl (e1.trans e2.symm)
        · exact hij hl
        · exact hp' _ _ l2 l1 hl (e2.trans e1.symm)⟩
      have RD := RR.down (m := os.length) (nb := 0) (Nat.zero_le _) hr (fun i hi => by
        unfold mapN
        rw [List.getElem?_eq_none (by omega)]
        exact Nat.le_add_right _ _)
      have hren : renL (mapN ids n) (relL vs 0).1 = vs := renL_rel _ vs 0 fun i x hx => by
        rw [hids] at hx
        rw [Nat.zero_add]
        unfold mapN; rw [hx]
      have hd : denL (fun i => ρ (mapN ids n i)) (relL vs 0).1 = some args := by rw [denL_ren, hren]; exact hargs
      obtain ⟨g1, g2⟩ := hF _ _ _ h1 w _ _ w args rfl RD hd
      refine ⟨g1, g2.mono ?_⟩
      rintro e w' ⟨ρ1, v, rfl, R1, hv⟩
      obtain ⟨u1, u2, u3⟩ := RR.up (fu := fun j => n + j) (hpG := gonesH ids ++ hp) (m := 0) hr (fun j _ => by omega) (fun j hj => by omega) (fun x O hx => by
          rw [find_append] at hx
          split at hx
          · rename_i o ho
            cases hx
            obtain ⟨q1, q2⟩ := find_gones ho
            obtain ⟨i, hi⟩ := List.mem_iff_getElem?.1 q2
            exact .inr ⟨q1, (hlt i x hi).2⟩
          · exact .inl hx) R1
        (fun j o hj => by
          obtain ⟨g3, g4⟩ := find_num hj
          rw [Nat.sub_zero] at g4
          exact ⟨fun hlt => by omega, fun _ => .inl (isNew_spec (allOwn_at hown _ o g4)).1⟩)
        (fun j o hj ho => by
          obtain ⟨_, g3⟩ := find_num hj
          rw [Nat.sub_zero] at g3
          obtain ⟨i, O, q1, _, _⟩ := hat j o g3
          refine .inr ?_
          rw [hfd j i q1, find_append, gones_find (List.mem_iff_getElem?.2 ⟨j, q1⟩)])
      have hup : ∀ (l : List (SO C)) (k : Nat), allOwn l = true → upHp (fun j => n + j) (numH k l) = numH (n + k) l := by
        intro l
        induction l with
        | nil => intro _ _; rfl
        | cons o l ih =>
          intro k ho
          unfold allOwn at ho
          split at ho
          · rename_i hno
            have := ih (k + 1) ho
            simp only [numH, upHp, this, (isNew_spec hno).2]
            rw [show n + (k + 1) = n + k + 1 by omega]
          · cases ho
      rw [hup r.2 0 hown, Nat.add_zero, Nat.sub_zero] at u1
      exact ⟨_, v, _, _, _, rfl, u2, ⟨by omega, List.suffix_append_of_suffix (List.suffix_append _ _)⟩, by rw [← den_ren]; rw [show (fun i => backA ρ ρ1 n 0 (n + i)) = ρ1 from funext u3]; exact hv, u1, rfl⟩
    · cases h2
  · cases h

/-! ### functions that see parts of slices -/
mutual
def seeV : SV → Nat → SV × List SV
  | .raw v, _ => (.raw v, [])
  | .h i, m => (.h m, [.h i])
  | .vs i s b o l c, m => (.h m, [.vs i s b o l c])
  | .ep i o, m => (.h m, [.ep i o])
  | .bs i o l c, m => (.h m, [.bs i o l c])
  | .el i a s j, m => (.h m, [.el i a s j])
  | .agg cs, m => (.agg (seeL cs m).1, (seeL cs m).2)
  | .tup cs, m => (.tup (seeL cs m).1, (seeL cs m).2)
  | .fn g cs, m => (.fn g (seeL cs m).1, (seeL cs m).2)
def seeL : List SV → Nat → List SV × List SV
  | [], _ => ([], [])
  | v :: r, m => ((seeV v m).1 :: (seeL r (m + (seeV v m).2.length)).1, (seeV v m).2 ++ (seeL r (m + (seeV v m).2.length)).2)
end
mutual
theorem seeV_den {ρ ρ0 : Asg} : ∀ (v : SV) (m : Nat), (∀ i x, (seeV v m).2[i]? = some x → ρ0 (m + i) = den ρ x) → den ρ0 (seeV v m).1 = den ρ v
  | .raw _, _, _ => rfl
  | .h i, m, h => by simpa [seeV, den] using h 0 _ rfl
  | .vs i s b o l c, m, h => by simpa [seeV, den] using h 0 _ rfl
  | .ep i o, m, h => by simpa [seeV, den] using h 0 _ rfl
  | .bs i o l c, m, h => by simpa [seeV, den] using h 0 _ rfl
  | .el i a s j, m, h => by simpa [seeV, den] using h 0 _ rfl
  | .agg cs, m, h => by simp only [seeV, den, seeL_den cs m h]
  | .tup cs, m, h => by simp only [seeV, den, seeL_den cs m h]
  | .fn _ cs, m, h => by simp only [seeV, den, seeL_den cs m h]
theorem seeL_den {ρ ρ0 : Asg} : ∀ (l : List SV) (m : Nat), (∀ i x, (seeL l m).2[i]? = some x → ρ0 (m + i) = den ρ x) → denL ρ0 (seeL l m).1 = denL ρ l
  | [], _, _ => rfl
  | v :: r, m, h => by
    simp only [seeL, denL]
    rw [seeV_den v m fun i x hx => h i x (by
      simp only [seeL]
      rw [List.getElem?_append_left (List.getElem?_eq_some_iff.1 hx).1]; exact hx),
      seeL_den r _ fun i x hx => by
        rw [Nat.add_assoc]
        refine h _ x ?_
        simp only [seeL]
        rw [List.getElem?_append_right (by omega), Nat.add_sub_cancel_left]; exact hx]
end
def capLe (len : Nat) : Option Nat → Bool
  | none => true
  | some m => decide (len ≤ m)
def seeO {α : Type} (hp : Hp C) : List SV → (List (SO C) → Tr α) → Tr α
  | [], k => k []
  | x :: r, k => match x with
    | .h i => match find i hp with
      | some (.sl _ full e ts) => seeO hp r fun os => k (.sl false full e ts :: os)
      | _ => .fail
    | .vs i sz bs off len cap => match find i hp with
      | some (.sl _ _ e ts) => match Nat.beq sz (C e).sz with
        | true => .br (decide (off + len ≤ ts.length) && capLe len cap) (seeO hp r fun os => k (.sl false false e ((ts.drop off).take len) :: os)) .fail
        | false => .fail
      | _ => .fail
    | _ => .fail
/-- What is seen stands as views. -/
structure Seen (ρ : Asg) (w : World) (x : SV) (o : SO C) : Prop where
  ex : ∃ full e ts v, o = .sl false full e ts ∧ den ρ x = some v ∧ nnV v = true ∧ (∀ g, blk v = some g → g < w.heap.size) ∧ v.oneCell' = true ∧ okObj ρ w (fun _ => True) v o
theorem seeO_spec {α : Type} {r : α} : ∀ (xs : List SV) (hp : Hp C) (k : List (SO C) → Tr α), (seeO hp xs k).get = some r → ∃ os, (k os).get = some r ∧ os.length = xs.length ∧
    ∀ B X ρ n w, Rel B X ρ hp n w → (∀ x ∈ xs, ∃ v, den ρ x = some v) → ∀ (i : Nat) (x : SV) (o : SO C), xs[i]? = some x → os[i]? = some o → Seen ρ w x o
  | [], hp, k, h => ⟨[], h, rfl, fun _ _ _ _ _ _ _ i x o hx => by simp at hx⟩
  | x :: xs, hp, k, h => by
    have step : ∀ (o : SO C), (seeO hp xs fun os => k (o :: os)).get = some r → (∀ B X ρ n w, Rel B X ρ hp n w → (∃ v, den ρ x = some v) → Seen ρ w x o) → ∃ os, (k os).get = some r ∧ os.length = (x :: xs).length ∧
        ∀ B X ρ n w, Rel B X ρ hp n w → (∀ y ∈ x :: xs, ∃ v, den ρ y = some v) → ∀ (i : Nat) (y : SV) (o : SO C), (x :: xs)[i]? = some y → os[i]? = some o → Seen ρ w y o := fun o h hs => by
      obtain ⟨os, h1, h2, h3⟩ := seeO_spec xs hp _ h
      refine ⟨o :: os, h1, by simp [h2], fun B X ρ n w RR hd i y o' hy ho => ?_⟩
      match i with
      | 0 => simp at hy ho; subst hy; subst ho; exact hs B X ρ n w RR (hd _ List.mem_cons_self)
      | i + 1 => exact h3 B X ρ n w RR (fun z hz => hd z (List.mem_cons_of_mem _ hz)) i y o' (by simpa using hy) (by simpa using ho)
    unfold seeO at h
    split at h
    · rename_i i
      split at h
      · rename_i own full e ts hi
        refine step _ h fun B X ρ n w RR hd => ?_
        obtain ⟨v, hv⟩ := hd
        have hv0 : ρ i = some v := hv
        obtain ⟨a, c, rfl, h1, h2⟩ := flat_cell RR hi hv0
        obtain ⟨v', hv', a', c', e1, _, h3, _⟩ := RR.obj i _ hi
        rw [hv0] at hv'; cases hv'; cases e1
        exact ⟨full, e, ts, _, rfl, hv, RR.nn i _ _ hi rfl hv0, fun g hg => RR.blkOk i _ _ g hi rfl hv0 hg, rfl, a, c, rfl, h1, h3, h2⟩
      · cases h
    · rename_i i sz bs off len cap
      split at h
      · rename_i own full e ts hi
        split at h
        · rename_i hsz
          have hsz := Nat.eq_of_beq_eq_true hsz
          subst hsz
          obtain ⟨hb, h⟩ := Tr.get_ask.1 h
          rw [Bool.and_eq_true, decide_eq_true_eq] at hb
          obtain ⟨hb, hcl⟩ := hb
          refine step _ h fun B X ρ n w RR hd => ?_
          obtain ⟨v, hv⟩ := hd
          obtain ⟨a, c, hid, hc, _, rfl, hcell⟩ := vs_den RR hi hv
          have hlen : ((ts.drop off).take len).length = len := by rw [List.length_take, List.length_drop]; omega
          have hcap : len ≤ capO cap (c - off) := by
            cases cap with
            | none => simp only [capO]; omega
            | some m => exact of_decide_eq_true hcl
          have hcells : ∀ (j : Nat) (y : Value), ((C e).flat ((ts.drop off).take len))[j]? = some y → ∃ a', some (if off = c then a.add (Nat.min bs off * (C e).sz) else a.add (off * (C e).sz)) = some a' ∧ w.cell? (a'.add j) = some y := fun j y hy => by
            refine ⟨_, rfl, ?_⟩
            have hj : j < len * (C e).sz := by
              have := (List.getElem?_eq_some_iff.1 hy).1
              rwa [(C e).flat_length, hlen] at this
            have hne : ¬ off = c := fun e => by
              have : len = 0 := by omega
              subst this; simp at hj
            rw [if_neg hne, Addr.add_add]
            rw [(C e).flat_take, (C e).flat_drop, List.getElem?_take, if_pos (by exact hj), List.getElem?_drop] at hy
            exact hcell _ _ hy
          refine ⟨false, e, _, _, rfl, hv, rfl, fun g hg => RR.blkOk i _ _ g hi rfl hid ?_, rfl, _, _, by rw [hlen], by rw [hlen]; exact hcap, fun h => (by cases h), hcells⟩
          simp only [blk] at hg ⊢
          split at hg
          · rw [Addr.add_block] at hg; exact hg
          · rw [Addr.add_block] at hg; exact hg
        · cases h
      · cases h
    · cases h
end
end Go.Sx

/-
  The symbolic evaluator: rounds and functions told by small trees, handles by numbers of their own. Own work; nothing here is trusted.
-/
namespace Go.Sx
noncomputable section
open Go.RowKit

variable {C : Tab} {P : Program} {R : Type}

def forceIdsT {α : Type} (l : List Nat) (k : List Nat → Tr α) : Tr α := match l with
  | [] => k []
  | i :: r => forceN i fun i => forceIdsT r fun r => k (i :: r)
theorem forceIdsT_eq {α : Type} (l : List Nat) (k : List Nat → Tr α) : forceIdsT l k = k l := by
  induction l generalizing k with
  | nil => rfl
  | cons i r ih => unfold forceIdsT; rw [forceN_eq, ih]
def rangeL : Nat → Nat → List Nat
  | _, 0 => []
  | i, n + 1 => i :: rangeL (i + 1) n
theorem rangeL_len : ∀ (n i : Nat), (rangeL i n).length = n
  | 0, _ => rfl
  | n + 1, i => by simp [rangeL, rangeL_len n]
theorem rangeL_at : ∀ (n i j : Nat), j < n → (rangeL i n)[j]? = some (i + j)
  | n + 1, i, 0, _ => rfl
  | n + 1, i, j + 1, h => by
    simp only [rangeL, List.getElem?_cons_succ]
    rw [rangeL_at n (i + 1) j (by omega)]; congr 1; omega
/-- Those that are not of the base. -/
def newIds (nb : Nat) : List Nat → List Nat
  | [] => []
  | i :: r => match Nat.blt i nb with
    | true => newIds nb r
    | false => i :: newIds nb r
/-- Values and what lies behind them, the base first, what is new behind it. -/
def canonV (nb : Nat) (vs : List SV) (hp : Hp C) : Tr (List SV × List (SO C)) :=
  forceIdsT (rangeL 0 nb ++ newIds nb (reachN hp 1000 (relL vs 0).2 [])) fun ids => match noDup ids, numL ids vs, objsN ids hp ids with
    | true, some ws, some os => .leaf (ws, os)
    | _, _, _ => .fail

/-- What a state is, by numbers of its own. -/
structure CanonOk (nb : Nat) (vs : List SV) (hp : Hp C) (n : Nat) (ws : List SV) (os : List (SO C)) (f : Nat → Nat) : Prop where
  vals : renL f ws = vs
  ren : Renum hp f (numH 0 os)
  fresh : ∀ i, os.length ≤ i → n ≤ f i
  base : ∀ i, i < nb → f i = i
  le : nb ≤ os.length
theorem canonV_ok {nb : Nat} {vs : List SV} {hp : Hp C} {n : Nat} {ws : List SV} {os : List (SO C)} (h : (canonV nb vs hp).get = some (ws, os)) : ∃ f, CanonOk nb vs hp n ws os f := by
  unfold canonV at h
  rw [forceIdsT_eq] at h
  generalize newIds nb (reachN hp 1000 (relL vs 0).2 []) = news at *
  split at h
  · rename_i ws' os' hnd hvs hos
    simp only [Tr.get, Option.some.injEq, Prod.mk.injEq] at h
    obtain ⟨rfl, rfl⟩ := h
    obtain ⟨hlen, hat⟩ := objsN_at hos
    have hfd : ∀ j i, (rangeL 0 nb ++ news)[j]? = some i → mapN (rangeL 0 nb ++ news) n j = i := fun j i hj => by unfold mapN; rw [hj]
    refine ⟨mapN (rangeL 0 nb ++ news) n, numL_ren hfd _ hvs, ⟨fun j o hj => ?_, fun i j oi oj hi hj hij _ _ e => ?_⟩, fun i hi => ?_, fun i hi => ?_, ?_⟩
    · obtain ⟨_, g2⟩ := find_num hj
      rw [Nat.sub_zero] at g2
      obtain ⟨i, O, g3, g4, g5⟩ := hat j o g2
      exact ⟨O, by rw [hfd j i g3]; exact g4, by rw [numO_ren hfd g5]; exact subO.refl _⟩
    · obtain ⟨_, g2⟩ := find_num hi
      obtain ⟨_, g4⟩ := find_num hj
      rw [Nat.sub_zero] at g2 g4
      obtain ⟨x, _, g5, _⟩ := hat i oi g2
      obtain ⟨y, _, g6, _⟩ := hat j oj g4
      rw [hfd i x g5, hfd j y g6] at e
      subst e
      obtain ⟨l1, e1⟩ := List.getElem?_eq_some_iff.1 g5
      obtain ⟨l2, e2⟩ := List.getElem?_eq_some_iff.1 g6
      have hp' := List.pairwise_iff_getElem.1 (noDup_spec hnd)
      rcases Nat.lt_trichotomy i j with hl | hl | hl
      · exact hp' _ _ l1 l2 hl (e1.trans e2.symm)
      · exact hij hl
      · exact hp' _ _ l2 l1 hl (e2.trans e1.symm)
    · unfold mapN
      rw [List.getElem?_eq_none (by omega)]
      exact Nat.le_add_right _ _
    · exact (hfd i i (by rw [List.getElem?_append_left (by rw [rangeL_len]; exact hi), rangeL_at nb 0 i hi, Nat.zero_add]))
    · rw [hlen, List.length_append, rangeL_len]; omega
  · cases h

/-! ### Rounds. -/
abbrev RT (C : Tab) := Tr (Ex × List SV × List (SO C))
def canonR (slots : List Nat) (nb : Nat) (r : Ex × Tm × Hp C × Nat) : RT C := match getAll slots r.2.1 with
  | some vs => shutL vs r.2.2.1 r.2.2.2 fun vs hp n => shutBs (reachN hp 1000 (relL vs 0).2 []) hp n fun hp _ => (canonV nb vs hp).bind fun y => .leaf (r.1, y.1, y.2)
  | none => .fail
def roundC (C : Tab) (P : Program) (sp : SpecT C) (ls : LoopT C) (unr : Nat → Nat → Nat) (d g N blk : Nat) (c : Code) (slots : List Nat) (i : LI C) : RT C :=
  (roundE C P sp ls unr d g N blk c (i.st slots)).bind (canonR slots i.nb)
/-- The round of the one loop of a function in its block. -/
def roundG (C : Tab) (P : Program) (sp : SpecT C) (ls : LoopT C) (unr : Nat → Nat → Nat) (d g blk : Nat) (slots : List Nat) (i : LI C) : RT C := match loopOf P g blk with
  | some (N, c) => roundC C P sp ls unr d g N blk c slots i
  | none => .fail
theorem getAll_den {ρ : Asg} {tm : Tm} {a : Act} (T : TmOk ρ tm a) : ∀ {ts : List Nat} {vs : List SV}, getAll ts tm = some vs → ∃ us, denL ρ vs = some us ∧ ∀ t v, (t, v) ∈ ts.zip us → a.tmps[t]? = some v
  | [], vs, h => by cases h; exact ⟨[], rfl, by simp⟩
  | t :: r, vs, h => by
    unfold getAll at h
    split at h
    · rename_i v hv
      split at h
      · rename_i l hl
        cases h
        obtain ⟨us, h1, h2⟩ := getAll_den T hl
        obtain ⟨u, h3, h4⟩ := T t v hv
        refine ⟨u :: us, denL_cons.2 ⟨u, us, h3, h1, rfl⟩, fun t' v' hm => ?_⟩
        rw [List.zip_cons_cons] at hm
        rcases List.mem_cons.1 hm with hm | hm
        · cases hm; exact h4
        · exact h2 t' v' hm
      · cases h
    · cases h
theorem zip_den {ρ : Asg} : ∀ {ts : List Nat} {vs : List SV} {us : List Value} {t : Nat} {sv : SV}, denL ρ vs = some us → find t (zipT ts vs) = some sv → ∃ v, den ρ sv = some v ∧ (t, v) ∈ ts.zip us
  | [], vs, us, t, sv, _, h => by simp [zipT, find] at h
  | x :: ts, [], us, t, sv, _, h => by simp [zipT, find] at h
  | x :: ts, v :: vs, us, t, sv, hd, h => by
    obtain ⟨u, l, h1, h2, rfl⟩ := denL_cons.1 hd
    unfold zipT at h
    rw [find_cons] at h
    split at h
    · rename_i e; cases h; subst e; exact ⟨u, h1, by simp⟩
    · obtain ⟨v', h3, h4⟩ := zip_den h2 h
      exact ⟨v', h3, List.mem_cons_of_mem _ h4⟩
def isNorm : Ex → Bool
  | .normal => true
  | _ => false
theorem loop_li (hp0 : Plain P) (hm : P.follows .mixedOrders = true) {sp : SpecT C} (hs : SpecTOk P sp) {ls : LoopT C} (hl : LoopTOk P ls) {unr : Nat → Nat → Nat} {d g blk N : Nat} {c : Code} (hc : loopOf P g blk = some (N, c))
    {slots : List Nat} {nb : Nat} {σ : Type} {st : σ → List SV × List (SO C)} {Inv : σ → Prop} {μ : σ → Nat} {Q : Ex → List SV → List (SO C) → Prop}
    (h : ∀ s, Inv s → ∃ y, (roundG C P sp ls unr d g blk slots ⟨(st s).1, nb, (st s).2⟩).get = some y ∧
      (isNorm y.1 = true → ∃ s', Inv s' ∧ μ s' < μ s ∧ y.2 = st s') ∧ (isNorm y.1 = false → Q y.1 y.2.1 y.2.2)) (s : σ) (hi : Inv s) :
    LoopRun P N c nb (LI.st slots ⟨(st s).1, nb, (st s).2⟩) fun x T => ∃ vs os, Q x vs os ∧ T = ⟨zipT slots vs, numH 0 os, os.length⟩ := by
  refine loop_run (d := d) (unr := unr) (μ := μ) (Inv := Inv) (st := fun s => LI.st slots ⟨(st s).1, nb, (st s).2⟩) hp0 hm hs hl hc (fun s hs' => ?_) s hi
  obtain ⟨y, h1, h2, h3⟩ := h s hs'
  unfold roundG at h1
  rw [hc] at h1
  obtain ⟨⟨x, tm, hp, n⟩, h4, h5⟩ := Tr.get_bind h1
  refine ⟨_, h4, ?_⟩
  unfold canonR at h5
  split at h5
  · rename_i vs hvs
    obtain ⟨vs2, hp2, n2, h5, s1⟩ := shutL_spec _ _ _ _ h5
    obtain ⟨hp3, n3, h5, s2⟩ := shutBs_spec _ _ _ _ h5
    obtain ⟨⟨ws, os⟩, h6, h7⟩ := Tr.get_bind h5
    simp only [Tr.get, Option.some.injEq] at h7
    subst h7
    obtain ⟨f, hf⟩ := canonV_ok (n := n3) h6
    have fits : Into nb tm hp n (LI.st slots ⟨ws, nb, os⟩) := fun B X ρ w a hX RR T => by
      obtain ⟨us, hus, ht⟩ := getAll_den T hvs
      obtain ⟨ρ1, p1, R1, d1⟩ := s1 B X ρ w us RR hus
      obtain ⟨ρ2, p2, R2⟩ := s2 B X ρ1 w R1
      have d2 := denL_mono p2 _ _ d1
      refine ⟨fun i => ρ2 (f i), R2.ren hf.ren (by rw [hX]; exact hf.le) (fun i hi => hf.base i (by rw [← hX]; exact hi)) hf.fresh, fun t sv hsv => ?_⟩
      obtain ⟨v, q1, q2⟩ := zip_den (ρ := fun i => ρ2 (f i)) (us := us) (by rw [denL_ren, hf.vals]; exact d2) hsv
      exact ⟨v, q1, ht t v q2⟩
    cases hx : isNorm x with
    | true =>
      obtain ⟨s', g1, g2, g3⟩ := h2 hx
      cases x <;> simp [isNorm] at hx
      have e1 : ws = (st s').1 := by rw [← g3]
      have e2 : os = (st s').2 := by rw [← g3]
      subst e1; subst e2
      exact .next s' tm hp n g1 g2 fits
    | false =>
      refine .stop x (LI.st slots ⟨ws, nb, os⟩) tm hp n (fun y e => ?_) ⟨ws, os, h3 hx, rfl⟩ fits
      subst e
      cases x <;> simp [isNorm, exitOf] at hx ⊢
  · cases h5
/-- A loop told by a function: its soundness out of an induction. -/
theorem loopS_of {N : Nat} {c : Code} {bs ks : List Nat} {F : LoopFn C}
    (hF : ∀ li r, (F li).get = some r → Keeps li.nb li.os r.2.2 ∧ LoopRun P N c li.nb (li.st (bs ++ ks)) fun x T => ∃ vs os, (x = r.1 ∧ (vs, os) = r.2) ∧ T = ⟨zipT (bs ++ ks) vs, numH 0 os, os.length⟩) :
    ∀ tm hp n x, (loopS bs ks F tm hp n).get = some x → InLoop P N c tm hp n fun e tm hp n => (e, tm, hp, n) = x := loopS_ok fun li r h => by
  obtain ⟨h1, h2⟩ := hF li r h
  refine ⟨h1, fun B X ρ w a hX hN hD RR T b kk cs => ?_⟩
  obtain ⟨e, a', w', ⟨x, T1, ρ', ⟨vs, os, ⟨rfl, e2⟩, rfl⟩, g⟩, harr⟩ := h2 B X ρ w a hX hN hD RR T b kk cs
  have e3 : vs = r.2.1 := by rw [← e2]
  have e4 : os = r.2.2 := by rw [← e2]
  subst e3; subst e4
  exact ⟨e, a', w', ⟨_, _, ρ', ⟨rfl, rfl⟩, g⟩, harr⟩

/-! ### Functions. -/
def fnC (C : Tab) (P : Program) (sp : SpecT C) (ls : LoopT C) (unr : Nat → Nat → Nat) (d g : Nat) (args : List SV) (os : List (SO C)) : Tr (SV × List (SO C)) :=
  (evalT C P sp ls unr d g args (numH 0 os) os.length fun sv hp n => .leaf (sv, hp, n)).bind fun q => shutL [q.1] q.2.1 q.2.2 fun vs hp _ => (canonV os.length vs hp).bind fun y => match y.1 with
    | [v] => .leaf (v, y.2.drop os.length)
    | _ => .fail
theorem fnC_ok (hp0 : Plain P) (hm : P.follows .mixedOrders = true) {sp : SpecT C} (hs : SpecTOk P sp) {ls : LoopT C} (hl : LoopTOk P ls) {unr : Nat → Nat → Nat} {d g : Nat} {args : List SV} {os : List (SO C)} {r : SV × List (SO C)}
    (h : (fnC C P sp ls unr d g args os).get = some r) : Fn0 P g args os r := by
  unfold fnC at h
  obtain ⟨⟨sv, hp1, n1⟩, h1, h2⟩ := Tr.get_bind h
  obtain ⟨vs2, hp2, n2, h2, s1⟩ := shutL_spec _ _ _ _ h2
  obtain ⟨⟨ws, os1⟩, h3, h4⟩ := Tr.get_bind h2
  simp only at h4
  split at h4
  · rename_i v
    simp only [Tr.get, Option.some.injEq] at h4
    subst h4
    obtain ⟨f, hf⟩ := canonV_ok (n := n2) h3
    intro B X ρ w vals hX RR hd
    obtain ⟨g1, g2⟩ := evalT_ok hp0 hm hs hl (unr := unr) d _ g args (numH 0 os) os.length _ B X ρ w vals h1 RR hd
    refine ⟨g1, g2.mono ?_⟩
    rintro e w' ⟨ρ', v', sv', hp', n', rfl, h5, h6, h7, h8, h9⟩
    simp only [Tr.get, Option.some.injEq, Prod.mk.injEq] at h9
    obtain ⟨rfl, rfl, rfl⟩ := h9
    obtain ⟨ρ2, p2, R2, d2⟩ := s1 B X ρ' w' [v'] h8 (denL_one h7)
    have hl1 := hf.le
    have hlen : os.length + (os1.drop os.length).length = os1.length := by simp; omega
    have hR := R2.ren (hp' := numH os.length (os1.drop os.length)) (n' := os.length + (os1.drop os.length).length) (f := f) ⟨fun j o hj => by
        obtain ⟨q1, q2⟩ := find_num hj
        rw [List.getElem?_drop, show os.length + (j - os.length) = j by omega] at q2
        have := num_find (m := 0) q2
        rw [Nat.zero_add] at this
        exact hf.ren.ent j o this, fun i j oi oj hi hj => by
        obtain ⟨q1, q2⟩ := find_num hi
        rw [List.getElem?_drop, show os.length + (i - os.length) = i by omega] at q2
        obtain ⟨q3, q4⟩ := find_num hj
        rw [List.getElem?_drop, show os.length + (j - os.length) = j by omega] at q4
        have e1 := num_find (m := 0) q2
        have e2 := num_find (m := 0) q4
        rw [Nat.zero_add] at e1 e2
        exact hf.ren.inj i j oi oj e1 e2⟩ (by omega) (fun i hi => hf.base i (by omega)) (fun i hi => hf.fresh i (by omega))
    refine ⟨_, v', rfl, hR, ?_⟩
    rw [← hf.vals, ← denL_ren] at d2
    obtain ⟨u, l, d3, d4, d5⟩ := denL_cons.1 d2
    simp only [List.cons.injEq] at d5
    rw [d5.1]; exact d3
  · cases h4
/-- A function told by a tree that it was reckoned to have. -/
theorem viewS_of (hp0 : Plain P) (hm : P.follows .mixedOrders = true) {sp : SpecT C} (hs : SpecTOk P sp) {ls : LoopT C} (hl : LoopTOk P ls) {unr : Nat → Nat → Nat} {d g : Nat} {F : FnF C}
    (h : ∀ args os r, (F args os).get = some r → (fnC C P sp ls unr d g args os).get = some r) : ∀ vs hp n x, (viewS F vs hp n).get = some x → FnAns P g vs hp n x :=
  viewS_ok fun args os r hr => fnC_ok hp0 hm hs hl (h args os r hr)

/-! What a tree answers, as it is written down. -/
def bro {α : Type} (b : Bool) (t f : Option α) : Option α := Bool.rec (motive := fun _ => Option α) f t b
@[simp] theorem bro_true {α : Type} (t f : Option α) : bro true t f = t := rfl
@[simp] theorem bro_false {α : Type} (t f : Option α) : bro false t f = f := rfl
theorem bro_on {α : Type} {b : Bool} {t f : Option α} (h : b = true) : bro b t f = t := by subst h; rfl
theorem bro_off {α : Type} {b : Bool} {t f : Option α} (h : b = false) : bro b t f = f := by subst h; rfl
/-! Trees, followed where one knows the way. -/
def Tr.follow {α : Type} : List Bool → Tr α → Option (List Bool × α)
  | [], .leaf a => some ([], a)
  | true :: ds, .br c t _ => match Tr.follow ds t with
    | some (cs, a) => some (c :: cs, a)
    | none => none
  | false :: ds, .br c _ f => match Tr.follow ds f with
    | some (cs, a) => some (c :: cs, a)
    | none => none
  | _, _ => none
theorem Tr.follow_get {α : Type} : ∀ {ds cs : List Bool} {t : Tr α} {a : α}, t.follow ds = some (cs, a) → cs = ds → t.get = some a
  | [], cs, .leaf a, b, h, _ => by simp only [Tr.follow, Option.some.injEq, Prod.mk.injEq] at h; rw [← h.2]; rfl
  | [], _, .br _ _ _, _, h, _ => by cases h
  | [], _, .fail, _, h, _ => by cases h
  | true :: ds, cs, .br c t f, a, h, e => by
    unfold Tr.follow at h
    split at h
    · rename_i cs' a' h'
      simp only [Option.some.injEq, Prod.mk.injEq] at h
      obtain ⟨rfl, rfl⟩ := h
      cases e
      have := Tr.follow_get h' rfl
      exact this
    · cases h
  | false :: ds, cs, .br c t f, a, h, e => by
    unfold Tr.follow at h
    split at h
    · rename_i cs' a' h'
      simp only [Option.some.injEq, Prod.mk.injEq] at h
      obtain ⟨rfl, rfl⟩ := h
      cases e
      have := Tr.follow_get h' rfl
      exact this
    · cases h
  | true :: _, _, .leaf _, _, h, _ => by cases h
  | true :: _, _, .fail, _, h, _ => by cases h
  | false :: _, _, .leaf _, _, h, _ => by cases h
  | false :: _, _, .fail, _, h, _ => by cases h

/-- Functions of plain values out of their elder form. -/
theorem Fn0.flat {g : Nat} {F : List SV → (SV → Prop) → Prop} (h : CallOk1 (C := C) P g (flatF F)) {args : List SV} {v : SV} (hF : ∀ K, K v → F args K) : Fn0 (C := C) P g args [] (v, []) := fun B X ρ w vals hX RR hd => by
  obtain ⟨h1, h2⟩ := h args [] 0 (fun sv hp n => sv = v ∧ hp = [] ∧ n = 0) B X ρ w vals (hF _ ⟨rfl, rfl, rfl⟩) RR hd
  refine ⟨h1, h2.mono ?_⟩
  rintro e w' ⟨ρ', u, sv, hp', n', rfl, _, _, h5, h6, rfl, rfl, rfl⟩
  exact ⟨ρ', u, rfl, h6, h5⟩
/-- A function whose answer is known, and that lays at most new blocks. -/
theorem Fn0.const {g : Nat} {v : Value} {vals0 : List Value} (hb : hasBody P g = true) (h : ∀ w, Calls P g vals0.toArray w fun e w' => e = .returned v ∧ Below w.heap.size w w') {args : List SV} (ha : ∀ ρ, denL ρ args = some vals0) : Fn0 (C := C) P g args [] (.raw v, []) := fun B X ρ w vals hX RR hd => by
  rw [ha ρ] at hd; cases hd
  refine ⟨?_, (h w).mono ?_⟩
  · unfold hasBody at hb
    split at hb
    · rename_i fn hfn; exact ⟨fn, hfn, hb⟩
    · cases hb
  · rintro e w' ⟨rfl, bel⟩
    exact ⟨ρ, v, rfl, RR.below bel, rfl⟩
def sel {α : Type} (c : Bool) (a b : α) : α := match c with
  | true => a
  | false => b
@[simp] theorem sel_true {α : Type} (a b : α) : sel true a b = a := rfl
@[simp] theorem sel_false {α : Type} (a b : α) : sel false a b = b := rfl
def SO.shp (o : SO C) : Bool × Bool := (o.owns, o.live)
/-- What a loop keeps, read off. -/
theorem Keeps.of2 {nb : Nat} {os os1 : List (SO C)} (hl : nb ≤ os1.length) (h : (os1.take nb).map SO.shp = (os.take nb).map SO.shp) (hn : ∀ o ∈ os1.drop nb, o.owns = true ∨ o.live = false) : Keeps nb os os1 where
  le := hl
  lo j o hj hlt := by
    have h1 : ((os1.take nb).map SO.shp)[j]? = some o.shp := by rw [List.getElem?_map, List.getElem?_take, if_pos hlt, hj]; rfl
    rw [h, List.getElem?_map, List.getElem?_take, if_pos hlt] at h1
    cases h0 : os[j]? with
    | none => rw [h0] at h1; cases h1
    | some o0 =>
      rw [h0] at h1
      simp only [Option.map_some, Option.some.injEq, SO.shp, Prod.mk.injEq] at h1
      exact ⟨o0, rfl, fun ho => by rw [h1.1]; exact ho, fun ho => by rw [h1.2]; exact ho⟩
/-- New objects may be views too. -/
theorem Keeps.of3 {nb : Nat} {os os1 : List (SO C)} (hl : nb ≤ os1.length) (h : (os1.take nb).map SO.shp = (os.take nb).map SO.shp) : Keeps nb os os1 := ⟨hl, fun j o hj hlt => by
    have h1 : ((os1.take nb).map SO.shp)[j]? = some o.shp := by rw [List.getElem?_map, List.getElem?_take, if_pos hlt, hj]; rfl
    rw [h, List.getElem?_map, List.getElem?_take, if_pos hlt] at h1
    cases h0 : os[j]? with
    | none => rw [h0] at h1; cases h1
    | some o0 =>
      rw [h0] at h1
      simp only [Option.map_some, Option.some.injEq, SO.shp, Prod.mk.injEq] at h1
      exact ⟨o0, rfl, fun ho => by rw [h1.1]; exact ho, fun ho => by rw [h1.2]; exact ho⟩⟩
theorem Keeps.of {nb : Nat} {os os1 : List (SO C)} (hl : nb ≤ os1.length) (h : (os1.take nb).map SO.shp = (os.take nb).map SO.shp) (hn : ∀ o ∈ os1.drop nb, o.owns = true) : Keeps nb os os1 := Keeps.of2 hl h fun o ho => .inl (hn o ho)
/-- At a loop's end what is not wanted may be given up. -/
theorem LoopRun.weak {N : Nat} {c : Code} {nb : Nat} {S : LS C} {Q Q' : Ex → LS C → Prop} (h : LoopRun P N c nb S Q) (hq : ∀ x T, Q x T → ∃ T', Q' x T' ∧ T'.n = T.n ∧ T'.tm = T.tm ∧ ∀ j o, find j T'.hp = some o → ∃ O, find j T.hp = some O ∧ subO (renO (fun i => i) o) O) : LoopRun P N c nb S Q' := fun B X ρ w a hX hN hD RR T b kk cs => by
  obtain ⟨e, a', w', ⟨x, T1, ρ', h1, rfl, g1, g2, R1, T2⟩, harr⟩ := h B X ρ w a hX hN hD RR T b kk cs
  obtain ⟨T', h2, e1, e2, h3⟩ := hq x T1 h1
  have R' := R1.ren (f := fun i => i) (hp' := T'.hp) ⟨h3, fun i j _ _ _ _ hij _ _ => hij⟩ R1.nbLe (fun _ _ => rfl) (fun _ h => h)
  exact ⟨_, a', w', ⟨x, T', ρ', h2, rfl, g1, g2, by rw [e1]; exact R', by rw [e2]; exact T2⟩, harr⟩
end
end Go.Sx

/-
  The symbolic evaluator: functions that see slices and parts of slices, and lay new ones. Own work; nothing here is trusted.
-/
namespace Go.Sx
noncomputable section
open Go.RowKit

variable {C : Tab} {P : Program} {R : Type}
section rel
variable {B : World} {X : Own} {ρ : Asg} {hp : Hp C} {n : Nat} {w : World}

/-- What a run of its own has laid anew, behind what there was. -/
theorem Rel.join (h : Rel B X ρ hp n w) {m : Nat} {ρ0 : Asg} {V : Nat → Prop} {ρ1 : Asg} {news : List (SO C)} {w1 : World} (h1 : Rel w ⟨fun _ => False, V, ρ0, m, fun _ => False⟩ ρ1 (numH m news) (m + news.length) w1) (hown : allOwn news = true) :
    ∃ ρ', Rel B X ρ' (numH n news ++ hp) (n + news.length) w1 ∧ ρ.le ρ' ∧ ∀ j, ρ' (n + j) = ρ1 (m + j) := by
  have okb : ∀ g, okB w ⟨fun _ => False, V, ρ0, m, fun _ => False⟩ g → w.heap.size ≤ g := fun g hg => hg.elim id False.elim
  have hnew : ∀ j o, find j (numH 0 news) = some o → find (m + j) (numH m news) = some o ∧ isNew o = true := fun j o hj => by
    obtain ⟨_, g2⟩ := find_num hj
    rw [Nat.sub_zero] at g2
    exact ⟨num_find g2, allOwn_at hown _ _ g2⟩
  have R2 : Rel w (ownOf (fun i => ρ ((fun i => i) i)) ([] : Hp C) 0 X.fz) (fun j => ρ1 (m + j)) (numH 0 news) news.length w1 :=
    { os := h1.os, tape := h1.tape, out := h1.out, size := h1.size
      old := fun b hb _ => h1.old b hb id
      nbLe := Nat.zero_le _
      agree := fun i hi => absurd hi (Nat.not_lt_zero _)
      fresh := fun i hi => h1.fresh _ (by omega)
      one := fun i v hv => h1.one _ v hv
      obj := fun i o hi => by
        obtain ⟨g1, g2⟩ := hnew i o hi
        obtain ⟨v, hv, hok⟩ := h1.obj _ o g1
        refine ⟨v, hv, ?_⟩
        have hok' : okObj (fun j => ρ1 (m + j)) w1 (okB w ⟨fun _ => False, V, ρ0, m, fun _ => False⟩) v o := okObj.ren.2 (by rw [(isNew_spec g2).2]; exact hok)
        exact hok'.sub (subO.refl _) fun ho g hg => .inl (okb g (h1.okOwn g1 ho hv hg))
      sep := fun i j oi oj vi vj g hij hi hj ho hl hvi hvj hg => h1.sep (m + i) (m + j) oi oj vi vj g (by omega) (hnew i oi hi).1 (hnew j oj hj).1 ho hl hvi hvj hg
      blkOk := fun i o v g hi hl hv hg => h1.blkOk (m + i) o v g (hnew i o hi).1 hl hv hg
      prov := fun i o v g hi hl hv hg => .inl (okb g (h1.okOwn (hnew i o hi).1 (isNew_spec (hnew i o hi).2).1 hv hg))
      nn := fun i o v hi hs hv => h1.nn (m + i) o v (hnew i o hi).1 hs hv
      frz := fun g hg hb => by
        rcases hb with hb | ⟨x, o, v, hx, _⟩
        · have := (h.fzHeap hg).1
          have := h.size
          omega
        · simp [find] at hx
      inn := fun i o hi => by
        obtain ⟨_, g2⟩ := hnew i o hi
        cases o <;> first | trivial | cases g2 }
  have hr : Renum hp (fun i => i) ([] : Hp C) := ⟨fun j o hj => by simp [find] at hj, fun i j oi oj hi => by simp [find] at hi⟩
  obtain ⟨u1, u2, u3⟩ := h.up (fd := fun i => i) (fu := fun j => n + j) (hpG := hp) (m := 0) hr (fun j _ => by omega) (fun j hj => by omega) (fun x O hx => .inl hx) R2
    (fun j o hj => ⟨fun hlt => by omega, fun _ => .inl (isNew_spec (hnew j o hj).2).1⟩) (fun j o hj => by simp [find] at hj)
  have hup : ∀ (l : List (SO C)) (k : Nat), allOwn l = true → upHp (fun j => n + j) (numH k l) = numH (n + k) l := by
    intro l
    induction l with
    | nil => intro _ _; rfl
    | cons o l ih =>
      intro k ho
      unfold allOwn at ho
      split at ho
      · rename_i hno
        have := ih (k + 1) ho
        simp only [numH, upHp, this, (isNew_spec hno).2]
        rw [show n + (k + 1) = n + k + 1 by omega]
      · cases ho
  rw [hup news 0 hown, Nat.add_zero, Nat.sub_zero] at u1
  exact ⟨_, u1, u2, u3⟩

/-- Views of what there is, as the start of a run of its own. -/
theorem Rel.seen (h : Rel B X ρ hp n w) {xs : List SV} {os : List (SO C)} (hl : os.length = xs.length) (hs : ∀ (i : Nat) (x : SV) (o : SO C), xs[i]? = some x → os[i]? = some o → Seen ρ w x o) :
    Rel w ⟨fun _ => False, fun _ => True, fun i => match xs[i]? with | some x => den ρ x | none => none, os.length, fun _ => False⟩ (fun i => match xs[i]? with | some x => den ρ x | none => none) (numH 0 os) os.length w := by
  have at_ : ∀ j o, find j (numH 0 os) = some o → ∃ x, xs[j]? = some x ∧ Seen ρ w x o := fun j o hj => by
    obtain ⟨_, g2⟩ := find_num hj
    rw [Nat.sub_zero] at g2
    have hlt := (List.getElem?_eq_some_iff.1 g2).1
    exact ⟨_, List.getElem?_eq_getElem (by omega), hs j _ o (List.getElem?_eq_getElem (by omega)) g2⟩
  have noOwn : ∀ j o, find j (numH 0 os) = some o → o.owns = false := fun j o hj => by
    obtain ⟨x, _, ⟨full, e, ts, v, rfl, _⟩⟩ := at_ j o hj
    rfl
  refine { os := rfl, tape := rfl, out := rfl, size := Nat.le_refl _, old := fun _ _ _ => rfl, nbLe := Nat.le_refl _, agree := fun _ _ => rfl, fresh := fun i hi => ?_, one := fun i v hv => ?_, obj := fun j o hj => ?_,
           sep := fun i j oi oj vi vj g _ hi _ ho => (by rw [noOwn i oi hi] at ho; cases ho),
           blkOk := fun j o v g hj _ hv hg => ?_, prov := fun _ _ _ _ _ _ _ _ => .inr (.inr (.inl trivial)), nn := fun j o v hj _ hv => ?_, frz := fun _ h => h.elim, inn := fun j o hj => by obtain ⟨x, _, ⟨full, e, ts, v, rfl, _⟩⟩ := at_ j o hj; trivial }
  · simp only [List.getElem?_eq_none (show xs.length ≤ i by omega)]
  · split at hv
    · rename_i x hx
      have hlt := (List.getElem?_eq_some_iff.1 hx).1
      obtain ⟨full, e, ts, u, _, h2, _, _, h5, _⟩ := (hs i x _ hx (List.getElem?_eq_getElem (by omega))).ex
      rw [h2] at hv; cases hv; exact h5
    · cases hv
  · obtain ⟨x, hx, ⟨full, e, ts, u, rfl, h2, h3, h4, h5, h6⟩⟩ := at_ j o hj
    refine ⟨u, by simp only [hx]; exact h2, ?_⟩
    obtain ⟨a, cap, q1, q2, q3, q4⟩ := h6
    exact ⟨a, cap, q1, q2, q3, q4⟩
  · obtain ⟨x, hx, ⟨full, e, ts, u, rfl, h2, h3, h4, h5, h6⟩⟩ := at_ j o hj
    simp only [hx] at hv
    rw [h2] at hv; cases hv; exact h4 g hg
  · obtain ⟨x, hx, ⟨full, e, ts, u, rfl, h2, h3, h4, h5, h6⟩⟩ := at_ j o hj
    simp only [hx] at hv
    rw [h2] at hv; cases hv; exact h3
end rel

mutual
def anyVs : SV → Bool
  | .vs _ _ _ _ _ _ => true
  | .agg cs => anyVsL cs
  | .tup cs => anyVsL cs
  | .fn _ cs => anyVsL cs
  | _ => false
def anyVsL : List SV → Bool
  | [] => false
  | v :: r => match anyVs v with
    | true => true
    | false => anyVsL r
end
mutual
theorem seeV_ex {ρ : Asg} : ∀ (v : SV) (m : Nat) (u : Value), den ρ v = some u → ∀ x ∈ (seeV v m).2, ∃ w, den ρ x = some w
  | .raw _, _, _, _, x, hx => by simp [seeV] at hx
  | .h i, m, u, h, x, hx => by simp [seeV] at hx; subst hx; exact ⟨u, h⟩
  | .vs i s b o l c, m, u, h, x, hx => by simp [seeV] at hx; subst hx; exact ⟨u, h⟩
  | .ep i o, m, u, h, x, hx => by simp [seeV] at hx; subst hx; exact ⟨u, h⟩
  | .bs i o l c, m, u, h, x, hx => by simp [seeV] at hx; subst hx; exact ⟨u, h⟩
  | .el i a s j, m, u, h, x, hx => by simp [seeV] at hx; subst hx; exact ⟨u, h⟩
  | .agg cs, m, u, h, x, hx => by
    simp only [den, Option.map_eq_some_iff] at h
    obtain ⟨l, hl, _⟩ := h
    exact seeL_ex cs m l hl x (by simpa [seeV] using hx)
  | .tup cs, m, u, h, x, hx => by
    simp only [den, Option.map_eq_some_iff] at h
    obtain ⟨l, hl, _⟩ := h
    exact seeL_ex cs m l hl x (by simpa [seeV] using hx)
  | .fn g cs, m, u, h, x, hx => by
    simp only [den, Option.map_eq_some_iff] at h
    obtain ⟨l, hl, _⟩ := h
    exact seeL_ex cs m l hl x (by simpa [seeV] using hx)
theorem seeL_ex {ρ : Asg} : ∀ (l : List SV) (m : Nat) (us : List Value), denL ρ l = some us → ∀ x ∈ (seeL l m).2, ∃ w, den ρ x = some w
  | [], _, _, _, x, hx => by simp [seeL] at hx
  | v :: r, m, us, h, x, hx => by
    obtain ⟨u, l, h1, h2, _⟩ := denL_cons.1 h
    simp only [seeL] at hx
    rcases List.mem_append.1 hx with hx | hx
    · exact seeV_ex v m u h1 x hx
    · exact seeL_ex r _ l h2 x hx
end
def viewB (F : FnF C) : List SV → Hp C → Nat → OT C := fun vs hp n => seeO hp (seeL vs 0).2 fun os => (F (seeL vs 0).1 os).bind fun r => match allOwn r.2, numV (rangeL os.length r.2.length) r.1 with
  | true, some u => .leaf (renV (fun j => n + j) u, numH n r.2 ++ hp, n + r.2.length)
  | _, _ => .fail
def seeS (F : FnF C) : List SV → Hp C → Nat → OT C := fun vs hp n => match anyVsL vs with
  | false => viewS F vs hp n
  | true => viewB F vs hp n
theorem viewB_ok {g : Nat} {F : FnF C} (hF : ∀ args os r, (F args os).get = some r → Fn0 P g args os r) : ∀ vs hp n x, (viewB F vs hp n).get = some x → FnAns P g vs hp n x := fun vs hp n x h B X ρ w args RR hargs => by
  unfold viewB at h
  obtain ⟨os, h0, hlen, hs⟩ := seeO_spec _ hp _ h
  obtain ⟨r, h1, h2⟩ := Tr.get_bind h0
  split at h2
  · rename_i u hown hnum
    simp only [Tr.get, Option.some.injEq] at h2
    subst h2
    have hden : ∀ (l : List SV) (m : Nat) (us : List Value), denL ρ l = some us → ∀ x ∈ (seeL l m).2, ∃ v, den ρ x = some v := seeL_ex
    have hseen := hs B X ρ n w RR (hden vs 0 args hargs)
    have RS := RR.seen hlen hseen
    have hd : denL (fun i => match (seeL vs 0).2[i]? with | some x => den ρ x | none => none) (seeL vs 0).1 = some args := by
      rw [seeL_den (ρ := ρ) vs 0 fun i x hx => by simp only [Nat.zero_add, hx]]
      exact hargs
    obtain ⟨g1, g2⟩ := hF _ _ _ h1 w _ _ w args rfl RS hd
    refine ⟨g1, g2.mono ?_⟩
    rintro e w' ⟨ρ1, v, rfl, R1, hv⟩
    obtain ⟨ρ', u1, u2, u3⟩ := RR.join R1 hown
    refine ⟨ρ', v, _, _, _, rfl, u2, ⟨by omega, List.suffix_append _ _⟩, ?_, u1, rfl⟩
    have hr1 := numV_ren (f := fun j => os.length + j) (ids := rangeL os.length r.2.length) (fun j i hj => by
      have hlt := (List.getElem?_eq_some_iff.1 hj).1
      rw [rangeL_len] at hlt
      rw [rangeL_at _ _ _ hlt] at hj
      exact Option.some.inj hj) r.1 hnum
    rw [← hr1, ← den_ren] at hv
    rw [← den_ren]
    rw [show (fun i => ρ' (n + i)) = fun i => ρ1 (os.length + i) from funext u3]
    exact hv
  · cases h2
theorem seeS_ok {g : Nat} {F : FnF C} (hF : ∀ args os r, (F args os).get = some r → Fn0 P g args os r) : ∀ vs hp n x, (seeS F vs hp n).get = some x → FnAns P g vs hp n x := fun vs hp n x h => by
  unfold seeS at h
  split at h
  · exact viewS_ok hF vs hp n x h
  · exact viewB_ok hF vs hp n x h
end
end Go.Sx

/-
  The frame of a statement: arguments that stood still read as they did. Own work; nothing here is trusted.
-/
namespace Go.Sx
open Go.RowKit Go.ChangeShapes Go.WideShapes Go.ChangeAt

variable {P : Program}

def recB (P : Program) (ts : List TypeId) : Bool := ts.all fun t => P.readableRec t && decide (t < P.types.size)

theorem trodAll_below {H : Type} {enc : TypeId × Value → H} (hl : laidOutB P = true) {W W' : World} (hb : Below W.heap.size W W') : ∀ {ts : List TypeId} {vs : List Value} {ds : List (DataW H)} {ps : List MemPlace},
    recB P ts = true → DataW.TrodAll enc P W 0 (fun _ => true) true ts vs ds ps → (∀ x ∈ ps, x.block < W.heap.size) → DataW.TrodAll enc P W' 0 (fun b => decide (b < W.heap.size)) true ts vs ds ps
  | [], [], [], ps, _, h, _ => h
  | t :: ts, v :: vs, d :: ds, ps, hr, h, hlt => by
    obtain ⟨p, q, h1, h2, rfl⟩ := h
    simp only [recB, List.all_cons, Bool.and_eq_true, decide_eq_true_eq] at hr
    exact ⟨p, q, Below.trod hl hr.1.1 hr.1.2 h1 hb (fun x hx => hlt x (List.mem_append_left _ hx)), trodAll_below hl hb (by simpa [recB] using hr.2) h2 (fun x hx => hlt x (List.mem_append_right _ hx)), rfl⟩
  | [], [], _ :: _, _, _, h, _ => h.elim
  | [], _ :: _, _, _, _, h, _ => h.elim
  | _ :: _, [], _, _, _, h, _ => h.elim
  | _ :: _, _ :: _, [], _, _, h, _ => h.elim

theorem wf_i64 {n : Int} (h : (Lit.int .i64 n).wf = true) : -9223372036854775808 ≤ n ∧ n ≤ 9223372036854775807 := by
  have e1 : IntKind.i64.min = -9223372036854775808 := rfl
  have e2 : IntKind.i64.max = 9223372036854775807 := rfl
  simp only [Lit.wf, Bool.and_eq_true, decide_eq_true_eq, e1, e2] at h
  exact h
theorem wf_u8 {n : Int} (h : (Lit.int .u8 n).wf = true) : 0 ≤ n ∧ n ≤ 255 := by
  have e1 : IntKind.u8.min = 0 := rfl
  have e2 : IntKind.u8.max = 255 := rfl
  simp only [Lit.wf, Bool.and_eq_true, decide_eq_true_eq, e1, e2] at h
  exact h
theorem wf_u16 {n : Int} (h : (Lit.int .u16 n).wf = true) : 0 ≤ n ∧ n ≤ 65535 := by
  have e1 : IntKind.u16.min = 0 := rfl
  have e2 : IntKind.u16.max = 65535 := rfl
  simp only [Lit.wf, Bool.and_eq_true, decide_eq_true_eq, e1, e2] at h
  exact h
theorem wf_u32 {n : Int} (h : (Lit.int .u32 n).wf = true) : 0 ≤ n ∧ n ≤ 4294967295 := by
  have e1 : IntKind.u32.min = 0 := rfl
  have e2 : IntKind.u32.max = 4294967295 := rfl
  simp only [Lit.wf, Bool.and_eq_true, decide_eq_true_eq, e1, e2] at h
  exact h
theorem wf_u64 {n : Int} (h : (Lit.int .u64 n).wf = true) : 0 ≤ n ∧ n ≤ 18446744073709551615 := by
  have e1 : IntKind.u64.min = 0 := rfl
  have e2 : IntKind.u64.max = 18446744073709551615 := rfl
  simp only [Lit.wf, Bool.and_eq_true, decide_eq_true_eq, e1, e2] at h
  exact h

/-- A struct of a number and a bool, opened. -/
theorem open_ib {H : Type} {enc : TypeId × Value → H} {P : Program} {w : World} {base : Nat} {spare : Nat → Bool} {held : Bool} {r : Reach} {b0 : Nat} {t : TypeId} {f0 f1 : Field} {k : IntKind} {v : Value} {d : DataW H} {ps : List MemPlace}
    (ht : P.underlying t = some (.struct #[f0, f1])) (h0 : P.underlying f0.type = some (.int k)) (h1 : P.underlying f1.type = some .bool) (c0 : P.cellsOf f0.type = 1) (c1 : P.cellsOf f1.type = 1) (o0 : f0.offset = 0) (o1 : f1.offset = 1) (ct : P.cellsOf t = 2)
    (hval : Value.okWide P w r b0 t v) (hd : DataW.Trod enc P w base spare held t v d ps) : ∃ a b, v = .agg #[.int k a, .bool b] ∧ (Lit.int k a).wf = true := by
  obtain ⟨cs, rfl, hs⟩ := Go.WideShapes.okWide_struct ht hval
  obtain ⟨fuel, hf⟩ := hd
  obtain ⟨y0, y1, n, _, _, g0, g1⟩ := Go.ChangeShapes.trod_struct2 ht hf
  rw [ct] at hs
  rw [c0, o0] at g0
  rw [c1, o1] at g1
  obtain ⟨l⟩ := cs
  match l, hs with
  | [x, y], _ =>
    obtain ⟨a, ha, _, hw⟩ := DataW.trod_int h0 g0
    obtain ⟨b, hb, _⟩ := DataW.trod_bool h1 g1
    simp [Value.cells] at ha hb
    subst ha; subst hb
    exact ⟨a, b, rfl, hw⟩
end Go.Sx

/-
  The frame of a statement: arguments of plain shapes, and slices of such, read as data. Own work; nothing here is trusted.
-/
namespace Go.Sx
open Go.RowKit Go.ChangeShapes Go.WideShapes Go.ChangeAt

variable {P : Program}

/-- The cells of a plain type. -/
inductive FK where
  | int (k : IntKind)
  | bool
  | str
def okK : FK → Value → Prop
  | .int k, v => ∃ n, v = .int k n ∧ (Lit.int k n).wf = true
  | .bool, v => ∃ b, v = .bool b
  | .str, v => ∃ s : ByteArray, v = .string s ∧ s.size ≤ maxLen
def matchK : List FK → List Value → Prop
  | [], [] => True
  | k :: ks, v :: vs => okK k v ∧ matchK ks vs
  | _, _ => False
theorem matchK_len : ∀ {ks : List FK} {vs : List Value}, matchK ks vs → vs.length = ks.length
  | [], [], _ => rfl
  | _ :: ks, _ :: vs, h => by simp [matchK_len h.2]
  | [], _ :: _, h => h.elim
  | _ :: _, [], h => h.elim
theorem matchK_append : ∀ {k1 k2 : List FK} {vs : List Value}, matchK k1 (vs.take k1.length) → matchK k2 (vs.drop k1.length) → matchK (k1 ++ k2) vs
  | [], _, _, _, h => h
  | k :: k1, k2, [], h, _ => h.elim
  | k :: k1, k2, v :: vs, h, h' => ⟨h.1, matchK_append h.2 h'⟩

def kindsF (P : Program) (rec : TypeId → Option (List FK)) : List Field → Nat → Option (List FK)
  | [], _ => some []
  | f :: r, off => match Nat.beq f.offset off, rec f.type with
    | true, some ks => match Nat.beq (P.cellsOf f.type) ks.length, kindsF P rec r (off + ks.length) with
      | true, some l => some (ks ++ l)
      | _, _ => none
    | _, _ => none
def repK (ks : List FK) : Nat → List FK
  | 0 => []
  | n + 1 => ks ++ repK ks n
def kindsOf (P : Program) : Nat → TypeId → Option (List FK)
  | 0, _ => none
  | d + 1, t => match P.underlying t with
    | some (.int k) => some [.int k]
    | some .bool => some [.bool]
    | some .string => some [.str]
    | some (.struct fs) => match kindsF P (kindsOf P d) fs.toList 0 with
      | some ks => match Nat.beq (P.cellsOf t) ks.length with
        | true => some ks
        | false => none
      | none => none
    | some (.array n e) => match kindsOf P d e with
      | some ks => match Nat.beq (P.cellsOf e) ks.length, Nat.beq (P.cellsOf t) (repK ks n).length with
        | true, true => some (repK ks n)
        | _, _ => none
      | none => none
    | _ => none

section
variable {H : Type} {enc : TypeId × Value → H} {w : World} {base : Nat} {spare : Nat → Bool} {held : Bool}

theorem kindsF_trod {rec : TypeId → Option (List FK)} {m : Nat} {cs : List Value} (hr : ∀ t ks, rec t = some ks → ∀ cs x, DataW.trod enc P w base spare held m t cs = some x → matchK ks cs) :
    ∀ (l : List Field) (off : Nat) (ks : List FK), kindsF P rec l off = some ks → (∀ f ∈ l, ∃ y, DataW.trod enc P w base spare held m f.type ((cs.drop f.offset).take (P.cellsOf f.type)) = some y) → off + ks.length = cs.length → matchK ks (cs.drop off)
  | [], off, ks, h, _, hl => by
    simp only [kindsF, Option.some.injEq] at h; subst h
    rw [List.drop_eq_nil_of_le (by simpa using Nat.le_of_eq hl.symm)]
    trivial
  | f :: r, off, ks, h, hf, hl => by
    unfold kindsF at h
    split at h
    · rename_i k1 ho hk1
      split at h
      · rename_i l hc hl2
        cases h
        have ho := Nat.eq_of_beq_eq_true ho
        have hc := Nat.eq_of_beq_eq_true hc
        obtain ⟨y, hy⟩ := hf f List.mem_cons_self
        have h1 := hr _ _ hk1 _ _ hy
        rw [ho, hc] at h1
        have h2 := kindsF_trod hr r _ _ hl2 (fun g hg => hf g (List.mem_cons_of_mem _ hg)) (by rw [List.length_append] at hl; omega)
        refine matchK_append h1 ?_
        rw [List.drop_drop]; exact h2
      · cases h
    · cases h
theorem repK_match {ks : List FK} {cs : List Value} : ∀ (n i : Nat), (∀ j, j < n → matchK ks ((cs.drop ((i + j) * ks.length)).take ks.length)) → (i + n) * ks.length = cs.length → matchK (repK ks n) (cs.drop (i * ks.length))
  | 0, i, _, hl => by
    rw [List.drop_eq_nil_of_le (by rw [← hl]; exact Nat.le_refl _)]
    trivial
  | n + 1, i, h, hl => by
    refine matchK_append (h 0 (by omega)) ?_
    have := repK_match (ks := ks) (cs := cs) n (i + 1) (fun j hj => by have := h (j + 1) (by omega); rwa [show i + (j + 1) = i + 1 + j by omega] at this) (by rw [show i + 1 + n = i + (n + 1) by omega]; exact hl)
    rw [List.drop_drop, show i * ks.length + ks.length = (i + 1) * ks.length by rw [Nat.add_mul, Nat.one_mul]]
    exact this
theorem kindsOf_trod : ∀ (d : Nat) (t : TypeId) (ks : List FK), kindsOf P d t = some ks → ∀ (fuel : Nat) (cs : List Value) x, DataW.trod enc P w base spare held fuel t cs = some x → matchK ks cs
  | 0, _, _, h, _, _, _, _ => by cases h
  | d + 1, t, ks, h, fuel, cs, x, hx => by
    unfold kindsOf at h
    split at h
    · rename_i k ht
      cases h
      obtain ⟨a, rfl, _, hw⟩ := DataW.trod_int ht hx
      exact ⟨⟨a, rfl, hw⟩, trivial⟩
    · rename_i ht
      cases h
      obtain ⟨b, rfl, _⟩ := DataW.trod_bool ht hx
      exact ⟨⟨b, rfl⟩, trivial⟩
    · rename_i ht
      cases h
      obtain ⟨s, rfl, _, hw⟩ := DataW.trod_string ht hx
      exact ⟨⟨s, rfl, hw⟩, trivial⟩
    · rename_i fs ht
      split at h
      · rename_i ks' hk
        split at h
        · rename_i hc
          cases h
          have hc := Nat.eq_of_beq_eq_true hc
          obtain ⟨xs, n, rfl, rfl, hl, hlen, hf⟩ := DataW.trod_struct ht hx
          have := kindsF_trod (cs := cs) (m := n) (fun t ks hk cs x hx => kindsOf_trod d t ks hk n cs x hx) fs.toList 0 _ hk (fun f hf' => by
            obtain ⟨i, hi⟩ := List.mem_iff_getElem?.1 hf'
            have hi' : fs[i]? = some f := by simpa using hi
            have hlt : i < xs.length := by rw [hlen]; exact (Array.getElem?_eq_some_iff.1 hi').1
            exact ⟨_, (hf i f hi').trans (List.getElem?_eq_getElem hlt)⟩) (by rw [Nat.zero_add, hl, hc])
          simpa using this
        · cases h
      · cases h
    · rename_i n e ht
      split at h
      · rename_i ks' hk
        split at h
        · rename_i hc1 hc2
          cases h
          have hc1 := Nat.eq_of_beq_eq_true hc1
          have hc2 := Nat.eq_of_beq_eq_true hc2
          obtain ⟨xs, m, rfl, rfl, hl, hlen, hf⟩ := DataW.trod_array ht hx
          have hrep : ∀ n, (repK ks' n).length = n * ks'.length := by
            intro n
            induction n with
            | zero => simp [repK]
            | succ n ih => simp only [repK, List.length_append, ih, Nat.add_mul, Nat.one_mul]; omega
          have := repK_match (ks := ks') (cs := cs) n 0 (fun j hj => by
            have hj' : j < xs.length := by rw [hlen]; exact hj
            have := kindsOf_trod d e ks' hk m _ _ ((hf j hj).trans (List.getElem?_eq_getElem hj'))
            rw [hc1] at this
            rw [Nat.zero_add]; exact this) (by rw [Nat.zero_add, ← hrep, ← hc2, hl])
          simpa using this
        · cases h
      · cases h
    · cases h

theorem mapM_cells {w : World} {a : Addr} : ∀ {n : Nat} {k : Nat} {cs : List Value}, ((List.range' k n).mapM fun i => w.cell? (a.add i)) = some cs → cs.length = n ∧ ∀ (j : Nat) (y : Value), cs[j]? = some y → w.cell? (a.add (k + j)) = some y
  | 0, k, cs, h => by simp at h; subst h; simp
  | n + 1, k, cs, h => by
    rw [List.range'_succ, List.mapM_cons] at h
    cases h1 : w.cell? (a.add k) with
    | none => simp [h1] at h
    | some v =>
      cases h2 : (List.range' (k + 1) n).mapM (fun i => w.cell? (a.add i)) with
      | none => simp [h1, h2] at h
      | some vs =>
        simp [h1, h2] at h
        subst h
        obtain ⟨g1, g2⟩ := mapM_cells h2
        refine ⟨by simp [g1], fun j y hj => ?_⟩
        match j with
        | 0 => simp at hj; subst hj; exact h1
        | j + 1 =>
          have := g2 j y (by simpa using hj)
          rwa [show k + 1 + j = k + (j + 1) by omega] at this
theorem cells_spec {w : World} {base : Nat} {a : Addr} {n : Nat} {cs : List Value} (h : w.cells? base a n = some cs) : cs.length = n ∧ ∀ (j : Nat) (y : Value), cs[j]? = some y → w.cell? (a.add j) = some y := by
  unfold World.cells? at h
  split at h
  · rw [List.range_eq_range'] at h
    obtain ⟨h1, h2⟩ := mapM_cells h
    exact ⟨h1, fun j y hj => by have := h2 j y hj; rwa [Nat.zero_add] at this⟩
  · cases h

/-- A slice of plain elements, opened. -/
theorem open_view {t e : TypeId} {c : Codec} {d : Nat} {ks : List FK} {fuel : Nat} {cs : List Value} {x : DataW H × List MemPlace} (ht : P.underlying t = some (.slice e)) (hk : kindsOf P d e = some ks) (hc : P.cellsOf e = c.sz)
    (henc : ∀ l, matchK ks l → ∃ a, c.enc a = l) (h : DataW.trod enc P w base spare held fuel t cs = some x) :
    cs = [.slice none 0 0] ∨ ∃ (a : Addr) (cap : Nat) (ts : List c.α), cs = [.slice (some a) ts.length cap] ∧ ts.length ≤ cap ∧ (∀ j y, (c.flat ts)[j]? = some y → w.cell? (a.add j) = some y) ∧ ∀ t ∈ ts, matchK ks (c.enc t) := by
  rcases DataW.trod_slice ht h with ⟨rfl, _⟩ | ⟨a, len, cap, elems, rest, n, _, rfl, _, _, hl, _, hlen, hel, _⟩
  · exact .inl rfl
  · right
    have each : ∀ i, i < len → ∃ q : c.α, matchK ks (c.enc q) ∧ ∀ j y, (c.enc q)[j]? = some y → w.cell? (a.add (i * c.sz + j)) = some y := by
      intro i hi
      have h1 := hel i hi
      rw [List.getElem?_eq_getElem (by omega)] at h1
      obtain ⟨cells, h2, h3⟩ := Option.bind_eq_some_iff.1 h1
      rw [hc] at h2
      have hm := kindsOf_trod d e ks hk n cells _ h3
      obtain ⟨q, rfl⟩ := henc cells hm
      obtain ⟨g1, g2⟩ := cells_spec h2
      refine ⟨q, hm, fun j y hj => ?_⟩
      have := g2 j y hj
      rwa [Addr.add_add] at this
    have build : ∀ m, m ≤ len → ∃ ts : List c.α, ts.length = m ∧ (∀ j y, (c.flat ts)[j]? = some y → w.cell? (a.add j) = some y) ∧ ∀ t ∈ ts, matchK ks (c.enc t) := by
      intro m
      induction m with
      | zero => exact fun _ => ⟨[], rfl, fun j y h => by simp [Codec.flat] at h, fun t h => by cases h⟩
      | succ m ih =>
        intro hm
        obtain ⟨ts, e1, e2, e3⟩ := ih (by omega)
        obtain ⟨q, q1, q2⟩ := each m (by omega)
        refine ⟨ts ++ [q], by simp [e1], fun j y hj => ?_, fun t ht => ?_⟩
        · rw [c.flat_append, List.getElem?_append] at hj
          split at hj
          · exact e2 j y hj
          · rename_i hge
            rw [c.flat_length, e1] at hj hge
            simp only [Codec.flat, List.append_nil] at hj
            have := q2 _ y hj
            rwa [show m * c.sz + (j - m * c.sz) = j by omega] at this
        · rcases List.mem_append.1 ht with ht | ht
          · exact e3 t ht
          · rw [List.mem_singleton.1 ht]; exact q1
    obtain ⟨ts, e1, e2, e3⟩ := build len (Nat.le_refl _)
    exact ⟨a, cap, ts, by rw [e1], by rw [e1]; exact hl, e2, e3⟩
end

theorem matchK_cons {k : FK} {ks : List FK} {l : List Value} (h : matchK (k :: ks) l) : ∃ v r, l = v :: r ∧ okK k v ∧ matchK ks r := by
  match l, h with
  | v :: r, h => exact ⟨v, r, rfl, h.1, h.2⟩
theorem matchK_nil {l : List Value} (h : matchK [] l) : l = [] := by
  match l, h with
  | [], _ => rfl
/-- A struct of plain fields, opened. -/
theorem open_struct {H : Type} {enc : TypeId × Value → H} {w : World} {base : Nat} {spare : Nat → Bool} {held : Bool} {r : Reach} {b0 : Nat} {t : TypeId} {fs : Array Field} {d : Nat} {ks : List FK} {v : Value} {y : DataW H} {ps : List MemPlace}
    (ht : P.underlying t = some (.struct fs)) (hk : kindsOf P d t = some ks) (hval : Value.okWide P w r b0 t v) (hd : DataW.Trod enc P w base spare held t v y ps) : ∃ l : List Value, v = .agg l.toArray ∧ matchK ks l := by
  obtain ⟨cs, rfl, _⟩ := Go.WideShapes.okWide_struct ht hval
  obtain ⟨fuel, hf⟩ := hd
  exact ⟨cs.toList, by simp, kindsOf_trod d t ks hk fuel _ _ hf⟩
/-- A slice that was handed over lies in a block that there is. -/
theorem slice_block {w : World} {r : Reach} {b0 : Nat} {t e : TypeId} {a : Addr} {len cap : Nat} (ht : P.underlying t = some (.slice e)) (h : Value.okWide P w r b0 t (.slice (some a) len cap)) : a.block < w.heap.size := by
  simp only [Value.okWide, ht, Cell.okWide, Cell.ok] at h
  obtain ⟨_, _, _, _, row, cells, h, _⟩ := h
  unfold World.shape? at h
  split at h
  · rename_i hb
    exact (Array.getElem?_eq_some_iff.1 hb).1
  · cases h

section
variable {C : Tab} {W : World}
/-- Nothing of what there was may be written; all of it may be seen. -/
def ownSee (W : World) (ρ : Asg) (n : Nat) : Own := ⟨fun _ => False, fun _ => True, ρ, n, fun g => g < W.heap.size⟩
/-- A view of what there was, behind a new handle. -/
theorem Rel.see {X : Own} {ρ : Asg} {hp : Hp C} {n : Nat} (h : Rel W ⟨fun _ => False, fun _ => True, X.ba, X.nb, fun g => g < W.heap.size⟩ ρ hp n W) (hno : ∀ i o, find i hp = some o → o.owns = false) {e : TypeId} {a : Addr} {cap : Nat} {ts : List (C e).α} (hl : ts.length ≤ cap)
    (hc : ∀ j y, ((C e).flat ts)[j]? = some y → W.cell? (a.add j) = some y) (hb : a.block < W.heap.size) :
    Rel W ⟨fun _ => False, fun _ => True, X.ba, X.nb, fun g => g < W.heap.size⟩ (ρ.add n (.slice (some a) ts.length cap)) ((n, .sl false false e ts) :: hp) (n + 1) W :=
  h.add rfl ⟨some a, cap, rfl, hl, nofun, fun j x hj => ⟨a, rfl, hc j x hj⟩⟩ (fun g hg => by simp [blk] at hg; subst hg; exact hb)
    (fun j oj vj g hj _ _ _ _ => ⟨rfl, hno j oj hj⟩) (fun g hg => .inr (.inr (.inl trivial))) (fun _ => rfl)
/-- A row whose elements hold slices, behind a new handle. -/
theorem Rel.seeSs {X : Own} {ρ : Asg} {hp : Hp C} {n : Nat} (h : Rel W ⟨fun _ => False, fun _ => True, X.ba, X.nb, fun g => g < W.heap.size⟩ ρ hp n W) (hno : ∀ i o, find i hp = some o → o.owns = false) {e it : TypeId} {pos : Nat} {a : Addr} {cap : Nat} {ts : List ((C e).α × Option (Addr × Nat) × List (C it).α)} (hl : ts.length ≤ cap)
    (hc : ∀ j y, (ssFlat (C e) pos ts)[j]? = some y → W.cell? (a.add j) = some y) (hb : a.block < W.heap.size)
    (hi : ∀ t ∈ ts, (t.2.1 = none → t.2.2 = []) ∧ ∀ a c, t.2.1 = some (a, c) → t.2.2.length ≤ c ∧ (0 < c → a.block < W.heap.size ∧ ∀ j x, ((C it).flat t.2.2)[j]? = some x → W.cell? (a.add j) = some x)) :
    Rel W ⟨fun _ => False, fun _ => True, X.ba, X.nb, fun g => g < W.heap.size⟩ (ρ.add n (.slice (some a) ts.length cap)) ((n, .ss e pos it ts) :: hp) (n + 1) W :=
  h.add rfl ⟨some a, cap, rfl, hl, fun j x hj => ⟨a, rfl, hc j x hj⟩⟩ (fun g hg => by simp [blk] at hg; subst hg; exact hb)
    (fun j oj vj g hj _ _ _ _ => ⟨rfl, hno j oj hj⟩) (fun g hg => .inr (.inr (.inl trivial))) (fun _ => rfl) hi
/-- A statement's call, out of what its function answers by its own numbers. -/
theorem run_fn0 {g : Nat} {args : List SV} {os : List (SO C)} {vals : List Value} {ρ : Asg} (h : Fn0 P g args os (.raw (.bool true), [])) (hR : Rel W ⟨fun _ => False, fun _ => True, ρ, os.length, fun g => g < W.heap.size⟩ ρ (numH 0 os) os.length W) (hd : denL ρ args = some vals) :
    Calls P g vals.toArray W fun e w' => e = .returned (.bool true) ∧ Below W.heap.size W w' := by
  refine (h W _ ρ W vals rfl hR hd).2.mono ?_
  rintro e w' ⟨ρ', v, rfl, R, hv⟩
  simp only [den, Option.some.injEq] at hv
  subst hv
  exact ⟨rfl, { os := R.os, tape := R.tape, output := R.out, size := R.size, block := fun b hb => R.old b hb (fun h => h) }⟩
theorem rel_none : Rel (C := C) W ⟨fun _ => False, fun _ => True, fun _ => none, 0, fun g => g < W.heap.size⟩ (fun _ => none) (numH 0 []) 0 W := Rel.start W _ rfl (fun g hg h => h.elim (fun h' => absurd hg (Nat.not_lt.2 h')) id)
theorem run_flat {g : Nat} {args : List SV} {vals : List Value} (h : Fn0 (C := C) P g args [] (.raw (.bool true), [])) (hd : denL (fun _ => none) args = some vals) :
    Calls P g vals.toArray W fun e w' => e = .returned (.bool true) ∧ Below W.heap.size W w' := run_fn0 h rel_none hd
end
end Go.Sx

/-
  The frame of a statement: a slice that was handed over. Own work; nothing here is trusted.
-/
namespace Go.Sx
open Go.RowKit Go.ChangeShapes Go.WideShapes Go.ChangeAt

variable {P : Program}
/-- What a slice argument is: nil, or elements that stand somewhere. -/
def SArg (c : Codec) (p : c.α → Prop) (W : World) (v : Value) : Prop :=
  v = .slice none 0 0 ∨ ∃ (a : Addr) (cap : Nat) (ts : List c.α), v = .slice (some a) ts.length cap ∧ ts.length ≤ cap ∧ (∀ j y, (c.flat ts)[j]? = some y → W.cell? (a.add j) = some y) ∧ (∀ t ∈ ts, p t) ∧ a.block < W.heap.size
theorem open_sl {H : Type} {enc : TypeId × Value → H} {w : World} {base : Nat} {spare : Nat → Bool} {held : Bool} {r : Reach} {b0 : Nat} {t e : TypeId} {d : Nat} {ks : List FK} {v : Value} {y : DataW H} {ps : List MemPlace}
    (c : Codec) (ht : P.underlying t = some (.slice e)) (hk : kindsOf P d e = some ks) (hc : P.cellsOf e = c.sz) (henc : ∀ l, matchK ks l → ∃ a, c.enc a = l)
    (hval : Value.okWide P w r b0 t v) (hd : DataW.Trod enc P w base spare held t v y ps) : SArg c (fun q => matchK ks (c.enc q)) w v := by
  obtain ⟨a, len, cap, rfl⟩ := Go.WideShapes.okWide_slice ht hval
  obtain ⟨fuel, hf⟩ := hd
  rcases open_view ht hk hc henc hf with h | ⟨a', cap', ts, h, h1, h2, h3⟩
  · left
    have h : [Value.slice a len cap] = [Value.slice none 0 0] := h
    exact List.cons.inj h |>.1
  · right
    have h : [Value.slice a len cap] = [Value.slice (some a') ts.length cap'] := h
    have h := (List.cons.inj h).1
    refine ⟨a', cap', ts, h, h1, h2, h3, ?_⟩
    rw [h] at hval
    exact slice_block ht hval
variable {C : Tab} {W : World}
theorem Rel.base {ρ ba : Asg} {nb n : Nat} {hp : Hp C} {w : World} (h : Rel W ⟨fun _ => False, fun _ => True, ba, nb, fun g => g < W.heap.size⟩ ρ hp n w) : Rel W ⟨fun _ => False, fun _ => True, ρ, n, fun g => g < W.heap.size⟩ ρ hp n w :=
  ⟨h.os, h.tape, h.out, h.size, h.old, Nat.le_refl _, fun _ _ => rfl, h.fresh, h.one, h.obj, h.sep, h.blkOk, h.prov, h.nn, h.frz, h.inn⟩
/-- A call with one slice that was handed over. -/
theorem run_one {g : Nat} {args : List SV} {vals : List Value} {e : TypeId} {a : Addr} {cap : Nat} {ts : List (C e).α} (h : Fn0 P g args [.sl false false e ts] (.raw (.bool true), [])) (hl : ts.length ≤ cap)
    (hc : ∀ j y, ((C e).flat ts)[j]? = some y → W.cell? (a.add j) = some y) (hb : a.block < W.heap.size) (hd : denL (Asg.add (fun _ => none) 0 (.slice (some a) ts.length cap)) args = some vals) :
    Calls P g vals.toArray W fun e w' => e = .returned (.bool true) ∧ Below W.heap.size W w' :=
  run_fn0 h (Rel.base (Rel.see (X := ⟨fun _ => False, fun _ => True, fun _ => none, 0, fun g => g < W.heap.size⟩) rel_none (fun i o hi => by simp [numH, find] at hi) hl hc hb)) hd
end Go.Sx

/-
  The symbolic evaluator: functions that take an owned slice over, and what it may hold beyond its length. Own work; nothing here is trusted.
-/
namespace Go.Sx
noncomputable section
open Go.RowKit

variable {C : Tab} {P : Program} {R : Type}

def fnX (C : Tab) (P : Program) (sp : SpecT C) (ls : LoopT C) (unr : Nat → Nat → Nat) (d g : Nat) (args : List SV) (hp : Hp C) (n : Nat) : Tr (SV × List (SO C)) :=
  (evalT C P sp ls unr d g args hp n fun sv hp n => .leaf (sv, hp, n)).bind fun q => shutL [q.1] q.2.1 q.2.2 fun vs hp _ => (canonV 0 vs hp).bind fun y => match y.1 with
    | [v] => .leaf (v, y.2)
    | _ => .fail
theorem fnX_run (hp0 : Plain P) (hm : P.follows .mixedOrders = true) {sp : SpecT C} (hs : SpecTOk P sp) {ls : LoopT C} (hl : LoopTOk P ls) {unr : Nat → Nat → Nat} {d g : Nat} {args : List SV} {hp : Hp C} {n : Nat} {r : SV × List (SO C)}
    (h : (fnX C P sp ls unr d g args hp n).get = some r) {B : World} {X : Own} {ρ : Asg} {w : World} {vals : List Value} (hX : X.nb = 0) (RR : Rel B X ρ hp n w) (hd : denL ρ args = some vals) :
    (∃ fn, P.funcs[g]? = some fn ∧ fn.body.isSome = true) ∧ Calls P g vals.toArray w fun e w' => ∃ ρ' v, e = .returned v ∧ Rel B X ρ' (numH 0 r.2) r.2.length w' ∧ den ρ' r.1 = some v := by
  unfold fnX at h
  obtain ⟨⟨sv, hp1, n1⟩, h1, h2⟩ := Tr.get_bind h
  obtain ⟨vs2, hp2, n2, h2, s1⟩ := shutL_spec _ _ _ _ h2
  obtain ⟨⟨ws, os1⟩, h3, h4⟩ := Tr.get_bind h2
  simp only at h4
  split at h4
  · rename_i v
    simp only [Tr.get, Option.some.injEq] at h4
    subst h4
    obtain ⟨f, hf⟩ := canonV_ok (n := n2) h3
    obtain ⟨g1, g2⟩ := evalT_ok hp0 hm hs hl (unr := unr) d _ g args hp n _ B X ρ w vals h1 RR hd
    refine ⟨g1, g2.mono ?_⟩
    rintro e w' ⟨ρ', v', sv', hp', n', rfl, h5, h6, h7, h8, h9⟩
    simp only [Tr.get, Option.some.injEq, Prod.mk.injEq] at h9
    obtain ⟨rfl, rfl, rfl⟩ := h9
    obtain ⟨ρ2, p2, R2, d2⟩ := s1 B X ρ' w' [v'] h8 (denL_one h7)
    have hR := R2.ren (hp' := numH 0 os1) (n' := os1.length) (f := f) hf.ren (by omega) (fun i hi => by omega) hf.fresh
    refine ⟨_, v', rfl, hR, ?_⟩
    rw [← hf.vals, ← denL_ren] at d2
    obtain ⟨u, l, d3, d4, d5⟩ := denL_cons.1 d2
    simp only [List.cons.injEq] at d5
    rw [d5.1]; exact d3
  · cases h4
/-- A function that takes its slices over. -/
theorem fnO_ok (hp0 : Plain P) (hm : P.follows .mixedOrders = true) {sp : SpecT C} (hs : SpecTOk P sp) {ls : LoopT C} (hl : LoopTOk P ls) {unr : Nat → Nat → Nat} {d g : Nat} {args : List SV} {os : List (SO C)} {r : SV × List (SO C)}
    (h : (fnX C P sp ls unr d g args (numH 0 os) os.length).get = some r) : FnOwn P g args os r := fun B X ρ w vals hX RR hd => fnX_run hp0 hm hs hl h hX RR hd
/-- .. the first of them laid open. -/
theorem fnI_ok (hp0 : Plain P) (hm : P.follows .mixedOrders = true) {sp : SpecT C} (hs : SpecTOk P sp) {ls : LoopT C} (hl : LoopTOk P ls) {unr : Nat → Nat → Nat} {d g : Nat} {args : List SV} {f : Bool} {e : TypeId} {ts : List (C e).α} {os : List (SO C)} {r : SV × List (SO C)}
    (h : ∀ tc : List (C e).α, tc.take ts.length = ts → ts.length ≤ tc.length →
      (fnX C P sp ls unr d g (.vs (os.length + 1) (C e).sz 0 0 ts.length none :: args) ((os.length + 1, .sl true true e tc) :: (0, .gone) :: numH 0 (.sl true f e ts :: os)) (os.length + 1 + 1)).get = some r) :
    FnOwn P g (.h 0 :: args) (.sl true f e ts :: os) r := fun B X ρ w vals hX RR hd => by
  obtain ⟨v, l, d1, d2, rfl⟩ := denL_cons.1 hd
  have hi : find 0 (numH 0 (SO.sl true f e ts :: os)) = some (.sl true f e ts) := by simp [numH, find]
  obtain ⟨tc, t1, t2, u, R', d'⟩ := RR.open1 hi d1
  exact fnX_run hp0 hm hs hl (h tc t1 t2) hX R' (denL_cons.2 ⟨v, l, d', denL_mono (Asg.le_add ρ _ u (RR.fresh _ (Nat.le_refl _))) _ _ d2, rfl⟩)
/-- One put in at a place, one taken out. -/
def insL {α : Type} (ts : List α) (i : Nat) (us : List α) : List α := ts.take i ++ us ++ ts.drop i
def delL {α : Type} (ts : List α) (i j : Nat) : List α := ts.take i ++ ts.drop j
theorem take_at {α : Type} {l m : List α} {n : Nat} (h : n = l.length) : (l ++ m).take n = l := by subst h; exact List.take_left
theorem drop_at {α : Type} {l m : List α} {n : Nat} (h : n = l.length) : (l ++ m).drop n = m := by subst h; exact List.drop_left
theorem ins_shift_list {α : Type} (a b rest : List α) (x : α) {k1 k2 k3 k4 k5 k6 k7 : Nat} (hb : 0 < b.length) (h1 : k1 = a.length + 1) (h2 : k2 = a.length) (h3 : b.length ≤ k3) (h4 : k4 = b.length) (h5 : k5 = a.length) (h6 : 1 ≤ k6) (h7 : k7 = a.length + b.length + 1) :
    List.take k7 (overL (overL (a ++ b ++ rest) k1 (List.take k4 (List.take k3 (List.drop k2 (a ++ b ++ rest))))) k5 (List.take k6 [x])) = a ++ ([x] ++ b) := by
  have e1 : List.take k4 (List.take k3 (List.drop k2 (a ++ b ++ rest))) = b := by
    rw [List.append_assoc, drop_at h2, List.take_take, Nat.min_eq_left (by omega), take_at h4]
  have e2 : List.take k6 [x] = [x] := List.take_of_length_le (by simpa using h6)
  rw [e1, e2]
  unfold overL
  have hl : ((a ++ b ++ rest).take k1).length = a.length + 1 := by rw [List.length_take]; simp; omega
  have e3 : (List.take k1 (a ++ b ++ rest) ++ b ++ List.drop (k1 + b.length) (a ++ b ++ rest)).take k5 = a := by
    rw [List.append_assoc, List.take_append_of_le_length (by omega), List.take_take, Nat.min_eq_left (by omega), List.append_assoc, take_at h5]
  have e4 : (List.take k1 (a ++ b ++ rest) ++ b ++ List.drop (k1 + b.length) (a ++ b ++ rest)).drop (k5 + [x].length) = b ++ List.drop (k1 + b.length) (a ++ b ++ rest) := by
    rw [List.append_assoc, drop_at (by rw [hl, h5]; rfl)]
  rw [e3, e4, ← List.append_assoc, List.append_assoc a, take_at (by simp; omega)]
theorem ins_grow_list {α : Type} (a b : List α) (x z : α) {k0 k1 k2 k3 k4 k5 k6 k7 k8 : Nat} (h0 : k0 = 0) (hb : 0 < b.length) (h1 : k1 = a.length) (h2 : k2 = b.length + 1) (h3 : k3 = a.length) (h4 : 1 ≤ k4) (h5 : k5 = a.length + 1) (h6 : b.length ≤ k6) (h7 : b.length ≤ k7) (h8 : k8 = a.length) :
    overL (overL (List.take k1 (List.drop k0 (a ++ b ++ [])) ++ List.replicate k2 z) k3 (List.take k4 [x])) k5 (List.take k6 (List.take k7 (List.drop k8 (a ++ b ++ [])))) = a ++ ([x] ++ b) := by
  subst h0
  have e1 : List.take k1 (List.drop 0 (a ++ b ++ [])) = a := by rw [List.drop_zero, List.append_assoc, take_at h1]
  have e2 : List.take k6 (List.take k7 (List.drop k8 (a ++ b ++ []))) = b := by
    rw [List.append_nil, drop_at h8, List.take_of_length_le h7, List.take_of_length_le h6]
  have e3 : List.take k4 [x] = [x] := List.take_of_length_le (by simpa using h4)
  rw [e1, e2, e3]
  unfold overL
  subst h2
  have e4 : (a ++ List.replicate (b.length + 1) z).take k3 = a := take_at h3
  have e5 : (a ++ List.replicate (b.length + 1) z).drop (k3 + [x].length) = List.replicate b.length z := by
    rw [List.replicate_succ, show a ++ z :: List.replicate b.length z = (a ++ [z]) ++ List.replicate b.length z by simp, drop_at (by simp; omega)]
  rw [e4, e5, take_at (by simp; omega), List.drop_of_length_le (by simp; omega)]
  simp
theorem del_list {α : Type} (ts : List α) (z : α) {i j k1 k2 k3 k4 k5 k6 : Nat} (hij : i ≤ j) (hj : j ≤ ts.length) (h2 : k2 = i) (h3 : ts.length - j ≤ k3) (h4 : k4 = j) (h5 : k5 = i + (ts.length - j)) (h1 : k1 = i + (ts.length - j)) :
    List.take k1 (overL (overL ts k2 (List.take k3 (List.drop k4 ts))) k5 (List.replicate k6 z)) = delL ts i j := by
  have e1 : List.take k3 (List.drop k4 ts) = ts.drop j := by rw [h4, List.take_of_length_le (by rw [List.length_drop]; omega)]
  rw [e1, h2]
  unfold overL delL
  have hl : (ts.take i ++ ts.drop j).length = i + (ts.length - j) := by rw [List.length_append, List.length_take, List.length_drop]; omega
  rw [take_at (l := ts.take i ++ ts.drop j) (by rw [hl]; exact h5), List.append_assoc, take_at (by rw [hl]; exact h1)]
end
end Go.Sx

/-
  Parts of owned slices that stand in a loop's slots are made slices of their own ahead of the loop. Own work; nothing here is trusted.
-/
set_option linter.unusedVariables false
set_option linter.unusedSimpArgs false
namespace Go.Sx
open Go Go.RowKit
noncomputable section
variable {C : Tab} {P : Program}
def shut1 {α : Type} (v : SV) (hp : Hp C) (n : Nat) (k : SV → Hp C → Nat → Tr α) : Tr α := match v with
  | .vs id sz bs off len cap => match find id hp with
    | some (.sl true _ e ts) => match Nat.beq sz (C e).sz with
      | true => .br (Nat.beq off 0) (.br (shutB len ts.length cap) (k (.h n) ((n, .sl true false e (ts.take len)) :: (id, .gone) :: hp) (n + 1)) .fail) (k (.vs id sz bs off len cap) hp n)
      | false => k (.vs id sz bs off len cap) hp n
    | _ => k (.vs id sz bs off len cap) hp n
  | v => k v hp n
theorem shut1_spec {α : Type} {r : α} (v : SV) (hp : Hp C) (n : Nat) (k : SV → Hp C → Nat → Tr α) (h : (shut1 v hp n k).get = some r) : ∃ v' hp' n', (k v' hp' n').get = some r ∧ Same1 v hp n v' hp' n' ∧ Grow n hp n' hp' := by
  unfold shut1 at h
  split at h
  · rename_i id sz bs off len cap
    split at h
    · rename_i full e ts hid
      split at h
      · rename_i hsz
        have hsz := Nat.eq_of_beq_eq_true hsz
        subst hsz
        rcases Tr.get_br.1 h with ⟨h0, h⟩ | ⟨_, h⟩
        · obtain ⟨hs, h⟩ := Tr.get_ask.1 h
          exact ⟨_, _, _, h, fun B X ρ w u RR hd => ⟨ρ.add n u, Asg.le_add ρ n u (RR.fresh n (Nat.le_refl _)), RR.shut hid hd (Nat.eq_of_beq_eq_true h0) hs, Asg.add_self ρ n u⟩, Nat.le_succ _, (List.suffix_cons _ _).trans (List.suffix_cons _ _)⟩
        · exact ⟨_, _, _, h, Same1.refl _ _ _, Grow.refl _ _⟩
      · exact ⟨_, _, _, h, Same1.refl _ _ _, Grow.refl _ _⟩
    · exact ⟨_, _, _, h, Same1.refl _ _ _, Grow.refl _ _⟩
  · exact ⟨_, _, _, h, Same1.refl _ _ _, Grow.refl _ _⟩
def closeK {α : Type} : List Tmp → Tm → Hp C → Nat → (Tm → Hp C → Nat → Tr α) → Tr α
  | [], tm, hp, n, k => k tm hp n
  | t :: r, tm, hp, n, k => match find t tm with
    | some v => shut1 v hp n fun v hp n => closeK r ((t, v) :: tm) hp n k
    | none => .fail
theorem closeK_spec {α : Type} {x : α} : ∀ (l : List Tmp) (tm : Tm) (hp : Hp C) (n : Nat) (k : Tm → Hp C → Nat → Tr α), (closeK l tm hp n k).get = some x → ∃ tm' hp' n', (k tm' hp' n').get = some x ∧ Grow n hp n' hp' ∧
    ∀ B X ρ w a, Rel B X ρ hp n w → TmOk ρ tm a → ∃ ρ', ρ.le ρ' ∧ Rel B X ρ' hp' n' w ∧ TmOk ρ' tm' a
  | [], tm, hp, n, k, h => ⟨_, _, _, h, Grow.refl _ _, fun _ _ ρ _ _ RR T => ⟨ρ, Asg.le_refl _, RR, T⟩⟩
  | t :: r, tm, hp, n, k, h => by
    unfold closeK at h
    split at h
    · rename_i v hv
      obtain ⟨v', hp1, n1, h1, s1, g1⟩ := shut1_spec v hp n _ h
      obtain ⟨tm', hp2, n2, h2, g2, s2⟩ := closeK_spec r _ _ _ k h1
      refine ⟨tm', hp2, n2, h2, g1.trans g2, fun B X ρ w a RR T => ?_⟩
      obtain ⟨u, d1, d2⟩ := T t v hv
      obtain ⟨ρ1, l1, R1, e1⟩ := s1 B X ρ w u RR d1
      obtain ⟨ρ2, l2, R2, T2⟩ := s2 B X ρ1 w a R1 fun t' sv hs => by
        rw [find_cons] at hs
        split at hs
        · rename_i e; subst e; cases hs; exact ⟨u, e1, d2⟩
        · exact T.mono l1 t' sv hs
      exact ⟨ρ2, Asg.le_trans l1 l2, R2, T2⟩
    · simp [Tr.get] at h
/-- A loop told by a function, parts in its slots made slices ahead of it. -/
def loopH (cs bs ks : List Tmp) (F : LoopFn C) : Tm → Hp C → Nat → LT C := fun tm hp n => closeK cs tm hp n fun tm hp n => loopS bs ks F tm hp n
theorem loopH_ok {N : Nat} {c : Code} {cs bs ks : List Tmp} {F : LoopFn C} (h : ∀ tm hp n x, (loopS bs ks F tm hp n).get = some x → InLoop P N c tm hp n fun e tm hp n => (e, tm, hp, n) = x) :
    ∀ tm hp n x, (loopH cs bs ks F tm hp n).get = some x → InLoop P N c tm hp n fun e tm hp n => (e, tm, hp, n) = x := fun tm hp n x hx => by
  obtain ⟨tm', hp', n', h1, g, s⟩ := closeK_spec cs tm hp n _ hx
  intro B X ρ w a hN hD RR T b kk ks
  obtain ⟨ρ', l1, R1, T1⟩ := s B X ρ w a RR T
  obtain ⟨e, a', w', p, arr⟩ := h tm' hp' n' x h1 B X ρ' w a hN hD R1 T1 b kk ks
  exact ⟨e, a', w', p.weaken l1 g, arr⟩
end
end Go.Sx

/-
  The symbolic evaluator: loops that leave some of what there is untouched and unseen. Own work; nothing here is trusted.
-/
namespace Go.Sx
noncomputable section
open Go.RowKit

variable {C : Tab} {P : Program} {R : Type}
/-- Fewer entries. -/
theorem Rel.less {B : World} {X : Own} {ρ : Asg} {hp hp' : Hp C} {n : Nat} {w : World} (h : Rel B X ρ hp n w) (hl : ∀ j o, find j hp' = some o → find j hp = some o) : Rel B X ρ hp' n w :=
  { h with
    obj := fun i o hi => h.obj i o (hl i o hi)
    sep := fun i j oi oj vi vj g hij hi hj => h.sep i j oi oj vi vj g hij (hl i oi hi) (hl j oj hj)
    blkOk := fun i o v g hi => h.blkOk i o v g (hl i o hi)
    prov := fun i o v g hi => h.prov i o v g (hl i o hi)
    nn := fun i o v hi => h.nn i o v (hl i o hi)
    inn := fun i o hi => h.inn i o (hl i o hi) }
theorem numH_seg {a b : Nat} {l : List (SO C)} (hab : a ≤ b) {j : Nat} {o : SO C} (h : find j (numH 0 (l.take a) ++ numH b (l.drop b)) = some o) : find j (numH 0 l) = some o ∧ (j < a ∨ b ≤ j) := by
  rw [find_append] at h
  split at h
  · rename_i o' ho
    cases h
    obtain ⟨_, h2⟩ := find_num ho
    rw [Nat.sub_zero, List.getElem?_take] at h2
    split at h2
    · rename_i hlt
      have := num_find (m := 0) h2
      rw [Nat.zero_add] at this
      exact ⟨this, .inl hlt⟩
    · cases h2
  · obtain ⟨h1, h2⟩ := find_num h
    rw [List.getElem?_drop, show b + (j - b) = j by omega] at h2
    have := num_find (m := 0) h2
    rw [Nat.zero_add] at this
    exact ⟨this, .inr h1⟩
theorem numH_seg_lo {a b : Nat} {l : List (SO C)} {j : Nat} (hj : j < a) (hl : j < l.length) : ∃ o, find j (numH 0 (l.take a) ++ numH b (l.drop b)) = some o := by
  have h : (l.take a)[j]? = some (l[j]) := by rw [List.getElem?_take, if_pos hj, List.getElem?_eq_getElem hl]
  have := num_find (m := 0) h
  rw [Nat.zero_add] at this
  exact ⟨_, by rw [find_append, this]⟩
/-- What is not looked at. -/
def goneN (hp : Hp C) : List Nat → Option (List (SO C))
  | [] => some []
  | i :: r => match find i hp with
    | some _ => match goneN hp r with
      | some l => some (.gone :: l)
      | none => none
    | none => none
theorem goneN_at {hp : Hp C} : ∀ {is : List Nat} {os : List (SO C)}, goneN hp is = some os → os.length = is.length ∧ ∀ (j : Nat) (o : SO C), os[j]? = some o → ∃ i O, is[j]? = some i ∧ find i hp = some O ∧ o = .gone
  | [], os, h => by simp only [goneN, Option.some.injEq] at h; subst h; exact ⟨rfl, fun j o h => by simp at h⟩
  | i :: r, os, h => by
    unfold goneN at h
    split at h
    · rename_i O hO
      split at h
      · rename_i l hl
        cases h
        obtain ⟨h1, h2⟩ := goneN_at hl
        refine ⟨by simp [h1], fun j o hj => ?_⟩
        match j with
        | 0 => simp at hj; subst hj; exact ⟨i, O, rfl, hO, rfl⟩
        | j + 1 => simpa using h2 j o (by simpa using hj)
      · cases h
    · cases h
def loopD (bs ds ks : List Nat) (F : LoopFn C) : Tm → Hp C → Nat → LT C := fun tm hp n => match getAll bs tm, getAll ds tm, getAll ks tm with
  | some bv, some dv, some kv => loopS.forceIds (reachN hp 1000 (relL bv 0).2 []) fun base => loopS.forceIds (relL dv 0).2 fun dead => loopS.forceIds (relL kv 0).2 fun kids =>
    match noDup (base ++ (dead ++ kids)), numL (base ++ (dead ++ kids)) (bv ++ (dv ++ kv)), objsN (base ++ (dead ++ kids)) hp base, goneN hp dead, objsN (base ++ (dead ++ kids)) hp kids with
    | true, some vs, some ob, some od, some ok => (F ⟨vs, base.length + dead.length, ob ++ (od ++ ok)⟩).bind fun r =>
      .leaf (r.1, zipT (bs ++ (ds ++ ks)) (renL (mapN (base ++ dead) n) r.2.1), upHp (mapN (base ++ dead) n) (numH 0 (r.2.2.take base.length) ++ numH (base.length + dead.length) (r.2.2.drop (base.length + dead.length))) ++ (gonesH kids ++ hp), n + (r.2.2.length - (base.length + dead.length)))
    | _, _, _, _, _ => .fail
  | _, _, _ => .fail
theorem loopD_ok {N : Nat} {c : Code} {bs ds ks : List Nat} {F : LoopFn C}
    (hF : ∀ li r, (F li).get = some r → Keeps li.nb li.os r.2.2 ∧ LoopRun P N c li.nb (li.st (bs ++ (ds ++ ks))) fun x T => x = r.1 ∧ T = ⟨zipT (bs ++ (ds ++ ks)) r.2.1, numH 0 r.2.2, r.2.2.length⟩) :
    ∀ tm hp n x, (loopD bs ds ks F tm hp n).get = some x → InLoop P N c tm hp n fun e tm hp n => (e, tm, hp, n) = x := fun tm hp n x h => by
  unfold loopD at h
  split at h
  · rename_i bv dv kv hbv hdv hkv
    rw [forceIds_eq, forceIds_eq, forceIds_eq] at h
    generalize reachN hp 1000 (relL bv 0).2 [] = base at *
    generalize (relL dv 0).2 = dead at *
    generalize (relL kv 0).2 = kids at *
    split at h
    · rename_i vs ob od ok hnd hvs hob hod hok
      obtain ⟨r, h1, h2⟩ := Tr.get_bind h
      simp only [Tr.get, Option.some.injEq] at h2
      subst h2
      obtain ⟨hk, hrun⟩ := hF _ _ h1
      intro B X ρ w a hN hD RR T b kk cs
      obtain ⟨l1, at1⟩ := objsN_at hob
      obtain ⟨l2, at2⟩ := goneN_at hod
      obtain ⟨l3, at3⟩ := objsN_at hok
      generalize hos : ob ++ (od ++ ok) = os at *
      generalize hids : base ++ (dead ++ kids) = ids at *
      have hlen : os.length = ids.length := by rw [← hos, ← hids]; simp [l1, l2, l3]
      have hidl : ids.length = base.length + dead.length + kids.length := by rw [← hids]; simp; omega
      have hat : ∀ (j : Nat) (o : SO C), os[j]? = some o → ∃ i O, ids[j]? = some i ∧ find i hp = some O ∧ ((numO ids O = some o ∧ (j < base.length ∨ base.length + dead.length ≤ j)) ∨ o = .gone) := fun j o hj => by
        rw [← hos] at hj
        by_cases c1 : j < base.length
        · rw [List.getElem?_append_left (by omega)] at hj
          obtain ⟨i, O, g1, g2, g3⟩ := at1 j o hj
          exact ⟨i, O, by rw [← hids, List.getElem?_append_left c1]; exact g1, g2, .inl ⟨g3, .inl c1⟩⟩
        · rw [List.getElem?_append_right (by omega)] at hj
          by_cases c2 : j < base.length + dead.length
          · rw [List.getElem?_append_left (by omega)] at hj
            obtain ⟨i, O, g1, g2, g3⟩ := at2 _ o hj
            exact ⟨i, O, by rw [← hids, List.getElem?_append_right (by omega), List.getElem?_append_left (by omega), ← l1]; exact g1, g2, .inr g3⟩
          · rw [List.getElem?_append_right (by omega)] at hj
            obtain ⟨i, O, g1, g2, g3⟩ := at3 _ o hj
            exact ⟨i, O, by rw [← hids, List.getElem?_append_right (by omega), List.getElem?_append_right (by omega), ← l1, ← l2]; exact g1, g2, .inl ⟨g3, .inr (by omega)⟩⟩
      have hlt : ∀ j i, ids[j]? = some i → i < n ∧ ∃ O, find i hp = some O := fun j i hj => by
        have : j < os.length := by rw [hlen]; exact (List.getElem?_eq_some_iff.1 hj).1
        obtain ⟨i', O, g1, g2, _⟩ := hat j _ (List.getElem?_eq_getElem this)
        rw [hj] at g1; cases g1
        obtain ⟨v, hv, _⟩ := RR.obj i _ g2
        refine ⟨?_, O, g2⟩
        by_cases hlt : i < n
        · exact hlt
        · rw [RR.fresh i (by omega)] at hv; cases hv
      have hfd : ∀ j i, ids[j]? = some i → mapN ids n j = i := fun j i hj => by unfold mapN; rw [hj]
      have hfhi : ∀ j, os.length ≤ j → n ≤ mapN ids n j := fun j hj => by
        unfold mapN
        rw [List.getElem?_eq_none (by omega)]
        exact Nat.le_add_right _ _
      have hr : Renum hp (mapN ids n) (numH 0 os) := ⟨fun j o hj => by
        obtain ⟨_, g2⟩ := find_num hj
        rw [Nat.sub_zero] at g2
        obtain ⟨i, O, g3, g4, g5⟩ := hat j o g2
        refine ⟨O, by rw [hfd j i g3]; exact g4, ?_⟩
        rcases g5 with ⟨g5, _⟩ | g5
        · rw [numO_ren hfd g5]; exact subO.refl _
        · subst g5; trivial, fun i j oi oj hi hj hij _ _ e => by
        obtain ⟨_, g2⟩ := find_num hi
        obtain ⟨_, g4⟩ := find_num hj
        rw [Nat.sub_zero] at g2 g4
        obtain ⟨x, _, g5, _⟩ := hat i oi g2
        obtain ⟨y, _, g6, _⟩ := hat j oj g4
        rw [hfd i x g5, hfd j y g6] at e
        subst e
        obtain ⟨l1, e1⟩ := List.getElem?_eq_some_iff.1 g5
        obtain ⟨l2, e2⟩ := List.getElem?_eq_some_iff.1 g6
        have hp' := List.pairwise_iff_getElem.1 (noDup_spec hnd)
        rcases Nat.lt_trichotomy i j with hl | hl | hl
        · exact hp' _ _ l1 l2 hl (e1.trans e2.symm)
        · exact hij hl
        · exact hp' _ _ l2 l1 hl (e2.trans e1.symm)⟩
      have RD := RR.down (m := os.length) (nb := base.length + dead.length) (by omega) hr hfhi
      have T' : TmOk (fun i => ρ (mapN ids n i)) (zipT (bs ++ (ds ++ ks)) vs) a := fun t sv ht => by
        obtain ⟨v, g1, g2⟩ := T t _ (getAll_zip (getAll_append hbv (getAll_append hdv hkv)) (numL_ren hfd _ hvs) t sv ht)
        exact ⟨v, by rw [den_ren]; exact g1, g2⟩
      obtain ⟨e, a', w', ⟨x, T1, ρ1, ⟨rfl, rfl⟩, rfl, g1, g2, R1, T2⟩, harr⟩ := hrun w _ _ w a rfl hN hD RD T' b kk cs
      have R1 := R1.less (hp' := numH 0 (r.2.2.take base.length) ++ numH (base.length + dead.length) (r.2.2.drop (base.length + dead.length))) fun j o hj => (numH_seg (Nat.le_add_right _ _) hj).1
      have hbd : (base ++ dead).length = base.length + dead.length := List.length_append
      have hfu : ∀ j, base.length + dead.length ≤ j → mapN (base ++ dead) n j = n + (j - (base.length + dead.length)) := fun j hj => by
        unfold mapN
        rw [List.getElem?_eq_none (by omega), hbd]
      have hfb : ∀ j, j < base.length + dead.length → mapN (base ++ dead) n j = mapN ids n j ∧ mapN ids n j < n := fun j hj => by
        have e1 : (base ++ dead)[j]? = some ((base ++ dead)[j]'(by omega)) := List.getElem?_eq_getElem (by omega)
        have e2 : ids[j]? = some ((base ++ dead)[j]'(by omega)) := by
          refine Eq.trans ?_ e1
          rw [← hids, ← List.append_assoc, List.getElem?_append_left (by omega)]
        rw [hfd j _ e2]
        exact ⟨by unfold mapN; rw [e1], (hlt j _ e2).1⟩
      have kid : ∀ j i, ids[j]? = some i → base.length + dead.length ≤ j → i ∈ kids := fun j i hj hge => by
        rw [← hids, List.getElem?_append_right (by omega), List.getElem?_append_right (by omega)] at hj
        exact List.mem_iff_getElem?.2 ⟨_, hj⟩
      obtain ⟨u1, u2, u3⟩ := RR.up (fu := mapN (base ++ dead) n) (hpG := gonesH kids ++ hp) hr hfu hfb (fun x O hx => by
          rw [find_append] at hx
          split at hx
          · rename_i o ho
            cases hx
            obtain ⟨q1, q2⟩ := find_gones ho
            obtain ⟨i, hi⟩ := List.mem_iff_getElem?.1 q2
            exact .inr ⟨q1, (hlt (base.length + dead.length + i) x (by rw [← hids, List.getElem?_append_right (by omega), List.getElem?_append_right (by omega)]; rw [show base.length + dead.length + i - base.length - dead.length = i by omega]; exact hi)).2⟩
          · exact .inl hx) R1
        (fun j o hj => by
          obtain ⟨hj, _⟩ := numH_seg (Nat.le_add_right _ _) hj
          obtain ⟨_, q2⟩ := find_num hj
          rw [Nat.sub_zero] at q2
          refine ⟨fun hlt => ?_, fun hge => .inr (.inr fun j' o' O hj' hl' ho' hO => ?_)⟩
          rotate_left
          · obtain ⟨_, s2⟩ := find_num hj'
            rw [Nat.sub_zero] at s2
            obtain ⟨i, O', s3, s4, s5⟩ := hat j' o' s2
            rw [hfd j' i s3, s4] at hO
            cases hO
            rcases s5 with ⟨s5, _⟩ | s5
            · rw [← numO_owns s5]; exact ho'
            · subst s5; cases hl'
          obtain ⟨o0, q3, q4⟩ := hk.lo j o q2 hlt
          exact ⟨o0, by have := num_find (m := 0) q3; rwa [Nat.zero_add] at this, q4⟩)
        (fun j o hj ho => by
          obtain ⟨_, q2⟩ := find_num hj
          rw [Nat.sub_zero] at q2
          obtain ⟨i, O, q3, q4, q5⟩ := hat j o q2
          rcases q5 with ⟨q5, hjb | hjb⟩ | q5
          · refine .inl ⟨by omega, ?_⟩
            exact numH_seg_lo hjb (Nat.lt_of_lt_of_le hjb (Nat.le_trans (Nat.le_add_right _ _) hk.le))
          · refine .inr ?_
            rw [hfd j i q3, find_append, gones_find (kid j i q3 hjb)]
          · subst q5; cases ho)
      have e3 : (fun i => backA ρ ρ1 n (base.length + dead.length) (mapN (base ++ dead) n i)) = ρ1 := funext u3
      refine ⟨_, a', w', ⟨r.1, _, _, _, _, rfl, u2, ⟨by omega, ?_⟩, g1, g2, u1, ?_, rfl⟩, harr⟩
      · exact (List.suffix_append _ _).trans (List.suffix_append _ _)
      · intro t sv ht
        obtain ⟨u, q1, rfl⟩ := find_zip_ren ht
        obtain ⟨v, q2, q3⟩ := T2 t u q1
        exact ⟨v, by rw [← den_ren, e3]; exact q2, q3⟩
    · cases h
  · cases h
theorem loopD_of {N : Nat} {c : Code} {bs ds ks : List Nat} {F : LoopFn C}
    (hF : ∀ li r, (F li).get = some r → Keeps li.nb li.os r.2.2 ∧ LoopRun P N c li.nb (li.st (bs ++ (ds ++ ks))) fun x T => ∃ vs os, (x = r.1 ∧ (vs, os) = r.2) ∧ T = ⟨zipT (bs ++ (ds ++ ks)) vs, numH 0 os, os.length⟩) :
    ∀ tm hp n x, (loopD bs ds ks F tm hp n).get = some x → InLoop P N c tm hp n fun e tm hp n => (e, tm, hp, n) = x := loopD_ok fun li r h => by
  obtain ⟨h1, h2⟩ := hF li r h
  refine ⟨h1, fun B X ρ w a hX hN hD RR T b kk cs => ?_⟩
  obtain ⟨e, a', w', ⟨x, T1, ρ', ⟨vs, os, ⟨rfl, e2⟩, rfl⟩, g⟩, harr⟩ := h2 B X ρ w a hX hN hD RR T b kk cs
  have e3 : vs = r.2.1 := by rw [← e2]
  have e4 : os = r.2.2 := by rw [← e2]
  subst e3; subst e4
  exact ⟨e, a', w', ⟨_, _, ρ', ⟨rfl, rfl⟩, g⟩, harr⟩
end
end Go.Sx

/-
  The symbolic evaluator: a piece of a function's code, run over a part of what there is. Own work; nothing here is trusted.
-/
namespace Go.Sx
noncomputable section
open Go.RowKit

variable {C : Tab} {P : Program} {R : Type}
/-- A piece without loops of its own, told by what it makes of the values in its slots. -/
def pieceC (C : Tab) (P : Program) (sp : SpecT C) (unr : Nat → Nat → Nat) (d g N : Nat) (c : Code) (slots : List Nat) (i : LI C) : RT C :=
  (roundE C P sp noLs unr d g N 0 c (i.st slots)).bind (canonR slots i.nb)
theorem piece_run (hp0 : Plain P) (hm : P.follows .mixedOrders = true) {sp : SpecT C} (hs : SpecTOk P sp) {unr : Nat → Nat → Nat} {d g N : Nat} {c : Code} (hl : lps 0 c = []) {slots : List Nat} {ivs : List SV} {os : List (SO C)} {x : Ex} {vs : List SV}
    (h : (pieceC C P sp unr d g N c slots ⟨ivs, os.length, os⟩).get = some (x, vs, os)) :
    ∀ B X ρ w a, X.nb = os.length → a.tmps.size = N → a.defers = [] → Rel B X ρ (numH 0 os) os.length w → TmOk ρ (zipT slots ivs) a →
      c.wp P (fun e a' w' => e = exitOf x ∧ a'.tmps.size = N ∧ a'.defers = [] ∧ Rel B X ρ (numH 0 os) os.length w' ∧ TmOk ρ (zipT slots vs) a') a w := fun B X ρ w a hX hN hD RR T => by
  unfold pieceC at h
  obtain ⟨⟨x', tm, hp, n⟩, h4, h5⟩ := Tr.get_bind h
  unfold canonR at h5
  split at h5
  · rename_i ws hvs
    obtain ⟨vs2, hp2, n2, h5, s1⟩ := shutL_spec _ _ _ _ h5
    obtain ⟨hp3, n3, h5, s2⟩ := shutBs_spec _ _ _ _ h5
    obtain ⟨⟨ws2, os2⟩, h6, h7⟩ := Tr.get_bind h5
    simp only [Tr.get, Option.some.injEq, Prod.mk.injEq] at h7
    obtain ⟨rfl, rfl, rfl⟩ := h7
    obtain ⟨f, hf⟩ := canonV_ok (n := n3) h6
    refine wp_mono (codeS_sound (I := fun y : LT C => y.get = some (x', tm, hp, n)) hp0 (ansT_ok _) (evalR_ok (ansT_ok _) hp0 hm hs noLs_ok d) (drawS_ok hp0 hm (ansT_ok _) (evalT_ok hp0 hm hs noLs_ok d)) c 0 (fun b l hb => by rw [hl] at hb; cases hb) _ _ _ _ B X ρ w a h4 hN hD RR T) fun e a' w' hq => ?_
    obtain ⟨x1, ρ1, tm1, hp1, n1, rfl, g1, g2, g3, g4, g5, g6, g7⟩ := hq
    simp only [Tr.get, Option.some.injEq, Prod.mk.injEq] at g7
    obtain ⟨rfl, rfl, rfl, rfl⟩ := g7
    obtain ⟨us, hus, ht⟩ := getAll_den g6 hvs
    obtain ⟨ρ2, p2, R2, d2⟩ := s1 B X ρ1 w' us g5 hus
    obtain ⟨ρ3, p3, R3⟩ := s2 B X ρ2 w' R2
    have d3 := denL_mono p3 _ _ d2
    have R4 := R3.ren hf.ren (by rw [hX]; exact hf.le) (fun i hi => hf.base i (by rw [← hX]; exact hi)) hf.fresh
    have e4 : (fun i => ρ3 (f i)) = ρ := funext fun i => by
      by_cases hi : i < X.nb
      · have a1 := R4.agree i hi
        have a2 := RR.agree i hi
        exact a1.trans a2.symm
      · have b1 := R4.fresh i (by omega)
        have b2 := RR.fresh i (by omega)
        exact b1.trans b2.symm
    rw [e4] at R4
    refine ⟨rfl, g3, g4, R4, fun t sv hsv => ?_⟩
    have e5 : denL ρ ws2 = some us := by
      have := d3
      rw [← hf.vals, ← denL_ren, e4] at this
      exact this
    obtain ⟨v, q1, q2⟩ := zip_den (ρ := ρ) (us := us) e5 hsv
    exact ⟨v, q1, ht t v q2⟩
  · cases h5
/-- .. within more: what is not of the part stands. -/
theorem piece_in {N : Nat} {c : Code} {bs : List Nat} {bv vs vs' : List SV} {base : List Nat} {os : List (SO C)} {tm : Tm} {hp : Hp C} {n : Nat} {x : Ex}
    (hbv : getAll bs tm = some bv) (hnd : noDup base = true) (hvs : numL base bv = some vs) (hos : objsN base hp base = some os)
    (hrun : ∀ B X ρ w a, X.nb = os.length → a.tmps.size = N → a.defers = [] → Rel B X ρ (numH 0 os) os.length w → TmOk ρ (zipT bs vs) a →
      c.wp P (fun e a' w' => e = exitOf x ∧ a'.tmps.size = N ∧ a'.defers = [] ∧ Rel B X ρ (numH 0 os) os.length w' ∧ TmOk ρ (zipT bs vs') a') a w) :
    ∀ B X ρ w a, a.tmps.size = N → a.defers = [] → Rel B X ρ hp n w → TmOk ρ tm a →
      c.wp P (fun e a' w' => e = exitOf x ∧ a'.tmps.size = N ∧ a'.defers = [] ∧ Rel B X ρ hp n w' ∧ TmOk ρ (zipT bs (renL (mapN base n) vs')) a' ∧
        (∀ b, b < w.heap.size → (∀ i o v, i ∈ base → find i hp = some o → o.owns = true → ρ i = some v → blk v ≠ some b) → w'.heap[b]? = w.heap[b]?) ∧ w.heap.size ≤ w'.heap.size) a w := fun B X ρ w a hN hD RR T => by
  obtain ⟨hlen, hat⟩ := objsN_at hos
  have hlt : ∀ j i, base[j]? = some i → i < n ∧ ∃ O, find i hp = some O := fun j i hj => by
    have : j < os.length := by rw [hlen]; exact (List.getElem?_eq_some_iff.1 hj).1
    obtain ⟨i', O, g1, g2, _⟩ := hat j _ (List.getElem?_eq_getElem this)
    rw [hj] at g1; cases g1
    obtain ⟨v, hv, _⟩ := RR.obj i _ g2
    refine ⟨?_, O, g2⟩
    by_cases hlt : i < n
    · exact hlt
    · rw [RR.fresh i (by omega)] at hv; cases hv
  have hfd : ∀ j i, base[j]? = some i → mapN base n j = i := fun j i hj => by unfold mapN; rw [hj]
  have hfhi : ∀ j, os.length ≤ j → mapN base n j = n + (j - os.length) := fun j hj => by
    unfold mapN
    rw [List.getElem?_eq_none (by omega), hlen]
  have hr : Renum hp (mapN base n) (numH 0 os) := ⟨fun j o hj => by
    obtain ⟨_, g2⟩ := find_num hj
    rw [Nat.sub_zero] at g2
    obtain ⟨i, O, g3, g4, g5⟩ := hat j o g2
    exact ⟨O, by rw [hfd j i g3]; exact g4, by rw [numO_ren hfd g5]; exact subO.refl _⟩, fun i j oi oj hi hj hij _ _ e => by
    obtain ⟨_, g2⟩ := find_num hi
    obtain ⟨_, g4⟩ := find_num hj
    rw [Nat.sub_zero] at g2 g4
    obtain ⟨x, _, g5, _⟩ := hat i oi g2
    obtain ⟨y, _, g6, _⟩ := hat j oj g4
    rw [hfd i x g5, hfd j y g6] at e
    subst e
    obtain ⟨l1, e1⟩ := List.getElem?_eq_some_iff.1 g5
    obtain ⟨l2, e2⟩ := List.getElem?_eq_some_iff.1 g6
    have hp' := List.pairwise_iff_getElem.1 (noDup_spec hnd)
    rcases Nat.lt_trichotomy i j with hl | hl | hl
    · exact hp' _ _ l1 l2 hl (e1.trans e2.symm)
    · exact hij hl
    · exact hp' _ _ l2 l1 hl (e2.trans e1.symm)⟩
  have RD := RR.down (m := os.length) (nb := os.length) (Nat.le_refl _) hr (fun i hi => by rw [hfhi i hi]; exact Nat.le_add_right _ _)
  have T' : TmOk (fun i => ρ (mapN base n i)) (zipT bs vs) a := fun t sv ht => by
    obtain ⟨v, g1, g2⟩ := T t _ (getAll_zip hbv (numL_ren hfd _ hvs) t sv ht)
    exact ⟨v, by rw [den_ren]; exact g1, g2⟩
  refine wp_mono (hrun w _ _ w a rfl hN hD RD T') fun e a' w' hq => ?_
  obtain ⟨rfl, g1, g2, R1, T2⟩ := hq
  have hfb : ∀ j, j < os.length → mapN base n j = mapN base n j ∧ mapN base n j < n := fun j hj => by
    have e1 : base[j]? = some (base[j]'(by omega)) := List.getElem?_eq_getElem (by omega)
    rw [hfd j _ e1]
    exact ⟨rfl, (hlt j _ e1).1⟩
  obtain ⟨u1, u2, u3⟩ := RR.up (fu := mapN base n) (hpG := hp) hr hfhi hfb (fun x O hx => .inl hx) R1
    (fun j o hj => by
      obtain ⟨_, q2⟩ := find_num hj
      rw [Nat.sub_zero] at q2
      have hl := (List.getElem?_eq_some_iff.1 q2).1
      exact ⟨fun _ => ⟨o, hj, fun h => h, fun h => h⟩, fun hge => by omega⟩)
    (fun j o hj ho => by
      obtain ⟨_, q2⟩ := find_num hj
      rw [Nat.sub_zero] at q2
      exact .inl ⟨(List.getElem?_eq_some_iff.1 q2).1, o, hj⟩)
  rw [Nat.sub_self, Nat.add_zero] at u1
  have eρ : backA ρ (fun i => ρ (mapN base n i)) n os.length = ρ := funext fun i => by
    unfold backA
    split
    · rfl
    · show ρ (mapN base n (i - n + os.length)) = ρ i
      rw [hfhi _ (by omega), RR.fresh _ (by omega), RR.fresh _ (by omega)]
  rw [eρ] at u1
  refine ⟨rfl, g1, g2, u1.less fun j o hj => ?_, fun t sv ht => ?_, fun b hb hno => ?_, R1.size⟩
  · rw [find_append]
    split
    · rename_i o' ho'
      obtain ⟨j', o1, q1, q2, q3⟩ := find_up ho'
      obtain ⟨_, q4⟩ := find_num q1
      rw [Nat.sub_zero] at q4
      obtain ⟨i, O, q5, q6, q7⟩ := hat j' o1 q4
      rw [hfd j' i q5] at q2
      subst q2
      rw [hj] at q6
      cases q6
      rw [q3, numO_ren hfd q7]
    · exact hj
  · obtain ⟨u, q1, rfl⟩ := find_zip_ren ht
    obtain ⟨v, q2, q3⟩ := T2 t u q1
    exact ⟨v, by rw [← den_ren]; exact q2, q3⟩
  · refine R1.old b hb fun hw => ?_
    obtain ⟨j, o, v, q1, q2, q3, q4⟩ := hw
    obtain ⟨_, q5⟩ := find_num q1
    rw [Nat.sub_zero] at q5
    obtain ⟨i, O, q6, q7, q8⟩ := hat j o q5
    have q3 : ρ (mapN base n j) = some v := q3
    rw [hfd j i q6] at q3
    exact hno i O v (List.mem_iff_getElem?.2 ⟨j, q6⟩) q7 (by rw [← numO_owns q8]; exact q2) q3 q4
end
end Go.Sx

/-
  Ranges over maps: the iterator in a block of its own, wherever it stands. Own work; nothing here is trusted.
-/
namespace Go.Sx
noncomputable section
open Go.RowKit

variable {C : Tab} {P : Program} {R : Type}
/-- A step of an iterator: nothing is left, or some entry that is left. -/
theorem next_map (w : World) (ty : TypeId) (g bm since c0 : Nat) (seen : Array Nat) (es : Array MapEntry) (clock : Nat) (hg : w.heap[g]? = some (.mapIter (some bm) since seen c0)) (hb : w.heap[bm]? = some (.map es clock)) (hold : ∀ x ∈ es.toList, x.born < since) (hsc : since ≤ c0) :
    ((leftOf es seen).size = 0 ∧ (Instr.next (.pointer (some ⟨g, 0, none⟩)) false ty).run P w = .ok (.tuple #[.bool false]) w) ∨
    ∃ e ∈ (leftOf es seen).toList, ∃ w1 : World, (w1 = w ∨ w1 = w.drew) ∧ (Instr.next (.pointer (some ⟨g, 0, none⟩)) false ty).run P w = .ok (.tuple #[.bool true, e.key, e.val]) { w1 with heap := w1.heap.setIfInBounds g (.mapIter (some bm) since (seen.push e.born) clock) } := by
  simp only [Instr.next, getObj, Sem.run_bind, Sem.run, hg, hb, Result.andThen, next_test_false seen es since c0 hold hsc, Bool.false_eq_true, if_false]
  unfold leftOf
  have hmem : ∀ x ∈ (Array.filter (fun e => !seen.contains e.born) es).toList, x.born < since := fun x hx => hold x (by simp at hx ⊢; exact hx.1)
  generalize Array.filter (fun e => !seen.contains e.born) es = L at hmem ⊢
  have e1 : L.filter (fun x => decide (x.born < since)) = L := Array.filter_eq_self.2 (fun x hx => by simpa using hmem x (by simpa using hx))
  have e2 : L.filter (fun x => decide (x.born ≥ since)) = #[] := by
    rw [Array.filter_eq_empty_iff]
    intro x hx
    have := hmem x (by simpa using hx)
    simp
    omega
  simp only [e1, e2, Array.append_empty]
  by_cases h0 : L.size = 0
  · left
    have : L = #[] := Array.eq_empty_of_size_eq_zero h0
    subst this
    refine ⟨rfl, ?_⟩
    simp [choose, Sem.run, Question.forced]
  · right
    have hne : L.isEmpty = false := by simp [Array.isEmpty, h0]
    simp only [hne, Bool.false_eq_true, if_false, Array.empty_append, Array.size_map]
    have hch : ∃ (j : Nat) (w1 : World), j < L.size ∧ (w1 = w ∨ w1 = w.drew) ∧ (choose (Question.mapNext L.size)).run P w = .ok j w1 := by
      by_cases hf : L.size ≤ 1
      · exact ⟨0, w, by omega, .inl rfl, by simp [choose, Sem.run, Question.forced, hf]⟩
      · exact ⟨_, w.drew, Nat.mod_lt _ (by omega), .inr rfl, by
          simp only [choose, Sem.run, Question.forced, decide_eq_true_eq, hf, if_false, Question.cut]
          rfl⟩
    obtain ⟨j, w1, hj, hal, hrun⟩ := hch
    refine ⟨L[j], by simp, w1, hal, ?_⟩
    have hg1 : w1.heap[g]? = some (.mapIter (some bm) since seen c0) := by
      rcases hal with rfl | rfl
      · exact hg
      · exact hg
    have hset : ∀ (o' : Obj), (setObj g o').run P w1 = .ok () { w1 with heap := w1.heap.setIfInBounds g o' } := fun o' => by
      simp only [setObj, Sem.run, hg1]
    simp only [hrun, Array.getElem?_map, Array.getElem?_eq_getElem hj, Option.map_some, Sem.run_bind, hset, Result.andThen]
    rfl
theorem entry_map (w : World) (g bm since : Nat) (seen : Array Nat) (es : Array MapEntry) (clock : Nat) (e : MapEntry) (hg : w.heap[g]? = some (.mapIter (some bm) since (seen.push e.born) clock)) (hb : w.heap[bm]? = some (.map es clock)) (he : e ∈ es.toList) (hn : (es.toList.map (·.born)).Nodup) :
    (Instr.entry (.pointer (some ⟨g, 0, none⟩))).run P w = .ok (.tuple #[e.key, e.val]) w := by
  have hf : es.find? (·.born == e.born) = some e := by rw [← Array.find?_toList]; exact find_born e es.toList hn he
  simp only [Instr.entry, getObj, Sem.run_bind, Sem.run, hg, hb, Result.andThen, Array.back?_push, bne_self_eq_false, Bool.false_eq_true, if_false, hf]
  rfl
end
end Go.Sx

/-
  The symbolic evaluator: pieces of a function that are told by hand. Own work; nothing here is trusted.
-/
namespace Go.Sx
noncomputable section
open Go.RowKit

variable {C : Tab} {P : Program} {R : Type}
def rid : Code → Option Nat
  | .region id _ _ => some id
  | _ => none
/-- What pieces of a function do that begin with a region, by its number. -/
abbrev HookT (C : Tab) := Nat → Option (Tm → Hp C → Nat → LT C)
def sqs : Code → List (Nat × Code)
  | .seq x y => (match rid x with | some id => [(id, Code.seq x y)] | none => []) ++ (sqs x ++ sqs y)
  | .cond _ x y => sqs x ++ sqs y
  | .block _ x => sqs x
  | .loop c => sqs c
  | _ => []
def cSeqH (A : Ans R) (hk : HookT C) (c1 : Code) (x y : CK C R) : CK C R := match rid c1 with
  | some id => match hk id with
    | some f => fun _ k tm hp n => (f tm hp n).run A fun r => k r.1 r.2.1 r.2.2.1 r.2.2.2
    | none => cSeq x y
  | none => cSeq x y
def codeH (A : Ans R) (hk : HookT C) (P : Program) (call : CallF C R) (dr : DrawF C R) (il : Nat → LoopF C R) (N : Nat) (unr : Nat → Nat) (c : Code) : CK C R :=
  Code.rec (motive := fun _ => CK C R) (fun _ k => k .normal) (cRegion A P call dr N) (fun c1 _ x y => cSeqH A hk c1 x y) (fun c _ _ x y => cCond A c x y) (fun id _ x => cBlock id x) (fun c x => cLoop il N unr c x)
    (fun _ _ _ _ _ _ => cNo A) cExit (fun _ _ => cNo A) (fun _ => cNo A) (fun _ => cNo A) (fun _ k => k .ret) (fun _ => cNo A) c
def PieceOk (P : Program) (N : Nat) (c : Code) (f : Tm → Hp C → Nat → LT C) : Prop :=
  ∀ tm hp n r, (f tm hp n).get = some r → ∀ B X ρ w a, a.tmps.size = N → a.defers = [] → Rel B X ρ hp n w → TmOk ρ tm a → c.wp P (PostC B X ρ hp n N fun e tm hp n => (e, tm, hp, n) = r) a w
def HookOk (P : Program) (g : Nat) (hk : HookT C) : Prop := ∀ fn c, P.funcs[g]? = some fn → fn.body = some c → ∀ id s, (id, s) ∈ sqs c → ∀ f, hk id = some f → PieceOk P fn.ntmps s f
section sound
variable {B : World} {X : Own} {ρ : Asg} {hp : Hp C} {n : Nat} {w : World} {a : Act} {tm : Tm} {call : CallF C R} {dr : DrawF C R} {il : LoopF C R} {A : Ans R} {I : R → Prop}
theorem codeH_sound {hk : HookT C} (hp0 : Plain P) (no : AnsOk A I) (hc : CallOk P I call) (hd : DrawOk P I dr) {il : Nat → LoopF C R} {N : Nat} {unr : Nat → Nat} : ∀ (c : Code) (blk : Nat) (_ : ∀ b l, (b, l) ∈ lps blk c → LoopOkAt P I N l (il b N l)) (_ : ∀ id s, (id, s) ∈ sqs c → ∀ f, hk id = some f → PieceOk P N s f) (k : KC C R) (tm : Tm) (hp : Hp C) (n : Nat) (B : World) (X : Own) (ρ : Asg) (w : World) (a : Act),
    I (codeH A hk P call dr il N unr c blk k tm hp n) → a.tmps.size = N → a.defers = [] → Rel B X ρ hp n w → TmOk ρ tm a → c.wp P (PostC B X ρ hp n N fun e tm hp n => I (k e tm hp n)) a w
  | .skip, _, hl, hh, k, tm, hp, n, B, X, ρ, w, a, h, hN, hD, R, T => wp_skip ⟨.normal, ρ, tm, hp, n, rfl, Asg.le_refl _, Grow.refl _ _, hN, hD, R, T, h⟩
  | .region id ops draw, _, hl, hh, k, tm, hp, n, B, X, ρ, w, a, h, hN, hD, R, T => by
    cases draw with
    | false =>
      refine wp_region_list (regionS_sound (X := X) hp0 no hc ops.toList h hN R T ?_)
      intro ρ' tm' hp' n' a' w' g1 g2 g3 g4 g5 g6 g7
      exact ⟨.normal, ρ', tm', hp', n', rfl, g1, g2, g3, by rw [g4, hD], g5, g6, g7⟩
    | true =>
      refine wp_mono (hd N id ops tm hp n _ B X ρ w a h hN hD R T) fun e a w hq => hq.mono fun x tm hp n hx => ?_
      cases x with
      | normal => exact hx
      | exit i => exact hx.elim
      | ret => exact hx.elim
  | .seq x y, blk, hl, hh, k, tm, hp, n, B, X, ρ, w, a, h, hN, hD, R, T => by
    have h : I (cSeqH A hk x (codeH A hk P call dr il N unr x) (codeH A hk P call dr il N unr y) blk k tm hp n) := h
    have plain : I (cSeq (codeH A hk P call dr il N unr x) (codeH A hk P call dr il N unr y) blk k tm hp n) → (Code.seq x y).wp P (PostC B X ρ hp n N fun e tm hp n => I (k e tm hp n)) a w := fun h => by
      refine wp_seq (wp_mono (codeH_sound hp0 no hc hd x blk (fun b l h => hl b l (List.mem_append_left _ h)) (fun id s h => hh id s (List.mem_append_right _ (List.mem_append_left _ h))) _ tm hp n B X ρ w a h hN hD R T) fun e a w hq => ?_)
      obtain ⟨ex, ρ', tm', hp', n', rfl, g1, g2, g3, g4, g5, g6, g7⟩ := hq
      cases ex with
      | normal => exact wp_mono (codeH_sound hp0 no hc hd y blk (fun b l h => hl b l (List.mem_append_right _ h)) (fun id s h => hh id s (List.mem_append_right _ (List.mem_append_right _ h))) k tm' hp' n' B X ρ' w a g7 g3 g4 g5 g6) fun e a w hq => hq.weaken g1 g2
      | exit i => exact ⟨.exit i, ρ', tm', hp', n', rfl, g1, g2, g3, g4, g5, g6, g7⟩
      | ret => exact ⟨.ret, ρ', tm', hp', n', rfl, g1, g2, g3, g4, g5, g6, g7⟩
    unfold cSeqH at h
    cases hid : rid x with
    | none => simp only [hid] at h; exact plain h
    | some id =>
      cases hf : hk id with
      | none => simp only [hid, hf] at h; exact plain h
      | some f =>
        simp only [hid, hf] at h
        obtain ⟨r, h1, h2⟩ := Tr.run_get no h
        have hm : (id, Code.seq x y) ∈ sqs (.seq x y) := by
          show _ ∈ (match rid x with | some id => [(id, Code.seq x y)] | none => []) ++ (sqs x ++ sqs y)
          rw [hid]
          exact List.mem_append_left _ List.mem_cons_self
        refine wp_mono (hh id _ hm f hf tm hp n r h1 B X ρ w a hN hD R T) fun e a w hq => hq.mono fun x tm hp n hx => ?_
        subst hx; exact h2
  | .cond c x y, blk, hl, hh, k, tm, hp, n, B, X, ρ, w, a, h, hN, hD, R, T => by
    have h : I (cCond A c (codeH A hk P call dr il N unr x) (codeH A hk P call dr il N unr y) blk k tm hp n) := h
    unfold cCond at h
    split at h
    · rename_i t ht
      have hd' := evT_spec T ht
      simp only [den, Option.some.injEq] at hd'
      have h := no.br _ _ _ h
      cases t with
      | false => exact wp_cond hd'.symm (codeH_sound hp0 no hc hd y blk (fun b l h => hl b l (List.mem_append_right _ h)) (fun id s h => hh id s (List.mem_append_right _ h)) k _ hp n B X ρ w a (h.2 rfl) hN hD R (T.litT ht rfl))
      | true => exact wp_cond hd'.symm (codeH_sound hp0 no hc hd x blk (fun b l h => hl b l (List.mem_append_left _ h)) (fun id s h => hh id s (List.mem_append_left _ h)) k _ hp n B X ρ w a (h.1 rfl) hN hD R (T.litT ht rfl))
    · exact (no.no h).elim
  | .block id c, blk, hl, hh, k, tm, hp, n, B, X, ρ, w, a, h, hN, hD, R, T => by
    refine wp_block (wp_mono (codeH_sound hp0 no hc hd c id hl hh _ tm hp n B X ρ w a h hN hD R T) fun e a w hq => ?_)
    obtain ⟨ex, ρ', tm', hp', n', rfl, g1, g2, g3, g4, g5, g6, g7⟩ := hq
    cases ex with
    | normal => exact ⟨.normal, ρ', tm', hp', n', rfl, g1, g2, g3, g4, g5, g6, g7⟩
    | exit i =>
      simp only [exitOf, Exit.inBlock]
      cases hb : Nat.beq i id with
      | true =>
        have : i = id := Nat.eq_of_beq_eq_true hb
        have g7 : I (match Nat.beq i id with | true => k .normal tm' hp' n' | false => k (.exit i) tm' hp' n') := g7
        rw [hb] at g7
        rw [if_pos this]
        exact ⟨.normal, ρ', tm', hp', n', rfl, g1, g2, g3, g4, g5, g6, g7⟩
      | false =>
        have : ¬ i = id := Nat.ne_of_beq_eq_false hb
        have g7 : I (match Nat.beq i id with | true => k .normal tm' hp' n' | false => k (.exit i) tm' hp' n') := g7
        rw [hb] at g7
        rw [if_neg this]
        exact ⟨.exit i, ρ', tm', hp', n', rfl, g1, g2, g3, g4, g5, g6, g7⟩
    | ret => exact ⟨.ret, ρ', tm', hp', n', rfl, g1, g2, g3, g4, g5, g6, g7⟩
  | .loop c, blk, hl, hh, k, tm, hp, n, B, X, ρ, w, a, h, hN, hD, R, T => by
    intro b kk cs
    obtain ⟨e, a', w', hq, harr⟩ := iterS_sound (hl blk c List.mem_cons_self) (fun k tm hp n B X ρ w a => codeH_sound hp0 no hc hd c blk (fun b l h => hl b l (List.mem_cons_of_mem _ h)) hh k tm hp n B X ρ w a) (unr blk) k tm hp n h B X ρ w a hN hD R T b kk cs
    exact ⟨e, a', w', hq, .of_steps (.one step_loop) harr⟩
  | .exit id, _, hl, hh, k, tm, hp, n, B, X, ρ, w, a, h, hN, hD, R, T => wp_exit ⟨.exit id, ρ, tm, hp, n, rfl, Asg.le_refl _, Grow.refl _ _, hN, hD, R, T, h⟩
  | .ret, _, hl, hh, k, tm, hp, n, B, X, ρ, w, a, h, hN, hD, R, T => wp_ret ⟨.ret, ρ, tm, hp, n, rfl, Asg.le_refl _, Grow.refl _ _, hN, hD, R, T, h⟩
  | .rangeFunc .., _, _, _, _, _, _, _, _, _, _, _, _, h, _, _, _, _ => (no.no h).elim
  | .scope _, _, _, _, _, _, _, _, _, _, _, _, _, h, _, _, _, _ => (no.no h).elim
  | .label _, _, _, _, _, _, _, _, _, _, _, _, _, h, _, _, _, _ => (no.no h).elim
  | .goto _, _, _, _, _, _, _, _, _, _, _, _, _, h, _, _, _, _ => (no.no h).elim
  | .refuse _, _, _, _, _, _, _, _, _, _, _, _, _, h, _, _, _, _ => (no.no h).elim
end sound
/-- A function of its own, its pieces told. -/
def evalH (C : Tab) (P : Program) (hk : HookT C) (sp : SpecT C) (ls : LoopT C) (unr : Nat → Nat → Nat) (d g : Nat) (vs : List SV) (hp : Hp C) (n : Nat) (k : SV → Hp C → Nat → OT C) : OT C := match P.funcs[g]? with
  | none => .fail
  | some fn => match fn.body with
    | none => .fail
    | some c => match Nat.ble vs.length fn.ntmps with
      | false => .fail
      | true => codeH (ansT _) hk P (evalT C P sp ls unr d) (drawS (ansT _) P (evalT C P sp ls unr d)) (toL (ansT _) ls g) fn.ntmps (unr g) c 0 (retK (ansT _) P fn k) (argTm 0 vs) hp n
theorem evalH_ok (hp0 : Plain P) (hm : P.follows .mixedOrders = true) {sp : SpecT C} (hs : SpecTOk P sp) {ls : LoopT C} (hl : LoopTOk P ls) {unr : Nat → Nat → Nat} {hk : HookT C} {d g : Nat} (hh : HookOk P g hk) (q : SV × Hp C × Nat) :
    ∀ vs hp n (k : SV → Hp C → Nat → OT C) B X ρ w args, (evalH C P hk sp ls unr d g vs hp n k).get = some q → Rel B X ρ hp n w → denL ρ vs = some args →
      (∃ fn, P.funcs[g]? = some fn ∧ fn.body.isSome = true) ∧ Calls P g args.toArray w (CallPost B X ρ hp n fun sv hp n => (k sv hp n).get = some q) := fun vs hp n k B X ρ w args h RR hargs => by
  have no := ansT_ok q
  unfold evalH at h
  split at h
  · cases h
  · rename_i fn hfn
    split at h
    · cases h
    · rename_i c hc
      split at h
      · cases h
      · rename_i hle
        have hle' : args.length ≤ fn.ntmps := by rw [denL_length hargs]; exact Nat.le_of_ble_eq_true hle
        refine ⟨⟨fn, hfn, by rw [hc]; rfl⟩, calls_of_wp hfn hc ?_⟩
        have hN : (args.toArray ++ Array.replicate (fn.ntmps - args.toArray.size) undef).size = fn.ntmps := by simp; omega
        refine wp_mono (codeH_sound (I := fun y : OT C => y.get = some q) hp0 no (evalT_ok hp0 hm hs hl d q) (drawS_ok hp0 hm no (evalT_ok hp0 hm hs hl d)) c 0 (hl.f no g fn c hfn hc) (hh fn c hfn hc) _ _ hp n B X ρ w _ h hN rfl RR ?_) ?_
        · intro t sv ht
          obtain ⟨v, g1, _, g3⟩ := find_argTm vs 0 args hargs t sv ht
          refine ⟨v, g1, ?_⟩
          rw [Nat.sub_zero] at g3
          have hlt := (List.getElem?_eq_some_iff.1 g3).1
          simp [Array.getElem?_append, hlt, (List.getElem?_eq_some_iff.1 g3).2]
        · intro e a w' hq
          obtain ⟨x, ρ', tm', hp', n', rfl, g1, g2, g3, g4, g5, g6, g7⟩ := hq
          have fin : (retK (ansT _) P fn k .ret tm' hp' n').get = some q → bodyPost P fn (CallPost B X ρ hp n fun sv hp n => (k sv hp n).get = some q) .ret a w' := fun g7 => by
            obtain ⟨l, hl1, hl2⟩ := Tr.run_get no g7
            obtain ⟨v, hv1, hv2⟩ := results_sound g5 g6 hl1
            exact ⟨g4, v, hv2, ρ', v, packS l, hp', n', rfl, g1, g2, hv1, g5, hl2⟩
          cases x with
          | normal => exact fin g7
          | ret => exact fin g7
          | exit i => exact (no.no g7).elim
def fnH (C : Tab) (P : Program) (hk : HookT C) (sp : SpecT C) (ls : LoopT C) (unr : Nat → Nat → Nat) (d g : Nat) (args : List SV) (os : List (SO C)) : Tr (SV × List (SO C)) :=
  (evalH C P hk sp ls unr d g args (numH 0 os) os.length fun sv hp n => .leaf (sv, hp, n)).bind fun q => shutL [q.1] q.2.1 q.2.2 fun vs hp _ => (canonV os.length vs hp).bind fun y => match y.1 with
    | [v] => .leaf (v, y.2.drop os.length)
    | _ => .fail
theorem fnH_ok {hk : HookT C} {d g : Nat} (hp0 : Plain P) (hm : P.follows .mixedOrders = true) {sp : SpecT C} (hs : SpecTOk P sp) {ls : LoopT C} (hl : LoopTOk P ls) {unr : Nat → Nat → Nat} (hh : HookOk P g hk) {args : List SV} {os : List (SO C)} {r : SV × List (SO C)}
    (h : (fnH C P hk sp ls unr d g args os).get = some r) : Fn0 P g args os r := by
  unfold fnH at h
  obtain ⟨⟨sv, hp1, n1⟩, h1, h2⟩ := Tr.get_bind h
  obtain ⟨vs2, hp2, n2, h2, s1⟩ := shutL_spec _ _ _ _ h2
  obtain ⟨⟨ws, os1⟩, h3, h4⟩ := Tr.get_bind h2
  simp only at h4
  split at h4
  · rename_i v
    simp only [Tr.get, Option.some.injEq] at h4
    subst h4
    obtain ⟨f, hf⟩ := canonV_ok (n := n2) h3
    intro B X ρ w vals hX RR hd
    obtain ⟨g1, g2⟩ := evalH_ok hp0 hm hs hl (unr := unr) hh _ args (numH 0 os) os.length _ B X ρ w vals h1 RR hd
    refine ⟨g1, g2.mono ?_⟩
    rintro e w' ⟨ρ', v', sv', hp', n', rfl, h5, h6, h7, h8, h9⟩
    simp only [Tr.get, Option.some.injEq, Prod.mk.injEq] at h9
    obtain ⟨rfl, rfl, rfl⟩ := h9
    obtain ⟨ρ2, p2, R2, d2⟩ := s1 B X ρ' w' [v'] h8 (denL_one h7)
    have hl1 := hf.le
    have hlen : os.length + (os1.drop os.length).length = os1.length := by simp; omega
    have hR := R2.ren (hp' := numH os.length (os1.drop os.length)) (n' := os.length + (os1.drop os.length).length) (f := f) ⟨fun j o hj => by
        obtain ⟨q1, q2⟩ := find_num hj
        rw [List.getElem?_drop, show os.length + (j - os.length) = j by omega] at q2
        have := num_find (m := 0) q2
        rw [Nat.zero_add] at this
        exact hf.ren.ent j o this, fun i j oi oj hi hj => by
        obtain ⟨q1, q2⟩ := find_num hi
        rw [List.getElem?_drop, show os.length + (i - os.length) = i by omega] at q2
        obtain ⟨q3, q4⟩ := find_num hj
        rw [List.getElem?_drop, show os.length + (j - os.length) = j by omega] at q4
        have e1 := num_find (m := 0) q2
        have e2 := num_find (m := 0) q4
        rw [Nat.zero_add] at e1 e2
        exact hf.ren.inj i j oi oj e1 e2⟩ (by omega) (fun i hi => hf.base i (by omega)) (fun i hi => hf.fresh i (by omega))
    refine ⟨_, v', rfl, hR, ?_⟩
    rw [← hf.vals, ← denL_ren] at d2
    obtain ⟨u, l, d3, d4, d5⟩ := denL_cons.1 d2
    simp only [List.cons.injEq] at d5
    rw [d5.1]; exact d3
  · cases h4
end
end Go.Sx

/-
  Loops that look for the first place with a property. Own work; nothing here is trusted.
-/
set_option linter.unusedVariables false
set_option linter.unusedSimpArgs false
namespace Go.Sx
open Go Go.RowKit
noncomputable section
variable {C : Tab} {P : Program}
theorem find_range {p : Nat → Bool} {k : Nat} : ∀ {n : Nat}, k < n → p k = true → (∀ j, j < k → p j = false) → (List.range n).find? p = some k := fun {n} hk hp hj => by
  rw [List.find?_eq_some_iff_append]
  refine ⟨hp, List.range k, (List.range n).drop (k + 1), ?_, fun a ha => ?_⟩
  · have h1 : (List.range n).take k = List.range k := by
      rw [List.take_range, Nat.min_eq_left (by omega)]
    have h2 : (List.range n).drop k = k :: (List.range n).drop (k + 1) := by
      rw [List.drop_eq_getElem_cons (by simpa using hk)]
      simp
    rw [← h1, ← h2, List.take_append_drop]
  · rw [hj a (List.mem_range.1 ha)]; rfl
/-- No place has the property. -/
def noneP (p : Nat → Bool) (n : Nat) : Bool := ((List.range n).find? p).isNone
/-- The first place that has it. -/
def fstP (p : Nat → Bool) (n : Nat) : Nat := ((List.range n).find? p).getD 0
theorem noneP_iff {p : Nat → Bool} {n : Nat} : noneP p n = true ↔ ∀ k, k < n → p k = false := by
  unfold noneP
  rw [Option.isNone_iff_eq_none, List.find?_eq_none]
  exact ⟨fun h k hk => by have := h k (List.mem_range.2 hk); simpa using this, fun h k hk => by rw [h k (List.mem_range.1 hk)]; decide⟩
theorem fstP_of {p : Nat → Bool} {n k : Nat} (hk : k < n) (hp : p k = true) (hj : ∀ j, j < k → p j = false) : fstP p n = k := by
  unfold fstP; rw [find_range hk hp hj]; rfl
theorem noneP_off {p : Nat → Bool} {n k : Nat} (hk : k < n) (hp : p k = true) : noneP p n = false := by
  cases h : noneP p n with
  | false => rfl
  | true => rw [noneP_iff.1 h k hk] at hp; cases hp
theorem fstP_spec {p : Nat → Bool} {n : Nat} (h : noneP p n = false) : fstP p n < n ∧ p (fstP p n) = true ∧ ∀ j, j < fstP p n → p j = false := by
  unfold noneP at h
  unfold fstP
  cases hf : (List.range n).find? p with
  | none => rw [hf] at h; cases h
  | some k =>
    obtain ⟨h1, as, bs, h2, h3⟩ := List.find?_eq_some_iff_append.1 hf
    have hk : k ∈ List.range n := by rw [h2]; exact List.mem_append_right _ List.mem_cons_self
    refine ⟨List.mem_range.1 hk, h1, fun j hj => ?_⟩
    simp only [Option.getD_some] at hj
    have hlen : as.length = k := by
      have hl : as.length < n := by
        have := congrArg List.length h2
        simp only [List.length_range, List.length_append, List.length_cons] at this
        omega
      have h4 : (List.range n)[as.length]? = some k := by
        rw [h2, List.getElem?_append_right (Nat.le_refl _), Nat.sub_self]; rfl
      rw [List.getElem?_range hl] at h4
      exact Option.some.inj h4
    have hm : j ∈ as := by
      have h4 : (List.range n)[j]? = some j := by
        rw [List.getElem?_range (by have := List.mem_range.1 hk; omega)]
      rw [h2, List.getElem?_append_left (by omega)] at h4
      exact List.mem_of_getElem? h4
    have := h3 j hm
    simpa using this
theorem scan_li (hp0 : Plain P) (hm : P.follows .mixedOrders = true) {sp : SpecT C} (hs : SpecTOk P sp) {ls : LoopT C} (hl : LoopTOk P ls) {unr : Nat → Nat → Nat} {d g blk N b : Nat} {c : Code} (hc : loopOf P g blk = some (N, c))
    {slots : List Nat} {nb n : Nat} {stN stR : Nat → List SV × List (SO C)} {p : Nat → Bool}
    (h1 : ∀ k, k < n → (roundG C P sp ls unr d g blk slots ⟨(stN k).1, nb, (stN k).2⟩).get = bro (p k) (some (.ret, stR k)) (some (.normal, stN (k + 1))))
    (h2 : (roundG C P sp ls unr d g blk slots ⟨(stN n).1, nb, (stN n).2⟩).get = some (.exit b, stN n)) {r : Ex × List SV × List (SO C)}
    (hr : (Tr.br (noneP p n) (.leaf (.exit b, stN n)) (.leaf (.ret, stR (fstP p n)))).get = some r) :
    LoopRun P N c nb (LI.st slots ⟨(stN 0).1, nb, (stN 0).2⟩) fun x T => ∃ vs os, (x = r.1 ∧ (vs, os) = r.2) ∧ T = ⟨zipT slots vs, numH 0 os, os.length⟩ := by
  refine loop_li (σ := Nat) (st := stN) (Inv := fun k => k ≤ n ∧ ∀ j, j < k → p j = false) (μ := fun k => n - k) hp0 hm hs hl hc (d := d) (unr := unr) (Q := fun x vs os => x = r.1 ∧ (vs, os) = r.2) (fun k hk => ?_) 0 ⟨Nat.zero_le _, fun j hj => absurd hj (Nat.not_lt_zero j)⟩
  obtain ⟨hi, hj⟩ := hk
  by_cases h5 : k < n
  · have hp := h1 k h5
    cases ho : p k with
    | false =>
      rw [ho] at hp
      exact ⟨_, hp, fun _ => ⟨k + 1, ⟨by omega, fun j hjk => by
        rcases Nat.lt_or_ge j k with h | h
        · exact hj j h
        · obtain rfl : j = k := by omega
          exact ho⟩, by omega, rfl⟩, nofun⟩
    | true =>
      rw [ho] at hp
      refine ⟨_, hp, nofun, fun _ => ?_⟩
      rw [noneP_off h5 ho, fstP_of h5 ho hj] at hr
      simp only [Tr.get, Option.some.injEq] at hr
      subst hr
      exact ⟨rfl, rfl⟩
  · obtain rfl : k = n := by omega
    refine ⟨_, h2, nofun, fun _ => ?_⟩
    rw [noneP_iff.2 hj] at hr
    simp only [Tr.get, Option.some.injEq] at hr
    subst hr
    exact ⟨rfl, rfl⟩
end
end Go.Sx

/-
  The frame of a statement: a struct with slices in it that was handed over. Own work; nothing here is trusted.
-/
namespace Go.Sx
open Go.RowKit Go.ChangeShapes Go.WideShapes Go.ChangeAt
variable {P : Program}
/-- A part of a struct: plain cells, or a slice. -/
inductive FS where
  | k (ks : List FK)
  | sl (e : TypeId)
def FS.len : FS → Nat
  | .k ks => ks.length
  | .sl _ => 1
def lenS : List FS → Nat
  | [] => 0
  | s :: r => s.len + lenS r
def shapesF (P : Program) (d : Nat) : List Field → Nat → Option (List FS)
  | [], _ => some []
  | f :: r, off => match Nat.beq f.offset off with
    | true => match P.underlying f.type with
      | some (.slice e) => match shapesF P d r (off + 1) with
        | some l => some (.sl e :: l)
        | none => none
      | _ => match kindsOf P d f.type with
        | some ks => match Nat.beq (P.cellsOf f.type) ks.length, shapesF P d r (off + ks.length) with
          | true, some l => some (.k ks :: l)
          | _, _ => none
        | none => none
    | false => none
def matchS (C : Tab) (W : World) (kk : TypeId → List FK) : List FS → List Value → Prop
  | [], l => l = []
  | .k ks :: r, l => matchK ks (l.take ks.length) ∧ matchS C W kk r (l.drop ks.length)
  | .sl e :: r, l => ∃ v l2, l = v :: l2 ∧ SArg (C e) (fun q => matchK (kk e) ((C e).enc q)) W v ∧ matchS C W kk r l2
theorem cell_block {w : World} {r : Reach} {b0 : Nat} {u : TypeId} {a : Addr} {len cap : Nat} (h : Cell.okWide P w r b0 u (.slice (some a) len cap)) : a.block < w.heap.size := by
  unfold Cell.okWide at h
  have h2 : Cell.ok P w r b0 u (.slice (some a) len cap) := by
    generalize P.underlying u = o at h
    cases o with
    | none => exact h
    | some o => cases o <;> exact h
  unfold Cell.ok at h2
  generalize P.underlying u = o at h2
  cases o with
  | none => exact h2.elim
  | some o =>
    cases o <;> first | exact h2.elim | skip
    simp only at h2
    obtain ⟨_, _, _, _, row, cells, h, _⟩ := h2
    unfold World.shape? at h
    split at h
    · rename_i hb
      exact (Array.getElem?_eq_some_iff.1 hb).1
    · cases h
section
variable {H : Type} {enc : TypeId × Value → H} {w : World} {base : Nat} {spare : Nat → Bool} {held : Bool}
theorem shapes_trod {C : Tab} {kk : TypeId → List FK} {d m : Nat} {cs : List Value} (hb : ∀ a len cap, Value.slice (some a) len cap ∈ cs → a.block < w.heap.size) :
    ∀ (l : List Field) (off : Nat) (ss : List FS), shapesF P d l off = some ss → (∀ f ∈ l, ∃ y, DataW.trod enc P w base spare held m f.type ((cs.drop f.offset).take (P.cellsOf f.type)) = some y) →
    off + lenS ss = cs.length → (∀ e, FS.sl e ∈ ss → kindsOf P d e = some (kk e) ∧ P.cellsOf e = (C e).sz ∧ ∀ l, matchK (kk e) l → ∃ a, (C e).enc a = l) → matchS C w kk ss (cs.drop off)
  | [], off, ss, h, _, hl, _ => by
    simp only [shapesF, Option.some.injEq] at h; subst h
    show cs.drop off = []
    exact List.drop_eq_nil_of_le (by simp [lenS] at hl; omega)
  | f :: r, off, ss, h, hf, hl, hS => by
    unfold shapesF at h
    split at h
    · rename_i ho
      have ho := Nat.eq_of_beq_eq_true ho
      obtain ⟨y, hy⟩ := hf f List.mem_cons_self
      split at h
      · rename_i e ht
        split at h
        · rename_i l2 hl2
          cases h
          obtain ⟨s1, s2, s3⟩ := hS e List.mem_cons_self
          have ih := shapes_trod hb r _ _ hl2 (fun g hg => hf g (List.mem_cons_of_mem _ hg)) (by simp only [lenS, FS.len] at hl; omega) (fun e he => hS e (List.mem_cons_of_mem _ he))
          have hv := open_view (c := C e) ht s1 s2 s3 hy
          rw [ho] at hv
          have split1 : ∀ v, (cs.drop off).take (P.cellsOf f.type) = [v] → cs.drop off = v :: cs.drop (off + 1) := fun v hv => by
            have h1 : (cs.drop off) ≠ [] := fun h0 => by rw [h0] at hv; simp at hv
            obtain ⟨u, us, hu⟩ := List.exists_cons_of_ne_nil h1
            have h2 : cs.drop (off + 1) = us := by rw [← List.drop_drop, hu]; rfl
            rw [hu] at hv ⊢
            rw [h2]
            cases hc : P.cellsOf f.type with
            | zero => rw [hc] at hv; simp at hv
            | succ n => rw [hc] at hv; simp at hv; rw [hv.1]
          rcases hv with hv | ⟨a, cap, ts, hv, h1, h2, h3⟩
          · have e1 := split1 _ hv
            exact ⟨_, _, e1, .inl rfl, ih⟩
          · have e1 := split1 _ hv
            refine ⟨_, _, e1, .inr ⟨a, cap, ts, rfl, h1, h2, h3, ?_⟩, ih⟩
            refine hb a ts.length cap ?_
            have : Value.slice (some a) ts.length cap ∈ cs.drop off := by rw [e1]; exact List.mem_cons_self
            exact List.mem_of_mem_drop this
        · cases h
      · split at h
        · rename_i ks hk
          split at h
          · rename_i l2 hc hl2
            cases h
            have hc := Nat.eq_of_beq_eq_true hc
            have ih := shapes_trod hb r _ _ hl2 (fun g hg => hf g (List.mem_cons_of_mem _ hg)) (by simp only [lenS, FS.len] at hl; omega) (fun e he => hS e (List.mem_cons_of_mem _ he))
            have h1 := kindsOf_trod d _ ks hk m _ _ hy
            rw [ho, hc] at h1
            exact ⟨h1, by rw [List.drop_drop]; exact ih⟩
          · cases h
        · cases h
    · cases h
end
/-- A struct of plain cells and slices, opened. -/
theorem open_rec {H : Type} {enc : TypeId × Value → H} {w : World} {base : Nat} {spare : Nat → Bool} {held : Bool} {r : Reach} {b0 : Nat} {t : TypeId} {fs : Array Field} {d : Nat} {v : Value} {y : DataW H} {ps : List MemPlace}
    (C : Tab) (kk : TypeId → List FK) (ss : List FS) (ht : P.underlying t = some (.struct fs)) (hs : shapesF P d fs.toList 0 = some ss) (hlen : lenS ss = P.cellsOf t)
    (hS : ∀ e, FS.sl e ∈ ss → kindsOf P d e = some (kk e) ∧ P.cellsOf e = (C e).sz ∧ ∀ l, matchK (kk e) l → ∃ a, (C e).enc a = l)
    (hval : Value.okWide P w r b0 t v) (hd : DataW.Trod enc P w base spare held t v y ps) : ∃ l : List Value, v = .agg l.toArray ∧ matchS C w kk ss l := by
  have hval' := hval
  simp only [Value.okWide, ht] at hval'
  obtain ⟨cs, rfl, hsz, ts, hts, hn, hrow⟩ := hval'
  obtain ⟨fuel, hf⟩ := hd
  have hcells : (Value.agg cs).cells.toList = cs.toList := rfl
  refine ⟨cs.toList, by simp, ?_⟩
  obtain ⟨xs, n, hx1, hx2, hl, hlen2, hff⟩ := DataW.trod_struct ht hf
  have := shapes_trod (C := C) (kk := kk) (d := d) (m := n) (enc := enc) (P := P) (w := w) (base := base) (spare := spare) (held := held) (cs := cs.toList) (fun a len cap hm => by
    obtain ⟨i, hi⟩ := List.mem_iff_getElem?.1 hm
    obtain ⟨u, _, hc⟩ := hrow i _ (by simpa using hi)
    exact cell_block hc) fs.toList 0 ss hs (fun f hf' => by
      obtain ⟨i, hi⟩ := List.mem_iff_getElem?.1 hf'
      have hi' : fs[i]? = some f := by simpa using hi
      have hlt : i < xs.length := by rw [hlen2]; exact (Array.getElem?_eq_some_iff.1 hi').1
      exact ⟨_, (hff i f hi').trans (List.getElem?_eq_getElem hlt)⟩) (by rw [Nat.zero_add, hlen, ← hsz]; simp) hS
  simpa using this
theorem matchS_k {C : Tab} {W : World} {kk : TypeId → List FK} {ks : List FK} {r : List FS} {l : List Value} (h : matchS C W kk (.k ks :: r) l) : ∃ l1 l2, l = l1 ++ l2 ∧ matchK ks l1 ∧ matchS C W kk r l2 :=
  ⟨_, _, (List.take_append_drop ks.length l).symm, h.1, h.2⟩
theorem matchS_sl {C : Tab} {W : World} {kk : TypeId → List FK} {e : TypeId} {r : List FS} {l : List Value} (h : matchS C W kk (.sl e :: r) l) : ∃ v l2, l = v :: l2 ∧ SArg (C e) (fun q => matchK (kk e) ((C e).enc q)) W v ∧ matchS C W kk r l2 := h
theorem matchS_nil {C : Tab} {W : World} {kk : TypeId → List FK} {l : List Value} (h : matchS C W kk [] l) : l = [] := h
/-! ### some slices that were handed over -/
section
variable {C : Tab}
theorem Rel.ext {B : World} {X : Own} {ρ : Asg} {hp hp' : Hp C} {n : Nat} {w : World} (h : Rel B X ρ hp n w) (he : ∀ i, find i hp' = find i hp) : Rel B X ρ hp' n w :=
  ⟨h.os, h.tape, h.out, h.size, h.old, h.nbLe, h.agree, h.fresh, h.one, fun i o hi => h.obj i o (by rw [← he]; exact hi),
    fun i j oi oj vi vj g hij hi hj => h.sep i j oi oj vi vj g hij (by rw [← he]; exact hi) (by rw [← he]; exact hj),
    fun i o v g hi => h.blkOk i o v g (by rw [← he]; exact hi), fun i o v g hi => h.prov i o v g (by rw [← he]; exact hi), fun i o v hi => h.nn i o v (by rw [← he]; exact hi), h.frz, fun i o hi => h.inn i o (by rw [← he]; exact hi)⟩
structure View (C : Tab) (W : World) where
  e : TypeId
  a : Addr
  cap : Nat
  ts : List (C e).α
  hl : ts.length ≤ cap
  hc : ∀ j y, ((C e).flat ts)[j]? = some y → W.cell? (a.add j) = some y
  hb : a.block < W.heap.size
variable {W : World}
def View.so (v : View C W) : SO C := .sl false false v.e v.ts
def View.val (v : View C W) : Value := .slice (some v.a) v.ts.length v.cap
theorem num_snoc : ∀ (l : List (SO C)) (m : Nat) (o : SO C), numH m (l ++ [o]) = numH m l ++ [(m + l.length, o)]
  | [], m, o => rfl
  | x :: r, m, o => by
    simp only [List.cons_append, numH, num_snoc r (m + 1) o, List.length_cons]
    rw [show m + 1 + r.length = m + (r.length + 1) by omega]
theorem num_none {l : List (SO C)} {m i : Nat} (h : m + l.length ≤ i) : find i (numH m l) = none := by
  cases hf : find i (numH m l) with
  | none => rfl
  | some o =>
    obtain ⟨h1, h2⟩ := find_num hf
    have := (List.getElem?_eq_some_iff.1 h2).1
    omega
theorem rel_views : ∀ (l : List (View C W)), ∃ ρ, Rel W ⟨fun _ => False, fun _ => True, ρ, l.length, fun g => g < W.heap.size⟩ ρ (numH 0 (l.map View.so)) l.length W ∧ ∀ i v, l[i]? = some v → ρ i = some v.val := by
  intro l
  generalize hn : l.length = n
  induction n generalizing l with
  | zero =>
    obtain rfl := List.length_eq_zero_iff.1 hn
    exact ⟨fun _ => none, rel_none, fun i v h => by simp at h⟩
  | succ n ih =>
    obtain ⟨l0, v, rfl⟩ : ∃ l0 v, l = l0 ++ [v] := by
      have hne : l ≠ [] := by intro h; subst h; simp at hn
      exact ⟨l.dropLast, l.getLast hne, (List.dropLast_concat_getLast hne).symm⟩
    have hn0 : l0.length = n := by simpa using hn
    obtain ⟨ρ, hR, hv⟩ := ih l0 hn0
    have hno : ∀ i o, find i (numH 0 (l0.map (View.so (C := C)))) = some o → o.owns = false := fun i o hi => by
      obtain ⟨_, h2⟩ := find_num hi
      rw [List.getElem?_map] at h2
      obtain ⟨x, _, rfl⟩ := Option.map_eq_some_iff.1 h2
      rfl
    have h1 := Rel.see (X := ⟨fun _ => False, fun _ => True, ρ, n, fun g => g < W.heap.size⟩) hR hno v.hl v.hc v.hb
    refine ⟨ρ.add n v.val, (Rel.base h1).ext fun i => ?_, fun i u hu => ?_⟩
    · have e1 : find i ((n, SO.sl false false v.e v.ts) :: numH 0 (l0.map (View.so (C := C)))) = if i = n then some (.sl false false v.e v.ts) else find i (numH 0 (l0.map (View.so (C := C)))) := find_cons _ _ _ _
      have e2 : find i [(n, View.so v)] = if i = n then some (.sl false false v.e v.ts) else none := find_cons _ _ _ _
      rw [List.map_append, List.map_singleton, num_snoc, find_append, Nat.zero_add, List.length_map, hn0, e2]
      refine Eq.trans ?_ e1.symm
      by_cases hi : i = n
      · rw [if_pos hi, if_pos hi, num_none (by rw [List.length_map, hn0]; omega)]
      · rw [if_neg hi, if_neg hi]
        cases find i (numH 0 (l0.map (View.so (C := C)))) <;> rfl
    · unfold Asg.add
      by_cases hi : i = n
      · subst hi
        rw [if_pos rfl]
        rw [List.getElem?_append_right (by omega), hn0, Nat.sub_self] at hu
        simp at hu; subst hu; rfl
      · rw [if_neg hi]
        have : i < l0.length := by
          have := (List.getElem?_eq_some_iff.1 hu).1
          simp at this; omega
        rw [List.getElem?_append_left this] at hu
        exact hv i u hu
/-- A call with slices that were handed over. -/
theorem run_views {g : Nat} {args : List SV} {vals : List Value} (l : List (View C W)) (h : Fn0 P g args (l.map View.so) (.raw (.bool true), [])) (hd : ∀ ρ : Asg, (∀ i v, l[i]? = some v → ρ i = some v.val) → denL ρ args = some vals) :
    Calls P g vals.toArray W fun e w' => e = .returned (.bool true) ∧ Below W.heap.size W w' := by
  obtain ⟨ρ, hR, hv⟩ := rel_views l
  refine run_fn0 (ρ := ρ) h ?_ (hd ρ hv)
  rw [List.length_map]; exact hR
end
end Go.Sx

/-
  A row that was handed over, whose elements hold slices; calls with such rows. Own work; nothing here is trusted.
-/
namespace Go.Sx
open Go.RowKit Go.ChangeShapes Go.WideShapes Go.ChangeAt
variable {P : Program}
/-- What stands behind an inner slice. -/
def InG {c ci : Codec} (W : World) (t : c.α × Option (Addr × Nat) × List ci.α) : Prop :=
  (t.2.1 = none → t.2.2 = []) ∧ ∀ ad c, t.2.1 = some (ad, c) → t.2.2.length ≤ c ∧ (0 < c → ad.block < W.heap.size ∧ ∀ j x, (ci.flat t.2.2)[j]? = some x → W.cell? (ad.add j) = some x)
/-- A row handed over, whose elements hold slices. -/
def SsArg (c ci : Codec) (pos : Nat) (p : c.α × Option (Addr × Nat) × List ci.α → Prop) (W : World) (v : Value) : Prop :=
  v = .slice none 0 0 ∨ ∃ (a : Addr) (cap : Nat) (ts : List (c.α × Option (Addr × Nat) × List ci.α)), v = .slice (some a) ts.length cap ∧ ts.length ≤ cap ∧ (∀ j y, (ssFlat c pos ts)[j]? = some y → W.cell? (a.add j) = some y) ∧
    a.block < W.heap.size ∧ ∀ t ∈ ts, p t ∧ InG W t
theorem ssFlat_append (c : Codec) {β : Type} (pos : Nat) : ∀ ts us : List (c.α × Option (Addr × Nat) × List β), ssFlat c pos (ts ++ us) = ssFlat c pos ts ++ ssFlat c pos us
  | [], us => rfl
  | t :: r, us => by
    show ssCells c pos t ++ ssFlat c pos (r ++ us) = ssCells c pos t ++ ssFlat c pos r ++ ssFlat c pos us
    rw [ssFlat_append c pos r us, List.append_assoc]
theorem cell_row {w : World} {a : Addr} {v : Value} (h : w.cell? a = some v) : ∃ cs t z, w.heap[a.block]? = some (.cells cs t z) ∧ cs[a.off]? = some v := by
  unfold World.cell? at h
  split at h
  · rename_i c t z hc
    split at h
    · cases h
    · exact ⟨c, t, z, hc, h⟩
  · cases h
section
variable {H : Type} {enc : TypeId × Value → H} {w : World} {base : Nat} {spare : Nat → Bool} {held : Bool}
theorem blk_of_cells {a : Addr} {k n : Nat} {cs : List Value} (h : w.cells? base (a.add k) n = some cs) (hn : 0 < n) : a.block < w.heap.size := by
  obtain ⟨g1, g2⟩ := cells_spec h
  have h0 : 0 < cs.length := by omega
  have h1 := g2 0 _ (List.getElem?_eq_getElem h0)
  obtain ⟨c, t, z, h2, _⟩ := cell_row h1
  rw [Addr.add_block, Addr.add_block] at h2
  exact (Array.getElem?_eq_some_iff.1 h2).1
/-- An inner slice of plain elements. -/
theorem open_in {t e : TypeId} {ci : Codec} {d : Nat} {ks : List FK} {fuel : Nat} {cs : List Value} {x : DataW H × List MemPlace} (hs : ∀ b, spare b = true) (ht : P.underlying t = some (.slice e)) (hk : kindsOf P d e = some ks) (hc : P.cellsOf e = ci.sz)
    (henc : ∀ l, matchK ks l → ∃ a, ci.enc a = l) (h : DataW.trod enc P w base spare held fuel t cs = some x) :
    ∃ (o : Option (Addr × Nat)) (us : List ci.α), cs = [ssV o us.length] ∧ (o = none → us = []) ∧ (∀ u ∈ us, matchK ks (ci.enc u)) ∧ ∀ ad c, o = some (ad, c) → us.length ≤ c ∧ (0 < c → ad.block < w.heap.size ∧ ∀ j x, (ci.flat us)[j]? = some x → w.cell? (ad.add j) = some x) := by
  rcases open_view ht hk hc henc h with h0 | ⟨a, cap, ts, rfl, h1, h2, h3⟩
  · exact ⟨none, [], h0, fun _ => rfl, (fun _ h => by cases h), fun _ _ h => by cases h⟩
  · refine ⟨some (a, cap), ts, rfl, (fun h => by cases h), h3, fun ad c he => ?_⟩
    cases he
    refine ⟨h1, fun hp => ⟨?_, h2⟩⟩
    rcases DataW.trod_slice ht h with ⟨h0, _⟩ | ⟨a', len, cap', elems, rest, n, _, h0, _, _, hl, _, hlen, hel, hsp, _⟩
    · cases h0
    · cases h0
      by_cases hz : 0 < ts.length
      · have h4 := hel 0 hz
        rw [List.getElem?_eq_getElem (by omega)] at h4
        obtain ⟨cells, h5, _⟩ := Option.bind_eq_some_iff.1 h4
        exact blk_of_cells h5 (by rw [hc]; exact ci.pos)
      · obtain ⟨h4, h5⟩ := hsp (hs _)
        have h6 := h5 0 (by omega)
        rw [List.getElem?_eq_getElem (by omega)] at h6
        obtain ⟨cells, h7, _⟩ := Option.bind_eq_some_iff.1 h6
        exact blk_of_cells h7 (by rw [hc]; exact ci.pos)
theorem open_ss {r : Reach} {b0 : Nat} {t e : TypeId} {c ci : Codec} {pos : Nat} {p : c.α × Option (Addr × Nat) × List ci.α → Prop} {v : Value} {y : DataW H} {ps : List MemPlace} (ht : P.underlying t = some (.slice e)) (hc : P.cellsOf e = c.sz)
    (hel : ∀ n cells x, DataW.trod enc P w base spare held n e cells = some x → ∃ q : c.α × Option (Addr × Nat) × List ci.α, cells = ssCells c pos q ∧ p q ∧ InG w q)
    (hval : Value.okWide P w r b0 t v) (hd : DataW.Trod enc P w base spare held t v y ps) : SsArg c ci pos p w v := by
  obtain ⟨a0, len0, cap0, rfl⟩ := Go.WideShapes.okWide_slice ht hval
  obtain ⟨fuel, hf⟩ := hd
  have hf : DataW.trod enc P w base spare held fuel t [.slice a0 len0 cap0] = some (y, ps) := hf
  rcases DataW.trod_slice ht hf with ⟨h0, _⟩ | ⟨a, len, cap, elems, rest, n, _, h0, _, hbase, hl, _, hlen, helm, _⟩
  · left; exact (List.cons.inj h0).1
  · right
    have h0 := (List.cons.inj h0).1
    rw [h0] at hval ⊢
    have hblk : a.block < w.heap.size := slice_block ht hval
    have each : ∀ i, i < len → ∃ q : c.α × Option (Addr × Nat) × List ci.α, (∀ j y, (ssCells c pos q)[j]? = some y → w.cell? (a.add (i * c.sz + j)) = some y) ∧ p q ∧ InG w q := by
      intro i hi
      have h1 := helm i hi
      rw [List.getElem?_eq_getElem (by omega)] at h1
      obtain ⟨cells, h2, h3⟩ := Option.bind_eq_some_iff.1 h1
      rw [hc] at h2
      obtain ⟨g1, g2⟩ := cells_spec h2
      obtain ⟨q, rfl, hq⟩ := hel n cells _ h3
      refine ⟨q, fun j y hj => ?_, hq⟩
      have := g2 j y hj
      rwa [Addr.add_add] at this
    have build : ∀ m, m ≤ len → ∃ ts : List (c.α × Option (Addr × Nat) × List ci.α), ts.length = m ∧ (∀ j y, (ssFlat c pos ts)[j]? = some y → w.cell? (a.add j) = some y) ∧ ∀ t ∈ ts, p t ∧ InG w t := by
      intro m
      induction m with
      | zero => exact fun _ => ⟨[], rfl, fun j y h => by simp [ssFlat] at h, fun t h => by cases h⟩
      | succ m ih =>
        intro hm
        obtain ⟨ts, e1, e2, e3⟩ := ih (by omega)
        obtain ⟨q, q1, q2⟩ := each m (by omega)
        refine ⟨ts ++ [q], by simp [e1], fun j y hj => ?_, fun t ht => ?_⟩
        · rw [ssFlat_append, List.getElem?_append] at hj
          split at hj
          · exact e2 j y hj
          · rename_i hge
            rw [ssFlat_length, e1] at hj hge
            simp only [ssFlat, List.append_nil] at hj
            have := q1 _ y hj
            rwa [show m * c.sz + (j - m * c.sz) = j by omega] at this
        · rcases List.mem_append.1 ht with ht | ht
          · exact e3 t ht
          · rw [List.mem_singleton.1 ht]; exact q2
    obtain ⟨ts, e1, e2, e3⟩ := build len (Nat.le_refl _)
    exact ⟨a, cap, ts, by rw [e1], by rw [e1]; exact hl, e2, hblk, e3⟩
end
/-! ### calls with slices and rows that were handed over -/
/-- An argument that may only be looked at. -/
structure VW (C : Tab) (W : World) where
  so : SO C
  val : Value
  no : so.owns = false
  ok : ∀ {X : Own} {ρ : Asg} {hp : Hp C} {n : Nat}, Rel W ⟨fun _ => False, fun _ => True, X.ba, X.nb, fun g => g < W.heap.size⟩ ρ hp n W → (∀ i o, find i hp = some o → o.owns = false) → Rel W ⟨fun _ => False, fun _ => True, X.ba, X.nb, fun g => g < W.heap.size⟩ (ρ.add n val) ((n, so) :: hp) (n + 1) W
section
variable {C : Tab} {W : World}
def View.vw (v : View C W) : VW C W := ⟨v.so, v.val, rfl, fun h hno => Rel.see h hno v.hl v.hc v.hb⟩
def ssVW {e it : TypeId} {pos : Nat} {a : Addr} {cap : Nat} {ts : List ((C e).α × Option (Addr × Nat) × List (C it).α)} (hl : ts.length ≤ cap) (hc : ∀ j y, (ssFlat (C e) pos ts)[j]? = some y → W.cell? (a.add j) = some y) (hb : a.block < W.heap.size) (hi : ∀ t ∈ ts, InG (c := C e) (ci := C it) W t) : VW C W :=
  ⟨.ss e pos it ts, .slice (some a) ts.length cap, rfl, fun h hno => Rel.seeSs h hno hl hc hb hi⟩
theorem rel_vws : ∀ (l : List (VW C W)), ∃ ρ, Rel W ⟨fun _ => False, fun _ => True, ρ, l.length, fun g => g < W.heap.size⟩ ρ (numH 0 (l.map VW.so)) l.length W ∧ ∀ i v, l[i]? = some v → ρ i = some v.val := by
  intro l
  generalize hn : l.length = n
  induction n generalizing l with
  | zero =>
    obtain rfl := List.length_eq_zero_iff.1 hn
    exact ⟨fun _ => none, rel_none, fun i v h => by simp at h⟩
  | succ n ih =>
    obtain ⟨l0, v, rfl⟩ : ∃ l0 v, l = l0 ++ [v] := by
      have hne : l ≠ [] := by intro h; subst h; simp at hn
      exact ⟨l.dropLast, l.getLast hne, (List.dropLast_concat_getLast hne).symm⟩
    have hn0 : l0.length = n := by simpa using hn
    obtain ⟨ρ, hR, hv⟩ := ih l0 hn0
    have hno : ∀ i o, find i (numH 0 (l0.map (VW.so (C := C)))) = some o → o.owns = false := fun i o hi => by
      obtain ⟨_, h2⟩ := find_num hi
      rw [List.getElem?_map] at h2
      obtain ⟨x, _, rfl⟩ := Option.map_eq_some_iff.1 h2
      exact x.no
    have h1 := v.ok (X := ⟨fun _ => False, fun _ => True, ρ, n, fun g => g < W.heap.size⟩) hR hno
    refine ⟨ρ.add n v.val, (Rel.base h1).ext fun i => ?_, fun i u hu => ?_⟩
    · have e1 : find i ((n, v.so) :: numH 0 (l0.map (VW.so (C := C)))) = if i = n then some v.so else find i (numH 0 (l0.map (VW.so (C := C)))) := find_cons _ _ _ _
      have e2 : find i [(n, v.so)] = if i = n then some v.so else none := find_cons _ _ _ _
      rw [List.map_append, List.map_singleton, num_snoc, find_append, Nat.zero_add, List.length_map, hn0, e2]
      refine Eq.trans ?_ e1.symm
      by_cases hi : i = n
      · rw [if_pos hi, if_pos hi, num_none (by rw [List.length_map, hn0]; omega)]
      · rw [if_neg hi, if_neg hi]
        cases find i (numH 0 (l0.map (VW.so (C := C)))) <;> rfl
    · unfold Asg.add
      by_cases hi : i = n
      · subst hi
        rw [if_pos rfl]
        rw [List.getElem?_append_right (by omega), hn0, Nat.sub_self] at hu
        simp at hu; subst hu; rfl
      · rw [if_neg hi]
        have : i < l0.length := by
          have := (List.getElem?_eq_some_iff.1 hu).1
          simp at this; omega
        rw [List.getElem?_append_left this] at hu
        exact hv i u hu
/-- A call with slices and rows that were handed over. -/
theorem run_vws {g : Nat} {args : List SV} {vals : List Value} (l : List (VW C W)) (h : Fn0 P g args (l.map VW.so) (.raw (.bool true), [])) (hd : ∀ ρ : Asg, (∀ i v, l[i]? = some v → ρ i = some v.val) → denL ρ args = some vals) :
    Calls P g vals.toArray W fun e w' => e = .returned (.bool true) ∧ Below W.heap.size W w' := by
  obtain ⟨ρ, hR, hv⟩ := rel_vws l
  refine run_fn0 (ρ := ρ) h ?_ (hd ρ hv)
  rw [List.length_map]; exact hR
end
end Go.Sx
