/-
  The symbolic evaluator: regions, code, calls. Own work; nothing here is trusted.
-/
import Derived.Test.YtkhlmlcjedbkcaaSxOp
namespace Go.Sx
noncomputable section
open Go.RowKit

variable {C : Tab} {P : Program} {R : Type}

inductive Ex where
  | normal
  | exit (id : Nat)
  | ret
def exitOf : Ex → Exit
  | .normal => .normal
  | .exit i => .exit i
  | .ret => .ret

abbrev CallF (C : Tab) (R : Type) := Nat → List SV → Hp C → Nat → (SV → Hp C → Nat → R) → R
abbrev KC (C : Tab) (R : Type) := Ex → Tm → Hp C → Nat → R

/-! Values are laid bare before they are handed on; else they pile up. -/
def forceN (n : Nat) (k : Nat → R) : R := match n with
  | 0 => k 0
  | m + 1 => k (m + 1)
theorem forceN_eq (n : Nat) (k : Nat → R) : forceN n k = k n := by cases n <;> rfl
def forceW (v : Value) (k : Value → R) : R := match v with
  | .int d n => k (.int d n)
  | .bool b => k (.bool b)
  | .string b => k (.string b)
  | v => k v
theorem forceW_eq (v : Value) (k : Value → R) : forceW v k = k v := by cases v <;> rfl
def forceV1 (v : SV) (k : SV → R) : R := match v with
  | .raw v => forceW v fun v => k (.raw v)
  | .h i => forceN i fun i => k (.h i)
  | .vs i s b o l c => forceN i fun i => k (.vs i s b o l c)
  | .agg cs => k (.agg cs)
  | .tup cs => k (.tup cs)
  | v => k v
theorem forceV1_eq (v : SV) (k : SV → R) : forceV1 v k = k v := by cases v <;> simp only [forceV1, forceW_eq, forceN_eq]
def forceL1 (l : List SV) (k : List SV → R) : R :=
  List.rec (motive := fun _ => (List SV → R) → R) (fun k => k []) (fun v _ ih k => forceV1 v fun v => ih fun r => k (v :: r)) l k
theorem forceL1_eq : ∀ (l : List SV) (k : List SV → R), forceL1 l k = k l
  | [], k => rfl
  | v :: r, k => by
    show forceV1 v (fun v => forceL1 r fun r => k (v :: r)) = _
    rw [forceV1_eq v, forceL1_eq r]
def forceV (v : SV) (k : SV → R) : R := match v with
  | .raw v => forceW v fun v => k (.raw v)
  | .h i => forceN i fun i => k (.h i)
  | .vs i s b o l c => forceN i fun i => k (.vs i s b o l c)
  | .agg cs => forceL1 cs fun cs => k (.agg cs)
  | .tup cs => forceL1 cs fun cs => k (.tup cs)
  | v => k v
theorem forceV_eq (v : SV) (k : SV → R) : forceV v k = k v := by cases v <;> simp only [forceV, forceW_eq, forceN_eq, forceL1_eq]

def putT (A : Ans R) (N : Nat) (d : Option Tmp) (v : SV) (tm : Tm) (k : Tm → R) : R := match d with
  | none => k tm
  | some t => match Nat.blt t N with
    | true => forceV v fun v => k ((t, v) :: tm)
    | false => A.bad

def consAll (r hp : Hp C) (k : Hp C → R) : R :=
  List.rec (motive := fun _ => (Hp C → R) → R) (fun k => k hp) (fun x _ ih k => ih fun h => k (x :: h)) r k
theorem consAll_eq : ∀ (r hp : Hp C) (k : Hp C → R), consAll r hp k = k (r ++ hp)
  | [], _, _ => rfl
  | x :: r, hp, k => by
    show consAll r hp (fun h => k (x :: h)) = _
    rw [consAll_eq r]; rfl

def calOf : SV → Option (Nat × List SV)
  | .fn g cap => some (g, cap)
  | .raw (.func (.func g) a c) => match a.toList, c.toList with
    | [], [] => some (g, [])
    | _, _ => none
  | _ => none
theorem calOf_spec {ρ : Asg} {x : SV} {g : Nat} {cap : List SV} {v : Value} (h : calOf x = some (g, cap)) (hd : den ρ x = some v) : ∃ cv, denL ρ cap = some cv ∧ v = .func (.func g) #[] cv.toArray := by
  unfold calOf at h
  split at h
  · cases h
    simp only [den, Option.map_eq_some_iff] at hd
    obtain ⟨cv, h1, h2⟩ := hd
    exact ⟨cv, h1, h2.symm⟩
  · rename_i g' a c
    split at h
    · rename_i ha hc
      cases h
      simp only [den, Option.some.injEq] at hd; subst hd
      refine ⟨[], rfl, ?_⟩
      cases a; cases c
      simp only at ha hc
      rw [ha, hc]
    · cases h
  · cases h
def calleeOf (tm : Tm) : Op → Option (Nat × List SV)
  | .call c => match c.callee with
    | .value f => match evT tm f with
      | some x => calOf x
      | none => none
    | _ => none
  | _ => none

/-- A function without a body that tells whether slices overlap. -/
def ovF (P : Program) (g : Nat) : Option TypeId := match P.funcs[g]? with
  | some fn => match fn.body with
    | some _ => none
    | none => match decide (fn.origin = "slices.overlaps") with
      | true => fn.params[0]?
      | false => none
  | none => none
def stepO (A : Ans R) (P : Program) (call : CallF C R) (o : Op) (tm : Tm) (hp : Hp C) (n : Nat) (k : SV → Hp C → Nat → R) : R :=
  match evTs tm (argsOf o) with
  | none => A.bad
  | some vs => match calleeOf tm o with
    | some (g, cap) => match ovF P g with
      | some t => match vs, cap with
        | [x, y], [] => (pOverlaps P (fun i => find i hp) t x y).run A fun r => consAll r.2 hp fun hp' => forceN (n + 4) fun n' => k r.1 hp' n'
        | _, _ => A.bad
      | none => call g (vs ++ cap) hp n k
    | none => (prim P (fun i => find i hp) n o vs).run A fun r => consAll r.2 hp fun hp' => forceN (n + 4) fun n' => k r.1 hp' n'

def gdst (all : List Oper) (j : Nat) : Option Tmp := match all[j]? with
  | some g => g.dst
  | none => none

def regionC (A : Ans R) (P : Program) (call : CallF C R) (N : Nat) (all : List Oper) (o : Oper) (ih : Tm → Hp C → Nat → R) (tm : Tm) (hp : Hp C) (n : Nat) : R :=
  match o.guard with
    | none => stepO A P call o.op tm hp n fun v hp n => putT A N o.dst v tm fun tm => ih tm hp n
    | some (j, want) => match gdst all j with
      | some t => match find t tm with
        | some (.raw (.bool b)) => A.br b
          (match want with
            | true => stepO A P call o.op ((t, .raw (.bool true)) :: tm) hp n fun v hp n => putT A N o.dst v ((t, .raw (.bool true)) :: tm) fun tm => ih tm hp n
            | false => putT A N o.dst (.raw undef) ((t, .raw (.bool true)) :: tm) fun tm => ih tm hp n)
          (match want with
            | false => stepO A P call o.op ((t, .raw (.bool false)) :: tm) hp n fun v hp n => putT A N o.dst v ((t, .raw (.bool false)) :: tm) fun tm => ih tm hp n
            | true => putT A N o.dst (.raw undef) ((t, .raw (.bool false)) :: tm) fun tm => ih tm hp n)
        | some (.raw _) => putT A N o.dst (.raw undef) tm fun tm => ih tm hp n
        | _ => A.bad
      | none => A.bad
def regionS (A : Ans R) (P : Program) (call : CallF C R) (N : Nat) (all : List Oper) (l : List Oper) (tm : Tm) (hp : Hp C) (n : Nat) (k : Tm → Hp C → Nat → R) : R :=
  List.rec (motive := fun _ => Tm → Hp C → Nat → R) k (fun o _ ih => regionC A P call N all o ih) l tm hp n
theorem regionS_cons (A : Ans R) (P : Program) (call : CallF C R) (N : Nat) (all : List Oper) (o : Oper) (r : List Oper) (tm : Tm) (hp : Hp C) (n : Nat) (k : Tm → Hp C → Nat → R) :
    regionS A P call N all (o :: r) tm hp n k = regionC A P call N all o (fun tm hp n => regionS A P call N all r tm hp n k) tm hp n := rfl

/-- Numbers and entries are only added. -/
def Grow (n : Nat) (hp : Hp C) (n' : Nat) (hp' : Hp C) : Prop := n ≤ n' ∧ hp <:+ hp'
theorem Grow.refl (n : Nat) (hp : Hp C) : Grow n hp n hp := ⟨Nat.le_refl _, List.suffix_refl _⟩
theorem Grow.trans {n n' n'' : Nat} {hp hp' hp'' : Hp C} (h : Grow n hp n' hp') (g : Grow n' hp' n'' hp'') : Grow n hp n'' hp'' := ⟨Nat.le_trans h.1 g.1, h.2.trans g.2⟩

def CallPost (B : World) (X : Own) (ρ : Asg) (hp : Hp C) (n : Nat) (k : SV → Hp C → Nat → Prop) (e : Ending) (w : World) : Prop :=
  ∃ ρ' v sv hp' n', e = .returned v ∧ ρ.le ρ' ∧ Grow n hp n' hp' ∧ den ρ' sv = some v ∧ Rel B X ρ' hp' n' w ∧ k sv hp' n'

def CallOk (P : Program) (I : R → Prop) (call : CallF C R) : Prop :=
  ∀ g vs hp n k B X ρ w args, I (call g vs hp n k) → Rel B X ρ hp n w → denL ρ vs = some args →
    (∃ fn, P.funcs[g]? = some fn ∧ fn.body.isSome = true) ∧ Calls P g args.toArray w (CallPost B X ρ hp n fun sv hp n => I (k sv hp n))

/-- No function of the program bears the name of the one that is not entered. -/
structure Plain (P : Program) : Prop where
  nm : ∀ (g : Nat) (fn : Func), P.funcs[g]? = some fn → (fn.name == "runtime.NumGoroutine") = false
  ov : ∀ (g : Nat) (fn : Func), P.funcs[g]? = some fn → fn.body = none → fn.origin = "slices.overlaps" → Extern.findNext fn = none ∧ Extern.find fn = some (Extern.SlicesOverlaps.overlaps fn.params fn.resultTypes)

section sound
variable {B : World} {X : Own} {ρ : Asg} {hp : Hp C} {n : Nat} {w : World} {a : Act} {tm : Tm} {call : CallF C R} {A : Ans R} {I : R → Prop}

theorem TmOk.put (T : TmOk ρ tm a) {t : Tmp} {sv : SV} {v : Value} (hd : den ρ sv = some v) (ht : t < a.tmps.size) : TmOk ρ ((t, sv) :: tm) (a.put (some t) v) := fun u sw hu => by
  rw [find_cons] at hu
  simp only [Act.put, Array.getElem?_setIfInBounds]
  split at hu
  · rename_i e; subst e
    cases hu
    exact ⟨v, hd, by simp [ht]⟩
  · rename_i e
    obtain ⟨v', h1, h2⟩ := T u sw hu
    exact ⟨v', h1, by rw [if_neg (Ne.symm e)]; exact h2⟩

theorem TmOk.lit (T : TmOk ρ tm a) {t : Tmp} {b : Bool} {c : Bool} (ht : find t tm = some (.raw (.bool b))) (e : b = c) : TmOk ρ ((t, .raw (.bool c)) :: tm) a := fun u sw hu => by
  rw [find_cons] at hu
  split at hu
  · rename_i e'; subst e'; subst e
    cases hu
    obtain ⟨v, h1, h2⟩ := T _ _ ht
    exact ⟨v, h1, h2⟩
  · exact T u sw hu

theorem putT_sound (T : TmOk ρ tm a) {N : Nat} (hN : a.tmps.size = N) {d : Option Tmp} {sv : SV} {v : Value} {k : Tm → R} (no : AnsOk A I) (h : I (putT A N d sv tm k)) (hd : den ρ sv = some v) :
    ∃ tm', I (k tm') ∧ TmOk ρ tm' (a.put d v) := by
  cases d with
  | none => exact ⟨tm, h, T⟩
  | some t =>
    simp only [putT] at h
    cases hb : Nat.blt t N with
    | true =>
      rw [hb] at h
      simp only [forceV_eq] at h
      have hlt : t < N := Nat.le_of_ble_eq_true hb
      exact ⟨_, h, T.put hd (by rw [hN]; exact hlt)⟩
    | false => rw [hb] at h; exact (no.no h).elim

theorem put_size (a : Act) (d : Option Tmp) (v : Value) : (a.put d v).tmps.size = a.tmps.size := by
  cases d <;> simp [Act.put]
theorem put_defers (a : Act) (d : Option Tmp) (v : Value) : (a.put d v).defers = a.defers := by
  cases d <;> rfl

theorem stepO_sound (hp0 : Plain P) (no : AnsOk A I) (hc : CallOk P I call) (RR : Rel B X ρ hp n w) (T : TmOk ρ tm a) {o : Oper} {k : SV → Hp C → Nat → R} (h : I (stepO A P call o.op tm hp n k))
    {next : Act → World → Prop} {Q : Exit → Act → World → Prop}
    (hk : ∀ ρ' v sv hp' n' w', ρ.le ρ' → Grow n hp n' hp' → den ρ' sv = some v → Rel B X ρ' hp' n' w' → I (k sv hp' n') → next (a.put o.dst v) w') : o.wp P a w next Q := by
  unfold stepO at h
  split at h
  · exact (no.no h).elim
  · rename_i vs hvs
    have hd := evTs_spec T hvs
    split at h
    · rename_i g cap hcal
      unfold calleeOf at hcal
      split at hcal
      · rename_i c ho
        split at hcal
        · rename_i f hf
          split at hcal
          · rename_i x hfv
            obtain ⟨cv, hcv, hfe⟩ := calOf_spec hcal (evT_spec T hfv)
            have hfe := hfe.symm
            rw [ho] at hd
            simp only [argsOf] at hd
            have hargs := denL_append hd hcv
            split at h
            · rename_i t hov
              split at h
              · rename_i x1 y1
                obtain ⟨fn, hfn, hbody, horg, hpar⟩ : ∃ fn, P.funcs[g]? = some fn ∧ fn.body = none ∧ fn.origin = "slices.overlaps" ∧ fn.params[0]? = some t := by
                  unfold ovF at hov
                  split at hov
                  · rename_i fn hfn
                    split at hov
                    · cases hov
                    · rename_i hb
                      split at hov
                      · rename_i hd; exact ⟨fn, hfn, hb, of_decide_eq_true hd, hov⟩
                      · cases hov
                  · cases hov
                obtain ⟨x1', l1, hx1, hl1, e1⟩ := denL_cons.1 hd
                obtain ⟨y1', l2, hy1, hl2, e2⟩ := denL_cons.1 hl1
                rw [denL_nil.1 hl2] at e2; subst e2
                rw [denL_nil.1 hcv] at hfe
                obtain ⟨f1, f2⟩ := hp0.ov g fn hfn hbody horg
                obtain ⟨r, h1, h2⟩ := Tr.run_get no h
                rw [consAll_eq] at h2
                rw [forceN_eq] at h2
                obtain ⟨v, w', ρ', q1, q2, q3, q4⟩ := pOverlaps_sound (P := P) (tR := fn.resultTypes) RR hpar h1 hx1 hy1
                have hargs1 : c.args.map a.eval = #[x1', y1'] := by
                  apply Array.ext'; simpa using e1
                have hrun : (execOp a.eval o).run P w = .ok (.value v) w' := by
                  simp only [execOp, ho, resolve, hf, ← hfe, Deferred.ofValue, Array.empty_append, pure_bind, invoke]
                  have hx := run_callFunc_extern (P := P) (f := g) (fn := fn) hfn (hp0.nm g fn hfn) (by rw [hbody]; rfl) f1 f2 #[x1', y1'] w
                  rw [q1, Result.andThen_ok] at hx
                  simpa [hargs1] using hx
                unfold Oper.wp
                rw [hrun]
                exact hk ρ' v r.1 _ _ w' q2 ⟨by omega, _, rfl⟩ q3 q4 h2
              · exact (no.no h).elim
            obtain ⟨⟨fn, hfn, hbody⟩, hcalls⟩ := hc g _ hp n k B X ρ w _ h RR hargs
            have hb : fn.body.isNone = false := by cases hb : fn.body <;> simp_all
            have hrun : (execOp a.eval o).run P w = .ok (.enter g (c.args.toList.map a.eval ++ cv).toArray) w := by
              have e1 : (c.args.map a.eval ++ cv.toArray) = (c.args.toList.map a.eval ++ cv).toArray := by
                apply Array.ext'; simp
              simp only [execOp, ho, resolve, hf, ← hfe, Deferred.ofValue, Array.empty_append, pure_bind, invoke, callFunc, Sem.run_bind, run_program, Result.andThen_ok, hfn, hp0.nm g fn hfn, Bool.false_eq_true, if_false, hb, Sem.run_pure, e1]
            unfold Oper.wp
            rw [hrun, Oper.upon_enter]
            refine hcalls.mono ?_
            rintro e w' ⟨ρ', v, sv, hp', n', rfl, h1, h2, h3, h4, h5⟩
            exact hk ρ' v sv hp' n' w' h1 h2 h3 h4 h5
          · cases hcal
        · cases hcal
      · cases hcal
    · obtain ⟨r, h1, h2⟩ := Tr.run_get no h
      rw [consAll_eq] at h2
      rw [forceN_eq] at h2
      obtain ⟨nx, v, w', ρ', e1, e2, e3, e4, e5⟩ := prim_sound RR T hvs h1
      unfold Oper.wp
      rw [e1]
      rcases e2 with rfl | ⟨rfl, rfl⟩
      · exact hk ρ' v r.1 _ _ w' e3 ⟨by omega, _, rfl⟩ e4 e5 h2
      · exact hk ρ' undef r.1 _ _ w' e3 ⟨by omega, _, rfl⟩ e4 e5 h2

theorem yielded_of {all : List Oper} {j : Nat} {t : Tmp} {b : Bool} (T : TmOk ρ tm a) (hg : gdst all j = some t) (ht : find t tm = some (.raw (.bool b))) : yielded all.toArray a.tmps j = some b := by
  obtain ⟨v, h1, h2⟩ := T _ _ ht
  simp [den] at h1; subst h1
  unfold gdst at hg
  split at hg
  · rename_i g hj
    simp [yielded, hj, hg, h2]
  · cases hg

theorem yielded_no {all : List Oper} {j : Nat} {t : Tmp} {u : Value} (T : TmOk ρ tm a) (hg : gdst all j = some t) (ht : find t tm = some (.raw u)) (hu : ∀ b, u ≠ .bool b) : yielded all.toArray a.tmps j = none := by
  obtain ⟨v, h1, h2⟩ := T _ _ ht
  simp [den] at h1; subst h1
  unfold gdst at hg
  split at hg
  · rename_i g hj
    cases u <;> first | (exact absurd rfl (hu _)) | simp [yielded, hj, hg, h2]
  · cases hg

theorem regionS_sound (hp0 : Plain P) (no : AnsOk A I) (hc : CallOk P I call) {N : Nat} {all : List Oper} {Q : Exit → Act → World → Prop} : ∀ (l : List Oper) {tm : Tm} {hp : Hp C} {n : Nat} {k : Tm → Hp C → Nat → R} {ρ : Asg} {a : Act} {w : World},
    I (regionS A P call N all l tm hp n k) → a.tmps.size = N → Rel B X ρ hp n w → TmOk ρ tm a →
    (∀ ρ' tm' hp' n' a' w', ρ.le ρ' → Grow n hp n' hp' → a'.tmps.size = N → a'.defers = a.defers → Rel B X ρ' hp' n' w' → TmOk ρ' tm' a' → I (k tm' hp' n') → Q .normal a' w') → wpList P all.toArray Q l a w
  | [], tm, hp, n, k, ρ, a, w, h, hN, RR, T, hk => hk ρ tm hp n a w (Asg.le_refl _) (Grow.refl _ _) hN rfl RR T h
  | o :: r, tm, hp, n, k, ρ, a, w, h, hN, RR, T, hk => by
    have go : ∀ {tm : Tm}, TmOk ρ tm a → I (stepO A P call o.op tm hp n fun v hp n => putT A N o.dst v tm fun tm => regionS A P call N all r tm hp n k) → o.wp P a w (wpList P all.toArray Q r) Q := fun {tm} T h =>
      stepO_sound hp0 no hc RR T h fun ρ' v sv hp' n' w' h1 h2 h3 h4 h5 => by
        obtain ⟨tm', h6, h7⟩ := putT_sound (T.mono h1) hN no h5 h3
        exact regionS_sound hp0 no hc r h6 (by rw [put_size]; exact hN) h4 h7 fun ρ'' tm'' hp'' n'' a'' w'' g1 g2 g3 g4 g5 g6 g7 => hk ρ'' tm'' hp'' n'' a'' w'' (Asg.le_trans h1 g1) (h2.trans g2) g3 (by rw [g4, put_defers]) g5 g6 g7
    have skip : ∀ {tm : Tm}, TmOk ρ tm a → I (putT A N o.dst (.raw undef) tm fun tm => regionS A P call N all r tm hp n k) → wpList P all.toArray Q r (a.put o.dst undef) w := fun {tm} T h => by
      obtain ⟨tm', h6, h7⟩ := putT_sound (v := undef) T hN no h rfl
      exact regionS_sound hp0 no hc r h6 (by rw [put_size]; exact hN) RR h7 fun ρ'' tm'' hp'' n'' a'' w'' g1 g2 g3 g4 g5 g6 g7 => hk ρ'' tm'' hp'' n'' a'' w'' g1 g2 g3 (by rw [g4, put_defers]) g5 g6 g7
    rw [regionS_cons] at h
    unfold regionC at h
    unfold wpList
    split at h
    · rename_i hg
      rw [if_pos (by simp [Region.wanted, hg])]
      exact .inl (go T h)
    · rename_i j want hg
      split at h
      · rename_i t ht
        split at h
        · rename_i b hb
          have hy := yielded_of T ht hb
          have h := no.br _ _ _ h
          cases b with
          | false =>
            have h := h.2 rfl
            have T' := T.lit hb rfl
            cases want with
            | false => rw [if_pos (by simp [Region.wanted, hg, hy])]; exact .inl (go T' h)
            | true => rw [if_neg (by simp [Region.wanted, hg, hy])]; exact skip T' h
          | true =>
            have h := h.1 rfl
            have T' := T.lit hb rfl
            cases want with
            | true => rw [if_pos (by simp [Region.wanted, hg, hy])]; exact .inl (go T' h)
            | false => rw [if_neg (by simp [Region.wanted, hg, hy])]; exact skip T' h
        · rename_i u hnb hb
          have hy := yielded_no T ht hb fun b e => by subst e; exact hnb b rfl
          rw [if_neg (by simp [Region.wanted, hg, hy])]; exact skip T h
        · exact (no.no h).elim
      · exact (no.no h).elim
end sound
end
end Go.Sx
