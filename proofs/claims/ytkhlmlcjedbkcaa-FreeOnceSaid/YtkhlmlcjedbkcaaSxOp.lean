/-
  The symbolic evaluator: one operation, whichever it is. Own work; nothing here is trusted.
-/
import Derived.Test.YtkhlmlcjedbkcaaSxMv
import Derived.Test.YtkhlmlcjedbkcaaSxStr
namespace Go.Sx
noncomputable section
open Go.RowKit

variable {C : Tab} {P : Program}

abbrev Tm := List (Nat × SV)

def evT (tm : Tm) : Operand → Option SV
  | .tmp t => find t tm
  | .const v => some (.raw v)
  | .func f => some (.raw (.func (.func f) #[] #[]))
  | .global _ => none
def evTs (tm : Tm) : List Operand → Option (List SV)
  | [] => some []
  | o :: r => match evT tm o with
    | some v => match evTs tm r with
      | some l => some (v :: l)
      | none => none
    | none => none

def TmOk (ρ : Asg) (tm : Tm) (a : Act) : Prop := ∀ t sv, find t tm = some sv → ∃ v, den ρ sv = some v ∧ a.tmps[t]? = some v

theorem TmOk.mono {ρ ρ' : Asg} {tm : Tm} {a : Act} (h : TmOk ρ tm a) (hρ : ρ.le ρ') : TmOk ρ' tm a := fun t sv ht => by
  obtain ⟨v, h1, h2⟩ := h t sv ht
  exact ⟨v, den_mono hρ _ _ h1, h2⟩

theorem evT_spec {ρ : Asg} {tm : Tm} {a : Act} (h : TmOk ρ tm a) {o : Operand} {sv : SV} (he : evT tm o = some sv) : den ρ sv = some (a.eval o) := by
  cases o with
  | tmp t =>
    obtain ⟨v, h1, h2⟩ := h t sv he
    simp [Act.eval, h1, h2]
  | const v => simp [evT] at he; subst he; rfl
  | func f => simp [evT] at he; subst he; rfl
  | global g => simp [evT] at he

theorem evTs_spec {ρ : Asg} {tm : Tm} {a : Act} (h : TmOk ρ tm a) : ∀ {os : List Operand} {vs : List SV}, evTs tm os = some vs → denL ρ vs = some (os.map a.eval)
  | [], vs, he => by simp [evTs] at he; subst he; rfl
  | o :: r, vs, he => by
    unfold evTs at he
    split at he
    · rename_i v hv
      split at he
      · rename_i l hl
        cases he
        exact denL_cons.2 ⟨_, _, evT_spec h hv, evTs_spec h hl, rfl⟩
      · cases he
    · cases he

def argsOf : Op → List Operand
  | .move x | .assign x | .box _ x | .load _ x | .unOp _ _ x | .convert _ _ x | .sliceToArrayPointer _ x | .fieldAddr _ x _ | .field _ x _ | .extract x _ | .nilCheck x => [x]
  | .pick c a b => [c, a, b]
  | .build _ ps | .buildSlice _ _ ps => ps.toList.map (·.2)
  | .store _ a v | .binOp _ _ a v _ | .makeSlice _ a v | .indexAddr _ a v | .index _ a v => [a, v]
  | .makeFunc _ _ cap => cap.toList
  | .lookup _ x i _ => [x, i]
  | .mapUpdate _ m k v | .insert _ m k v => [m, k, v]
  | .slice _ x l h m => x :: (l.toList ++ h.toList ++ m.toList)
  | .call c => c.args.toList
  | _ => []

def lift (t : Tr SV) : Tr (Res C) := t.bind fun v => .leaf (v, [])

theorem lift_get {t : Tr SV} {r : Res C} (h : (lift t).get = some r) : t.get = some r.1 ∧ r.2 = [] := by
  obtain ⟨v, h1, h2⟩ := Tr.get_bind h
  simp only [Tr.get, Option.some.injEq] at h2; subst h2
  exact ⟨h1, rfl⟩

def pNil (look : Nat → Option (SO C)) (x : SV) : Tr SV := match x with
  | .h id => match look id with
    | some (.box _ _) => .leaf x
    | _ => .fail
  | .ep _ _ => .leaf x
  | .el _ _ _ _ => .leaf x
  | .fn _ _ => .leaf x
  | .raw (.func (.func _) a _) => match a.toList with
    | [] => .leaf x
    | _ => .fail
  | _ => .fail

def pBuiltin (P : Program) (look : Nat → Option (SO C)) (n : Nat) (b : Builtin) (ts : List TypeId) (vs : List SV) : Tr (Res C) := match b with
  | .len => match ts, vs with
    | [t], [x] => lift (pLen P look t x)
    | _, _ => .fail
  | .min => match vs with
    | [x, y] => lift (pMin x y)
    | _ => .fail
  | .max => match vs with
    | [x, y] => lift (pMax x y)
    | _ => .fail
  | .append => match ts, vs with
    | [t, t'], [s, x] => pAppend P look n t t' s x
    | _, _ => .fail
  | .copy => match ts, vs with
    | [t, _], [d, x] => pCopy P look t d x
    | _, _ => .fail
  | .clear => match ts, vs with
    | [t], [d] => pClear P look t d
    | _, _ => .fail
  | .cap => match ts, vs with
    | [t], [x] => lift (pCap P look t x)
    | _, _ => .fail
  | _ => .fail

def prim (P : Program) (look : Nat → Option (SO C)) (n : Nat) (o : Op) (vs : List SV) : Tr (Res C) := match o with
  | .move _ | .assign _ => match vs with
    | [x] => .leaf (x, [])
    | _ => .fail
  | .pick _ _ _ => match vs with
    | [c, a, b] => lift (pPick c a b)
    | _ => .fail
  | .alloc t => pAlloc P n t
  | .box t _ => match vs with
    | [x] => pBox n t x
    | _ => .fail
  | .build t ps => lift (pBuild P t (ps.toList.map (·.1)) vs)
  | .buildSlice t len ps => pBuildSlice P n t len (ps.toList.map (·.1)) vs
  | .load t _ => match vs with
    | [a] => pLoad P look t a
    | _ => .fail
  | .store t _ _ => match vs with
    | [a, x] => pStore P look t a x
    | _ => .fail
  | .nilCheck _ => match vs with
    | [x] => lift (pNil look x)
    | _ => .fail
  | .binOp op t _ _ _ => match vs with
    | [x, y] => lift (pBin P look op t x y)
    | _ => .fail
  | .unOp op _ _ => match vs with
    | [x] => lift (pUn op x)
    | _ => .fail
  | .convert s t _ => match vs with
    | [x] => lift (pConvM P look s t x)
    | _ => .fail
  | .sliceToArrayPointer t _ => match vs with
    | [x] => lift (pArrAt P look t x)
    | _ => .fail
  | .makeFunc fn first _ => match fn, first.size with
    | .func f, 0 => .leaf (.fn f vs, [])
    | _, _ => .fail
  | .makeSlice t _ _ => match vs with
    | [l, c] => pMakeSlice P n t l c
    | _ => .fail
  | .slice t _ lo hi mx => match vs with
    | x :: bs => pSlice P look n t lo.isSome hi.isSome mx.isSome x bs
    | [] => .fail
  | .fieldAddr t _ f => match vs with
    | [x] => lift (pFieldAddr P look t x f)
    | _ => .fail
  | .field t _ f => match vs with
    | [x] => lift (pField P t x f)
    | _ => .fail
  | .indexAddr t _ _ => match vs with
    | [x, i] => lift (pIndexAddr P look t x i)
    | _ => .fail
  | .index t _ _ => match vs with
    | [x, i] => lift (pIndex P t x i)
    | _ => .fail
  | .extract _ i => match vs with
    | [x] => lift (pExtract x i)
    | _ => .fail
  | .makeMap t rs => match rs with
    | none => pMake P n t
    | some _ => .fail
  | .lookup t _ _ ok => match vs with
    | [x, i] => pLook P look t x i ok
    | _ => .fail
  | .mapUpdate t _ _ _ => match vs with
    | [x, i, v] => pUpdate P look t x i v
    | _ => .fail
  | .insert t _ _ _ => match vs with
    | [x, i, v] => pUpdate P look t x i v
    | _ => .fail
  | .call c => match c.callee with
    | .builtin b => pBuiltin P look n b c.argTypes.toList vs
    | _ => .fail
  | _ => .fail

section sound
variable {B : World} {X : Own} {ρ : Asg} {hp : Hp C} {n : Nat} {w : World} {a : Act} {tm : Tm}

/-- An operation's answer. -/
def OpOk (P : Program) (B : World) (X : Own) (ρ : Asg) (hp : Hp C) (n : Nat) (w : World) (s : Sem Next) (r : Res C) : Prop :=
  ∃ nx v w' ρ', s.run P w = .ok nx w' ∧ (nx = .value v ∨ (nx = .skip ∧ v = undef)) ∧ ρ.le ρ' ∧ den ρ' r.1 = some v ∧ Rel B X ρ' (r.2 ++ hp) (n + 4) w'

theorem OpOk.ofPure (R : Rel B X ρ hp n w) {s : Sem Value} {r : Res C} (h : PureOk P ρ w s r.1) (hr : r.2 = []) : OpOk P B X ρ hp n w (do pure (.value (← s))) r := by
  obtain ⟨u, h1, h2⟩ := h
  exact ⟨.value u, u, w, ρ, by simp [h1], .inl rfl, Asg.le_refl _, h2, by rw [hr]; exact Rel.shift R (by omega)⟩

theorem OpOk.ofNew {s : Sem Value} {r : Res C} (h : NewOk P B X ρ hp n w s r) : OpOk P B X ρ hp n w (do pure (.value (← s))) r := by
  obtain ⟨v, w', ρ', h1, h2, h3, h4⟩ := h
  exact ⟨.value v, v, w', ρ', by simp [h1], .inl rfl, h2, h3, h4⟩

theorem pNil_sound (R : Rel B X ρ hp n w) {x r : SV} {v : Value} (h : (pNil (fun i => find i hp) x).get = some r) (hx : den ρ x = some v) : r = x ∧ ((∃ b, v = .pointer (some b)) ∨ ∃ f c, v = .func (.func f) #[] c) := by
  unfold pNil at h
  split at h
  · split at h
    · rename_i hid
      simp only [Tr.get, Option.some.injEq] at h; subst h
      obtain ⟨v', hv', g, vs, rfl, _⟩ := R.obj _ _ hid
      simp only [den] at hx; rw [hx] at hv'; cases hv'
      exact ⟨rfl, .inl ⟨_, rfl⟩⟩
    · simp [Tr.get] at h
  · simp only [Tr.get, Option.some.injEq] at h; subst h
    simp only [den, Option.bind_eq_some_iff, Option.map_eq_some_iff] at hx
    obtain ⟨_, _, b, _, rfl⟩ := hx
    exact ⟨rfl, .inl ⟨_, rfl⟩⟩
  · simp only [Tr.get, Option.some.injEq] at h; subst h
    simp only [den, Option.bind_eq_some_iff, Option.map_eq_some_iff] at hx
    obtain ⟨_, _, b, _, rfl⟩ := hx
    exact ⟨rfl, .inl ⟨_, rfl⟩⟩
  · simp only [Tr.get, Option.some.injEq] at h; subst h
    simp only [den, Option.map_eq_some_iff] at hx
    obtain ⟨_, _, rfl⟩ := hx
    exact ⟨rfl, .inr ⟨_, _, rfl⟩⟩
  · split at h
    · rename_i ha
      simp only [Tr.get, Option.some.injEq] at h; subst h
      simp [den] at hx; subst hx
      simp at ha
      subst ha
      exact ⟨rfl, .inr ⟨_, _, rfl⟩⟩
    · simp [Tr.get] at h
  · simp [Tr.get] at h

theorem slice_bnds {ρ : Asg} {f : Operand → Value} {l h m : Option Operand} {bs : List SV} (hd : denL ρ bs = some ((l.toList ++ h.toList ++ m.toList).map f)) :
    ∀ a b c, bnds l.isSome h.isSome m.isSome bs = some (a, b, c) → bndV ρ a (l.map f) ∧ bndV ρ b (h.map f) ∧ bndV ρ c (m.map f) := by
  intro a b c hb
  cases l <;> cases h <;> cases m <;> simp only [Option.isSome_none, Option.isSome_some, Option.toList_none, Option.toList_some, List.nil_append, List.append_nil, List.cons_append, List.map_cons, List.map_nil] at hb hd
  all_goals
    rcases bs with _ | ⟨x, _ | ⟨y, _ | ⟨z, _ | ⟨q, bs⟩⟩⟩⟩ <;> simp only [bnds] at hb <;> first
      | (cases hb; done)
      | skip
  all_goals
    simp only [Option.some.injEq, Prod.mk.injEq] at hb
    obtain ⟨rfl, rfl, rfl⟩ := hb
    simp only [denL_cons, denL_nil] at hd
    first
      | exact ⟨trivial, trivial, trivial⟩
      | (obtain ⟨_, _, h1, rfl, e⟩ := hd; cases e; exact ⟨h1, trivial, trivial⟩)
      | (obtain ⟨_, _, h1, rfl, e⟩ := hd; cases e; exact ⟨trivial, h1, trivial⟩)
      | (obtain ⟨_, _, h1, ⟨_, _, h2, rfl, rfl⟩, e⟩ := hd; cases e; exact ⟨h1, h2, trivial⟩)
      | (obtain ⟨_, _, h1, ⟨_, _, h2, rfl, rfl⟩, e⟩ := hd; cases e; exact ⟨trivial, h1, h2⟩)
      | (obtain ⟨_, _, h1, ⟨_, _, h2, ⟨_, _, h3, rfl, rfl⟩, rfl⟩, e⟩ := hd; cases e; exact ⟨h1, h2, h3⟩)

theorem one_of {vs : List SV} {x : SV} {o : Operand} (hd : denL ρ vs = some ([o].map a.eval)) (e : vs = [x]) : den ρ x = some (a.eval o) := by
  subst e
  obtain ⟨_, _, h1, h2, h3⟩ := denL_cons.1 hd
  simp only [List.map_cons, List.map_nil, List.cons.injEq] at h3
  rw [h3.1]; exact h1
theorem two_of {vs : List SV} {x y : SV} {o p : Operand} (hd : denL ρ vs = some ([o, p].map a.eval)) (e : vs = [x, y]) : den ρ x = some (a.eval o) ∧ den ρ y = some (a.eval p) := by
  subst e
  obtain ⟨_, _, h1, h2, h3⟩ := denL_cons.1 hd
  obtain ⟨_, _, h4, h5, h6⟩ := denL_cons.1 h2
  subst h6
  simp only [List.map_cons, List.map_nil, List.cons.injEq] at h3
  rw [h3.1, h3.2.1]; exact ⟨h1, h4⟩
theorem three_of {vs : List SV} {x y z : SV} {o p q : Operand} (hd : denL ρ vs = some ([o, p, q].map a.eval)) (e : vs = [x, y, z]) : den ρ x = some (a.eval o) ∧ den ρ y = some (a.eval p) ∧ den ρ z = some (a.eval q) := by
  subst e
  obtain ⟨_, _, h1, h2, h3⟩ := denL_cons.1 hd
  obtain ⟨_, _, h4, h5, h6⟩ := denL_cons.1 h2
  obtain ⟨_, _, h7, h8, h9⟩ := denL_cons.1 h5
  subst h9; subst h6
  simp only [List.map_cons, List.map_nil, List.cons.injEq] at h3
  rw [h3.1, h3.2.1, h3.2.2.1]; exact ⟨h1, h4, h7⟩

theorem pBuiltin_sound (R : Rel B X ρ hp n w) {b : Builtin} {c : Call} {vs : List SV} {r : Res C} (hc : c.callee = .builtin b) (h : (pBuiltin P (fun i => find i hp) n b c.argTypes.toList vs).get = some r) (hd : denL ρ vs = some (c.args.toList.map a.eval)) (ty : TypeId) :
    OpOk P B X ρ hp n w (do let d ← resolve a.eval c ty; invoke d.target d.args) r := by
  have hargs : ∀ {l : List Value}, denL ρ vs = some l → c.args.map a.eval = l.toArray := fun {l} h => by
    rw [hd] at h; cases h
    apply Array.ext'; simp
  have hts : ∀ {l : List TypeId}, c.argTypes.toList = l → c.argTypes = l.toArray := fun h => by subst h; simp
  have fin : ∀ {s : Sem Value}, OpOk P B X ρ hp n w (do pure (.value (← s))) r → builtin b c.argTypes ty (c.args.map fun | .const _ => true | _ => false) (c.args.map a.eval) = (do pure (.value (← s))) → OpOk P B X ρ hp n w (do let d ← resolve a.eval c ty; invoke d.target d.args) r := fun {s} ho he => by
    have : (do let d ← resolve a.eval c ty; invoke d.target d.args : Sem Next) = (do pure (.value (← s))) := by
      rw [← he]
      simp only [resolve, hc, pure_bind, invoke]
      rfl
    rw [this]; exact ho
  unfold pBuiltin at h
  split at h
  · split at h
    · rename_i t x hts'
      obtain ⟨h1, h2⟩ := lift_get h
      obtain ⟨vx, l, hx, hl, e⟩ := denL_cons.1 hd
      rw [denL_nil.1 hl] at e
      refine fin (OpOk.ofPure R (pLen_sound R (ty := ty) h1 hx) h2) ?_
      rw [hts hts', hargs (denL_one hx)]; rfl
    · simp [Tr.get] at h
  · split at h
    · rename_i x y
      obtain ⟨h1, h2⟩ := lift_get h
      obtain ⟨vx, l, hx, hl, e⟩ := denL_cons.1 hd
      obtain ⟨vy, l', hy, hl', e'⟩ := denL_cons.1 hl
      rw [denL_nil.1 hl'] at e'; subst e'
      refine fin (OpOk.ofPure R (pMin_sound h1 hx hy c.argTypes ty) h2) ?_
      rw [hargs (denL_cons.2 ⟨vx, _, hx, hl, rfl⟩)]; rfl
    · simp [Tr.get] at h
  · split at h
    · rename_i x y
      obtain ⟨h1, h2⟩ := lift_get h
      obtain ⟨vx, l, hx, hl, e⟩ := denL_cons.1 hd
      obtain ⟨vy, l', hy, hl', e'⟩ := denL_cons.1 hl
      rw [denL_nil.1 hl'] at e'; subst e'
      refine fin (OpOk.ofPure R (pMax_sound h1 hx hy c.argTypes ty) h2) ?_
      rw [hargs (denL_cons.2 ⟨vx, _, hx, hl, rfl⟩)]; rfl
    · simp [Tr.get] at h
  · split at h
    · rename_i t t' s x hts'
      obtain ⟨vx, l, hx, hl, e⟩ := denL_cons.1 hd
      obtain ⟨vy, l', hy, hl', e'⟩ := denL_cons.1 hl
      rw [denL_nil.1 hl'] at e'; subst e'
      refine fin (OpOk.ofNew (pAppend_sound R (ty := ty) h hx hy)) ?_
      rw [hts hts', hargs (denL_cons.2 ⟨vx, _, hx, hl, rfl⟩)]; rfl
    · simp [Tr.get] at h
  · split at h
    · rename_i t t' s x hts'
      obtain ⟨vx, l, hx, hl, e⟩ := denL_cons.1 hd
      obtain ⟨vy, l', hy, hl', e'⟩ := denL_cons.1 hl
      rw [denL_nil.1 hl'] at e'; subst e'
      refine fin (OpOk.ofNew (pCopy_sound R (t' := t') (ty := ty) h hx hy)) ?_
      rw [hts hts', hargs (denL_cons.2 ⟨vx, _, hx, hl, rfl⟩)]; rfl
    · simp [Tr.get] at h
  · split at h
    · rename_i t x hts'
      obtain ⟨vx, l, hx, hl, e⟩ := denL_cons.1 hd
      rw [denL_nil.1 hl] at e
      refine fin (OpOk.ofNew (pClear_sound R (ty := ty) h hx)) ?_
      rw [hts hts', hargs (denL_one hx)]; rfl
    · simp [Tr.get] at h
  · split at h
    · rename_i t x hts'
      obtain ⟨h1, h2⟩ := lift_get h
      obtain ⟨vx, l, hx, hl, e⟩ := denL_cons.1 hd
      rw [denL_nil.1 hl] at e
      refine fin (OpOk.ofPure R (pCap_sound R (ty := ty) h1 hx) h2) ?_
      rw [hts hts', hargs (denL_one hx)]; rfl
    · simp [Tr.get] at h
  · simp [Tr.get] at h

theorem prim_sound (R : Rel B X ρ hp n w) (T : TmOk ρ tm a) {o : Oper} {vs : List SV} {r : Res C} (hv : evTs tm (argsOf o.op) = some vs) (h : (prim P (fun i => find i hp) n o.op vs).get = some r) :
    OpOk P B X ρ hp n w (execOp a.eval o) r := by
  have hd := evTs_spec T hv
  have tac : ∀ {x : SV} {v : Value}, den ρ x = some v → r = (x, []) → ∀ s : Sem Next, s = pure (.value v) → OpOk P B X ρ hp n w s r := fun {x v} hx hr s hs => by
    subst hr; subst hs
    exact ⟨.value v, v, w, ρ, rfl, .inl rfl, Asg.le_refl _, hx, Rel.shift R (by omega)⟩
  unfold prim at h
  unfold execOp
  split at h <;> rename_i ho <;> simp only [ho, argsOf] at hd ⊢
  -- move, assign
  iterate 2
    · split at h
      · rename_i x
        simp only [Tr.get, Option.some.injEq] at h; subst h
        exact tac (one_of hd rfl) rfl _ rfl
      · simp [Tr.get] at h
  -- pick
  · split at h
    · rename_i c x y
      obtain ⟨h1, h2⟩ := lift_get h
      obtain ⟨d1, d2, d3⟩ := three_of hd rfl
      obtain ⟨q, e1, e2⟩ := pPick_sound h1 d1 d2 d3
      refine ⟨_, _, w, ρ, ?_, .inl rfl, Asg.le_refl _, e2, by rw [h2]; exact Rel.shift R (by omega)⟩
      simp [e1, asBool]
    · simp [Tr.get] at h
  -- alloc
  · exact OpOk.ofNew (pAlloc_sound R h)
  -- box
  · split at h
    · exact OpOk.ofNew (pBox_sound R h (one_of hd rfl))
    · simp [Tr.get] at h
  -- build
  · rename_i t ps
    obtain ⟨h1, h2⟩ := lift_get h
    refine OpOk.ofPure R ?_ h2
    have := pBuild_sound R (pv := ps.toList.map fun (x : Nat × Operand) => (x.1, a.eval x.2)) h1 (by simp) (by rw [hd]; simp)
    have e : (ps.map fun (x : Nat × Operand) => (x.1, a.eval x.2)) = (ps.toList.map fun (x : Nat × Operand) => (x.1, a.eval x.2)).toArray := by
      apply Array.ext'; simp
    rw [← e] at this
    exact this
  -- buildSlice
  · rename_i t len ps
    refine OpOk.ofNew ?_
    have := pBuildSlice_sound R (pv := ps.toList.map fun (x : Nat × Operand) => (x.1, a.eval x.2)) h (by simp) (by rw [hd]; simp)
    have e : (ps.map fun (x : Nat × Operand) => (x.1, a.eval x.2)) = (ps.toList.map fun (x : Nat × Operand) => (x.1, a.eval x.2)).toArray := by
      apply Array.ext'; simp
    rw [← e] at this
    exact this
  -- load
  · split at h
    · obtain ⟨u, h1, h2, h3⟩ := pLoad_sound R h (one_of hd rfl)
      exact OpOk.ofPure R ⟨u, h1, h2⟩ h3
    · simp [Tr.get] at h
  -- store
  · split at h
    · obtain ⟨d1, d2⟩ := two_of hd rfl
      obtain ⟨h1, w', h2, h3⟩ := pStore_sound R h d1 d2
      exact ⟨.skip, undef, w', ρ, by simp [h2], .inr ⟨rfl, rfl⟩, Asg.le_refl _, by rw [h1]; rfl, Rel.shift h3 (by omega)⟩
    · simp [Tr.get] at h
  -- nilCheck
  · split at h
    · rename_i x
      obtain ⟨h1, h2⟩ := lift_get h
      have hx := one_of hd rfl
      obtain ⟨e1, e2⟩ := pNil_sound R h1 hx
      refine ⟨.value _, _, w, ρ, ?_, .inl rfl, Asg.le_refl _, by rw [e1]; exact hx, by rw [h2]; exact Rel.shift R (by omega)⟩
      rcases e2 with ⟨b, e⟩ | ⟨f, c, e⟩ <;> rw [e] <;> rfl
    · simp [Tr.get] at h
  -- binOp
  · split at h
    · obtain ⟨h1, h2⟩ := lift_get h
      obtain ⟨d1, d2⟩ := two_of hd rfl
      exact OpOk.ofPure R (pBin_sound R _ _ h1 d1 d2) h2
    · simp [Tr.get] at h
  -- unOp
  · split at h
    · obtain ⟨h1, h2⟩ := lift_get h
      exact OpOk.ofPure R (pUn_sound h1 (one_of hd rfl)) h2
    · simp [Tr.get] at h
  -- convert
  · split at h
    · obtain ⟨h1, h2⟩ := lift_get h
      exact OpOk.ofPure R (pConvM_sound R h1 (one_of hd rfl)) h2
    · simp [Tr.get] at h
  -- sliceToArrayPointer
  · split at h
    · obtain ⟨h1, h2⟩ := lift_get h
      exact OpOk.ofPure R (pArrAt_sound R h1 (one_of hd rfl)) h2
    · simp [Tr.get] at h
  -- makeFunc
  · split at h
    · rename_i f hf
      simp only [Tr.get, Option.some.injEq] at h; subst h
      have he : ∀ first : Array Operand, first.size = 0 → first = #[] := fun first h => Array.eq_empty_of_size_eq_zero h
      refine ⟨.value _, _, w, ρ, rfl, .inl rfl, Asg.le_refl _, ?_, Rel.shift R (by omega)⟩
      rw [he _ hf]
      simp only [den, hd, Option.map_some]
      simp [← List.map_toArray]
    · simp [Tr.get] at h
  -- makeSlice
  · split at h
    · obtain ⟨d1, d2⟩ := two_of hd rfl
      exact OpOk.ofNew (pMakeSlice_sound R h d1 d2)
    · simp [Tr.get] at h
  -- slice
  · split at h
    · rename_i x bs
      obtain ⟨vx, l, hx, hl, e⟩ := denL_cons.1 hd
      simp only [List.map_cons, List.cons.injEq] at e
      obtain ⟨e1, e2⟩ := e
      rw [← e1] at hx; rw [← e2] at hl
      exact OpOk.ofNew (pSlice_sound R h hx (slice_bnds hl))
    · simp [Tr.get] at h
  -- fieldAddr
  · split at h
    · obtain ⟨h1, h2⟩ := lift_get h
      exact OpOk.ofPure R (pFieldAddr_sound R h1 (one_of hd rfl)) h2
    · simp [Tr.get] at h
  -- field
  · split at h
    · obtain ⟨h1, h2⟩ := lift_get h
      exact OpOk.ofPure R (pField_sound R h1 (one_of hd rfl)) h2
    · simp [Tr.get] at h
  -- indexAddr
  · split at h
    · obtain ⟨h1, h2⟩ := lift_get h
      obtain ⟨d1, d2⟩ := two_of hd rfl
      exact OpOk.ofPure R (pIndexAddr_sound R h1 d1 d2) h2
    · simp [Tr.get] at h
  -- index
  · split at h
    · obtain ⟨h1, h2⟩ := lift_get h
      obtain ⟨d1, d2⟩ := two_of hd rfl
      exact OpOk.ofPure R (pIndex_sound R h1 d1 d2) h2
    · simp [Tr.get] at h
  -- extract
  · split at h
    · obtain ⟨h1, h2⟩ := lift_get h
      exact OpOk.ofPure R (pExtract_sound h1 (one_of hd rfl)) h2
    · simp [Tr.get] at h
  -- makeMap
  · split at h
    · exact OpOk.ofNew (pMake_sound R h)
    · simp [Tr.get] at h
  -- lookup
  · split at h
    · obtain ⟨d1, d2⟩ := two_of hd rfl
      obtain ⟨⟨u, h1, h2⟩, h3⟩ := pLook_sound R h d1 d2
      exact OpOk.ofPure R ⟨u, h1, h2⟩ h3
    · simp [Tr.get] at h
  -- mapUpdate
  · split at h
    · obtain ⟨d1, d2, d3⟩ := three_of hd rfl
      obtain ⟨h1, w', h2, h3⟩ := pUpdate_sound R h d1 d2 d3
      exact ⟨.skip, undef, w', ρ, by simp [h2], .inr ⟨rfl, rfl⟩, Asg.le_refl _, by rw [h1]; rfl, Rel.shift h3 (by omega)⟩
    · simp [Tr.get] at h
  -- insert
  · split at h
    · obtain ⟨d1, d2, d3⟩ := three_of hd rfl
      obtain ⟨h1, w', h2, h3⟩ := pUpdate_sound R h d1 d2 d3
      exact ⟨.skip, undef, w', ρ, by simp [h2], .inr ⟨rfl, rfl⟩, Asg.le_refl _, by rw [h1]; rfl, Rel.shift h3 (by omega)⟩
    · simp [Tr.get] at h
  -- call
  · split at h
    · rename_i c b hc
      exact pBuiltin_sound R hc h hd _
    · simp [Tr.get] at h
  · simp [Tr.get] at h
end sound
end
end Go.Sx
