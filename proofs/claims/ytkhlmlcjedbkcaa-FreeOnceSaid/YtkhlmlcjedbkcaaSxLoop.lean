/-
  The symbolic evaluator: code with branches and loops. Own work; nothing here is trusted.
-/
import Derived.Test.YtkhlmlcjedbkcaaSxCode
import Derived.LoopN
namespace Go.Sx
noncomputable section
open Go.RowKit

variable {C : Tab} {P : Program} {R : Type}

structure PostC (B : World) (X : Own) (ρ : Asg) (hp : Hp C) (n N : Nat) (k : KC C Prop) (e : Exit) (a : Act) (w : World) : Prop where
  ex : ∃ x ρ' tm hp' n', e = exitOf x ∧ ρ.le ρ' ∧ Grow n hp n' hp' ∧ a.tmps.size = N ∧ a.defers = [] ∧ Rel B X ρ' hp' n' w ∧ TmOk ρ' tm a ∧ k x tm hp' n'

/-- The loop goes on from here, its body once more at the head. -/
def InLoop (P : Program) (N : Nat) (c : Code) (tm : Tm) (hp : Hp C) (n : Nat) (k : KC C Prop) : Prop :=
  ∀ B X ρ w a, a.tmps.size = N → a.defers = [] → Rel B X ρ hp n w → TmOk ρ tm a → ∀ b kk cs, ∃ e a' w', PostC B X ρ hp n N k e a' w' ∧
    Arrives P (lone (b.at a (.code c :: .inLoop c :: kk)) cs w) b kk cs e a' w'

def onThen (k : KC C R) (next : Tm → Hp C → Nat → R) : KC C R := fun e tm hp n => match e with
  | .normal => next tm hp n
  | .exit i => k (.exit i) tm hp n
  | .ret => k .ret tm hp n
def onBlock (k : KC C R) (id : Nat) : KC C R := fun e tm hp n => match e with
  | .normal => k .normal tm hp n
  | .exit i => match Nat.beq i id with
    | true => k .normal tm hp n
    | false => k (.exit i) tm hp n
  | .ret => k .ret tm hp n
def iterS (body : KC C R → Tm → Hp C → Nat → R) (il : Tm → Hp C → Nat → KC C R → R) (f : Nat) (k : KC C R) (tm : Tm) (hp : Hp C) (n : Nat) : R :=
  Nat.rec (motive := fun _ => Tm → Hp C → Nat → R) (fun tm hp n => il tm hp n k) (fun _ ih => body (onThen k ih)) f tm hp n

def litT (c : Operand) (b : Bool) (tm : Tm) : Tm := match c with
  | .tmp t => (t, .raw (.bool b)) :: tm
  | _ => tm

/-- A region in a drawn order (a later text says how). -/
abbrev DrawF (C : Tab) (R : Type) := (N : Nat) → List Oper → Tm → Hp C → Nat → (Tm → Hp C → Nat → R) → R
/-- A loop that is not unrolled. -/
abbrev LoopF (C : Tab) (R : Type) := (N : Nat) → Code → Tm → Hp C → Nat → KC C R → R

abbrev CK (C : Tab) (R : Type) := Nat → KC C R → Tm → Hp C → Nat → R
def cRegion (A : Ans R) (P : Program) (call : CallF C R) (dr : DrawF C R) (N : Nat) (_ : Nat) (ops : Array Oper) (draw : Bool) : CK C R := fun _ k tm hp n => match draw with
  | false => regionS A P call N ops.toList ops.toList tm hp n (k .normal)
  | true => dr N ops.toList tm hp n (k .normal)
def cSeq (x y : CK C R) : CK C R := fun blk k => x blk (onThen k (y blk k))
def cCond (A : Ans R) (c : Operand) (x y : CK C R) : CK C R := fun blk k tm hp n => match evT tm c with
  | some (.raw (.bool t)) => A.br t (x blk k (litT c true tm) hp n) (y blk k (litT c false tm) hp n)
  | _ => A.bad
def cBlock (id : Nat) (x : CK C R) : CK C R := fun _ k => x id (onBlock k id)
def cLoop (il : Nat → LoopF C R) (N : Nat) (unr : Nat → Nat) (c : Code) (x : CK C R) : CK C R := fun blk k => iterS (x blk) (il blk N c) (unr blk) k
def cExit (id : Nat) : CK C R := fun _ k => k (.exit id)
def cNo (A : Ans R) : CK C R := fun _ _ _ _ _ => A.bad

def codeS (A : Ans R) (P : Program) (call : CallF C R) (dr : DrawF C R) (il : Nat → LoopF C R) (N : Nat) (unr : Nat → Nat) (c : Code) : CK C R :=
  Code.rec (motive := fun _ => CK C R) (fun _ k => k .normal) (cRegion A P call dr N) (fun _ _ x y => cSeq x y) (fun c _ _ x y => cCond A c x y) (fun id _ x => cBlock id x) (fun c x => cLoop il N unr c x)
    (fun _ _ _ _ _ _ => cNo A) cExit (fun _ _ => cNo A) (fun _ => cNo A) (fun _ => cNo A) (fun _ k => k .ret) (fun _ => cNo A) c

def DrawOk (P : Program) (I : R → Prop) (dr : DrawF C R) : Prop :=
  ∀ N (id : Nat) (ops : Array Oper) tm hp n k B X ρ w a, I (dr N ops.toList tm hp n k) → a.tmps.size = N → a.defers = [] → Rel B X ρ hp n w → TmOk ρ tm a →
    (Code.region id ops true).wp P (PostC B X ρ hp n N fun e tm hp n => match e with | .normal => I (k tm hp n) | _ => False) a w
def LoopOkAt (P : Program) (I : R → Prop) (N : Nat) (c : Code) (f : Tm → Hp C → Nat → KC C R → R) : Prop :=
  ∀ tm hp n k, I (f tm hp n k) → InLoop P N c tm hp n fun e tm hp n => I (k e tm hp n)
def LoopOk (P : Program) (I : R → Prop) (il : LoopF C R) : Prop := ∀ N c, LoopOkAt P I N c (il N c)
/-- The loops of a code, each with the block that encloses it. -/
def lps : Nat → Code → List (Nat × Code)
  | b, .seq x y => lps b x ++ lps b y
  | b, .cond _ x y => lps b x ++ lps b y
  | _, .block id x => lps id x
  | b, .loop c => (b, c) :: lps b c
  | _, _ => []

section sound
variable {B : World} {X : Own} {ρ : Asg} {hp : Hp C} {n : Nat} {w : World} {a : Act} {tm : Tm} {call : CallF C R} {dr : DrawF C R} {il : LoopF C R} {A : Ans R} {I : R → Prop}

theorem PostC.weaken {N : Nat} {k : KC C Prop} {ρ' : Asg} {hp' : Hp C} {n' : Nat} {e : Exit} {a : Act} {w : World} (h : PostC B X ρ' hp' n' N k e a w) (h1 : ρ.le ρ') (h2 : Grow n hp n' hp') : PostC B X ρ hp n N k e a w := by
  obtain ⟨x, ρ'', tm, hp'', n'', he, g1, g2, g3⟩ := h
  exact ⟨x, ρ'', tm, hp'', n'', he, Asg.le_trans h1 g1, h2.trans g2, g3⟩

theorem PostC.mono {N : Nat} {k k' : KC C Prop} {e : Exit} {a : Act} {w : World} (h : PostC B X ρ hp n N k e a w) (hk : ∀ x tm hp n, k x tm hp n → k' x tm hp n) : PostC B X ρ hp n N k' e a w := by
  obtain ⟨x, ρ'', tm, hp'', n'', he, g1, g2, g3, g4, g5, g6, g7⟩ := h
  exact ⟨x, ρ'', tm, hp'', n'', he, g1, g2, g3, g4, g5, g6, hk _ _ _ _ g7⟩

theorem TmOk.litT (T : TmOk ρ tm a) {c : Operand} {t b : Bool} (h : evT tm c = some (.raw (.bool t))) (e : t = b) : TmOk ρ (litT c b tm) a := by
  cases c with
  | tmp u => exact T.lit h e
  | const v => exact T
  | global g => exact T
  | func f => exact T

/-- One round, then the rest of the loop. -/
theorem inLoop_step {N : Nat} {c : Code} {k : KC C Prop} {tm : Tm} {hp : Hp C} {n : Nat} (h : ∀ B X ρ w a, a.tmps.size = N → a.defers = [] → Rel B X ρ hp n w → TmOk ρ tm a → c.wp P (PostC B X ρ hp n N fun e tm hp n => match e with
    | .normal => InLoop P N c tm hp n k
    | .exit i => k (.exit i) tm hp n
    | .ret => k .ret tm hp n) a w) : InLoop P N c tm hp n k := by
  intro B X ρ w a hN hD R T b kk cs
  obtain ⟨e, a₁, w₁, hq, harr⟩ := h B X ρ w a hN hD R T b (.inLoop c :: kk) cs
  obtain ⟨x, ρ', tm', hp', n', rfl, g1, g2, g3, g4, g5, g6, g7⟩ := hq
  cases x with
  | normal =>
    obtain ⟨e₂, a₂, w₂, hq₂, harr₂⟩ := g7 B X ρ' w₁ a₁ g3 g4 g5 g6 b kk cs
    exact ⟨e₂, a₂, w₂, hq₂.weaken g1 g2, .of_steps (Steps.trans harr (.one step_inLoop)) harr₂⟩
  | exit id => exact ⟨_, a₁, w₁, ⟨.exit id, ρ', tm', hp', n', rfl, g1, g2, g3, g4, g5, g6, g7⟩, .pass (x := .inLoop c) rfl (fun _ _ => .inl (by simp [exitOf])) harr⟩
  | ret => exact ⟨_, a₁, w₁, ⟨.ret, ρ', tm', hp', n', rfl, g1, g2, g3, g4, g5, g6, g7⟩, .pass (x := .inLoop c) rfl (fun _ _ => .inl (by simp [exitOf])) harr⟩

theorem iterS_sound {N : Nat} {c : Code} {body : KC C R → Tm → Hp C → Nat → R} (hl : LoopOkAt P I N c (il N c))
    (hb : ∀ (k : KC C R) tm hp n B X ρ w a, I (body k tm hp n) → a.tmps.size = N → a.defers = [] → Rel B X ρ hp n w → TmOk ρ tm a → c.wp P (PostC B X ρ hp n N fun e tm hp n => I (k e tm hp n)) a w) :
    ∀ (f : Nat) (k : KC C R) (tm : Tm) (hp : Hp C) (n : Nat), I (iterS body (il N c) f k tm hp n) → InLoop P N c tm hp n fun e tm hp n => I (k e tm hp n)
  | 0, k, tm, hp, n, h => hl tm hp n k h
  | f + 1, k, tm, hp, n, h => inLoop_step fun B X ρ w a hN hD R T => wp_mono (hb _ tm hp n B X ρ w a h hN hD R T) fun e a w hq => hq.mono fun x tm hp n hx => by
      cases x with
      | normal => exact iterS_sound hl hb f k tm hp n hx
      | exit i => exact hx
      | ret => exact hx

theorem codeS_sound (hp0 : Plain P) (no : AnsOk A I) (hc : CallOk P I call) (hd : DrawOk P I dr) {il : Nat → LoopF C R} {N : Nat} {unr : Nat → Nat} : ∀ (c : Code) (blk : Nat) (_ : ∀ b l, (b, l) ∈ lps blk c → LoopOkAt P I N l (il b N l)) (k : KC C R) (tm : Tm) (hp : Hp C) (n : Nat) (B : World) (X : Own) (ρ : Asg) (w : World) (a : Act),
    I (codeS A P call dr il N unr c blk k tm hp n) → a.tmps.size = N → a.defers = [] → Rel B X ρ hp n w → TmOk ρ tm a → c.wp P (PostC B X ρ hp n N fun e tm hp n => I (k e tm hp n)) a w
  | .skip, _, hl, k, tm, hp, n, B, X, ρ, w, a, h, hN, hD, R, T => wp_skip ⟨.normal, ρ, tm, hp, n, rfl, Asg.le_refl _, Grow.refl _ _, hN, hD, R, T, h⟩
  | .region id ops draw, _, hl, k, tm, hp, n, B, X, ρ, w, a, h, hN, hD, R, T => by
    cases draw with
    | false =>
      refine wp_region_list (regionS_sound (X := X) hp0 no hc ops.toList h hN R T ?_)
      intro ρ' tm' hp' n' a' w' g1 g2 g3 g4 g5 g6 g7
      exact ⟨.normal, ρ', tm', hp', n', rfl, g1, g2, g3, by rw [g4, hD], g5, g6, g7⟩
    | true =>
      refine wp_mono (hd N id ops tm hp n _ B X ρ w a h hN hD R T) fun e a w hq => hq.mono fun x tm hp n hx => ?_
      cases x with
      | normal => exact hx
      | exit i => exact hx.elim
      | ret => exact hx.elim
  | .seq x y, blk, hl, k, tm, hp, n, B, X, ρ, w, a, h, hN, hD, R, T => by
    refine wp_seq (wp_mono (codeS_sound hp0 no hc hd x blk (fun b l h => hl b l (List.mem_append_left _ h)) _ tm hp n B X ρ w a h hN hD R T) fun e a w hq => ?_)
    obtain ⟨ex, ρ', tm', hp', n', rfl, g1, g2, g3, g4, g5, g6, g7⟩ := hq
    cases ex with
    | normal => exact wp_mono (codeS_sound hp0 no hc hd y blk (fun b l h => hl b l (List.mem_append_right _ h)) k tm' hp' n' B X ρ' w a g7 g3 g4 g5 g6) fun e a w hq => hq.weaken g1 g2
    | exit i => exact ⟨.exit i, ρ', tm', hp', n', rfl, g1, g2, g3, g4, g5, g6, g7⟩
    | ret => exact ⟨.ret, ρ', tm', hp', n', rfl, g1, g2, g3, g4, g5, g6, g7⟩
  | .cond c x y, blk, hl, k, tm, hp, n, B, X, ρ, w, a, h, hN, hD, R, T => by
    have h : I (cCond A c (codeS A P call dr il N unr x) (codeS A P call dr il N unr y) blk k tm hp n) := h
    unfold cCond at h
    split at h
    · rename_i t ht
      have hd' := evT_spec T ht
      simp only [den, Option.some.injEq] at hd'
      have h := no.br _ _ _ h
      cases t with
      | false => exact wp_cond hd'.symm (codeS_sound hp0 no hc hd y blk (fun b l h => hl b l (List.mem_append_right _ h)) k _ hp n B X ρ w a (h.2 rfl) hN hD R (T.litT ht rfl))
      | true => exact wp_cond hd'.symm (codeS_sound hp0 no hc hd x blk (fun b l h => hl b l (List.mem_append_left _ h)) k _ hp n B X ρ w a (h.1 rfl) hN hD R (T.litT ht rfl))
    · exact (no.no h).elim
  | .block id c, blk, hl, k, tm, hp, n, B, X, ρ, w, a, h, hN, hD, R, T => by
    refine wp_block (wp_mono (codeS_sound hp0 no hc hd c id hl _ tm hp n B X ρ w a h hN hD R T) fun e a w hq => ?_)
    obtain ⟨ex, ρ', tm', hp', n', rfl, g1, g2, g3, g4, g5, g6, g7⟩ := hq
    cases ex with
    | normal => exact ⟨.normal, ρ', tm', hp', n', rfl, g1, g2, g3, g4, g5, g6, g7⟩
    | exit i =>
      simp only [exitOf, Exit.inBlock]
      cases hb : Nat.beq i id with
      | true =>
        have : i = id := Nat.eq_of_beq_eq_true hb
        have g7 : I (match Nat.beq i id with | true => k .normal tm' hp' n' | false => k (.exit i) tm' hp' n') := g7
        rw [hb] at g7
        rw [if_pos this]
        exact ⟨.normal, ρ', tm', hp', n', rfl, g1, g2, g3, g4, g5, g6, g7⟩
      | false =>
        have : ¬ i = id := Nat.ne_of_beq_eq_false hb
        have g7 : I (match Nat.beq i id with | true => k .normal tm' hp' n' | false => k (.exit i) tm' hp' n') := g7
        rw [hb] at g7
        rw [if_neg this]
        exact ⟨.exit i, ρ', tm', hp', n', rfl, g1, g2, g3, g4, g5, g6, g7⟩
    | ret => exact ⟨.ret, ρ', tm', hp', n', rfl, g1, g2, g3, g4, g5, g6, g7⟩
  | .loop c, blk, hl, k, tm, hp, n, B, X, ρ, w, a, h, hN, hD, R, T => by
    intro b kk cs
    obtain ⟨e, a', w', hq, harr⟩ := iterS_sound (hl blk c List.mem_cons_self) (fun k tm hp n B X ρ w a => codeS_sound hp0 no hc hd c blk (fun b l h => hl b l (List.mem_cons_of_mem _ h)) k tm hp n B X ρ w a) (unr blk) k tm hp n h B X ρ w a hN hD R T b kk cs
    exact ⟨e, a', w', hq, .of_steps (.one step_loop) harr⟩
  | .exit id, _, hl, k, tm, hp, n, B, X, ρ, w, a, h, hN, hD, R, T => wp_exit ⟨.exit id, ρ, tm, hp, n, rfl, Asg.le_refl _, Grow.refl _ _, hN, hD, R, T, h⟩
  | .ret, _, hl, k, tm, hp, n, B, X, ρ, w, a, h, hN, hD, R, T => wp_ret ⟨.ret, ρ, tm, hp, n, rfl, Asg.le_refl _, Grow.refl _ _, hN, hD, R, T, h⟩
  | .rangeFunc .., _, _, _, _, _, _, _, _, _, _, _, h, _, _, _, _ => (no.no h).elim
  | .scope _, _, _, _, _, _, _, _, _, _, _, _, h, _, _, _, _ => (no.no h).elim
  | .label _, _, _, _, _, _, _, _, _, _, _, _, h, _, _, _, _ => (no.no h).elim
  | .goto _, _, _, _, _, _, _, _, _, _, _, _, h, _, _, _, _ => (no.no h).elim
  | .refuse _, _, _, _, _, _, _, _, _, _, _, _, h, _, _, _, _ => (no.no h).elim
end sound

/-! Calls. -/

def argTm : Nat → List SV → Tm
  | _, [] => []
  | i, v :: r => (i, v) :: argTm (i + 1) r

/-- What a function gives back, read where its results lie. -/
def resVars (P : Program) (hp : Hp C) (tm : Tm) : List ResultVar → Tr (List SV)
  | [] => .leaf []
  | .tmp t :: r => match find t tm with
    | some v => (resVars P hp tm r).bind fun l => .leaf (v :: l)
    | none => .fail
  | .cell t ty :: r => match find t tm with
    | some v => (pLoad P (fun i => find i hp) ty v).bind fun (x : Res C) => (resVars P hp tm r).bind fun l => .leaf (x.1 :: l)
    | none => .fail

def packS : List SV → SV
  | [v] => v
  | l => .tup l

def retK (A : Ans R) (P : Program) (fn : Func) (k : SV → Hp C → Nat → R) : KC C R := fun e tm hp n => match e with
  | .exit _ => A.bad
  | _ => (resVars P hp tm fn.results.toList).run A fun l => k (packS l) hp n

abbrev SpecF (C : Tab) (R : Type) := Nat → Option (List SV → Hp C → Nat → (SV → Hp C → Nat → R) → R)

def callStep (A : Ans R) (P : Program) (sp : SpecF C R) (il : Nat → Nat → LoopF C R) (unr : Nat → Nat → Nat) (dr : DrawF C R) (ih : CallF C R) : CallF C R := fun g vs hp n k => match sp g with
    | some s => s vs hp n k
    | none => match P.funcs[g]? with
      | none => A.bad
      | some fn => match fn.body with
        | none => A.bad
        | some c => match Nat.ble vs.length fn.ntmps with
          | false => A.bad
          | true => codeS A P ih dr (il g) fn.ntmps (unr g) c 0 (retK A P fn k) (argTm 0 vs) hp n
def callG (A : Ans R) (P : Program) (sp : SpecF C R) (il : Nat → Nat → LoopF C R) (unr : Nat → Nat → Nat) (dr : Nat → CallF C R → DrawF C R) (d : Nat) : CallF C R :=
  Nat.rec (motive := fun _ => CallF C R) (fun _ _ _ _ _ => A.bad) (fun d ih => callStep A P sp il unr (dr d ih) ih) d

theorem find_argTm {ρ : Asg} : ∀ (vs : List SV) (i : Nat) (us : List Value), denL ρ vs = some us → ∀ t sv, find t (argTm i vs) = some sv → ∃ v, den ρ sv = some v ∧ i ≤ t ∧ us[t - i]? = some v
  | [], _, _, _, _, _, h => by simp [argTm, find] at h
  | x :: r, i, us, hd, t, sv, h => by
    obtain ⟨u, l, h1, h2, rfl⟩ := denL_cons.1 hd
    rw [argTm, find_cons] at h
    split at h
    · rename_i e; subst e
      cases h
      exact ⟨u, h1, Nat.le_refl _, by simp⟩
    · obtain ⟨v, g1, g2, g3⟩ := find_argTm r (i + 1) l h2 t sv h
      refine ⟨v, g1, by omega, ?_⟩
      have : t - i = (t - (i + 1)) + 1 := by omega
      rw [this]; simpa using g3

theorem asAddr_load {v u : Value} {t : TypeId} {w : World} (h : (Instr.loadAt t v).run P w = .ok u w) : (do loadVar t (← asAddr v) : Sem Value).run P w = .ok u w := by
  cases v with
  | pointer a =>
    cases a with
    | some a => simpa [Instr.loadAt, Instr.sureAddr, asAddr] using h
    | none => simp [Instr.loadAt, Instr.sureAddr] at h
  | _ => simp [Instr.loadAt, Instr.sureAddr] at h

theorem resVars_sound {B : World} {X : Own} {ρ : Asg} {hp : Hp C} {n : Nat} {w : World} {a : Act} {tm : Tm} (R : Rel B X ρ hp n w) (T : TmOk ρ tm a) : ∀ (rs : List ResultVar) {l : List SV}, (resVars P hp tm rs).get = some l →
    ∃ us, denL ρ l = some us ∧ (rs.mapM fun | .tmp t => pure (a.tmps.getD t undef) | .cell x t => do loadVar t (← asAddr (a.tmps.getD x undef)) : Sem (List Value)).run P w = .ok us w
  | [], l, h => by
    simp only [resVars, Tr.get, Option.some.injEq] at h; subst h
    exact ⟨[], rfl, by simp⟩
  | .tmp t :: r, l, h => by
    unfold resVars at h
    split at h
    · rename_i v hv
      obtain ⟨l', h1, h2⟩ := Tr.get_bind h
      simp only [Tr.get, Option.some.injEq] at h2; subst h2
      obtain ⟨us, g1, g2⟩ := resVars_sound R T r h1
      obtain ⟨u, g3, g4⟩ := T t v hv
      refine ⟨u :: us, denL_cons.2 ⟨u, us, g3, g1, rfl⟩, ?_⟩
      rw [List.mapM_cons]
      simp only [pure_bind, Sem.run_bind, g2, Result.andThen_ok, Sem.run_pure]
      simp [g4]
    · simp [Tr.get] at h
  | .cell t ty :: r, l, h => by
    unfold resVars at h
    split at h
    · rename_i v hv
      obtain ⟨x, h1, h2⟩ := Tr.get_bind h
      obtain ⟨l', h3, h4⟩ := Tr.get_bind h2
      simp only [Tr.get, Option.some.injEq] at h4; subst h4
      obtain ⟨us, g1, g2⟩ := resVars_sound R T r h3
      obtain ⟨u, g3, g4⟩ := T t v hv
      obtain ⟨y, g5, g6, _⟩ := pLoad_sound R h1 g3
      refine ⟨y :: us, denL_cons.2 ⟨y, us, g6, g1, rfl⟩, ?_⟩
      have hu : a.tmps.getD t undef = u := by simp [g4]
      have hl := asAddr_load g5
      rw [List.mapM_cons]
      simp only [hu]
      rw [Sem.run_bind, hl, Result.andThen_ok]
      simp only [Sem.run_bind, g2, Result.andThen_ok, Sem.run_pure]
    · simp [Tr.get] at h

theorem packS_sound {ρ : Asg} {l : List SV} {us : List Value} (h : denL ρ l = some us) : den ρ (packS l) = some (if h : us.toArray.size = 1 then us.toArray[0] else .tuple us.toArray) := by
  match l with
  | [] => rw [denL_nil.1 h]; rfl
  | [v] =>
    obtain ⟨u, r, h1, h2, rfl⟩ := denL_cons.1 h
    rw [denL_nil.1 h2]; simpa [packS] using h1
  | v :: v' :: r =>
    have hl := denL_length h
    rw [dif_neg (by simp [hl])]
    simp only [packS, den, h, Option.map_some]

theorem results_sound {B : World} {X : Own} {ρ : Asg} {hp : Hp C} {n : Nat} {w : World} {a : Act} {tm : Tm} (R : Rel B X ρ hp n w) (T : TmOk ρ tm a) {fn : Func} {l : List SV} (h : (resVars P hp tm fn.results.toList).get = some l) :
    ∃ v, den ρ (packS l) = some v ∧ (results fn a.tmps).run P w = .ok v w := by
  obtain ⟨us, h1, h2⟩ := resVars_sound R T _ h
  refine ⟨_, packS_sound h1, ?_⟩
  unfold results
  rw [← Array.toArray_toList (xs := fn.results), List.mapM_toArray, Sem.run_bind]
  simp only [Sem.run_map]
  generalize hm : Sem.run P (List.mapM _ _) w = r
  have hr : r = .ok us w := hm.symm.trans h2
  rw [hr]; rfl

def CallOk1 (P : Program) (g : Nat) (f : List SV → Hp C → Nat → (SV → Hp C → Nat → Prop) → Prop) : Prop :=
  ∀ vs hp n k B X ρ w args, f vs hp n k → Rel B X ρ hp n w → denL ρ vs = some args →
    (∃ fn, P.funcs[g]? = some fn ∧ fn.body.isSome = true) ∧ Calls P g args.toArray w (CallPost B X ρ hp n k)
def SpecOkG (P : Program) (I : R → Prop) (sp : SpecF C R) : Prop := ∀ g f, sp g = some f → CallOk1 P g fun vs hp n k => ∃ k', I (f vs hp n k') ∧ k = fun sv hp n => I (k' sv hp n)
def SpecOk (P : Program) (sp : SpecF C Prop) : Prop := ∀ g f, sp g = some f → CallOk1 P g f
theorem SpecOk.g {sp : SpecF C Prop} (h : SpecOk P sp) : SpecOkG P (fun p : Prop => p) sp := fun g f hf vs hp n k B X ρ w args ⟨k', h1, h2⟩ => by
  subst h2; exact h g f hf vs hp n k' B X ρ w args h1

theorem callStep_ok (hp0 : Plain P) {A : Ans R} {I : R → Prop} (no : AnsOk A I) {sp : SpecF C R} (hs : SpecOkG P I sp) {il : Nat → Nat → LoopF C R} (hl : ∀ g fn c, P.funcs[g]? = some fn → fn.body = some c → ∀ blk l, (blk, l) ∈ lps 0 c → LoopOkAt P I fn.ntmps l (il g blk fn.ntmps l)) {dr : DrawF C R} (hd : DrawOk P I dr) {unr : Nat → Nat → Nat} {call : CallF C R} (ih : CallOk P I call) :
    CallOk P I (callStep A P sp il unr dr call) := fun g vs hp n k B X ρ w args h RR hargs => by
    unfold callStep at h
    split at h
    · rename_i s hsp
      exact hs g s hsp vs hp n _ B X ρ w args ⟨k, h, rfl⟩ RR hargs
    · split at h
      · exact (no.no h).elim
      · rename_i fn hfn
        split at h
        · exact (no.no h).elim
        · rename_i c hc
          split at h
          · exact (no.no h).elim
          · rename_i hle
            have hle' : args.length ≤ fn.ntmps := by rw [denL_length hargs]; exact Nat.le_of_ble_eq_true hle
            refine ⟨⟨fn, hfn, by rw [hc]; rfl⟩, calls_of_wp hfn hc ?_⟩
            have hN : (args.toArray ++ Array.replicate (fn.ntmps - args.toArray.size) undef).size = fn.ntmps := by simp; omega
            refine wp_mono (codeS_sound hp0 no ih hd c 0 (hl g fn c hfn hc) _ _ hp n B X ρ w _ h hN rfl RR ?_) ?_
            · intro t sv ht
              obtain ⟨v, g1, _, g3⟩ := find_argTm vs 0 args hargs t sv ht
              refine ⟨v, g1, ?_⟩
              rw [Nat.sub_zero] at g3
              have hlt := (List.getElem?_eq_some_iff.1 g3).1
              simp [Array.getElem?_append, hlt, (List.getElem?_eq_some_iff.1 g3).2]
            · intro e a w' hq
              obtain ⟨x, ρ', tm', hp', n', rfl, g1, g2, g3, g4, g5, g6, g7⟩ := hq
              have fin : I (retK A P fn k .ret tm' hp' n') → bodyPost P fn (CallPost B X ρ hp n fun sv hp n => I (k sv hp n)) .ret a w' := fun g7 => by
                obtain ⟨l, hl1, hl2⟩ := Tr.run_get no g7
                obtain ⟨v, hv1, hv2⟩ := results_sound g5 g6 hl1
                exact ⟨g4, v, hv2, ρ', v, packS l, hp', n', rfl, g1, g2, hv1, g5, hl2⟩
              cases x with
              | normal => exact fin g7
              | ret => exact fin g7
              | exit i => exact (no.no g7).elim

theorem callG_sound (hp0 : Plain P) {A : Ans R} {I : R → Prop} (no : AnsOk A I) {sp : SpecF C R} (hs : SpecOkG P I sp) {il : Nat → Nat → LoopF C R} (hl : ∀ g fn c, P.funcs[g]? = some fn → fn.body = some c → ∀ blk l, (blk, l) ∈ lps 0 c → LoopOkAt P I fn.ntmps l (il g blk fn.ntmps l)) {dr : Nat → CallF C R → DrawF C R} (hd : ∀ d call, CallOk P I call → DrawOk P I (dr d call)) {unr : Nat → Nat → Nat} :
    ∀ d, CallOk P I (callG A P sp il unr dr d)
  | 0 => fun _ _ _ _ _ _ _ _ _ _ h => (no.no h).elim
  | d + 1 => callStep_ok hp0 no hs hl (hd d _ (callG_sound hp0 no hs hl hd d)) (callG_sound hp0 no hs hl hd d)

/-! The evaluator whose answers are statements. -/
theorem loop_ok : LoopOk P (fun p : Prop => p) (InLoop (C := C) P) := fun _ _ _ _ _ _ h => h
theorem LoopOk.all {I : R → Prop} {il : Nat → Nat → LoopF C R} (h : ∀ g blk, LoopOk P I (il g blk)) : ∀ g fn c, P.funcs[g]? = some fn → fn.body = some c → ∀ blk l, (blk, l) ∈ lps 0 c → LoopOkAt P I fn.ntmps l (il g blk fn.ntmps l) := fun g _ _ _ _ blk l _ => h g blk _ l
end
end Go.Sx
