/-
  The symbolic evaluator: a region in whatever order. Own work; nothing here is trusted.
-/
import Derived.Test.YtkhlmlcjedbkcaaSxDraw
namespace Go.Sx
noncomputable section
open Go.RowKit

variable {C : Tab} {P : Program} {R : Type}

/-- What a call answers, as a datum. -/
abbrev OT (C : Tab) := Tr (SV × Hp C × Nat)

/-- What is known of an operation of the region once it is reckoned. -/
structure Rec (C : Tab) where
  ix : Nat
  dst : Option Tmp
  an : Nat
  rd : List Tmp
  sv : SV
  U : Hp C
  δ : Hp C
  lo : Nat
  hi : Nat

def recOf : List (Rec C) → Nat → Option (Rec C)
  | [], _ => none
  | r :: rs, i => match Nat.beq r.ix i with
    | true => some r
    | false => recOf rs i
def anc (recs : List (Rec C)) : List Edge → Option Nat
  | [] => some 0
  | e :: r => match Region.binds .any e with
    | false => anc recs r
    | true => match recOf recs e.on with
      | some x => match anc recs r with
        | some m => some (m ||| (x.an ||| 2 ^ e.on))
        | none => none
      | none => none
def hpBy (f : Nat → Bool) : List (Rec C) → Hp C → Hp C
  | [], hp => hp
  | r :: rs, hp => match f r.ix with
    | true => r.δ ++ hpBy f rs hp
    | false => hpBy f rs hp
def hpK (f : Nat → Bool) (recs : List (Rec C)) (hp : Hp C) (k : Hp C → R) : R :=
  List.rec (motive := fun _ => (Hp C → R) → R) (fun k => k hp) (fun r _ ih k => ih fun h => match f r.ix with
    | true => consAll r.δ h k
    | false => k h) recs k
theorem hpK_eq (f : Nat → Bool) : ∀ (recs : List (Rec C)) (hp : Hp C) (k : Hp C → R), hpK f recs hp k = k (hpBy f recs hp)
  | [], _, _ => rfl
  | r :: rs, hp, k => by
    show hpK f rs hp (fun h => match f r.ix with | true => consAll r.δ h k | false => k h) = _
    rw [hpK_eq f rs]
    cases hf : f r.ix
    · simp [hpBy, hf]
    · simp [hpBy, hf, consAll_eq]
def tmAll : List (Rec C) → Tm → Tm
  | [], tm => tm
  | r :: rs, tm => match r.dst with
    | some t => (t, r.sv) :: tmAll rs tm
    | none => tmAll rs tm
def topN (n0 : Nat) : List (Rec C) → Nat
  | [] => n0
  | r :: _ => r.hi
def pick {α : Type} : List Nat → List (Nat × α) → List (Nat × α)
  | [], _ => []
  | t :: r, l => match find t l with
    | some v => (t, v) :: pick r l
    | none => pick r l
theorem find_pick {α : Type} {l : List (Nat × α)} : ∀ {ts : List Nat} {t : Nat} {v : α}, find t (pick ts l) = some v → t ∈ ts ∧ find t l = some v
  | [], t, v, h => by simp [pick, find] at h
  | u :: r, t, v, h => by
    unfold pick at h
    split at h
    · rename_i x hx
      rw [find_cons] at h
      split at h
      · rename_i e; subst e; cases h; exact ⟨List.mem_cons_self, hx⟩
      · exact ⟨List.mem_cons_of_mem _ (find_pick h).1, (find_pick h).2⟩
    · exact ⟨List.mem_cons_of_mem _ (find_pick h).1, (find_pick h).2⟩

def opT : Operand → List Tmp
  | .tmp t => [t]
  | _ => []
def opTs : List Operand → List Tmp
  | [] => []
  | .tmp t :: r => t :: opTs r
  | _ :: r => opTs r
def calT : Op → List Tmp
  | .call c => match c.callee with
    | .value f => opT f
    | _ => []
  | _ => []
def grdT (all : List Oper) (o : Oper) : List Tmp := match o.guard with
  | some (j, _) => match gdst all j with
    | some t => [t]
    | none => []
  | none => []
def rdT (all : List Oper) (o : Oper) : List Tmp := grdT all o ++ (calT o.op ++ opTs (argsOf o.op))
def isCall : Op → Bool
  | .call c => match c.callee with
    | .value _ => true
    | _ => false
  | _ => false
def hsV : SV → List Nat → List Nat
  | .h i, r => i :: r
  | .ep i _, r => i :: r
  | .bs i _ _ _, r => i :: r
  | .vs i _ _ _ _ _, r => i :: r
  | .el i _ _ _, r => i :: r
  | _, r => r
def hsL : List SV → List Nat
  | [] => []
  | v :: r => hsV v (hsL r)
def uHeap (an : Nat) (recs : List (Rec C)) (hp : Hp C) (o : Oper) (tmU : Tm) (k : Hp C → R) : R :=
  hpK (Nat.testBit an) recs hp fun H => match isCall o.op with
    | true => k H
    | false => match evTs tmU (argsOf o.op) with
      | some vs => consAll (pick (hsL vs) H) [] k
      | none => k []
def stepD (P : Program) (co : CallF C (OT C)) (all : List Oper) (o : Oper) (tmU : Tm) (U : Hp C) (lo : Nat) : OT C := match o.guard with
  | none => stepO (ansT _) P co o.op tmU U lo fun sv hp n => forceV sv fun sv => .leaf (sv, hp, n)
  | some (j, want) => match gdst all j with
    | some t => match find t tmU with
      | some (.raw (.bool b)) => (ansT _).br b
        (match want with
          | true => stepO (ansT _) P co o.op tmU U lo fun sv hp n => forceV sv fun sv => .leaf (sv, hp, n)
          | false => .leaf (.raw undef, U, lo))
        (match want with
          | false => stepO (ansT _) P co o.op tmU U lo fun sv hp n => forceV sv fun sv => .leaf (sv, hp, n)
          | true => .leaf (.raw undef, U, lo))
      | some (.raw _) => .leaf (.raw undef, U, lo)
      | _ => .fail
    | none => .fail

def memN (t : Nat) : List Nat → Bool
  | [] => false
  | u :: r => match Nat.beq t u with
    | true => true
    | false => memN t r
theorem memN_mem {t : Nat} : ∀ {l : List Nat}, t ∈ l → memN t l = true
  | u :: r, h => by
    unfold memN
    split
    · rfl
    · rename_i hb
      rcases List.mem_cons.1 h with rfl | h
      · exact absurd rfl (Nat.ne_of_beq_eq_false hb)
      · exact memN_mem h
def apart (a b : Hp C) : Bool := match a with
  | [] => true
  | (x, _) :: r => match find x b with
    | some _ => false
    | none => apart r b
theorem apart_find {b : Hp C} {x : Nat} {o : SO C} (hb : find x b = some o) : ∀ {a : Hp C}, apart a b = true → find x a = none
  | [], _ => rfl
  | (y, oy) :: r, h => by
    unfold apart at h
    split at h
    · cases h
    · rename_i hy
      rw [find_cons]
      split
      · rename_i e; subst e; rw [hb] at hy; cases hy
      · exact apart_find hb h
def dstNe (a b : Option Tmp) : Bool := match a, b with
  | some t, some u => match Nat.beq t u with
    | true => false
    | false => true
  | _, _ => true
/-- Where one writes what the other reads, the one is bound behind the other. -/
def rdOk (dst : Option Tmp) (rd : List Tmp) (b : Bool) : Bool := match dst with
  | some t => match memN t rd with
    | true => b
    | false => true
  | none => true
def pairOk (an : Nat) (dst : Option Tmp) (rd : List Tmp) (U δ : Hp C) (r : Rec C) : Bool := match dstNe dst r.dst with
  | false => false
  | true => match Nat.testBit an r.ix with
    | true => true
    | false => match rdOk dst r.rd false with
      | false => false
      | true => match rdOk r.dst rd false with
        | false => false
        | true => match apart δ r.U with
          | false => false
          | true => match apart r.δ U with
            | false => false
            | true => apart r.δ δ
def allOk (an : Nat) (dst : Option Tmp) (rd : List Tmp) (U δ : Hp C) : List (Rec C) → Bool
  | [] => true
  | r :: rs => match pairOk an dst rd U δ r with
    | true => allOk an dst rd U δ rs
    | false => false
def dstOk (N : Nat) : Option Tmp → Bool
  | none => true
  | some t => Nat.blt t N
def putD (d : Option Tmp) (v : SV) (tm : Tm) : Tm := match d with
  | some t => (t, v) :: tm
  | none => tm
def takeK (h : Hp C) (m : Nat) (k : Hp C → R) : R :=
  List.rec (motive := fun _ => Nat → (Hp C → R) → R) (fun _ k => k []) (fun x _ ih m k => match m with
    | 0 => k []
    | m + 1 => ih m fun l => k (x :: l)) h m k
theorem takeK_eq : ∀ (h : Hp C) (m : Nat) (k : Hp C → R), takeK h m k = k (h.take m)
  | [], m, k => by cases m <;> rfl
  | x :: r, 0, k => rfl
  | x :: r, m + 1, k => by
    show takeK r m (fun l => k (x :: l)) = _
    rw [takeK_eq r]; rfl

/-- Does a later operation hang on this one's answer? -/
def isGrd (i : Nat) : List Oper → Bool
  | [] => false
  | o :: r => match o.guard with
    | some (j, _) => match Nat.beq i j with
      | true => true
      | false => isGrd i r
    | none => isGrd i r
/-- Where others hang on it, the answer is taken apart. -/
def litK (A : Ans R) (all : List Oper) (i : Nat) (sv : SV) (k : SV → R) : R := match sv with
  | .raw (.bool b) => match isGrd i all with
    | true => A.br b (k (.raw (.bool true))) (k (.raw (.bool false)))
    | false => k (.raw (.bool b))
  | sv => k sv
theorem litK_spec {A : Ans R} {I : R → Prop} (hA : AnsOk A I) {all : List Oper} {i : Nat} {sv : SV} {k : SV → R} (h : I (litK A all i sv k)) : ∃ sv', sv' = sv ∧ I (k sv') := by
  unfold litK at h
  split at h
  · rename_i b
    split at h
    · have h := hA.br _ _ _ h
      cases b with
      | true => exact ⟨_, rfl, h.1 rfl⟩
      | false => exact ⟨_, rfl, h.2 rfl⟩
    · exact ⟨_, rfl, h⟩
  · exact ⟨_, rfl, h⟩
def drawC (A : Ans R) (P : Program) (co : CallF C (OT C)) (N : Nat) (all : List Oper) (hp0 : Hp C) (o : Oper) (ih : Nat → Tm → List (Rec C) → Nat → R) (i : Nat) (tm : Tm) (recs : List (Rec C)) (n : Nat) : R :=
  match anc recs o.after.toList with
  | none => A.bad
  | some an => match dstOk N o.dst with
    | false => A.bad
    | true => uHeap an recs hp0 o (pick (rdT all o) tm) fun U => (stepD P co all o (pick (rdT all o) tm) U n).run A fun x => match Nat.ble n x.2.2 with
        | false => A.bad
        | true => takeK x.2.1 (x.2.1.length - U.length) fun δ => match allOk an o.dst (rdT all o) U δ recs with
          | false => A.bad
          | true => litK A all i x.1 fun sv => forceN (i + 1) fun i' => ih i' (putD o.dst sv tm) (⟨i, o.dst, an, rdT all o, sv, U, δ, n, x.2.2⟩ :: recs) x.2.2
def drawGo (A : Ans R) (P : Program) (co : CallF C (OT C)) (N : Nat) (all : List Oper) (hp0 : Hp C) (l : List Oper) (i : Nat) (tm : Tm) (recs : List (Rec C)) (n : Nat) (k : Tm → List (Rec C) → Nat → R) : R :=
  List.rec (motive := fun _ => Nat → Tm → List (Rec C) → Nat → R) (fun _ tm recs n => k tm recs n) (fun o _ ih => drawC A P co N all hp0 o ih) l i tm recs n
/-! Slices that the region cuts are made views ahead of it: so two cuts of one do not meet. What is guessed here is not leant on. -/
def Tr.guess {α : Type} : Tr α → Option α
  | .leaf a => some a
  | .br _ t f => match t.guess with
    | some a => some a
    | none => f.guess
  | .fail => none
/-- What is cut off an owner is told as a part of it: nothing is made a view ahead of a region. -/
def hasCut (_ : List Oper) : Bool := false
def goes (all : List Oper) (o : Oper) (tm : Tm) : Bool := match o.guard with
  | none => true
  | some (j, want) => match gdst all j with
    | some t => match find t tm with
      | some (.raw (.bool b)) => match b, want with
        | true, true => true
        | false, false => true
        | _, _ => false
      | _ => false
    | none => false
def cutOf (o : Op) (vs : List SV) (acc : List Nat) : List Nat := match o with
  | .slice _ _ _ _ _ => match vs with
    | .h x :: _ => x :: acc
    | _ => acc
  | _ => acc
def preGo (P : Program) (all : List Oper) : List Oper → Tm → Hp C → Nat → List Nat → List Nat
  | [], _, _, _, acc => acc
  | o :: r, tm, hp, n, acc => match isCall o.op with
    | true => preGo P all r tm hp n acc
    | false => match goes all o tm with
      | false => preGo P all r tm hp n acc
      | true => match evTs tm (argsOf o.op) with
        | none => preGo P all r tm hp n acc
        | some vs => match (prim P (fun i => find i hp) n o.op vs).guess with
          | none => preGo P all r tm hp n (cutOf o.op vs acc)
          | some x => preGo P all r (putD o.dst x.1 tm) (x.2 ++ hp) (n + 4) (cutOf o.op vs acc)
def demK (l : List Nat) (hp : Hp C) (k : Hp C → R) : R :=
  List.rec (motive := fun _ => Hp C → R) (fun hp => k hp) (fun x _ ih hp => match find x hp with
    | some (.sl true full e ts) => ih ((x, .sl false full e ts) :: hp)
    | _ => ih hp) l hp
def drawS (A : Ans R) (P : Program) (co : CallF C (OT C)) : DrawF C R := fun N ops tm hp n k => match hasCut ops with
  | false => drawGo A P co N ops hp ops 0 tm [] n fun tm' recs n' => hpK (fun _ => true) recs hp fun hp' => k tm' hp' n'
  | true => demK (preGo P ops ops tm hp n []) hp fun hp => drawGo A P co N ops hp ops 0 tm [] n fun tm' recs n' => hpK (fun _ => true) recs hp fun hp' => k tm' hp' n'

theorem demK_spec {I : R → Prop} {k : Hp C → R} {B : World} {X : Own} {ρ : Asg} {n : Nat} {w : World} : ∀ (l : List Nat) (hp : Hp C), I (demK l hp k) → Rel B X ρ hp n w → ∃ hp', I (k hp') ∧ Rel B X ρ hp' n w ∧ hp <:+ hp'
  | [], hp, h, RR => ⟨hp, h, RR, List.suffix_refl _⟩
  | x :: l, hp, h, RR => by
    have h : I (match find x hp with
      | some (.sl true full e ts) => demK l ((x, .sl false full e ts) :: hp) k
      | _ => demK l hp k) := h
    split at h
    · rename_i full e ts hx
      obtain ⟨v, hv, _⟩ := RR.obj x _ hx
      obtain ⟨hp', h1, h2, h3⟩ := demK_spec l _ h (RR.demote hx hv)
      exact ⟨hp', h1, h2, (List.suffix_cons _ _).trans h3⟩
    · exact demK_spec l hp h RR

/-! ### What a run through the region has shown. -/
structure RecOk (P : Program) (co : CallF C (OT C)) (all : List Oper) (N : Nat) (hp0 : Hp C) (tm0 : Tm) (n0 : Nat) (r : Rec C) (rs : List (Rec C)) (o : Oper) : Prop where
  op : all[r.ix]? = some o
  ix : r.ix = rs.length
  dst : r.dst = o.dst
  lt : ∀ t, o.dst = some t → t < N
  an : anc rs o.after.toList = some r.an
  sub : ∀ x v, find x r.U = some v → find x (hpBy (Nat.testBit r.an) rs hp0) = some v
  step : ∃ h', (stepD P co all o (pick r.rd (tmAll rs tm0)) r.U r.lo).get = some (r.sv, h', r.hi) ∧ r.δ = h'.take (h'.length - r.U.length)
  le : r.lo ≤ r.hi
  lo : r.lo = topN n0 rs
  all : allOk r.an r.dst r.rd r.U r.δ rs = true
def Chain (P : Program) (co : CallF C (OT C)) (all : List Oper) (N : Nat) (hp0 : Hp C) (tm0 : Tm) (n0 : Nat) : List (Rec C) → Prop
  | [] => True
  | r :: rs => (∃ o, RecOk P co all N hp0 tm0 n0 r rs o) ∧ Chain P co all N hp0 tm0 n0 rs

theorem uHeap_spec {I : R → Prop} {an : Nat} {recs : List (Rec C)} {hp : Hp C} {o : Oper} {tmU : Tm} {k : Hp C → R} (h : I (uHeap an recs hp o tmU k)) :
    ∃ U, (∀ x v, find x U = some v → find x (hpBy (Nat.testBit an) recs hp) = some v) ∧ I (k U) := by
  unfold uHeap at h
  rw [hpK_eq] at h
  split at h
  · exact ⟨_, fun x v hx => hx, h⟩
  · split at h
    · rw [consAll_eq, List.append_nil] at h
      exact ⟨_, fun x v hx => (find_pick hx).2, h⟩
    · exact ⟨[], fun x v hx => (by simp [find] at hx), h⟩

theorem drawGo_spec {A : Ans R} {I : R → Prop} (no : AnsOk A I) {co : CallF C (OT C)} {N : Nat} {all : List Oper} {hp0 : Hp C} {tm0 : Tm} {n0 : Nat} {k : Tm → List (Rec C) → Nat → R} :
    ∀ (l : List Oper) (i : Nat) (tm : Tm) (recs : List (Rec C)) (n : Nat), I (drawGo A P co N all hp0 l i tm recs n k) → Chain P co all N hp0 tm0 n0 recs → i = recs.length → i ≤ all.length → all.drop i = l → tm = tmAll recs tm0 → n = topN n0 recs →
    ∃ recs', Chain P co all N hp0 tm0 n0 recs' ∧ recs'.length = all.length ∧ I (k (tmAll recs' tm0) recs' (topN n0 recs'))
  | [], i, tm, recs, n, h, hc, hi, hle0, hl, ht, hn => by
    subst ht; subst hn
    have hle : all.length ≤ i := by simpa using List.drop_eq_nil_iff.1 hl
    exact ⟨recs, hc, by omega, h⟩
  | o :: r, i, tm, recs, n, h, hc, hi, hle0, hl, ht, hn => by
    have h : I (drawC A P co N all hp0 o (fun i tm recs n => drawGo A P co N all hp0 r i tm recs n k) i tm recs n) := h
    have ho : all[i]? = some o := by
      have := congrArg (fun l => l[0]?) hl
      simpa using this
    have hr : all.drop (i + 1) = r := by
      have := congrArg List.tail hl
      simpa using this
    unfold drawC at h
    split at h
    · exact (no.no h).elim
    · rename_i an han
      split at h
      · exact (no.no h).elim
      · rename_i hdst
        obtain ⟨U, hU, h⟩ := uHeap_spec h
        obtain ⟨⟨sv, h', n'⟩, hst, h⟩ := Tr.run_get no h
        · split at h
          · exact (no.no h).elim
          · rename_i hble
            rw [takeK_eq] at h
            split at h
            · exact (no.no h).elim
            · rename_i hall
              obtain ⟨_, rfl, h⟩ := litK_spec no h
              rw [forceN_eq] at h
              subst hi; subst ht; subst hn
              refine drawGo_spec no r _ _ _ _ h ⟨⟨o, ⟨ho, rfl, rfl, ?_, han, hU, ⟨h', hst, rfl⟩, Nat.le_of_ble_eq_true hble, rfl, hall⟩⟩, hc⟩ (by simp) (by have := (List.getElem?_eq_some_iff.1 ho).1; omega) hr ?_ rfl
              · intro t ht
                rw [ht] at hdst
                exact Nat.le_of_ble_eq_true hdst
              · simp only [tmAll, putD]
end
end Go.Sx
