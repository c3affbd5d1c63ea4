/-
  The symbolic evaluator: rounds and functions told by small trees, handles by numbers of their own. Own work; nothing here is trusted.
-/
import Derived.Test.YtkhlmlcjedbkcaaSxShut
namespace Go.Sx
noncomputable section
open Go.RowKit

variable {C : Tab} {P : Program} {R : Type}

def forceIdsT {α : Type} (l : List Nat) (k : List Nat → Tr α) : Tr α := match l with
  | [] => k []
  | i :: r => forceN i fun i => forceIdsT r fun r => k (i :: r)
theorem forceIdsT_eq {α : Type} (l : List Nat) (k : List Nat → Tr α) : forceIdsT l k = k l := by
  induction l generalizing k with
  | nil => rfl
  | cons i r ih => unfold forceIdsT; rw [forceN_eq, ih]
def rangeL : Nat → Nat → List Nat
  | _, 0 => []
  | i, n + 1 => i :: rangeL (i + 1) n
theorem rangeL_len : ∀ (n i : Nat), (rangeL i n).length = n
  | 0, _ => rfl
  | n + 1, i => by simp [rangeL, rangeL_len n]
theorem rangeL_at : ∀ (n i j : Nat), j < n → (rangeL i n)[j]? = some (i + j)
  | n + 1, i, 0, _ => rfl
  | n + 1, i, j + 1, h => by
    simp only [rangeL, List.getElem?_cons_succ]
    rw [rangeL_at n (i + 1) j (by omega)]; congr 1; omega
/-- Those that are not of the base. -/
def newIds (nb : Nat) : List Nat → List Nat
  | [] => []
  | i :: r => match Nat.blt i nb with
    | true => newIds nb r
    | false => i :: newIds nb r
/-- Values and what lies behind them, the base first, what is new behind it. -/
def canonV (nb : Nat) (vs : List SV) (hp : Hp C) : Tr (List SV × List (SO C)) :=
  forceIdsT (rangeL 0 nb ++ newIds nb (reachN hp 1000 (relL vs 0).2 [])) fun ids => match noDup ids, numL ids vs, objsN ids hp ids with
    | true, some ws, some os => .leaf (ws, os)
    | _, _, _ => .fail

/-- What a state is, by numbers of its own. -/
structure CanonOk (nb : Nat) (vs : List SV) (hp : Hp C) (n : Nat) (ws : List SV) (os : List (SO C)) (f : Nat → Nat) : Prop where
  vals : renL f ws = vs
  ren : Renum hp f (numH 0 os)
  fresh : ∀ i, os.length ≤ i → n ≤ f i
  base : ∀ i, i < nb → f i = i
  le : nb ≤ os.length
theorem canonV_ok {nb : Nat} {vs : List SV} {hp : Hp C} {n : Nat} {ws : List SV} {os : List (SO C)} (h : (canonV nb vs hp).get = some (ws, os)) : ∃ f, CanonOk nb vs hp n ws os f := by
  unfold canonV at h
  rw [forceIdsT_eq] at h
  generalize newIds nb (reachN hp 1000 (relL vs 0).2 []) = news at *
  split at h
  · rename_i ws' os' hnd hvs hos
    simp only [Tr.get, Option.some.injEq, Prod.mk.injEq] at h
    obtain ⟨rfl, rfl⟩ := h
    obtain ⟨hlen, hat⟩ := objsN_at hos
    have hfd : ∀ j i, (rangeL 0 nb ++ news)[j]? = some i → mapN (rangeL 0 nb ++ news) n j = i := fun j i hj => by unfold mapN; rw [hj]
    refine ⟨mapN (rangeL 0 nb ++ news) n, numL_ren hfd _ hvs, ⟨fun j o hj => ?_, fun i j oi oj hi hj hij _ _ e => ?_⟩, fun i hi => ?_, fun i hi => ?_, ?_⟩
    · obtain ⟨_, g2⟩ := find_num hj
      rw [Nat.sub_zero] at g2
      obtain ⟨i, O, g3, g4, g5⟩ := hat j o g2
      exact ⟨O, by rw [hfd j i g3]; exact g4, by rw [numO_ren hfd g5]; exact subO.refl _⟩
    · obtain ⟨_, g2⟩ := find_num hi
      obtain ⟨_, g4⟩ := find_num hj
      rw [Nat.sub_zero] at g2 g4
      obtain ⟨x, _, g5, _⟩ := hat i oi g2
      obtain ⟨y, _, g6, _⟩ := hat j oj g4
      rw [hfd i x g5, hfd j y g6] at e
      subst e
      obtain ⟨l1, e1⟩ := List.getElem?_eq_some_iff.1 g5
      obtain ⟨l2, e2⟩ := List.getElem?_eq_some_iff.1 g6
      have hp' := List.pairwise_iff_getElem.1 (noDup_spec hnd)
      rcases Nat.lt_trichotomy i j with hl | hl | hl
      · exact hp' _ _ l1 l2 hl (e1.trans e2.symm)
      · exact hij hl
      · exact hp' _ _ l2 l1 hl (e2.trans e1.symm)
    · unfold mapN
      rw [List.getElem?_eq_none (by omega)]
      exact Nat.le_add_right _ _
    · exact (hfd i i (by rw [List.getElem?_append_left (by rw [rangeL_len]; exact hi), rangeL_at nb 0 i hi, Nat.zero_add]))
    · rw [hlen, List.length_append, rangeL_len]; omega
  · cases h

/-! ### Rounds. -/
abbrev RT (C : Tab) := Tr (Ex × List SV × List (SO C))
def canonR (slots : List Nat) (nb : Nat) (r : Ex × Tm × Hp C × Nat) : RT C := match getAll slots r.2.1 with
  | some vs => shutL vs r.2.2.1 r.2.2.2 fun vs hp n => shutBs (reachN hp 1000 (relL vs 0).2 []) hp n fun hp _ => (canonV nb vs hp).bind fun y => .leaf (r.1, y.1, y.2)
  | none => .fail
def roundC (C : Tab) (P : Program) (sp : SpecT C) (ls : LoopT C) (unr : Nat → Nat → Nat) (d g N blk : Nat) (c : Code) (slots : List Nat) (i : LI C) : RT C :=
  (roundE C P sp ls unr d g N blk c (i.st slots)).bind (canonR slots i.nb)
/-- The round of the one loop of a function in its block. -/
def roundG (C : Tab) (P : Program) (sp : SpecT C) (ls : LoopT C) (unr : Nat → Nat → Nat) (d g blk : Nat) (slots : List Nat) (i : LI C) : RT C := match loopOf P g blk with
  | some (N, c) => roundC C P sp ls unr d g N blk c slots i
  | none => .fail
theorem getAll_den {ρ : Asg} {tm : Tm} {a : Act} (T : TmOk ρ tm a) : ∀ {ts : List Nat} {vs : List SV}, getAll ts tm = some vs → ∃ us, denL ρ vs = some us ∧ ∀ t v, (t, v) ∈ ts.zip us → a.tmps[t]? = some v
  | [], vs, h => by cases h; exact ⟨[], rfl, by simp⟩
  | t :: r, vs, h => by
    unfold getAll at h
    split at h
    · rename_i v hv
      split at h
      · rename_i l hl
        cases h
        obtain ⟨us, h1, h2⟩ := getAll_den T hl
        obtain ⟨u, h3, h4⟩ := T t v hv
        refine ⟨u :: us, denL_cons.2 ⟨u, us, h3, h1, rfl⟩, fun t' v' hm => ?_⟩
        rw [List.zip_cons_cons] at hm
        rcases List.mem_cons.1 hm with hm | hm
        · cases hm; exact h4
        · exact h2 t' v' hm
      · cases h
    · cases h
theorem zip_den {ρ : Asg} : ∀ {ts : List Nat} {vs : List SV} {us : List Value} {t : Nat} {sv : SV}, denL ρ vs = some us → find t (zipT ts vs) = some sv → ∃ v, den ρ sv = some v ∧ (t, v) ∈ ts.zip us
  | [], vs, us, t, sv, _, h => by simp [zipT, find] at h
  | x :: ts, [], us, t, sv, _, h => by simp [zipT, find] at h
  | x :: ts, v :: vs, us, t, sv, hd, h => by
    obtain ⟨u, l, h1, h2, rfl⟩ := denL_cons.1 hd
    unfold zipT at h
    rw [find_cons] at h
    split at h
    · rename_i e; cases h; subst e; exact ⟨u, h1, by simp⟩
    · obtain ⟨v', h3, h4⟩ := zip_den h2 h
      exact ⟨v', h3, List.mem_cons_of_mem _ h4⟩
def isNorm : Ex → Bool
  | .normal => true
  | _ => false
theorem loop_li (hp0 : Plain P) (hm : P.follows .mixedOrders = true) {sp : SpecT C} (hs : SpecTOk P sp) {ls : LoopT C} (hl : LoopTOk P ls) {unr : Nat → Nat → Nat} {d g blk N : Nat} {c : Code} (hc : loopOf P g blk = some (N, c))
    {slots : List Nat} {nb : Nat} {σ : Type} {st : σ → List SV × List (SO C)} {Inv : σ → Prop} {μ : σ → Nat} {Q : Ex → List SV → List (SO C) → Prop}
    (h : ∀ s, Inv s → ∃ y, (roundG C P sp ls unr d g blk slots ⟨(st s).1, nb, (st s).2⟩).get = some y ∧
      (isNorm y.1 = true → ∃ s', Inv s' ∧ μ s' < μ s ∧ y.2 = st s') ∧ (isNorm y.1 = false → Q y.1 y.2.1 y.2.2)) (s : σ) (hi : Inv s) :
    LoopRun P N c nb (LI.st slots ⟨(st s).1, nb, (st s).2⟩) fun x T => ∃ vs os, Q x vs os ∧ T = ⟨zipT slots vs, numH 0 os, os.length⟩ := by
  refine loop_run (d := d) (unr := unr) (μ := μ) (Inv := Inv) (st := fun s => LI.st slots ⟨(st s).1, nb, (st s).2⟩) hp0 hm hs hl hc (fun s hs' => ?_) s hi
  obtain ⟨y, h1, h2, h3⟩ := h s hs'
  unfold roundG at h1
  rw [hc] at h1
  obtain ⟨⟨x, tm, hp, n⟩, h4, h5⟩ := Tr.get_bind h1
  refine ⟨_, h4, ?_⟩
  unfold canonR at h5
  split at h5
  · rename_i vs hvs
    obtain ⟨vs2, hp2, n2, h5, s1⟩ := shutL_spec _ _ _ _ h5
    obtain ⟨hp3, n3, h5, s2⟩ := shutBs_spec _ _ _ _ h5
    obtain ⟨⟨ws, os⟩, h6, h7⟩ := Tr.get_bind h5
    simp only [Tr.get, Option.some.injEq] at h7
    subst h7
    obtain ⟨f, hf⟩ := canonV_ok (n := n3) h6
    have fits : Into nb tm hp n (LI.st slots ⟨ws, nb, os⟩) := fun B X ρ w a hX RR T => by
      obtain ⟨us, hus, ht⟩ := getAll_den T hvs
      obtain ⟨ρ1, p1, R1, d1⟩ := s1 B X ρ w us RR hus
      obtain ⟨ρ2, p2, R2⟩ := s2 B X ρ1 w R1
      have d2 := denL_mono p2 _ _ d1
      refine ⟨fun i => ρ2 (f i), R2.ren hf.ren (by rw [hX]; exact hf.le) (fun i hi => hf.base i (by rw [← hX]; exact hi)) hf.fresh, fun t sv hsv => ?_⟩
      obtain ⟨v, q1, q2⟩ := zip_den (ρ := fun i => ρ2 (f i)) (us := us) (by rw [denL_ren, hf.vals]; exact d2) hsv
      exact ⟨v, q1, ht t v q2⟩
    cases hx : isNorm x with
    | true =>
      obtain ⟨s', g1, g2, g3⟩ := h2 hx
      cases x <;> simp [isNorm] at hx
      have e1 : ws = (st s').1 := by rw [← g3]
      have e2 : os = (st s').2 := by rw [← g3]
      subst e1; subst e2
      exact .next s' tm hp n g1 g2 fits
    | false =>
      refine .stop x (LI.st slots ⟨ws, nb, os⟩) tm hp n (fun y e => ?_) ⟨ws, os, h3 hx, rfl⟩ fits
      subst e
      cases x <;> simp [isNorm, exitOf] at hx ⊢
  · cases h5
/-- A loop told by a function: its soundness out of an induction. -/
theorem loopS_of {N : Nat} {c : Code} {bs ks : List Nat} {F : LoopFn C}
    (hF : ∀ li r, (F li).get = some r → Keeps li.nb li.os r.2.2 ∧ LoopRun P N c li.nb (li.st (bs ++ ks)) fun x T => ∃ vs os, (x = r.1 ∧ (vs, os) = r.2) ∧ T = ⟨zipT (bs ++ ks) vs, numH 0 os, os.length⟩) :
    ∀ tm hp n x, (loopS bs ks F tm hp n).get = some x → InLoop P N c tm hp n fun e tm hp n => (e, tm, hp, n) = x := loopS_ok fun li r h => by
  obtain ⟨h1, h2⟩ := hF li r h
  refine ⟨h1, fun B X ρ w a hX hN hD RR T b kk cs => ?_⟩
  obtain ⟨e, a', w', ⟨x, T1, ρ', ⟨vs, os, ⟨rfl, e2⟩, rfl⟩, g⟩, harr⟩ := h2 B X ρ w a hX hN hD RR T b kk cs
  have e3 : vs = r.2.1 := by rw [← e2]
  have e4 : os = r.2.2 := by rw [← e2]
  subst e3; subst e4
  exact ⟨e, a', w', ⟨_, _, ρ', ⟨rfl, rfl⟩, g⟩, harr⟩

/-! ### Functions. -/
def fnC (C : Tab) (P : Program) (sp : SpecT C) (ls : LoopT C) (unr : Nat → Nat → Nat) (d g : Nat) (args : List SV) (os : List (SO C)) : Tr (SV × List (SO C)) :=
  (evalT C P sp ls unr d g args (numH 0 os) os.length fun sv hp n => .leaf (sv, hp, n)).bind fun q => shutL [q.1] q.2.1 q.2.2 fun vs hp _ => (canonV os.length vs hp).bind fun y => match y.1 with
    | [v] => .leaf (v, y.2.drop os.length)
    | _ => .fail
theorem fnC_ok (hp0 : Plain P) (hm : P.follows .mixedOrders = true) {sp : SpecT C} (hs : SpecTOk P sp) {ls : LoopT C} (hl : LoopTOk P ls) {unr : Nat → Nat → Nat} {d g : Nat} {args : List SV} {os : List (SO C)} {r : SV × List (SO C)}
    (h : (fnC C P sp ls unr d g args os).get = some r) : Fn0 P g args os r := by
  unfold fnC at h
  obtain ⟨⟨sv, hp1, n1⟩, h1, h2⟩ := Tr.get_bind h
  obtain ⟨vs2, hp2, n2, h2, s1⟩ := shutL_spec _ _ _ _ h2
  obtain ⟨⟨ws, os1⟩, h3, h4⟩ := Tr.get_bind h2
  simp only at h4
  split at h4
  · rename_i v
    simp only [Tr.get, Option.some.injEq] at h4
    subst h4
    obtain ⟨f, hf⟩ := canonV_ok (n := n2) h3
    intro B X ρ w vals hX RR hd
    obtain ⟨g1, g2⟩ := evalT_ok hp0 hm hs hl (unr := unr) d _ g args (numH 0 os) os.length _ B X ρ w vals h1 RR hd
    refine ⟨g1, g2.mono ?_⟩
    rintro e w' ⟨ρ', v', sv', hp', n', rfl, h5, h6, h7, h8, h9⟩
    simp only [Tr.get, Option.some.injEq, Prod.mk.injEq] at h9
    obtain ⟨rfl, rfl, rfl⟩ := h9
    obtain ⟨ρ2, p2, R2, d2⟩ := s1 B X ρ' w' [v'] h8 (denL_one h7)
    have hl1 := hf.le
    have hlen : os.length + (os1.drop os.length).length = os1.length := by simp; omega
    have hR := R2.ren (hp' := numH os.length (os1.drop os.length)) (n' := os.length + (os1.drop os.length).length) (f := f) ⟨fun j o hj => by
        obtain ⟨q1, q2⟩ := find_num hj
        rw [List.getElem?_drop, show os.length + (j - os.length) = j by omega] at q2
        have := num_find (m := 0) q2
        rw [Nat.zero_add] at this
        exact hf.ren.ent j o this, fun i j oi oj hi hj => by
        obtain ⟨q1, q2⟩ := find_num hi
        rw [List.getElem?_drop, show os.length + (i - os.length) = i by omega] at q2
        obtain ⟨q3, q4⟩ := find_num hj
        rw [List.getElem?_drop, show os.length + (j - os.length) = j by omega] at q4
        have e1 := num_find (m := 0) q2
        have e2 := num_find (m := 0) q4
        rw [Nat.zero_add] at e1 e2
        exact hf.ren.inj i j oi oj e1 e2⟩ (by omega) (fun i hi => hf.base i (by omega)) (fun i hi => hf.fresh i (by omega))
    refine ⟨_, v', rfl, hR, ?_⟩
    rw [← hf.vals, ← denL_ren] at d2
    obtain ⟨u, l, d3, d4, d5⟩ := denL_cons.1 d2
    simp only [List.cons.injEq] at d5
    rw [d5.1]; exact d3
  · cases h4
/-- A function told by a tree that it was reckoned to have. -/
theorem viewS_of (hp0 : Plain P) (hm : P.follows .mixedOrders = true) {sp : SpecT C} (hs : SpecTOk P sp) {ls : LoopT C} (hl : LoopTOk P ls) {unr : Nat → Nat → Nat} {d g : Nat} {F : FnF C}
    (h : ∀ args os r, (F args os).get = some r → (fnC C P sp ls unr d g args os).get = some r) : ∀ vs hp n x, (viewS F vs hp n).get = some x → FnAns P g vs hp n x :=
  viewS_ok fun args os r hr => fnC_ok hp0 hm hs hl (h args os r hr)

/-! What a tree answers, as it is written down. -/
def bro {α : Type} (b : Bool) (t f : Option α) : Option α := Bool.rec (motive := fun _ => Option α) f t b
@[simp] theorem bro_true {α : Type} (t f : Option α) : bro true t f = t := rfl
@[simp] theorem bro_false {α : Type} (t f : Option α) : bro false t f = f := rfl
theorem bro_on {α : Type} {b : Bool} {t f : Option α} (h : b = true) : bro b t f = t := by subst h; rfl
theorem bro_off {α : Type} {b : Bool} {t f : Option α} (h : b = false) : bro b t f = f := by subst h; rfl
/-! Trees, followed where one knows the way. -/
def Tr.follow {α : Type} : List Bool → Tr α → Option (List Bool × α)
  | [], .leaf a => some ([], a)
  | true :: ds, .br c t _ => match Tr.follow ds t with
    | some (cs, a) => some (c :: cs, a)
    | none => none
  | false :: ds, .br c _ f => match Tr.follow ds f with
    | some (cs, a) => some (c :: cs, a)
    | none => none
  | _, _ => none
theorem Tr.follow_get {α : Type} : ∀ {ds cs : List Bool} {t : Tr α} {a : α}, t.follow ds = some (cs, a) → cs = ds → t.get = some a
  | [], cs, .leaf a, b, h, _ => by simp only [Tr.follow, Option.some.injEq, Prod.mk.injEq] at h; rw [← h.2]; rfl
  | [], _, .br _ _ _, _, h, _ => by cases h
  | [], _, .fail, _, h, _ => by cases h
  | true :: ds, cs, .br c t f, a, h, e => by
    unfold Tr.follow at h
    split at h
    · rename_i cs' a' h'
      simp only [Option.some.injEq, Prod.mk.injEq] at h
      obtain ⟨rfl, rfl⟩ := h
      cases e
      have := Tr.follow_get h' rfl
      exact this
    · cases h
  | false :: ds, cs, .br c t f, a, h, e => by
    unfold Tr.follow at h
    split at h
    · rename_i cs' a' h'
      simp only [Option.some.injEq, Prod.mk.injEq] at h
      obtain ⟨rfl, rfl⟩ := h
      cases e
      have := Tr.follow_get h' rfl
      exact this
    · cases h
  | true :: _, _, .leaf _, _, h, _ => by cases h
  | true :: _, _, .fail, _, h, _ => by cases h
  | false :: _, _, .leaf _, _, h, _ => by cases h
  | false :: _, _, .fail, _, h, _ => by cases h

/-- Functions of plain values out of their elder form. -/
theorem Fn0.flat {g : Nat} {F : List SV → (SV → Prop) → Prop} (h : CallOk1 (C := C) P g (flatF F)) {args : List SV} {v : SV} (hF : ∀ K, K v → F args K) : Fn0 (C := C) P g args [] (v, []) := fun B X ρ w vals hX RR hd => by
  obtain ⟨h1, h2⟩ := h args [] 0 (fun sv hp n => sv = v ∧ hp = [] ∧ n = 0) B X ρ w vals (hF _ ⟨rfl, rfl, rfl⟩) RR hd
  refine ⟨h1, h2.mono ?_⟩
  rintro e w' ⟨ρ', u, sv, hp', n', rfl, _, _, h5, h6, rfl, rfl, rfl⟩
  exact ⟨ρ', u, rfl, h6, h5⟩
/-- A function whose answer is known, and that lays at most new blocks. -/
theorem Fn0.const {g : Nat} {v : Value} {vals0 : List Value} (hb : hasBody P g = true) (h : ∀ w, Calls P g vals0.toArray w fun e w' => e = .returned v ∧ Below w.heap.size w w') {args : List SV} (ha : ∀ ρ, denL ρ args = some vals0) : Fn0 (C := C) P g args [] (.raw v, []) := fun B X ρ w vals hX RR hd => by
  rw [ha ρ] at hd; cases hd
  refine ⟨?_, (h w).mono ?_⟩
  · unfold hasBody at hb
    split at hb
    · rename_i fn hfn; exact ⟨fn, hfn, hb⟩
    · cases hb
  · rintro e w' ⟨rfl, bel⟩
    exact ⟨ρ, v, rfl, RR.below bel, rfl⟩
def sel {α : Type} (c : Bool) (a b : α) : α := match c with
  | true => a
  | false => b
@[simp] theorem sel_true {α : Type} (a b : α) : sel true a b = a := rfl
@[simp] theorem sel_false {α : Type} (a b : α) : sel false a b = b := rfl
def SO.shp (o : SO C) : Bool × Bool := (o.owns, o.live)
/-- What a loop keeps, read off. -/
theorem Keeps.of2 {nb : Nat} {os os1 : List (SO C)} (hl : nb ≤ os1.length) (h : (os1.take nb).map SO.shp = (os.take nb).map SO.shp) (hn : ∀ o ∈ os1.drop nb, o.owns = true ∨ o.live = false) : Keeps nb os os1 where
  le := hl
  lo j o hj hlt := by
    have h1 : ((os1.take nb).map SO.shp)[j]? = some o.shp := by rw [List.getElem?_map, List.getElem?_take, if_pos hlt, hj]; rfl
    rw [h, List.getElem?_map, List.getElem?_take, if_pos hlt] at h1
    cases h0 : os[j]? with
    | none => rw [h0] at h1; cases h1
    | some o0 =>
      rw [h0] at h1
      simp only [Option.map_some, Option.some.injEq, SO.shp, Prod.mk.injEq] at h1
      exact ⟨o0, rfl, fun ho => by rw [h1.1]; exact ho, fun ho => by rw [h1.2]; exact ho⟩
  hi j o hj hge := hn o (List.mem_iff_getElem?.2 ⟨j - nb, by rw [List.getElem?_drop, show nb + (j - nb) = j by omega]; exact hj⟩)
theorem Keeps.of {nb : Nat} {os os1 : List (SO C)} (hl : nb ≤ os1.length) (h : (os1.take nb).map SO.shp = (os.take nb).map SO.shp) (hn : ∀ o ∈ os1.drop nb, o.owns = true) : Keeps nb os os1 := Keeps.of2 hl h fun o ho => .inl (hn o ho)
/-- At a loop's end what is not wanted may be given up. -/
theorem LoopRun.weak {N : Nat} {c : Code} {nb : Nat} {S : LS C} {Q Q' : Ex → LS C → Prop} (h : LoopRun P N c nb S Q) (hq : ∀ x T, Q x T → ∃ T', Q' x T' ∧ T'.n = T.n ∧ T'.tm = T.tm ∧ ∀ j o, find j T'.hp = some o → ∃ O, find j T.hp = some O ∧ subO (renO (fun i => i) o) O) : LoopRun P N c nb S Q' := fun B X ρ w a hX hN hD RR T b kk cs => by
  obtain ⟨e, a', w', ⟨x, T1, ρ', h1, rfl, g1, g2, R1, T2⟩, harr⟩ := h B X ρ w a hX hN hD RR T b kk cs
  obtain ⟨T', h2, e1, e2, h3⟩ := hq x T1 h1
  have R' := R1.ren (f := fun i => i) (hp' := T'.hp) ⟨h3, fun i j _ _ _ _ hij _ _ => hij⟩ R1.nbLe (fun _ _ => rfl) (fun _ h => h)
  exact ⟨_, a', w', ⟨x, T', ρ', h2, rfl, g1, g2, by rw [e1]; exact R', by rw [e2]; exact T2⟩, harr⟩
end
end Go.Sx
