/-
  The symbolic evaluator: parts of a function's code run one behind the other, each over a world of its own. Own work; nothing here is trusted.
-/
import Derived.Test.YtgepgnjjhgmfnaaSxC
namespace Go.Sx
noncomputable section
open Go.RowKit

variable {C : Tab} {P : Program} {R : Type}
mutual
theorem renV_id : ∀ (v : SV), renV (fun i => i) v = v
  | .raw _ => rfl
  | .h _ => rfl
  | .ep _ _ => rfl
  | .bs _ _ _ _ => rfl
  | .vs _ _ _ _ _ _ => rfl
  | .el _ _ _ _ => rfl
  | .agg cs => by simp only [renV, renL_id cs]
  | .tup cs => by simp only [renV, renL_id cs]
  | .fn _ cs => by simp only [renV, renL_id cs]
theorem renL_id : ∀ (l : List SV), renL (fun i => i) l = l
  | [] => rfl
  | v :: r => by simp only [renL, renV_id v, renL_id r]
end
theorem renO_id (o : SO C) : renO (fun i => i) o = o := by
  cases o <;> first | rfl | simp only [renO, renL_id]
theorem canonR_out {t : LT C} {slots : List Nat} {nb : Nat} {x : Ex} {vs : List SV} {os' : List (SO C)} (h : (t.bind (canonR slots nb)).get = some (x, vs, os')) :
    ∃ tm hp n, t.get = some (x, tm, hp, n) ∧ ∀ B X ρ w a, X.nb = nb → Rel B X ρ hp n w → TmOk ρ tm a →
      ∃ ρ', (∀ j, j < nb → ρ' j = X.ba j) ∧ Rel B X ρ' (numH 0 os') os'.length w ∧ TmOk ρ' (zipT slots vs) a := by
  obtain ⟨⟨x', tm, hp, n⟩, h4, h5⟩ := Tr.get_bind h
  unfold canonR at h5
  split at h5
  · rename_i ws hvs
    obtain ⟨vs2, hp2, n2, h5, s1⟩ := shutL_spec _ _ _ _ h5
    obtain ⟨hp3, n3, h5, s2⟩ := shutBs_spec _ _ _ _ h5
    obtain ⟨⟨ws2, os2⟩, h6, h7⟩ := Tr.get_bind h5
    simp only [Tr.get, Option.some.injEq, Prod.mk.injEq] at h7
    obtain ⟨rfl, rfl, rfl⟩ := h7
    obtain ⟨f, hf⟩ := canonV_ok (n := n3) h6
    refine ⟨tm, hp, n, h4, fun B X ρ w a hX RR T => ?_⟩
    obtain ⟨us, hus, ht⟩ := getAll_den T hvs
    obtain ⟨ρ2, p2, R2, d2⟩ := s1 B X ρ w us RR hus
    obtain ⟨ρ3, p3, R3⟩ := s2 B X ρ2 w R2
    have d3 := denL_mono p3 _ _ d2
    have R4 := R3.ren hf.ren (by rw [hX]; exact hf.le) (fun i hi => hf.base i (by rw [← hX]; exact hi)) hf.fresh
    refine ⟨_, fun j hj => R4.agree j (by omega), R4, fun t sv hsv => ?_⟩
    have e5 : denL (fun i => ρ3 (f i)) ws2 = some us := by
      have := d3
      rw [← hf.vals, ← denL_ren] at this
      exact this
    obtain ⟨v, q1, q2⟩ := zip_den (us := us) e5 hsv
    exact ⟨v, q1, ht t v q2⟩
  · cases h5
/-- A piece, with loops that are told. -/
def pieceL (C : Tab) (P : Program) (sp : SpecT C) (ls : LoopT C) (unr : Nat → Nat → Nat) (d g N : Nat) (c : Code) (slots outs : List Nat) (i : LI C) : RT C :=
  (roundE C P sp ls unr d g N 0 c (i.st slots)).bind (canonR outs i.nb)
/-- A world as its own base. -/
def Self (fz : Nat → Prop) (ρ : Asg) (os : List (SO C)) (w : World) : Prop := Rel w (ownOf ρ (numH 0 os) 0 fz) ρ (numH 0 os) os.length w
/-- What stands behind an owned handle. -/
def Mine (ρ : Asg) (os : List (SO C)) (g : Nat) : Prop := ∃ (i : Nat) (o : SO C) (v : Value), os[i]? = some o ∧ o.owns = true ∧ ρ i = some v ∧ blk v = some g
theorem mine_wr {fz : Nat → Prop} {ρ : Asg} {os : List (SO C)} {g : Nat} : (ownOf ρ (numH 0 os) 0 fz).wr g ↔ Mine ρ os g := by
  constructor
  · rintro ⟨x, o, v, h1, h2, h3, h4⟩
    obtain ⟨_, q⟩ := find_num h1
    rw [Nat.sub_zero] at q
    exact ⟨x, o, v, q, h2, h3, h4⟩
  · rintro ⟨x, o, v, h1, h2, h3, h4⟩
    have := num_find (m := 0) h1
    rw [Nat.zero_add] at this
    exact ⟨x, o, v, this, h2, h3, h4⟩
/-- What a step leaves as it was. -/
structure Stood (ρ : Asg) (os : List (SO C)) (w w' : World) : Prop where
  sys : w'.os = w.os
  tape : w'.tape = w.tape
  out : w'.output = w.output
  size : w.heap.size ≤ w'.heap.size
  old : ∀ b, b < w.heap.size → ¬ Mine ρ os b → w'.heap[b]? = w.heap[b]?
theorem Rel.self {fz : Nat → Prop} {B : World} {X : Own} {ρ : Asg} {os : List (SO C)} {w : World} (h : Rel B X ρ (numH 0 os) os.length w) (hf : X.fz = fz) : Self fz ρ os w := by
  subst hf
  have := h.down (f := fun i => i) (hp' := numH 0 os) (m := os.length) (nb := 0) (Nat.zero_le _) ⟨fun j o hj => ⟨o, hj, by rw [show renO (fun i => i) o = o from renO_id o]; exact subO.refl _⟩, fun i j _ _ _ _ hij _ _ => hij⟩ (fun i hi => hi)
  exact this
/-- After a step: the world is its own base again; new owned blocks are new, or were owned. -/
theorem self_next {C : Tab} {fz : Nat → Prop} {ρ ρ' : Asg} {os os' : List (SO C)} {w w' : World} (h : Rel w (ownOf ρ (numH 0 os) 0 fz) ρ' (numH 0 os') os'.length w') :
    Self fz ρ' os' w' ∧ Stood ρ os w w' ∧ (∀ g, Mine ρ' os' g → w.heap.size ≤ g ∨ Mine ρ os g) := by
  refine ⟨h.self rfl, ⟨h.os, h.tape, h.out, h.size, fun b hb hm => h.old b hb fun hw => hm (mine_wr.1 hw)⟩, fun g hg => ?_⟩
  · obtain ⟨i, o, v, h1, h2, h3, h4⟩ := hg
    have h5 := num_find (m := 0) h1
    rw [Nat.zero_add] at h5
    exact (h.okOwn h5 h2 h3 h4).imp id mine_wr.1
/-- The last object is no longer looked at. -/
theorem Self.pop {fz : Nat → Prop} {ρ : Asg} {os : List (SO C)} {o : SO C} {w : World} (h : Self fz ρ (os ++ [o]) w) (hr : ∀ O ∈ os, ∀ f : Nat → Nat, renO f O = O) : Self fz (fun i => ρ (if i < os.length then i else i + 1)) os w := by
  have hl : (os ++ [o]).length = os.length + 1 := by simp
  refine Rel.down (f := fun i => if i < os.length then i else i + 1) h (m := os.length) (nb := 0) (Nat.zero_le _) ⟨fun j O hj => ?_, fun i j oi oj hi hj hij _ _ => ?_⟩ fun i hi => ?_
  · obtain ⟨_, q⟩ := find_num hj
    rw [Nat.sub_zero] at q
    have hlt := (List.getElem?_eq_some_iff.1 q).1
    have := num_find (os := os ++ [o]) (m := 0) (i := j) (o := O) (by rw [List.getElem?_append_left hlt]; exact q)
    rw [Nat.zero_add] at this
    refine ⟨O, by rw [if_pos hlt]; exact this, ?_⟩
    rw [hr O (List.mem_iff_getElem?.2 ⟨j, q⟩)]
    exact subO.refl _
  · split <;> split <;> omega
  · rw [if_neg (by omega), hl]; omega
def StepQ (N : Nat) (slots : List Nat) (fz : Nat → Prop) (ρ : Asg) (os : List (SO C)) (w : World) (x : Ex) (vs : List SV) (os' : List (SO C)) (e : Exit) (a' : Act) (w' : World) : Prop :=
  e = exitOf x ∧ a'.tmps.size = N ∧ a'.defers = [] ∧ ∃ ρ', Self fz ρ' os' w' ∧ Stood ρ os w w' ∧ (∀ g, Mine ρ' os' g → w.heap.size ≤ g ∨ Mine ρ os g) ∧ TmOk ρ' (zipT slots vs) a'
theorem self_step (hp0 : Plain P) (hm : P.follows .mixedOrders = true) {sp : SpecT C} (hs : SpecTOk P sp) {ls : LoopT C} (hl : LoopTOk P ls) {unr : Nat → Nat → Nat} {d g N : Nat} {c c0 : Code} {fn : Func} (hfn : P.funcs[g]? = some fn) (hb : fn.body = some c0) (hN0 : fn.ntmps = N)
    (hsub : ∀ x, x ∈ lps 0 c → x ∈ lps 0 c0) {slots outs : List Nat} {ivs : List SV} {os : List (SO C)} {x : Ex} {vs : List SV} {os' : List (SO C)}
    (h : (pieceL C P sp ls unr d g N c slots outs ⟨ivs, 0, os⟩).get = some (x, vs, os')) {fz : Nat → Prop} {ρ : Asg} {w : World} {a : Act} (hN : a.tmps.size = N) (hD : a.defers = []) (RR : Self fz ρ os w) (T : TmOk ρ (zipT slots ivs) a) :
    c.wp P (StepQ N outs fz ρ os w x vs os') a w := by
  subst hN0
  obtain ⟨tm, hp, n, h1, h2⟩ := canonR_out h
  refine wp_mono (codeS_sound (I := fun y : LT C => y.get = some (x, tm, hp, n)) hp0 (ansT_ok _) (evalR_ok (ansT_ok _) hp0 hm hs hl d) (drawS_ok hp0 hm (ansT_ok _) (evalT_ok hp0 hm hs hl d)) c 0 (fun b l hbl => hl.f (ansT_ok _) g fn c0 hfn hb b l (hsub _ hbl)) _ _ _ _ w _ ρ w a h1 hN hD RR T) fun e a' w' hq => ?_
  obtain ⟨x1, ρ1, tm1, hp1, n1, rfl, g1, g2, g3, g4, g5, g6, g7⟩ := hq
  simp only [Tr.get, Option.some.injEq, Prod.mk.injEq] at g7
  obtain ⟨rfl, rfl, rfl, rfl⟩ := g7
  obtain ⟨ρ2, _, q2, q3⟩ := h2 w _ ρ1 w' a' rfl g5 g6
  obtain ⟨r1, r2, r3⟩ := self_next q2
  exact ⟨rfl, g3, g4, ρ2, r1, r2, r3, q3⟩
/-- Some operations of a region, the first ones of what is left. -/
def opsL (C : Tab) (P : Program) (sp : SpecT C) (ls : LoopT C) (unr : Nat → Nat → Nat) (d N : Nat) (all l : List Oper) (slots outs : List Nat) (i : LI C) : RT C :=
  (regionS (ansT _) P (evalR (ansT _) C P sp ls unr d) N all l (i.st slots).tm (i.st slots).hp (i.st slots).n fun tm hp n => .leaf (Ex.normal, tm, hp, n)).bind (canonR outs i.nb)
def onN (Q1 : Act → World → Prop) (Q : Exit → Act → World → Prop) : Exit → Act → World → Prop
  | .normal, a, w => Q1 a w
  | e, a, w => Q e a w
theorem oper_on {o : Oper} {a : Act} {w : World} {K K' : Act → World → Prop} {Q1 : Act → World → Prop} {Q : Exit → Act → World → Prop} (h : ∀ a w, K a w → K' a w) (hh : o.wp P a w K (onN Q1 Q)) : o.wp P a w K' Q := by
  unfold Oper.wp at *
  generalize (execOp a.eval o).run P w = r at *
  cases r with
  | ok n w' =>
    cases n <;> simp only [Oper.upon] at hh ⊢ <;>
      first
        | exact h _ _ hh
        | exact Calls.mono hh (fun e w'' he => by cases e <;> first | exact h _ _ he | exact he)
        | exact Rows.mono hh (fun _ _ he => h _ _ he)
  | halt x w' => cases x <;> simp only [Oper.upon] at hh ⊢ <;> exact hh
theorem wpl_append {all : Array Oper} {Q : Exit → Act → World → Prop} {r : List Oper} : ∀ (l : List Oper) {a : Act} {w : World}, wpList P all (onN (wpList P all Q r) Q) l a w → wpList P all Q (l ++ r) a w
  | [], a, w, h => h
  | o :: l, a, w, h => by
    unfold wpList at h
    show wpList P all Q (o :: (l ++ r)) a w
    unfold wpList
    split at h
    · rename_i hw
      rw [if_pos hw]
      rcases h with h | h
      · exact .inl (oper_on (fun a w h => wpl_append l h) h)
      · exact .inr h
    · rename_i hw
      rw [if_neg hw]
      exact wpl_append l h
theorem self_ops (hp0 : Plain P) (hm : P.follows .mixedOrders = true) {sp : SpecT C} (hs : SpecTOk P sp) {ls : LoopT C} (hl : LoopTOk P ls) {unr : Nat → Nat → Nat} {d N : Nat} {all l r : List Oper} {slots outs : List Nat} {ivs : List SV} {os : List (SO C)} {vs : List SV} {os' : List (SO C)}
    (h : (opsL C P sp ls unr d N all l slots outs ⟨ivs, 0, os⟩).get = some (.normal, vs, os')) {fz : Nat → Prop} {ρ : Asg} {w : World} {a : Act} (hN : a.tmps.size = N) (hD : a.defers = []) (RR : Self fz ρ os w) (T : TmOk ρ (zipT slots ivs) a)
    {Q : Exit → Act → World → Prop} (hk : ∀ a' w', StepQ N outs fz ρ os w .normal vs os' .normal a' w' → wpList P all.toArray Q r a' w') : wpList P all.toArray Q (l ++ r) a w := by
  obtain ⟨tm, hp, n, h1, h2⟩ := canonR_out h
  refine wpl_append l (regionS_sound (I := fun y : LT C => y.get = some (Ex.normal, tm, hp, n)) (B := w) (X := ownOf ρ (numH 0 os) 0 fz) hp0 (ansT_ok _) (evalR_ok (ansT_ok _) hp0 hm hs hl d) l h1 hN RR T ?_)
  intro ρ1 tm1 hp1 n1 a' w' g1 g2 g3 g4 g5 g6 g7
  simp only [Tr.get, Option.some.injEq, Prod.mk.injEq] at g7
  obtain ⟨_, rfl, rfl, rfl⟩ := g7
  obtain ⟨ρ2, _, q2, q3⟩ := h2 w _ ρ1 w' a' rfl g5 g6
  obtain ⟨r1, r2, r3⟩ := self_next q2
  exact hk a' w' ⟨rfl, g3, by rw [g4, hD], ρ2, r1, r2, r3, q3⟩
/-- Slots, one by one. -/
def TmL (ρ : Asg) (a : Act) : List Nat → List SV → Prop
  | t :: ts, v :: vs => (∃ u, den ρ v = some u ∧ a.tmps[t]? = some u) ∧ TmL ρ a ts vs
  | _, _ => True
theorem TmL.ok {ρ : Asg} {a : Act} : ∀ {ts : List Nat} {vs : List SV}, TmL ρ a ts vs → TmOk ρ (zipT ts vs) a
  | t :: ts, v :: vs, h => fun s sv hs => by
    unfold zipT at hs
    rw [find_cons] at hs
    split at hs
    · rename_i e; subst e; cases hs; exact h.1
    · exact h.2.ok s sv hs
  | [], _, _ => fun s sv hs => by unfold zipT at hs; cases hs
  | _ :: _, [], _ => fun s sv hs => by unfold zipT at hs; cases hs
end
end Go.Sx
