/-
  The symbolic evaluator: a region in whatever order: why that is sound. Own work; nothing here is trusted.
-/
import Derived.Test.YtkhlmlcjedbkcaaSxAny
namespace Go.Sx
noncomputable section
open Go.RowKit

variable {C : Tab} {P : Program} {R : Type}

section stat
variable {co : CallF C (OT C)} {all : List Oper} {N : Nat} {hp0 : Hp C} {tm0 : Tm} {n0 : Nat}

theorem Chain.drop : ∀ {pre rs : List (Rec C)}, Chain P co all N hp0 tm0 n0 (pre ++ rs) → Chain P co all N hp0 tm0 n0 rs
  | [], _, h => h
  | _ :: pre, _, h => Chain.drop (pre := pre) h.2
theorem Chain.at {pre rs : List (Rec C)} {r : Rec C} (h : Chain P co all N hp0 tm0 n0 (pre ++ r :: rs)) : ∃ o, RecOk P co all N hp0 tm0 n0 r rs o := (Chain.drop h).1
theorem Chain.num : ∀ {rs : List (Rec C)}, Chain P co all N hp0 tm0 n0 rs → n0 ≤ topN n0 rs ∧ ∀ r ∈ rs, n0 ≤ r.lo ∧ r.lo ≤ r.hi ∧ r.hi ≤ topN n0 rs
  | [], _ => ⟨Nat.le_refl _, fun r hr => by cases hr⟩
  | x :: rs, ⟨⟨o, h⟩, hc⟩ => by
    obtain ⟨h1, h2⟩ := Chain.num hc
    have := h.le
    have h3 : x.lo = topN n0 rs := h.lo
    have ht : topN n0 (x :: rs) = x.hi := rfl
    refine ⟨by omega, fun r hr => ?_⟩
    rcases List.mem_cons.1 hr with rfl | hr
    · omega
    · have := h2 r hr; omega
theorem Chain.ix_lt : ∀ {rs : List (Rec C)}, Chain P co all N hp0 tm0 n0 rs → ∀ r ∈ rs, r.ix < rs.length
  | [], _, r, hr => by cases hr
  | x :: rs, ⟨⟨o, h⟩, hc⟩, r, hr => by
    have h3 : x.ix = rs.length := h.ix
    simp only [List.length_cons]
    rcases List.mem_cons.1 hr with rfl | hr
    · omega
    · have := Chain.ix_lt hc r hr; omega
theorem Chain.ix_ex : ∀ {rs : List (Rec C)}, Chain P co all N hp0 tm0 n0 rs → ∀ i, i < rs.length → ∃ r ∈ rs, r.ix = i
  | [], _, i, hi => by simp at hi
  | x :: rs, ⟨⟨o, h⟩, hc⟩, i, hi => by
    have h3 : x.ix = rs.length := h.ix
    simp only [List.length_cons] at hi
    by_cases hx : i = rs.length
    · exact ⟨x, List.mem_cons_self, by omega⟩
    · obtain ⟨r, hr, he⟩ := Chain.ix_ex hc i (by omega)
      exact ⟨r, List.mem_cons_of_mem _ hr, he⟩
/-- Those that come later in the region stand ahead in the list. -/
theorem Chain.later {pre rs : List (Rec C)} {r : Rec C} (h : Chain P co all N hp0 tm0 n0 (pre ++ r :: rs)) {r' : Rec C} (hr : r' ∈ pre) : r.ix < r'.ix ∧ r.hi ≤ r'.lo ∧ pairOk r'.an r'.dst r'.rd r'.U r'.δ r = true := by
  obtain ⟨p1, p2, rfl⟩ := List.append_of_mem hr
  rw [List.append_assoc, List.cons_append] at h
  obtain ⟨o, ho⟩ := h.at
  have hc : Chain P co all N hp0 tm0 n0 (p2 ++ r :: rs) := (Chain.drop h).2
  have hm : r ∈ p2 ++ r :: rs := by simp
  refine ⟨by have := hc.ix_lt r hm; rw [ho.ix]; exact this, by rw [ho.lo]; exact (hc.num.2 r hm).2.2, ?_⟩
  have : ∀ l : List (Rec C), r ∈ l → allOk r'.an r'.dst r'.rd r'.U r'.δ l = true → pairOk r'.an r'.dst r'.rd r'.U r'.δ r = true := by
    intro l
    induction l with
    | nil => intro h; cases h
    | cons y l ih =>
      intro hy ha
      unfold allOk at ha
      split at ha
      · rename_i hp
        rcases List.mem_cons.1 hy with rfl | hy
        · exact hp
        · exact ih hy ha
      · cases ha
  exact this _ hm ho.all
theorem Chain.pair {pre rs : List (Rec C)} {r : Rec C} (h : Chain P co all N hp0 tm0 n0 (pre ++ r :: rs)) {r' : Rec C} (hr : r' ∈ rs) : r'.ix < r.ix ∧ r'.hi ≤ r.lo ∧ pairOk r.an r.dst r.rd r.U r.δ r' = true := by
  obtain ⟨p1, p2, rfl⟩ := List.append_of_mem hr
  have : pre ++ r :: (p1 ++ r' :: p2) = (pre ++ r :: p1) ++ r' :: p2 := by simp
  rw [this] at h
  exact h.later (r' := r) (by simp)

structure PairFacts (an : Nat) (dst : Option Tmp) (rd : List Tmp) (U δ : Hp C) (r : Rec C) : Prop where
  ne : ∀ t, dst = some t → r.dst ≠ some t
  un : an.testBit r.ix = false → (∀ t, dst = some t → t ∉ r.rd) ∧ (∀ t, r.dst = some t → t ∉ rd) ∧ (∀ x o, find x r.U = some o → find x δ = none) ∧ (∀ x o, find x U = some o → find x r.δ = none) ∧ (∀ x o, find x δ = some o → find x r.δ = none)
theorem rdOk_spec {dst : Option Tmp} {rd : List Tmp} (h : rdOk dst rd false = true) : ∀ t, dst = some t → t ∉ rd := by
  intro t ht hm
  subst ht
  unfold rdOk at h
  simp only [memN_mem hm] at h
  cases h
theorem pairOk_spec {an : Nat} {dst : Option Tmp} {rd : List Tmp} {U δ : Hp C} {r : Rec C} (h : pairOk an dst rd U δ r = true) : PairFacts an dst rd U δ r := by
  unfold pairOk at h
  split at h
  · cases h
  · rename_i hne
    refine ⟨?_, ?_⟩
    · intro t ht hr
      rw [ht, hr] at hne
      unfold dstNe at hne
      simp at hne
    · intro hb
      rw [hb] at h
      simp only at h
      split at h
      · cases h
      · rename_i h1
        split at h
        · cases h
        · rename_i h2
          split at h
          · cases h
          · rename_i h3
            split at h
            · cases h
            · rename_i h4
              exact ⟨rdOk_spec h1, rdOk_spec h2, fun x o hx => apart_find hx h3, fun x o hx => apart_find hx h4, fun x o hx => apart_find hx h⟩

theorem recOf_mem : ∀ {rs : List (Rec C)} {i : Nat} {r : Rec C}, recOf rs i = some r → r ∈ rs ∧ r.ix = i
  | x :: rs, i, r, h => by
    unfold recOf at h
    split at h
    · rename_i hb; cases h; exact ⟨List.mem_cons_self, Nat.eq_of_beq_eq_true hb⟩
    · have := recOf_mem h; exact ⟨List.mem_cons_of_mem _ this.1, this.2⟩
theorem anc_spec {rs : List (Rec C)} : ∀ {es : List Edge} {m : Nat}, anc rs es = some m →
    (∀ x, m.testBit x = true → ∃ e ∈ es, Region.binds .any e = true ∧ (x = e.on ∨ ∃ r ∈ rs, r.ix = e.on ∧ r.an.testBit x = true)) ∧ ∀ e ∈ es, Region.binds .any e = true → ∃ r ∈ rs, r.ix = e.on
  | [], m, h => by
    simp only [anc, Option.some.injEq] at h; subst h
    exact ⟨fun x hx => by simp at hx, fun e he => by cases he⟩
  | e :: es, m, h => by
    unfold anc at h
    split at h
    · rename_i hb
      obtain ⟨h1, h2⟩ := anc_spec h
      refine ⟨fun x hx => ?_, fun e' he hb' => ?_⟩
      · obtain ⟨e', he', h3⟩ := h1 x hx; exact ⟨e', List.mem_cons_of_mem _ he', h3⟩
      · rcases List.mem_cons.1 he with rfl | he
        · rw [hb] at hb'; cases hb'
        · exact h2 e' he hb'
    · rename_i hb
      split at h
      · rename_i r hr
        split at h
        · rename_i m' hm'
          simp only [Option.some.injEq] at h; subst h
          obtain ⟨h1, h2⟩ := anc_spec hm'
          obtain ⟨hr1, hr2⟩ := recOf_mem hr
          refine ⟨fun x hx => ?_, fun e' he hb' => ?_⟩
          · rw [Nat.testBit_or, Nat.testBit_or, Nat.testBit_two_pow, Bool.or_eq_true, Bool.or_eq_true, decide_eq_true_eq] at hx
            rcases hx with hx | hx | hx
            · obtain ⟨e', he', h3⟩ := h1 x hx; exact ⟨e', List.mem_cons_of_mem _ he', h3⟩
            · exact ⟨e, List.mem_cons_self, hb, .inr ⟨r, hr1, hr2, hx⟩⟩
            · exact ⟨e, List.mem_cons_self, hb, .inl hx.symm⟩
          · rcases List.mem_cons.1 he with rfl | he
            · exact ⟨r, hr1, hr2⟩
            · exact h2 e' he hb'
        · cases h
      · cases h

theorem find_by_congr {f g : Nat → Bool} {x : Nat} {hp : Hp C} : ∀ {l : List (Rec C)}, (∀ r ∈ l, f r.ix = g r.ix ∨ find x r.δ = none) → find x (hpBy f l hp) = find x (hpBy g l hp)
  | [], _ => rfl
  | r :: l, h => by
    have ih := find_by_congr (f := f) (g := g) (x := x) (hp := hp) (l := l) fun r hr => h r (List.mem_cons_of_mem _ hr)
    unfold hpBy
    rcases h r List.mem_cons_self with h | h
    · rw [h]
      split
      · rw [find_append, find_append, ih]
      · exact ih
    · have e : ∀ H : Hp C, find x (r.δ ++ H) = find x H := fun H => by rw [find_append, h]
      split <;> split <;> simp only [e, ih]
theorem hpBy_cons (f : Nat → Bool) (r : Rec C) (l : List (Rec C)) (hp : Hp C) : hpBy f (r :: l) hp = match f r.ix with
  | true => r.δ ++ hpBy f l hp
  | false => hpBy f l hp := rfl
theorem find_by_pre {f : Nat → Bool} {x : Nat} {hp : Hp C} {l : List (Rec C)} : ∀ {pre : List (Rec C)}, (∀ r ∈ pre, f r.ix = false ∨ find x r.δ = none) → find x (hpBy f (pre ++ l) hp) = find x (hpBy f l hp)
  | [], _ => rfl
  | r :: pre, h => by
    have ih := find_by_pre (f := f) (x := x) (hp := hp) (l := l) (pre := pre) fun r hr => h r (List.mem_cons_of_mem _ hr)
    rw [List.cons_append, hpBy_cons]
    rcases h r List.mem_cons_self with h | h
    · rw [h]; exact ih
    · split
      · rw [find_append, h]; exact ih
      · exact ih
theorem find_by_cases {f : Nat → Bool} {x : Nat} {hp : Hp C} {o : SO C} : ∀ {l : List (Rec C)}, find x (hpBy f l hp) = some o → (∃ r ∈ l, f r.ix = true ∧ find x r.δ = some o) ∨ find x hp = some o
  | [], h => .inr h
  | r :: l, h => by
    unfold hpBy at h
    split at h
    · rename_i hf
      rw [find_append] at h
      split at h
      · rename_i o' ho; cases h; exact .inl ⟨r, List.mem_cons_self, hf, ho⟩
      · rcases find_by_cases h with ⟨r', hr, h'⟩ | h'
        · exact .inl ⟨r', List.mem_cons_of_mem _ hr, h'⟩
        · exact .inr h'
    · rcases find_by_cases h with ⟨r', hr, h'⟩ | h'
      · exact .inl ⟨r', List.mem_cons_of_mem _ hr, h'⟩
      · exact .inr h'
theorem by_suffix {f : Nat → Bool} {hp : Hp C} : ∀ (l : List (Rec C)), hp <:+ hpBy f l hp
  | [] => List.suffix_refl _
  | r :: l => by
    unfold hpBy
    split
    · exact (by_suffix l).trans (List.suffix_append _ _)
    · exact by_suffix l
theorem find_tmAll {t : Tmp} {sv : SV} {tm : Tm} : ∀ {l : List (Rec C)}, find t (tmAll l tm) = some sv → (∃ r ∈ l, r.dst = some t ∧ r.sv = sv) ∨ (find t tm = some sv ∧ ∀ r ∈ l, r.dst ≠ some t)
  | [], h => .inr ⟨h, fun r hr => by cases hr⟩
  | r :: l, h => by
    unfold tmAll at h
    split at h
    · rename_i u hu
      rw [find_cons] at h
      split at h
      · rename_i e; subst e; cases h; exact .inl ⟨r, List.mem_cons_self, hu, rfl⟩
      · rename_i hne
        rcases find_tmAll h with ⟨r', hr, h'⟩ | ⟨h1, h2⟩
        · exact .inl ⟨r', List.mem_cons_of_mem _ hr, h'⟩
        · refine .inr ⟨h1, fun r' hr => ?_⟩
          rcases List.mem_cons.1 hr with rfl | hr
          · rw [hu]; intro e; cases e; exact hne rfl
          · exact h2 r' hr
    · rename_i hu
      rcases find_tmAll h with ⟨r', hr, h'⟩ | ⟨h1, h2⟩
      · exact .inl ⟨r', List.mem_cons_of_mem _ hr, h'⟩
      · refine .inr ⟨h1, fun r' hr => ?_⟩
        rcases List.mem_cons.1 hr with rfl | hr
        · rw [hu]; intro e; cases e
        · exact h2 r' hr

def lis (listed : Array Bool) (x : Nat) : Bool := listed.getD x false
theorem lis_set {listed : Array Bool} {i : Nat} (hi : i < listed.size) (x : Nat) : lis (listed.setIfInBounds i true) x = if x = i then true else lis listed x := by
  unfold lis
  by_cases h : x = i
  · subst h; simp [hi]
  · rw [if_neg h, getD_set_ne false (Ne.symm h)]

structure Inv (co : CallF C (OT C)) (all : List Oper) (N : Nat) (hp0 : Hp C) (tm0 : Tm) (n0 : Nat) (ρ0 : Asg) (B : World) (X : Own) (recs : List (Rec C)) (listed : Array Bool) (a : Act) (w : World) (ρ : Asg) : Prop where
  size : a.tmps.size = N
  defers : a.defers = []
  lsz : listed.size = recs.length
  rel : Rel B X ρ (hpBy (lis listed) recs hp0) (topN n0 recs) w
  base : cut ρ n0 = ρ0
  closed : ∀ r ∈ recs, lis listed r.ix = true → ∀ x, r.an.testBit x = true → lis listed x = true
  unas : ∀ r ∈ recs, lis listed r.ix = false → ∀ x, r.lo ≤ x → x < r.hi → ρ x = none
  val : ∀ r ∈ recs, lis listed r.ix = true → ∃ v, den (cut ρ r.hi) r.sv = some v ∧ ∀ t, r.dst = some t → a.tmps[t]? = some v
  ent : ∀ r ∈ recs, lis listed r.ix = true → ∀ x o, find x r.δ = some o → x < r.hi ∧ denO (cut ρ r.hi) o
  btm : ∀ t sv, find t tm0 = some sv → (∀ r ∈ recs, lis listed r.ix = true → r.dst ≠ some t) → ∃ v, den ρ0 sv = some v ∧ a.tmps[t]? = some v
end stat

section step
variable {co : CallF C (OT C)} {all : List Oper} {N : Nat} {hp0 : Hp C} {tm0 : Tm} {n0 : Nat} {ρ0 : Asg} {B : World} {X : Own} {pre rs : List (Rec C)} {r : Rec C} {listed : Array Bool} {a : Act} {w : World} {ρ : Asg}

/-- What of the operation's surroundings stands as it was reckoned. -/
structure Ready (co : CallF C (OT C)) (all : List Oper) (N : Nat) (hp0 : Hp C) (tm0 : Tm) (n0 : Nat) (ρ0 : Asg) (B : World) (X : Own) (pre rs : List (Rec C)) (r : Rec C) (listed : Array Bool) (a : Act) (w : World) (ρ : Asg) : Prop where
  chain : Chain P co all N hp0 tm0 n0 (pre ++ r :: rs)
  inv : Inv co all N hp0 tm0 n0 ρ0 B X (pre ++ r :: rs) listed a w ρ
  off : lis listed r.ix = false
  anc : ∀ x, r.an.testBit x = true → lis listed x = true
  hb : ∀ x o, find x hp0 = some o → x < n0 ∧ denO ρ0 o
  nb : X.nb ≤ n0

theorem Ready.loN (h : Ready (P := P) co all N hp0 tm0 n0 ρ0 B X pre rs r listed a w ρ) : n0 ≤ r.lo ∧ r.lo ≤ r.hi ∧ r.hi ≤ topN n0 (pre ++ r :: rs) := h.chain.num.2 r (by simp)

theorem Ready.pre_un (h : Ready (P := P) co all N hp0 tm0 n0 ρ0 B X pre rs r listed a w ρ) {r' : Rec C} (hr : r' ∈ pre) (hl : lis listed r'.ix = true) : r'.an.testBit r.ix = false := by
  cases hb : r'.an.testBit r.ix with
  | false => rfl
  | true => have := h.inv.closed r' (by simp [hr]) hl r.ix hb; rw [h.off] at this; cases this

theorem Ready.within (h : Ready (P := P) co all N hp0 tm0 n0 ρ0 B X pre rs r listed a w ρ) : Within ρ (hpBy (lis listed) (pre ++ r :: rs) hp0) r.U r.lo := by
  obtain ⟨o, ho⟩ := h.chain.at
  obtain ⟨l1, l2, l3⟩ := h.loN
  intro x ob hx
  have h1 := ho.sub x ob hx
  have e1 : find x (hpBy (lis listed) (pre ++ r :: rs) hp0) = find x (hpBy (lis listed) (r :: rs) hp0) := find_by_pre fun r' hr => by
    cases hl : lis listed r'.ix with
    | false => exact .inl rfl
    | true => exact .inr (((pairOk_spec (h.chain.later hr).2.2).un (h.pre_un hr hl)).2.2.1 x ob hx)
  have e2 : find x (hpBy (lis listed) (r :: rs) hp0) = find x (hpBy (lis listed) rs hp0) := find_by_pre (pre := [r]) fun r' hr => by
    simp only [List.mem_singleton] at hr; subst hr; exact .inl h.off
  have e3 : find x (hpBy (lis listed) rs hp0) = find x (hpBy (Nat.testBit r.an) rs hp0) := find_by_congr fun r' hr => by
    cases hb : r.an.testBit r'.ix with
    | true => exact .inl (h.anc _ hb)
    | false => exact .inr (((pairOk_spec (h.chain.pair hr).2.2).un hb).2.2.2.1 x ob hx)
  refine ⟨by rw [e1, e2, e3]; exact h1, ?_⟩
  rcases find_by_cases h1 with ⟨r', hr, hb, hd⟩ | hd
  · obtain ⟨g1, g2⟩ := h.inv.ent r' (by simp [hr]) (h.anc _ hb) x ob hd
    have := (h.chain.pair hr).2.1
    exact ⟨by omega, denO_mono (cut_mono this) g2⟩
  · obtain ⟨g1, g2⟩ := h.hb x ob hd
    rw [← h.inv.base] at g2
    exact ⟨by omega, denO_mono (cut_mono l1) g2⟩

theorem Ready.tm (h : Ready (P := P) co all N hp0 tm0 n0 ρ0 B X pre rs r listed a w ρ) : TmOk (cut ρ r.lo) (pick r.rd (tmAll rs tm0)) a := by
  obtain ⟨l1, l2, l3⟩ := h.loN
  intro t sv ht
  obtain ⟨hm, ht⟩ := find_pick ht
  rcases find_tmAll ht with ⟨r', hr, hd, rfl⟩ | ⟨ht, hno⟩
  · obtain ⟨_, hle, hp⟩ := h.chain.pair hr
    have hbit : r.an.testBit r'.ix = true := by
      cases hb : r.an.testBit r'.ix with
      | true => rfl
      | false => exact absurd hm (((pairOk_spec hp).un hb).2.1 t hd)
    obtain ⟨v, h1, h2⟩ := h.inv.val r' (by simp [hr]) (h.anc _ hbit)
    exact ⟨v, den_mono (cut_mono hle) _ _ h1, h2 t hd⟩
  · obtain ⟨v, h1, h2⟩ := h.inv.btm t sv ht fun r' hr hl => by
      rcases List.mem_append.1 hr with hr | hr
      · intro e
        exact ((pairOk_spec (h.chain.later hr).2.2).un (h.pre_un hr hl)).1 t e hm
      · rcases List.mem_cons.1 hr with rfl | hr
        · rw [h.off] at hl; cases hl
        · exact hno r' hr
    rw [← h.inv.base] at h1
    exact ⟨v, den_mono (cut_mono l1) _ _ h1, h2⟩

theorem Ready.next (h : Ready (P := P) co all N hp0 tm0 n0 ρ0 B X pre rs r listed a w ρ) {ρ1 : Asg} {v : Value} {w1 : World} (hden : den ρ1 r.sv = some v) (hrel : Rel w (ownOf ρ r.U r.lo) ρ1 (r.δ ++ r.U) r.hi w1) :
    ∃ ρ', Inv co all N hp0 tm0 n0 ρ0 B X (pre ++ r :: rs) (listed.setIfInBounds r.ix true) (a.put r.dst v) w1 ρ' := by
  obtain ⟨o, ho⟩ := h.chain.at
  obtain ⟨l1, l2, l3⟩ := h.loN
  have hmem : r ∈ pre ++ r :: rs := by simp
  have hix : r.ix < listed.size := by rw [h.inv.lsz]; exact h.chain.ix_lt r hmem
  have hset := lis_set hix
  have hother : ∀ r' ∈ pre ++ r :: rs, r'.ix ≠ r.ix → r' ∈ pre ∨ r' ∈ rs := fun r' hr hne => by
    rcases List.mem_append.1 hr with hr | hr
    · exact .inl hr
    · rcases List.mem_cons.1 hr with rfl | hr
      · exact absurd rfl hne
      · exact .inr hr
  have hsame : ∀ r' ∈ pre ++ r :: rs, r'.ix = r.ix → r' = r := fun r' hr he => by
    rcases List.mem_append.1 hr with hr | hr
    · have := (h.chain.later hr).1; omega
    · rcases List.mem_cons.1 hr with rfl | hr
      · rfl
      · have := (h.chain.pair hr).1; omega
  obtain ⟨m1, m2, m3⟩ := Rel.merge (H' := hpBy (lis (listed.setIfInBounds r.ix true)) (pre ++ r :: rs) hp0) h.inv.rel h.within hrel l2 l3 (h.inv.unas r hmem h.off) (by have := h.nb; omega)
    (fun x ob hx => by
      rw [find_by_pre fun r' hr => ?_]
      · unfold hpBy
        rw [hset, if_pos rfl]
        simp only [find_append, hx]
      · have hlt := (h.chain.later hr).1
        rw [hset, if_neg (by omega)]
        cases hl : lis listed r'.ix with
        | false => exact .inl rfl
        | true =>
          right
          cases hd : find x r'.δ with
          | none => rfl
          | some o' =>
            have := ((pairOk_spec (h.chain.later hr).2.2).un (h.pre_un hr hl)).2.2.2.2 x o' hd
            rw [hx] at this; cases this)
    (fun x hx => find_by_congr fun r' hr => by
      rw [hset]
      by_cases he : r'.ix = r.ix
      · rw [hsame r' hr he]; exact .inr hx
      · rw [if_neg he]; exact .inl rfl)
    (fun x => by rw [find_append]; cases find x r.δ <;> rfl)
  refine ⟨mergeA ρ ρ1 r.lo r.hi, ?_⟩
  have hputs : ∀ t, r.dst ≠ some t → (a.put r.dst v).tmps[t]? = a.tmps[t]? := fun t ht => by
    cases hd : r.dst with
    | none => rfl
    | some u =>
      have : u ≠ t := fun e => ht (by rw [hd, e])
      simp [Act.put, Array.getElem?_setIfInBounds_ne this]
  constructor
  · rw [put_size]; exact h.inv.size
  · rw [put_defers]; exact h.inv.defers
  · rw [Array.size_setIfInBounds]; exact h.inv.lsz
  · exact m1
  · rw [← h.inv.base]
    funext x
    unfold cut mergeA
    by_cases hx : x < n0
    · rw [if_pos hx, if_pos hx, if_neg (by omega)]
    · rw [if_neg hx, if_neg hx]
  · intro r' hr hl x hx
    rw [hset] at hl ⊢
    by_cases hxi : x = r.ix
    · rw [if_pos hxi]
    · rw [if_neg hxi]
      by_cases he : r'.ix = r.ix
      · rw [hsame r' hr he] at hx; exact h.anc x hx
      · rw [if_neg he] at hl; exact h.inv.closed r' hr hl x hx
  · intro r' hr hl x hx1 hx2
    rw [hset] at hl
    by_cases he : r'.ix = r.ix
    · rw [if_pos he] at hl; cases hl
    · rw [if_neg he] at hl
      unfold mergeA
      have : ¬ (r.lo ≤ x ∧ x < r.hi) := by
        rcases hother r' hr he with hr | hr
        · have := (h.chain.later hr).2.1; omega
        · have := (h.chain.pair hr).2.1; omega
      rw [if_neg this]
      exact h.inv.unas r' hr hl x hx1 hx2
  · intro r' hr hl
    rw [hset] at hl
    by_cases he : r'.ix = r.ix
    · rw [hsame r' hr he]
      refine ⟨v, by rw [← m2]; exact hden, fun t ht => ?_⟩
      have : t < N := ho.lt t (by rw [← ho.dst]; exact ht)
      rw [ht]
      simp [Act.put, h.inv.size, this]
    · rw [if_neg he] at hl
      obtain ⟨u, h1, h2⟩ := h.inv.val r' hr hl
      have hle : (cut ρ r'.hi).le (cut (mergeA ρ ρ1 r.lo r.hi) r'.hi) := fun i x hi => by
        unfold cut at hi ⊢
        split at hi
        · rename_i hlt; rw [if_pos hlt]; exact m3 _ _ hi
        · cases hi
      refine ⟨u, den_mono hle _ _ h1, fun t ht => ?_⟩
      rw [hputs t ?_]
      · exact h2 t ht
      · intro e
        rcases hother r' hr he with hr | hr
        · exact (pairOk_spec (h.chain.later hr).2.2).ne t ht e
        · exact (pairOk_spec (h.chain.pair hr).2.2).ne t e ht
  · intro r' hr hl x ob hx
    rw [hset] at hl
    by_cases he : r'.ix = r.ix
    · rw [hsame r' hr he] at hx ⊢
      have hx' : find x (r.δ ++ r.U) = some ob := by rw [find_append, hx]
      obtain ⟨u, hu, hok⟩ := hrel.obj x ob hx'
      refine ⟨?_, by rw [← m2]; exact hok.toDen⟩
      by_cases hlt : x < r.hi
      · exact hlt
      · rw [hrel.fresh x (by omega)] at hu; cases hu
    · rw [if_neg he] at hl
      obtain ⟨h1, h2⟩ := h.inv.ent r' hr hl x ob hx
      refine ⟨h1, denO_mono (fun i x hi => ?_) h2⟩
      unfold cut at hi ⊢
      split at hi
      · rename_i hlt; rw [if_pos hlt]; exact m3 _ _ hi
      · cases hi
  · intro t sv ht hno
    obtain ⟨u, h1, h2⟩ := h.inv.btm t sv ht fun r' hr hl => hno r' hr (by rw [hset]; split <;> first | rfl | exact hl)
    refine ⟨u, h1, ?_⟩
    rw [hputs t (hno r hmem (by rw [hset, if_pos rfl]))]
    exact h2
end step
end
end Go.Sx
