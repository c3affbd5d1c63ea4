/-
  The symbolic evaluator: a region in whatever order: its rule. Own work; nothing here is trusted.
-/
import Derived.Test.YtkhlmlcjedbkcaaSxAny2
namespace Go.Sx
noncomputable section
open Go.RowKit

variable {C : Tab} {P : Program} {R : Type}
section fin
variable {co : CallF C (OT C)} {N : Nat} {hp0 : Hp C} {tm0 : Tm} {n0 : Nat} {ρ0 : Asg} {B : World} {X : Own} {recs pre rs : List (Rec C)} {r : Rec C} {listed : Array Bool} {a : Act} {w : World} {ρ : Asg} {ops : Array Oper} {Q : Exit → Act → World → Prop}

theorem Ready.wpOp (hp0' : Plain P) (hco : ∀ x : SV × Hp C × Nat, CallOk P (fun y : OT C => y.get = some x) co) (h : Ready (P := P) co ops.toList N hp0 tm0 n0 ρ0 B X pre rs r listed a w ρ) {K : Act → World → Prop}
    (hK : ∀ a' w', (∃ ρ', Inv co ops.toList N hp0 tm0 n0 ρ0 B X (pre ++ r :: rs) (listed.setIfInBounds r.ix true) a' w' ρ') → K a' w') : Go.wpOp P ops Q r.ix K a w := by
  obtain ⟨o, ho⟩ := h.chain.at
  have hop : ops[r.ix]? = some o := by have := ho.op; rwa [Array.getElem?_toList] at this
  obtain ⟨h', hst, hδ⟩ := ho.step
  have RR := h.inv.rel.restrict h.within
  have T := h.tm
  have no := ansT_ok (r.sv, h', r.hi)
  have go : (stepO (ansT _) P co o.op (pick r.rd (tmAll rs tm0)) r.U r.lo (fun sv hp n => forceV sv fun sv => .leaf (sv, hp, n))).get = some (r.sv, h', r.hi) → o.wp P a w K Q := fun hs =>
    stepO_sound (I := fun y : OT C => y.get = some (r.sv, h', r.hi)) hp0' no (hco _) RR T hs fun ρ1 v sv hp1 n1 w1 g1 g2 g3 g4 g5 => by
      have g5 : (forceV sv (fun sv => (.leaf (sv, hp1, n1) : OT C))).get = some (r.sv, h', r.hi) := g5
      rw [forceV_eq] at g5
      simp only [Tr.get, Option.some.injEq, Prod.mk.injEq] at g5
      obtain ⟨rfl, rfl, rfl⟩ := g5
      obtain ⟨d, hd⟩ := g2.2
      have hδ' : r.δ = d := by rw [hδ, ← hd]; simp
      rw [← hd, ← hδ'] at g4
      rw [← ho.dst]
      exact hK _ _ (h.next g3 g4)
  have skip : (Tr.leaf (.raw undef, r.U, r.lo) : OT C).get = some (r.sv, h', r.hi) → K (a.put o.dst undef) w := fun hs => by
    simp only [Tr.get, Option.some.injEq, Prod.mk.injEq] at hs
    obtain ⟨e1, e2, e3⟩ := hs
    have hδ' : r.δ = [] := by rw [hδ, ← e2]; simp
    rw [← ho.dst]
    refine hK _ _ (h.next (ρ1 := cut ρ r.lo) (v := undef) (by rw [← e1]; rfl) ?_)
    rw [hδ', ← e3]
    exact RR
  unfold Go.wpOp
  rw [hop]
  simp only
  unfold stepD at hst
  split at hst
  · rename_i hg
    rw [if_pos (by simp [Region.wanted, hg])]
    exact .inl (go hst)
  · rename_i j want hg
    split at hst
    · rename_i t ht
      split at hst
      · rename_i b hb
        have hy := yielded_of T ht hb
        rw [Array.toArray_toList] at hy
        have hst := no.br _ _ _ hst
        cases b with
        | true =>
          have hst := hst.1 rfl
          cases want with
          | true => rw [if_pos (by simp [Region.wanted, hg, hy])]; exact .inl (go hst)
          | false => rw [if_neg (by simp [Region.wanted, hg, hy])]; exact skip hst
        | false =>
          have hst := hst.2 rfl
          cases want with
          | false => rw [if_pos (by simp [Region.wanted, hg, hy])]; exact .inl (go hst)
          | true => rw [if_neg (by simp [Region.wanted, hg, hy])]; exact skip hst
      · rename_i u hnb hb
        have hy := yielded_no T ht hb fun b e => by subst e; exact hnb b rfl
        rw [Array.toArray_toList] at hy
        rw [if_neg (by simp [Region.wanted, hg, hy])]
        exact skip hst
      · cases hst
    · cases hst

def cnt (listed : Array Bool) (n : Nat) : Nat := (List.range n).countP fun i => !(lis listed i)
theorem countP_lt {p p' : Nat → Bool} (hle : ∀ x, p' x = true → p x = true) {i : Nat} (hp : p i = true) (hp' : p' i = false) : ∀ {l : List Nat}, i ∈ l → l.countP p' < l.countP p
  | x :: l, h => by
    have mono : ∀ l : List Nat, l.countP p' ≤ l.countP p := fun l => List.countP_mono_left fun x _ hx => hle x hx
    rw [List.countP_cons, List.countP_cons]
    rcases List.mem_cons.1 h with rfl | h
    · rw [hp, hp']; have := mono l; simp; omega
    · have ih := countP_lt hle hp hp' h
      cases hx : p' x
      · by_cases hpx : p x = true <;> simp [hpx] <;> omega
      · rw [hle x hx]; simp; omega

theorem Inv.any (hp0' : Plain P) (hco : ∀ x : SV × Hp C × Nat, CallOk P (fun y : OT C => y.get = some x) co) (hch : Chain P co ops.toList N hp0 tm0 n0 recs) (hlen : recs.length = ops.size)
    (hb : ∀ x o, find x hp0 = some o → x < n0 ∧ denO ρ0 o) (nb : X.nb ≤ n0)
    (hQ : ∀ listed a w ρ, Inv co ops.toList N hp0 tm0 n0 ρ0 B X recs listed a w ρ → (∀ r ∈ recs, lis listed r.ix = true) → Q .normal a w) :
    ∀ (fuel : Nat) (listed : Array Bool) (a : Act) (w : World), (∃ ρ, Inv co ops.toList N hp0 tm0 n0 ρ0 B X recs listed a w ρ) → cnt listed ops.size ≤ fuel → wpAny P .any ops Q fuel listed a w := by
  have offOf : ∀ {listed : Array Bool} {i : Nat}, listed.size = ops.size → i < ops.size → listed.getD i true = false → lis listed i = false := fun {listed i} hs hi h => by
    unfold lis
    simp only [Array.getD_eq_getD_getElem?] at h ⊢
    rw [Array.getElem?_eq_getElem (by omega)] at h ⊢
    exact h
  have onOf : ∀ {listed : Array Bool} {i : Nat}, listed.size = ops.size → i < ops.size → lis listed i = false → listed.getD i true = false := fun {listed i} hs hi h => by
    unfold lis at h
    simp only [Array.getD_eq_getD_getElem?] at h ⊢
    rw [Array.getElem?_eq_getElem (by omega)] at h ⊢
    exact h
  have allOn : ∀ (listed : Array Bool), listed.size = ops.size → Region.ready .any ops listed = [] → ∀ r ∈ recs, lis listed r.ix = true := fun listed hs hr => by
    have : ∀ i, i < ops.size → lis listed i = true := by
      intro i
      induction i using Nat.strongRecOn with
      | ind i ih =>
        intro hi
        cases hl : lis listed i with
        | true => rfl
        | false =>
          obtain ⟨r, hm, rfl⟩ := hch.ix_ex i (by omega)
          obtain ⟨pre, rs, rfl⟩ := List.append_of_mem hm
          obtain ⟨o, ho⟩ := hch.at
          have hop : ops[r.ix]? = some o := by have := ho.op; rwa [Array.getElem?_toList] at this
          have : r.ix ∈ Region.ready .any ops listed := mem_ready.2 ⟨onOf hs hi hl, o, hop, fun e he hbd => by
            obtain ⟨r', hr', hx⟩ := (anc_spec ho.an).2 e (by simpa using he) hbd
            have := (hch.pair hr').1
            have := ih e.on (by omega) (by omega)
            exact this⟩
          rw [hr] at this; cases this
    exact fun r hm => this r.ix (by have := hch.ix_lt r hm; omega)
  intro fuel
  induction fuel with
  | zero =>
    intro listed a w ⟨ρ, hi⟩ hc
    have hs : listed.size = ops.size := by rw [hi.lsz, hlen]
    have hready : Region.ready .any ops listed = [] := by
      rw [List.eq_nil_iff_forall_not_mem]
      intro j hj
      obtain ⟨hun, o, ho, _⟩ := mem_ready.1 hj
      have hlt : j < ops.size := (Array.getElem?_eq_some_iff.1 ho).1
      have : 0 < cnt listed ops.size := List.countP_pos_iff.2 ⟨j, List.mem_range.2 hlt, by simp [offOf hs hlt hun]⟩
      omega
    exact ⟨hready, hQ listed a w ρ hi (allOn listed hs hready)⟩
  | succ fuel ih =>
    intro listed a w ⟨ρ, hi⟩ hc
    have hs : listed.size = ops.size := by rw [hi.lsz, hlen]
    refine ⟨fun hready => hQ listed a w ρ hi (allOn listed hs hready), fun i hri => ?_⟩
    obtain ⟨hun, o, hop, haft⟩ := mem_ready.1 hri
    have hlt : i < ops.size := (Array.getElem?_eq_some_iff.1 hop).1
    have hoff := offOf hs hlt hun
    obtain ⟨r, hm, rfl⟩ := hch.ix_ex i (by omega)
    obtain ⟨pre, rs, rfl⟩ := List.append_of_mem hm
    obtain ⟨o', ho'⟩ := hch.at
    have hop' : ops[r.ix]? = some o' := by have := ho'.op; rwa [Array.getElem?_toList] at this
    rw [hop] at hop'; cases hop'
    have hanc : ∀ x, r.an.testBit x = true → lis listed x = true := fun x hx => by
      obtain ⟨e, he, hbd, hx⟩ := (anc_spec ho'.an).1 x hx
      have hon : lis listed e.on = true := haft e (by simpa using he) hbd
      rcases hx with rfl | ⟨r', hr', he', hx⟩
      · exact hon
      · exact hi.closed r' (by simp [hr']) (by rw [he']; exact hon) x hx
    refine Ready.wpOp hp0' hco ⟨hch, hi, hoff, hanc, hb, nb⟩ fun a' w' hi' => ih _ a' w' hi' ?_
    have hset := lis_set (listed := listed) (i := r.ix) (by omega)
    have : cnt (listed.setIfInBounds r.ix true) ops.size < cnt listed ops.size := by
      refine countP_lt (i := r.ix) (fun x hx => ?_) (by simp [hoff]) (by simp [hset]) (List.mem_range.2 hlt)
      rw [hset] at hx
      split at hx
      · simp at hx
      · exact hx
    omega

theorem drawS_ok1 (hp0' : Plain P) (hm : P.follows .mixedOrders = true) {A : Ans R} {I : R → Prop} (no : AnsOk A I) (hco : ∀ x : SV × Hp C × Nat, CallOk P (fun y : OT C => y.get = some x) co) :
    DrawOk P I (fun N ops tm hp n k => drawGo A P co N ops hp ops 0 tm [] n fun tm' recs n' => hpK (fun _ => true) recs hp fun hp' => k tm' hp' n') := by
  intro N id ops tm hp n k B X ρ w a h hN hD RR T
  obtain ⟨recs, hch, hlen, hk⟩ := drawGo_spec (tm0 := tm) (n0 := n) no ops.toList 0 tm [] n h trivial rfl (Nat.zero_le _) rfl rfl rfl
  rw [hpK_eq] at hk
  have hlen : recs.length = ops.size := by rw [hlen]; simp
  have hbase : cut ρ n = ρ := by
    funext x
    unfold cut
    split
    · rfl
    · exact (RR.fresh x (by omega)).symm
  have hlis0 : ∀ x, lis (Array.replicate ops.size false) x = false := fun x => by
    unfold lis
    simp only [Array.getD_eq_getD_getElem?, Array.getElem?_replicate]
    split <;> rfl
  have hnil : ∀ l : List (Rec C), hpBy (lis (Array.replicate ops.size false)) l hp = hp := by
    intro l
    induction l with
    | nil => rfl
    | cons r l ih => rw [hpBy_cons, hlis0]; exact ih
  have hb : ∀ x o, find x hp = some o → x < n ∧ denO ρ o := fun x o hx => by
    obtain ⟨v, hv, hok⟩ := RR.obj x o hx
    refine ⟨?_, hok.toDen⟩
    by_cases hlt : x < n
    · exact hlt
    · rw [RR.fresh x (by omega)] at hv; cases hv
  refine wp_region_any hm (Inv.any (B := B) (X := X) (ρ0 := ρ) hp0' hco hch hlen hb RR.nbLe ?_ ops.size _ a _ ⟨ρ, ?_⟩ ?_)
  · intro listed a' w' ρ' hi hon
    have hall : hpBy (lis listed) recs hp = hpBy (fun _ => true) recs hp := by
      have : ∀ l : List (Rec C), (∀ r ∈ l, lis listed r.ix = true) → hpBy (lis listed) l hp = hpBy (fun _ => true) l hp := by
        intro l
        induction l with
        | nil => intro _; rfl
        | cons r l ih =>
          intro hl
          rw [hpBy_cons, hpBy_cons, hl r List.mem_cons_self, ih fun r' hr => hl r' (List.mem_cons_of_mem _ hr)]
      exact this recs hon
    have hle : ρ.le ρ' := by rw [← hi.base]; exact cut_le _ _
    refine ⟨.normal, ρ', _, _, _, rfl, hle, ⟨hch.num.1, by_suffix recs⟩, hi.size, hi.defers, by rw [← hall]; exact hi.rel, ?_, hk⟩
    intro t sv ht
    rcases find_tmAll ht with ⟨r, hr, hd, rfl⟩ | ⟨ht, hno⟩
    · obtain ⟨v, h1, h2⟩ := hi.val r hr (hon r hr)
      exact ⟨v, den_mono (cut_le _ _) _ _ h1, h2 t hd⟩
    · obtain ⟨v, h1, h2⟩ := hi.btm t sv ht fun r hr _ => hno r hr
      exact ⟨v, den_mono hle _ _ h1, h2⟩
  · constructor
    · exact hN
    · exact hD
    · simp [hlen]
    · rw [hnil]; exact Rel.shift RR.drew hch.num.1
    · exact hbase
    · intro r _ hl; rw [hlis0] at hl; cases hl
    · intro r hr _ x hx _
      exact RR.fresh x (by have := (hch.num.2 r hr).1; omega)
    · intro r _ hl; rw [hlis0] at hl; cases hl
    · intro r _ hl; rw [hlis0] at hl; cases hl
    · intro t sv ht _; exact T t sv ht
  · unfold cnt
    exact Nat.le_trans List.countP_le_length (by simp)
theorem drawS_ok (hp0' : Plain P) (hm : P.follows .mixedOrders = true) {A : Ans R} {I : R → Prop} (no : AnsOk A I) (hco : ∀ x : SV × Hp C × Nat, CallOk P (fun y : OT C => y.get = some x) co) : DrawOk P I (drawS (C := C) A P co) := by
  intro N id ops tm hp n k B X ρ w a h hN hD RR T
  unfold drawS at h
  split at h
  · exact drawS_ok1 hp0' hm no hco N id ops tm hp n k B X ρ w a h hN hD RR T
  · obtain ⟨hp', h1, h2, h3⟩ := demK_spec _ _ h RR
    refine wp_mono (drawS_ok1 hp0' hm no hco N id ops tm hp' n k B X ρ w a h1 hN hD h2 T) fun e a w hq => ?_
    exact hq.weaken (Asg.le_refl _) ⟨Nat.le_refl _, h3⟩
end fin

/-! The evaluator whose answers are data; its own drawn regions go by it. -/
def noLoop : Nat → Nat → LoopF C (OT C) := fun _ _ _ _ _ _ _ _ => .fail
theorem noLoop_ok {x : SV × Hp C × Nat} (g blk : Nat) : LoopOk P (fun y : OT C => y.get = some x) (noLoop (C := C) g blk) := fun _ _ _ _ _ _ h => by cases h
def callO (C : Tab) (P : Program) (unr : Nat → Nat → Nat) (d : Nat) : CallF C (OT C) := callG (ansT _) P (fun _ => none) noLoop unr (fun _ ih => drawS (ansT _) P ih) d
theorem callO_ok (hp0' : Plain P) (hm : P.follows .mixedOrders = true) {unr : Nat → Nat → Nat} : ∀ (d : Nat) (x : SV × Hp C × Nat), CallOk P (fun y : OT C => y.get = some x) (callO C P unr d)
  | 0, x => fun _ _ _ _ _ _ _ _ _ _ h => by cases h
  | d + 1, x => by
    have no := ansT_ok x
    have hs : SpecOkG (C := C) P (fun y : OT C => y.get = some x) (fun _ => none) := fun g f hf => by cases hf
    exact callStep_ok (I := fun y : OT C => y.get = some x) hp0' no hs (LoopOk.all noLoop_ok) (drawS_ok (I := fun y : OT C => y.get = some x) hp0' hm no (callO_ok hp0' hm d)) (callO_ok hp0' hm d x)

/-- Drawn regions of the evaluator whose answers are statements. -/
def drawP (P : Program) (unr : Nat → Nat → Nat) : Nat → CallF C Prop → DrawF C Prop := fun d _ => drawS ansP P (callO C P unr d)
theorem drawP_ok (hp0' : Plain P) (hm : P.follows .mixedOrders = true) {unr : Nat → Nat → Nat} (d : Nat) (call : CallF C Prop) : DrawOk P (fun p : Prop => p) (drawP (C := C) P unr d call) :=
  drawS_ok hp0' hm ansP_ok (callO_ok hp0' hm d)
end
end Go.Sx
