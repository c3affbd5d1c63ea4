/-
  Chapter 11: the table of moves: a map literal whose entries are laid in a drawn order. Own work; nothing here is trusted.
-/
import Derived.Test.YtiaboemkgpkcpaaCh11
namespace Go.Proofs.Ytiaboemkgpkcpaa
open Go Go.Sx Go.RowKit
set_option maxRecDepth 1000000
set_option maxHeartbeats 4000000
set_option linter.unusedVariables false
set_option linter.unusedSimpArgs false
noncomputable section
/-! ### a region in a drawn order, by an invariant -/
section
variable {P : Program} {ops : Array Oper} {Q : Exit → Act → World → Prop}
theorem wpAny_inv {I : Array Bool → Act → World → Prop}
    (hstep : ∀ listed a w, listed.size = ops.size → I listed a w → ∀ i o, ops[i]? = some o → lis listed i = false → (∀ e ∈ o.after.toList, Region.binds .any e = true → lis listed e.on = true) → wpOp P ops Q i (fun a' w' => I (listed.setIfInBounds i true) a' w') a w)
    (hend : ∀ listed a w, listed.size = ops.size → I listed a w → Region.ready .any ops listed = [] → Q .normal a w) :
    ∀ (fuel : Nat) (listed : Array Bool) (a : Act) (w : World), listed.size = ops.size → I listed a w → cnt listed ops.size ≤ fuel → wpAny P .any ops Q fuel listed a w := by
  have offOf : ∀ {listed : Array Bool} {i : Nat}, listed.size = ops.size → i < ops.size → listed.getD i true = false → lis listed i = false := fun {listed i} hs hi h => by
    unfold lis
    simp only [Array.getD_eq_getD_getElem?] at h ⊢
    rw [Array.getElem?_eq_getElem (by omega)] at h ⊢
    exact h
  intro fuel
  induction fuel with
  | zero =>
    intro listed a w hs hi hc
    have hready : Region.ready .any ops listed = [] := by
      rw [List.eq_nil_iff_forall_not_mem]
      intro j hj
      obtain ⟨hun, o, ho, _⟩ := mem_ready.1 hj
      have hlt : j < ops.size := (Array.getElem?_eq_some_iff.1 ho).1
      have : 0 < cnt listed ops.size := List.countP_pos_iff.2 ⟨j, List.mem_range.2 hlt, by simp [offOf hs hlt hun]⟩
      omega
    exact ⟨hready, hend listed a w hs hi hready⟩
  | succ fuel ih =>
    intro listed a w hs hi hc
    refine ⟨hend listed a w hs hi, fun i hri => ?_⟩
    obtain ⟨hun, o, hop, haft⟩ := mem_ready.1 hri
    have hlt : i < ops.size := (Array.getElem?_eq_some_iff.1 hop).1
    have hoff := offOf hs hlt hun
    refine wpOp_mono (fun a' w' hi' => ih _ a' w' (by simpa using hs) hi' ?_) (hstep listed a w hs hi i o hop hoff (fun e he hb => haft e (by simpa using he) hb))
    have hset := lis_set (listed := listed) (i := i) (by omega)
    have : cnt (listed.setIfInBounds i true) ops.size < cnt listed ops.size := by
      refine countP_lt (i := i) (fun x hx => ?_) (by simp [hoff]) (by simp [hset]) (List.mem_range.2 hlt)
      rw [hset] at hx
      split at hx
      · simp at hx
      · exact hx
    omega
/-- One operation of such a region. -/
theorem wpOp_prim {C : Tab} {B : World} {X : Own} {ρ : Asg} {hp : Hp C} {n : Nat} {w : World} {a : Act} {tm : Tm} (R : Rel B X ρ hp n w) (T : TmOk ρ tm a) {i : Nat} {o : Oper} (hop : ops[i]? = some o) (hg : o.guard = none) {vs : List SV} {r : Res C}
    (hv : evTs tm (argsOf o.op) = some vs) (h : (prim P (fun i => find i hp) n o.op vs).get = some r) {K : Act → World → Prop}
    (hk : ∀ ρ' v w', ρ.le ρ' → den ρ' r.1 = some v → Rel B X ρ' (r.2 ++ hp) (n + 4) w' → TmOk ρ' tm a → K (a.put o.dst v) w') : wpOp P ops Q i K a w := by
  unfold wpOp
  rw [hop]
  simp only
  rw [if_pos (by simp [Region.wanted, hg])]
  refine .inl ?_
  obtain ⟨nx, v, w', ρ', e1, e2, e3, e4, e5⟩ := prim_sound R T hv h
  unfold Oper.wp
  rw [e1]
  rcases e2 with rfl | ⟨rfl, rfl⟩
  · exact hk ρ' v w' e3 e4 e5 (T.mono e3)
  · exact hk ρ' undef w' e3 e4 e5 (T.mono e3)
end
/-! ### the table -/
noncomputable def regAt : Code → Nat → List Oper
  | .region id ops _, i => match Nat.beq id i with
    | true => ops.toList
    | false => []
  | .seq x y, i => regAt x i ++ regAt y i
  | _, _ => []
noncomputable def mvOps : List Oper := match Try.prog.funcs[19]? with
  | some fn => match fn.body with
    | some c => regAt c 1
    | none => []
  | none => []
theorem mv_dst : mvOps.map (fun o => (o.dst, o.guard.isNone)) = [(some 1, true), (some 2, true), (none, true), (some 3, true), (none, true), (some 4, true), (none, true), (some 5, true), (none, true), (some 6, true), (some 0, true)] := by kernel_rfl
noncomputable def dep (o : Oper) (x : Nat) : Bool := o.after.toList.any fun e => Region.binds .any e && Nat.beq e.on x
noncomputable def depAt (i x : Nat) : Bool := match mvOps[i]? with
  | some o => dep o x
  | none => false
theorem mv_dep : ([(2, 0), (2, 1), (4, 0), (4, 3), (6, 0), (6, 5), (8, 0), (8, 7), (9, 0), (10, 0), (10, 9)] : List (Nat × Nat)).all (fun p => depAt p.1 p.2) = true := by kernel_rfl
theorem mv_back : (List.range 11).all (fun i => match mvOps[i]? with | some o => o.after.toList.all fun e => !Region.binds .any e || Nat.blt e.on i | none => true) = true := by kernel_rfl
noncomputable def mk2 (a b : Int) : Op := .build 54 #[(0, .const (.int .i64 a)), (1, .const (.int .i64 b))]
noncomputable def in2 (t : Nat) (v : Int) : Op := .insert 52 (.tmp 1) (.tmp t) (.const (.int .i64 v))
theorem mv_op : mvOps.map (·.op) = [.makeMap 52 none, mk2 0 1, in2 2 1, mk2 1 2, in2 3 2, mk2 2 3, in2 4 3, mk2 3 4, in2 5 0, .move (.tmp 1), .assign (.tmp 6)] := by kernel_rfl
noncomputable def mvReg0 : List Oper := match Try.prog.funcs[19]? with
  | some fn => match fn.body with
    | some c => regAt c 0
    | none => []
  | none => []
theorem mv_fn : ∃ fn, Try.prog.funcs[19]? = some fn ∧ fn.ntmps = 7 ∧ fn.results = #[.tmp 0] ∧ fn.body = some (.seq (.region 0 mvReg0.toArray false) (.seq (.region 1 mvOps.toArray true) .ret)) := by
  have h : (match Try.prog.funcs[19]? with | some fn => some (fn.ntmps, fn.results, fn.body) | none => none) = some (7, #[.tmp 0], some (.seq (.region 0 mvReg0.toArray false) (.seq (.region 1 mvOps.toArray true) .ret))) := by kernel_rfl
  cases hf : Try.prog.funcs[19]? with
  | none => rw [hf] at h; cases h
  | some fn =>
    rw [hf] at h
    simp only [Option.some.injEq, Prod.mk.injEq] at h
    exact ⟨fn, rfl, h.1, h.2.1, h.2.2⟩
theorem mv_reg0 : mvReg0.map (fun o => (o.op, o.dst, o.guard.isNone)) = [(.assign (.const (.map none)), some 0, true)] := by kernel_rfl
/-- What is known of an operation of the region. -/
theorem mv_at {i : Nat} {o : Oper} (h : mvOps[i]? = some o) : o.guard = none ∧ (mvOps.map (·.op))[i]? = some o.op ∧ (mvOps.map (fun o => (o.dst, o.guard.isNone)))[i]? = some (o.dst, true) := by
  have h2 : (mvOps.map (fun o => (o.dst, o.guard.isNone)))[i]? = some (o.dst, o.guard.isNone) := by rw [List.getElem?_map, h]; rfl
  have hi : i < 11 := by
    have := (List.getElem?_eq_some_iff.1 h).1
    have h3 : mvOps.length = 11 := by have := congrArg List.length mv_dst; simpa using this
    omega
  have hg : o.guard.isNone = true := by
    rw [mv_dst] at h2
    match i, hi with
    | 0, _ | 1, _ | 2, _ | 3, _ | 4, _ | 5, _ | 6, _ | 7, _ | 8, _ | 9, _ | 10, _ =>
      simp only [List.getElem?_cons_succ, List.getElem?_cons_zero, Option.some.injEq, Prod.mk.injEq] at h2
      exact h2.2.symm
  refine ⟨by simpa using hg, by rw [List.getElem?_map, h]; rfl, by rw [h2, hg]⟩
theorem mv_need {i x : Nat} {o : Oper} (h : mvOps[i]? = some o) (hd : depAt i x = true) {listed : Array Bool} (hl : ∀ e ∈ o.after.toList, Region.binds .any e = true → lis listed e.on = true) : lis listed x = true := by
  unfold depAt at hd
  rw [h] at hd
  simp only [dep, List.any_eq_true, Bool.and_eq_true] at hd
  obtain ⟨e, he, hb, hx⟩ := hd
  have := hl e he hb
  rwa [Nat.eq_of_beq_eq_true hx] at this
/-! ### the invariant -/
def mvE (p : Nat) : List Int × Int := ([(p : Int), (p : Int) + 1], if p = 3 then 0 else (p : Int) + 1)
def selE (listed : Array Bool) : List (List Int × Int) := (List.range 4).flatMap fun p => if lis listed (2 + 2 * p) then [mvE p] else []
def mvO (es : List (List Int × Int)) : SO C11 := .mv .i64 true 2 (es.map (·.1)) (es.map fun e => .raw (.int .i64 e.2))
structure MvI (B : World) (X : Own) (listed : Array Bool) (a : Act) (w : World) (ρ : Asg) (hp : Hp C11) (n : Nat) (tm : Tm) (es : List (List Int × Int)) (h : Nat) : Prop where
  rel : Rel B X ρ hp n w
  tmo : TmOk ρ tm a
  size : a.tmps.size = 7
  defs : a.defers = []
  perm : es.Perm (selE listed)
  map : lis listed 0 = true → find 1 tm = some (.h h) ∧ find h hp = some (mvO es)
  none : lis listed 0 = false → es = [] ∧ lis listed 9 = false ∧ lis listed 10 = false
  key : ∀ p, p < 4 → lis listed (1 + 2 * p) = true → find (2 + p) tm = some (.agg [.raw (.int .i64 (p : Int)), .raw (.int .i64 ((p : Int) + 1))])
  mv : lis listed 9 = true → find 6 tm = some (.h h)
  res : lis listed 10 = true → find 0 tm = some (.h h)
theorem selE_set {listed : Array Bool} (hs : listed.size = 11) {i : Nat} (hi : i < 11) (hne : ∀ p, p < 4 → i ≠ 2 + 2 * p) : selE (listed.setIfInBounds i true) = selE listed := by
  unfold selE
  simp only [List.range_succ, List.range_zero, List.nil_append, List.flatMap_append, List.flatMap_cons, List.flatMap_nil, List.append_nil, lis_set (listed := listed) (i := i) (by omega)]
  have h0 := hne 0 (by decide); have h1 := hne 1 (by decide); have h2 := hne 2 (by decide); have h3 := hne 3 (by decide)
  rw [if_neg (show ¬ 2 + 2 * 0 = i by omega), if_neg (show ¬ 2 + 2 * 1 = i by omega), if_neg (show ¬ 2 + 2 * 2 = i by omega), if_neg (show ¬ 2 + 2 * 3 = i by omega)]
def selB (b0 b1 b2 b3 : Bool) : List (List Int × Int) := (if b0 then [mvE 0] else []) ++ ((if b1 then [mvE 1] else []) ++ ((if b2 then [mvE 2] else []) ++ (if b3 then [mvE 3] else [])))
theorem selE_B (listed : Array Bool) : selE listed = selB (lis listed 2) (lis listed 4) (lis listed 6) (lis listed 8) := by
  unfold selE selB
  simp [List.range_succ]
theorem selE_ins {listed : Array Bool} (hs : listed.size = 11) {p : Nat} (hp : p < 4) (hoff : lis listed (2 + 2 * p) = false) : (selE listed ++ [mvE p]).Perm (selE (listed.setIfInBounds (2 + 2 * p) true)) ∧ (mvE p).1 ∉ (selE listed).map (·.1) := by
  simp only [selE_B, lis_set (listed := listed) (i := 2 + 2 * p) (by omega)]
  match p, hp with
  | 0, _ =>
    rw [show lis listed 2 = false from hoff]
    simp only [Nat.mul_zero, Nat.add_zero, if_true, show ¬ (4 = 2) by decide, show ¬ (6 = 2) by decide, show ¬ (8 = 2) by decide, if_false]
    cases lis listed 4 <;> cases lis listed 6 <;> cases lis listed 8 <;> exact ⟨by decide, by decide⟩
  | 1, _ =>
    rw [show lis listed 4 = false from hoff]
    simp only [Nat.mul_one, show 2 + 2 = 4 from rfl, if_true, show ¬ (2 = 4) by decide, show ¬ (6 = 4) by decide, show ¬ (8 = 4) by decide, if_false]
    cases lis listed 2 <;> cases lis listed 6 <;> cases lis listed 8 <;> exact ⟨by decide, by decide⟩
  | 2, _ =>
    rw [show lis listed 6 = false from hoff]
    simp only [show 2 + 2 * 2 = 6 from rfl, if_true, show ¬ (2 = 6) by decide, show ¬ (4 = 6) by decide, show ¬ (8 = 6) by decide, if_false]
    cases lis listed 2 <;> cases lis listed 4 <;> cases lis listed 8 <;> exact ⟨by decide, by decide⟩
  | 3, _ =>
    rw [show lis listed 8 = false from hoff]
    simp only [show 2 + 2 * 3 = 8 from rfl, if_true, show ¬ (2 = 8) by decide, show ¬ (4 = 8) by decide, show ¬ (6 = 8) by decide, if_false]
    cases lis listed 2 <;> cases lis listed 4 <;> cases lis listed 6 <;> exact ⟨by decide, by decide⟩
theorem newK_of {a : List Int} : ∀ {ks : List (List Int)}, a ∉ ks → newK a ks = true
  | [], _ => rfl
  | k :: r, h => by
    simp only [List.mem_cons, not_or] at h
    unfold newK
    rw [newK_of h.2]
    cases he : eqI a k with
    | false => rfl
    | true => exact absurd (eqI_eq.1 he) h.1
theorem mv_type : mapK Try.prog 52 = some (54, .i64, true, 2, 3) := by kernel_rfl
theorem mv_make : (pMake (C := C11) Try.prog = pMake Try.prog) ∧ ∀ n : Nat, (pMake (C := C11) Try.prog n 52) = .leaf (.h n, [(n, mvO [])]) := ⟨rfl, fun n => by
  unfold pMake pMakeMv
  rw [show mapT Try.prog 52 = none from by kernel_rfl, mv_type]
  rfl⟩
theorem mv_build (a b : Int) : (pBuild Try.prog 54 [0, 1] [.raw (.int .i64 a), .raw (.int .i64 b)]).get = some (.agg [.raw (.int .i64 a), .raw (.int .i64 b)]) := by kernel_rfl
variable {B : World} {X : Own}
theorem mv_step {listed : Array Bool} {a : Act} {w : World} (hs : listed.size = mvOps.toArray.size) (hI : ∃ ρ hp n tm es h, MvI B X listed a w ρ hp n tm es h) (i : Nat) (o : Oper) (ho : mvOps.toArray[i]? = some o) (hoff : lis listed i = false)
    (haft : ∀ e ∈ o.after.toList, Region.binds .any e = true → lis listed e.on = true) {Q : Exit → Act → World → Prop} :
    wpOp Try.prog mvOps.toArray Q i (fun a' w' => ∃ ρ hp n tm es h, MvI B X (listed.setIfInBounds i true) a' w' ρ hp n tm es h) a w := by
  obtain ⟨ρ, hp, n, tm, es, h, hI⟩ := hI
  have h11 : mvOps.length = 11 := by have := congrArg List.length mv_dst; simpa using this
  have hs : listed.size = 11 := by rw [hs, List.size_toArray, h11]
  have ho' : mvOps[i]? = some o := by simpa using ho
  have hi : i < 11 := by have := (List.getElem?_eq_some_iff.1 ho').1; omega
  obtain ⟨hg, hop, hdst⟩ := mv_at ho'
  have hset := lis_set (listed := listed) (i := i) (by omega)
  have need : ∀ x, ((i, x) ∈ ([(2, 0), (2, 1), (4, 0), (4, 3), (6, 0), (6, 5), (8, 0), (8, 7), (9, 0), (10, 0), (10, 9)] : List (Nat × Nat))) → lis listed x = true := fun x hx =>
    mv_need ho' (List.all_eq_true.1 mv_dep _ hx) haft
  rw [mv_op] at hop
  rw [mv_dst] at hdst
  -- a key that is built
  have hbuild : ∀ p, p < 4 → i = 1 + 2 * p → o.op = mk2 (p : Int) ((p : Int) + 1) → o.dst = some (2 + p) → wpOp Try.prog mvOps.toArray Q i (fun a' w' => ∃ ρ hp n tm es h, MvI B X (listed.setIfInBounds i true) a' w' ρ hp n tm es h) a w := fun p hp4 hip e1 e2 => by
    refine wpOp_prim (C := C11) hI.rel hI.tmo ho hg (vs := [.raw (.int .i64 (p : Int)), .raw (.int .i64 ((p : Int) + 1))]) (r := (.agg [.raw (.int .i64 (p : Int)), .raw (.int .i64 ((p : Int) + 1))], [])) (by rw [e1]; rfl) (by
      rw [e1]
      show (lift (pBuild Try.prog 54 [0, 1] _)).get = _
      exact Tr.bind_get (mv_build _ _) rfl) fun ρ' v w' hle hd hR hT => ?_
    rw [e2]
    refine ⟨ρ', hp, n + 4, (2 + p, .agg [.raw (.int .i64 (p : Int)), .raw (.int .i64 ((p : Int) + 1))]) :: tm, es, h, hR, hT.put (t := 2 + p) hd (show 2 + p < a.tmps.size by rw [hI.size]; omega), by rw [put_size]; exact hI.size, by rw [put_defers]; exact hI.defs, ?_, ?_, ?_, ?_, ?_, ?_⟩
    · rw [selE_set hs hi (fun q _ => by omega)]; exact hI.perm
    · intro h0
      rw [hset, if_neg (by omega)] at h0
      obtain ⟨q1, q2⟩ := hI.map h0
      exact ⟨by rw [find_cons, if_neg (by omega)]; exact q1, q2⟩
    · intro h0
      rw [hset, if_neg (by omega)] at h0
      rw [hset, if_neg (by omega), hset, if_neg (by omega)]
      exact hI.none h0
    · intro q hq hl
      rw [find_cons]
      by_cases hpq : 2 + q = 2 + p
      · have : q = p := by omega
        subst this
        rw [if_pos rfl]
      · rw [if_neg hpq]
        rw [hset, if_neg (by omega)] at hl
        exact hI.key q hq hl
    · intro hl
      rw [hset, if_neg (by omega)] at hl
      rw [find_cons, if_neg (by omega)]; exact hI.mv hl
    · intro hl
      rw [hset, if_neg (by omega)] at hl
      rw [find_cons, if_neg (by omega)]; exact hI.res hl
  -- an entry that is laid
  have hins : ∀ p, p < 4 → i = 2 + 2 * p → lis listed 0 = true → lis listed (1 + 2 * p) = true → o.op = in2 (2 + p) (mvE p).2 → o.dst = none → wpOp Try.prog mvOps.toArray Q i (fun a' w' => ∃ ρ hp n tm es h, MvI B X (listed.setIfInBounds i true) a' w' ρ hp n tm es h) a w := fun p hp4 hip l0 l1 e1 e2 => by
    obtain ⟨q1, q2⟩ := hI.map l0
    have q3 := hI.key p hp4 l1
    subst hip
    obtain ⟨s1, s2⟩ := selE_ins hs hp4 hoff
    have s3 : (mvE p).1 ∉ es.map (·.1) := fun hm => s2 ((hI.perm.map _).mem_iff.1 hm)
    refine wpOp_prim (C := C11) hI.rel hI.tmo ho hg (vs := [.h h, .agg [.raw (.int .i64 (p : Int)), .raw (.int .i64 ((p : Int) + 1))], .raw (.int .i64 (mvE p).2)]) (r := (.raw undef, [(h, mvO (es ++ [mvE p]))])) (by
        rw [e1]
        show evTs tm [.tmp 1, .tmp (2 + p), .const _] = _
        simp only [evTs, evT, q1, q3]) (by
      rw [e1]
      show (pUpdate Try.prog (fun i => find i hp) 52 (.h h) (.agg [.raw (.int .i64 (p : Int)), .raw (.int .i64 ((p : Int) + 1))]) (.raw (.int .i64 (mvE p).2))).get = _
      unfold pUpdate
      simp only [q2, mvO, mv_type]
      show (Tr.br (newK [(p : Int), (p : Int) + 1] (es.map (·.1))) _ _).get = _
      rw [show newK [(p : Int), (p : Int) + 1] (es.map (·.1)) = true from newK_of s3]
      simp only [Tr.get, List.map_append, List.map_cons, List.map_nil]
      rfl) fun ρ' v w' hle hd hR hT => ?_
    rw [e2]
    refine ⟨ρ', _, n + 4, tm, es ++ [mvE p], h, hR, hT, hI.size, hI.defs, ?_, ?_, ?_, ?_, ?_, ?_⟩
    · exact (hI.perm.append_right _).trans s1
    · intro _
      exact ⟨q1, by rw [List.cons_append, find_cons, if_pos rfl]⟩
    · intro h0
      rw [hset, if_neg (by omega), l0] at h0; cases h0
    · intro q hq hl
      rw [hset, if_neg (by omega)] at hl
      exact hI.key q hq hl
    · intro hl
      rw [hset, if_neg (by omega)] at hl
      exact hI.mv hl
    · intro hl
      rw [hset, if_neg (by omega)] at hl
      exact hI.res hl
  match i, hi with
  | 0, _ =>
    simp only [List.getElem?_cons_zero, Option.some.injEq, Prod.mk.injEq, and_true] at hop hdst
    obtain ⟨n1, n2, n3⟩ := hI.none hoff
    refine wpOp_prim (C := C11) hI.rel hI.tmo ho hg (vs := []) (r := (.h n, [(n, mvO [])])) (by rw [← hop]; rfl) (by
      rw [← hop]
      show (pMake (C := C11) Try.prog n 52).get = _
      rw [mv_make.2 n]; rfl) fun ρ' v w' hle hd hR hT => ?_
    rw [← hdst]
    refine ⟨ρ', _, n + 4, (1, .h n) :: tm, [], n, hR, hT.put (t := 1) hd (show 1 < a.tmps.size by rw [hI.size]; decide), by rw [put_size]; exact hI.size, by rw [put_defers]; exact hI.defs, ?_, ?_, ?_, ?_, ?_, ?_⟩
    · rw [selE_set hs (i := 0) (by decide) (fun q _ => by omega), ← n1]; exact hI.perm
    · intro _
      exact ⟨by rw [find_cons, if_pos rfl], by rw [List.cons_append, find_cons, if_pos rfl]⟩
    · intro h0
      rw [hset, if_pos rfl] at h0; cases h0
    · intro q hq hl
      rw [hset, if_neg (by omega)] at hl
      rw [find_cons, if_neg (by omega)]
      exact hI.key q hq hl
    · intro hl
      rw [hset, if_neg (by omega), n2] at hl; cases hl
    · intro hl
      rw [hset, if_neg (by omega), n3] at hl; cases hl
  | 1, _ => exact hbuild 0 (by decide) rfl (Option.some.inj hop).symm (congrArg Prod.fst (Option.some.inj hdst)).symm
  | 3, _ => exact hbuild 1 (by decide) rfl (Option.some.inj hop).symm (congrArg Prod.fst (Option.some.inj hdst)).symm
  | 5, _ => exact hbuild 2 (by decide) rfl (Option.some.inj hop).symm (congrArg Prod.fst (Option.some.inj hdst)).symm
  | 7, _ => exact hbuild 3 (by decide) rfl (Option.some.inj hop).symm (congrArg Prod.fst (Option.some.inj hdst)).symm
  | 2, _ => exact hins 0 (by decide) rfl (need 0 (by decide)) (need 1 (by decide)) (Option.some.inj hop).symm (congrArg Prod.fst (Option.some.inj hdst)).symm
  | 4, _ => exact hins 1 (by decide) rfl (need 0 (by decide)) (need 3 (by decide)) (Option.some.inj hop).symm (congrArg Prod.fst (Option.some.inj hdst)).symm
  | 6, _ => exact hins 2 (by decide) rfl (need 0 (by decide)) (need 5 (by decide)) (Option.some.inj hop).symm (congrArg Prod.fst (Option.some.inj hdst)).symm
  | 8, _ => exact hins 3 (by decide) rfl (need 0 (by decide)) (need 7 (by decide)) (Option.some.inj hop).symm (congrArg Prod.fst (Option.some.inj hdst)).symm
  | 9, _ =>
    have l0 := need 0 (by decide)
    obtain ⟨q1, q2⟩ := hI.map l0
    have hop : o.op = .move (.tmp 1) := by simpa using hop.symm
    have hdst : o.dst = some 6 := by simpa using hdst.symm
    refine wpOp_prim (C := C11) hI.rel hI.tmo ho hg (vs := [.h h]) (r := (.h h, [])) (by
        rw [hop]; show evTs tm [.tmp 1] = _; simp only [evTs, evT, q1]) (by rw [hop]; rfl) fun ρ' v w' hle hd hR hT => ?_
    rw [hdst]
    refine ⟨ρ', hp, n + 4, (6, .h h) :: tm, es, h, hR, hT.put (t := 6) hd (show 6 < a.tmps.size by rw [hI.size]; decide), by rw [put_size]; exact hI.size, by rw [put_defers]; exact hI.defs, ?_, ?_, ?_, ?_, ?_, ?_⟩
    · rw [selE_set hs (i := 9) (by decide) (fun q _ => by omega)]; exact hI.perm
    · intro _; exact ⟨by rw [find_cons, if_neg (by omega)]; exact q1, q2⟩
    · intro h0
      rw [hset, if_neg (by omega), l0] at h0; cases h0
    · intro q hq hl
      rw [hset, if_neg (by omega)] at hl
      rw [find_cons, if_neg (by omega)]
      exact hI.key q hq hl
    · intro _; rw [find_cons, if_pos rfl]
    · intro hl
      rw [hset, if_neg (by omega)] at hl
      rw [find_cons, if_neg (by omega)]; exact hI.res hl
  | 10, _ =>
    have l0 := need 0 (by decide)
    have l9 := need 9 (by decide)
    obtain ⟨q1, q2⟩ := hI.map l0
    have q6 := hI.mv l9
    have hop : o.op = .assign (.tmp 6) := by simpa using hop.symm
    have hdst : o.dst = some 0 := by simpa using hdst.symm
    refine wpOp_prim (C := C11) hI.rel hI.tmo ho hg (vs := [.h h]) (r := (.h h, [])) (by
        rw [hop]; show evTs tm [.tmp 6] = _; simp only [evTs, evT, q6]) (by rw [hop]; rfl) fun ρ' v w' hle hd hR hT => ?_
    rw [hdst]
    refine ⟨ρ', hp, n + 4, (0, .h h) :: tm, es, h, hR, hT.put (t := 0) hd (show 0 < a.tmps.size by rw [hI.size]; decide), by rw [put_size]; exact hI.size, by rw [put_defers]; exact hI.defs, ?_, ?_, ?_, ?_, ?_, ?_⟩
    · rw [selE_set hs (i := 10) (by decide) (fun q _ => by omega)]; exact hI.perm
    · intro _; exact ⟨by rw [find_cons, if_neg (by omega)]; exact q1, q2⟩
    · intro h0
      rw [hset, if_neg (by omega), l0] at h0; cases h0
    · intro q hq hl
      rw [hset, if_neg (by omega)] at hl
      rw [find_cons, if_neg (by omega)]
      exact hI.key q hq hl
    · intro _; rw [find_cons, if_neg (by omega)]; exact q6
    · intro _; rw [find_cons, if_pos rfl]
theorem mv_first : (regionS (C := C11) (ansT (Tm × Nat)) Try.prog (fun _ _ _ _ _ => .fail) 7 mvReg0 mvReg0 [] [] 0 fun tm hp n => .leaf (tm, n)).get = some ([(0, .raw (.map none))], 4) := by kernel_rfl
def mvAll : List (List Int × Int) := [mvE 0, mvE 1, mvE 2, mvE 3]
theorem mv_canon {es : List (List Int × Int)} (h : es.Perm mvAll) {ρ : Asg} {w : World} {okb : Nat → Prop} {v : Value} (ho : okObj ρ w okb v (mvO es)) : okObj ρ w okb v (mvO mvAll) := by
  obtain ⟨g, ms, clock, us, rfl, h1, h2, h3, h4, h5, h6, h7, h8⟩ := ho
  have hus : ∀ l : List (List Int × Int), denL ρ (l.map fun e => SV.raw (.int .i64 e.2)) = some (l.map fun e => Value.int .i64 e.2) := fun l => by
    induction l with
    | nil => rfl
    | cons x l ih => exact denL_cons.2 ⟨_, _, rfl, ih, rfl⟩
  have := hus es
  rw [h2] at this; cases this
  have hz : ∀ l : List (List Int × Int), ((l.map (·.1)).map (keyV .i64 true)).zip (l.map fun e => Value.int .i64 e.2) = l.map fun e => (keyV .i64 true e.1, Value.int .i64 e.2) := fun l => by
    induction l with
    | nil => rfl
    | cons x l ih => simp only [List.map_cons, List.zip_cons_cons, ih]
  refine ⟨g, ms, clock, mvAll.map (fun e => Value.int .i64 e.2), rfl, h1, hus _, h3, by simp, by decide, by decide, nofun, ?_⟩
  rw [hz] at h8 ⊢
  exact h8.trans (h.map _)
theorem moves_ok : Fn0 Try.prog 19 [] [] (.h 0, [mvO mvAll]) := fun B X ρ w vals hX RR hd => by
  obtain ⟨fn, hf, hn, hr, hb⟩ := mv_fn
  have hv : vals = [] := by simpa [denL] using hd.symm
  subst hv
  refine ⟨⟨fn, hf, by rw [hb]; rfl⟩, calls_of_wp hf hb ?_⟩
  have h11 : mvOps.length = 11 := by have := congrArg List.length mv_dst; simpa using this
  have hlis0 : ∀ x, lis (Array.replicate mvOps.toArray.size false) x = false := fun x => by
    unfold lis
    simp only [Array.getD_eq_getD_getElem?, Array.getElem?_replicate]
    split <;> rfl
  refine wp_seq (wp_region_list ?_)
  refine regionS_sound (C := C11) (X := X) (N := 7) (A := ansT (Tm × Nat)) (I := fun y => y.get = some ([(0, .raw (.map none))], 4)) (call := fun _ _ _ _ _ => .fail) plain (ansT_ok _) (fun _ _ _ _ _ _ _ _ _ _ h => by cases h) mvReg0 (hp := []) (n := 0) (tm := []) mv_first (by simp [hn]) RR (fun t sv h => by simp [find] at h) ?_
  intro ρ1 tm1 hp1 n1 a1 w1 g1 g2 g3 g4 g5 g6 g7
  simp only [Tr.get, Option.some.injEq, Prod.mk.injEq] at g7
  obtain ⟨rfl, rfl⟩ := g7
  refine wp_seq (wp_region_any mixed ?_)
  refine wpAny_inv (I := fun listed a w => ∃ ρ hp n tm es h, MvI B X listed a w ρ hp n tm es h) (fun listed a w hs hI i o ho hoff haft => mv_step hs hI i o ho hoff haft) ?_ _ _ _ _ (by simp) ?_ (by unfold cnt; exact Nat.le_trans List.countP_le_length (by simp))
  · intro listed a w' hs hI hready
    obtain ⟨ρ2, hp2, n2, tm2, es, h, hI⟩ := hI
    have hs' : listed.size = 11 := by rw [hs, List.size_toArray, h11]
    have hall : ∀ i, i < 11 → lis listed i = true := by
      intro i
      induction i using Nat.strongRecOn with
      | ind i ih =>
        intro hi
        cases hl : lis listed i with
        | true => rfl
        | false =>
          exfalso
          have hlt : i < mvOps.length := by omega
          have ho : mvOps[i]? = some (mvOps[i]) := List.getElem?_eq_getElem hlt
          have hback := List.all_eq_true.1 mv_back i (List.mem_range.2 hi)
          rw [ho] at hback
          simp only [List.all_eq_true, Bool.or_eq_true, Bool.not_eq_true'] at hback
          have : i ∈ Region.ready .any mvOps.toArray listed := mem_ready.2 ⟨by
            unfold lis at hl
            simp only [Array.getD_eq_getD_getElem?] at hl ⊢
            rw [Array.getElem?_eq_getElem (by omega)] at hl ⊢
            exact hl, mvOps[i], (by rw [List.getElem?_toArray]; exact ho), fun e he hbd => by
            rcases hback e (by simpa using he) with h' | h'
            · rw [hbd] at h'; cases h'
            · have hlt := Nat.le_of_ble_eq_true h'
              exact ih e.on (by omega) (by omega)⟩
          rw [hready] at this; cases this
    have hperm : es.Perm mvAll := by
      have := hI.perm
      rw [selE_B, hall 2 (by decide), hall 4 (by decide), hall 6 (by decide), hall 8 (by decide)] at this
      exact this
    obtain ⟨q1, q2⟩ := hI.map (hall 0 (by decide))
    have q3 := hI.res (hall 10 (by decide))
    obtain ⟨v, hv1, hv2⟩ := hI.tmo 0 _ q3
    obtain ⟨v', hv', hok⟩ := hI.rel.obj h _ q2
    have hv1' : ρ2 h = some v := hv1
    rw [hv1'] at hv'; cases hv'
    have hR := hI.rel.reobj q2 hv1' (mv_canon hperm hok) (fun h => h) (fun h => h)
    have hR2 := hR.ren (hp' := numH 0 [mvO mvAll]) (n' := 1) (f := fun j => if j = 0 then h else n2 + j) ⟨fun j o hj => by
        obtain ⟨_, g⟩ := find_num hj
        rw [Nat.sub_zero] at g
        match j, g with
        | 0, g => simp at g; subst g; exact ⟨mvO mvAll, by simp [find_cons], by
            show subO (renO _ (mvO mvAll)) (mvO mvAll)
            exact subO.refl _⟩, fun i j oi oj hi hj hij => by
        obtain ⟨_, g1⟩ := find_num hi
        obtain ⟨_, g2⟩ := find_num hj
        have := (List.getElem?_eq_some_iff.1 g1).1
        have := (List.getElem?_eq_some_iff.1 g2).1
        simp at *; omega⟩ (by rw [hX]; exact Nat.zero_le _) (fun i hi => by rw [hX] at hi; cases hi) (fun i hi => by rw [if_neg (by omega)]; exact Nat.le_add_right _ _)
    refine wp_ret ⟨hI.defs, v, ?_, _, v, rfl, hR2, by show (fun i => ρ2 (if i = 0 then h else n2 + i)) 0 = some v; simpa using hv1'⟩
    simp [results, hr, hv2]
  · refine ⟨ρ1, hp1, 4, [(0, .raw (.map none))], [], 0, g5.drew, g6, g3, g4, ?_, ?_, ?_, ?_, ?_, ?_⟩
    · rw [selE_B]; simp only [hlis0]; exact List.Perm.refl _
    · intro h; rw [hlis0] at h; cases h
    · intro _; exact ⟨rfl, hlis0 9, hlis0 10⟩
    · intro p _ h; rw [hlis0] at h; cases h
    · intro h; rw [hlis0] at h; cases h
    · intro h; rw [hlis0] at h; cases h
def movesT : FnF C11 := fun args os => match args, os with
  | [], [] => .leaf (.h 0, [mvO mvAll])
  | _, _ => .fail
theorem movesT_ok : ∀ args os r, (movesT args os).get = some r → Fn0 Try.prog 19 args os r := fun args os r h => by
  unfold movesT at h
  split at h
  · simp only [Tr.get, Option.some.injEq] at h; subst h; exact moves_ok
  · cases h
end
end Go.Proofs.Ytiaboemkgpkcpaa
