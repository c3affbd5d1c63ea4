/-
  Chapter 11: TokenGoes' loop over a map as a piece that is told. Own work; nothing here is trusted.
-/
import Derived.Test.YtiaboemkgpkcpaaCh11Rng
namespace Go.Proofs.Ytiaboemkgpkcpaa
open Go Go.Sx Go.RowKit
set_option maxRecDepth 1000000
set_option maxHeartbeats 8000000
set_option linter.unusedVariables false
set_option linter.unusedSimpArgs false
noncomputable section
abbrev vPtr (g : Nat) : Value := .pointer (some ⟨g, 0, none⟩)
abbrev kvE (e : MapEntry) : Value × Value := (e.key, e.val)
abbrev kvP (p : Int × Int) : Value × Value := (.int .i64 p.1, .int .i64 p.2)
theorem kv_mem {es : List MapEntry} {m : List (Int × Int)} (h : es.map kvE = m.map kvP) {e : MapEntry} (he : e ∈ es) : ∃ p ∈ m, e.key = .int .i64 p.1 ∧ e.val = .int .i64 p.2 := by
  have : kvE e ∈ m.map kvP := by rw [← h]; exact List.mem_map.2 ⟨e, he, rfl⟩
  obtain ⟨p, hp, hk⟩ := List.mem_map.1 this
  exact ⟨p, hp, (congrArg Prod.fst hk).symm, (congrArg Prod.snd hk).symm⟩
theorem kv_cnt : ∀ {es : List MapEntry} {m : List (Int × Int)}, es.map kvE = m.map kvP → (es.filter fun e => (valOf e.val).tmod 4 != 0).length = (m.filter fun p => p.2.tmod 4 != 0).length
  | [], [], _ => rfl
  | [], p :: m, h => by cases h
  | e :: es, [], h => by cases h
  | e :: es, p :: m, h => by
    rw [List.map_cons, List.map_cons] at h
    injection h with h1 h2
    have hv : e.val = .int .i64 p.2 := congrArg Prod.snd h1
    have ih := kv_cnt h2
    rw [List.filter_cons, List.filter_cons, hv]
    show (if ((p.2 : Int).tmod 4 != 0) = true then _ else _ : List MapEntry).length = _
    cases (p.2.tmod 4 != 0) with
    | true => simp only [if_true, List.length_cons, ih]
    | false => simp only [Bool.false_eq_true, if_false, ih]
@[reducible] def gVs' (tb : Nat) (c K V : Int) (g : Nat) : List SV := [.h tb, .raw (.int .i64 c), .raw (.int .i64 K), .raw (.int .i64 V), .raw (vPtr g)]
structure RI (B : World) (X : Own) (ρ : Asg) (hp : Hp C11) (n : Nat) (vtb : Value) (g bm : Nat) (es : Array MapEntry) (clock : Nat) (seen : Array Nat) (a : Act) (w : World) : Prop where
  size : a.tmps.size = 207
  defers : a.defers = []
  rel : Rel B X ρ hp n w
  it : a.tmps[168]? = some (vPtr g)
  t3 : a.tmps[3]? = some vtb
  t13 : a.tmps[13]? = some (.int .i64 (cntS es.toList seen : Int))
  hg : w.heap[g]? = some (.mapIter (some bm) clock seen clock)
  hb : w.heap[bm]? = some (.map es clock)
section
variable {B : World} {X : Own} {ρ : Asg} {hp : Hp C11} {n : Nat} {bm tb g : Nat} {es : Array MapEntry} {clock : Nat} {v : Lo Tk} {base : List Nat} {vtb : Value} {m : List (Int × Int)}
theorem rng_loop (hgB : B.heap.size ≤ g) (hgl : ∀ i o u, find i hp = some o → o.live = true → ρ i = some u → blk u ≠ some g) (hbm : ∀ i o u, i ∈ base → find i hp = some o → o.owns = true → ρ i = some u → blk u ≠ some bm)
    (hst : stOk es clock) (hes : es.toList.map kvE = m.map kvP) (hgo : goM (lo v) m = true) (hρ : ρ tb = some vtb) (hnd : noDup base = true) (hos : objsN base hp base = some (gOs v)) {rest : List Nat} (hb0 : base = tb :: rest)
    {a : Act} {w : World} (hI : RI B X ρ hp n vtb g bm es clock #[] a w) {Q : Exit → Act → World → Prop} (hQ : ∀ seen a w, RI B X ρ hp n vtb g bm es clock seen a w → (cntS es.toList seen : Int) = cntG m → Q (.exit 2) a w) :
    (Code.loop (.seq (.region 28 ops2 false) (.seq (.cond (.tmp 170) .skip (.exit 2)) (.block 3 (.seq (.region 29 ops3 false) body3))))).wp Try.prog Q a w := by
  have hgo' : (lo v).length ≤ 100000 ∧ m.length ≤ 100000 ∧ ∀ p ∈ m, stA (lo v) p.1 = p.2.tmod 4 := by
    unfold goM at hgo
    simp only [Bool.and_eq_true, decide_eq_true_eq, List.all_eq_true, beq_iff_eq] at hgo
    exact hgo
  have hlen : es.toList.length = m.length := by
    have := congrArg List.length hes
    rwa [List.length_map, List.length_map] at this
  have hbb : base[0]? = some tb := by rw [hb0]; rfl
  have hnum : ∀ c K V, numL base (gVs' tb c K V g) = some (gVs c K V g) := fun c K V => by
    have hp0 : posN tb base 0 = some 0 := by
      rw [hb0]; unfold posN; rw [Nat.beq_refl]
    simp only [gVs', numL, numV, hp0]
  refine wp_loop (fun a w => ∃ seen, RI B X ρ hp n vtb g bm es clock seen a w) (fun a w => (leftOf es (w.iterSeen g)).size) ⟨_, hI⟩ ?_
  rintro a w ⟨seen, h⟩
  have hit : w.iterSeen g = seen := by unfold World.iterSeen; rw [h.hg]
  have hglt : g < w.heap.size := (Array.getElem?_eq_some_iff.1 h.hg).1
  have hne : bm ≠ g := fun e => by have := h.hb; rw [e, h.hg] at this; cases this
  have hold : ∀ x ∈ es.toList, x.born < clock := fun x hx => hst.2 _ (List.mem_map.2 ⟨x, hx, rfl⟩)
  refine wp_seq (wp_region_list ?_)
  rw [ops2_eq]
  rcases next_map (P := Try.prog) w (ops2[0]!).type g bm clock clock seen es clock h.hg h.hb hold (Nat.le_refl _) with ⟨h0, hrun⟩ | ⟨e, he, w1, hw1, hrun⟩
  · refine wpl_cons op20.2.2 (oper_value (ex_next op20.1 (by rw [eval_tmp h.it]; exact hrun)) ?_)
    rw [op20.2.1]
    have q1 : (a.put (some 169) (.tuple #[.bool false])).tmps[169]? = some (.tuple #[.bool false]) := put_get (by rw [h.size]; decide)
    refine wpl_cons op21.2.2 (oper_value (ex_extract (v := .bool false) op21.1 (eval_tmp q1) rfl) ?_)
    rw [op21.2.1]
    refine wp_seq (wp_cond_false (eval_tmp (put_get (by rw [put_size, h.size]; decide))) (wp_exit ?_))
    refine hQ seen _ _ ⟨by rw [put_size, put_size]; exact h.size, h.defers, h.rel, ?_, ?_, ?_, h.hg, h.hb⟩ ?_
    · rw [put_ne (by decide), put_ne (by decide)]; exact h.it
    · rw [put_ne (by decide), put_ne (by decide)]; exact h.t3
    · rw [put_ne (by decide), put_ne (by decide)]; exact h.t13
    · rw [cntS_all seen es.toList (all_seen es seen h0), kv_cnt hes]; rfl
  · obtain ⟨hmem, hns⟩ := mem_left he
    obtain ⟨p, hpm, hk, hv⟩ := kv_mem hes hmem
    rw [hk, hv] at hrun
    generalize hw2 : ({ w1 with heap := w1.heap.setIfInBounds g (.mapIter (some bm) clock (seen.push e.born) clock) } : World) = w2 at hrun
    have hh1 : w1.heap = w.heap := by rcases hw1 with rfl | rfl <;> rfl
    have R1 : Rel B X ρ hp n w1 := by
      rcases hw1 with rfl | rfl
      · exact h.rel
      · exact h.rel.drew
    have hset : ∀ b, b ≠ g → w2.heap[b]? = w.heap[b]? := fun b hb => by
      rw [← hw2, ← hh1]
      show (w1.heap.setIfInBounds g _)[b]? = _
      rw [Array.getElem?_setIfInBounds, if_neg (fun e => hb e.symm)]
    have hsz : w2.heap.size = w.heap.size := by rw [← hw2, ← hh1]; exact Array.size_setIfInBounds
    have R2 : Rel B X ρ hp n w2 := R1.world (by rw [← hw2]) (by rw [← hw2]) (by rw [← hw2]) (by rw [hsz, hh1]; exact Nat.le_refl _)
      (fun b hlt _ => by rw [hset b (by omega), hh1]) (fun i o u gg hi hl hu hgg => by rw [hset gg (fun e => hgl i o u hi hl hu (by rw [hgg, e])), hh1])
    have hg2 : w2.heap[g]? = some (.mapIter (some bm) clock (seen.push e.born) clock) := by
      rw [← hw2]
      show (w1.heap.setIfInBounds g _)[g]? = _
      rw [Array.getElem?_setIfInBounds, if_pos rfl, if_pos (by rw [hh1]; exact hglt)]
    have hb2 : w2.heap[bm]? = some (.map es clock) := by rw [hset bm hne]; exact h.hb
    refine wpl_cons op20.2.2 (oper_value (ex_next op20.1 (by rw [eval_tmp h.it]; exact hrun)) ?_)
    rw [op20.2.1]
    generalize ha1 : a.put (some 169) (.tuple #[.bool true, .int .i64 p.1, .int .i64 p.2]) = a1
    have s1 : a1.tmps.size = 207 := by rw [← ha1, put_size]; exact h.size
    have d1 : a1.defers = [] := by rw [← ha1]; exact h.defers
    have q1 : a1.tmps[169]? = some (.tuple #[.bool true, .int .i64 p.1, .int .i64 p.2]) := by rw [← ha1]; exact put_get (by rw [h.size]; decide)
    have i1 : a1.tmps[168]? = some (vPtr g) := by rw [← ha1, put_ne (by decide)]; exact h.it
    have t1 : a1.tmps[3]? = some vtb := by rw [← ha1, put_ne (by decide)]; exact h.t3
    have c1 : a1.tmps[13]? = some (.int .i64 (cntS es.toList seen : Int)) := by rw [← ha1, put_ne (by decide)]; exact h.t13
    refine wpl_cons op21.2.2 (oper_value (ex_extract (v := .bool true) op21.1 (eval_tmp q1) rfl) ?_)
    rw [op21.2.1]
    generalize ha2 : a1.put (some 170) (.bool true) = a2
    have s2 : a2.tmps.size = 207 := by rw [← ha2, put_size]; exact s1
    have d2 : a2.defers = [] := by rw [← ha2]; exact d1
    have q2 : a2.tmps[170]? = some (.bool true) := by rw [← ha2]; exact put_get (by rw [s1]; decide)
    have i2 : a2.tmps[168]? = some (vPtr g) := by rw [← ha2, put_ne (by decide)]; exact i1
    have t2 : a2.tmps[3]? = some vtb := by rw [← ha2, put_ne (by decide)]; exact t1
    have c2 : a2.tmps[13]? = some (.int .i64 (cntS es.toList seen : Int)) := by rw [← ha2, put_ne (by decide)]; exact c1
    refine wp_seq (wp_cond_true (eval_tmp q2) (wp_skip ?_))
    refine wp_block (wp_seq (wp_region_list ?_))
    rw [ops3_eq]
    have hentry := entry_map (P := Try.prog) w2 g bm clock seen es clock e hg2 hb2 hmem hst.1
    rw [hk, hv] at hentry
    refine wpl_cons op30.2.2 (oper_value (ex_entry op30.1 (by rw [eval_tmp i2]; exact hentry)) ?_)
    rw [op30.2.1]
    generalize ha3 : a2.put (some 171) (.tuple #[.int .i64 p.1, .int .i64 p.2]) = a3
    have s3 : a3.tmps.size = 207 := by rw [← ha3, put_size]; exact s2
    have d3 : a3.defers = [] := by rw [← ha3]; exact d2
    have q3 : a3.tmps[171]? = some (.tuple #[.int .i64 p.1, .int .i64 p.2]) := by rw [← ha3]; exact put_get (by rw [s2]; decide)
    have i3 : a3.tmps[168]? = some (vPtr g) := by rw [← ha3, put_ne (by decide)]; exact i2
    have t3 : a3.tmps[3]? = some vtb := by rw [← ha3, put_ne (by decide)]; exact t2
    have c3 : a3.tmps[13]? = some (.int .i64 (cntS es.toList seen : Int)) := by rw [← ha3, put_ne (by decide)]; exact c2
    refine wpl_cons op31.2.2 (oper_value (ex_extract (v := .int .i64 p.1) op31.1 (eval_tmp q3) rfl) ?_)
    rw [op31.2.1]
    refine wpl_cons op32.2.2 (oper_value (ex_extract (v := .int .i64 p.2) op32.1 (eval_tmp (show (a3.put (some 172) (.int .i64 p.1)).tmps[171]? = _ by rw [put_ne (by decide)]; exact q3)) rfl) ?_)
    rw [op32.2.1]
    generalize ha4 : (a3.put (some 172) (.int .i64 p.1)).put (some 173) (.int .i64 p.2) = a4
    have s4 : a4.tmps.size = 207 := by rw [← ha4, put_size, put_size]; exact s3
    have d4 : a4.defers = [] := by rw [← ha4]; exact d3
    have q4 : a4.tmps[172]? = some (.int .i64 p.1) := by rw [← ha4, put_ne (by decide)]; exact put_get (by rw [s3]; decide)
    have r4 : a4.tmps[173]? = some (.int .i64 p.2) := by rw [← ha4]; exact put_get (by rw [put_size, s3]; decide)
    have i4 : a4.tmps[168]? = some (vPtr g) := by rw [← ha4, put_ne (by decide), put_ne (by decide)]; exact i3
    have t4 : a4.tmps[3]? = some vtb := by rw [← ha4, put_ne (by decide), put_ne (by decide)]; exact t3
    have c4 : a4.tmps[13]? = some (.int .i64 (cntS es.toList seen : Int)) := by rw [← ha4, put_ne (by decide), put_ne (by decide)]; exact c3
    refine wpl_cons op33.2.2 (oper_value (ex_assign op33.1) ?_)
    rw [op33.2.1, eval_tmp q4]
    refine wpl_cons op34.2.2 (oper_value (ex_assign op34.1) ?_)
    rw [op34.2.1, eval_tmp (show (a4.put (some 14) (.int .i64 p.1)).tmps[173]? = _ by rw [put_ne (by decide)]; exact r4)]
    generalize ha5 : (a4.put (some 14) (.int .i64 p.1)).put (some 15) (.int .i64 p.2) = a5
    have s5 : a5.tmps.size = 207 := by rw [← ha5, put_size, put_size]; exact s4
    have d5 : a5.defers = [] := by rw [← ha5]; exact d4
    have q5 : a5.tmps[14]? = some (.int .i64 p.1) := by rw [← ha5, put_ne (by decide)]; exact put_get (by rw [s4]; decide)
    have r5 : a5.tmps[15]? = some (.int .i64 p.2) := by rw [← ha5]; exact put_get (by rw [put_size, s4]; decide)
    have i5 : a5.tmps[168]? = some (vPtr g) := by rw [← ha5, put_ne (by decide), put_ne (by decide)]; exact i4
    have t5 : a5.tmps[3]? = some vtb := by rw [← ha5, put_ne (by decide), put_ne (by decide)]; exact t4
    have c5 : a5.tmps[13]? = some (.int .i64 (cntS es.toList seen : Int)) := by rw [← ha5, put_ne (by decide), put_ne (by decide)]; exact c4
    have hcl := cntS_le es.toList seen
    have T5 : TmOk ρ (zipT gSl (gVs' tb (cntS es.toList seen : Int) p.1 p.2 g)) a5 := fun t sv ht => by
      simp only [zipT, find_cons] at ht
      split at ht
      · rename_i e; subst e; cases ht; exact ⟨vtb, hρ, t5⟩
      · split at ht
        · rename_i e; subst e; cases ht; exact ⟨_, rfl, c5⟩
        · split at ht
          · rename_i e; subst e; cases ht; exact ⟨_, rfl, q5⟩
          · split at ht
            · rename_i e; subst e; cases ht; exact ⟨_, rfl, r5⟩
            · split at ht
              · rename_i e; subst e; cases ht; exact ⟨_, rfl, i5⟩
              · cases ht
    have hpc := piece_in (tm := zipT gSl (gVs' tb (cntS es.toList seen : Int) p.1 p.2 g)) (n := n) (bs := gSl) rfl hnd (hnum _ _ _) hos (piece_run plain mixed sfB_ok lps3 (g_step (v := v) (g := g) hgo'.1 (hgo'.2.2 p hpm) ⟨Int.natCast_nonneg _, by omega⟩)) B X ρ w2 a5 s5 d5 R2 T5
    refine wp_mono hpc fun ex a' w' hq => ?_
    obtain ⟨rfl, z1, z2, z3, z4, z5, z6⟩ := hq
    show (∃ seen, RI B X ρ hp n vtb g bm es clock seen a' w') ∧ (leftOf es (w'.iterSeen g)).size < (leftOf es (w.iterSeen g)).size
    have hg' : w'.heap[g]? = some (.mapIter (some bm) clock (seen.push e.born) clock) := by
      rw [z5 g (by rw [hsz]; exact hglt) fun i o u hi ho hw hu => hgl i o u ho (live_of_owns hw) hu]
      exact hg2
    have hb' : w'.heap[bm]? = some (.map es clock) := by
      rw [z5 bm (Array.getElem?_eq_some_iff.1 hb2).1 fun i o u hi ho hw hu => hbm i o u hi ho hw hu]
      exact hb2
    have hm0 : mapN base n 0 = tb := by unfold mapN; rw [hbb]
    refine ⟨⟨seen.push e.born, z1, z2, z3, ?_, ?_, ?_, hg', hb'⟩, ?_⟩
    · obtain ⟨u, u1, u2⟩ := z4 168 (.raw (vPtr g)) rfl
      cases u1; exact u2
    · obtain ⟨u, u1, u2⟩ := z4 3 (.h (mapN base n 0)) rfl
      rw [hm0] at u1
      have u1 : ρ tb = some u := u1
      rw [hρ] at u1; cases u1; exact u2
    · obtain ⟨u, u1, u2⟩ := z4 13 (.raw (.int .i64 (gC (cntS es.toList seen : Int) p.2))) rfl
      cases u1
      rw [u2, cntS_push seen e hns es.toList hst.1 hmem, hv]
      rfl
    · have : w'.iterSeen g = seen.push e.born := by unfold World.iterSeen; rw [hg']
      rw [this, hit]
      exact left_shrinks es seen e he
end
end
end Go.Proofs.Ytiaboemkgpkcpaa
