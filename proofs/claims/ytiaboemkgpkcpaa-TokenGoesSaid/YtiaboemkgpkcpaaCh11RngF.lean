/-
  Chapter 11: TokenGoes' loop over a map, told to the evaluator. Own work; nothing here is trusted.
-/
import Derived.Test.YtiaboemkgpkcpaaCh11RngH
namespace Go.Proofs.Ytiaboemkgpkcpaa
open Go Go.Sx Go.RowKit
set_option maxRecDepth 1000000
set_option maxHeartbeats 8000000
set_option linter.unusedVariables false
set_option linter.unusedSimpArgs false
noncomputable section
def baseOfBox (tb : Nat) : SV → List Nat
  | .h lid => [tb, lid]
  | _ => [tb]
def rngF : Tm → Hp C11 → Nat → LT C11 := fun tm hp n => match find 3 tm, find 7 tm, find 13 tm with
  | some (.h tb), some (.h mh), some (.raw (.int .i64 (.ofNat 0))) => match find tb hp, find mh hp with
    | some (.box [s] _), some (.mp .i64 3 m) => match noDup (mh :: baseOfBox tb s), objsN (baseOfBox tb s) hp (baseOfBox tb s) with
      | true, some (.box [sv] 26 :: os) => match decT sv 1 os with
        | some (v, []) => .br (goM (lo v) m) (.leaf (.normal, [(3, .h tb), (13, .raw (.int .i64 (cntG m)))], hp, n)) .fail
        | _ => .fail
      | _, _ => .fail
    | _, _ => .fail
  | _, _, _ => .fail
theorem rngF_ok : PieceOk Try.prog 207 (.seq (.region 27 ops1 false) (.block 2 (.loop (.seq (.region 28 ops2 false) (.seq (.cond (.tmp 170) .skip (.exit 2)) (.block 3 (.seq (.region 29 ops3 false) body3))))))) rngF := fun tm hp n r h B X ρ w a hN hD R T => by
  unfold rngF at h
  split at h
  · rename_i tb mh h3 h7 h13
    split at h
    · rename_i s ty m htb hmh
      split at h
      · rename_i sv os hnd hos
        split at h
        · rename_i v hdv
          obtain ⟨rfl, hos2⟩ := decT_eq hdv
          rw [List.append_nil] at hos2
          subst hos2
          obtain ⟨hgo, h2⟩ := Tr.get_ask.1 h
          simp only [Tr.get, Option.some.injEq] at h2
          subst h2
          generalize hbase : baseOfBox tb s = base at hnd hos
          have hb0 : ∃ rest, base = tb :: rest := by
            rw [← hbase]; unfold baseOfBox
            split <;> exact ⟨_, rfl⟩
          obtain ⟨rest, hb0⟩ := hb0
          have hnd2 := noDup_spec hnd
          obtain ⟨hmb, _⟩ := List.nodup_cons.1 hnd2
          have hnd3 : noDup base = true := by
            unfold noDup at hnd
            split at hnd
            · cases hnd
            · exact hnd
          obtain ⟨vtb, p1, p2⟩ := T 3 _ h3
          obtain ⟨vm, p3, p4⟩ := T 7 _ h7
          obtain ⟨vc, p5, p6⟩ := T 13 _ h13
          cases p5
          have p1 : ρ tb = some vtb := p1
          have p3 : ρ mh = some vm := p3
          obtain ⟨vm', q1, bm, es, clock, rfl, q2, q3, q4, q5⟩ := R.obj mh _ hmh
          rw [p3] at q1; cases q1
          have hes : es.toList.map kvE = m.map kvP := q4
          have hbm : ∀ i o u, i ∈ base → find i hp = some o → o.owns = true → ρ i = some u → blk u ≠ some bm := fun i o u hi ho hw hu he => by
            have hne : i ≠ mh := fun e => hmb (e ▸ hi)
            exact R.sep i mh o _ u _ bm hne ho hmh hw rfl hu p3 he rfl
          refine wp_seq (wp_region_list ?_)
          rw [ops1_eq]
          refine wpl_cons op10.2.2 (oper_value (ex_move op10.1) ?_)
          rw [op10.2.1, eval_tmp p4]
          have i1 : (a.put (some 167) (.map (some bm))).tmps[167]? = some (.map (some bm)) := put_get (by rw [hN]; decide)
          refine wpl_cons op11.2.2 (oper_value (ex_range op11.1 (by rw [eval_tmp i1]; exact run_range_map w 30 3 3 bm es clock map30 q3)) ?_)
          rw [op11.2.1]
          have hB := (Below.refl w.heap.size w).alloc (Nat.le_refl _) (.mapIter (some bm) clock #[] clock)
          have R2 := R.below hB
          have hI0 : RI B X ρ hp n vtb w.heap.size bm es clock #[] ((a.put (some 167) (.map (some bm))).put (some 168) (vPtr w.heap.size)) (w.alloc (.mapIter (some bm) clock #[] clock)) := by
            refine ⟨by rw [put_size, put_size]; exact hN, hD, R2, put_get (by rw [put_size, hN]; decide), ?_, ?_, heap_alloc_new w _, ?_⟩
            · rw [put_ne (by decide), put_ne (by decide)]; exact p2
            · rw [put_ne (by decide), put_ne (by decide), p6, cntS_nil]; rfl
            · rw [heap_alloc_old w _ (Array.getElem?_eq_some_iff.1 q3).1]; exact q3
          refine wp_block (rng_loop (g := w.heap.size) (bm := bm) (tb := tb) (vtb := vtb) (base := base) (rest := rest) (v := v) (m := m) (es := es) (clock := clock) R.size
            (fun i o u hi hl hu he => by have := R.blkOk i o u _ hi hl hu he; omega) hbm q5 hes hgo p1 hnd3 hos hb0 hI0 ?_)
          · intro seen a' w' hI hc
            show PostC B X ρ hp n 207 _ .normal a' w'
            refine ⟨.normal, ρ, _, hp, n, rfl, Asg.le_refl _, Grow.refl _ _, hI.size, hI.defers, hI.rel, ?_, rfl⟩
            intro t sv ht
            rw [find_cons] at ht
            split at ht
            · rename_i e; subst e; cases ht; exact ⟨vtb, p1, hI.t3⟩
            · rw [find_cons] at ht
              split at ht
              · rename_i e; subst e; cases ht; exact ⟨_, rfl, by rw [hI.t13, hc]⟩
              · cases ht
        · cases h
      · cases h
    · cases h
  · cases h
def hkG : HookT C11 := fun id => match Nat.beq id 27 with
  | true => some rngF
  | false => none
theorem hkG_ok : HookOk Try.prog 3 hkG := fun fn c hfn hc id s hm f hf => by
  unfold hkG at hf
  split at hf
  · rename_i hid
    cases hf
    have hid := Nat.eq_of_beq_eq_true hid
    subst hid
    have e := rng_eq
    unfold seqOf at e
    simp only [hfn, hc] at e
    have hp := pickL_mem hm
    split at e
    · rename_i s' hs'
      rw [hs'] at hp
      obtain rfl := List.mem_singleton.1 hp
      simp only [Option.some.injEq, Prod.mk.injEq] at e
      rw [e.1, e.2]
      exact rngF_ok
    · cases e
  · cases hf
end
end Go.Proofs.Ytiaboemkgpkcpaa
