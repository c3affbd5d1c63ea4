/-
  The Go function dumbwaiter/dumbwaiterlaw24.FilterCalls answers true, whatever its arguments are, and leaves what there was as it was. No condition.
-/
import Derived.Test.YtgepgnjjhgmfnaaRows
import Derived.Test.YtgepgnjjhgmfnaaFcXH
namespace Go.Proofs.Ytgepgnjjhgmfnaa.filterCalls
open Go.ChangeShapes Go.WideShapes Go.ChangeAt Go.RowKit Go.Sx
set_option linter.unusedVariables false

theorem own : ownKnob Try.prog.godebug = none := by kernel_rfl
theorem laidOut : laidOutB Try.prog = true := by kernel_rfl
theorem recs : recB Try.prog Try.f8.params.toList = true := by kernel_rfl

set_option maxRecDepth 100000 in
theorem lifted (os : Os) (started : os.Started) (H : Type) (enc : TypeId × Value → H) :
    ReturnsInHanded {} Try.checked os 8 .any (Rows.filterCallsSpec.pre6 enc Try.prog Try.f8 Rows.filterCallsRow.domain false) (Rows.filterCallsSpec.post enc Try.prog Try.f8 false true false false) := by
  refine returnsInHanded_of_change (C := Try.checked) own started (by kernel_rfl) Try.func8
    (ChangeSpec.witness6 (enc := enc) (C := Try.checked) false ⟨#[], #[.agg #[.int .u8 0, .int .u8 0, .int .u8 0, .int .u8 0, .int .u8 0, .int .u8 0, .bool false, .bool false, .slice none 0 0, .slice none 0 0, .slice none 0 0], .agg #[.int .u8 0, .int .u8 0, .int .u8 0, .int .u8 0, .int .u8 0, .int .u8 0, .bool false, .bool false, .slice none 0 0, .slice none 0 0, .slice none 0 0], .agg #[.int .u8 0, .int .u8 0, .int .u8 0, .int .u8 0, .int .u8 0, .int .u8 0, .int .u8 0, .int .u8 0, .int .u8 0, .int .u8 0, .int .u8 0, .int .u8 0, .int .i64 0, .int .u16 0, .slice none 0 0], .int .u64 0, .slice none 0 0, .int .i64 0, .bool false], []⟩ 8 (by kernel_rfl) (by kernel_rfl) (by kernel_rfl) (by kernel_rfl)) ?_
  intro W base args ds gs before hval0 hW hcnd _
  have hval : ∀ (j : Nat) t v, Try.f8.params[j]? = some t → args[j]? = some v → Value.okWide Try.prog W .any base t v := hval0
  have hW' := hW
  obtain ⟨p, q, hA0, hV, rfl, hfz, hnd⟩ := hW
  have hA : DataW.TrodAll enc Try.prog W 0 (fun _ => true) true Try.f8.params.toList args.toList ds p := hA0
  have hA1 : DataW.TrodAll enc Try.prog W 0 (fun _ => true) true Try.f8.params.toList args.toList ds p := hA0
  rw [Try.params8] at hA hval
  obtain ⟨v0, vs0, d0, ds0, p0, q0, hargs, rfl, rfl, h0, r0⟩ := trodAll_cons hA
  obtain ⟨v1, vs1, d1, ds1, p1, q1, rfl, rfl, rfl, h1, r1⟩ := trodAll_cons r0
  obtain ⟨v2, vs2, d2, ds2, p2, q2, rfl, rfl, rfl, h2, r2⟩ := trodAll_cons r1
  obtain ⟨v3, vs3, d3, ds3, p3, q3, rfl, rfl, rfl, h3, r3⟩ := trodAll_cons r2
  obtain ⟨v4, vs4, d4, ds4, p4, q4, rfl, rfl, rfl, h4, r4⟩ := trodAll_cons r3
  obtain ⟨v5, vs5, d5, ds5, p5, q5, rfl, rfl, rfl, h5, r5⟩ := trodAll_cons r4
  obtain ⟨v6, vs6, d6, ds6, p6, q6, rfl, rfl, rfl, h6, r6⟩ := trodAll_cons r5
  obtain ⟨rfl, rfl, rfl⟩ := trodAll_nil r6
  obtain rfl : args = #[v0, v1, v2, v3, v4, v5, v6] := by cases args; simp_all
  obtain ⟨rfl, rfl⟩ := trodVars_none hV
  have hlt : ∀ x ∈ (p0 ++ (p1 ++ (p2 ++ (p3 ++ (p4 ++ (p5 ++ (p6 ++ []))))))), x.block < W.heap.size := fun x hx => hW'.lt x (by simpa using hx)
  obtain ⟨l0, rfl, m0⟩ := open_rec (d := 8) C24 kk24 ssF Try.underlying26 (by kernel_rfl) (by kernel_rfl) (fun e he => by simp only [ssF, List.mem_cons, List.not_mem_nil, or_false, FS.sl.injEq, reduceCtorEq, false_or] at he; first | (rcases he with rfl | rfl | rfl <;> first | exact ⟨by kernel_rfl, by kernel_rfl, fun l h => by obtain ⟨_, _, rfl, ⟨n0, rfl, _⟩, h0⟩ := matchK_cons h; obtain ⟨_, _, rfl, ⟨n1, rfl, _⟩, h1⟩ := matchK_cons h0; obtain ⟨_, _, rfl, ⟨n2, rfl, _⟩, h2⟩ := matchK_cons h1; obtain ⟨_, _, rfl, ⟨n3, rfl, _⟩, h3⟩ := matchK_cons h2; obtain ⟨_, _, rfl, ⟨n4, rfl, _⟩, h4⟩ := matchK_cons h3; obtain ⟨_, _, rfl, ⟨n5, rfl, _⟩, h5⟩ := matchK_cons h4; cases matchK_nil h5; exact ⟨(n0, n1, n2, n3, n4, n5), rfl⟩⟩ | exact ⟨by kernel_rfl, by kernel_rfl, fun l h => by obtain ⟨_, _, rfl, ⟨n0, rfl, _⟩, h0⟩ := matchK_cons h; cases matchK_nil h0; exact ⟨n0, rfl⟩⟩) | (rcases he with rfl | rfl <;> first | exact ⟨by kernel_rfl, by kernel_rfl, fun l h => by obtain ⟨_, _, rfl, ⟨n0, rfl, _⟩, h0⟩ := matchK_cons h; obtain ⟨_, _, rfl, ⟨n1, rfl, _⟩, h1⟩ := matchK_cons h0; obtain ⟨_, _, rfl, ⟨n2, rfl, _⟩, h2⟩ := matchK_cons h1; obtain ⟨_, _, rfl, ⟨n3, rfl, _⟩, h3⟩ := matchK_cons h2; obtain ⟨_, _, rfl, ⟨n4, rfl, _⟩, h4⟩ := matchK_cons h3; obtain ⟨_, _, rfl, ⟨n5, rfl, _⟩, h5⟩ := matchK_cons h4; cases matchK_nil h5; exact ⟨(n0, n1, n2, n3, n4, n5), rfl⟩⟩ | exact ⟨by kernel_rfl, by kernel_rfl, fun l h => by obtain ⟨_, _, rfl, ⟨n0, rfl, _⟩, h0⟩ := matchK_cons h; cases matchK_nil h0; exact ⟨n0, rfl⟩⟩) | (rcases he with rfl <;> first | exact ⟨by kernel_rfl, by kernel_rfl, fun l h => by obtain ⟨_, _, rfl, ⟨n0, rfl, _⟩, h0⟩ := matchK_cons h; obtain ⟨_, _, rfl, ⟨n1, rfl, _⟩, h1⟩ := matchK_cons h0; obtain ⟨_, _, rfl, ⟨n2, rfl, _⟩, h2⟩ := matchK_cons h1; obtain ⟨_, _, rfl, ⟨n3, rfl, _⟩, h3⟩ := matchK_cons h2; obtain ⟨_, _, rfl, ⟨n4, rfl, _⟩, h4⟩ := matchK_cons h3; obtain ⟨_, _, rfl, ⟨n5, rfl, _⟩, h5⟩ := matchK_cons h4; cases matchK_nil h5; exact ⟨(n0, n1, n2, n3, n4, n5), rfl⟩⟩ | exact ⟨by kernel_rfl, by kernel_rfl, fun l h => by obtain ⟨_, _, rfl, ⟨n0, rfl, _⟩, h0⟩ := matchK_cons h; cases matchK_nil h0; exact ⟨n0, rfl⟩⟩)) (hval 0 26 v0 rfl rfl) h0
  obtain ⟨l1, rfl, m1⟩ := open_rec (d := 8) C24 kk24 ssF Try.underlying26 (by kernel_rfl) (by kernel_rfl) (fun e he => by simp only [ssF, List.mem_cons, List.not_mem_nil, or_false, FS.sl.injEq, reduceCtorEq, false_or] at he; first | (rcases he with rfl | rfl | rfl <;> first | exact ⟨by kernel_rfl, by kernel_rfl, fun l h => by obtain ⟨_, _, rfl, ⟨n0, rfl, _⟩, h0⟩ := matchK_cons h; obtain ⟨_, _, rfl, ⟨n1, rfl, _⟩, h1⟩ := matchK_cons h0; obtain ⟨_, _, rfl, ⟨n2, rfl, _⟩, h2⟩ := matchK_cons h1; obtain ⟨_, _, rfl, ⟨n3, rfl, _⟩, h3⟩ := matchK_cons h2; obtain ⟨_, _, rfl, ⟨n4, rfl, _⟩, h4⟩ := matchK_cons h3; obtain ⟨_, _, rfl, ⟨n5, rfl, _⟩, h5⟩ := matchK_cons h4; cases matchK_nil h5; exact ⟨(n0, n1, n2, n3, n4, n5), rfl⟩⟩ | exact ⟨by kernel_rfl, by kernel_rfl, fun l h => by obtain ⟨_, _, rfl, ⟨n0, rfl, _⟩, h0⟩ := matchK_cons h; cases matchK_nil h0; exact ⟨n0, rfl⟩⟩) | (rcases he with rfl | rfl <;> first | exact ⟨by kernel_rfl, by kernel_rfl, fun l h => by obtain ⟨_, _, rfl, ⟨n0, rfl, _⟩, h0⟩ := matchK_cons h; obtain ⟨_, _, rfl, ⟨n1, rfl, _⟩, h1⟩ := matchK_cons h0; obtain ⟨_, _, rfl, ⟨n2, rfl, _⟩, h2⟩ := matchK_cons h1; obtain ⟨_, _, rfl, ⟨n3, rfl, _⟩, h3⟩ := matchK_cons h2; obtain ⟨_, _, rfl, ⟨n4, rfl, _⟩, h4⟩ := matchK_cons h3; obtain ⟨_, _, rfl, ⟨n5, rfl, _⟩, h5⟩ := matchK_cons h4; cases matchK_nil h5; exact ⟨(n0, n1, n2, n3, n4, n5), rfl⟩⟩ | exact ⟨by kernel_rfl, by kernel_rfl, fun l h => by obtain ⟨_, _, rfl, ⟨n0, rfl, _⟩, h0⟩ := matchK_cons h; cases matchK_nil h0; exact ⟨n0, rfl⟩⟩) | (rcases he with rfl <;> first | exact ⟨by kernel_rfl, by kernel_rfl, fun l h => by obtain ⟨_, _, rfl, ⟨n0, rfl, _⟩, h0⟩ := matchK_cons h; obtain ⟨_, _, rfl, ⟨n1, rfl, _⟩, h1⟩ := matchK_cons h0; obtain ⟨_, _, rfl, ⟨n2, rfl, _⟩, h2⟩ := matchK_cons h1; obtain ⟨_, _, rfl, ⟨n3, rfl, _⟩, h3⟩ := matchK_cons h2; obtain ⟨_, _, rfl, ⟨n4, rfl, _⟩, h4⟩ := matchK_cons h3; obtain ⟨_, _, rfl, ⟨n5, rfl, _⟩, h5⟩ := matchK_cons h4; cases matchK_nil h5; exact ⟨(n0, n1, n2, n3, n4, n5), rfl⟩⟩ | exact ⟨by kernel_rfl, by kernel_rfl, fun l h => by obtain ⟨_, _, rfl, ⟨n0, rfl, _⟩, h0⟩ := matchK_cons h; cases matchK_nil h0; exact ⟨n0, rfl⟩⟩)) (hval 1 26 v1 rfl rfl) h1
  obtain ⟨l2, rfl, m2⟩ := open_rec (d := 8) C24 kk24 ssR Try.underlying43 (by kernel_rfl) (by kernel_rfl) (fun e he => by simp only [ssR, List.mem_cons, List.not_mem_nil, or_false, FS.sl.injEq, reduceCtorEq, false_or] at he; first | (rcases he with rfl | rfl | rfl <;> first | exact ⟨by kernel_rfl, by kernel_rfl, fun l h => by obtain ⟨_, _, rfl, ⟨n0, rfl, _⟩, h0⟩ := matchK_cons h; cases matchK_nil h0; exact ⟨n0, rfl⟩⟩) | (rcases he with rfl | rfl <;> first | exact ⟨by kernel_rfl, by kernel_rfl, fun l h => by obtain ⟨_, _, rfl, ⟨n0, rfl, _⟩, h0⟩ := matchK_cons h; cases matchK_nil h0; exact ⟨n0, rfl⟩⟩) | (rcases he with rfl <;> first | exact ⟨by kernel_rfl, by kernel_rfl, fun l h => by obtain ⟨_, _, rfl, ⟨n0, rfl, _⟩, h0⟩ := matchK_cons h; cases matchK_nil h0; exact ⟨n0, rfl⟩⟩)) (hval 2 43 v2 rfl rfl) h2
  obtain ⟨a3, rfl, rfl, rfl, w3⟩ := open_int Try.underlying27 (hval 3 27 v3 rfl rfl) h3
  have s4 := open_sl (d := 8) (ks := [.int .u8]) (C24 5) Try.underlying33 (by kernel_rfl) (by kernel_rfl) (fun l h => by obtain ⟨_, _, rfl, ⟨n0, rfl, _⟩, h0⟩ := matchK_cons h; cases matchK_nil h0; exact ⟨n0, rfl⟩) (hval 4 33 v4 rfl rfl) h4
  obtain ⟨a5, rfl, rfl, rfl, w5⟩ := open_int Try.underlying3 (hval 5 3 v5 rfl rfl) h5
  obtain ⟨a6, rfl, rfl, rfl⟩ := open_bool Try.underlying4 (hval 6 4 v6 rfl rfl) h6
  clear hA0 hval0
  refine (FilterCalls_walk l0 l1 l2 a3 v4 a5 a6 W m0 m1 m2 w3 s4 w5).mono fun e W' ⟨he, bel⟩ => ?_
  subst he
  exact ⟨_, rfl, _, _, _, [], _, [], hW', trodAll_mk1 (shut_bool Try.underlying4 _), trodAll_below laidOut bel recs hA1 hlt, rfl, bel.frame _, fun h => by cases h⟩

theorem over : Rows.filterCallsRow.holds Try.pinned (OpenSpec.ofChange Rows.filterCallsSpec) :=
  OpenClaim.holds_of_wide 8 Try.f8 rfl rfl rfl rfl rfl rfl rfl ⟨rfl, rfl, rfl, rfl, rfl⟩ rfl rfl rfl rfl rfl (by kernel_rfl) Try.func8 (by kernel_rfl)
    (of_decide_eq_true (by kernel_rfl)) (by unfold Func.isWrapper; first | (rw [if_pos (by decide +kernel)]; kernel_rfl) | (rw [if_neg (by decide +kernel)]; exact ⟨rfl, rfl⟩))
    (fun os started H enc _ => lifted os started H enc)

theorem proved : Rows.FilterCallsSaid := over
end Go.Proofs.Ytgepgnjjhgmfnaa.filterCalls
