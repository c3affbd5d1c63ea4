/-
  The Go function dumbwaiter/dumbwaiterlaw24.FilterTables answers true, whatever its arguments are, and leaves what there was as it was. No condition.
-/
import Derived.Test.YtgepgnjjhgmfnaaRows
import Derived.Test.YtgepgnjjhgmfnaaSxC
import Derived.Test.YtgepgnjjhgmfnaaFilterTablesWalk
namespace Go.Proofs.Ytgepgnjjhgmfnaa.filterTables
open Go.ChangeShapes Go.WideShapes Go.ChangeAt Go.RowKit Go.Sx
set_option linter.unusedVariables false

theorem own : ownKnob Try.prog.godebug = none := by kernel_rfl
theorem laidOut : laidOutB Try.prog = true := by kernel_rfl
theorem recs : recB Try.prog Try.f6.params.toList = true := by kernel_rfl

set_option maxRecDepth 100000 in
theorem lifted (os : Os) (started : os.Started) (H : Type) (enc : TypeId × Value → H) :
    ReturnsInHanded {} Try.checked os 6 .any (Rows.filterTablesSpec.pre6 enc Try.prog Try.f6 Rows.filterTablesRow.domain false) (Rows.filterTablesSpec.post enc Try.prog Try.f6 false true false false) := by
  refine returnsInHanded_of_change (C := Try.checked) own started (by kernel_rfl) Try.func6
    (ChangeSpec.witness6 (enc := enc) (C := Try.checked) false ⟨#[], #[.agg #[.int .u8 0, .int .u8 0, .int .u8 0, .int .u8 0, .int .u8 0, .int .u8 0, .bool false, .bool false, .slice none 0 0, .slice none 0 0, .slice none 0 0], .slice none 0 0], []⟩ 8 (by kernel_rfl) (by kernel_rfl) (by kernel_rfl) (by kernel_rfl)) ?_
  intro W base args ds gs before hval0 hW hcnd _
  have hval : ∀ (j : Nat) t v, Try.f6.params[j]? = some t → args[j]? = some v → Value.okWide Try.prog W .any base t v := hval0
  have hW' := hW
  obtain ⟨p, q, hA0, hV, rfl, hfz, hnd⟩ := hW
  have hA : DataW.TrodAll enc Try.prog W 0 (fun _ => true) true Try.f6.params.toList args.toList ds p := hA0
  have hA1 : DataW.TrodAll enc Try.prog W 0 (fun _ => true) true Try.f6.params.toList args.toList ds p := hA0
  rw [Try.params6] at hA hval
  obtain ⟨v0, vs0, d0, ds0, p0, q0, hargs, rfl, rfl, h0, r0⟩ := trodAll_cons hA
  obtain ⟨v1, vs1, d1, ds1, p1, q1, rfl, rfl, rfl, h1, r1⟩ := trodAll_cons r0
  obtain ⟨rfl, rfl, rfl⟩ := trodAll_nil r1
  obtain rfl : args = #[v0, v1] := by cases args; simp_all
  obtain ⟨rfl, rfl⟩ := trodVars_none hV
  have hlt : ∀ x ∈ (p0 ++ (p1 ++ [])), x.block < W.heap.size := fun x hx => hW'.lt x (by simpa using hx)
  obtain ⟨l0, rfl, m0⟩ := open_rec (d := 8) C24 kk24 ssF Try.underlying26 (by kernel_rfl) (by kernel_rfl) (fun e he => by simp only [ssF, List.mem_cons, List.not_mem_nil, or_false, FS.sl.injEq, reduceCtorEq, false_or] at he; first | (rcases he with rfl | rfl | rfl <;> first | exact ⟨by kernel_rfl, by kernel_rfl, fun l h => by obtain ⟨_, _, rfl, ⟨n0, rfl, _⟩, h0⟩ := matchK_cons h; obtain ⟨_, _, rfl, ⟨n1, rfl, _⟩, h1⟩ := matchK_cons h0; obtain ⟨_, _, rfl, ⟨n2, rfl, _⟩, h2⟩ := matchK_cons h1; obtain ⟨_, _, rfl, ⟨n3, rfl, _⟩, h3⟩ := matchK_cons h2; obtain ⟨_, _, rfl, ⟨n4, rfl, _⟩, h4⟩ := matchK_cons h3; obtain ⟨_, _, rfl, ⟨n5, rfl, _⟩, h5⟩ := matchK_cons h4; cases matchK_nil h5; exact ⟨(n0, n1, n2, n3, n4, n5), rfl⟩⟩ | exact ⟨by kernel_rfl, by kernel_rfl, fun l h => by obtain ⟨_, _, rfl, ⟨n0, rfl, _⟩, h0⟩ := matchK_cons h; cases matchK_nil h0; exact ⟨n0, rfl⟩⟩) | (rcases he with rfl | rfl <;> first | exact ⟨by kernel_rfl, by kernel_rfl, fun l h => by obtain ⟨_, _, rfl, ⟨n0, rfl, _⟩, h0⟩ := matchK_cons h; obtain ⟨_, _, rfl, ⟨n1, rfl, _⟩, h1⟩ := matchK_cons h0; obtain ⟨_, _, rfl, ⟨n2, rfl, _⟩, h2⟩ := matchK_cons h1; obtain ⟨_, _, rfl, ⟨n3, rfl, _⟩, h3⟩ := matchK_cons h2; obtain ⟨_, _, rfl, ⟨n4, rfl, _⟩, h4⟩ := matchK_cons h3; obtain ⟨_, _, rfl, ⟨n5, rfl, _⟩, h5⟩ := matchK_cons h4; cases matchK_nil h5; exact ⟨(n0, n1, n2, n3, n4, n5), rfl⟩⟩ | exact ⟨by kernel_rfl, by kernel_rfl, fun l h => by obtain ⟨_, _, rfl, ⟨n0, rfl, _⟩, h0⟩ := matchK_cons h; cases matchK_nil h0; exact ⟨n0, rfl⟩⟩) | (rcases he with rfl <;> first | exact ⟨by kernel_rfl, by kernel_rfl, fun l h => by obtain ⟨_, _, rfl, ⟨n0, rfl, _⟩, h0⟩ := matchK_cons h; obtain ⟨_, _, rfl, ⟨n1, rfl, _⟩, h1⟩ := matchK_cons h0; obtain ⟨_, _, rfl, ⟨n2, rfl, _⟩, h2⟩ := matchK_cons h1; obtain ⟨_, _, rfl, ⟨n3, rfl, _⟩, h3⟩ := matchK_cons h2; obtain ⟨_, _, rfl, ⟨n4, rfl, _⟩, h4⟩ := matchK_cons h3; obtain ⟨_, _, rfl, ⟨n5, rfl, _⟩, h5⟩ := matchK_cons h4; cases matchK_nil h5; exact ⟨(n0, n1, n2, n3, n4, n5), rfl⟩⟩ | exact ⟨by kernel_rfl, by kernel_rfl, fun l h => by obtain ⟨_, _, rfl, ⟨n0, rfl, _⟩, h0⟩ := matchK_cons h; cases matchK_nil h0; exact ⟨n0, rfl⟩⟩)) (hval 0 26 v0 rfl rfl) h0
  have s1 := open_sl (d := 8) (ks := [.int .i64]) (C24 3) Try.underlying24 (by kernel_rfl) (by kernel_rfl) (fun l h => by obtain ⟨_, _, rfl, ⟨n0, rfl, _⟩, h0⟩ := matchK_cons h; cases matchK_nil h0; exact ⟨n0, rfl⟩) (hval 1 24 v1 rfl rfl) h1
  clear hA0 hval0
  refine (FilterTables_walk l0 v1 W m0 s1).mono fun e W' ⟨he, bel⟩ => ?_
  subst he
  exact ⟨_, rfl, _, _, _, [], _, [], hW', trodAll_mk1 (shut_bool Try.underlying4 _), trodAll_below laidOut bel recs hA1 hlt, rfl, bel.frame _, fun h => by cases h⟩

theorem over : Rows.filterTablesRow.holds Try.pinned (OpenSpec.ofChange Rows.filterTablesSpec) :=
  OpenClaim.holds_of_wide 6 Try.f6 rfl rfl rfl rfl rfl rfl rfl ⟨rfl, rfl, rfl, rfl, rfl⟩ rfl rfl rfl rfl rfl (by kernel_rfl) Try.func6 (by kernel_rfl)
    (of_decide_eq_true (by kernel_rfl)) (by unfold Func.isWrapper; first | (rw [if_pos (by decide +kernel)]; kernel_rfl) | (rw [if_neg (by decide +kernel)]; exact ⟨rfl, rfl⟩))
    (fun os started H enc _ => lifted os started H enc)

theorem proved : Rows.FilterTablesSaid := over
end Go.Proofs.Ytgepgnjjhgmfnaa.filterTables
