/-
  The Go function dumbwaiter/dumbwaiterlaw07.StatusInits answers true, whatever its arguments are, and leaves what there was as it was. No condition.
-/
import Derived.Test.YtknkemjbikbhgaaRows
import Derived.Test.YtknkemjbikbhgaaSxOpen
import Derived.Test.YtknkemjbikbhgaaStatusInitsWalk
namespace Go.Proofs.Ytknkemjbikbhgaa.statusInits
open Go.ChangeShapes Go.WideShapes Go.ChangeAt Go.RowKit Go.Sx
set_option linter.unusedVariables false

theorem own : ownKnob Try.prog.godebug = none := by kernel_rfl
theorem laidOut : laidOutB Try.prog = true := by kernel_rfl
theorem recs : recB Try.prog Try.f8.params.toList = true := by kernel_rfl

set_option maxRecDepth 100000 in
theorem lifted (os : Os) (started : os.Started) (H : Type) (enc : TypeId × Value → H) :
    ReturnsInHanded {} Try.checked os 8 .any (Rows.statusInitsSpec.pre6 enc Try.prog Try.f8 Rows.statusInitsRow.domain false) (Rows.statusInitsSpec.post enc Try.prog Try.f8 false true false false) := by
  refine returnsInHanded_of_change (C := Try.checked) own started (by kernel_rfl) Try.func8
    (ChangeSpec.witness6 (enc := enc) (C := Try.checked) false ⟨#[], #[.agg #[.int .i64 0, .int .u64 0, .int .u64 0, .int .u8 0], .int .u64 0], []⟩ 8 (by kernel_rfl) (by kernel_rfl) (by kernel_rfl) (by kernel_rfl)) ?_
  intro W base args ds gs before hval0 hW hcnd _
  have hval : ∀ (j : Nat) t v, Try.f8.params[j]? = some t → args[j]? = some v → Value.okWide Try.prog W .any base t v := hval0
  have hW' := hW
  obtain ⟨p, q, hA0, hV, rfl, hfz, hnd⟩ := hW
  have hA : DataW.TrodAll enc Try.prog W 0 (fun _ => true) true Try.f8.params.toList args.toList ds p := hA0
  have hA1 : DataW.TrodAll enc Try.prog W 0 (fun _ => true) true Try.f8.params.toList args.toList ds p := hA0
  rw [Try.params8] at hA hval
  obtain ⟨v0, vs0, d0, ds0, p0, q0, hargs, rfl, rfl, h0, r0⟩ := trodAll_cons hA
  obtain ⟨v1, vs1, d1, ds1, p1, q1, rfl, rfl, rfl, h1, r1⟩ := trodAll_cons r0
  obtain ⟨rfl, rfl, rfl⟩ := trodAll_nil r1
  obtain rfl : args = #[v0, v1] := by cases args; simp_all
  obtain ⟨rfl, rfl⟩ := trodVars_none hV
  have hlt : ∀ x ∈ (p0 ++ (p1 ++ [])), x.block < W.heap.size := fun x hx => hW'.lt x (by simpa using hx)
  obtain ⟨l0, rfl, m0_0⟩ := open_struct (d := 8) (ks := [.int .i64, .int .u64, .int .u64, .int .u8]) Try.underlying42 (by kernel_rfl) (hval 0 42 v0 rfl rfl) h0
  obtain ⟨_, l0_0, rfl, ⟨x0_0, rfl, w0_0⟩, m0_1⟩ := matchK_cons m0_0
  obtain ⟨_, l0_1, rfl, ⟨x0_1, rfl, w0_1⟩, m0_2⟩ := matchK_cons m0_1
  obtain ⟨_, l0_2, rfl, ⟨x0_2, rfl, w0_2⟩, m0_3⟩ := matchK_cons m0_2
  obtain ⟨_, l0_3, rfl, ⟨x0_3, rfl, w0_3⟩, m0_4⟩ := matchK_cons m0_3
  cases matchK_nil m0_4
  obtain ⟨a1, rfl, rfl, rfl, w1⟩ := open_int Try.underlying22 (hval 1 22 v1 rfl rfl) h1
  clear hA0 hval0
  refine (StatusInits_walk x0_0 x0_1 x0_2 x0_3 a1 w0_0 w0_1 w0_2 w0_3 w1 W).mono fun e W' ⟨he, bel⟩ => ?_
  subst he
  exact ⟨_, rfl, _, _, _, [], _, [], hW', trodAll_mk1 (shut_bool Try.underlying4 _), trodAll_below laidOut bel recs hA1 hlt, rfl, bel.frame _, fun h => by cases h⟩

theorem over : Rows.statusInitsRow.holds Try.pinned (OpenSpec.ofChange Rows.statusInitsSpec) :=
  OpenClaim.holds_of_wide 8 Try.f8 rfl rfl rfl rfl rfl rfl rfl ⟨rfl, rfl, rfl, rfl, rfl⟩ rfl rfl rfl rfl rfl (by kernel_rfl) Try.func8 (by kernel_rfl)
    (of_decide_eq_true (by kernel_rfl)) (by unfold Func.isWrapper; first | (rw [if_pos (by decide +kernel)]; kernel_rfl) | (rw [if_neg (by decide +kernel)]; exact ⟨rfl, rfl⟩))
    (fun os started H enc _ => lifted os started H enc)

theorem proved : Rows.StatusInitsSaid := over
end Go.Proofs.Ytknkemjbikbhgaa.statusInits
