/-
  The Go function dumbwaiter/dumbwaiterlaw11.TokenGoes answers true, whatever its arguments are, and leaves what there was as it was. No condition.
-/
import Derived.Test.YtiaboemkgpkcpaaRows
import Derived.Test.YtiaboemkgpkcpaaSxC
import Derived.Test.YtiaboemkgpkcpaaTokenGoesWalk
namespace Go.Proofs.Ytiaboemkgpkcpaa.tokenGoes
open Go.ChangeShapes Go.WideShapes Go.ChangeAt Go.RowKit Go.Sx
set_option linter.unusedVariables false

theorem own : ownKnob Try.prog.godebug = none := by kernel_rfl
theorem laidOut : laidOutB Try.prog = true := by kernel_rfl
theorem recs : recB Try.prog Try.f3.params.toList = true := by kernel_rfl

set_option maxRecDepth 100000 in
theorem lifted (os : Os) (started : os.Started) (H : Type) (enc : TypeId × Value → H) :
    ReturnsInHanded {} Try.checked os 3 .any (Rows.tokenGoesSpec.pre6 enc Try.prog Try.f3 Rows.tokenGoesRow.domain false) (Rows.tokenGoesSpec.post enc Try.prog Try.f3 false true false false) := by
  refine returnsInHanded_of_change (C := Try.checked) own started (by kernel_rfl) Try.func3
    (ChangeSpec.witness6 (enc := enc) (C := Try.checked) false ⟨#[], #[.slice none 0 0], []⟩ 8 (by kernel_rfl) (by kernel_rfl) (by kernel_rfl) (by kernel_rfl)) ?_
  intro W base args ds gs before hval0 hW hcnd _
  have hval : ∀ (j : Nat) t v, Try.f3.params[j]? = some t → args[j]? = some v → Value.okWide Try.prog W .any base t v := hval0
  have hW' := hW
  obtain ⟨p, q, hA0, hV, rfl, hfz, hnd⟩ := hW
  have hA : DataW.TrodAll enc Try.prog W 0 (fun _ => true) true Try.f3.params.toList args.toList ds p := hA0
  have hA1 : DataW.TrodAll enc Try.prog W 0 (fun _ => true) true Try.f3.params.toList args.toList ds p := hA0
  rw [Try.params3] at hA hval
  obtain ⟨v0, vs0, d0, ds0, p0, q0, hargs, rfl, rfl, h0, r0⟩ := trodAll_cons hA
  obtain ⟨rfl, rfl, rfl⟩ := trodAll_nil r0
  obtain rfl : args = #[v0] := by cases args; simp_all
  obtain ⟨rfl, rfl⟩ := trodVars_none hV
  have hlt : ∀ x ∈ (p0 ++ []), x.block < W.heap.size := fun x hx => hW'.lt x (by simpa using hx)
  have s0 := open_sl (d := 8) (ks := [.int .i64, .int .i64, .int .u32]) (C11 34) Try.underlying22 (by kernel_rfl) (by kernel_rfl) (fun l h => by obtain ⟨_, _, rfl, ⟨n0, rfl, _⟩, h0⟩ := matchK_cons h; obtain ⟨_, _, rfl, ⟨n1, rfl, _⟩, h1⟩ := matchK_cons h0; obtain ⟨_, _, rfl, ⟨n2, rfl, _⟩, h2⟩ := matchK_cons h1; cases matchK_nil h2; exact ⟨(n0, n1, n2), rfl⟩) (hval 0 22 v0 rfl rfl) h0
  clear hA0 hval0
  refine (TokenGoes_walk v0 W s0).mono fun e W' ⟨he, bel⟩ => ?_
  subst he
  exact ⟨_, rfl, _, _, _, [], _, [], hW', trodAll_mk1 (shut_bool Try.underlying4 _), trodAll_below laidOut bel recs hA1 hlt, rfl, bel.frame _, fun h => by cases h⟩

theorem over : Rows.tokenGoesRow.holds Try.pinned (OpenSpec.ofChange Rows.tokenGoesSpec) :=
  OpenClaim.holds_of_wide 3 Try.f3 rfl rfl rfl rfl rfl rfl rfl ⟨rfl, rfl, rfl, rfl, rfl⟩ rfl rfl rfl rfl rfl (by kernel_rfl) Try.func3 (by kernel_rfl)
    (of_decide_eq_true (by kernel_rfl)) (by unfold Func.isWrapper; first | (rw [if_pos (by decide +kernel)]; kernel_rfl) | (rw [if_neg (by decide +kernel)]; exact ⟨rfl, rfl⟩))
    (fun os started H enc _ => lifted os started H enc)

theorem proved : Rows.TokenGoesSaid := over
end Go.Proofs.Ytiaboemkgpkcpaa.tokenGoes
