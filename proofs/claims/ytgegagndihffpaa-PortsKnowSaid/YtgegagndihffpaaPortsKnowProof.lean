/-
  The Go function dumbwaiter/dumbwaiterlaw27.PortsKnow answers true, whatever its arguments are, and leaves what there was as it was. No condition.
-/
import Derived.Test.YtgegagndihffpaaRows
import Derived.Test.YtgegagndihffpaaSxC
import Derived.Test.YtgegagndihffpaaCh27KnC
namespace Go.Proofs.Ytgegagndihffpaa.portsKnow
open Go.ChangeShapes Go.WideShapes Go.ChangeAt Go.RowKit Go.Sx
set_option linter.unusedVariables false

theorem own : ownKnob Try.prog.godebug = none := by kernel_rfl
theorem laidOut : laidOutB Try.prog = true := by kernel_rfl
theorem recs : recB Try.prog Try.f6.params.toList = true := by kernel_rfl

set_option maxRecDepth 100000 in
theorem lifted (os : Os) (started : os.Started) (H : Type) (enc : TypeId × Value → H) :
    ReturnsInHanded {} Try.checked os 6 .any (Rows.portsKnowSpec.pre6 enc Try.prog Try.f6 Rows.portsKnowRow.domain false) (Rows.portsKnowSpec.post enc Try.prog Try.f6 false true false false) := by
  refine returnsInHanded_of_change (C := Try.checked) own started (by kernel_rfl) Try.func6
    (ChangeSpec.witness6 (enc := enc) (C := Try.checked) false ⟨#[], #[.int .i64 0, .slice none 0 0, .slice none 0 0], []⟩ 8 (by kernel_rfl) (by kernel_rfl) (by kernel_rfl) (by kernel_rfl)) ?_
  intro W base args ds gs before hval0 hW hcnd _
  have hval : ∀ (j : Nat) t v, Try.f6.params[j]? = some t → args[j]? = some v → Value.okWide Try.prog W .any base t v := hval0
  have hW' := hW
  obtain ⟨p, q, hA0, hV, rfl, hfz, hnd⟩ := hW
  have hA : DataW.TrodAll enc Try.prog W 0 (fun _ => true) true Try.f6.params.toList args.toList ds p := hA0
  have hA1 : DataW.TrodAll enc Try.prog W 0 (fun _ => true) true Try.f6.params.toList args.toList ds p := hA0
  rw [Try.params6] at hA hval
  obtain ⟨v0, vs0, d0, ds0, p0, q0, hargs, rfl, rfl, h0, r0⟩ := trodAll_cons hA
  obtain ⟨v1, vs1, d1, ds1, p1, q1, rfl, rfl, rfl, h1, r1⟩ := trodAll_cons r0
  obtain ⟨v2, vs2, d2, ds2, p2, q2, rfl, rfl, rfl, h2, r2⟩ := trodAll_cons r1
  obtain ⟨rfl, rfl, rfl⟩ := trodAll_nil r2
  obtain rfl : args = #[v0, v1, v2] := by cases args; simp_all
  obtain ⟨rfl, rfl⟩ := trodVars_none hV
  have hlt : ∀ x ∈ (p0 ++ (p1 ++ (p2 ++ []))), x.block < W.heap.size := fun x hx => hW'.lt x (by simpa using hx)
  obtain ⟨a0, rfl, rfl, rfl, w0⟩ := open_int Try.underlying3 (hval 0 3 v0 rfl rfl) h0
  have s1 := open_sl (d := 8) (ks := [.int .i64, .int .i64, .str, .bool, .int .u32, .int .u16, .int .u16, .str]) (C27 40) Try.underlying22 (by kernel_rfl) (by kernel_rfl) (fun l h => by obtain ⟨_, _, rfl, ⟨n0, rfl, _⟩, h0⟩ := matchK_cons h; obtain ⟨_, _, rfl, ⟨n1, rfl, _⟩, h1⟩ := matchK_cons h0; obtain ⟨_, _, rfl, ⟨n2, rfl, _⟩, h2⟩ := matchK_cons h1; obtain ⟨_, _, rfl, ⟨n3, rfl⟩, h3⟩ := matchK_cons h2; obtain ⟨_, _, rfl, ⟨n4, rfl, _⟩, h4⟩ := matchK_cons h3; obtain ⟨_, _, rfl, ⟨n5, rfl, _⟩, h5⟩ := matchK_cons h4; obtain ⟨_, _, rfl, ⟨n6, rfl, _⟩, h6⟩ := matchK_cons h5; obtain ⟨_, _, rfl, ⟨n7, rfl, _⟩, h7⟩ := matchK_cons h6; cases matchK_nil h7; exact ⟨(n0, n1, n2, n3, n4, n5, n6, n7), rfl⟩) (hval 1 22 v1 rfl rfl) h1
  have s2 := open_sl (d := 8) (ks := [.int .i64, .int .i64, .str, .bool, .int .u32, .int .u16, .int .u16, .str]) (C27 40) Try.underlying22 (by kernel_rfl) (by kernel_rfl) (fun l h => by obtain ⟨_, _, rfl, ⟨n0, rfl, _⟩, h0⟩ := matchK_cons h; obtain ⟨_, _, rfl, ⟨n1, rfl, _⟩, h1⟩ := matchK_cons h0; obtain ⟨_, _, rfl, ⟨n2, rfl, _⟩, h2⟩ := matchK_cons h1; obtain ⟨_, _, rfl, ⟨n3, rfl⟩, h3⟩ := matchK_cons h2; obtain ⟨_, _, rfl, ⟨n4, rfl, _⟩, h4⟩ := matchK_cons h3; obtain ⟨_, _, rfl, ⟨n5, rfl, _⟩, h5⟩ := matchK_cons h4; obtain ⟨_, _, rfl, ⟨n6, rfl, _⟩, h6⟩ := matchK_cons h5; obtain ⟨_, _, rfl, ⟨n7, rfl, _⟩, h7⟩ := matchK_cons h6; cases matchK_nil h7; exact ⟨(n0, n1, n2, n3, n4, n5, n6, n7), rfl⟩) (hval 2 22 v2 rfl rfl) h2
  clear hA0 hval0
  refine (PortsKnow_walk a0 v1 v2 W w0 s1 s2).mono fun e W' ⟨he, bel⟩ => ?_
  subst he
  exact ⟨_, rfl, _, _, _, [], _, [], hW', trodAll_mk1 (shut_bool Try.underlying4 _), trodAll_below laidOut bel recs hA1 hlt, rfl, bel.frame _, fun h => by cases h⟩

theorem over : Rows.portsKnowRow.holds Try.pinned (OpenSpec.ofChange Rows.portsKnowSpec) :=
  OpenClaim.holds_of_wide 6 Try.f6 rfl rfl rfl rfl rfl rfl rfl ⟨rfl, rfl, rfl, rfl, rfl⟩ rfl rfl rfl rfl rfl (by kernel_rfl) Try.func6 (by kernel_rfl)
    (of_decide_eq_true (by kernel_rfl)) (by unfold Func.isWrapper; first | (rw [if_pos (by decide +kernel)]; kernel_rfl) | (rw [if_neg (by decide +kernel)]; exact ⟨rfl, rfl⟩))
    (fun os started H enc _ => lifted os started H enc)

theorem proved : Rows.PortsKnowSaid := over
end Go.Proofs.Ytgegagndihffpaa.portsKnow
