/-
  The Go function dumbwaiter/dumbwaiterlaw27.PortsBack answers true, whatever its arguments are, and leaves what there was as it was. No condition.
-/
import Derived.Test.YtgegagndihffpaaRows
import Derived.Test.YtgegagndihffpaaSxC
import Derived.Test.YtgegagndihffpaaPortsBackWalk
namespace Go.Proofs.Ytgegagndihffpaa.portsBack
open Go.ChangeShapes Go.WideShapes Go.ChangeAt Go.RowKit Go.Sx
set_option linter.unusedVariables false

theorem own : ownKnob Try.prog.godebug = none := by kernel_rfl
theorem laidOut : laidOutB Try.prog = true := by kernel_rfl
theorem recs : recB Try.prog Try.f4.params.toList = true := by kernel_rfl

set_option maxRecDepth 100000 in
theorem lifted (os : Os) (started : os.Started) (H : Type) (enc : TypeId × Value → H) :
    ReturnsInHanded {} Try.checked os 4 .any (Rows.portsBackSpec.pre6 enc Try.prog Try.f4 Rows.portsBackRow.domain false) (Rows.portsBackSpec.post enc Try.prog Try.f4 false true false false) := by
  refine returnsInHanded_of_change (C := Try.checked) own started (by kernel_rfl) Try.func4
    (ChangeSpec.witness6 (enc := enc) (C := Try.checked) false ⟨#[], #[.agg #[.int .u32 0, .int .u16 0, .int .u16 0, .string ByteArray.empty], .slice none 0 0, .agg #[.int .i64 0, .bool false, .slice none 0 0]], []⟩ 8 (by kernel_rfl) (by kernel_rfl) (by kernel_rfl) (by kernel_rfl)) ?_
  intro W base args ds gs before hval0 hW hcnd _
  have hval : ∀ (j : Nat) t v, Try.f4.params[j]? = some t → args[j]? = some v → Value.okWide Try.prog W .any base t v := hval0
  have hW' := hW
  obtain ⟨p, q, hA0, hV, rfl, hfz, hnd⟩ := hW
  have hA : DataW.TrodAll enc Try.prog W 0 (fun _ => true) true Try.f4.params.toList args.toList ds p := hA0
  have hA1 : DataW.TrodAll enc Try.prog W 0 (fun _ => true) true Try.f4.params.toList args.toList ds p := hA0
  rw [Try.params4] at hA hval
  obtain ⟨v0, vs0, d0, ds0, p0, q0, hargs, rfl, rfl, h0, r0⟩ := trodAll_cons hA
  obtain ⟨v1, vs1, d1, ds1, p1, q1, rfl, rfl, rfl, h1, r1⟩ := trodAll_cons r0
  obtain ⟨v2, vs2, d2, ds2, p2, q2, rfl, rfl, rfl, h2, r2⟩ := trodAll_cons r1
  obtain ⟨rfl, rfl, rfl⟩ := trodAll_nil r2
  obtain rfl : args = #[v0, v1, v2] := by cases args; simp_all
  obtain ⟨rfl, rfl⟩ := trodVars_none hV
  have hlt : ∀ x ∈ (p0 ++ (p1 ++ (p2 ++ []))), x.block < W.heap.size := fun x hx => hW'.lt x (by simpa using hx)
  obtain ⟨l0, rfl, m0_0⟩ := open_struct (d := 8) (ks := [.int .u32, .int .u16, .int .u16, .str]) Try.underlying38 (by kernel_rfl) (hval 0 38 v0 rfl rfl) h0
  obtain ⟨_, l0_0, rfl, ⟨x0_0, rfl, w0_0⟩, m0_1⟩ := matchK_cons m0_0
  obtain ⟨_, l0_1, rfl, ⟨x0_1, rfl, w0_1⟩, m0_2⟩ := matchK_cons m0_1
  obtain ⟨_, l0_2, rfl, ⟨x0_2, rfl, w0_2⟩, m0_3⟩ := matchK_cons m0_2
  obtain ⟨_, l0_3, rfl, ⟨x0_3, rfl, w0_3⟩, m0_4⟩ := matchK_cons m0_3
  cases matchK_nil m0_4
  have s1 := open_sl (d := 8) (ks := [.int .u8]) (C27 5) Try.underlying42 (by kernel_rfl) (by kernel_rfl) (fun l h => by obtain ⟨_, _, rfl, ⟨n0, rfl, _⟩, h0⟩ := matchK_cons h; cases matchK_nil h0; exact ⟨n0, rfl⟩) (hval 1 42 v1 rfl rfl) h1
  obtain ⟨l2, rfl, m2⟩ := open_rec (d := 8) C27 kkP ssP Try.underlying27 (by kernel_rfl) (by kernel_rfl) (fun e he => by simp only [ssP, List.mem_cons, List.not_mem_nil, or_false, FS.sl.injEq, reduceCtorEq, false_or] at he; first | (rcases he with rfl | rfl | rfl <;> first | exact ⟨by kernel_rfl, by kernel_rfl, fun l h => by obtain ⟨_, _, rfl, ⟨n0, rfl, _⟩, h0⟩ := matchK_cons h; obtain ⟨_, _, rfl, ⟨n1, rfl, _⟩, h1⟩ := matchK_cons h0; obtain ⟨_, _, rfl, ⟨n2, rfl⟩, h2⟩ := matchK_cons h1; obtain ⟨_, _, rfl, ⟨n3, rfl⟩, h3⟩ := matchK_cons h2; obtain ⟨_, _, rfl, ⟨n4, rfl⟩, h4⟩ := matchK_cons h3; obtain ⟨_, _, rfl, ⟨n5, rfl⟩, h5⟩ := matchK_cons h4; cases matchK_nil h5; exact ⟨(n0, n1, n2, n3, n4, n5), rfl⟩⟩) | (rcases he with rfl | rfl <;> first | exact ⟨by kernel_rfl, by kernel_rfl, fun l h => by obtain ⟨_, _, rfl, ⟨n0, rfl, _⟩, h0⟩ := matchK_cons h; obtain ⟨_, _, rfl, ⟨n1, rfl, _⟩, h1⟩ := matchK_cons h0; obtain ⟨_, _, rfl, ⟨n2, rfl⟩, h2⟩ := matchK_cons h1; obtain ⟨_, _, rfl, ⟨n3, rfl⟩, h3⟩ := matchK_cons h2; obtain ⟨_, _, rfl, ⟨n4, rfl⟩, h4⟩ := matchK_cons h3; obtain ⟨_, _, rfl, ⟨n5, rfl⟩, h5⟩ := matchK_cons h4; cases matchK_nil h5; exact ⟨(n0, n1, n2, n3, n4, n5), rfl⟩⟩) | (rcases he with rfl <;> first | exact ⟨by kernel_rfl, by kernel_rfl, fun l h => by obtain ⟨_, _, rfl, ⟨n0, rfl, _⟩, h0⟩ := matchK_cons h; obtain ⟨_, _, rfl, ⟨n1, rfl, _⟩, h1⟩ := matchK_cons h0; obtain ⟨_, _, rfl, ⟨n2, rfl⟩, h2⟩ := matchK_cons h1; obtain ⟨_, _, rfl, ⟨n3, rfl⟩, h3⟩ := matchK_cons h2; obtain ⟨_, _, rfl, ⟨n4, rfl⟩, h4⟩ := matchK_cons h3; obtain ⟨_, _, rfl, ⟨n5, rfl⟩, h5⟩ := matchK_cons h4; cases matchK_nil h5; exact ⟨(n0, n1, n2, n3, n4, n5), rfl⟩⟩)) (hval 2 27 v2 rfl rfl) h2
  clear hA0 hval0
  refine (PortsBack_walk x0_0 x0_1 x0_2 x0_3 v1 l2 W w0_0 w0_1 w0_2 w0_3 s1 m2).mono fun e W' ⟨he, bel⟩ => ?_
  subst he
  exact ⟨_, rfl, _, _, _, [], _, [], hW', trodAll_mk1 (shut_bool Try.underlying4 _), trodAll_below laidOut bel recs hA1 hlt, rfl, bel.frame _, fun h => by cases h⟩

theorem over : Rows.portsBackRow.holds Try.pinned (OpenSpec.ofChange Rows.portsBackSpec) :=
  OpenClaim.holds_of_wide 4 Try.f4 rfl rfl rfl rfl rfl rfl rfl ⟨rfl, rfl, rfl, rfl, rfl⟩ rfl rfl rfl rfl rfl (by kernel_rfl) Try.func4 (by kernel_rfl)
    (of_decide_eq_true (by kernel_rfl)) (by unfold Func.isWrapper; first | (rw [if_pos (by decide +kernel)]; kernel_rfl) | (rw [if_neg (by decide +kernel)]; exact ⟨rfl, rfl⟩))
    (fun os started H enc _ => lifted os started H enc)

theorem proved : Rows.PortsBackSaid := over
end Go.Proofs.Ytgegagndihffpaa.portsBack
