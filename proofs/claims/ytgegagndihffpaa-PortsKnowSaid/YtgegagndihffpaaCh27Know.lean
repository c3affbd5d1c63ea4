/-
  Chapter 27: Know's loop told by a function. Own work; nothing here is trusted.
-/
import Derived.Test.YtgegagndihffpaaCh27KnowL
namespace Go.Proofs.Ytgegagndihffpaa
open Go Go.Sx Go.RowKit
set_option maxRecDepth 1000000
set_option maxHeartbeats 8000000
set_option linter.unusedVariables false
set_option linter.unusedSimpArgs false
noncomputable section
theorem drop_getD {α : Type} (d : α) {ts : List α} {i : Nat} (hi : i < ts.length) : ts.drop i = ts.getD i d :: ts.drop (i + 1) := by
  rw [List.drop_eq_getElem_cons hi, List.getD_eq_getElem?_getD, List.getElem?_eq_getElem hi]; rfl
def runK (most : Int) (ts : List Pt) (ms : List Mg) : KS := ms.foldl (stepK most) (none, ts)
def isN (s : KS) : Bool := s.1.isSome
def smallK (ts : List Pt) (ms : List Mg) : Bool := decide (ms.length ≤ 300 ∧ ts.length ≤ 300) && ms.all fun m => inR64 m.1
def nLoop : LoopFn C27 := fun li => match li with
  | ⟨[.h 0, .h 1, .h 2, .raw (.int .i64 n), .raw (.int .i64 (.ofNat 0))], 4, [.box [.raw (.int .i64 most), .raw (.bool rdy), .h 3] 27, .box [.raw (.int .i64 (.ofNat 0)), .raw (.bool false), .raw (.slice none 0 0)] 27, .sl false f 38 ms, .sl true f2 46 ts]⟩ =>
    .br (n == (ms.length : Int)) (.br (smallK ts ms) (.br (isN (runK most ts ms)) (.leaf (.exit 0, nStB f f2 false most rdy (loK (runK most ts ms)) (runK most ts ms).2 ms (ms.length : Int))) (.leaf (.exit 0, nStA f f2 most rdy (runK most ts ms).2 ms (ms.length : Int)))) .fail) .fail
  | _ => .fail
theorem n_loop : loopOf Try.prog 24 0 = some (88, (loopOf Try.prog 24 0).get!.2) := by kernel_rfl
theorem nLoop_ok : ∀ tm hp n x, (loopS [2, 4, 17, 18, 19] [] nLoop tm hp n).get = some x → InLoop Try.prog 88 (loopOf Try.prog 24 0).get!.2 tm hp n fun e tm hp n => (e, tm, hp, n) = x := loopS_of fun li r h => by
  unfold nLoop at h
  split at h
  · rename_i n most rdy f ms f2 ts
    obtain ⟨hn0, hB⟩ := Tr.get_ask.1 h
    obtain ⟨hl, hC⟩ := Tr.get_ask.1 hB
    clear h hB
    have hn0 := eq_of_beq hn0
    subst hn0
    change List Mg at ms
    change List Pt at ts
    unfold smallK at hl
    rw [Bool.and_eq_true] at hl
    obtain ⟨hl, hall⟩ := hl
    have hl : ms.length ≤ 300 ∧ ts.length ≤ 300 := of_decide_eq_true hl
    obtain rfl : r = (.exit 0, nSt f f2 most rdy ms (ms.length, runK most ts ms)) := by
      generalize runK most ts ms = S at hC ⊢
      obtain ⟨lo, us⟩ := S
      cases lo with
      | none => exact (Option.some.inj hC).symm
      | some l0 => exact (Option.some.inj hC).symm
    clear hC
    generalize hS : runK most ts ms = S
    refine ⟨?_, ?_⟩
    · obtain ⟨lo, us⟩ := S
      cases lo with
      | none => exact Keeps.of2 (Nat.le_refl 4) rfl (fun o ho => by cases ho)
      | some l0 => exact Keeps.of2 (show 4 ≤ 5 by decide) rfl (fun o ho => by
          simp only [List.drop, List.mem_cons, List.not_mem_nil, or_false] at ho
          subst ho; exact .inl rfl)
    refine loop_li (σ := Nat × KS) (st := nSt f f2 most rdy ms) (Inv := fun x => x.1 ≤ ms.length ∧ x.2.2.length ≤ ts.length + x.1 ∧ (ms.drop x.1).foldl (stepK most) x.2 = S) (μ := fun x => ms.length - x.1) (d := 10) (unr := fun _ _ => 20) (sp := sfKn) (ls := noLs) plain mixed sfKn_ok noLs_ok n_loop (fun x hx => ?_) (0, (none, ts)) ⟨Nat.zero_le _, Nat.le_refl _, hS⟩
    obtain ⟨k, s⟩ := x
    obtain ⟨hi, hlen, hf⟩ := hx
    simp only at hi hlen hf
    by_cases h5 : k < ms.length
    · have hr : inR64 (elM ms (k : Int)).1 = true := by
        have h1 := List.all_eq_true.1 hall (ms[k]'h5) (List.getElem_mem h5)
        have h2 : elM ms (k : Int) = ms[k]'h5 := by
          show ms.getD k _ = _
          rw [List.getD_eq_getElem?_getD, List.getElem?_eq_getElem h5]; rfl
        rw [h2]; exact h1
      obtain ⟨y, r1, r2, r3⟩ := n_round (f := f) (f2 := f2) (rdy := rdy) (most := most) (show ms.length ≤ 1000 by omega) h5 (s := s) (by omega) hr
      refine ⟨y, r1, fun _ => ⟨(k + 1, stepK most s (elM ms (k : Int))), ⟨by omega, ?_, ?_⟩, by simp only; omega, r3⟩, fun h => by rw [r2] at h; cases h⟩
      · have h1 := knowK_len most s.2 (elM ms (k : Int))
        have h2 : (stepK most s (elM ms (k : Int))).2 = (knowK most s.2 (elM ms (k : Int))).2 := by
          unfold stepK
          cases (knowK most s.2 (elM ms (k : Int))).1 <;> rfl
        simp only
        rw [h2]; omega
      · rw [drop_getD (0, 0, 0, ByteArray.empty) h5] at hf
        exact hf
    · have : k = ms.length := by omega
      subst this
      have hs' : s = S := by rw [List.drop_length] at hf; exact hf
      subst hs'
      obtain ⟨lo, us⟩ := s
      cases lo with
      | none => exact ⟨_, Tr.follow_get (nA_end f f2 most rdy us ms _) (by rw [decide_eq_false (by omega)]), nofun, fun _ => ⟨rfl, rfl⟩⟩
      | some l0 => exact ⟨_, Tr.follow_get (nB_end f f2 false most rdy l0 us ms _) (by rw [decide_eq_false (by omega)]), nofun, fun _ => ⟨rfl, rfl⟩⟩
  · cases h
theorem runK_snd (most : Int) : ∀ (ms : List Mg) (s : KS), (ms.foldl (stepK most) s).2 = ms.foldl (knowL most) s.2
  | [], s => rfl
  | m :: r, s => by
    have h2 : (stepK most s m).2 = knowL most s.2 m := by
      unfold stepK knowL
      cases (knowK most s.2 m).1 <;> rfl
    rw [List.foldl_cons, runK_snd most r, h2]; rfl
def sfK2 : SpecT C27 := addS 29 (seeS ownT) (addS 13 (seeS chkT) noSp)
theorem sfK2_ok : SpecTOk Try.prog sfK2 := addS_ok (seeS_ok ownT_ok) (addS_ok (seeS_ok chkT_ok) noSp_ok)
def lsN : LoopT C27 := Sx.addL 24 0 (loopS [2, 4, 17, 18, 19] [] nLoop) noLs
theorem lsN_ok : LoopTOk Try.prog lsN := addL_ok n_loop nLoop_ok noLs_ok
abbrev unN (g b : Nat) : Nat := match g, b with
  | 24, 0 => 0 | _, _ => 20
abbrev fN := fnC C27 Try.prog sfK2 lsN unN 10
abbrev fN0 := fnC C27 Try.prog sfK2 noLs (fun _ _ => 20) 10
end
end Go.Proofs.Ytgegagndihffpaa
