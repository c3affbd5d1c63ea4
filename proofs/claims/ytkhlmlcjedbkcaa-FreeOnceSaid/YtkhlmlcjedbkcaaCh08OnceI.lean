/-
  Chapter 8: FreeOnce's inner loop. Own work; nothing here is trusted.
-/
import Derived.Test.YtkhlmlcjedbkcaaCh08Once
import Derived.Test.YtkhlmlcjedbkcaaSxArg
import Derived.Test.YtkhlmlcjedbkcaaSxClose
namespace Go.Proofs.Ytkhlmlcjedbkcaa
open Go Go.Sx Go.RowKit
set_option maxRecDepth 1000000
set_option maxHeartbeats 8000000
set_option linter.unusedVariables false
set_option linter.unusedSimpArgs false
noncomputable section
def sfI : SpecT C8 := addS 14 (viewS isT) noSp
theorem sfI_ok : SpecTOk Try.prog sfI := addS_ok (viewS_ok isT_ok) noSp_ok
abbrev oiSlots : List Nat := [5, 7, 18, 0, 19, 4, 1, 8]
abbrev oiSt (o1 f1 o2 f2 f3 : Bool) (size : Int) (ts out l : List Int) (m : List (Int × Bool)) (k i : Int) : List SV × List (SO C8) := ([.h 0, .h 1, .h 2, .raw (.int .i64 size), .raw (.int .i64 k), .raw (.bool false), .h 3, .raw (.int .i64 i)], [.box [.raw (.int .i64 size), .h 4] 26, .sl o1 f1 3 out, .mp .i64 4 m, .sl false f3 3 l, .sl o2 f2 3 ts])
abbrev oiRound (o1 f1 o2 f2 f3 : Bool) (size : Int) (ts out l : List Int) (m : List (Int × Bool)) (k i : Int) := roundG C8 Try.prog sfI noLs (fun _ _ => 20) 10 5 2 oiSlots ⟨(oiSt o1 f1 o2 f2 f3 size ts out l m k i).1, 5, (oiSt o1 f1 o2 f2 f3 size ts out l m k i).2⟩
theorem oi_path (o1 f1 o2 f2 f3 : Bool) (size : Int) (ts out l : List Int) (m : List (Int × Bool)) (k i : Int) : Tr.follow [true, true, true, false, false, false, false, false, true, false, true, false, true, true, false, false, false, false, true, false, true, false, false, false, false, false, true, false, true, false, false, false, true, true, true] (oiRound o1 f1 o2 f2 f3 size ts out l m k i) =
  some ([decide (k < (out.length : Int)), Sx.inB k out.length, decide (k.toNat < out.length), (lkM m (out.getD k.toNat 0)).getD false, false, false, false, false, Sx.inB k out.length, false, decide (k.toNat < out.length), false, okF size ts, noIn size (out.getD k.toNat 0) ts, false, false, false, false, Sx.inB k out.length, false, decide (k.toNat < out.length), false, decide (out.getD k.toNat 0 < 0), false, false, false, Sx.inB k out.length, false, decide (k.toNat < out.length), false, false, decide (size ≤ out.getD k.toNat 0), Sx.inB k out.length, decide (k.toNat < out.length), inR64 (k + 1)],
  (.normal, oiSt o1 f1 o2 f2 f3 size ts out l (insM m (out.getD k.toNat 0) true) (k + 1) i)) := by kernel_rfl
theorem oi_end (o1 f1 o2 f2 f3 : Bool) (size : Int) (ts out l : List Int) (m : List (Int × Bool)) (k i : Int) : Tr.follow [false] (oiRound o1 f1 o2 f2 f3 size ts out l m k i) = some ([decide (k < (out.length : Int))], (.exit 2, oiSt o1 f1 o2 f2 f3 size ts out l m k i)) := by kernel_rfl
/-- The numbers seen. -/
def seenM : List Int → List (Int × Bool) → List (Int × Bool)
  | [], m => m
  | x :: r, m => seenM r (insM m x true)
/-- None of them seen before, none free, all in range. -/
def seenOk (size : Int) (ts : List Int) : List Int → List (Int × Bool) → Bool
  | [], _ => true
  | x :: r, m => !(lkM m x).getD false && (noIn size x ts && seenOk size ts r (insM m x true))
theorem lkM_insM_ne {x y : Int} (h : y ≠ x) : ∀ m : List (Int × Bool), lkM (insM m x true) y = lkM m y
  | [] => by simp [insM, lkM, h]
  | (j, b) :: r => by
    unfold insM
    by_cases hj : x = j
    · subst hj
      simp [lkM, h]
    · simp only [decide_eq_false hj, lkM]
      by_cases hy : y = j
      · simp [hy]
      · simp only [decide_eq_false hy, lkM_insM_ne h r]
theorem seenOk_of {size : Int} {ts : List Int} : ∀ (l : List Int) (m : List (Int × Bool)), l.Nodup → (∀ x ∈ l, noIn size x ts = true ∧ lkM m x = none) → seenOk size ts l m = true
  | [], _, _, _ => rfl
  | x :: r, m, hn, h => by
    obtain ⟨h1, h2⟩ := h x List.mem_cons_self
    rw [List.nodup_cons] at hn
    unfold seenOk
    rw [h2, h1, seenOk_of r _ hn.2 fun y hy => ?_]
    · rfl
    · obtain ⟨g1, g2⟩ := h y (List.mem_cons_of_mem _ hy)
      exact ⟨g1, by rw [lkM_insM_ne (fun e => hn.1 (by rw [← e]; exact hy))]; exact g2⟩
def seenAll (size : Int) (ts out : List Int) : Bool := okF size ts && (decide (out.length ≤ 1000) && seenOk size ts out [])
def oiLoop : LoopFn C8 := fun li => match li with
  | ⟨[.h 0, .h 1, .h 2, .raw (.int .i64 size), .raw (.int .i64 (.ofNat 0)), .raw (.bool false), .h 3, .raw (.int .i64 i)], 5, [.box [.raw (.int .i64 size2), .h 4] 26, .sl o1 f1 3 out, .mp .i64 4 [], .sl false f3 3 l, .sl o2 f2 3 ts]⟩ =>
    .br (size2 == size) (.br (seenAll size ts out) (.leaf (.exit 2, oiSt o1 f1 o2 f2 f3 size ts out l (seenM out []) (out.length : Int) i)) .fail) .fail
  | _ => .fail
theorem oi_loop : loopOf Try.prog 5 2 = some (189, (loopOf Try.prog 5 2).get!.2) := by kernel_rfl
theorem oiLoop_ok : ∀ tm hp n x, (loopS [5, 7, 18, 0, 19, 4, 1, 8] [] oiLoop tm hp n).get = some x → InLoop Try.prog 189 (loopOf Try.prog 5 2).get!.2 tm hp n fun e tm hp n => (e, tm, hp, n) = x := loopS_of fun li r h => by
  unfold oiLoop at h
  split at h
  · rename_i size i size2 o1 f1 out f3 l o2 f2 ts
    obtain ⟨hn0, h⟩ := Tr.get_ask.1 h
    obtain ⟨hs, h2⟩ := Tr.get_ask.1 h
    simp only [Tr.get, Option.some.injEq] at h2
    subst h2
    have hn0 := eq_of_beq hn0
    subst hn0
    change List Int at ts out l
    unfold seenAll at hs
    rw [Bool.and_eq_true, Bool.and_eq_true] at hs
    obtain ⟨hok, hlen, hk⟩ := hs
    have hlen := of_decide_eq_true hlen
    refine ⟨Keeps.of (Nat.le_refl 5) rfl (fun o ho => by cases ho), ?_⟩
    generalize hS : seenM out [] = S
    refine loop_li (σ := Nat × List (Int × Bool)) (st := fun x => oiSt o1 f1 o2 f2 f3 size2 ts out l x.2 (x.1 : Int) i) (Inv := fun x => x.1 ≤ out.length ∧ seenOk size2 ts (out.drop x.1) x.2 = true ∧ seenM (out.drop x.1) x.2 = S) (μ := fun x => out.length - x.1) (d := 10) (unr := fun _ _ => 20) (sp := sfI) (ls := noLs) plain mixed sfI_ok noLs_ok oi_loop (fun x hx => ?_) (0, []) ⟨Nat.zero_le _, hk, hS⟩
    obtain ⟨k, m'⟩ := x
    obtain ⟨hi, hok2, hf⟩ := hx
    simp only at hi hok2 hf
    by_cases h5 : k < out.length
    · rw [getD_drop h5] at hok2 hf
      simp only [seenOk, Bool.and_eq_true, Bool.not_eq_true'] at hok2
      obtain ⟨hr, hb, hok3⟩ := hok2
      have hb' := hb
      unfold noIn inS at hb'
      rw [Bool.and_eq_true, decide_eq_true_eq] at hb'
      have hp := oi_path o1 f1 o2 f2 f3 size2 ts out l m' (k : Int) i
      rw [show ((k : Nat) : Int).toNat = k from rfl] at hp
      simp only [hr, hb, hok, decide_eq_true (show (k : Int) < (out.length : Int) by omega), inB_mk (i := (k : Int)) (n := out.length) ⟨by omega, by omega⟩, decide_eq_true h5, decide_eq_false (show ¬ out.getD k 0 < 0 by omega), decide_eq_false (show ¬ size2 ≤ out.getD k 0 by omega), inR64_mk (r := (k : Int) + 1) (by omega)] at hp
      exact ⟨_, Tr.follow_get hp rfl, fun _ => ⟨(k + 1, insM m' (out.getD k 0) true), ⟨by omega, hok3, hf⟩, by simp only; omega, rfl⟩, nofun⟩
    · have : k = out.length := by omega
      subst this
      have hs' : m' = S := by rw [List.drop_length] at hf; exact hf
      subst hs'
      exact ⟨_, Tr.follow_get (oi_end o1 f1 o2 f2 f3 size2 ts out l m' _ i) (by rw [decide_eq_false (by omega)]), nofun, fun _ => ⟨rfl, rfl⟩⟩
  · cases h
def lsI : LoopT C8 := Sx.addL 5 2 (loopH [7] [5, 7, 18, 0, 19, 4, 1, 8] [] oiLoop) noLs
theorem lsI_ok : LoopTOk Try.prog lsI := addL_ok oi_loop (loopH_ok oiLoop_ok) noLs_ok
end
end Go.Proofs.Ytkhlmlcjedbkcaa
