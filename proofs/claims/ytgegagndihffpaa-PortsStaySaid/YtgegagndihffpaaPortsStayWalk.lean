/-
  Chapter 27: PortsStay answers true. Own work; nothing here is trusted.
-/
import Derived.Test.YtgegagndihffpaaCh27Stay3
import Derived.Test.YtgegagndihffpaaSxC
namespace Go.Proofs.Ytgegagndihffpaa
open Go Go.Sx Go.RowKit
set_option maxRecDepth 1000000
set_option maxHeartbeats 8000000
set_option linter.unusedVariables false
set_option linter.unusedSimpArgs false
noncomputable section

theorem sty_g (f : Bool) (n : Int) (ls : List Ac) : Tr.follow [false, false, true] (fY f n ls) =
  some ([false,
  lightP f ls,
  true],
  (SV.raw (Value.bool true), [])) := by kernel_rfl
theorem sty_na (f : Bool) (n : Int) (ls : List Ac) : Tr.follow [false, true, false, false, false, true, true, true, false, false, false, false, true, false] (fY f n ls) =
  some ([false,
  lightP f ls,
  false,
  false,
  false,
  decide (n.tmod (32 : Int) < (0 : Int)),
  inR64 (n.tmod (32 : Int) + (32 : Int)),
  inR64 ((1 : Int) + (n.tmod (32 : Int) + (32 : Int))),
  decide ((1 : Int) + (n.tmod (32 : Int) + (32 : Int)) < (1 : Int)),
  false,
  decide ((32 : Int) < (1 : Int) + (n.tmod (32 : Int) + (32 : Int))),
  false,
  smallY ((1 : Int) + (n.tmod (32 : Int) + (32 : Int))) ls,
  hasY (runY ((1 : Int) + (n.tmod (32 : Int) + (32 : Int))) ls)],
  (SV.raw (Value.bool true), [])) := by kernel_rfl
theorem sty_nb (f : Bool) (n : Int) (ls : List Ac) : Tr.follow [false, true, false, false, false, true, true, true, false, false, false, false, true, true] (fY f n ls) =
  some ([false,
  lightP f ls,
  false,
  false,
  false,
  decide (n.tmod (32 : Int) < (0 : Int)),
  inR64 (n.tmod (32 : Int) + (32 : Int)),
  inR64 ((1 : Int) + (n.tmod (32 : Int) + (32 : Int))),
  decide ((1 : Int) + (n.tmod (32 : Int) + (32 : Int)) < (1 : Int)),
  false,
  decide ((32 : Int) < (1 : Int) + (n.tmod (32 : Int) + (32 : Int))),
  false,
  smallY ((1 : Int) + (n.tmod (32 : Int) + (32 : Int))) ls,
  hasY (runY ((1 : Int) + (n.tmod (32 : Int) + (32 : Int))) ls)],
  (SV.raw (Value.bool true), [])) := by kernel_rfl
theorem styn_n (n : Int) : Tr.follow [false, false, false, false, true, true, true, false, false, false, false, false] (fYn n) =
  some ([false,
  false,
  false,
  false,
  decide (n.tmod (32 : Int) < (0 : Int)),
  inR64 (n.tmod (32 : Int) + (32 : Int)),
  inR64 ((1 : Int) + (n.tmod (32 : Int) + (32 : Int))),
  decide ((1 : Int) + (n.tmod (32 : Int) + (32 : Int)) < (1 : Int)),
  false,
  decide ((32 : Int) < (1 : Int) + (n.tmod (32 : Int) + (32 : Int))),
  false,
  false],
  (SV.raw (Value.bool true), [])) := by kernel_rfl
theorem sty_pa (f : Bool) (n : Int) (ls : List Ac) : Tr.follow [false, true, false, false, false, false, true, false, false, false, false, true, false] (fY f n ls) =
  some ([false,
  lightP f ls,
  false,
  false,
  false,
  decide (n.tmod (32 : Int) < (0 : Int)),
  inR64 ((1 : Int) + n.tmod (32 : Int)),
  decide ((1 : Int) + n.tmod (32 : Int) < (1 : Int)),
  false,
  decide ((32 : Int) < (1 : Int) + n.tmod (32 : Int)),
  false,
  smallY ((1 : Int) + n.tmod (32 : Int)) ls,
  hasY (runY ((1 : Int) + n.tmod (32 : Int)) ls)],
  (SV.raw (Value.bool true), [])) := by kernel_rfl
theorem sty_pb (f : Bool) (n : Int) (ls : List Ac) : Tr.follow [false, true, false, false, false, false, true, false, false, false, false, true, true] (fY f n ls) =
  some ([false,
  lightP f ls,
  false,
  false,
  false,
  decide (n.tmod (32 : Int) < (0 : Int)),
  inR64 ((1 : Int) + n.tmod (32 : Int)),
  decide ((1 : Int) + n.tmod (32 : Int) < (1 : Int)),
  false,
  decide ((32 : Int) < (1 : Int) + n.tmod (32 : Int)),
  false,
  smallY ((1 : Int) + n.tmod (32 : Int)) ls,
  hasY (runY ((1 : Int) + n.tmod (32 : Int)) ls)],
  (SV.raw (Value.bool true), [])) := by kernel_rfl
theorem styn_p (n : Int) : Tr.follow [false, false, false, false, false, true, false, false, false, false, false] (fYn n) =
  some ([false,
  false,
  false,
  false,
  decide (n.tmod (32 : Int) < (0 : Int)),
  inR64 ((1 : Int) + n.tmod (32 : Int)),
  decide ((1 : Int) + n.tmod (32 : Int) < (1 : Int)),
  false,
  decide ((32 : Int) < (1 : Int) + n.tmod (32 : Int)),
  false,
  false],
  (SV.raw (Value.bool true), [])) := by kernel_rfl

theorem tmod_rng (n : Int) : -32 < n.tmod 32 ∧ n.tmod 32 < 32 := ⟨Int.lt_tmod_of_pos n (by decide), Int.tmod_lt_of_pos n (by decide)⟩
theorem stay_sl (f : Bool) (n : Int) (ls : List Ac) (hls : ∀ a ∈ ls, inR64 a.2.2.2.2.1 = true) : (fY f n ls).get = some (.raw (.bool true), []) := by
  have hn := tmod_rng n
  cases hg : lightP f ls with
  | false => exact Tr.follow_get (sty_g f n ls) (by simp only [hg])
  | true =>
    have hlen : ls.length ≤ 1000 := by
      unfold lightP at hg
      rw [Bool.and_eq_true] at hg
      have := hg.1
      simp at this
      omega
    have hs : ∀ mp : Int, 1 ≤ mp → mp ≤ 32 → smallY mp ls = true := fun mp h1 h2 => by
      unfold smallY
      rw [decide_eq_true ⟨⟨h1, h2⟩, hlen⟩, List.all_eq_true.2 hls]; rfl
    by_cases hneg : n.tmod 32 < 0
    · have e1 : inR64 (n.tmod 32 + 32) = true := inR64_mk (by omega)
      have e2 : inR64 (1 + (n.tmod 32 + 32)) = true := inR64_mk (by omega)
      have e3 := decide_eq_false (show ¬ 1 + (n.tmod 32 + 32) < 1 by omega)
      have e4 := decide_eq_false (show ¬ 32 < 1 + (n.tmod 32 + 32) by omega)
      have e5 := hs (1 + (n.tmod 32 + 32)) (by omega) (by omega)
      cases hy : hasY (runY (1 + (n.tmod 32 + 32)) ls) with
      | true => exact Tr.follow_get (sty_nb f n ls) (by simp only [hg, decide_eq_true hneg, e1, e2, e3, e4, e5, hy])
      | false => exact Tr.follow_get (sty_na f n ls) (by simp only [hg, decide_eq_true hneg, e1, e2, e3, e4, e5, hy])
    · have e2 : inR64 (1 + n.tmod 32) = true := inR64_mk (by omega)
      have e3 := decide_eq_false (show ¬ 1 + n.tmod 32 < 1 by omega)
      have e4 := decide_eq_false (show ¬ 32 < 1 + n.tmod 32 by omega)
      have e5 := hs (1 + n.tmod 32) (by omega) (by omega)
      cases hy : hasY (runY (1 + n.tmod 32) ls) with
      | true => exact Tr.follow_get (sty_pb f n ls) (by simp only [hg, decide_eq_false hneg, e2, e3, e4, e5, hy])
      | false => exact Tr.follow_get (sty_pa f n ls) (by simp only [hg, decide_eq_false hneg, e2, e3, e4, e5, hy])
theorem stay_nil (n : Int) : (fYn n).get = some (.raw (.bool true), []) := by
  have hn := tmod_rng n
  by_cases hneg : n.tmod 32 < 0
  · have e1 : inR64 (n.tmod 32 + 32) = true := inR64_mk (by omega)
    have e2 : inR64 (1 + (n.tmod 32 + 32)) = true := inR64_mk (by omega)
    have e3 := decide_eq_false (show ¬ 1 + (n.tmod 32 + 32) < 1 by omega)
    have e4 := decide_eq_false (show ¬ 32 < 1 + (n.tmod 32 + 32) by omega)
    exact Tr.follow_get (styn_n n) (by simp only [decide_eq_true hneg, e1, e2, e3, e4])
  · have e2 : inR64 (1 + n.tmod 32) = true := inR64_mk (by omega)
    have e3 := decide_eq_false (show ¬ 1 + n.tmod 32 < 1 by omega)
    have e4 := decide_eq_false (show ¬ 32 < 1 + n.tmod 32 by omega)
    exact Tr.follow_get (styn_p n) (by simp only [decide_eq_false hneg, e2, e3, e4])
theorem act_rng {a : Ac} (h : matchK [.int .i64, .int .i64, .str, .bool, .int .u32, .int .u16, .int .u16, .str] ((C27 40).enc a)) : inR64 a.2.2.2.2.1 = true := by
  obtain ⟨_, _, _, _, h5, _⟩ := h
  obtain ⟨x, hx, hw⟩ := h5
  have hx : Value.int .u32 a.2.2.2.2.1 = Value.int .u32 x := hx
  cases hx
  have := wf_u32 hw
  exact inR64_mk (by omega)
theorem PortsStay_walk (n : Int) (v : Value) (W : World) (_ : (Lit.int .i64 n).wf = true) (h : SArg (C27 40) (fun q => matchK [.int .i64, .int .i64, .str, .bool, .int .u32, .int .u16, .int .u16, .str] ((C27 40).enc q)) W v) :
    Calls Try.prog 3 #[.int .i64 n, v] W fun e w' => e = .returned (.bool true) ∧ Below W.heap.size W w' := by
  rcases h with rfl | ⟨a, cap, ts, rfl, hl, hc, hk, hb⟩
  · exact run_flat (C := C27) (args := [.raw (.int .i64 n), nlS]) (vals := [.int .i64 n, .slice none 0 0]) (fnC_ok plain mixed sfY_ok noLs_ok (stay_nil n)) rfl
  · exact run_one (C := C27) (e := 40) (args := [.raw (.int .i64 n), .h 0]) (vals := [.int .i64 n, .slice (some a) ts.length cap]) (fnC_ok plain mixed sfY_ok lsY_ok (stay_sl false n ts (fun x hx => act_rng (hk x hx)))) hl hc hb rfl
end
end Go.Proofs.Ytgegagndihffpaa
