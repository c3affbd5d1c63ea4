/-
  Merged texts: Ch27Kw0, Ch27Kw1, PortsKnowWalk. Own work; nothing here is trusted.
-/
import Derived.Test.YtgegagndihffpaaCh27KnB
import Derived.Test.YtgegagndihffpaaCh27Stay3
import Derived.Test.YtgegagndihffpaaSxC
/-
  Chapter 27: PortsKnow, what it stands on. Own work; nothing here is trusted.
-/
namespace Go.Proofs.Ytgegagndihffpaa
open Go Go.Sx Go.RowKit
set_option maxRecDepth 1000000
set_option maxHeartbeats 8000000
set_option linter.unusedVariables false
set_option linter.unusedSimpArgs false
noncomputable section
theorem pk_n (n : Int) : Tr.follow [false, false, true, true] (fnC C27 Try.prog noSp noLs (fun _ _ => 20) 10 11 [.raw (.int .i64 n), .raw (.int .i64 32)] []) =
  some ([false, false, decide (n.tmod (32 : Int) < (0 : Int)), inR64 (n.tmod (32 : Int) + (32 : Int))], (SV.raw (Value.int IntKind.i64 (n.tmod (32 : Int) + (32 : Int))), [])) := by kernel_rfl
theorem pk_p (n : Int) : Tr.follow [false, false, false] (fnC C27 Try.prog noSp noLs (fun _ _ => 20) 10 11 [.raw (.int .i64 n), .raw (.int .i64 32)] []) =
  some ([false, false, decide (n.tmod (32 : Int) < (0 : Int))], (SV.raw (Value.int IntKind.i64 (n.tmod (32 : Int))), [])) := by kernel_rfl
def pkN (n : Int) : Int := if n.tmod 32 < 0 then n.tmod 32 + 32 else n.tmod 32
theorem pkN_in (n : Int) : 0 ≤ pkN n ∧ pkN n < 32 := by
  unfold pkN
  have h1 : n.tmod 32 < 32 := Int.tmod_lt_of_pos n (by decide)
  have h2 : -32 < n.tmod 32 := Int.lt_tmod_of_pos n (by decide)
  split <;> omega
def pickT : FnF C27 := fun args os => match args, os with
  | [.raw (.int .i64 n), .raw (.int .i64 m)], [] => .br (decide (m = 32)) (.leaf (.raw (.int .i64 (pkN n)), [])) .fail
  | _, _ => .fail
theorem pickT_ok : ∀ args os r, (pickT args os).get = some r → Fn0 Try.prog 11 args os r := fun args os r h => by
  unfold pickT at h
  split at h
  · rename_i n m
    obtain ⟨hm, h2⟩ := Tr.get_ask.1 h
    have hm : m = 32 := of_decide_eq_true hm
    subst hm
    simp only [Tr.get, Option.some.injEq] at h2
    subst h2
    refine fnC_ok (sp := noSp) (ls := noLs) (unr := fun _ _ => 20) (d := 10) plain mixed noSp_ok noLs_ok ?_
    have hi := pkN_in n
    unfold pkN at hi ⊢
    by_cases ht : n.tmod 32 < 0
    · rw [if_pos ht] at hi ⊢
      have k1 := decide_eq_true ht
      have k2 : inR64 (n.tmod 32 + 32) = true := inR64_mk (by omega)
      exact Tr.follow_get (pk_n n) (by simp only [k1, k2])
    · rw [if_neg ht] at hi ⊢
      have k1 := decide_eq_false ht
      exact Tr.follow_get (pk_p n) (by simp only [k1])
  · cases h
def sfX : SpecT C27 := addS 8 (seeS livT) (addS 9 (seeS lightT) (addS 11 (seeS pickT) (addS 12 (seeS doneT) (addS 23 (seeS alikeT) (addS 18 (seeS guestU) noSp)))))
theorem sfX_ok : SpecTOk Try.prog sfX := addS_ok (seeS_ok livT_ok) (addS_ok (seeS_ok lightT_ok) (addS_ok (seeS_ok pickT_ok) (addS_ok (seeS_ok doneT_ok) (addS_ok (seeS_ok alikeT_ok) (addS_ok (seeS_ok guestU_ok) noSp_ok)))))
def lsX : LoopT C27 := Sx.addL 6 0 (loopS oSl [] oLoop) (Sx.addL 6 2 (loopS tSl [] tLoop) (Sx.addL 22 0 (loopS hSl [] hLoop) noLs))
theorem lsX_ok : LoopTOk Try.prog lsX := addL_ok o_loop oLoop_ok (addL_ok t_loop tLoop_ok (addL_ok h_loop hLoop_ok noLs_ok))
abbrev unX (g b : Nat) : Nat := match g, b with
  | 6, 0 => 0 | 6, 2 => 0 | 22, 0 => 0 | _, _ => 20
abbrev fX (n : Int) (x y : SV) (os : List (SO C27)) := fnC C27 Try.prog sfX lsX unX 10 6 [.raw (.int .i64 n), x, y] os
abbrev fXab (n : Int) (fa : Bool) (la : List Ac) (fb : Bool) (lb : List Ac) := fX n (.h 0) (.h 1) [.sl false fa 40 la, .sl false fb 40 lb]
abbrev fXa (n : Int) (fa : Bool) (la : List Ac) := fX n (.h 0) nlS [.sl false fa 40 la]
abbrev fXb (n : Int) (fb : Bool) (lb : List Ac) := fX n nlS (.h 0) [.sl false fb 40 lb]
abbrev fXn (n : Int) := fX n nlS nlS []
abbrev mN (n : Int) : Int := (1 : Int) + pkN n
abbrev gN (n : Int) (la : List Ac) := guestR (mN n) (rO (runO (mN n) la)) (pO (runO (mN n) la)) ((0 : Int), (0 : Int), (1 : Int), ByteArray.empty)
abbrev zN (n : Int) (la : List Ac) := runS (mN n) (mN n) false (gN n la).fst (gN n la).snd.fst [] HS.a ((gN n la).snd.snd.getD [])
abbrev bN (n : Int) (la : List Ac) : SB := SB.k false (hTs (gN n la).snd.fst (zN n la)) false (hUs [] (zN n la))
end
end Go.Proofs.Ytgegagndihffpaa

/-
  Chapter 27: PortsKnow: the ways through the whole. Own work; nothing here is trusted.
-/
namespace Go.Proofs.Ytgegagndihffpaa
open Go Go.Sx Go.RowKit
set_option maxRecDepth 1000000
set_option maxHeartbeats 8000000
set_option linter.unusedVariables false
noncomputable section

theorem kx_g1 (n : Int) (fa : Bool) (la : List Ac) (fb : Bool) (lb : List Ac) : Tr.follow [false, false, true, true, true, true, true] (fXab n fa la fb lb) =
  some ([false,
  lightP fa la,
  true,
  true,
  true,
  true,
  true],
  (SV.raw (Value.bool true), [])) := by kernel_rfl
theorem kx_g2 (n : Int) (fa : Bool) (la : List Ac) (fb : Bool) (lb : List Ac) : Tr.follow [false, true, false, false, false, false, true] (fXab n fa la fb lb) =
  some ([false,
  lightP fa la,
  false,
  false,
  lightP fb lb,
  false,
  true],
  (SV.raw (Value.bool true), [])) := by kernel_rfl
theorem kx_oI (n : Int) (fa : Bool) (la : List Ac) (fb : Bool) (lb : List Ac) : Tr.follow [false, true, false, false, true, false, false, true, true, false, false, false, false, false, false, false, false, false, true, true, false, true, true, true, true, false] (fXab n fa la fb lb) =
  some ([false,
  lightP fa la,
  false,
  false,
  lightP fb lb,
  false,
  false,
  true,
  inR64 (mN n),
  decide (mN n < (1 : Int)),
  false,
  decide ((32 : Int) < mN n),
  decide (mN n < (1 : Int)),
  false,
  decide ((32 : Int) < mN n),
  false,
  false,
  false,
  mN n == mN n,
  smallY (mN n) la,
  hasO (runO (mN n) la),
  nilG (mN n) false ((0 : Int), (0 : Int), (1 : Int), ByteArray.empty),
  mN n == mN n,
  true,
  invB (mN n) SB.n && smallY (mN n) lb,
  isQT (runT (mN n) SB.n lb)],
  (SV.raw (Value.bool true), [])) := by kernel_rfl
theorem kx_oQ (n : Int) (fa : Bool) (la : List Ac) (fb : Bool) (lb : List Ac) : Tr.follow [false, true, false, false, true, false, false, true, true, false, false, false, false, false, false, false, false, false, true, true, false, true, true, true, true, true, true] (fXab n fa la fb lb) =
  some ([false,
  lightP fa la,
  false,
  false,
  lightP fb lb,
  false,
  false,
  true,
  inR64 (mN n),
  decide (mN n < (1 : Int)),
  false,
  decide ((32 : Int) < mN n),
  decide (mN n < (1 : Int)),
  false,
  decide ((32 : Int) < mN n),
  false,
  false,
  false,
  mN n == mN n,
  smallY (mN n) la,
  hasO (runO (mN n) la),
  nilG (mN n) false ((0 : Int), (0 : Int), (1 : Int), ByteArray.empty),
  mN n == mN n,
  true,
  invB (mN n) SB.n && smallY (mN n) lb,
  isQT (runT (mN n) SB.n lb),
  decide ((curQ SB.n (runT (mN n) SB.n lb)).length ≤ (300 : Nat))],
  (SV.raw (Value.bool (aliB (curQ SB.n (runT (mN n) SB.n lb)) (curV SB.n (runT (mN n) SB.n lb)))), [])) := by kernel_rfl
theorem kx_pI (n : Int) (fa : Bool) (la : List Ac) (fb : Bool) (lb : List Ac) : Tr.follow [false, true, false, false, true, false, false, true, true, false, false, false, false, false, false, false, false, false, true, true, true, true, false, true, true, true, false] (fXab n fa la fb lb) =
  some ([false,
  lightP fa la,
  false,
  false,
  lightP fb lb,
  false,
  false,
  true,
  inR64 (mN n),
  decide (mN n < (1 : Int)),
  false,
  decide ((32 : Int) < mN n),
  decide (mN n < (1 : Int)),
  false,
  decide ((32 : Int) < mN n),
  false,
  false,
  false,
  mN n == mN n,
  smallY (mN n) la,
  hasO (runO (mN n) la),
  decide ((pO (runO (mN n) la)).length ≤ (300 : Nat)) && inR64 (0 : Int),
  (gN n la).snd.snd.isSome,
  mN n == mN n,
  (gN n la).fst,
  invB (mN n) (SB.p false (gN n la).snd.fst) && smallY (mN n) lb,
  isQT (runT (mN n) (SB.p false (gN n la).snd.fst) lb)],
  (SV.raw (Value.bool (noPt (gN n la).snd.fst)), [])) := by kernel_rfl
theorem kx_pQ (n : Int) (fa : Bool) (la : List Ac) (fb : Bool) (lb : List Ac) : Tr.follow [false, true, false, false, true, false, false, true, true, false, false, false, false, false, false, false, false, false, true, true, true, true, false, true, true, true, true, true] (fXab n fa la fb lb) =
  some ([false,
  lightP fa la,
  false,
  false,
  lightP fb lb,
  false,
  false,
  true,
  inR64 (mN n),
  decide (mN n < (1 : Int)),
  false,
  decide ((32 : Int) < mN n),
  decide (mN n < (1 : Int)),
  false,
  decide ((32 : Int) < mN n),
  false,
  false,
  false,
  mN n == mN n,
  smallY (mN n) la,
  hasO (runO (mN n) la),
  decide ((pO (runO (mN n) la)).length ≤ (300 : Nat)) && inR64 (0 : Int),
  (gN n la).snd.snd.isSome,
  mN n == mN n,
  (gN n la).fst,
  invB (mN n) (SB.p false (gN n la).snd.fst) && smallY (mN n) lb,
  isQT (runT (mN n) (SB.p false (gN n la).snd.fst) lb),
  decide ((curQ (SB.p false (gN n la).snd.fst) (runT (mN n) (SB.p false (gN n la).snd.fst) lb)).length ≤ (300 : Nat))],
  (SV.raw (Value.bool (aliB (curQ (SB.p false (gN n la).snd.fst) (runT (mN n) (SB.p false (gN n la).snd.fst) lb)) (curV (SB.p false (gN n la).snd.fst) (runT (mN n) (SB.p false (gN n la).snd.fst) lb)))), [])) := by kernel_rfl
theorem kx_kI (n : Int) (fa : Bool) (la : List Ac) (fb : Bool) (lb : List Ac) : Tr.follow [false, true, false, false, true, false, false, true, true, false, false, false, false, false, false, false, false, false, true, true, true, true, true, true, true, true, true, true, true, false, false, true] (fXab n fa la fb lb) =
  some ([false,
  lightP fa la,
  false,
  false,
  lightP fb lb,
  false,
  false,
  true,
  inR64 (mN n),
  decide (mN n < (1 : Int)),
  false,
  decide ((32 : Int) < mN n),
  decide (mN n < (1 : Int)),
  false,
  decide ((32 : Int) < mN n),
  false,
  false,
  false,
  mN n == mN n,
  smallY (mN n) la,
  hasO (runO (mN n) la),
  decide ((pO (runO (mN n) la)).length ≤ (300 : Nat)) && inR64 (0 : Int),
  (gN n la).snd.snd.isSome,
  decide (((gN n la).snd.snd.getD []).length ≤ (200 : Nat)),
  goodH (mN n) (mN n) false (gN n la).fst (gN n la).snd.fst none HS.a ((gN n la).snd.snd.getD []),
  hIsC (zN n la),
  mN n == mN n,
  hRp (gN n la).fst (zN n la),
  invB (mN n) (bN n la) && smallY (mN n) lb,
  isQT (runT (mN n) (bN n la) lb),
  isPT (runT (mN n) (bN n la) lb),
  decide ((hTs (gN n la).snd.fst (zN n la)).length ≤ (300 : Nat))],
  (SV.raw (Value.bool (aliB (hTs (gN n la).snd.fst (zN n la)) (hUs [] (zN n la)))), [])) := by kernel_rfl
theorem kx_kP (n : Int) (fa : Bool) (la : List Ac) (fb : Bool) (lb : List Ac) : Tr.follow [false, true, false, false, true, false, false, true, true, false, false, false, false, false, false, false, false, false, true, true, true, true, true, true, true, true, true, true, true, false, true, true] (fXab n fa la fb lb) =
  some ([false,
  lightP fa la,
  false,
  false,
  lightP fb lb,
  false,
  false,
  true,
  inR64 (mN n),
  decide (mN n < (1 : Int)),
  false,
  decide ((32 : Int) < mN n),
  decide (mN n < (1 : Int)),
  false,
  decide ((32 : Int) < mN n),
  false,
  false,
  false,
  mN n == mN n,
  smallY (mN n) la,
  hasO (runO (mN n) la),
  decide ((pO (runO (mN n) la)).length ≤ (300 : Nat)) && inR64 (0 : Int),
  (gN n la).snd.snd.isSome,
  decide (((gN n la).snd.snd.getD []).length ≤ (200 : Nat)),
  goodH (mN n) (mN n) false (gN n la).fst (gN n la).snd.fst none HS.a ((gN n la).snd.snd.getD []),
  hIsC (zN n la),
  mN n == mN n,
  hRp (gN n la).fst (zN n la),
  invB (mN n) (bN n la) && smallY (mN n) lb,
  isQT (runT (mN n) (bN n la) lb),
  isPT (runT (mN n) (bN n la) lb),
  decide ((curQ (bN n la) (runT (mN n) (bN n la) lb)).length ≤ (300 : Nat))],
  (SV.raw (Value.bool (aliB (curQ (bN n la) (runT (mN n) (bN n la) lb)) (hUs [] (zN n la)))), [])) := by kernel_rfl
theorem kx_kQ (n : Int) (fa : Bool) (la : List Ac) (fb : Bool) (lb : List Ac) : Tr.follow [false, true, false, false, true, false, false, true, true, false, false, false, false, false, false, false, false, false, true, true, true, true, true, true, true, true, true, true, true, true, true] (fXab n fa la fb lb) =
  some ([false,
  lightP fa la,
  false,
  false,
  lightP fb lb,
  false,
  false,
  true,
  inR64 (mN n),
  decide (mN n < (1 : Int)),
  false,
  decide ((32 : Int) < mN n),
  decide (mN n < (1 : Int)),
  false,
  decide ((32 : Int) < mN n),
  false,
  false,
  false,
  mN n == mN n,
  smallY (mN n) la,
  hasO (runO (mN n) la),
  decide ((pO (runO (mN n) la)).length ≤ (300 : Nat)) && inR64 (0 : Int),
  (gN n la).snd.snd.isSome,
  decide (((gN n la).snd.snd.getD []).length ≤ (200 : Nat)),
  goodH (mN n) (mN n) false (gN n la).fst (gN n la).snd.fst none HS.a ((gN n la).snd.snd.getD []),
  hIsC (zN n la),
  mN n == mN n,
  hRp (gN n la).fst (zN n la),
  invB (mN n) (bN n la) && smallY (mN n) lb,
  isQT (runT (mN n) (bN n la) lb),
  decide ((curQ (bN n la) (runT (mN n) (bN n la) lb)).length ≤ (300 : Nat))],
  (SV.raw (Value.bool (aliB (curQ (bN n la) (runT (mN n) (bN n la) lb)) (curV (bN n la) (runT (mN n) (bN n la) lb)))), [])) := by kernel_rfl
theorem ka_g1 (n : Int) (fa : Bool) (la : List Ac) : Tr.follow [false, false, true, true, true, true, true] (fXa n fa la) =
  some ([false,
  lightP fa la,
  true,
  true,
  true,
  true,
  true],
  (SV.raw (Value.bool true), [])) := by kernel_rfl
theorem ka_o (n : Int) (fa : Bool) (la : List Ac) : Tr.follow [false, true, false, false, false, false, true, true, false, false, false, false, false, false, false, false, false, true, true, false, true, true, true] (fXa n fa la) =
  some ([false,
  lightP fa la,
  false,
  false,
  false,
  false,
  true,
  inR64 (mN n),
  decide (mN n < (1 : Int)),
  false,
  decide ((32 : Int) < mN n),
  decide (mN n < (1 : Int)),
  false,
  decide ((32 : Int) < mN n),
  false,
  false,
  false,
  mN n == mN n,
  smallY (mN n) la,
  hasO (runO (mN n) la),
  nilG (mN n) false ((0 : Int), (0 : Int), (1 : Int), ByteArray.empty),
  mN n == mN n,
  true],
  (SV.raw (Value.bool true), [])) := by kernel_rfl
theorem ka_p (n : Int) (fa : Bool) (la : List Ac) : Tr.follow [false, true, false, false, false, false, true, true, false, false, false, false, false, false, false, false, false, true, true, true, true, false, true, true] (fXa n fa la) =
  some ([false,
  lightP fa la,
  false,
  false,
  false,
  false,
  true,
  inR64 (mN n),
  decide (mN n < (1 : Int)),
  false,
  decide ((32 : Int) < mN n),
  decide (mN n < (1 : Int)),
  false,
  decide ((32 : Int) < mN n),
  false,
  false,
  false,
  mN n == mN n,
  smallY (mN n) la,
  hasO (runO (mN n) la),
  decide ((pO (runO (mN n) la)).length ≤ (300 : Nat)) && inR64 (0 : Int),
  (gN n la).snd.snd.isSome,
  mN n == mN n,
  (gN n la).fst],
  (SV.raw (Value.bool (noPt (gN n la).snd.fst)), [])) := by kernel_rfl
theorem ka_k (n : Int) (fa : Bool) (la : List Ac) : Tr.follow [false, true, false, false, false, false, true, true, false, false, false, false, false, false, false, false, false, true, true, true, true, true, true, true, true, true, true, true] (fXa n fa la) =
  some ([false,
  lightP fa la,
  false,
  false,
  false,
  false,
  true,
  inR64 (mN n),
  decide (mN n < (1 : Int)),
  false,
  decide ((32 : Int) < mN n),
  decide (mN n < (1 : Int)),
  false,
  decide ((32 : Int) < mN n),
  false,
  false,
  false,
  mN n == mN n,
  smallY (mN n) la,
  hasO (runO (mN n) la),
  decide ((pO (runO (mN n) la)).length ≤ (300 : Nat)) && inR64 (0 : Int),
  (gN n la).snd.snd.isSome,
  decide (((gN n la).snd.snd.getD []).length ≤ (200 : Nat)),
  goodH (mN n) (mN n) false (gN n la).fst (gN n la).snd.fst none HS.a ((gN n la).snd.snd.getD []),
  hIsC (zN n la),
  mN n == mN n,
  hRp (gN n la).fst (zN n la),
  decide ((hTs (gN n la).snd.fst (zN n la)).length ≤ (300 : Nat))],
  (SV.raw (Value.bool (aliB (hTs (gN n la).snd.fst (zN n la)) (hUs [] (zN n la)))), [])) := by kernel_rfl
theorem kb_g2 (n : Int) (fb : Bool) (lb : List Ac) : Tr.follow [false, false, false, false, false, true] (fXb n fb lb) =
  some ([false,
  false,
  false,
  lightP fb lb,
  false,
  true],
  (SV.raw (Value.bool true), [])) := by kernel_rfl
theorem kb_I (n : Int) (fb : Bool) (lb : List Ac) : Tr.follow [false, false, false, true, false, false, true, true, false, false, false, false, false, false, false, false, false, true, true, true, true, true, false] (fXb n fb lb) =
  some ([false,
  false,
  false,
  lightP fb lb,
  false,
  false,
  true,
  inR64 (mN n),
  decide (mN n < (1 : Int)),
  false,
  decide ((32 : Int) < mN n),
  decide (mN n < (1 : Int)),
  false,
  decide ((32 : Int) < mN n),
  false,
  false,
  false,
  mN n == mN n,
  nilG (mN n) false ((0 : Int), (0 : Int), (1 : Int), ByteArray.empty),
  mN n == mN n,
  true,
  invB (mN n) SB.n && smallY (mN n) lb,
  isQT (runT (mN n) SB.n lb)],
  (SV.raw (Value.bool true), [])) := by kernel_rfl
theorem kb_Q (n : Int) (fb : Bool) (lb : List Ac) : Tr.follow [false, false, false, true, false, false, true, true, false, false, false, false, false, false, false, false, false, true, true, true, true, true, true, true] (fXb n fb lb) =
  some ([false,
  false,
  false,
  lightP fb lb,
  false,
  false,
  true,
  inR64 (mN n),
  decide (mN n < (1 : Int)),
  false,
  decide ((32 : Int) < mN n),
  decide (mN n < (1 : Int)),
  false,
  decide ((32 : Int) < mN n),
  false,
  false,
  false,
  mN n == mN n,
  nilG (mN n) false ((0 : Int), (0 : Int), (1 : Int), ByteArray.empty),
  mN n == mN n,
  true,
  invB (mN n) SB.n && smallY (mN n) lb,
  isQT (runT (mN n) SB.n lb),
  decide ((curQ SB.n (runT (mN n) SB.n lb)).length ≤ (300 : Nat))],
  (SV.raw (Value.bool (aliB (curQ SB.n (runT (mN n) SB.n lb)) (curV SB.n (runT (mN n) SB.n lb)))), [])) := by kernel_rfl
theorem kn (n : Int) : Tr.follow [false, false, false, false, false, true, true, false, false, false, false, false, false, false, false, false, true, true, true, true] (fXn n) =
  some ([false,
  false,
  false,
  false,
  false,
  true,
  inR64 (mN n),
  decide (mN n < (1 : Int)),
  false,
  decide ((32 : Int) < mN n),
  decide (mN n < (1 : Int)),
  false,
  decide ((32 : Int) < mN n),
  false,
  false,
  false,
  mN n == mN n,
  nilG (mN n) false ((0 : Int), (0 : Int), (1 : Int), ByteArray.empty),
  mN n == mN n,
  true],
  (SV.raw (Value.bool true), [])) := by kernel_rfl

end
end Go.Proofs.Ytgegagndihffpaa

/-
  Chapter 27: PortsKnow answers true. Own work; nothing here is trusted.
-/
namespace Go.Proofs.Ytgegagndihffpaa
open Go Go.Sx Go.RowKit
set_option maxRecDepth 1000000
set_option maxHeartbeats 8000000
set_option linter.unusedVariables false
set_option linter.unusedSimpArgs false
noncomputable section
theorem mN_in (n : Int) : 1 ≤ mN n ∧ mN n ≤ 32 := by have := pkN_in n; unfold mN; omega
theorem light_small {n : Int} {f : Bool} {ls : List Ac} (hg : lightP f ls = true) (hls : ∀ a ∈ ls, inR64 a.2.2.2.2.1 = true) : smallY (mN n) ls = true := by
  unfold lightP at hg
  rw [Bool.and_eq_true] at hg
  have h1 := hg.1
  simp at h1
  unfold smallY
  rw [decide_eq_true ⟨mN_in n, by omega⟩, List.all_eq_true.2 hls]; rfl
theorem gN_eq {n : Int} {la : List Ac} (hs : smallY (mN n) la = true) (ho : hasO (runO (mN n) la) = true) : ∃ ps, okP (mN n) false ps = true ∧ pO (runO (mN n) la) = ps ∧ gN n la = (true, (runR true ps).1, (runR true ps).2) := by
  have h := o_all hs
  unfold gN
  cases hr : runO (mN n) la with
  | none => rw [hr] at ho; cases ho
  | some x =>
    rw [hr] at h
    obtain ⟨r, ps⟩ := x
    obtain ⟨h1, h2⟩ := h.2 _ rfl
    have h1 : r = false := h1
    subst h1
    have h2 : okP (mN n) false ps = true := h2
    refine ⟨ps, h2, rfl, ?_⟩
    show guestR (mN n) false ps ((0 : Int), (0 : Int), (1 : Int), ByteArray.empty) = _
    unfold guestR
    rw [if_pos ⟨by kernel_rfl, h2⟩, if_pos rfl, if_neg (by decide)]
    rfl
theorem told_nil (n : Int) : Told (mN n) [] [] := ⟨okP_iff.2 ⟨mN_in n, List.Pairwise.nil, (fun x hx => by cases hx)⟩, (fun x hx => by cases hx), rfl⟩
theorem gN_p {n : Int} {la : List Ac} (hs : smallY (mN n) la = true) (ho : hasO (runO (mN n) la) = true) (hm : (gN n la).2.2.isSome = false) : (gN n la).1 = true ∧ (gN n la).2.1 = [] ∧ (pO (runO (mN n) la)).length ≤ 300 := by
  obtain ⟨ps, h1, h2, h3⟩ := gN_eq hs ho
  have hl := okP_len h1
  rw [h2]
  rw [h3] at hm ⊢
  rw [runR_eq] at hm ⊢
  cases ps with
  | nil => exact ⟨rfl, rfl, by simp⟩
  | cons x r => cases hm
theorem gN_k {n : Int} {la : List Ac} (hs : smallY (mN n) la = true) (ho : hasO (runO (mN n) la) = true) (hm : (gN n la).2.2.isSome = true) :
    (gN n la).1 = true ∧ Heard (mN n) none (gN n la).2.1 ((gN n la).2.2.getD []) ∧ hIsC (zN n la) = true ∧ (pO (runO (mN n) la)).length ≤ 300 := by
  obtain ⟨ps, h1, h2, h3⟩ := gN_eq hs ho
  have hl := okP_len h1
  rw [h2]
  unfold zN
  rw [h3] at hm ⊢
  cases hr : (runR true ps).2 with
  | none => rw [hr] at hm; cases hm
  | some ms =>
    obtain ⟨g1, g2⟩ := first_heard h1 hr
    exact ⟨rfl, g1, g2, by omega⟩
theorem inv_k {n : Int} {la : List Ac} (h0 : (gN n la).1 = true) (h : Heard (mN n) none (gN n la).2.1 ((gN n la).2.2.getD [])) : InvT (mN n) (bN n la) .i := by
  refine ⟨?_, fun ps hp => by cases hp⟩
  show Told (mN n) (hTs (gN n la).snd.fst (zN n la)) (hUs [] (zN n la))
  unfold zN
  rw [h0]
  exact h.told
theorem inv_n (n : Int) : InvT (mN n) .n .i := ⟨told_nil n, fun ps hp => by cases hp⟩
theorem no_told {mp : Int} {ps : List Pt} (h : Told mp ps []) : noPt ps = true := by rw [h.none]; rfl
theorem q_ali {mp : Int} {b : SB} {s : TS} (h : InvT mp b s) : aliB (curQ b s) (curV b s) = true ∧ (curQ b s).length ≤ 300 := ⟨h.told.ali, by have := h.told.len; show (curP b s).length ≤ 300; omega⟩
section
variable (n : Int)
theorem cnd : inR64 (mN n) = true ∧ decide (mN n < 1) = false ∧ decide (32 < mN n) = false ∧ (mN n == mN n) = true ∧ nilG (mN n) false ((0 : Int), (0 : Int), (1 : Int), ByteArray.empty) = true := by
  have := mN_in n
  refine ⟨inR64_mk (by omega), decide_eq_false (by omega), decide_eq_false (by omega), beq_self_eq_true _, ?_⟩
  unfold nilG inMost
  rw [decide_eq_true this]
  kernel_rfl
theorem know_nn : (fXn n).get = some (.raw (.bool true), []) := by
  obtain ⟨c1, c2, c3, c4, c5⟩ := cnd n
  exact Tr.follow_get (kn n) (by simp only [c1, c2, c3, c4, c5])
theorem know_b (fb : Bool) (lb : List Ac) (hb : ∀ a ∈ lb, inR64 a.2.2.2.2.1 = true) : (fXb n fb lb).get = some (.raw (.bool true), []) := by
  obtain ⟨c1, c2, c3, c4, c5⟩ := cnd n
  cases hg : lightP fb lb with
  | false => exact Tr.follow_get (kb_g2 n fb lb) (by simp only [hg])
  | true =>
    have hi := inv_n n
    have c6 : (invB (mN n) SB.n && smallY (mN n) lb) = true := by rw [invB_iff.2 hi, light_small hg hb]; rfl
    obtain ⟨a1, a2⟩ := q_ali (runT_inv (l := lb) hi)
    cases hq : isQT (runT (mN n) SB.n lb) with
    | false =>
      have hp := kb_I n fb lb
      rw [c6] at hp
      exact Tr.follow_get hp (by simp only [c1, c2, c3, c4, c5, hg, hq])
    | true =>
      have hp := kb_Q n fb lb
      rw [c6, a1] at hp
      exact Tr.follow_get hp (by simp only [c1, c2, c3, c4, c5, hg, hq, decide_eq_true a2])
theorem know_a (fa : Bool) (la : List Ac) (ha : ∀ a ∈ la, inR64 a.2.2.2.2.1 = true) : (fXa n fa la).get = some (.raw (.bool true), []) := by
  obtain ⟨c1, c2, c3, c4, c5⟩ := cnd n
  cases hg : lightP fa la with
  | false => exact Tr.follow_get (ka_g1 n fa la) (by simp only [hg])
  | true =>
    have hs := light_small (n := n) hg ha
    cases ho : hasO (runO (mN n) la) with
    | false => exact Tr.follow_get (ka_o n fa la) (by simp only [c1, c2, c3, c4, c5, hg, hs, ho])
    | true =>
      cases hm : (gN n la).2.2.isSome with
      | false =>
        obtain ⟨g1, g2, g3⟩ := gN_p hs ho hm
        have c6 : (decide ((pO (runO (mN n) la)).length ≤ (300 : Nat)) && inR64 (0 : Int)) = true := by rw [decide_eq_true g3]; rfl
        have hp := ka_p n fa la
        rw [c6, g2] at hp
        exact Tr.follow_get hp (by simp only [c1, c2, c3, c4, hg, hs, ho, hm, g1])
      | true =>
        obtain ⟨g1, g2, g3, g4⟩ := gN_k hs ho hm
        have c6 : (decide ((pO (runO (mN n) la)).length ≤ (300 : Nat)) && inR64 (0 : Int)) = true := by rw [decide_eq_true g4]; rfl
        have hi := inv_k g1 g2
        have c7 := decide_eq_true g2.few
        have c8 : goodH (mN n) (mN n) false (gN n la).fst (gN n la).snd.fst none HS.a ((gN n la).snd.snd.getD []) = true := by rw [g1]; exact g2.good
        have c9 : hRp (gN n la).fst (zN n la) = true := by unfold zN; rw [g1]; exact g2.rp
        have ht : Told (mN n) (hTs (gN n la).snd.fst (zN n la)) (hUs [] (zN n la)) := hi.told
        have c10 := decide_eq_true (show (hTs (gN n la).snd.fst (zN n la)).length ≤ 300 by have := ht.len; omega)
        have hp := ka_k n fa la
        rw [c6, ht.ali] at hp
        exact Tr.follow_get hp (by simp only [c1, c2, c3, c4, hg, hs, ho, hm, c7, c8, g3, c9, c10])
theorem know_ab (fa : Bool) (la : List Ac) (fb : Bool) (lb : List Ac) (ha : ∀ a ∈ la, inR64 a.2.2.2.2.1 = true) (hb : ∀ a ∈ lb, inR64 a.2.2.2.2.1 = true) : (fXab n fa la fb lb).get = some (.raw (.bool true), []) := by
  obtain ⟨c1, c2, c3, c4, c5⟩ := cnd n
  cases hg : lightP fa la with
  | false => exact Tr.follow_get (kx_g1 n fa la fb lb) (by simp only [hg])
  | true =>
    cases hgb : lightP fb lb with
    | false => exact Tr.follow_get (kx_g2 n fa la fb lb) (by simp only [hg, hgb])
    | true =>
      have hs := light_small (n := n) hg ha
      have hsb := light_small (n := n) hgb hb
      cases ho : hasO (runO (mN n) la) with
      | false =>
        have hi := inv_n n
        have c6 : (invB (mN n) SB.n && smallY (mN n) lb) = true := by rw [invB_iff.2 hi, hsb]; rfl
        obtain ⟨a1, a2⟩ := q_ali (runT_inv (l := lb) hi)
        cases hq : isQT (runT (mN n) SB.n lb) with
        | false =>
          have hp := kx_oI n fa la fb lb
          rw [c6] at hp
          exact Tr.follow_get hp (by simp only [c1, c2, c3, c4, c5, hg, hgb, hs, ho, hq])
        | true =>
          have hp := kx_oQ n fa la fb lb
          rw [c6, a1] at hp
          exact Tr.follow_get hp (by simp only [c1, c2, c3, c4, c5, hg, hgb, hs, ho, hq, decide_eq_true a2])
      | true =>
        cases hm : (gN n la).2.2.isSome with
        | false =>
          obtain ⟨g1, g2, g3⟩ := gN_p hs ho hm
          have c6 : (decide ((pO (runO (mN n) la)).length ≤ (300 : Nat)) && inR64 (0 : Int)) = true := by rw [decide_eq_true g3]; rfl
          have hi : InvT (mN n) (SB.p false (gN n la).snd.fst) .i := ⟨by show Told (mN n) (gN n la).snd.fst []; rw [g2]; exact told_nil n, fun ps hp => by cases hp⟩
          have c7 : (invB (mN n) (SB.p false (gN n la).snd.fst) && smallY (mN n) lb) = true := by rw [invB_iff.2 hi, hsb]; rfl
          obtain ⟨a1, a2⟩ := q_ali (runT_inv (l := lb) hi)
          cases hq : isQT (runT (mN n) (SB.p false (gN n la).snd.fst) lb) with
          | false =>
            have hp := kx_pI n fa la fb lb
            have c8 : noPt (gN n la).snd.fst = true := by rw [g2]; rfl
            rw [c6, c7, c8] at hp
            exact Tr.follow_get hp (by simp only [c1, c2, c3, c4, hg, hgb, hs, ho, hm, g1, hq])
          | true =>
            have hp := kx_pQ n fa la fb lb
            rw [c6, c7, a1] at hp
            exact Tr.follow_get hp (by simp only [c1, c2, c3, c4, hg, hgb, hs, ho, hm, g1, hq, decide_eq_true a2])
        | true =>
          obtain ⟨g1, g2, g3, g4⟩ := gN_k hs ho hm
          have c6 : (decide ((pO (runO (mN n) la)).length ≤ (300 : Nat)) && inR64 (0 : Int)) = true := by rw [decide_eq_true g4]; rfl
          have hi := inv_k g1 g2
          have c7 := decide_eq_true g2.few
          have c8 : goodH (mN n) (mN n) false (gN n la).fst (gN n la).snd.fst none HS.a ((gN n la).snd.snd.getD []) = true := by rw [g1]; exact g2.good
          have c9 : hRp (gN n la).fst (zN n la) = true := by unfold zN; rw [g1]; exact g2.rp
          have ht : Told (mN n) (hTs (gN n la).snd.fst (zN n la)) (hUs [] (zN n la)) := hi.told
          have c10 := decide_eq_true (show (hTs (gN n la).snd.fst (zN n la)).length ≤ 300 by have := ht.len; omega)
          have c11 : (invB (mN n) (bN n la) && smallY (mN n) lb) = true := by rw [invB_iff.2 hi, hsb]; rfl
          have hj := runT_inv (l := lb) hi
          obtain ⟨a1, a2⟩ := q_ali hj
          cases hq : isQT (runT (mN n) (bN n la) lb) with
          | true =>
            have hp := kx_kQ n fa la fb lb
            rw [c6, c11, a1] at hp
            exact Tr.follow_get hp (by simp only [c1, c2, c3, c4, hg, hgb, hs, ho, hm, c7, c8, g3, c9, hq, decide_eq_true a2])
          | false =>
            cases hpt : isPT (runT (mN n) (bN n la) lb) with
            | false =>
              have hp := kx_kI n fa la fb lb
              rw [c6, c11, ht.ali] at hp
              exact Tr.follow_get hp (by simp only [c1, c2, c3, c4, hg, hgb, hs, ho, hm, c7, c8, g3, c9, hq, hpt, c10])
            | true =>
              have hv : curV (bN n la) (runT (mN n) (bN n la) lb) = hUs [] (zN n la) := by
                revert hpt
                cases runT (mN n) (bN n la) lb <;> intro hpt <;> first | (cases hpt; done) | rfl
              have hp := kx_kP n fa la fb lb
              rw [hv] at a1
              rw [c6, c11, a1] at hp
              exact Tr.follow_get hp (by simp only [c1, c2, c3, c4, hg, hgb, hs, ho, hm, c7, c8, g3, c9, hq, hpt, decide_eq_true a2])
end
theorem act_rng2 {a : Ac} (h : matchK [.int .i64, .int .i64, .str, .bool, .int .u32, .int .u16, .int .u16, .str] ((C27 40).enc a)) : inR64 a.2.2.2.2.1 = true := by
  obtain ⟨_, _, _, _, h5, _⟩ := h
  obtain ⟨x, hx, hw⟩ := h5
  have hx : Value.int .u32 a.2.2.2.2.1 = Value.int .u32 x := hx
  cases hx
  have := wf_u32 hw
  exact inR64_mk (by omega)
theorem PortsKnow_walk (n : Int) (v1 v2 : Value) (W : World) (_ : (Lit.int .i64 n).wf = true) (h1 : SArg (C27 40) (fun q => matchK [.int .i64, .int .i64, .str, .bool, .int .u32, .int .u16, .int .u16, .str] ((C27 40).enc q)) W v1) (h2 : SArg (C27 40) (fun q => matchK [.int .i64, .int .i64, .str, .bool, .int .u32, .int .u16, .int .u16, .str] ((C27 40).enc q)) W v2) :
    Calls Try.prog 6 #[.int .i64 n, v1, v2] W fun e w' => e = .returned (.bool true) ∧ Below W.heap.size W w' := by
  rcases h1 with rfl | ⟨a1, cap1, ts1, rfl, hl1, hc1, hk1, hb1⟩
  · rcases h2 with rfl | ⟨a2, cap2, ts2, rfl, hl2, hc2, hk2, hb2⟩
    · exact run_flat (C := C27) (args := [.raw (.int .i64 n), nlS, nlS]) (vals := [.int .i64 n, .slice none 0 0, .slice none 0 0]) (fnC_ok plain mixed sfX_ok lsX_ok (know_nn n)) rfl
    · refine run_views (C := C27) (args := [.raw (.int .i64 n), nlS, .h 0]) (vals := [.int .i64 n, .slice none 0 0, .slice (some a2) ts2.length cap2]) [⟨40, a2, cap2, ts2, hl2, hc2, hb2⟩] (fnC_ok plain mixed sfX_ok lsX_ok (know_b n false ts2 (fun x hx => act_rng2 (hk2 x hx)))) (fun ρ hρ => ?_)
      simp only [denL, den, hρ 0 _ rfl]; rfl
  · rcases h2 with rfl | ⟨a2, cap2, ts2, rfl, hl2, hc2, hk2, hb2⟩
    · refine run_views (C := C27) (args := [.raw (.int .i64 n), .h 0, nlS]) (vals := [.int .i64 n, .slice (some a1) ts1.length cap1, .slice none 0 0]) [⟨40, a1, cap1, ts1, hl1, hc1, hb1⟩] (fnC_ok plain mixed sfX_ok lsX_ok (know_a n false ts1 (fun x hx => act_rng2 (hk1 x hx)))) (fun ρ hρ => ?_)
      simp only [denL, den, hρ 0 _ rfl]; rfl
    · refine run_views (C := C27) (args := [.raw (.int .i64 n), .h 0, .h 1]) (vals := [.int .i64 n, .slice (some a1) ts1.length cap1, .slice (some a2) ts2.length cap2]) [⟨40, a1, cap1, ts1, hl1, hc1, hb1⟩, ⟨40, a2, cap2, ts2, hl2, hc2, hb2⟩] (fnC_ok plain mixed sfX_ok lsX_ok (know_ab n false ts1 false ts2 (fun x hx => act_rng2 (hk1 x hx)) (fun x hx => act_rng2 (hk2 x hx)))) (fun ρ hρ => ?_)
      simp only [denL, den, hρ 0 _ rfl, hρ 1 _ rfl]; rfl
end
end Go.Proofs.Ytgegagndihffpaa
