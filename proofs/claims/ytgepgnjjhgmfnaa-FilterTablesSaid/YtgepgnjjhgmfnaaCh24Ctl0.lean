/-
  Chapter 24: BinarySearch as a specification; Ctrl, what it stands on. Own work; nothing here is trusted.
-/
import Derived.Test.YtgepgnjjhgmfnaaCh24Bin
import Derived.Test.YtgepgnjjhgmfnaaCh24Cln
namespace Go.Proofs.Ytgepgnjjhgmfnaa
open Go Go.Sx Go.RowKit
set_option maxRecDepth 1000000
set_option maxHeartbeats 8000000
set_option linter.unusedVariables false
set_option linter.unusedSimpArgs false
noncomputable section

theorem bs_end (v : Lo Int) (x : Int) : Tr.follow [true, true, true, false, false, false, false, false, false, false, false, false] (f24B v x) =
  some ([(↑(lo v).length : Int) == (↑(lo v).length : Int),
  (↑(lo v).length : Int) == (↑(lo v).length : Int),
  decide ((lo v).length ≤ (100000 : Nat)),
  decide ((↑(bsI (lo v) x) : Int) < (↑(lo v).length : Int)),
  false,
  false,
  false,
  false,
  false,
  false,
  false,
  false],
  (SV.tup [SV.raw (Value.int IntKind.i64 (↑(bsI (lo v) x) : Int)), SV.raw (Value.bool false)], [])) := by cases v <;> kernel_rfl
theorem bs_in (a b : Bool) (ts : List Int) (x : Int) : Tr.follow [true, true, true, true, true, true, true, true, true, true, true, true, true, true, true, true, true, true, true, true, true] (f24B (some (a, b, ts)) x) =
  some ([(↑ts.length : Int) == (↑(ts).length : Int),
  (↑ts.length : Int) == (↑(ts).length : Int),
  decide ((ts).length ≤ (100000 : Nat)),
  decide ((↑(bsI (ts) x) : Int) < (↑(ts).length : Int)),
  true,
  true,
  inB (↑(bsI (ts) x) : Int) ts.length,
  true,
  decide ((↑(bsI (ts) x) : Int).toNat < ts.length),
  true,
  true,
  true,
  ts.getD (↑(bsI (ts) x) : Int).toNat (0 : Int) == x,
  true,
  true,
  true,
  true,
  true,
  true,
  true,
  true],
  (SV.tup [SV.raw (Value.int IntKind.i64 (↑(bsI (ts) x) : Int)), SV.raw (Value.bool true)], [])) := by kernel_rfl
theorem bs_no (a b : Bool) (ts : List Int) (x : Int) : Tr.follow [true, true, true, true, true, true, true, true, true, true, true, true, false, false, false, true, false, true, false, false, false, false, false, false, true] (f24B (some (a, b, ts)) x) =
  some ([(↑ts.length : Int) == (↑(ts).length : Int),
  (↑ts.length : Int) == (↑(ts).length : Int),
  decide ((ts).length ≤ (100000 : Nat)),
  decide ((↑(bsI (ts) x) : Int) < (↑(ts).length : Int)),
  true,
  true,
  inB (↑(bsI (ts) x) : Int) ts.length,
  true,
  decide ((↑(bsI (ts) x) : Int).toNat < ts.length),
  true,
  true,
  true,
  ts.getD (↑(bsI (ts) x) : Int).toNat (0 : Int) == x,
  false,
  false,
  inB (↑(bsI (ts) x) : Int) ts.length,
  false,
  decide ((↑(bsI (ts) x) : Int).toNat < ts.length),
  false,
  false,
  ts.getD (↑(bsI (ts) x) : Int).toNat (0 : Int) != ts.getD (↑(bsI (ts) x) : Int).toNat (0 : Int),
  false,
  false,
  false,
  true],
  (SV.tup [SV.raw (Value.int IntKind.i64 (↑(bsI (ts) x) : Int)), SV.raw (Value.bool false)], [])) := by kernel_rfl

def bsF (l : List Int) (x : Int) : Bool := decide ((bsI l x : Int) < (l.length : Int)) && l.getD (bsI l x) 0 == x
/-- The place as a number, that stands still where the list is not known. -/
def bsZ (l : List Int) (x : Int) : Int := match l with
  | [] => 0
  | y :: r => (bsI (y :: r) x : Int)
theorem bsZ_eq (l : List Int) (x : Int) : bsZ l x = (bsI l x : Int) := by cases l <;> rfl
def bsT : FnF C24 := fun args os => match args with
  | [s, .raw (.int .i64 x)] => match decI s 0 os with
    | some (v, []) => withL v fun l => .br (decide (l.length ≤ 100000)) (.leaf (.tup [.raw (.int .i64 (bsZ l x)), .raw (.bool (bsF l x))], [])) .fail
    | _ => .fail
  | _ => .fail
theorem bsT_ok : ∀ args os r, (bsT args os).get = some r → Fn0 Try.prog 60 args os r := fun args os r h => by
  unfold bsT at h
  split at h
  · rename_i s x
    split at h
    · rename_i v h1
      obtain ⟨rfl, rfl⟩ := decI_eq h1
      rw [withL_eq] at h
      obtain ⟨hl, h2⟩ := Tr.get_ask.1 h
      simp only [Tr.get, Option.some.injEq] at h2
      subst h2
      clear h h1
      have k1 := hl
      have hl : (lo v).length ≤ 100000 := of_decide_eq_true hl
      have k2 : (((lo v).length : Int) == ((lo v).length : Int)) = true := beq_self_eq_true _
      refine fnC_ok (sp := noSp) (ls := lsB) (unr := unB) (d := 10) plain mixed noSp_ok lsB_ok ?_
      rw [List.append_nil, bsZ_eq]
      unfold bsF
      by_cases hlt : (bsI (lo v) x : Int) < ((lo v).length : Int)
      · rw [decide_eq_true hlt]
        cases v with
        | none => exact absurd hlt (by show ¬ ((bsI [] x : Nat) : Int) < ((0 : Nat) : Int); omega)
        | some y =>
          obtain ⟨a, b, ts⟩ := y
          change ((bsI ts x : Nat) : Int) < (ts.length : Int) at hlt
          change decide (ts.length ≤ 100000) = true at k1
          change ((ts.length : Int) == (ts.length : Int)) = true at k2
          have k3 := decide_eq_true hlt
          have k4 : Sx.inB ((bsI ts x : Nat) : Int) ts.length = true := inB_mk ⟨by omega, hlt⟩
          have k5 : decide (((bsI ts x : Nat) : Int).toNat < ts.length) = true := decide_eq_true (by omega)
          have e1 : ((bsI ts x : Nat) : Int).toNat = bsI ts x := rfl
          rw [e1] at k5
          show (f24B (some (a, b, ts)) x).get = some (.tup [.raw (.int .i64 (bsI ts x : Int)), .raw (.bool (true && ts.getD (bsI ts x) 0 == x))], [])
          cases he : (ts.getD (bsI ts x) 0 == x) with
          | true => exact Tr.follow_get (bs_in a b ts x) (by simp only [k1, k2, k3, k4, k5, e1, he])
          | false => exact Tr.follow_get (bs_no a b ts x) (by simp only [k1, k2, k3, k4, k5, e1, he, bne_self_eq_false])
      · rw [decide_eq_false hlt]
        exact Tr.follow_get (bs_end v x) (by simp only [k1, k2, decide_eq_false hlt])
    · cases h
  · cases h
def lsM : LoopT C24 := Sx.addL 59 2 (loopS [0, 3, 4, 7] [] mcLoop) noLs
theorem lsM_ok : LoopTOk Try.prog lsM := addL_ok m_loop mcLoop_ok noLs_ok
abbrev unM (g b : Nat) : Nat := match g, b with
  | 59, 2 => 0 | _, _ => 20
def sfC : SpecT C24 := addS 11 (seeS chkT) (addS 36 (seeS cloneT) (addS 60 (seeS bsT) (addS 61 (ownS insT) (addS 62 (ownS delT) noSp))))
theorem sfC_ok : SpecTOk Try.prog sfC := addS_ok (seeS_ok chkT_ok) (addS_ok (seeS_ok cloneT_ok) (addS_ok (seeS_ok bsT_ok) (addS_ok (ownS_ok insT_ok) (addS_ok (ownS_ok delT_ok) noSp_ok))))
/-- A number of four bytes; how addresses are read. -/
abbrev nQ (l : List Int) : Int := bitsV IntKind.u64 BinOp.or (bitsV IntKind.u64 BinOp.or (bitsV IntKind.u64 BinOp.or (bitsV IntKind.u64 BinOp.or (0 : Int) (shlV IntKind.u64 (l.getD (Int.toNat (0 : Int)) (0 : Int) % (18446744073709551616 : Int)) ((8 : Int) * (0 : Int)))) (shlV IntKind.u64 (l.getD ((0 : Int) + (1 : Int)).toNat (0 : Int) % (18446744073709551616 : Int)) ((8 : Int) * ((0 : Int) + (1 : Int))))) (shlV IntKind.u64 (l.getD ((0 : Int) + (1 : Int) + (1 : Int)).toNat (0 : Int) % (18446744073709551616 : Int)) ((8 : Int) * ((0 : Int) + (1 : Int) + (1 : Int))))) (shlV IntKind.u64 (l.getD ((0 : Int) + (1 : Int) + (1 : Int) + (1 : Int)).toNat (0 : Int) % (18446744073709551616 : Int)) ((8 : Int) * ((0 : Int) + (1 : Int) + (1 : Int) + (1 : Int))))
abbrev q4 (r : List Int) : List Int := cutL r none (some 4)
abbrev r4 (r : List Int) : List Int := cutL r (some 4) none
abbrev gM (r : List Int) : MS := finM (nQ (q4 r)).toNat 0 [] (r4 r) 0
abbrev nV (l : List Int) : Int := bitsV IntKind.i64 BinOp.or (l.getD (Int.toNat (0 : Int)) (0 : Int)) (shlV IntKind.i64 (l.getD (Int.toNat (1 : Int)) (0 : Int)) (8 : Int))
abbrev r2 (bs : List Int) : List Int := cutL bs (some 2) none
abbrev hd (bs : List Int) : List Int := cutL bs none (some 2)
abbrev f24T (feats : Int) (F : Fv) (b : Lo Int) := fnC C24 Try.prog sfC lsM unM 10 12 [.raw (.int .u64 feats), .agg (fltC F 0), hS b (fltN F 0)] (fltO F ++ obB b)
end
end Go.Proofs.Ytgepgnjjhgmfnaa
