/-
  Chapter 24: Pass as a specification. Own work; nothing here is trusted.
-/
import Derived.Test.YtgepgnjjhgmfnaaCh24Fns
namespace Go.Proofs.Ytgepgnjjhgmfnaa
open Go Go.Sx Go.RowKit
set_option maxRecDepth 1000000
set_option maxHeartbeats 8000000
set_option linter.unusedVariables false
set_option linter.unusedSimpArgs false
noncomputable section
def hasB (feats bit : Int) : Bool := bitsV IntKind.u64 BinOp.and (shrV IntKind.u64 feats bit) 1 == 1
def grpM (x : Mac) : Bool := bitsV IntKind.u8 BinOp.and x.1 1 == 1
def allM (x : Mac) : Bool := eqM x (255, 255, 255, 255, 255, 255)
theorem pass_tree (feats : Int) (m : Mac) (p q : Bool) (o g : Lo Mac) (v : Lo Int) (xd xs : Mac) (xv xt : Int) (d : Lo Int) : (f24P feats (m, p, q, o, g, v) (xd, xs, xv, xt, d)).get =
  
  bro (smF (m, p, q, (lo o), (lo g), (lo v))) (bro (okF (m, p, q, (lo o), (lo g), (lo v))) (bro (decide (xv < (-1 : Int))) (some (SV.raw (Value.bool false), [])) (bro (decide ((4095 : Int) < xv)) (some (SV.raw (Value.bool false), [])) (bro (xt == (33024 : Int)) (some (SV.raw (Value.bool false), [])) (bro (decide ((1500 : Int) < (↑(lo d).length : Int))) (some (SV.raw (Value.bool false), [])) (bro (hasB feats 19) (bro (decide ((0 : Int) ≤ xv)) (bro ((↑(lo v).length : Int) == (↑((lo v)).length : Int)) (bro (decide (((lo v)).length ≤ (100000 : Nat))) (bro (noneP (eqI ((lo v)) xv) ((lo v)).length) (some (SV.raw (Value.bool false), [])) (bro (p) (some (SV.raw (Value.bool true), [])) (bro (grpM xd) (bro (q) (some (SV.raw (Value.bool true), [])) (bro (allM xd) (some (SV.raw (Value.bool true), [])) (bro ((↑(lo g).length : Int) == (↑((lo g)).length : Int)) (bro (decide (((lo g)).length ≤ (100000 : Nat))) (bro (noneP (eqA ((lo g)) xd) ((lo g)).length) (some (SV.raw (Value.bool false), [])) (some (SV.raw (Value.bool true), []))) (none)) (none)))) (bro (eqM m xd) (some (SV.raw (Value.bool true), [])) (bro ((↑(lo o).length : Int) == (↑((lo o)).length : Int)) (bro (decide (((lo o)).length ≤ (100000 : Nat))) (bro (noneP (eqA ((lo o)) xd) ((lo o)).length) (some (SV.raw (Value.bool false), [])) (some (SV.raw (Value.bool true), []))) (none)) (none)))))) (none)) (none)) (bro (p) (some (SV.raw (Value.bool true), [])) (bro (grpM xd) (bro (q) (some (SV.raw (Value.bool true), [])) (bro (allM xd) (some (SV.raw (Value.bool true), [])) (bro ((↑(lo g).length : Int) == (↑((lo g)).length : Int)) (bro (decide (((lo g)).length ≤ (100000 : Nat))) (bro (noneP (eqA ((lo g)) xd) ((lo g)).length) (some (SV.raw (Value.bool false), [])) (some (SV.raw (Value.bool true), []))) (none)) (none)))) (bro (eqM m xd) (some (SV.raw (Value.bool true), [])) (bro ((↑(lo o).length : Int) == (↑((lo o)).length : Int)) (bro (decide (((lo o)).length ≤ (100000 : Nat))) (bro (noneP (eqA ((lo o)) xd) ((lo o)).length) (some (SV.raw (Value.bool false), [])) (some (SV.raw (Value.bool true), []))) (none)) (none)))))) (bro (p) (some (SV.raw (Value.bool true), [])) (bro (grpM xd) (bro (q) (some (SV.raw (Value.bool true), [])) (bro (allM xd) (some (SV.raw (Value.bool true), [])) (bro ((↑(lo g).length : Int) == (↑((lo g)).length : Int)) (bro (decide (((lo g)).length ≤ (100000 : Nat))) (bro (noneP (eqA ((lo g)) xd) ((lo g)).length) (some (SV.raw (Value.bool false), [])) (some (SV.raw (Value.bool true), []))) (none)) (none)))) (bro (eqM m xd) (some (SV.raw (Value.bool true), [])) (bro ((↑(lo o).length : Int) == (↑((lo o)).length : Int)) (bro (decide (((lo o)).length ≤ (100000 : Nat))) (bro (noneP (eqA ((lo o)) xd) ((lo o)).length) (some (SV.raw (Value.bool false), [])) (some (SV.raw (Value.bool true), []))) (none)) (none)))))))))) (some (SV.raw (Value.bool false), []))) (none) := by cases o <;> cases g <;> cases v <;> cases d <;> kernel_rfl
/-- A frame by its bytes. -/
abbrev Rp := Mac × Mac × Int × Int × List Int
abbrev plR (x : Rv) : Rp := (x.1, x.2.1, x.2.2.1, x.2.2.2.1, lo x.2.2.2.2)
def tailP (F : Fp) (d : Mac) : Bool := sel F.2.1 true (sel (grpM d) (sel F.2.2.1 true (sel (allM d) true (sel (noneP (eqA F.2.2.2.2.1 d) F.2.2.2.2.1.length) false true))) (sel (eqM F.1 d) true (sel (noneP (eqA F.2.2.2.1 d) F.2.2.2.1.length) false true)))
def passP (feats : Int) (F : Fp) (x : Rp) : Bool := sel (okF F) (sel (decide (x.2.2.1 < -1)) false (sel (decide ((4095 : Int) < x.2.2.1)) false (sel (x.2.2.2.1 == 33024) false (sel (decide ((1500 : Int) < (x.2.2.2.2.length : Int))) false
  (sel (hasB feats 19) (sel (decide ((0 : Int) ≤ x.2.2.1)) (sel (noneP (eqI F.2.2.2.2.2 x.2.2.1) F.2.2.2.2.2.length) false (tailP F x.1)) (tailP F x.1)) (tailP F x.1)))))) false
theorem broB {c a b : Bool} : bro c (some ((SV.raw (.bool a), []) : SV × List (SO C24))) (some (SV.raw (.bool b), [])) = some (SV.raw (.bool (sel c a b)), []) := by cases c <;> rfl
def passT : FnF C24 := fun args os => match args with
  | [.raw (.int .u64 feats), .agg cs, .agg ds] => match decF cs 0 os with
    | some (((x0, x1, x2, x3, x4, x5), p, q, o, g, v), os1) => match decR ds (fltN ((x0, x1, x2, x3, x4, x5), p, q, o, g, v) 0) os1 with
      | some (((y0, y1, y2, y3, y4, y5), (z0, z1, z2, z3, z4, z5), vl, ty, d), []) => withL o fun ol => withL g fun gl => withL v fun l => withL d fun dl =>
        .br (smF ((x0, x1, x2, x3, x4, x5), p, q, ol, gl, l)) (.leaf (.raw (.bool (passP feats ((x0, x1, x2, x3, x4, x5), p, q, ol, gl, l) ((y0, y1, y2, y3, y4, y5), (z0, z1, z2, z3, z4, z5), vl, ty, dl))), [])) .fail
      | _ => .fail
    | none => .fail
  | _ => .fail
theorem passT_ok : ∀ args os r, (passT args os).get = some r → Fn0 Try.prog 16 args os r := fun args os r h => by
  unfold passT at h
  split at h
  · rename_i feats cs ds
    split at h
    · rename_i x0 x1 x2 x3 x4 x5 p q o g v os1 hF
      split at h
      · rename_i y0 y1 y2 y3 y4 y5 z0 z1 z2 z3 z4 z5 vl ty d hR
        obtain ⟨rfl, rfl⟩ := decF_eq hF
        obtain ⟨rfl, rfl⟩ := decR_eq hR
        simp only [withL_eq] at h
        obtain ⟨hs, h2⟩ := Tr.get_ask.1 h
        simp only [Tr.get, Option.some.injEq] at h2
        subst h2
        clear hF hR h
        have hs' := hs
        have hs : (lo o).length ≤ 100000 ∧ (lo g).length ≤ 100000 ∧ (lo v).length ≤ 100000 := of_decide_eq_true hs
        have e1 : fltO ((x0, x1, x2, x3, x4, x5), p, q, o, g, v) ++ (obB d ++ []) = fltO ((x0, x1, x2, x3, x4, x5), p, q, o, g, v) ++ obB d := by rw [List.append_nil]
        refine fnC_ok (sp := sfP) (ls := lsF) (unr := unF) (d := 10) plain mixed sfP_ok lsF_ok ?_
        rw [e1]
        refine (pass_tree feats (x0, x1, x2, x3, x4, x5) p q o g v (y0, y1, y2, y3, y4, y5) (z0, z1, z2, z3, z4, z5) vl ty d).trans ?_
        have k1 : decide ((lo v).length ≤ 100000) = true := decide_eq_true hs.2.2
        have k2 : decide ((lo o).length ≤ 100000) = true := decide_eq_true hs.1
        have k3 : decide ((lo g).length ≤ 100000) = true := decide_eq_true hs.2.1
        rw [hs']
        simp only [k1, k2, k3, beq_self_eq_true, bro_true, broB]
        rfl
      · cases h
    · cases h
  · cases h
end
end Go.Proofs.Ytgepgnjjhgmfnaa
