/-
  Merged texts: Ch27Ali0, Ch27Ali1, Ch27Ali, Ch27KnN, Ch27Hrd0, Ch27HrdP, Ch27HrdL, Ch27HrdO. Own work; nothing here is trusted.
-/
import Derived.Test.YtgegagndihffpaaCh27Stay3
/-
  Chapter 27: PortsKnow: alike, what its loop stands on. Own work; nothing here is trusted.
-/
namespace Go.Proofs.Ytgegagndihffpaa
open Go Go.Sx Go.RowKit
set_option maxRecDepth 1000000
set_option maxHeartbeats 8000000
set_option linter.unusedVariables false
noncomputable section
abbrev alSl : List Nat := [2, 3, 5, 4]
abbrev alSt (o1 f1 o2 f2 : Bool) (mp : Int) (rp : Bool) (mk : Int) (rk : Bool) (ts us : List Pt) (k : Int) (R : Bool) : List SV × List (SO C27) := ([.h 0, .h 1, .raw (.int .i64 k), .raw (.bool R)], [.box [.raw (.int .i64 mp), .raw (.bool rp), .h 2] 27, .box [.raw (.int .i64 mk), .raw (.bool rk), .h 3] 27, .sl o1 f1 46 ts, .sl o2 f2 46 us])
abbrev alR (o1 f1 o2 f2 : Bool) (mp : Int) (rp : Bool) (mk : Int) (rk : Bool) (ts us : List Pt) (k : Int) := roundG C27 Try.prog noSp noLs (fun _ _ => 20) 10 23 0 alSl ⟨(alSt o1 f1 o2 f2 mp rp mk rk ts us k false).1, 4, (alSt o1 f1 o2 f2 mp rp mk rk ts us k false).2⟩
end
end Go.Proofs.Ytgegagndihffpaa

/-
  Chapter 27: PortsKnow: alike's loop. Own work; nothing here is trusted.
-/
namespace Go.Proofs.Ytgegagndihffpaa
open Go Go.Sx Go.RowKit
set_option maxRecDepth 1000000
set_option maxHeartbeats 8000000
set_option linter.unusedVariables false
set_option linter.unusedSimpArgs false
noncomputable section
theorem al_tree (o1 f1 o2 f2 : Bool) (mp : Int) (rp : Bool) (mk : Int) (rk : Bool) (ts us : List Pt) (k : Int) : (alR o1 f1 o2 f2 mp rp mk rk ts us k).get =
  bro (decide (k < (↑ts.length : Int))) (bro (inB k ts.length) (bro (decide (k.toNat < ts.length)) (bro (inB k us.length) (bro (decide (k.toNat < us.length)) (bro ((elP ts k).fst != (elP us k).fst) (some (Ex.ret, [SV.h (0 : Nat), SV.h (1 : Nat), SV.raw (Value.int IntKind.i64 k), SV.raw (Value.bool false)], [SO.box [SV.raw (Value.int IntKind.i64 mp), SV.raw (Value.bool rp), SV.h (2 : Nat)] (27 : Nat), SO.box [SV.raw (Value.int IntKind.i64 mk), SV.raw (Value.bool rk), SV.h (3 : Nat)] (27 : Nat), SO.sl o1 f1 (46 : Nat) ts, SO.sl o2 f2 (46 : Nat) us])) (bro (!(elP ts k).snd.fst.toList == (elP us k).snd.fst.toList) (some (Ex.ret, [SV.h (0 : Nat), SV.h (1 : Nat), SV.raw (Value.int IntKind.i64 k), SV.raw (Value.bool false)], [SO.box [SV.raw (Value.int IntKind.i64 mp), SV.raw (Value.bool rp), SV.h (2 : Nat)] (27 : Nat), SO.box [SV.raw (Value.int IntKind.i64 mk), SV.raw (Value.bool rk), SV.h (3 : Nat)] (27 : Nat), SO.sl o1 f1 (46 : Nat) ts, SO.sl o2 f2 (46 : Nat) us])) (bro (!(elP ts k).snd.snd.fst == (elP us k).snd.snd.fst) (some (Ex.ret, [SV.h (0 : Nat), SV.h (1 : Nat), SV.raw (Value.int IntKind.i64 k), SV.raw (Value.bool false)], [SO.box [SV.raw (Value.int IntKind.i64 mp), SV.raw (Value.bool rp), SV.h (2 : Nat)] (27 : Nat), SO.box [SV.raw (Value.int IntKind.i64 mk), SV.raw (Value.bool rk), SV.h (3 : Nat)] (27 : Nat), SO.sl o1 f1 (46 : Nat) ts, SO.sl o2 f2 (46 : Nat) us])) (bro (!(elP ts k).snd.snd.snd.fst == (elP us k).snd.snd.snd.fst) (some (Ex.ret, [SV.h (0 : Nat), SV.h (1 : Nat), SV.raw (Value.int IntKind.i64 k), SV.raw (Value.bool false)], [SO.box [SV.raw (Value.int IntKind.i64 mp), SV.raw (Value.bool rp), SV.h (2 : Nat)] (27 : Nat), SO.box [SV.raw (Value.int IntKind.i64 mk), SV.raw (Value.bool rk), SV.h (3 : Nat)] (27 : Nat), SO.sl o1 f1 (46 : Nat) ts, SO.sl o2 f2 (46 : Nat) us])) (bro (!(elP ts k).snd.snd.snd.snd.snd) (some (Ex.ret, [SV.h (0 : Nat), SV.h (1 : Nat), SV.raw (Value.int IntKind.i64 k), SV.raw (Value.bool false)], [SO.box [SV.raw (Value.int IntKind.i64 mp), SV.raw (Value.bool rp), SV.h (2 : Nat)] (27 : Nat), SO.box [SV.raw (Value.int IntKind.i64 mk), SV.raw (Value.bool rk), SV.h (3 : Nat)] (27 : Nat), SO.sl o1 f1 (46 : Nat) ts, SO.sl o2 f2 (46 : Nat) us])) (bro (inR64 (k + (1 : Int))) (some (Ex.normal, [SV.h (0 : Nat), SV.h (1 : Nat), SV.raw (Value.int IntKind.i64 (k + (1 : Int))), SV.raw (Value.bool false)], [SO.box [SV.raw (Value.int IntKind.i64 mp), SV.raw (Value.bool rp), SV.h (2 : Nat)] (27 : Nat), SO.box [SV.raw (Value.int IntKind.i64 mk), SV.raw (Value.bool rk), SV.h (3 : Nat)] (27 : Nat), SO.sl o1 f1 (46 : Nat) ts, SO.sl o2 f2 (46 : Nat) us])) (some (Ex.normal, [SV.h (0 : Nat), SV.h (1 : Nat), SV.raw (Value.int IntKind.i64 (IntKind.i64.wrap (k + (1 : Int)))), SV.raw (Value.bool false)], [SO.box [SV.raw (Value.int IntKind.i64 mp), SV.raw (Value.bool rp), SV.h (2 : Nat)] (27 : Nat), SO.box [SV.raw (Value.int IntKind.i64 mk), SV.raw (Value.bool rk), SV.h (3 : Nat)] (27 : Nat), SO.sl o1 f1 (46 : Nat) ts, SO.sl o2 f2 (46 : Nat) us])))))))) (none)) (none)) (none)) (none)) (some (Ex.exit (0 : Nat), [SV.h (0 : Nat), SV.h (1 : Nat), SV.raw (Value.int IntKind.i64 k), SV.raw (Value.bool false)], [SO.box [SV.raw (Value.int IntKind.i64 mp), SV.raw (Value.bool rp), SV.h (2 : Nat)] (27 : Nat), SO.box [SV.raw (Value.int IntKind.i64 mk), SV.raw (Value.bool rk), SV.h (3 : Nat)] (27 : Nat), SO.sl o1 f1 (46 : Nat) ts, SO.sl o2 f2 (46 : Nat) us])) := by kernel_rfl

/-- A port that is not as it is known, or not ready. -/
def naP (x y : Pt) : Bool := (x.1 != y.1) || ((!(x.2.1.toList == y.2.1.toList)) || ((!(x.2.2.1 == y.2.2.1)) || ((!(x.2.2.2.1 == y.2.2.2.1)) || !x.2.2.2.2.2)))
abbrev naL (ts us : List Pt) (k : Nat) : Bool := naP (elP ts k) (elP us k)
section
variable {o1 f1 o2 f2 : Bool} {mp : Int} {rp : Bool} {mk : Int} {rk : Bool} {ts us : List Pt}
theorem al_round {k : Nat} (hk : k < ts.length) (hu : us.length = ts.length) (hl : ts.length ≤ 100000) :
    (alR o1 f1 o2 f2 mp rp mk rk ts us k).get = bro (naL ts us k) (some (.ret, alSt o1 f1 o2 f2 mp rp mk rk ts us k false)) (some (.normal, alSt o1 f1 o2 f2 mp rp mk rk ts us ((k + 1 : Nat) : Int) false)) := by
  rw [al_tree]
  have k1 := decide_eq_true (show (k : Int) < (ts.length : Int) by omega)
  have k2 : Sx.inB (k : Int) ts.length = true := inB_mk ⟨by omega, by omega⟩
  have k3 := decide_eq_true (show ((k : Nat) : Int).toNat < ts.length by omega)
  have k4 : inR64 ((k : Int) + 1) = true := inR64_mk (by omega)
  have k5 : Sx.inB (k : Int) us.length = true := inB_mk ⟨by omega, by omega⟩
  have k6 := decide_eq_true (show ((k : Nat) : Int).toNat < us.length by omega)
  simp only [k1, k2, k3, k4, k5, k6, bro_true]
  show _ = bro (naP (elP ts k) (elP us k)) _ _
  unfold naP
  cases ((elP ts (k : Int)).1 != (elP us (k : Int)).1) with
  | true => rfl
  | false => cases (!(elP ts (k : Int)).2.1.toList == (elP us (k : Int)).2.1.toList) with
    | true => rfl
    | false => cases (!(elP ts (k : Int)).2.2.1 == (elP us (k : Int)).2.2.1) with
      | true => rfl
      | false => cases (!(elP ts (k : Int)).2.2.2.1 == (elP us (k : Int)).2.2.2.1) with
        | true => rfl
        | false => cases (!(elP ts (k : Int)).2.2.2.2.2) <;> rfl
theorem al_end : (alR o1 f1 o2 f2 mp rp mk rk ts us (ts.length : Int)).get = some (.exit 0, alSt o1 f1 o2 f2 mp rp mk rk ts us (ts.length : Int) false) := by
  rw [al_tree, decide_eq_false (Int.lt_irrefl _)]; rfl
end
def alLoop : LoopFn C27 := fun li => match li with
  | ⟨[.h 0, .h 1, .raw (.int .i64 (.ofNat 0)), .raw (.bool false)], 4, [.box [.raw (.int .i64 mp), .raw (.bool rp), .h 2] 27, .box [.raw (.int .i64 mk), .raw (.bool rk), .h 3] 27, .sl o1 f1 46 ts, .sl o2 f2 46 us]⟩ =>
    .br (decide (ts.length ≤ 100000 ∧ us.length = ts.length)) (.br (noneP (naL ts us) ts.length) (.leaf (.exit 0, alSt o1 f1 o2 f2 mp rp mk rk ts us (ts.length : Int) false)) (.leaf (.ret, alSt o1 f1 o2 f2 mp rp mk rk ts us (fstP (naL ts us) ts.length : Int) false))) .fail
  | _ => .fail
theorem al_loop : loopOf Try.prog 23 0 = some (((loopOf Try.prog 23 0).get!).1, (loopOf Try.prog 23 0).get!.2) := by kernel_rfl
theorem alLoop_ok : ∀ tm hp n x, (loopS alSl [] alLoop tm hp n).get = some x → InLoop Try.prog ((loopOf Try.prog 23 0).get!).1 (loopOf Try.prog 23 0).get!.2 tm hp n fun e tm hp n => (e, tm, hp, n) = x := loopS_of fun li r h => by
  unfold alLoop at h
  split at h
  · rename_i mp rp mk rk o1 f1 ts o2 f2 us
    obtain ⟨hl, hC⟩ := Tr.get_ask.1 h
    clear h
    change List Pt at ts us
    have hl : ts.length ≤ 100000 ∧ us.length = ts.length := of_decide_eq_true hl
    have hr : r.2.2 = (alSt o1 f1 o2 f2 mp rp mk rk ts us 0 false).2 := by
      rcases Tr.get_br.1 hC with ⟨_, hD⟩ | ⟨_, hD⟩ <;> (simp only [Tr.get, Option.some.injEq] at hD; subst hD; rfl)
    refine ⟨by rw [hr]; exact Keeps.of (Nat.le_refl 4) rfl (fun o ho => by cases ho), ?_⟩
    exact scan_li (n := ts.length) (stN := fun k => alSt o1 f1 o2 f2 mp rp mk rk ts us (k : Int) false) (stR := fun k => alSt o1 f1 o2 f2 mp rp mk rk ts us (k : Int) false) (p := naL ts us) (d := 10) (unr := fun _ _ => 20) plain mixed noSp_ok noLs_ok al_loop (fun k hk => al_round hk hl.2 hl.1) al_end hC
  · cases h
def lsA : LoopT C27 := Sx.addL 23 0 (loopS alSl [] alLoop) noLs
theorem lsA_ok : LoopTOk Try.prog lsA := addL_ok al_loop alLoop_ok noLs_ok
abbrev unA (g b : Nat) : Nat := match g, b with
  | 23, 0 => 0 | _, _ => 20
abbrev fA23 := fnC C27 Try.prog noSp lsA unA 10 23
abbrev fA23n := fnC C27 Try.prog noSp noLs (fun _ _ => 20) 10 23
end
end Go.Proofs.Ytgegagndihffpaa

/-
  Chapter 27: PortsKnow: alike as a specification. Own work; nothing here is trusted.
-/
namespace Go.Proofs.Ytgegagndihffpaa
open Go Go.Sx Go.RowKit
set_option maxRecDepth 1000000
set_option maxHeartbeats 8000000
set_option linter.unusedVariables false
set_option linter.unusedSimpArgs false
noncomputable section
theorem ali_tree (f1 f2 : Bool) (mp : Int) (rp : Bool) (mk : Int) (rk : Bool) (ts us : List Pt) : (fA23 [pA mp rp (.h 0), pA mk rk (.h 1)] [.sl false f1 46 ts, .sl false f2 46 us]).get =
  bro ((↑ts.length : Int) != (↑us.length : Int)) (some (SV.raw (Value.bool false), [])) (bro (decide (ts.length ≤ (100000 : Nat) ∧ us.length = ts.length)) (bro (noneP (naL ts us) ts.length) (some (SV.raw (Value.bool true), [])) (some (SV.raw (Value.bool false), []))) (none)) := by kernel_rfl
theorem ali_treeN (f1 : Bool) (mp : Int) (rp : Bool) (mk : Int) (rk : Bool) (ts : List Pt) : (fA23n [pA mp rp (.h 0), pA mk rk nlS] [.sl false f1 46 ts]).get =
  bro ((↑ts.length : Int) != (↑(0 : Nat) : Int)) (some (SV.raw (Value.bool false), [])) (bro (decide ((0 : Int) < (↑ts.length : Int))) (bro (inB (0 : Int) ts.length) (bro (decide (Int.toNat (0 : Int) < ts.length)) (none) (none)) (none)) (some (SV.raw (Value.bool true), []))) := by kernel_rfl
theorem ali_treeNN (mp : Int) (rp : Bool) (mk : Int) (rk : Bool) : (fA23n [pA mp rp nlS, pA mk rk nlS] []).get =
  some (SV.raw (Value.bool true), []) := by kernel_rfl

def aliB (ts us : List Pt) : Bool := sel (decide (us.length = ts.length)) (noneP (naL ts us) ts.length) false
def noPt (ts : List Pt) : Bool := match ts with
  | [] => true
  | _ => false
def alikeT : FnF C27 := fun args os => match args, os with
  | [.agg [.raw (.int .i64 mp), .raw (.bool rp), .h 0], .agg [.raw (.int .i64 mk), .raw (.bool rk), .h 1]], [.sl false f1 46 ts, .sl false f2 46 us] => .br (decide (ts.length ≤ 300)) (.leaf (.raw (.bool (aliB ts us)), [])) .fail
  | [.agg [.raw (.int .i64 mp), .raw (.bool rp), .h 0], .agg [.raw (.int .i64 mk), .raw (.bool rk), .raw (.slice none 0 0)]], [.sl false f1 46 ts] => .leaf (.raw (.bool (noPt ts)), [])
  | [.agg [.raw (.int .i64 mp), .raw (.bool rp), .raw (.slice none 0 0)], .agg [.raw (.int .i64 mk), .raw (.bool rk), .raw (.slice none 0 0)]], [] => .leaf (.raw (.bool true), [])
  | _, _ => .fail
theorem alikeT_ok : ∀ args os r, (alikeT args os).get = some r → Fn0 Try.prog 23 args os r := fun args os r h => by
  unfold alikeT at h
  split at h
  · rename_i mp rp mk rk f1 ts f2 us
    obtain ⟨hl, h2⟩ := Tr.get_ask.1 h
    change List Pt at ts us
    have hl : ts.length ≤ 300 := of_decide_eq_true hl
    refine fnC_ok (sp := noSp) (ls := lsA) (unr := unA) (d := 10) plain mixed noSp_ok lsA_ok ?_
    refine (ali_tree f1 f2 mp rp mk rk ts us).trans (Eq.trans ?_ h2)
    show _ = some (SV.raw (Value.bool (aliB ts us)), [])
    unfold aliB
    by_cases he : us.length = ts.length
    · rw [show ((ts.length : Int) != (us.length : Int)) = false by rw [he]; exact bne_self_eq_false _, decide_eq_true he, decide_eq_true (show ts.length ≤ 100000 ∧ us.length = ts.length from ⟨by omega, he⟩)]
      cases noneP (naL ts us) ts.length <;> rfl
    · rw [show ((ts.length : Int) != (us.length : Int)) = true from bne_iff_ne.2 (by omega), decide_eq_false he]
      rfl
  · rename_i mp rp mk rk f1 ts
    change List Pt at ts
    simp only [Tr.get, Option.some.injEq] at h
    subst h
    refine fnC_ok (sp := noSp) (ls := noLs) (unr := fun _ _ => 20) (d := 10) plain mixed noSp_ok noLs_ok ?_
    refine (ali_treeN f1 mp rp mk rk ts).trans ?_
    cases ts with
    | nil => rfl
    | cons x r => rw [show (((x :: r).length : Int) != ((0 : Nat) : Int)) = true from bne_iff_ne.2 (by simp only [List.length_cons]; omega)]; rfl
  · rename_i mp rp mk rk
    simp only [Tr.get, Option.some.injEq] at h
    subst h
    exact fnC_ok (sp := noSp) (ls := noLs) (unr := fun _ _ => 20) (d := 10) plain mixed noSp_ok noLs_ok (ali_treeNN mp rp mk rk)
  · cases h
end
end Go.Proofs.Ytgegagndihffpaa

/-
  Chapter 27: PortsKnow: Know and Guest on no ports at all. Own work; nothing here is trusted.
-/
namespace Go.Proofs.Ytgegagndihffpaa
open Go Go.Sx Go.RowKit
set_option maxRecDepth 1000000
set_option maxHeartbeats 8000000
set_option linter.unusedVariables false
set_option linter.unusedSimpArgs false
noncomputable section
theorem know_treeN (f2 : Bool) (most : Int) (rdy : Bool) (a b c : Int) (s : ByteArray) : (fnC C27 Try.prog (addS 14 (seeS bytT) noSp) noLs (fun _ _ => 20) 20 24 [pA most rdy nlS, .h 0] [.sl false f2 38 [(a, b, c, s)]]).get =
  bro (decide (most < (1 : Int))) (some (SV.agg [SV.raw (Value.int IntKind.i64 most), SV.raw (Value.bool rdy), SV.raw (Value.slice none (0 : Nat) (0 : Nat))], [])) (bro (decide ((32 : Int) < most)) (some (SV.agg [SV.raw (Value.int IntKind.i64 most), SV.raw (Value.bool rdy), SV.raw (Value.slice none (0 : Nat) (0 : Nat))], [])) (bro (okM b s) (bro (inR64 a) (bro (b == (1 : Int)) (bro (decide (a % (18446744073709551616 : Int) < most % (18446744073709551616 : Int))) (bro (inR64 a) (some (SV.agg [SV.raw (Value.int IntKind.i64 most), SV.raw (Value.bool rdy), SV.h (1 : Nat)], [SO.sl true false (46 : Nat) [(a, ByteArray.empty, false, false, false, false)]])) (some (SV.agg [SV.raw (Value.int IntKind.i64 most), SV.raw (Value.bool rdy), SV.h (1 : Nat)], [SO.sl true false (46 : Nat) [(IntKind.i64.wrap a, ByteArray.empty, false, false, false, false)]]))) (some (SV.agg [SV.raw (Value.int IntKind.i64 most), SV.raw (Value.bool rdy), SV.raw (Value.slice none (0 : Nat) (0 : Nat))], []))) (some (SV.agg [SV.raw (Value.int IntKind.i64 most), SV.raw (Value.bool rdy), SV.raw (Value.slice none (0 : Nat) (0 : Nat))], []))) (bro (b == (1 : Int)) (bro (decide (a % (18446744073709551616 : Int) < most % (18446744073709551616 : Int))) (bro (inR64 a) (some (SV.agg [SV.raw (Value.int IntKind.i64 most), SV.raw (Value.bool rdy), SV.h (1 : Nat)], [SO.sl true false (46 : Nat) [(a, ByteArray.empty, false, false, false, false)]])) (some (SV.agg [SV.raw (Value.int IntKind.i64 most), SV.raw (Value.bool rdy), SV.h (1 : Nat)], [SO.sl true false (46 : Nat) [(IntKind.i64.wrap a, ByteArray.empty, false, false, false, false)]]))) (some (SV.agg [SV.raw (Value.int IntKind.i64 most), SV.raw (Value.bool rdy), SV.raw (Value.slice none (0 : Nat) (0 : Nat))], []))) (some (SV.agg [SV.raw (Value.int IntKind.i64 most), SV.raw (Value.bool rdy), SV.raw (Value.slice none (0 : Nat) (0 : Nat))], [])))) (some (SV.agg [SV.raw (Value.int IntKind.i64 most), SV.raw (Value.bool rdy), SV.raw (Value.slice none (0 : Nat) (0 : Nat))], [])))) := by kernel_rfl
theorem know_treeNN (most : Int) (rdy : Bool) : (fnC C27 Try.prog noSp noLs (fun _ _ => 20) 20 24 [pA most rdy nlS, nlS] []).get =
  bro (decide (most < (1 : Int))) (some (SV.agg [SV.raw (Value.int IntKind.i64 most), SV.raw (Value.bool rdy), SV.raw (Value.slice none (0 : Nat) (0 : Nat))], [])) (bro (decide ((32 : Int) < most)) (some (SV.agg [SV.raw (Value.int IntKind.i64 most), SV.raw (Value.bool rdy), SV.raw (Value.slice none (0 : Nat) (0 : Nat))], [])) (some (SV.agg [SV.raw (Value.int IntKind.i64 most), SV.raw (Value.bool rdy), SV.raw (Value.slice none (0 : Nat) (0 : Nat))], []))) := by kernel_rfl
theorem guest_treeN (most : Int) (s : ByteArray) : (fnC C27 Try.prog (addS 14 (seeS bytT) noSp) noLs (fun _ _ => 20) 20 18 [pA most false nlS, .agg [.raw (.int .u32 0), .raw (.int .u16 0), .raw (.int .u16 1), .raw (.string s)]] []).get =
  bro (okM (0 : Int) s) (bro (decide (most < (1 : Int))) (some (SV.tup [SV.agg [SV.raw (Value.int IntKind.i64 most), SV.raw (Value.bool false), SV.raw (Value.slice none (0 : Nat) (0 : Nat))], SV.raw (Value.slice none (0 : Nat) (0 : Nat))], [])) (bro (decide ((32 : Int) < most)) (some (SV.tup [SV.agg [SV.raw (Value.int IntKind.i64 most), SV.raw (Value.bool false), SV.raw (Value.slice none (0 : Nat) (0 : Nat))], SV.raw (Value.slice none (0 : Nat) (0 : Nat))], [])) (some (SV.tup [SV.agg [SV.raw (Value.int IntKind.i64 most), SV.raw (Value.bool true), SV.raw (Value.slice none (0 : Nat) (0 : Nat))], SV.raw (Value.slice none (0 : Nat) (0 : Nat))], [])))) (some (SV.tup [SV.agg [SV.raw (Value.int IntKind.i64 most), SV.raw (Value.bool false), SV.raw (Value.slice none (0 : Nat) (0 : Nat))], SV.raw (Value.slice none (0 : Nat) (0 : Nat))], [])) := by kernel_rfl

def inMost (most : Int) : Bool := decide (1 ≤ most ∧ most ≤ 32)
def nilK (most : Int) (m : Mg) : Bool := inMost most && (okM m.2.1 m.2.2.2 && (m.2.1 == 1 && (decide (m.1 % 18446744073709551616 < most % 18446744073709551616) && inR64 m.1)))
abbrev freshE (m : Mg) : Pt := (m.1, ByteArray.empty, false, false, false, false)
def knowU : FnF C27 := fun args os => match args, os with
  | [.agg [.raw (.int .i64 most), .raw (.bool rdy), .raw (.slice none 0 0)], .h 0], [.sl false f2 38 [m]] => .br (nilK most m) (.leaf (.agg [.raw (.int .i64 most), .raw (.bool rdy), .h 1], [.sl true false 46 [freshE m]])) .fail
  | [.agg [.raw (.int .i64 most), .raw (.bool rdy), .raw (.slice none 0 0)], .raw (.slice none 0 0)], [] => .leaf (.agg [.raw (.int .i64 most), .raw (.bool rdy), .raw (.slice none 0 0)], [])
  | args, os => knowT args os
theorem knowU_ok : ∀ args os r, (knowU args os).get = some r → Fn0 Try.prog 24 args os r := fun args os r h => by
  unfold knowU at h
  split at h
  · rename_i most rdy f2 m
    obtain ⟨hl, h2⟩ := Tr.get_ask.1 h
    obtain ⟨a, b, c, s⟩ := m
    unfold nilK inMost at hl
    simp only [Bool.and_eq_true] at hl
    obtain ⟨hm, h3, h4, h5, h6⟩ := hl
    have hm : 1 ≤ most ∧ most ≤ 32 := of_decide_eq_true hm
    refine fnC_ok (sp := addS 14 (seeS bytT) noSp) (ls := noLs) (unr := fun _ _ => 20) (d := 20) plain mixed (addS_ok (seeS_ok bytT_ok) noSp_ok) noLs_ok ?_
    refine (know_treeN f2 most rdy a b c s).trans (Eq.trans ?_ h2)
    rw [decide_eq_false (show ¬ most < 1 by omega), decide_eq_false (show ¬ (32 : Int) < most by omega), h3, h6, h4, h5]
    rfl
  · rename_i most rdy
    simp only [Tr.get, Option.some.injEq] at h
    subst h
    refine fnC_ok (sp := noSp) (ls := noLs) (unr := fun _ _ => 20) (d := 20) plain mixed noSp_ok noLs_ok ?_
    refine (know_treeNN most rdy).trans ?_
    cases decide (most < 1) <;> cases decide ((32 : Int) < most) <;> rfl
  · exact knowT_ok _ _ _ h
def nilG (most : Int) (r0 : Bool) (m : Mg) : Bool := (!r0 && (m.1 == 0 && (m.2.1 == 0 && m.2.2.1 == 1))) && (inMost most && okM 0 m.2.2.2)
def guestU : FnF C27 := fun args os => match args, os with
  | [.agg [.raw (.int .i64 most), .raw (.bool r0), .raw (.slice none 0 0)], .agg [.raw (.int .u32 a), .raw (.int .u16 b), .raw (.int .u16 c), .raw (.string s)]], [] => .br (nilG most r0 (a, b, c, s)) (.leaf (.tup [.agg [.raw (.int .i64 most), .raw (.bool true), .raw (.slice none 0 0)], .raw (.slice none 0 0)], [])) .fail
  | args, os => guestT args os
theorem guestU_ok : ∀ args os r, (guestU args os).get = some r → Fn0 Try.prog 18 args os r := fun args os r h => by
  unfold guestU at h
  split at h
  · rename_i most r0 a b c s
    obtain ⟨hl, h2⟩ := Tr.get_ask.1 h
    unfold nilG at hl
    rw [Bool.and_eq_true] at hl
    obtain ⟨h0, hl⟩ := hl
    simp only [Bool.and_eq_true, Bool.not_eq_true', beq_iff_eq] at h0
    obtain ⟨rfl, rfl, rfl, rfl⟩ := h0
    rw [Bool.and_eq_true] at hl
    have hm : 1 ≤ most ∧ most ≤ 32 := of_decide_eq_true hl.1
    refine fnC_ok (sp := addS 14 (seeS bytT) noSp) (ls := noLs) (unr := fun _ _ => 20) (d := 20) plain mixed (addS_ok (seeS_ok bytT_ok) noSp_ok) noLs_ok ?_
    refine (guest_treeN most s).trans (Eq.trans ?_ h2)
    rw [decide_eq_false (show ¬ most < 1 by omega), decide_eq_false (show ¬ (32 : Int) < most by omega), hl.2]
    rfl
  · exact guestT_ok _ _ _ h
end
end Go.Proofs.Ytgegagndihffpaa

/-
  Chapter 27: PortsKnow: heard, states of its loop. Own work; nothing here is trusted.
-/
namespace Go.Proofs.Ytgegagndihffpaa
open Go Go.Sx Go.RowKit
set_option maxRecDepth 1000000
set_option maxHeartbeats 8000000
set_option linter.unusedVariables false
noncomputable section
def sfH : SpecT C27 := addS 24 (seeS knowU) (addS 18 (seeS guestU) noSp)
theorem sfH_ok : SpecTOk Try.prog sfH := addS_ok (seeS_ok knowU_ok) (addS_ok (seeS_ok guestU_ok) noSp_ok)
abbrev hSl : List Nat := [3, 4, 2, 8, 6, 7]
abbrev zB : SO C27 := .box [.raw (.int .i64 0), .raw (.bool false), .raw (.slice none 0 0)] 27
abbrev pB (m : Int) (r : Bool) (x : SV) : SO C27 := .box [.raw (.int .i64 m), .raw (.bool r), x] 27
abbrev hV (K : Int) : List SV := [.h 0, .h 1, .h 2, .raw (.int .i64 K), .h 3, .h 4]
/-- Nothing heard yet; the driver knows a list, or has none. -/
abbrev hA (f : Bool) (ms : List Mg) (fp : Bool) (mp : Int) (rp : Bool) (ts : List Pt) (fk : Bool) (mk : Int) (rk : Bool) (us : List Pt) (K : Int) : List SV × List (SO C27) := (hV K, [pB mp rp (.h 5), pB mk rk (.h 6), .sl true f 38 ms, zB, zB, .sl true fp 46 ts, .sl true fk 46 us])
abbrev hN (f : Bool) (ms : List Mg) (fp : Bool) (mp : Int) (rp : Bool) (ts : List Pt) (mk : Int) (rk : Bool) (K : Int) : List SV × List (SO C27) := (hV K, [pB mp rp (.h 5), pB mk rk (.raw (.slice none 0 0)), .sl true f 38 ms, zB, zB, .sl true fp 46 ts])
/-- What the driver knows is another list. -/
abbrev hB (f : Bool) (ms : List Mg) (fp : Bool) (mp : Int) (rp : Bool) (ts : List Pt) (fk : Bool) (mk : Int) (rk : Bool) (us us' : List Pt) (K : Int) : List SV × List (SO C27) := (hV K, [pB mp rp (.h 5), pB mk rk (.h 7), .sl true f 38 ms, zB, zB, .sl true fp 46 ts, .sl true fk 46 us, .sl true false 46 us'])
/-- The ports are another list, too. -/
abbrev hC (f : Bool) (ms : List Mg) (fp : Bool) (mp : Int) (rp : Bool) (ts : List Pt) (fk : Bool) (mk : Int) (rk : Bool) (us ts' us' : List Pt) (K : Int) : List SV × List (SO C27) := (hV K, [pB mp rp (.h 7), pB mk rk (.h 8), .sl true f 38 ms, zB, zB, .sl true fp 46 ts, .sl true fk 46 us, .sl true false 46 ts', .sl true false 46 us'])
abbrev hM (f : Bool) (ms : List Mg) (fp : Bool) (mp : Int) (rp : Bool) (ts : List Pt) (mk : Int) (rk : Bool) (ts' us' : List Pt) (K : Int) : List SV × List (SO C27) := (hV K, [pB mp rp (.h 6), pB mk rk (.h 7), .sl true f 38 ms, zB, zB, .sl true fp 46 ts, .sl true false 46 ts', .sl true false 46 us'])
/-- What Guest makes of the answer to a port that was told. -/
def hG (mp : Int) (rp : Bool) (ts : List Pt) (m : Mg) : Bool × List Pt × Option (List Mg) := guestR mp rp ts (m.1, 3, 1, ByteArray.empty)
abbrev hRd (nb : Nat) (s : List SV × List (SO C27)) := roundG C27 Try.prog sfH noLs (fun _ _ => 20) 10 22 0 hSl ⟨s.1, nb, s.2⟩
end
end Go.Proofs.Ytgegagndihffpaa

/-
  Chapter 27: PortsKnow: heard, ways through a round. Own work; nothing here is trusted.
-/
namespace Go.Proofs.Ytgegagndihffpaa
open Go Go.Sx Go.RowKit
set_option maxRecDepth 1000000
set_option maxHeartbeats 8000000
set_option linter.unusedVariables false
noncomputable section

theorem hA_end (f : Bool) (ms : List Mg) (fp : Bool) (mp : Int) (rp : Bool) (ts : List Pt) (fk : Bool) (mk : Int) (rk : Bool) (us : List Pt) (K : Int) : Tr.follow [false, false, false, false] (hRd 7 (hA f ms fp mp rp ts fk mk rk us K)) =
  some ([decide (K < (↑ms.length : Int)),
  false,
  false,
  false],
  (.exit 0, hA f ms fp mp rp ts fk mk rk us K)) := by kernel_rfl
theorem hA_o (f : Bool) (ms : List Mg) (fp : Bool) (mp : Int) (rp : Bool) (ts : List Pt) (fk : Bool) (mk : Int) (rk : Bool) (us : List Pt) (K : Int) : Tr.follow [true, true, true, true, true, true, true, true, false, true] (hRd 7 (hA f ms fp mp rp ts fk mk rk us K)) =
  some ([decide (K < (↑ms.length : Int)),
  true,
  decide (K < (200 : Int)),
  inB K ms.length,
  decide (K.toNat < ms.length),
  smallK us [(elM ms K)],
  inB K ms.length,
  decide (K.toNat < ms.length),
  (elM ms K).snd.fst == (1 : Int),
  inR64 (K + (1 : Int))],
  (.normal, hB f ms fp mp rp ts fk mk rk us (knowAll mk rk us [elM ms K]) (K + 1))) := by kernel_rfl
theorem hA_s (f : Bool) (ms : List Mg) (fp : Bool) (mp : Int) (rp : Bool) (ts : List Pt) (fk : Bool) (mk : Int) (rk : Bool) (us : List Pt) (K : Int) : Tr.follow [true, true, true, true, true, true, true, true, true, true, true, true, true, true, true] (hRd 7 (hA f ms fp mp rp ts fk mk rk us K)) =
  some ([decide (K < (↑ms.length : Int)),
  true,
  decide (K < (200 : Int)),
  inB K ms.length,
  decide (K.toNat < ms.length),
  smallK us [(elM ms K)],
  inB K ms.length,
  decide (K.toNat < ms.length),
  (elM ms K).snd.fst == (1 : Int),
  inB K ms.length,
  decide (K.toNat < ms.length),
  decide (ts.length ≤ (300 : Nat)) && inR64 (elM ms K).fst,
  (hG mp rp ts (elM ms K)).snd.snd.isSome,
  smallK (knowAll mk rk us [(elM ms K)]) ((hG mp rp ts (elM ms K)).snd.snd.getD []),
  inR64 (K + (1 : Int))],
  (.normal, hC f ms fp mp (hG mp rp ts (elM ms K)).1 ts fk mk rk us (hG mp rp ts (elM ms K)).2.1 (knowAll mk rk (knowAll mk rk us [elM ms K]) ((hG mp rp ts (elM ms K)).2.2.getD [])) (K + 1))) := by kernel_rfl
theorem hA_n (f : Bool) (ms : List Mg) (fp : Bool) (mp : Int) (rp : Bool) (ts : List Pt) (fk : Bool) (mk : Int) (rk : Bool) (us : List Pt) (K : Int) : Tr.follow [true, true, true, true, true, true, true, true, true, true, true, true, false, true, true] (hRd 7 (hA f ms fp mp rp ts fk mk rk us K)) =
  some ([decide (K < (↑ms.length : Int)),
  true,
  decide (K < (200 : Int)),
  inB K ms.length,
  decide (K.toNat < ms.length),
  smallK us [(elM ms K)],
  inB K ms.length,
  decide (K.toNat < ms.length),
  (elM ms K).snd.fst == (1 : Int),
  inB K ms.length,
  decide (K.toNat < ms.length),
  decide (ts.length ≤ (300 : Nat)) && inR64 (elM ms K).fst,
  (hG mp rp ts (elM ms K)).snd.snd.isSome,
  decide ((knowAll mk rk us [(elM ms K)]).length ≤ (100000 : Nat)),
  inR64 (K + (1 : Int))],
  (.normal, hC f ms fp mp (hG mp rp ts (elM ms K)).1 ts fk mk rk us (hG mp rp ts (elM ms K)).2.1 (knowAll mk rk us [elM ms K]) (K + 1))) := by kernel_rfl
theorem hN_end (f : Bool) (ms : List Mg) (fp : Bool) (mp : Int) (rp : Bool) (ts : List Pt) (mk : Int) (rk : Bool) (K : Int) : Tr.follow [false, false, false, false] (hRd 6 (hN f ms fp mp rp ts mk rk K)) =
  some ([decide (K < (↑ms.length : Int)),
  false,
  false,
  false],
  (.exit 0, hN f ms fp mp rp ts mk rk K)) := by kernel_rfl
theorem hN_s (f : Bool) (ms : List Mg) (fp : Bool) (mp : Int) (rp : Bool) (ts : List Pt) (mk : Int) (rk : Bool) (K : Int) : Tr.follow [true, true, true, true, true, true, true, true, true, true, true, true, true, true, true] (hRd 6 (hN f ms fp mp rp ts mk rk K)) =
  some ([decide (K < (↑ms.length : Int)),
  true,
  decide (K < (200 : Int)),
  inB K ms.length,
  decide (K.toNat < ms.length),
  nilK mk (elM ms K),
  inB K ms.length,
  decide (K.toNat < ms.length),
  (elM ms K).snd.fst == (1 : Int),
  inB K ms.length,
  decide (K.toNat < ms.length),
  decide (ts.length ≤ (300 : Nat)) && inR64 (elM ms K).fst,
  (hG mp rp ts (elM ms K)).snd.snd.isSome,
  smallK [freshE (elM ms K)] ((hG mp rp ts (elM ms K)).snd.snd.getD []),
  inR64 (K + (1 : Int))],
  (.normal, hM f ms fp mp (hG mp rp ts (elM ms K)).1 ts mk rk (hG mp rp ts (elM ms K)).2.1 (knowAll mk rk [freshE (elM ms K)] ((hG mp rp ts (elM ms K)).2.2.getD [])) (K + 1))) := by kernel_rfl
theorem hN_n (f : Bool) (ms : List Mg) (fp : Bool) (mp : Int) (rp : Bool) (ts : List Pt) (mk : Int) (rk : Bool) (K : Int) : Tr.follow [true, true, true, true, true, true, true, true, true, true, true, true, false, true, true] (hRd 6 (hN f ms fp mp rp ts mk rk K)) =
  some ([decide (K < (↑ms.length : Int)),
  true,
  decide (K < (200 : Int)),
  inB K ms.length,
  decide (K.toNat < ms.length),
  nilK mk (elM ms K),
  inB K ms.length,
  decide (K.toNat < ms.length),
  (elM ms K).snd.fst == (1 : Int),
  inB K ms.length,
  decide (K.toNat < ms.length),
  decide (ts.length ≤ (300 : Nat)) && inR64 (elM ms K).fst,
  (hG mp rp ts (elM ms K)).snd.snd.isSome,
  true,
  inR64 (K + (1 : Int))],
  (.normal, hM f ms fp mp (hG mp rp ts (elM ms K)).1 ts mk rk (hG mp rp ts (elM ms K)).2.1 [freshE (elM ms K)] (K + 1))) := by kernel_rfl
theorem hB_end (f : Bool) (ms : List Mg) (fp : Bool) (mp : Int) (rp : Bool) (ts : List Pt) (fk : Bool) (mk : Int) (rk : Bool) (us us' : List Pt) (K : Int) : Tr.follow [false, false, false, false] (hRd 7 (hB f ms fp mp rp ts fk mk rk us us' K)) =
  some ([decide (K < (↑ms.length : Int)),
  false,
  false,
  false],
  (.exit 0, hB f ms fp mp rp ts fk mk rk us us' K)) := by kernel_rfl
theorem hB_o (f : Bool) (ms : List Mg) (fp : Bool) (mp : Int) (rp : Bool) (ts : List Pt) (fk : Bool) (mk : Int) (rk : Bool) (us us' : List Pt) (K : Int) : Tr.follow [true, true, true, true, true, true, true, true, false, true] (hRd 7 (hB f ms fp mp rp ts fk mk rk us us' K)) =
  some ([decide (K < (↑ms.length : Int)),
  true,
  decide (K < (200 : Int)),
  inB K ms.length,
  decide (K.toNat < ms.length),
  smallK us' [(elM ms K)],
  inB K ms.length,
  decide (K.toNat < ms.length),
  (elM ms K).snd.fst == (1 : Int),
  inR64 (K + (1 : Int))],
  (.normal, hB f ms fp mp rp ts fk mk rk us (knowAll mk rk us' [elM ms K]) (K + 1))) := by kernel_rfl
theorem hB_s (f : Bool) (ms : List Mg) (fp : Bool) (mp : Int) (rp : Bool) (ts : List Pt) (fk : Bool) (mk : Int) (rk : Bool) (us us' : List Pt) (K : Int) : Tr.follow [true, true, true, true, true, true, true, true, true, true, true, true, true, true, true] (hRd 7 (hB f ms fp mp rp ts fk mk rk us us' K)) =
  some ([decide (K < (↑ms.length : Int)),
  true,
  decide (K < (200 : Int)),
  inB K ms.length,
  decide (K.toNat < ms.length),
  smallK us' [(elM ms K)],
  inB K ms.length,
  decide (K.toNat < ms.length),
  (elM ms K).snd.fst == (1 : Int),
  inB K ms.length,
  decide (K.toNat < ms.length),
  decide (ts.length ≤ (300 : Nat)) && inR64 (elM ms K).fst,
  (hG mp rp ts (elM ms K)).snd.snd.isSome,
  smallK (knowAll mk rk us' [(elM ms K)]) ((hG mp rp ts (elM ms K)).snd.snd.getD []),
  inR64 (K + (1 : Int))],
  (.normal, hC f ms fp mp (hG mp rp ts (elM ms K)).1 ts fk mk rk us (hG mp rp ts (elM ms K)).2.1 (knowAll mk rk (knowAll mk rk us' [elM ms K]) ((hG mp rp ts (elM ms K)).2.2.getD [])) (K + 1))) := by kernel_rfl
theorem hB_n (f : Bool) (ms : List Mg) (fp : Bool) (mp : Int) (rp : Bool) (ts : List Pt) (fk : Bool) (mk : Int) (rk : Bool) (us us' : List Pt) (K : Int) : Tr.follow [true, true, true, true, true, true, true, true, true, true, true, true, false, true, true] (hRd 7 (hB f ms fp mp rp ts fk mk rk us us' K)) =
  some ([decide (K < (↑ms.length : Int)),
  true,
  decide (K < (200 : Int)),
  inB K ms.length,
  decide (K.toNat < ms.length),
  smallK us' [(elM ms K)],
  inB K ms.length,
  decide (K.toNat < ms.length),
  (elM ms K).snd.fst == (1 : Int),
  inB K ms.length,
  decide (K.toNat < ms.length),
  decide (ts.length ≤ (300 : Nat)) && inR64 (elM ms K).fst,
  (hG mp rp ts (elM ms K)).snd.snd.isSome,
  decide ((knowAll mk rk us' [(elM ms K)]).length ≤ (100000 : Nat)),
  inR64 (K + (1 : Int))],
  (.normal, hC f ms fp mp (hG mp rp ts (elM ms K)).1 ts fk mk rk us (hG mp rp ts (elM ms K)).2.1 (knowAll mk rk us' [elM ms K]) (K + 1))) := by kernel_rfl
theorem hC_end (f : Bool) (ms : List Mg) (fp : Bool) (mp : Int) (rp : Bool) (ts : List Pt) (fk : Bool) (mk : Int) (rk : Bool) (us ts' us' : List Pt) (K : Int) : Tr.follow [false, false, false, false] (hRd 7 (hC f ms fp mp rp ts fk mk rk us ts' us' K)) =
  some ([decide (K < (↑ms.length : Int)),
  false,
  false,
  false],
  (.exit 0, hC f ms fp mp rp ts fk mk rk us ts' us' K)) := by kernel_rfl
theorem hC_o (f : Bool) (ms : List Mg) (fp : Bool) (mp : Int) (rp : Bool) (ts : List Pt) (fk : Bool) (mk : Int) (rk : Bool) (us ts' us' : List Pt) (K : Int) : Tr.follow [true, true, true, true, true, true, true, true, false, true] (hRd 7 (hC f ms fp mp rp ts fk mk rk us ts' us' K)) =
  some ([decide (K < (↑ms.length : Int)),
  true,
  decide (K < (200 : Int)),
  inB K ms.length,
  decide (K.toNat < ms.length),
  smallK us' [(elM ms K)],
  inB K ms.length,
  decide (K.toNat < ms.length),
  (elM ms K).snd.fst == (1 : Int),
  inR64 (K + (1 : Int))],
  (.normal, hC f ms fp mp rp ts fk mk rk us ts' (knowAll mk rk us' [elM ms K]) (K + 1))) := by kernel_rfl
theorem hC_s (f : Bool) (ms : List Mg) (fp : Bool) (mp : Int) (rp : Bool) (ts : List Pt) (fk : Bool) (mk : Int) (rk : Bool) (us ts' us' : List Pt) (K : Int) : Tr.follow [true, true, true, true, true, true, true, true, true, true, true, true, true, true, true] (hRd 7 (hC f ms fp mp rp ts fk mk rk us ts' us' K)) =
  some ([decide (K < (↑ms.length : Int)),
  true,
  decide (K < (200 : Int)),
  inB K ms.length,
  decide (K.toNat < ms.length),
  smallK us' [(elM ms K)],
  inB K ms.length,
  decide (K.toNat < ms.length),
  (elM ms K).snd.fst == (1 : Int),
  inB K ms.length,
  decide (K.toNat < ms.length),
  decide (ts'.length ≤ (300 : Nat)) && inR64 (elM ms K).fst,
  (hG mp rp ts' (elM ms K)).snd.snd.isSome,
  smallK (knowAll mk rk us' [(elM ms K)]) ((hG mp rp ts' (elM ms K)).snd.snd.getD []),
  inR64 (K + (1 : Int))],
  (.normal, hC f ms fp mp (hG mp rp ts' (elM ms K)).1 ts fk mk rk us (hG mp rp ts' (elM ms K)).2.1 (knowAll mk rk (knowAll mk rk us' [elM ms K]) ((hG mp rp ts' (elM ms K)).2.2.getD [])) (K + 1))) := by kernel_rfl
theorem hC_n (f : Bool) (ms : List Mg) (fp : Bool) (mp : Int) (rp : Bool) (ts : List Pt) (fk : Bool) (mk : Int) (rk : Bool) (us ts' us' : List Pt) (K : Int) : Tr.follow [true, true, true, true, true, true, true, true, true, true, true, true, false, true, true] (hRd 7 (hC f ms fp mp rp ts fk mk rk us ts' us' K)) =
  some ([decide (K < (↑ms.length : Int)),
  true,
  decide (K < (200 : Int)),
  inB K ms.length,
  decide (K.toNat < ms.length),
  smallK us' [(elM ms K)],
  inB K ms.length,
  decide (K.toNat < ms.length),
  (elM ms K).snd.fst == (1 : Int),
  inB K ms.length,
  decide (K.toNat < ms.length),
  decide (ts'.length ≤ (300 : Nat)) && inR64 (elM ms K).fst,
  (hG mp rp ts' (elM ms K)).snd.snd.isSome,
  decide ((knowAll mk rk us' [(elM ms K)]).length ≤ (100000 : Nat)),
  inR64 (K + (1 : Int))],
  (.normal, hC f ms fp mp (hG mp rp ts' (elM ms K)).1 ts fk mk rk us (hG mp rp ts' (elM ms K)).2.1 (knowAll mk rk us' [elM ms K]) (K + 1))) := by kernel_rfl
theorem hM_end (f : Bool) (ms : List Mg) (fp : Bool) (mp : Int) (rp : Bool) (ts : List Pt) (mk : Int) (rk : Bool) (ts' us' : List Pt) (K : Int) : Tr.follow [false, false, false, false] (hRd 6 (hM f ms fp mp rp ts mk rk ts' us' K)) =
  some ([decide (K < (↑ms.length : Int)),
  false,
  false,
  false],
  (.exit 0, hM f ms fp mp rp ts mk rk ts' us' K)) := by kernel_rfl
theorem hM_o (f : Bool) (ms : List Mg) (fp : Bool) (mp : Int) (rp : Bool) (ts : List Pt) (mk : Int) (rk : Bool) (ts' us' : List Pt) (K : Int) : Tr.follow [true, true, true, true, true, true, true, true, false, true] (hRd 6 (hM f ms fp mp rp ts mk rk ts' us' K)) =
  some ([decide (K < (↑ms.length : Int)),
  true,
  decide (K < (200 : Int)),
  inB K ms.length,
  decide (K.toNat < ms.length),
  smallK us' [(elM ms K)],
  inB K ms.length,
  decide (K.toNat < ms.length),
  (elM ms K).snd.fst == (1 : Int),
  inR64 (K + (1 : Int))],
  (.normal, hM f ms fp mp rp ts mk rk ts' (knowAll mk rk us' [elM ms K]) (K + 1))) := by kernel_rfl
theorem hM_s (f : Bool) (ms : List Mg) (fp : Bool) (mp : Int) (rp : Bool) (ts : List Pt) (mk : Int) (rk : Bool) (ts' us' : List Pt) (K : Int) : Tr.follow [true, true, true, true, true, true, true, true, true, true, true, true, true, true, true] (hRd 6 (hM f ms fp mp rp ts mk rk ts' us' K)) =
  some ([decide (K < (↑ms.length : Int)),
  true,
  decide (K < (200 : Int)),
  inB K ms.length,
  decide (K.toNat < ms.length),
  smallK us' [(elM ms K)],
  inB K ms.length,
  decide (K.toNat < ms.length),
  (elM ms K).snd.fst == (1 : Int),
  inB K ms.length,
  decide (K.toNat < ms.length),
  decide (ts'.length ≤ (300 : Nat)) && inR64 (elM ms K).fst,
  (hG mp rp ts' (elM ms K)).snd.snd.isSome,
  smallK (knowAll mk rk us' [(elM ms K)]) ((hG mp rp ts' (elM ms K)).snd.snd.getD []),
  inR64 (K + (1 : Int))],
  (.normal, hM f ms fp mp (hG mp rp ts' (elM ms K)).1 ts mk rk (hG mp rp ts' (elM ms K)).2.1 (knowAll mk rk (knowAll mk rk us' [elM ms K]) ((hG mp rp ts' (elM ms K)).2.2.getD [])) (K + 1))) := by kernel_rfl
theorem hM_n (f : Bool) (ms : List Mg) (fp : Bool) (mp : Int) (rp : Bool) (ts : List Pt) (mk : Int) (rk : Bool) (ts' us' : List Pt) (K : Int) : Tr.follow [true, true, true, true, true, true, true, true, true, true, true, true, false, true, true] (hRd 6 (hM f ms fp mp rp ts mk rk ts' us' K)) =
  some ([decide (K < (↑ms.length : Int)),
  true,
  decide (K < (200 : Int)),
  inB K ms.length,
  decide (K.toNat < ms.length),
  smallK us' [(elM ms K)],
  inB K ms.length,
  decide (K.toNat < ms.length),
  (elM ms K).snd.fst == (1 : Int),
  inB K ms.length,
  decide (K.toNat < ms.length),
  decide (ts'.length ≤ (300 : Nat)) && inR64 (elM ms K).fst,
  (hG mp rp ts' (elM ms K)).snd.snd.isSome,
  decide ((knowAll mk rk us' [(elM ms K)]).length ≤ (100000 : Nat)),
  inR64 (K + (1 : Int))],
  (.normal, hM f ms fp mp (hG mp rp ts' (elM ms K)).1 ts mk rk (hG mp rp ts' (elM ms K)).2.1 (knowAll mk rk us' [elM ms K]) (K + 1))) := by kernel_rfl
end
end Go.Proofs.Ytgegagndihffpaa

/-
  Chapter 27: PortsKnow: heard, its loop. Own work; nothing here is trusted.
-/
namespace Go.Proofs.Ytgegagndihffpaa
open Go Go.Sx Go.RowKit
set_option maxRecDepth 1000000
set_option maxHeartbeats 8000000
set_option linter.unusedVariables false
set_option linter.unusedSimpArgs false
noncomputable section
/-- How far it is heard: nothing yet; the driver's list is another one; the ports are, too. -/
inductive HS
  | a
  | b (us : List Pt)
  | c (rp : Bool) (ts us : List Pt)
def hRp (rp0 : Bool) : HS → Bool
  | .c r _ _ => r
  | _ => rp0
def hTs (ts : List Pt) : HS → List Pt
  | .c _ t _ => t
  | _ => ts
def hUs (us : List Pt) : HS → List Pt
  | .a => us
  | .b u => u
  | .c _ _ u => u
abbrev KB := Option (Bool × List Pt)
def kbL (kb : KB) : List Pt := match kb with
  | none => []
  | some x => x.2
section
variable (mp mk : Int) (rk : Bool) (rp0 : Bool) (ts us : List Pt)
def stepS (s : HS) (m : Mg) : HS := match m.2.1 == 1 with
  | true => .c (hG mp (hRp rp0 s) (hTs ts s) m).1 (hG mp (hRp rp0 s) (hTs ts s) m).2.1 (knowAll mk rk (knowAll mk rk (hUs us s) [m]) ((hG mp (hRp rp0 s) (hTs ts s) m).2.2.getD []))
  | false => match s with
    | .c r t u => .c r t (knowAll mk rk u [m])
    | .b u => .b (knowAll mk rk u [m])
    | .a => .b (knowAll mk rk us [m])
def gdS (s : HS) (m : Mg) : Bool := smallK (hUs us s) [m] && ((!(m.2.1 == 1)) || ((decide ((hTs ts s).length ≤ 300) && inR64 m.1) && smallK (knowAll mk rk (hUs us s) [m]) ((hG mp (hRp rp0 s) (hTs ts s) m).2.2.getD [])))
def gdN (kb : KB) (s : HS) (m : Mg) : Bool := match kb, s with
  | none, .a => nilK mk m
  | none, .b _ => false
  | _, _ => true
def goodH (kb : KB) : HS → List Mg → Bool
  | _, [] => true
  | s, m :: r => (gdS mp mk rk rp0 ts (kbL kb) s m && gdN mk kb s m) && goodH kb (stepS mp mk rk rp0 ts (kbL kb) s m) r
def runS (s : HS) (ms : List Mg) : HS := ms.foldl (stepS mp mk rk rp0 ts us) s
end
theorem knowAll_nil (mk : Int) (rk : Bool) (us : List Pt) : knowAll mk rk us [] = us := by
  unfold knowAll; cases okP mk rk us <;> rfl
theorem nil_know {mk : Int} {rk : Bool} {m : Mg} (h : nilK mk m = true) : knowAll mk rk [] [m] = [freshE m] := by
  unfold nilK inMost at h
  simp only [Bool.and_eq_true, decide_eq_true_eq, beq_iff_eq] at h
  obtain ⟨hm, h1, h2, h3, h4⟩ := h
  have ho : okP mk rk [] = true := okP_iff.2 ⟨hm, List.Pairwise.nil, fun x hx => by cases hx⟩
  unfold knowAll
  rw [ho]
  show knowL mk [] m = _
  rw [know_none (fun x hx => by cases hx), if_pos ⟨h1, h2, h3⟩]
  rfl
def hSt (f : Bool) (ms : List Mg) (fp : Bool) (mp : Int) (rp : Bool) (ts : List Pt) (kb : KB) (mk : Int) (rk : Bool) (x : Nat × HS) : List SV × List (SO C27) := match kb, x.2 with
  | some (fk, us), .a => hA f ms fp mp rp ts fk mk rk us (x.1 : Int)
  | some (fk, us), .b u => hB f ms fp mp rp ts fk mk rk us u (x.1 : Int)
  | some (fk, us), .c r t u => hC f ms fp mp r ts fk mk rk us t u (x.1 : Int)
  | none, .c r t u => hM f ms fp mp r ts mk rk t u (x.1 : Int)
  | none, _ => hN f ms fp mp rp ts mk rk (x.1 : Int)
abbrev hNb (kb : KB) : Nat := match kb with
  | none => 6
  | some _ => 7
section
variable {f : Bool} {ms : List Mg} {fp : Bool} {mp : Int} {rp : Bool} {ts : List Pt} {kb : KB} {mk : Int} {rk : Bool}
theorem h_round {k : Nat} (hk : k < ms.length) (hl : ms.length ≤ 200) {s : HS} (hg : gdS mp mk rk rp ts (kbL kb) s (elM ms k) = true) (hn : gdN mk kb s (elM ms k) = true) :
    (hRd (hNb kb) (hSt f ms fp mp rp ts kb mk rk (k, s))).get = some (.normal, hSt f ms fp mp rp ts kb mk rk (k + 1, stepS mp mk rk rp ts (kbL kb) s (elM ms k))) := by
  have k1 := decide_eq_true (show (k : Int) < (ms.length : Int) by omega)
  have k0 := decide_eq_true (show (k : Int) < (200 : Int) by omega)
  have k2 : Sx.inB (k : Int) ms.length = true := inB_mk ⟨by omega, by omega⟩
  have k3 := decide_eq_true (show ((k : Nat) : Int).toNat < ms.length from hk)
  have k4 : inR64 ((k : Int) + 1) = true := inR64_mk (by omega)
  unfold gdS at hg
  rw [Bool.and_eq_true] at hg
  obtain ⟨g1, g2⟩ := hg
  have len : ∀ u : List Pt, smallK u [] = true → decide (u.length ≤ 100000) = true := fun u h => by
    unfold smallK at h
    rw [Bool.and_eq_true] at h
    exact decide_eq_true (by have := of_decide_eq_true h.1; omega)
  cases he : (elM ms (k : Int)).2.1 == 1 with
  | false =>
    unfold stepS
    rw [he]
    cases kb with
    | none =>
      cases s with
      | a =>
        unfold gdN nilK at hn
        simp only [Bool.and_eq_true] at hn
        rw [he] at hn
        cases hn.2.2.1
      | b u => cases hn
      | c r t u =>
        have g1 : smallK u [elM ms k] = true := g1
        exact Tr.follow_get (hM_o f ms fp mp r ts mk rk t u k) (by simp only [k0, k1, k2, k3, k4, he, g1])
    | some x =>
      obtain ⟨fk, us⟩ := x
      cases s with
      | a =>
        have g1 : smallK us [elM ms k] = true := g1
        exact Tr.follow_get (hA_o f ms fp mp rp ts fk mk rk us k) (by simp only [k0, k1, k2, k3, k4, he, g1])
      | b u =>
        have g1 : smallK u [elM ms k] = true := g1
        exact Tr.follow_get (hB_o f ms fp mp rp ts fk mk rk us u k) (by simp only [k0, k1, k2, k3, k4, he, g1])
      | c r t u =>
        have g1 : smallK u [elM ms k] = true := g1
        exact Tr.follow_get (hC_o f ms fp mp r ts fk mk rk us t u k) (by simp only [k0, k1, k2, k3, k4, he, g1])
  | true =>
    rw [he] at g2
    obtain ⟨j2, g3⟩ := (Bool.and_eq_true _ _).mp g2
    clear g2
    obtain ⟨ja, jb⟩ := (Bool.and_eq_true _ _).mp j2
    clear j2
    unfold stepS
    rw [he]
    cases hS : (hG mp (hRp rp s) (hTs ts s) (elM ms k)).2.2.isSome with
    | true =>
      cases kb with
      | none =>
        cases s with
        | a =>
          have hn' := nil_know (rk := rk) hn
          simp only [hUs, hRp, hTs, kbL] at g3 hS ⊢
          have ja : decide (ts.length ≤ (300 : Nat)) = true := ja
          have hn : nilK mk (elM ms k) = true := hn
          rw [hn'] at g3 ⊢
          exact Tr.follow_get (hN_s f ms fp mp rp ts mk rk k) (by simp only [k0, k1, k2, k3, k4, he, ja, jb, Bool.and_self, g3, hn, hS])
        | b u => cases hn
        | c r t u =>
          simp only [hUs, hRp, hTs] at g1 g3 hS ⊢
          have ja : decide (t.length ≤ (300 : Nat)) = true := ja
          exact Tr.follow_get (hM_s f ms fp mp r ts mk rk t u k) (by simp only [k0, k1, k2, k3, k4, he, g1, ja, jb, Bool.and_self, g3, hS])
      | some x =>
        obtain ⟨fk, us⟩ := x
        cases s with
        | a =>
          simp only [hUs, hRp, hTs, kbL] at g1 g3 hS ⊢
          have ja : decide (ts.length ≤ (300 : Nat)) = true := ja
          exact Tr.follow_get (hA_s f ms fp mp rp ts fk mk rk us k) (by simp only [k0, k1, k2, k3, k4, he, g1, ja, jb, Bool.and_self, g3, hS])
        | b u =>
          simp only [hUs, hRp, hTs, kbL] at g1 g3 hS ⊢
          have ja : decide (ts.length ≤ (300 : Nat)) = true := ja
          exact Tr.follow_get (hB_s f ms fp mp rp ts fk mk rk us u k) (by simp only [k0, k1, k2, k3, k4, he, g1, ja, jb, Bool.and_self, g3, hS])
        | c r t u =>
          simp only [hUs, hRp, hTs, kbL] at g1 g3 hS ⊢
          have ja : decide (t.length ≤ (300 : Nat)) = true := ja
          exact Tr.follow_get (hC_s f ms fp mp r ts fk mk rk us t u k) (by simp only [k0, k1, k2, k3, k4, he, g1, ja, jb, Bool.and_self, g3, hS])
    | false =>
      have hno : (hG mp (hRp rp s) (hTs ts s) (elM ms k)).2.2 = none := Option.isSome_eq_false_iff.1 hS |> Option.isNone_iff_eq_none.1
      rw [hno] at g3
      simp only [hno, Option.getD_none, knowAll_nil]
      cases kb with
      | none =>
        cases s with
        | a =>
          have hn' := nil_know (rk := rk) hn
          simp only [hUs, hRp, hTs, kbL] at g3 hS ⊢
          have ja : decide (ts.length ≤ (300 : Nat)) = true := ja
          have g3 := len _ g3
          have hn : nilK mk (elM ms k) = true := hn
          rw [hn']
          exact Tr.follow_get (hN_n f ms fp mp rp ts mk rk k) (by simp only [k0, k1, k2, k3, k4, he, ja, jb, Bool.and_self, g3, hn, hS, List.length_cons, List.length_nil, Nat.reduceAdd, Nat.reduceLeDiff, decide_true])
        | b u => cases hn
        | c r t u =>
          simp only [hUs, hRp, hTs] at g1 g3 hS ⊢
          have ja : decide (t.length ≤ (300 : Nat)) = true := ja
          have g3 := len _ g3
          exact Tr.follow_get (hM_n f ms fp mp r ts mk rk t u k) (by simp only [k0, k1, k2, k3, k4, he, g1, ja, jb, Bool.and_self, g3, hS])
      | some x =>
        obtain ⟨fk, us⟩ := x
        cases s with
        | a =>
          simp only [hUs, hRp, hTs, kbL] at g1 g3 hS ⊢
          have ja : decide (ts.length ≤ (300 : Nat)) = true := ja
          have g3 := len _ g3
          exact Tr.follow_get (hA_n f ms fp mp rp ts fk mk rk us k) (by simp only [k0, k1, k2, k3, k4, he, g1, ja, jb, Bool.and_self, g3, hS])
        | b u =>
          simp only [hUs, hRp, hTs, kbL] at g1 g3 hS ⊢
          have ja : decide (ts.length ≤ (300 : Nat)) = true := ja
          have g3 := len _ g3
          exact Tr.follow_get (hB_n f ms fp mp rp ts fk mk rk us u k) (by simp only [k0, k1, k2, k3, k4, he, g1, ja, jb, Bool.and_self, g3, hS])
        | c r t u =>
          simp only [hUs, hRp, hTs, kbL] at g1 g3 hS ⊢
          have ja : decide (t.length ≤ (300 : Nat)) = true := ja
          have g3 := len _ g3
          exact Tr.follow_get (hC_n f ms fp mp r ts fk mk rk us t u k) (by simp only [k0, k1, k2, k3, k4, he, g1, ja, jb, Bool.and_self, g3, hS])
end
end
end Go.Proofs.Ytgegagndihffpaa

/-
  Chapter 27: PortsKnow: heard, its loop told by a function. Own work; nothing here is trusted.
-/
namespace Go.Proofs.Ytgegagndihffpaa
open Go Go.Sx Go.RowKit
set_option maxRecDepth 1000000
set_option maxHeartbeats 8000000
set_option linter.unusedVariables false
set_option linter.unusedSimpArgs false
noncomputable section
theorem h_loop : loopOf Try.prog 22 0 = some (((loopOf Try.prog 22 0).get!).1, (loopOf Try.prog 22 0).get!.2) := by kernel_rfl
section
variable {f : Bool} {ms : List Mg} {fp : Bool} {mp : Int} {rp : Bool} {ts : List Pt} {kb : KB} {mk : Int} {rk : Bool}
theorem h_end {s : HS} : (hRd (hNb kb) (hSt f ms fp mp rp ts kb mk rk (ms.length, s))).get = some (.exit 0, hSt f ms fp mp rp ts kb mk rk (ms.length, s)) := by
  have k1 : decide ((ms.length : Int) < (ms.length : Int)) = false := decide_eq_false (Int.lt_irrefl _)
  cases kb with
  | none =>
    cases s with
    | a => exact Tr.follow_get (hN_end f ms fp mp rp ts mk rk (ms.length : Int)) (by rw [k1])
    | b u => exact Tr.follow_get (hN_end f ms fp mp rp ts mk rk (ms.length : Int)) (by rw [k1])
    | c r t u => exact Tr.follow_get (hM_end f ms fp mp r ts mk rk t u (ms.length : Int)) (by rw [k1])
  | some x =>
    obtain ⟨fk, us⟩ := x
    cases s with
    | a => exact Tr.follow_get (hA_end f ms fp mp rp ts fk mk rk us (ms.length : Int)) (by rw [k1])
    | b u => exact Tr.follow_get (hB_end f ms fp mp rp ts fk mk rk us u (ms.length : Int)) (by rw [k1])
    | c r t u => exact Tr.follow_get (hC_end f ms fp mp r ts fk mk rk us t u (ms.length : Int)) (by rw [k1])
theorem elM_at {k : Nat} (h : k < ms.length) : elM ms (k : Int) = ms[k] := by
  show ms.getD k _ = _
  rw [List.getD_eq_getElem?_getD, List.getElem?_eq_getElem h]; rfl
theorem h_run (hl : ms.length ≤ 200) (hg : goodH mp mk rk rp ts kb .a ms = true) :
    LoopRun Try.prog ((loopOf Try.prog 22 0).get!).1 (loopOf Try.prog 22 0).get!.2 (hNb kb) (LI.st hSl ⟨(hSt f ms fp mp rp ts kb mk rk (0, .a)).1, hNb kb, (hSt f ms fp mp rp ts kb mk rk (0, .a)).2⟩) fun x T => ∃ vs os, (x = .exit 0 ∧ (vs, os) = hSt f ms fp mp rp ts kb mk rk (ms.length, runS mp mk rk rp ts (kbL kb) .a ms)) ∧ T = ⟨zipT hSl vs, numH 0 os, os.length⟩ := by
  refine loop_li (σ := Nat × HS) (st := hSt f ms fp mp rp ts kb mk rk) (Inv := fun x => x.1 ≤ ms.length ∧ x.2 = runS mp mk rk rp ts (kbL kb) .a (ms.take x.1) ∧ goodH mp mk rk rp ts kb x.2 (ms.drop x.1) = true) (μ := fun x => ms.length - x.1) (d := 10) (unr := fun _ _ => 20) (sp := sfH) (ls := noLs) plain mixed sfH_ok noLs_ok h_loop (fun x hx => ?_) (0, .a) ⟨Nat.zero_le _, rfl, hg⟩
  obtain ⟨k, s⟩ := x
  obtain ⟨h1, h2, h3⟩ := hx
  simp only at h1 h2 h3
  by_cases hlt : k < ms.length
  · rw [List.drop_eq_getElem_cons hlt] at h3
    unfold goodH at h3
    rw [Bool.and_eq_true, Bool.and_eq_true] at h3
    obtain ⟨⟨g1, g2⟩, g3⟩ := h3
    rw [← elM_at hlt] at g1 g2 g3
    refine ⟨_, h_round hlt hl g1 g2, fun _ => ⟨(k + 1, _), ⟨hlt, ?_, g3⟩, by simp only; omega, rfl⟩, nofun⟩
    rw [List.take_add_one, List.getElem?_eq_getElem hlt, ← elM_at hlt]
    unfold runS at h2 ⊢
    rw [List.foldl_append, ← h2]
    rfl
  · have hke : k = ms.length := by omega
    subst hke
    rw [List.take_length] at h2
    subst h2
    exact ⟨_, h_end, nofun, fun _ => ⟨rfl, rfl⟩⟩
end
/-! ### no messages at all -/
abbrev hZ (x y : SV) (mp : Int) (rp : Bool) (mk : Int) (rk : Bool) (r : List (SO C27)) : List SV × List (SO C27) := ([.h 0, .h 1, .raw (.slice none 0 0), .raw (.int .i64 0), .h 2, .h 3], pB mp rp x :: pB mk rk y :: zB :: zB :: r)
theorem hZ_0 (mp : Int) (rp : Bool) (mk : Int) (rk : Bool) : (hRd 4 (hZ nlS nlS mp rp mk rk [])).get = some (.exit 0, hZ nlS nlS mp rp mk rk []) := by kernel_rfl
theorem hZ_1 (mp : Int) (rp : Bool) (mk : Int) (rk : Bool) (fp : Bool) (ts : List Pt) : (hRd 5 (hZ (.h 4) nlS mp rp mk rk [.sl true fp 46 ts])).get = some (.exit 0, hZ (.h 4) nlS mp rp mk rk [.sl true fp 46 ts]) := by kernel_rfl
theorem hZ_2 (mp : Int) (rp : Bool) (mk : Int) (rk : Bool) (fp : Bool) (ts : List Pt) (fk : Bool) (us : List Pt) : (hRd 6 (hZ (.h 4) (.h 5) mp rp mk rk [.sl true fp 46 ts, .sl true fk 46 us])).get = some (.exit 0, hZ (.h 4) (.h 5) mp rp mk rk [.sl true fp 46 ts, .sl true fk 46 us]) := by kernel_rfl
theorem hZ_run {nb : Nat} {s : List SV × List (SO C27)} (h : (hRd nb s).get = some (.exit 0, s)) :
    LoopRun Try.prog ((loopOf Try.prog 22 0).get!).1 (loopOf Try.prog 22 0).get!.2 nb (LI.st hSl ⟨s.1, nb, s.2⟩) fun x T => ∃ vs os, (x = .exit 0 ∧ (vs, os) = s) ∧ T = ⟨zipT hSl vs, numH 0 os, os.length⟩ :=
  loop_li (σ := Unit) (st := fun _ => s) (Inv := fun _ => True) (μ := fun _ => 0) (d := 10) (unr := fun _ _ => 20) (sp := sfH) (ls := noLs) plain mixed sfH_ok noLs_ok h_loop (fun _ _ => ⟨_, h, nofun, fun _ => ⟨rfl, rfl⟩⟩) () trivial
/-! ### the loop -/
def hIsB : HS → Bool
  | .b _ => true
  | _ => false
def hIsC : HS → Bool
  | .c _ _ _ => true
  | _ => false
def hLeaf (f : Bool) (ms : List Mg) (fp : Bool) (mp : Int) (rp : Bool) (ts : List Pt) (kb : KB) (mk : Int) (rk : Bool) (s : HS) : Tr (Ex × List SV × List (SO C27)) := match kb with
  | some (fk, us) => .br (hIsC s) (.leaf (.exit 0, hC f ms fp mp (hRp rp s) ts fk mk rk us (hTs ts s) (hUs us s) (ms.length : Int))) (.br (hIsB s) (.leaf (.exit 0, hB f ms fp mp rp ts fk mk rk us (hUs us s) (ms.length : Int))) (.leaf (.exit 0, hA f ms fp mp rp ts fk mk rk us (ms.length : Int))))
  | none => .br (hIsC s) (.leaf (.exit 0, hM f ms fp mp (hRp rp s) ts mk rk (hTs ts s) (hUs [] s) (ms.length : Int))) (.leaf (.exit 0, hN f ms fp mp rp ts mk rk (ms.length : Int)))
theorem hLeaf_get (f : Bool) (ms : List Mg) (fp : Bool) (mp : Int) (rp : Bool) (ts : List Pt) (kb : KB) (mk : Int) (rk : Bool) (s : HS) : (hLeaf f ms fp mp rp ts kb mk rk s).get = some (.exit 0, hSt f ms fp mp rp ts kb mk rk (ms.length, s)) := by
  cases kb with
  | none => cases s <;> rfl
  | some x => obtain ⟨fk, us⟩ := x; cases s <;> rfl
def hLoop : LoopFn C27 := fun li => match li with
  | ⟨[.h 0, .h 1, .h 2, .raw (.int .i64 (.ofNat 0)), .h 3, .h 4], 7, [.box [.raw (.int .i64 mp), .raw (.bool rp), .h 5] 27, .box [.raw (.int .i64 mk), .raw (.bool rk), .h 6] 27, .sl true f 38 ms, .box [.raw (.int .i64 (.ofNat 0)), .raw (.bool false), .raw (.slice none 0 0)] 27, .box [.raw (.int .i64 (.ofNat 0)), .raw (.bool false), .raw (.slice none 0 0)] 27, .sl true fp 46 ts, .sl true fk 46 us]⟩ =>
    .br (decide (ms.length ≤ 200)) (.br (goodH mp mk rk rp ts (some (fk, us)) .a ms) (hLeaf f ms fp mp rp ts (some (fk, us)) mk rk (runS mp mk rk rp ts us .a ms)) .fail) .fail
  | ⟨[.h 0, .h 1, .h 2, .raw (.int .i64 (.ofNat 0)), .h 3, .h 4], 6, [.box [.raw (.int .i64 mp), .raw (.bool rp), .h 5] 27, .box [.raw (.int .i64 mk), .raw (.bool rk), .raw (.slice none 0 0)] 27, .sl true f 38 ms, .box [.raw (.int .i64 (.ofNat 0)), .raw (.bool false), .raw (.slice none 0 0)] 27, .box [.raw (.int .i64 (.ofNat 0)), .raw (.bool false), .raw (.slice none 0 0)] 27, .sl true fp 46 ts]⟩ =>
    .br (decide (ms.length ≤ 200)) (.br (goodH mp mk rk rp ts none .a ms) (hLeaf f ms fp mp rp ts none mk rk (runS mp mk rk rp ts [] .a ms)) .fail) .fail
  | ⟨[.h 0, .h 1, .raw (.slice none 0 0), .raw (.int .i64 (.ofNat 0)), .h 2, .h 3], 4, [.box [.raw (.int .i64 mp), .raw (.bool rp), .raw (.slice none 0 0)] 27, .box [.raw (.int .i64 mk), .raw (.bool rk), .raw (.slice none 0 0)] 27, .box [.raw (.int .i64 (.ofNat 0)), .raw (.bool false), .raw (.slice none 0 0)] 27, .box [.raw (.int .i64 (.ofNat 0)), .raw (.bool false), .raw (.slice none 0 0)] 27]⟩ => .leaf (.exit 0, hZ nlS nlS mp rp mk rk [])
  | ⟨[.h 0, .h 1, .raw (.slice none 0 0), .raw (.int .i64 (.ofNat 0)), .h 2, .h 3], 5, [.box [.raw (.int .i64 mp), .raw (.bool rp), .h 4] 27, .box [.raw (.int .i64 mk), .raw (.bool rk), .raw (.slice none 0 0)] 27, .box [.raw (.int .i64 (.ofNat 0)), .raw (.bool false), .raw (.slice none 0 0)] 27, .box [.raw (.int .i64 (.ofNat 0)), .raw (.bool false), .raw (.slice none 0 0)] 27, .sl true fp 46 ts]⟩ => .leaf (.exit 0, hZ (.h 4) nlS mp rp mk rk [.sl true fp 46 ts])
  | ⟨[.h 0, .h 1, .raw (.slice none 0 0), .raw (.int .i64 (.ofNat 0)), .h 2, .h 3], 6, [.box [.raw (.int .i64 mp), .raw (.bool rp), .h 4] 27, .box [.raw (.int .i64 mk), .raw (.bool rk), .h 5] 27, .box [.raw (.int .i64 (.ofNat 0)), .raw (.bool false), .raw (.slice none 0 0)] 27, .box [.raw (.int .i64 (.ofNat 0)), .raw (.bool false), .raw (.slice none 0 0)] 27, .sl true fp 46 ts, .sl true fk 46 us]⟩ => .leaf (.exit 0, hZ (.h 4) (.h 5) mp rp mk rk [.sl true fp 46 ts, .sl true fk 46 us])
  | _ => .fail
theorem hKeep (f : Bool) (ms : List Mg) (fp : Bool) (mp : Int) (rp : Bool) (ts : List Pt) (kb : KB) (mk : Int) (rk : Bool) (x : Nat × HS) : Keeps (hNb kb) (hSt f ms fp mp rp ts kb mk rk (0, .a)).2 (hSt f ms fp mp rp ts kb mk rk x).2 := by
  obtain ⟨k, s⟩ := x
  cases kb with
  | none => cases s <;> exact Keeps.of3 (by simp [hSt, hNb]) rfl
  | some x => obtain ⟨fk, us⟩ := x; cases s <;> exact Keeps.of3 (by simp [hSt, hNb]) rfl
theorem hLoop_ok : ∀ tm hp n x, (loopS hSl [] hLoop tm hp n).get = some x → InLoop Try.prog ((loopOf Try.prog 22 0).get!).1 (loopOf Try.prog 22 0).get!.2 tm hp n fun e tm hp n => (e, tm, hp, n) = x := loopS_of fun li r h => by
  unfold hLoop at h
  split at h
  · rename_i mp rp mk rk f ms fp ts fk us
    obtain ⟨h1, h⟩ := Tr.get_ask.1 h
    obtain ⟨h2, h⟩ := Tr.get_ask.1 h
    have hr := Option.some.inj (h.symm.trans (hLeaf_get _ _ _ _ _ _ _ _ _ _))
    subst hr
    exact ⟨hKeep f ms fp mp rp ts (some (fk, us)) mk rk _, h_run (kb := some (fk, us)) (of_decide_eq_true h1) h2⟩
  · rename_i mp rp mk rk f ms fp ts
    obtain ⟨h1, h⟩ := Tr.get_ask.1 h
    obtain ⟨h2, h⟩ := Tr.get_ask.1 h
    have hr := Option.some.inj (h.symm.trans (hLeaf_get _ _ _ _ _ _ _ _ _ _))
    subst hr
    exact ⟨hKeep f ms fp mp rp ts none mk rk _, h_run (kb := none) (of_decide_eq_true h1) h2⟩
  · rename_i mp rp mk rk
    have hr := (Option.some.inj h).symm
    subst hr
    exact ⟨Keeps.of3 (Nat.le_refl _) rfl, hZ_run (hZ_0 mp rp mk rk)⟩
  · rename_i mp rp mk rk fp ts
    have hr := (Option.some.inj h).symm
    subst hr
    exact ⟨Keeps.of3 (Nat.le_refl _) rfl, hZ_run (hZ_1 mp rp mk rk fp ts)⟩
  · rename_i mp rp mk rk fp ts fk us
    have hr := (Option.some.inj h).symm
    subst hr
    exact ⟨Keeps.of3 (Nat.le_refl _) rfl, hZ_run (hZ_2 mp rp mk rk fp ts fk us)⟩
  · cases h
end
end Go.Proofs.Ytgegagndihffpaa
