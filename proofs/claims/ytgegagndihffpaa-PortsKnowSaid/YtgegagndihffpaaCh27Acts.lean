/-
  Chapter 27: Add and Remove as specifications. Own work; nothing here is trusted.
-/
import Derived.Test.YtgegagndihffpaaCh27Acts0
namespace Go.Proofs.Ytgegagndihffpaa
open Go Go.Sx Go.RowKit
set_option maxRecDepth 1000000
set_option maxHeartbeats 8000000
set_option linter.unusedVariables false
set_option linter.unusedSimpArgs false
noncomputable section
theorem add_tree (f : Bool) (most : Int) (rdy : Bool) (ts : List Pt) (id : Int) (nm : ByteArray) (on : Bool) : (fA 20 [pA most rdy (.h 0), .raw (.int .i64 id), .raw (.string nm), .raw (.bool on)] [.sl false f 46 ts]).get =
  bro (decide (ts.length ≤ (100000 : Nat))) (bro (okP most rdy ts) (bro (decide (id < (0 : Int))) (some (SV.tup [SV.agg [SV.raw (Value.int IntKind.i64 (0 : Int)), SV.raw (Value.bool false), SV.raw (Value.slice none (0 : Nat) (0 : Nat))], SV.raw (Value.slice none (0 : Nat) (0 : Nat)), SV.raw (Value.int IntKind.i64 (2 : Int))], [])) (bro (decide (most ≤ id)) (some (SV.tup [SV.agg [SV.raw (Value.int IntKind.i64 (0 : Int)), SV.raw (Value.bool false), SV.raw (Value.slice none (0 : Nat) (0 : Nat))], SV.raw (Value.slice none (0 : Nat) (0 : Nat)), SV.raw (Value.int IntKind.i64 (2 : Int))], [])) (bro (decide ((64 : Int) < (↑nm.size : Int))) (some (SV.tup [SV.agg [SV.raw (Value.int IntKind.i64 (0 : Int)), SV.raw (Value.bool false), SV.raw (Value.slice none (0 : Nat) (0 : Nat))], SV.raw (Value.slice none (0 : Nat) (0 : Nat)), SV.raw (Value.int IntKind.i64 (2 : Int))], [])) (bro (decide (ts.length ≤ (100000 : Nat))) (bro (decide ((0 : Int) ≤ atI ts id)) (some (SV.tup [SV.agg [SV.raw (Value.int IntKind.i64 (0 : Int)), SV.raw (Value.bool false), SV.raw (Value.slice none (0 : Nat) (0 : Nat))], SV.raw (Value.slice none (0 : Nat) (0 : Nat)), SV.raw (Value.int IntKind.i64 (9 : Int))], [])) (bro (decide (ts.length ≤ (1000 : Nat))) (bro (!rdy) (some (SV.tup [SV.agg [SV.raw (Value.int IntKind.i64 most), SV.raw (Value.bool rdy), SV.h (1 : Nat)], SV.raw (Value.slice none (0 : Nat) (0 : Nat)), SV.raw (Value.int IntKind.i64 (0 : Int))], [SO.sl true false (46 : Nat) (insL ts (inAt ts id) [(id, nm, on, false, false, false)])])) (some (SV.tup [SV.agg [SV.raw (Value.int IntKind.i64 most), SV.raw (Value.bool rdy), SV.h (1 : Nat)], SV.h (2 : Nat), SV.raw (Value.int IntKind.i64 (0 : Int))], [SO.sl true false (46 : Nat) (insL ts (inAt ts id) [(id, nm, on, false, false, false)]), SO.sl true true (38 : Nat) [(id % (4294967296 : Int), (1 : Int), (1 : Int), ByteArray.empty)]]))) (none))) (none))))) (some (SV.tup [SV.agg [SV.raw (Value.int IntKind.i64 (0 : Int)), SV.raw (Value.bool false), SV.raw (Value.slice none (0 : Nat) (0 : Nat))], SV.raw (Value.slice none (0 : Nat) (0 : Nat)), SV.raw (Value.int IntKind.i64 (2 : Int))], []))) (none) := by kernel_rfl
theorem rem_tree (f : Bool) (most : Int) (rdy : Bool) (ts : List Pt) (id : Int) : (fA 21 [pA most rdy (.h 0), .raw (.int .i64 id)] [.sl false f 46 ts]).get =
  bro (decide (ts.length ≤ (100000 : Nat))) (bro (okP most rdy ts) (bro (decide (ts.length ≤ (100000 : Nat))) (bro (decide (atI ts id < (0 : Int))) (some (SV.tup [SV.agg [SV.raw (Value.int IntKind.i64 (0 : Int)), SV.raw (Value.bool false), SV.raw (Value.slice none (0 : Nat) (0 : Nat))], SV.raw (Value.slice none (0 : Nat) (0 : Nat)), SV.raw (Value.int IntKind.i64 (6 : Int))], [])) (bro (decide (ts.length ≤ (1000 : Nat) ∧ (0 : Int) ≤ atI ts id ∧ atI ts id < (↑ts.length : Int))) (bro (!rdy) (some (SV.tup [SV.agg [SV.raw (Value.int IntKind.i64 most), SV.raw (Value.bool rdy), SV.h (1 : Nat)], SV.raw (Value.slice none (0 : Nat) (0 : Nat)), SV.raw (Value.int IntKind.i64 (0 : Int))], [SO.sl true false (46 : Nat) (delL ts (atI ts id).toNat (atI ts id + (1 : Int)).toNat)])) (some (SV.tup [SV.agg [SV.raw (Value.int IntKind.i64 most), SV.raw (Value.bool rdy), SV.h (1 : Nat)], SV.h (2 : Nat), SV.raw (Value.int IntKind.i64 (0 : Int))], [SO.sl true false (46 : Nat) (delL ts (atI ts id).toNat (atI ts id + (1 : Int)).toNat), SO.sl true true (38 : Nat) [(id % (4294967296 : Int), (2 : Int), (1 : Int), ByteArray.empty)]]))) (none))) (none)) (some (SV.tup [SV.agg [SV.raw (Value.int IntKind.i64 (0 : Int)), SV.raw (Value.bool false), SV.raw (Value.slice none (0 : Nat) (0 : Nat))], SV.raw (Value.slice none (0 : Nat) (0 : Nat)), SV.raw (Value.int IntKind.i64 (2 : Int))], []))) (none) := by kernel_rfl
theorem open_tree (f : Bool) (most : Int) (rdy : Bool) (ts : List Pt) (id : Int) (on : Bool) : (fA 26 [pA most rdy (.h 0), .raw (.int .i64 id), .raw (.bool on)] [.sl false f 46 ts]).get =
  bro (decide (ts.length ≤ (100000 : Nat))) (bro (okP most rdy ts) (bro (decide (ts.length ≤ (100000 : Nat))) (bro (decide (atI ts id < (0 : Int))) (some (SV.tup [SV.agg [SV.raw (Value.int IntKind.i64 (0 : Int)), SV.raw (Value.bool false), SV.raw (Value.slice none (0 : Nat) (0 : Nat))], SV.raw (Value.slice none (0 : Nat) (0 : Nat)), SV.raw (Value.int IntKind.i64 (6 : Int))], [])) (bro (decide (ts.length ≤ (100000 : Nat))) (bro (inB (atI ts id) ts.length) (bro (decide ((atI ts id).toNat < ts.length)) (bro ((ts.getD (atI ts id).toNat (0, ByteArray.empty, false, false, false, false)).snd.snd.snd.snd.snd) (bro (decide ((atI ts id).toNat < ts.length)) (bro (on) (bro (!!(ts.getD (atI ts id).toNat (0, ByteArray.empty, false, false, false, false)).snd.snd.snd.fst == on) (bro (decide ((atI ts id).toNat < ts.length)) (some (SV.tup [SV.agg [SV.raw (Value.int IntKind.i64 most), SV.raw (Value.bool rdy), SV.h (1 : Nat)], SV.raw (Value.slice none (0 : Nat) (0 : Nat)), SV.raw (Value.int IntKind.i64 (0 : Int))], [SO.sl true false (46 : Nat) (ts.set (atI ts id).toNat ((ts.getD (atI ts id).toNat (0, ByteArray.empty, false, false, false, false)).fst, (ts.getD (atI ts id).toNat (0, ByteArray.empty, false, false, false, false)).snd.fst, (ts.getD (atI ts id).toNat (0, ByteArray.empty, false, false, false, false)).snd.snd.fst, on, (ts.getD (atI ts id).toNat (0, ByteArray.empty, false, false, false, false)).snd.snd.snd.snd.fst, (ts.getD (atI ts id).toNat (0, ByteArray.empty, false, false, false, false)).snd.snd.snd.snd.snd))])) (none)) (bro (decide ((atI ts id).toNat < ts.length)) (some (SV.tup [SV.agg [SV.raw (Value.int IntKind.i64 most), SV.raw (Value.bool rdy), SV.h (1 : Nat)], SV.h (2 : Nat), SV.raw (Value.int IntKind.i64 (0 : Int))], [SO.sl true false (46 : Nat) (ts.set (atI ts id).toNat ((ts.getD (atI ts id).toNat (0, ByteArray.empty, false, false, false, false)).fst, (ts.getD (atI ts id).toNat (0, ByteArray.empty, false, false, false, false)).snd.fst, (ts.getD (atI ts id).toNat (0, ByteArray.empty, false, false, false, false)).snd.snd.fst, on, (ts.getD (atI ts id).toNat (0, ByteArray.empty, false, false, false, false)).snd.snd.snd.snd.fst, (ts.getD (atI ts id).toNat (0, ByteArray.empty, false, false, false, false)).snd.snd.snd.snd.snd)), SO.sl true true (38 : Nat) [(id % (4294967296 : Int), (6 : Int), (1 : Int), ByteArray.empty)]])) (none))) (bro (!!(ts.getD (atI ts id).toNat (0, ByteArray.empty, false, false, false, false)).snd.snd.snd.fst == on) (bro (decide ((atI ts id).toNat < ts.length)) (some (SV.tup [SV.agg [SV.raw (Value.int IntKind.i64 most), SV.raw (Value.bool rdy), SV.h (1 : Nat)], SV.raw (Value.slice none (0 : Nat) (0 : Nat)), SV.raw (Value.int IntKind.i64 (0 : Int))], [SO.sl true false (46 : Nat) (ts.set (atI ts id).toNat ((ts.getD (atI ts id).toNat (0, ByteArray.empty, false, false, false, false)).fst, (ts.getD (atI ts id).toNat (0, ByteArray.empty, false, false, false, false)).snd.fst, (ts.getD (atI ts id).toNat (0, ByteArray.empty, false, false, false, false)).snd.snd.fst, on, (ts.getD (atI ts id).toNat (0, ByteArray.empty, false, false, false, false)).snd.snd.snd.snd.fst, (ts.getD (atI ts id).toNat (0, ByteArray.empty, false, false, false, false)).snd.snd.snd.snd.snd))])) (none)) (bro (decide ((atI ts id).toNat < ts.length)) (some (SV.tup [SV.agg [SV.raw (Value.int IntKind.i64 most), SV.raw (Value.bool rdy), SV.h (1 : Nat)], SV.h (2 : Nat), SV.raw (Value.int IntKind.i64 (0 : Int))], [SO.sl true false (46 : Nat) (ts.set (atI ts id).toNat ((ts.getD (atI ts id).toNat (0, ByteArray.empty, false, false, false, false)).fst, (ts.getD (atI ts id).toNat (0, ByteArray.empty, false, false, false, false)).snd.fst, (ts.getD (atI ts id).toNat (0, ByteArray.empty, false, false, false, false)).snd.snd.fst, on, (ts.getD (atI ts id).toNat (0, ByteArray.empty, false, false, false, false)).snd.snd.snd.snd.fst, (ts.getD (atI ts id).toNat (0, ByteArray.empty, false, false, false, false)).snd.snd.snd.snd.snd)), SO.sl true true (38 : Nat) [(id % (4294967296 : Int), (6 : Int), (0 : Int), ByteArray.empty)]])) (none)))) (none)) (bro (on) (bro (decide ((atI ts id).toNat < ts.length)) (some (SV.tup [SV.agg [SV.raw (Value.int IntKind.i64 most), SV.raw (Value.bool rdy), SV.h (1 : Nat)], SV.raw (Value.slice none (0 : Nat) (0 : Nat)), SV.raw (Value.int IntKind.i64 (0 : Int))], [SO.sl true false (46 : Nat) (ts.set (atI ts id).toNat ((ts.getD (atI ts id).toNat (0, ByteArray.empty, false, false, false, false)).fst, (ts.getD (atI ts id).toNat (0, ByteArray.empty, false, false, false, false)).snd.fst, (ts.getD (atI ts id).toNat (0, ByteArray.empty, false, false, false, false)).snd.snd.fst, on, (ts.getD (atI ts id).toNat (0, ByteArray.empty, false, false, false, false)).snd.snd.snd.snd.fst, (ts.getD (atI ts id).toNat (0, ByteArray.empty, false, false, false, false)).snd.snd.snd.snd.snd))])) (none)) (bro (decide ((atI ts id).toNat < ts.length)) (some (SV.tup [SV.agg [SV.raw (Value.int IntKind.i64 most), SV.raw (Value.bool rdy), SV.h (1 : Nat)], SV.raw (Value.slice none (0 : Nat) (0 : Nat)), SV.raw (Value.int IntKind.i64 (0 : Int))], [SO.sl true false (46 : Nat) (ts.set (atI ts id).toNat ((ts.getD (atI ts id).toNat (0, ByteArray.empty, false, false, false, false)).fst, (ts.getD (atI ts id).toNat (0, ByteArray.empty, false, false, false, false)).snd.fst, (ts.getD (atI ts id).toNat (0, ByteArray.empty, false, false, false, false)).snd.snd.fst, on, (ts.getD (atI ts id).toNat (0, ByteArray.empty, false, false, false, false)).snd.snd.snd.snd.fst, (ts.getD (atI ts id).toNat (0, ByteArray.empty, false, false, false, false)).snd.snd.snd.snd.snd))])) (none)))) (none)) (none)) (none))) (none)) (some (SV.tup [SV.agg [SV.raw (Value.int IntKind.i64 (0 : Int)), SV.raw (Value.bool false), SV.raw (Value.slice none (0 : Nat) (0 : Nat))], SV.raw (Value.slice none (0 : Nat) (0 : Nat)), SV.raw (Value.int IntKind.i64 (2 : Int))], []))) (none) := by kernel_rfl

abbrev errA (e : Int) : Tr (SV × List (SO C27)) := .leaf (.tup [.agg [.raw (.int .i64 0), .raw (.bool false), .raw (.slice none 0 0)], .raw (.slice none 0 0), .raw (.int .i64 e)], [])
/-- An act that was taken: the ports, and what is said of it where the driver is ready. -/
abbrev tellA (most : Int) (rdy : Bool) (us : List Pt) (m : Mg) : Tr (SV × List (SO C27)) := .br (!rdy) (.leaf (.tup [.agg [.raw (.int .i64 most), .raw (.bool rdy), .h 1], .raw (.slice none 0 0), .raw (.int .i64 0)], [.sl true false 46 us]))
  (.leaf (.tup [.agg [.raw (.int .i64 most), .raw (.bool rdy), .h 1], .h 2, .raw (.int .i64 0)], [.sl true false 46 us, .sl true true 38 [m]]))
def addT : FnF C27 := fun args os => match args, os with
  | [.agg [.raw (.int .i64 most), .raw (.bool rdy), .h 0], .raw (.int .i64 id), .raw (.string nm), .raw (.bool on)], [.sl false f 46 ts] =>
    .br (decide (ts.length ≤ 1000)) (.br (okP most rdy ts) (.br (decide (id < 0)) (errA 2) (.br (decide (most ≤ id)) (errA 2) (.br (decide ((64 : Int) < (nm.size : Int))) (errA 2) (.br (decide (0 ≤ atI ts id)) (errA 9) (tellA most rdy (insL ts (inAt ts id) [((id, nm, on, false, false, false) : Pt)]) (id % 4294967296, 1, 1, ByteArray.empty)))))) (errA 2)) .fail
  | _, _ => .fail
theorem addT_ok : ∀ args os r, (addT args os).get = some r → Fn0 Try.prog 20 args os r := fun args os r h => by
  unfold addT at h
  split at h
  · rename_i most rdy id nm on f ts
    obtain ⟨hl, h2⟩ := Tr.get_ask.1 h
    change List Pt at ts
    have hl2 : (ts : List Pt).length ≤ 1000 := of_decide_eq_true hl
    refine fnC_ok (sp := sfA) (ls := noLs) (unr := fun _ _ => 20) (d := 10) plain mixed sfA_ok noLs_ok ?_
    refine (add_tree f most rdy ts id nm on).trans (Eq.trans ?_ h2)
    rw [decide_eq_true (show ts.length ≤ 100000 by omega), decide_eq_true hl2]
    cases okP most rdy ts <;> cases decide (id < 0) <;> cases decide (most ≤ id) <;> cases decide ((64 : Int) < (nm.size : Int)) <;> cases decide (0 ≤ atI ts id) <;> cases rdy <;> rfl
  · cases h
def remT : FnF C27 := fun args os => match args, os with
  | [.agg [.raw (.int .i64 most), .raw (.bool rdy), .h 0], .raw (.int .i64 id)], [.sl false f 46 ts] =>
    .br (decide (ts.length ≤ 1000)) (.br (okP most rdy ts) (.br (decide (atI ts id < 0)) (errA 6) (tellA most rdy (delL ts (atI ts id).toNat (atI ts id + 1).toNat) (id % 4294967296, 2, 1, ByteArray.empty))) (errA 2)) .fail
  | _, _ => .fail
theorem remT_ok : ∀ args os r, (remT args os).get = some r → Fn0 Try.prog 21 args os r := fun args os r h => by
  unfold remT at h
  split at h
  · rename_i most rdy id f ts
    obtain ⟨hl, h2⟩ := Tr.get_ask.1 h
    change List Pt at ts
    have hl2 : (ts : List Pt).length ≤ 1000 := of_decide_eq_true hl
    refine fnC_ok (sp := sfA) (ls := noLs) (unr := fun _ _ => 20) (d := 10) plain mixed sfA_ok noLs_ok ?_
    refine (rem_tree f most rdy ts id).trans (Eq.trans ?_ h2)
    rw [decide_eq_true (show ts.length ≤ 100000 by omega)]
    by_cases hi : atI ts id < 0
    · rw [decide_eq_true hi]
      cases okP most rdy ts <;> rfl
    · have hb := atI_lt hi
      rw [decide_eq_false hi, decide_eq_true (show ts.length ≤ 1000 ∧ 0 ≤ atI ts id ∧ atI ts id < (ts.length : Int) from ⟨hl2, hb.1, hb.2⟩)]
      cases okP most rdy ts <;> cases rdy <;> rfl
  · cases h
def bitI (b : Bool) : Int := match b with
  | true => 1
  | false => 0
/-- Open's change of the list, and whether the driver is told. -/
def openL (ts : List Pt) (id : Int) (on : Bool) : List Pt := ts.set (atI ts id).toNat ((atP ts (atI ts id)).1, (atP ts (atI ts id)).2.1, (atP ts (atI ts id)).2.2.1, on, (atP ts (atI ts id)).2.2.2.2.1, (atP ts (atI ts id)).2.2.2.2.2)
def tellsO (ts : List Pt) (id : Int) (on : Bool) : Bool := (atP ts (atI ts id)).2.2.2.2.2 && !((atP ts (atI ts id)).2.2.2.1 == on)
def openT : FnF C27 := fun args os => match args, os with
  | [.agg [.raw (.int .i64 most), .raw (.bool rdy), .h 0], .raw (.int .i64 id), .raw (.bool on)], [.sl false f 46 ts] =>
    .br (decide (ts.length ≤ 1000)) (.br (okP most rdy ts) (.br (decide (atI ts id < 0)) (errA 6) (.br (tellsO ts id on) (.leaf (.tup [.agg [.raw (.int .i64 most), .raw (.bool rdy), .h 1], .h 2, .raw (.int .i64 0)], [.sl true false 46 (openL ts id on), .sl true true 38 [((id % 4294967296, 6, bitI on, ByteArray.empty) : Mg)]]))
      (.leaf (.tup [.agg [.raw (.int .i64 most), .raw (.bool rdy), .h 1], .raw (.slice none 0 0), .raw (.int .i64 0)], [.sl true false 46 (openL ts id on)])))) (errA 2)) .fail
  | _, _ => .fail
theorem openT_ok : ∀ args os r, (openT args os).get = some r → Fn0 Try.prog 26 args os r := fun args os r h => by
  unfold openT at h
  split at h
  · rename_i most rdy id on f ts
    obtain ⟨hl, h2⟩ := Tr.get_ask.1 h
    change List Pt at ts
    have hl2 : (ts : List Pt).length ≤ 1000 := of_decide_eq_true hl
    refine fnC_ok (sp := sfA) (ls := noLs) (unr := fun _ _ => 20) (d := 10) plain mixed sfA_ok noLs_ok ?_
    refine (open_tree f most rdy ts id on).trans (Eq.trans ?_ h2)
    rw [decide_eq_true (show ts.length ≤ 100000 by omega)]
    unfold tellsO openL
    simp only [atP]
    by_cases hi : atI ts id < 0
    · rw [decide_eq_true hi]
      cases okP most rdy ts <;> rfl
    · obtain ⟨i1, i2⟩ := atI_lt hi
      rw [decide_eq_false hi, decide_eq_true (show (atI ts id).toNat < ts.length by omega), inB_mk (i := atI ts id) (n := ts.length) ⟨i1, i2⟩]
      generalize ts.getD (atI ts id).toNat (0, ByteArray.empty, false, false, false, false) = x
      obtain ⟨a, b, c, d, e, g⟩ := x
      cases okP most rdy ts <;> cases g <;> cases d <;> cases on <;> rfl
  · cases h
end
end Go.Proofs.Ytgegagndihffpaa
