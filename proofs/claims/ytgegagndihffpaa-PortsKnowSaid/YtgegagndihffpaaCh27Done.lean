/-
  Chapter 27: one act, and Find, as specifications. Own work; nothing here is trusted.
-/
import Derived.Test.YtgegagndihffpaaCh27Done0
namespace Go.Proofs.Ytgegagndihffpaa
open Go Go.Sx Go.RowKit
set_option maxRecDepth 1000000
set_option maxHeartbeats 8000000
set_option linter.unusedVariables false
set_option linter.unusedSimpArgs false
noncomputable section
theorem find_tree (f : Bool) (most : Int) (rdy : Bool) (ts : List Pt) (id : Int) : (fD 15 [pA most rdy (.h 0), .raw (.int .i64 id)] [.sl false f 46 ts]).get =
  bro (decide (ts.length ≤ (100000 : Nat))) (bro (decide ((0 : Int) ≤ atI ts id)) (bro (decide (ts.length ≤ (100000 : Nat))) (bro (okP most rdy ts) (bro (inB (atI ts id) ts.length) (bro (decide ((atI ts id).toNat < ts.length)) (some (SV.tup [SV.agg [SV.raw (Value.int IntKind.i64 (ts.getD (atI ts id).toNat (0, ByteArray.empty, false, false, false, false)).fst), SV.raw (Value.string (ts.getD (atI ts id).toNat (0, ByteArray.empty, false, false, false, false)).snd.1), SV.raw (Value.bool (ts.getD (atI ts id).toNat (0, ByteArray.empty, false, false, false, false)).snd.snd.fst), SV.raw (Value.bool (ts.getD (atI ts id).toNat (0, ByteArray.empty, false, false, false, false)).snd.snd.snd.fst), SV.raw (Value.bool (ts.getD (atI ts id).toNat (0, ByteArray.empty, false, false, false, false)).snd.snd.snd.snd.fst), SV.raw (Value.bool (ts.getD (atI ts id).toNat (0, ByteArray.empty, false, false, false, false)).snd.snd.snd.snd.snd)], SV.raw (Value.bool true)], [])) (none)) (none)) (some (SV.tup [SV.agg [SV.raw (Value.int IntKind.i64 (0 : Int)), SV.raw (Value.string ByteArray.empty), SV.raw (Value.bool false), SV.raw (Value.bool false), SV.raw (Value.bool false), SV.raw (Value.bool false)], SV.raw (Value.bool false)], []))) (none)) (some (SV.tup [SV.agg [SV.raw (Value.int IntKind.i64 (0 : Int)), SV.raw (Value.string ByteArray.empty), SV.raw (Value.bool false), SV.raw (Value.bool false), SV.raw (Value.bool false), SV.raw (Value.bool false)], SV.raw (Value.bool false)], []))) (none) := by kernel_rfl
theorem done_tree (kind : Int) (f : Bool) (most : Int) (rdy : Bool) (ts : List Pt) (id : Int) (nm : ByteArray) (on : Bool) (a b c : Int) (s : ByteArray) : (fD 12 [pA most rdy (.h 0), aS kind id nm on a b c s] [.sl false f 46 ts]).get =
  bro (kind == (1 : Int)) (bro (decide (ts.length ≤ (100000 : Nat))) (bro (decide (ts.length ≤ (1000 : Nat))) (bro (okP most rdy ts) (bro (decide (id < (0 : Int))) (some (SV.tup [SV.agg [SV.raw (Value.int IntKind.i64 (0 : Int)), SV.raw (Value.bool false), SV.raw (Value.slice none (0 : Nat) (0 : Nat))], SV.raw (Value.slice none (0 : Nat) (0 : Nat)), SV.raw (Value.int IntKind.i64 (2 : Int))], [])) (bro (decide (most ≤ id)) (some (SV.tup [SV.agg [SV.raw (Value.int IntKind.i64 (0 : Int)), SV.raw (Value.bool false), SV.raw (Value.slice none (0 : Nat) (0 : Nat))], SV.raw (Value.slice none (0 : Nat) (0 : Nat)), SV.raw (Value.int IntKind.i64 (2 : Int))], [])) (bro (decide ((64 : Int) < (↑nm.size : Int))) (some (SV.tup [SV.agg [SV.raw (Value.int IntKind.i64 (0 : Int)), SV.raw (Value.bool false), SV.raw (Value.slice none (0 : Nat) (0 : Nat))], SV.raw (Value.slice none (0 : Nat) (0 : Nat)), SV.raw (Value.int IntKind.i64 (2 : Int))], [])) (bro (decide ((0 : Int) ≤ atI ts id)) (some (SV.tup [SV.agg [SV.raw (Value.int IntKind.i64 (0 : Int)), SV.raw (Value.bool false), SV.raw (Value.slice none (0 : Nat) (0 : Nat))], SV.raw (Value.slice none (0 : Nat) (0 : Nat)), SV.raw (Value.int IntKind.i64 (9 : Int))], [])) (bro (!rdy) (some (SV.tup [SV.agg [SV.raw (Value.int IntKind.i64 most), SV.raw (Value.bool rdy), SV.h (1 : Nat)], SV.raw (Value.slice none (0 : Nat) (0 : Nat)), SV.raw (Value.int IntKind.i64 (0 : Int))], [SO.sl true false (46 : Nat) (insL ts (inAt ts id) [(id, nm, on, false, false, false)])])) (some (SV.tup [SV.agg [SV.raw (Value.int IntKind.i64 most), SV.raw (Value.bool rdy), SV.h (1 : Nat)], SV.h (2 : Nat), SV.raw (Value.int IntKind.i64 (0 : Int))], [SO.sl true false (46 : Nat) (insL ts (inAt ts id) [(id, nm, on, false, false, false)]), SO.sl true true (38 : Nat) [(id % (4294967296 : Int), (1 : Int), (1 : Int), ByteArray.empty)]]))))))) (some (SV.tup [SV.agg [SV.raw (Value.int IntKind.i64 (0 : Int)), SV.raw (Value.bool false), SV.raw (Value.slice none (0 : Nat) (0 : Nat))], SV.raw (Value.slice none (0 : Nat) (0 : Nat)), SV.raw (Value.int IntKind.i64 (2 : Int))], []))) (none)) (none)) (bro (kind == (2 : Int)) (bro (decide (ts.length ≤ (100000 : Nat))) (bro (decide (ts.length ≤ (1000 : Nat))) (bro (okP most rdy ts) (bro (decide (atI ts id < (0 : Int))) (some (SV.tup [SV.agg [SV.raw (Value.int IntKind.i64 (0 : Int)), SV.raw (Value.bool false), SV.raw (Value.slice none (0 : Nat) (0 : Nat))], SV.raw (Value.slice none (0 : Nat) (0 : Nat)), SV.raw (Value.int IntKind.i64 (6 : Int))], [])) (bro (!rdy) (some (SV.tup [SV.agg [SV.raw (Value.int IntKind.i64 most), SV.raw (Value.bool rdy), SV.h (1 : Nat)], SV.raw (Value.slice none (0 : Nat) (0 : Nat)), SV.raw (Value.int IntKind.i64 (0 : Int))], [SO.sl true false (46 : Nat) (delL ts (atI ts id).toNat (atI ts id + (1 : Int)).toNat)])) (some (SV.tup [SV.agg [SV.raw (Value.int IntKind.i64 most), SV.raw (Value.bool rdy), SV.h (1 : Nat)], SV.h (2 : Nat), SV.raw (Value.int IntKind.i64 (0 : Int))], [SO.sl true false (46 : Nat) (delL ts (atI ts id).toNat (atI ts id + (1 : Int)).toNat), SO.sl true true (38 : Nat) [(id % (4294967296 : Int), (2 : Int), (1 : Int), ByteArray.empty)]])))) (some (SV.tup [SV.agg [SV.raw (Value.int IntKind.i64 (0 : Int)), SV.raw (Value.bool false), SV.raw (Value.slice none (0 : Nat) (0 : Nat))], SV.raw (Value.slice none (0 : Nat) (0 : Nat)), SV.raw (Value.int IntKind.i64 (2 : Int))], []))) (none)) (none)) (bro (kind == (3 : Int)) (bro (decide (ts.length ≤ (100000 : Nat))) (bro (decide (ts.length ≤ (1000 : Nat))) (bro (okP most rdy ts) (bro (decide (atI ts id < (0 : Int))) (some (SV.tup [SV.agg [SV.raw (Value.int IntKind.i64 (0 : Int)), SV.raw (Value.bool false), SV.raw (Value.slice none (0 : Nat) (0 : Nat))], SV.raw (Value.slice none (0 : Nat) (0 : Nat)), SV.raw (Value.int IntKind.i64 (6 : Int))], [])) (bro (tellsO ts id on) (some (SV.tup [SV.agg [SV.raw (Value.int IntKind.i64 most), SV.raw (Value.bool rdy), SV.h (1 : Nat)], SV.h (2 : Nat), SV.raw (Value.int IntKind.i64 (0 : Int))], [SO.sl true false (46 : Nat) (openL ts id on), SO.sl true true (38 : Nat) [(id % (4294967296 : Int), (6 : Int), bitI on, ByteArray.empty)]])) (some (SV.tup [SV.agg [SV.raw (Value.int IntKind.i64 most), SV.raw (Value.bool rdy), SV.h (1 : Nat)], SV.raw (Value.slice none (0 : Nat) (0 : Nat)), SV.raw (Value.int IntKind.i64 (0 : Int))], [SO.sl true false (46 : Nat) (openL ts id on)])))) (some (SV.tup [SV.agg [SV.raw (Value.int IntKind.i64 (0 : Int)), SV.raw (Value.bool false), SV.raw (Value.slice none (0 : Nat) (0 : Nat))], SV.raw (Value.slice none (0 : Nat) (0 : Nat)), SV.raw (Value.int IntKind.i64 (2 : Int))], []))) (none)) (none)) (bro (decide (ts.length ≤ (100000 : Nat))) (bro (decide (ts.length ≤ (300 : Nat)) && inR64 a) (bro ((guestR most rdy ts (a, b, c, s)).snd.snd.isSome) (some (SV.tup [SV.agg [SV.raw (Value.int IntKind.i64 most), SV.raw (Value.bool (guestR most rdy ts (a, b, c, s)).fst), SV.h (1 : Nat)], SV.h (2 : Nat), SV.raw (Value.int IntKind.i64 (0 : Int))], [SO.sl true false (46 : Nat) (guestR most rdy ts (a, b, c, s)).snd.fst, SO.sl true false (38 : Nat) ((guestR most rdy ts (a, b, c, s)).snd.snd.getD [])])) (some (SV.tup [SV.agg [SV.raw (Value.int IntKind.i64 most), SV.raw (Value.bool (guestR most rdy ts (a, b, c, s)).fst), SV.h (1 : Nat)], SV.raw (Value.slice none (0 : Nat) (0 : Nat)), SV.raw (Value.int IntKind.i64 (0 : Int))], [SO.sl true false (46 : Nat) (guestR most rdy ts (a, b, c, s)).snd.fst]))) (none)) (none)))) := by kernel_rfl
theorem done_treeN (kind : Int) (most : Int) (rdy : Bool) (id : Int) (nm : ByteArray) (on : Bool) (a b c : Int) (s : ByteArray) : (fD 12 [pA most rdy nlS, aS kind id nm on a b c s] []).get =
  bro (kind == (1 : Int)) (bro (okP most rdy []) (bro (decide (id < (0 : Int))) (some (SV.tup [SV.agg [SV.raw (Value.int IntKind.i64 (0 : Int)), SV.raw (Value.bool false), SV.raw (Value.slice none (0 : Nat) (0 : Nat))], SV.raw (Value.slice none (0 : Nat) (0 : Nat)), SV.raw (Value.int IntKind.i64 (2 : Int))], [])) (bro (decide (most ≤ id)) (some (SV.tup [SV.agg [SV.raw (Value.int IntKind.i64 (0 : Int)), SV.raw (Value.bool false), SV.raw (Value.slice none (0 : Nat) (0 : Nat))], SV.raw (Value.slice none (0 : Nat) (0 : Nat)), SV.raw (Value.int IntKind.i64 (2 : Int))], [])) (bro (decide ((64 : Int) < (↑nm.size : Int))) (some (SV.tup [SV.agg [SV.raw (Value.int IntKind.i64 (0 : Int)), SV.raw (Value.bool false), SV.raw (Value.slice none (0 : Nat) (0 : Nat))], SV.raw (Value.slice none (0 : Nat) (0 : Nat)), SV.raw (Value.int IntKind.i64 (2 : Int))], [])) (bro (!rdy) (some (SV.tup [SV.agg [SV.raw (Value.int IntKind.i64 most), SV.raw (Value.bool rdy), SV.h (0 : Nat)], SV.raw (Value.slice none (0 : Nat) (0 : Nat)), SV.raw (Value.int IntKind.i64 (0 : Int))], [SO.sl true false (46 : Nat) [(id, nm, on, false, false, false)]])) (some (SV.tup [SV.agg [SV.raw (Value.int IntKind.i64 most), SV.raw (Value.bool rdy), SV.h (0 : Nat)], SV.h (1 : Nat), SV.raw (Value.int IntKind.i64 (0 : Int))], [SO.sl true false (46 : Nat) [(id, nm, on, false, false, false)], SO.sl true true (38 : Nat) [(id % (4294967296 : Int), (1 : Int), (1 : Int), ByteArray.empty)]])))))) (some (SV.tup [SV.agg [SV.raw (Value.int IntKind.i64 (0 : Int)), SV.raw (Value.bool false), SV.raw (Value.slice none (0 : Nat) (0 : Nat))], SV.raw (Value.slice none (0 : Nat) (0 : Nat)), SV.raw (Value.int IntKind.i64 (2 : Int))], []))) (bro (kind == (2 : Int)) (bro (okP most rdy []) (some (SV.tup [SV.agg [SV.raw (Value.int IntKind.i64 (0 : Int)), SV.raw (Value.bool false), SV.raw (Value.slice none (0 : Nat) (0 : Nat))], SV.raw (Value.slice none (0 : Nat) (0 : Nat)), SV.raw (Value.int IntKind.i64 (6 : Int))], [])) (some (SV.tup [SV.agg [SV.raw (Value.int IntKind.i64 (0 : Int)), SV.raw (Value.bool false), SV.raw (Value.slice none (0 : Nat) (0 : Nat))], SV.raw (Value.slice none (0 : Nat) (0 : Nat)), SV.raw (Value.int IntKind.i64 (2 : Int))], []))) (bro (kind == (3 : Int)) (bro (okP most rdy []) (some (SV.tup [SV.agg [SV.raw (Value.int IntKind.i64 (0 : Int)), SV.raw (Value.bool false), SV.raw (Value.slice none (0 : Nat) (0 : Nat))], SV.raw (Value.slice none (0 : Nat) (0 : Nat)), SV.raw (Value.int IntKind.i64 (6 : Int))], [])) (some (SV.tup [SV.agg [SV.raw (Value.int IntKind.i64 (0 : Int)), SV.raw (Value.bool false), SV.raw (Value.slice none (0 : Nat) (0 : Nat))], SV.raw (Value.slice none (0 : Nat) (0 : Nat)), SV.raw (Value.int IntKind.i64 (2 : Int))], []))) (bro (decide (([] : List Pt).length ≤ (300 : Nat)) && inR64 a) (bro ((guestR most rdy [] (a, b, c, s)).snd.snd.isSome) (some (SV.tup [SV.agg [SV.raw (Value.int IntKind.i64 most), SV.raw (Value.bool (guestR most rdy [] (a, b, c, s)).fst), SV.h (0 : Nat)], SV.h (1 : Nat), SV.raw (Value.int IntKind.i64 (0 : Int))], [SO.sl true false (46 : Nat) (guestR most rdy [] (a, b, c, s)).snd.fst, SO.sl true false (38 : Nat) ((guestR most rdy [] (a, b, c, s)).snd.snd.getD [])])) (some (SV.tup [SV.agg [SV.raw (Value.int IntKind.i64 most), SV.raw (Value.bool (guestR most rdy [] (a, b, c, s)).fst), SV.h (0 : Nat)], SV.raw (Value.slice none (0 : Nat) (0 : Nat)), SV.raw (Value.int IntKind.i64 (0 : Int))], [SO.sl true false (46 : Nat) (guestR most rdy [] (a, b, c, s)).snd.fst]))) (none)))) := by kernel_rfl

abbrev ptS (x : Pt) : SV := .agg [.raw (.int .i64 x.1), .raw (.string x.2.1), .raw (.bool x.2.2.1), .raw (.bool x.2.2.2.1), .raw (.bool x.2.2.2.2.1), .raw (.bool x.2.2.2.2.2)]
def findP (most : Int) (rdy : Bool) (ts : List Pt) (id : Int) : Pt × Bool := if 0 ≤ atI ts id ∧ okP most rdy ts = true then (atP ts (atI ts id), true) else ((0, ByteArray.empty, false, false, false, false), false)
def findT : FnF C27 := fun args os => match args, os with
  | [.agg [.raw (.int .i64 most), .raw (.bool rdy), .h 0], .raw (.int .i64 id)], [.sl false f 46 ts] => .br (decide (ts.length ≤ 100000)) (.leaf (.tup [ptS (findP most rdy ts id).1, .raw (.bool (findP most rdy ts id).2)], [])) .fail
  | _, _ => .fail
theorem findT_ok : ∀ args os r, (findT args os).get = some r → Fn0 Try.prog 15 args os r := fun args os r h => by
  unfold findT at h
  split at h
  · rename_i most rdy id f ts
    obtain ⟨hl, h2⟩ := Tr.get_ask.1 h
    change List Pt at ts
    have hl2 : decide ((ts : List Pt).length ≤ 100000) = true := hl
    refine fnC_ok (sp := sfD) (ls := noLs) (unr := fun _ _ => 20) (d := 10) plain mixed sfD_ok noLs_ok ?_
    refine (find_tree f most rdy ts id).trans (Eq.trans ?_ h2)
    rw [hl2]
    simp only [bro_true]
    generalize hG : findP most rdy ts id = G
    unfold findP at hG
    by_cases hi : 0 ≤ atI ts id
    · obtain ⟨i1, i2⟩ := atI_lt (ts := ts) (id := id) (by omega)
      rw [decide_eq_true hi, inB_mk (i := atI ts id) (n := ts.length) ⟨i1, i2⟩, decide_eq_true (show (atI ts id).toNat < ts.length by omega)]
      cases hp : okP most rdy ts with
      | true => rw [if_pos ⟨hi, hp⟩] at hG; subst hG; rfl
      | false => rw [if_neg (fun h => by rw [hp] at h; cases h.2)] at hG; subst hG; rfl
    · rw [if_neg (fun h => hi h.1)] at hG
      subst hG
      rw [decide_eq_false hi]; rfl
  · cases h
abbrev DR := Int × Bool × List Pt × Option (List Mg)
def errR (e : Int) : DR := (e, false, [], none)
/-- One act: how it ends, what there is behind it, and what is said. -/
def doneR (most : Int) (rdy : Bool) (ts : List Pt) (a : Ac) : DR :=
  if a.1 = 1 then (if okP most rdy ts = true then (if a.2.1 < 0 then errR 2 else if most ≤ a.2.1 then errR 2 else if (64 : Int) < (a.2.2.1.size : Int) then errR 2 else if 0 ≤ atI ts a.2.1 then errR 9
    else (0, rdy, insL ts (inAt ts a.2.1) [(a.2.1, a.2.2.1, a.2.2.2.1, false, false, false)], sel rdy (some [(a.2.1 % 4294967296, 1, 1, ByteArray.empty)]) none)) else errR 2)
  else if a.1 = 2 then (if okP most rdy ts = true then (if atI ts a.2.1 < 0 then errR 6 else (0, rdy, delL ts (atI ts a.2.1).toNat (atI ts a.2.1 + 1).toNat, sel rdy (some [(a.2.1 % 4294967296, 2, 1, ByteArray.empty)]) none)) else errR 2)
  else if a.1 = 3 then (if okP most rdy ts = true then (if atI ts a.2.1 < 0 then errR 6 else (0, rdy, openL ts a.2.1 a.2.2.2.1, sel (tellsO ts a.2.1 a.2.2.2.1) (some [(a.2.1 % 4294967296, 6, bitI a.2.2.2.1, ByteArray.empty)]) none)) else errR 2)
  else (0, guestR most rdy ts (a.2.2.2.2.1, a.2.2.2.2.2.1, a.2.2.2.2.2.2.1, a.2.2.2.2.2.2.2))
def fullD (kind : Int) : Bool := kind == 1 || (kind == 2 || kind == 3)
abbrev doneL (most : Int) (kind : Int) (n : Nat) (D : DR) : Tr (SV × List (SO C27)) := .br (D.1 == 0) (.br D.2.2.2.isSome (.leaf (.tup [pA most D.2.1 (.h n), .h (n + 1), .raw (.int .i64 0)], [.sl true false 46 D.2.2.1, .sl true (fullD kind) 38 (D.2.2.2.getD [])]))
  (.leaf (.tup [pA most D.2.1 (.h n), nlS, .raw (.int .i64 0)], [.sl true false 46 D.2.2.1]))) (errA D.1)
def doneT : FnF C27 := fun args os => match args, os with
  | [.agg [.raw (.int .i64 most), .raw (.bool rdy), .h 0], .agg [.raw (.int .i64 kind), .raw (.int .i64 id), .raw (.string nm), .raw (.bool on), .raw (.int .u32 a), .raw (.int .u16 b), .raw (.int .u16 c), .raw (.string s)]], [.sl false f 46 ts] =>
    .br (decide (ts.length ≤ 300) && inR64 a) (doneL most kind 1 (doneR most rdy ts (kind, id, nm, on, a, b, c, s))) .fail
  | [.agg [.raw (.int .i64 most), .raw (.bool rdy), .raw (.slice none 0 0)], .agg [.raw (.int .i64 kind), .raw (.int .i64 id), .raw (.string nm), .raw (.bool on), .raw (.int .u32 a), .raw (.int .u16 b), .raw (.int .u16 c), .raw (.string s)]], [] =>
    .br (inR64 a) (doneL most kind 0 (doneR most rdy [] (kind, id, nm, on, a, b, c, s))) .fail
  | _, _ => .fail
theorem doneT_ok : ∀ args os r, (doneT args os).get = some r → Fn0 Try.prog 12 args os r := fun args os r h => by
  unfold doneT at h
  split at h
  · rename_i most rdy kind id nm on a b c s f ts
    obtain ⟨hl, h2⟩ := Tr.get_ask.1 h
    change List Pt at ts
    have hl' := hl
    rw [Bool.and_eq_true] at hl
    obtain ⟨hl, hr⟩ := hl
    have hl2 : (ts : List Pt).length ≤ 300 := of_decide_eq_true hl
    refine fnC_ok (sp := sfD) (ls := noLs) (unr := fun _ _ => 20) (d := 10) plain mixed sfD_ok noLs_ok ?_
    refine (done_tree kind f most rdy ts id nm on a b c s).trans (Eq.trans ?_ h2)
    clear h h2 hl
    have k1 : decide (ts.length ≤ 100000) = true := decide_eq_true (by omega)
    have k2 : decide (ts.length ≤ 1000) = true := decide_eq_true (by omega)
    have k3 : (decide ((ts : List Pt).length ≤ 300) && inR64 a) = true := hl'
    generalize hD : doneR most rdy ts (kind, id, nm, on, a, b, c, s) = D
    simp only [k1, k2, k3, bro_true]
    unfold doneR at hD
    simp only at hD
    by_cases q1 : kind = 1
    · subst q1
      rw [if_pos rfl] at hD
      cases hp : okP most rdy ts with
      | false => rw [if_neg (by rw [hp]; decide)] at hD; subst hD; rfl
      | true =>
        rw [if_pos hp] at hD
        by_cases c1 : id < 0
        · rw [if_pos c1] at hD; subst hD; rw [decide_eq_true c1]; rfl
        rw [if_neg c1] at hD; rw [decide_eq_false c1]
        by_cases c2 : most ≤ id
        · rw [if_pos c2] at hD; subst hD; rw [decide_eq_true c2]; rfl
        rw [if_neg c2] at hD; rw [decide_eq_false c2]
        by_cases c3 : (64 : Int) < (nm.size : Int)
        · rw [if_pos c3] at hD; subst hD; rw [decide_eq_true c3]; rfl
        rw [if_neg c3] at hD; rw [decide_eq_false c3]
        by_cases c4 : 0 ≤ atI ts id
        · rw [if_pos c4] at hD; subst hD; rw [decide_eq_true c4]; rfl
        rw [if_neg c4] at hD; rw [decide_eq_false c4]
        subst hD
        cases rdy <;> rfl
    rw [if_neg q1] at hD
    rw [show (kind == 1) = false from beq_eq_false_iff_ne.2 q1]
    by_cases q2 : kind = 2
    · subst q2
      rw [if_pos rfl] at hD
      cases hp : okP most rdy ts with
      | false => rw [if_neg (by rw [hp]; decide)] at hD; subst hD; rfl
      | true =>
        rw [if_pos hp] at hD
        by_cases c1 : atI ts id < 0
        · rw [if_pos c1] at hD; subst hD; rw [decide_eq_true c1]; rfl
        rw [if_neg c1] at hD; rw [decide_eq_false c1]
        subst hD
        cases rdy <;> rfl
    rw [if_neg q2] at hD
    rw [show (kind == 2) = false from beq_eq_false_iff_ne.2 q2]
    by_cases q3 : kind = 3
    · subst q3
      rw [if_pos rfl] at hD
      cases hp : okP most rdy ts with
      | false => rw [if_neg (by rw [hp]; decide)] at hD; subst hD; rfl
      | true =>
        rw [if_pos hp] at hD
        by_cases c1 : atI ts id < 0
        · rw [if_pos c1] at hD; subst hD; rw [decide_eq_true c1]; rfl
        rw [if_neg c1] at hD; rw [decide_eq_false c1]
        subst hD
        cases ht : tellsO ts id on <;> rfl
    rw [if_neg q3] at hD
    rw [show (kind == 3) = false from beq_eq_false_iff_ne.2 q3]
    subst hD
    have hf : fullD kind = false := by
      unfold fullD
      rw [show (kind == 1) = false from beq_eq_false_iff_ne.2 q1, show (kind == 2) = false from beq_eq_false_iff_ne.2 q2, show (kind == 3) = false from beq_eq_false_iff_ne.2 q3]; rfl
    unfold doneL
    rw [hf]
    generalize guestR most rdy ts (a, b, c, s) = G
    obtain ⟨g1, g2, g3⟩ := G
    cases g3 <;> rfl
  · rename_i most rdy kind id nm on a b c s
    obtain ⟨hr, h2⟩ := Tr.get_ask.1 h
    refine fnC_ok (sp := sfD) (ls := noLs) (unr := fun _ _ => 20) (d := 10) plain mixed sfD_ok noLs_ok ?_
    refine (done_treeN kind most rdy id nm on a b c s).trans (Eq.trans ?_ h2)
    clear h h2
    have k3 : (decide (([] : List Pt).length ≤ 300) && inR64 a) = true := by rw [hr]; rfl
    have hat : atI [] id = -1 := at_none (fun _ h => by cases h)
    generalize hD : doneR most rdy [] (kind, id, nm, on, a, b, c, s) = D
    simp only [k3, bro_true]
    unfold doneR at hD
    simp only [hat] at hD
    by_cases q1 : kind = 1
    · subst q1
      rw [if_pos rfl] at hD
      cases hp : okP most rdy [] with
      | false => rw [if_neg (by rw [hp]; decide)] at hD; subst hD; rfl
      | true =>
        rw [if_pos hp] at hD
        by_cases c1 : id < 0
        · rw [if_pos c1] at hD; subst hD; rw [decide_eq_true c1]; rfl
        rw [if_neg c1] at hD; rw [decide_eq_false c1]
        by_cases c2 : most ≤ id
        · rw [if_pos c2] at hD; subst hD; rw [decide_eq_true c2]; rfl
        rw [if_neg c2] at hD; rw [decide_eq_false c2]
        by_cases c3 : (64 : Int) < (nm.size : Int)
        · rw [if_pos c3] at hD; subst hD; rw [decide_eq_true c3]; rfl
        rw [if_neg c3] at hD; rw [decide_eq_false c3]
        rw [if_neg (by decide)] at hD
        subst hD
        cases rdy <;> rfl
    rw [if_neg q1] at hD
    rw [show (kind == 1) = false from beq_eq_false_iff_ne.2 q1]
    by_cases q2 : kind = 2
    · subst q2
      rw [if_pos rfl] at hD
      cases hp : okP most rdy [] with
      | false => rw [if_neg (by rw [hp]; decide)] at hD; subst hD; rfl
      | true => rw [if_pos hp, if_pos (by decide)] at hD; subst hD; rfl
    rw [if_neg q2] at hD
    rw [show (kind == 2) = false from beq_eq_false_iff_ne.2 q2]
    by_cases q3 : kind = 3
    · subst q3
      rw [if_pos rfl] at hD
      cases hp : okP most rdy [] with
      | false => rw [if_neg (by rw [hp]; decide)] at hD; subst hD; rfl
      | true => rw [if_pos hp, if_pos (by decide)] at hD; subst hD; rfl
    rw [if_neg q3] at hD
    rw [show (kind == 3) = false from beq_eq_false_iff_ne.2 q3]
    subst hD
    have hf : fullD kind = false := by
      unfold fullD
      rw [show (kind == 1) = false from beq_eq_false_iff_ne.2 q1, show (kind == 2) = false from beq_eq_false_iff_ne.2 q2, show (kind == 3) = false from beq_eq_false_iff_ne.2 q3]; rfl
    unfold doneL
    rw [hf]
    generalize guestR most rdy [] (a, b, c, s) = G
    obtain ⟨g1, g2, g3⟩ := G
    cases g3 <;> rfl
  · cases h
end
end Go.Proofs.Ytgegagndihffpaa
