/-
  Chapter 27: PortsBack answers true. Own work; nothing here is trusted.
-/
import Derived.Test.YtgegagndihffpaaCh27Back3
import Derived.Test.YtgegagndihffpaaPortsTwiceWalk
import Derived.Test.YtgegagndihffpaaSxC
namespace Go.Proofs.Ytgegagndihffpaa
open Go Go.Sx Go.RowKit
set_option maxRecDepth 1000000
set_option maxHeartbeats 8000000
set_option linter.unusedVariables false
set_option linter.unusedSimpArgs false
noncomputable section

theorem pb11_g1 (fb : Bool) (bs : List Int) (f : Bool) (most : Int) (rdy : Bool) (ts : List Pt) (a b c : Int) (s : ByteArray) : Tr.follow [false, true, true, true, true, true, true, true, true, true, true] (fB11 fb bs f most rdy ts a b c s) =
  some ([false,
  decide ((100 : Int) < (↑s.size : Int)),
  true,
  true,
  true,
  true,
  true,
  true,
  true,
  true,
  true],
  (SV.raw (Value.bool true), [])) := by kernel_rfl
theorem pb11_g2 (fb : Bool) (bs : List Int) (f : Bool) (most : Int) (rdy : Bool) (ts : List Pt) (a b c : Int) (s : ByteArray) : Tr.follow [false, false, false, false, true, true, true, true, true, true] (fB11 fb bs f most rdy ts a b c s) =
  some ([false,
  decide ((100 : Int) < (↑s.size : Int)),
  false,
  false,
  decide ((300 : Int) < (↑bs.length : Int)),
  true,
  true,
  true,
  true,
  true],
  (SV.raw (Value.bool true), [])) := by kernel_rfl
theorem pb11_g3 (fb : Bool) (bs : List Int) (f : Bool) (most : Int) (rdy : Bool) (ts : List Pt) (a b c : Int) (s : ByteArray) : Tr.follow [false, false, false, false, false, false, false, false, true] (fB11 fb bs f most rdy ts a b c s) =
  some ([false,
  decide ((100 : Int) < (↑s.size : Int)),
  false,
  false,
  decide ((300 : Int) < (↑bs.length : Int)),
  false,
  false,
  false,
  decide ((60 : Int) < (↑ts.length : Int))],
  (SV.raw (Value.bool true), [])) := by kernel_rfl
theorem pb11_ttc (fb : Bool) (bs : List Int) (f : Bool) (most : Int) (rdy : Bool) (ts : List Pt) (a b c : Int) (s : ByteArray) : Tr.follow [false, false, false, false, false, false, false, false, false, true, true, true, true, false, false, false, false, false, false, true, true, true, false, false, false, false, true, false, true] (fB11 fb bs f most rdy ts a b c s) =
  some ([false,
  decide ((100 : Int) < (↑s.size : Int)),
  false,
  false,
  decide ((300 : Int) < (↑bs.length : Int)),
  false,
  false,
  false,
  decide ((60 : Int) < (↑ts.length : Int)),
  roomB (([] : List Int).length + bs.length) Try.prog.types[(5 : Nat)].bytes,
  decide (bs.length ≤ (100000 : Nat)),
  (readR bs).snd == (0 : Int),
  okM (readR bs).fst.snd.fst (readR bs).fst.snd.snd.snd,
  false,
  false,
  false,
  false,
  false,
  !(strOf (List.map (fun x => x) (msgL (readR bs).fst.fst (readR bs).fst.snd.fst (readR bs).fst.snd.snd.fst (readR bs).fst.snd.snd.snd))).toList == (strOf (List.map (fun x => x) bs)).toList,
  okM b s,
  true,
  decide ((msgL a b c s).length ≤ (100000 : Nat)),
  (readR (msgL a b c s)).snd != (0 : Int),
  false,
  false,
  !((readR (msgL a b c s)).fst.fst == a && ((readR (msgL a b c s)).fst.snd.fst == b && ((readR (msgL a b c s)).fst.snd.snd.fst == c && ((readR (msgL a b c s)).fst.snd.snd.snd.toList == s.toList && true)))),
  decide (ts.length ≤ (100000 : Nat)),
  okP most rdy ts,
  true],
  (SV.raw (Value.bool true), [])) := by kernel_rfl
theorem pb11_ttt (fb : Bool) (bs : List Int) (f : Bool) (most : Int) (rdy : Bool) (ts : List Pt) (a b c : Int) (s : ByteArray) : Tr.follow [false, false, false, false, false, false, false, false, false, true, true, true, true, false, false, false, false, false, false, true, true, true, false, false, false, false, true, true, false, true, true, false, true, true, true, false, false, false, false, false, false, false, false, false, false, false, false, false, false, false, false, false, false, false, false, true, true] (fB11 fb bs f most rdy ts a b c s) =
  some ([false,
  decide ((100 : Int) < (↑s.size : Int)),
  false,
  false,
  decide ((300 : Int) < (↑bs.length : Int)),
  false,
  false,
  false,
  decide ((60 : Int) < (↑ts.length : Int)),
  roomB (([] : List Int).length + bs.length) Try.prog.types[(5 : Nat)].bytes,
  decide (bs.length ≤ (100000 : Nat)),
  (readR bs).snd == (0 : Int),
  okM (readR bs).fst.snd.fst (readR bs).fst.snd.snd.snd,
  false,
  false,
  false,
  false,
  false,
  !(strOf (List.map (fun x => x) (msgL (readR bs).fst.fst (readR bs).fst.snd.fst (readR bs).fst.snd.snd.fst (readR bs).fst.snd.snd.snd))).toList == (strOf (List.map (fun x => x) bs)).toList,
  okM b s,
  true,
  decide ((msgL a b c s).length ≤ (100000 : Nat)),
  (readR (msgL a b c s)).snd != (0 : Int),
  false,
  false,
  !((readR (msgL a b c s)).fst.fst == a && ((readR (msgL a b c s)).fst.snd.fst == b && ((readR (msgL a b c s)).fst.snd.snd.fst == c && ((readR (msgL a b c s)).fst.snd.snd.snd.toList == s.toList && true)))),
  decide (ts.length ≤ (100000 : Nat)),
  okP most rdy ts,
  false,
  decide (ts.length ≤ (100000 : Nat)),
  decide (ts.length ≤ (300 : Nat)) && inR64 (0 : Int),
  (gQ most rdy ts).snd.snd.isSome,
  decide ((gQ most rdy ts).snd.fst.length ≤ (100000 : Nat)),
  decide ((gQ most rdy ts).snd.fst.length ≤ (300 : Nat)) && inR64 (0 : Int),
  (gR most rdy ts).snd.snd.isSome,
  (gQ most rdy ts).fst,
  false,
  false,
  false,
  false,
  false,
  false,
  false,
  false,
  false,
  (↑(gQ most rdy ts).snd.fst.length : Int) != (↑ts.length : Int),
  false,
  false,
  !(gR most rdy ts).fst,
  false,
  false,
  false,
  false,
  false,
  (↑((gR most rdy ts).snd.snd.getD []).length : Int) != (↑ts.length : Int),
  decide (ts.length ≤ (1000 : Nat) ∧ (gQ most rdy ts).snd.fst.length = ts.length ∧ ((gR most rdy ts).snd.snd.getD []).length = ts.length ∧ (((gR most rdy ts).snd.snd.getD []).all fun m => inR64 m.fst) = true),
  noneP (bP most rdy most (gQ most rdy ts).fst true false ((gR most rdy ts).snd.snd.getD []) false f ts true false (gQ most rdy ts).snd.fst) ts.length],
  (SV.raw (Value.bool true), [])) := by kernel_rfl
theorem pb11_ttf (fb : Bool) (bs : List Int) (f : Bool) (most : Int) (rdy : Bool) (ts : List Pt) (a b c : Int) (s : ByteArray) : Tr.follow [false, false, false, false, false, false, false, false, false, true, true, true, true, false, false, false, false, false, false, true, true, true, false, false, false, false, true, true, false, true, true, false, true, true, false, false, false, false, false, false, false, false, false, false, false, false, false, false, false, false, false, false, false, false, false, true, true] (fB11 fb bs f most rdy ts a b c s) =
  some ([false,
  decide ((100 : Int) < (↑s.size : Int)),
  false,
  false,
  decide ((300 : Int) < (↑bs.length : Int)),
  false,
  false,
  false,
  decide ((60 : Int) < (↑ts.length : Int)),
  roomB (([] : List Int).length + bs.length) Try.prog.types[(5 : Nat)].bytes,
  decide (bs.length ≤ (100000 : Nat)),
  (readR bs).snd == (0 : Int),
  okM (readR bs).fst.snd.fst (readR bs).fst.snd.snd.snd,
  false,
  false,
  false,
  false,
  false,
  !(strOf (List.map (fun x => x) (msgL (readR bs).fst.fst (readR bs).fst.snd.fst (readR bs).fst.snd.snd.fst (readR bs).fst.snd.snd.snd))).toList == (strOf (List.map (fun x => x) bs)).toList,
  okM b s,
  true,
  decide ((msgL a b c s).length ≤ (100000 : Nat)),
  (readR (msgL a b c s)).snd != (0 : Int),
  false,
  false,
  !((readR (msgL a b c s)).fst.fst == a && ((readR (msgL a b c s)).fst.snd.fst == b && ((readR (msgL a b c s)).fst.snd.snd.fst == c && ((readR (msgL a b c s)).fst.snd.snd.snd.toList == s.toList && true)))),
  decide (ts.length ≤ (100000 : Nat)),
  okP most rdy ts,
  false,
  decide (ts.length ≤ (100000 : Nat)),
  decide (ts.length ≤ (300 : Nat)) && inR64 (0 : Int),
  (gQ most rdy ts).snd.snd.isSome,
  decide ((gQ most rdy ts).snd.fst.length ≤ (100000 : Nat)),
  decide ((gQ most rdy ts).snd.fst.length ≤ (300 : Nat)) && inR64 (0 : Int),
  (gR most rdy ts).snd.snd.isSome,
  (gQ most rdy ts).fst,
  false,
  false,
  false,
  false,
  false,
  false,
  false,
  false,
  false,
  (↑(gQ most rdy ts).snd.fst.length : Int) != (↑ts.length : Int),
  false,
  false,
  !(gR most rdy ts).fst,
  false,
  false,
  false,
  false,
  false,
  (↑(0 : Nat) : Int) != (↑ts.length : Int),
  decide (ts.length = (0 : Nat)),
  noneP (bNP most rdy most (gQ most rdy ts).fst false f ts true false (gQ most rdy ts).snd.fst) ts.length],
  (SV.raw (Value.bool true), [])) := by kernel_rfl
theorem pb11_tfc (fb : Bool) (bs : List Int) (f : Bool) (most : Int) (rdy : Bool) (ts : List Pt) (a b c : Int) (s : ByteArray) : Tr.follow [false, false, false, false, false, false, false, false, false, true, true, true, true, false, false, false, false, false, false, false, false, true, false, true] (fB11 fb bs f most rdy ts a b c s) =
  some ([false,
  decide ((100 : Int) < (↑s.size : Int)),
  false,
  false,
  decide ((300 : Int) < (↑bs.length : Int)),
  false,
  false,
  false,
  decide ((60 : Int) < (↑ts.length : Int)),
  roomB (([] : List Int).length + bs.length) Try.prog.types[(5 : Nat)].bytes,
  decide (bs.length ≤ (100000 : Nat)),
  (readR bs).snd == (0 : Int),
  okM (readR bs).fst.snd.fst (readR bs).fst.snd.snd.snd,
  false,
  false,
  false,
  false,
  false,
  !(strOf (List.map (fun x => x) (msgL (readR bs).fst.fst (readR bs).fst.snd.fst (readR bs).fst.snd.snd.fst (readR bs).fst.snd.snd.snd))).toList == (strOf (List.map (fun x => x) bs)).toList,
  okM b s,
  false,
  decide (ts.length ≤ (100000 : Nat)),
  okP most rdy ts,
  true],
  (SV.raw (Value.bool true), [])) := by kernel_rfl
theorem pb11_tft (fb : Bool) (bs : List Int) (f : Bool) (most : Int) (rdy : Bool) (ts : List Pt) (a b c : Int) (s : ByteArray) : Tr.follow [false, false, false, false, false, false, false, false, false, true, true, true, true, false, false, false, false, false, false, false, false, true, true, false, true, true, false, true, true, true, false, false, false, false, false, false, false, false, false, false, false, false, false, false, false, false, false, false, false, false, true, true] (fB11 fb bs f most rdy ts a b c s) =
  some ([false,
  decide ((100 : Int) < (↑s.size : Int)),
  false,
  false,
  decide ((300 : Int) < (↑bs.length : Int)),
  false,
  false,
  false,
  decide ((60 : Int) < (↑ts.length : Int)),
  roomB (([] : List Int).length + bs.length) Try.prog.types[(5 : Nat)].bytes,
  decide (bs.length ≤ (100000 : Nat)),
  (readR bs).snd == (0 : Int),
  okM (readR bs).fst.snd.fst (readR bs).fst.snd.snd.snd,
  false,
  false,
  false,
  false,
  false,
  !(strOf (List.map (fun x => x) (msgL (readR bs).fst.fst (readR bs).fst.snd.fst (readR bs).fst.snd.snd.fst (readR bs).fst.snd.snd.snd))).toList == (strOf (List.map (fun x => x) bs)).toList,
  okM b s,
  false,
  decide (ts.length ≤ (100000 : Nat)),
  okP most rdy ts,
  false,
  decide (ts.length ≤ (100000 : Nat)),
  decide (ts.length ≤ (300 : Nat)) && inR64 (0 : Int),
  (gQ most rdy ts).snd.snd.isSome,
  decide ((gQ most rdy ts).snd.fst.length ≤ (100000 : Nat)),
  decide ((gQ most rdy ts).snd.fst.length ≤ (300 : Nat)) && inR64 (0 : Int),
  (gR most rdy ts).snd.snd.isSome,
  (gQ most rdy ts).fst,
  false,
  false,
  false,
  false,
  false,
  false,
  false,
  false,
  false,
  (↑(gQ most rdy ts).snd.fst.length : Int) != (↑ts.length : Int),
  false,
  false,
  !(gR most rdy ts).fst,
  false,
  false,
  false,
  false,
  false,
  (↑((gR most rdy ts).snd.snd.getD []).length : Int) != (↑ts.length : Int),
  decide (ts.length ≤ (1000 : Nat) ∧ (gQ most rdy ts).snd.fst.length = ts.length ∧ ((gR most rdy ts).snd.snd.getD []).length = ts.length ∧ (((gR most rdy ts).snd.snd.getD []).all fun m => inR64 m.fst) = true),
  noneP (bP most rdy most (gQ most rdy ts).fst true false ((gR most rdy ts).snd.snd.getD []) false f ts true false (gQ most rdy ts).snd.fst) ts.length],
  (SV.raw (Value.bool true), [])) := by kernel_rfl
theorem pb11_tff (fb : Bool) (bs : List Int) (f : Bool) (most : Int) (rdy : Bool) (ts : List Pt) (a b c : Int) (s : ByteArray) : Tr.follow [false, false, false, false, false, false, false, false, false, true, true, true, true, false, false, false, false, false, false, false, false, true, true, false, true, true, false, true, true, false, false, false, false, false, false, false, false, false, false, false, false, false, false, false, false, false, false, false, false, false, true, true] (fB11 fb bs f most rdy ts a b c s) =
  some ([false,
  decide ((100 : Int) < (↑s.size : Int)),
  false,
  false,
  decide ((300 : Int) < (↑bs.length : Int)),
  false,
  false,
  false,
  decide ((60 : Int) < (↑ts.length : Int)),
  roomB (([] : List Int).length + bs.length) Try.prog.types[(5 : Nat)].bytes,
  decide (bs.length ≤ (100000 : Nat)),
  (readR bs).snd == (0 : Int),
  okM (readR bs).fst.snd.fst (readR bs).fst.snd.snd.snd,
  false,
  false,
  false,
  false,
  false,
  !(strOf (List.map (fun x => x) (msgL (readR bs).fst.fst (readR bs).fst.snd.fst (readR bs).fst.snd.snd.fst (readR bs).fst.snd.snd.snd))).toList == (strOf (List.map (fun x => x) bs)).toList,
  okM b s,
  false,
  decide (ts.length ≤ (100000 : Nat)),
  okP most rdy ts,
  false,
  decide (ts.length ≤ (100000 : Nat)),
  decide (ts.length ≤ (300 : Nat)) && inR64 (0 : Int),
  (gQ most rdy ts).snd.snd.isSome,
  decide ((gQ most rdy ts).snd.fst.length ≤ (100000 : Nat)),
  decide ((gQ most rdy ts).snd.fst.length ≤ (300 : Nat)) && inR64 (0 : Int),
  (gR most rdy ts).snd.snd.isSome,
  (gQ most rdy ts).fst,
  false,
  false,
  false,
  false,
  false,
  false,
  false,
  false,
  false,
  (↑(gQ most rdy ts).snd.fst.length : Int) != (↑ts.length : Int),
  false,
  false,
  !(gR most rdy ts).fst,
  false,
  false,
  false,
  false,
  false,
  (↑(0 : Nat) : Int) != (↑ts.length : Int),
  decide (ts.length = (0 : Nat)),
  noneP (bNP most rdy most (gQ most rdy ts).fst false f ts true false (gQ most rdy ts).snd.fst) ts.length],
  (SV.raw (Value.bool true), [])) := by kernel_rfl
theorem pb11_ftc (fb : Bool) (bs : List Int) (f : Bool) (most : Int) (rdy : Bool) (ts : List Pt) (a b c : Int) (s : ByteArray) : Tr.follow [false, false, false, false, false, false, false, false, false, true, true, false, true, true, true, false, false, false, false, true, false, true] (fB11 fb bs f most rdy ts a b c s) =
  some ([false,
  decide ((100 : Int) < (↑s.size : Int)),
  false,
  false,
  decide ((300 : Int) < (↑bs.length : Int)),
  false,
  false,
  false,
  decide ((60 : Int) < (↑ts.length : Int)),
  roomB (([] : List Int).length + bs.length) Try.prog.types[(5 : Nat)].bytes,
  decide (bs.length ≤ (100000 : Nat)),
  (readR bs).snd == (0 : Int),
  okM b s,
  true,
  decide ((msgL a b c s).length ≤ (100000 : Nat)),
  (readR (msgL a b c s)).snd != (0 : Int),
  false,
  false,
  !((readR (msgL a b c s)).fst.fst == a && ((readR (msgL a b c s)).fst.snd.fst == b && ((readR (msgL a b c s)).fst.snd.snd.fst == c && ((readR (msgL a b c s)).fst.snd.snd.snd.toList == s.toList && true)))),
  decide (ts.length ≤ (100000 : Nat)),
  okP most rdy ts,
  true],
  (SV.raw (Value.bool true), [])) := by kernel_rfl
theorem pb11_ftt (fb : Bool) (bs : List Int) (f : Bool) (most : Int) (rdy : Bool) (ts : List Pt) (a b c : Int) (s : ByteArray) : Tr.follow [false, false, false, false, false, false, false, false, false, true, true, false, true, true, true, false, false, false, false, true, true, false, true, true, false, true, true, true, false, false, false, false, false, false, false, false, false, false, false, false, false, false, false, false, false, false, false, false, true, true] (fB11 fb bs f most rdy ts a b c s) =
  some ([false,
  decide ((100 : Int) < (↑s.size : Int)),
  false,
  false,
  decide ((300 : Int) < (↑bs.length : Int)),
  false,
  false,
  false,
  decide ((60 : Int) < (↑ts.length : Int)),
  roomB (([] : List Int).length + bs.length) Try.prog.types[(5 : Nat)].bytes,
  decide (bs.length ≤ (100000 : Nat)),
  (readR bs).snd == (0 : Int),
  okM b s,
  true,
  decide ((msgL a b c s).length ≤ (100000 : Nat)),
  (readR (msgL a b c s)).snd != (0 : Int),
  false,
  false,
  !((readR (msgL a b c s)).fst.fst == a && ((readR (msgL a b c s)).fst.snd.fst == b && ((readR (msgL a b c s)).fst.snd.snd.fst == c && ((readR (msgL a b c s)).fst.snd.snd.snd.toList == s.toList && true)))),
  decide (ts.length ≤ (100000 : Nat)),
  okP most rdy ts,
  false,
  decide (ts.length ≤ (100000 : Nat)),
  decide (ts.length ≤ (300 : Nat)) && inR64 (0 : Int),
  (gQ most rdy ts).snd.snd.isSome,
  decide ((gQ most rdy ts).snd.fst.length ≤ (100000 : Nat)),
  decide ((gQ most rdy ts).snd.fst.length ≤ (300 : Nat)) && inR64 (0 : Int),
  (gR most rdy ts).snd.snd.isSome,
  (gQ most rdy ts).fst,
  false,
  false,
  false,
  false,
  false,
  false,
  false,
  false,
  false,
  (↑(gQ most rdy ts).snd.fst.length : Int) != (↑ts.length : Int),
  false,
  false,
  !(gR most rdy ts).fst,
  false,
  false,
  false,
  false,
  false,
  (↑((gR most rdy ts).snd.snd.getD []).length : Int) != (↑ts.length : Int),
  decide (ts.length ≤ (1000 : Nat) ∧ (gQ most rdy ts).snd.fst.length = ts.length ∧ ((gR most rdy ts).snd.snd.getD []).length = ts.length ∧ (((gR most rdy ts).snd.snd.getD []).all fun m => inR64 m.fst) = true),
  noneP (bP most rdy most (gQ most rdy ts).fst true false ((gR most rdy ts).snd.snd.getD []) false f ts true false (gQ most rdy ts).snd.fst) ts.length],
  (SV.raw (Value.bool true), [])) := by kernel_rfl
theorem pb11_ftf (fb : Bool) (bs : List Int) (f : Bool) (most : Int) (rdy : Bool) (ts : List Pt) (a b c : Int) (s : ByteArray) : Tr.follow [false, false, false, false, false, false, false, false, false, true, true, false, true, true, true, false, false, false, false, true, true, false, true, true, false, true, true, false, false, false, false, false, false, false, false, false, false, false, false, false, false, false, false, false, false, false, false, false, true, true] (fB11 fb bs f most rdy ts a b c s) =
  some ([false,
  decide ((100 : Int) < (↑s.size : Int)),
  false,
  false,
  decide ((300 : Int) < (↑bs.length : Int)),
  false,
  false,
  false,
  decide ((60 : Int) < (↑ts.length : Int)),
  roomB (([] : List Int).length + bs.length) Try.prog.types[(5 : Nat)].bytes,
  decide (bs.length ≤ (100000 : Nat)),
  (readR bs).snd == (0 : Int),
  okM b s,
  true,
  decide ((msgL a b c s).length ≤ (100000 : Nat)),
  (readR (msgL a b c s)).snd != (0 : Int),
  false,
  false,
  !((readR (msgL a b c s)).fst.fst == a && ((readR (msgL a b c s)).fst.snd.fst == b && ((readR (msgL a b c s)).fst.snd.snd.fst == c && ((readR (msgL a b c s)).fst.snd.snd.snd.toList == s.toList && true)))),
  decide (ts.length ≤ (100000 : Nat)),
  okP most rdy ts,
  false,
  decide (ts.length ≤ (100000 : Nat)),
  decide (ts.length ≤ (300 : Nat)) && inR64 (0 : Int),
  (gQ most rdy ts).snd.snd.isSome,
  decide ((gQ most rdy ts).snd.fst.length ≤ (100000 : Nat)),
  decide ((gQ most rdy ts).snd.fst.length ≤ (300 : Nat)) && inR64 (0 : Int),
  (gR most rdy ts).snd.snd.isSome,
  (gQ most rdy ts).fst,
  false,
  false,
  false,
  false,
  false,
  false,
  false,
  false,
  false,
  (↑(gQ most rdy ts).snd.fst.length : Int) != (↑ts.length : Int),
  false,
  false,
  !(gR most rdy ts).fst,
  false,
  false,
  false,
  false,
  false,
  (↑(0 : Nat) : Int) != (↑ts.length : Int),
  decide (ts.length = (0 : Nat)),
  noneP (bNP most rdy most (gQ most rdy ts).fst false f ts true false (gQ most rdy ts).snd.fst) ts.length],
  (SV.raw (Value.bool true), [])) := by kernel_rfl
theorem pb11_ffc (fb : Bool) (bs : List Int) (f : Bool) (most : Int) (rdy : Bool) (ts : List Pt) (a b c : Int) (s : ByteArray) : Tr.follow [false, false, false, false, false, false, false, false, false, true, true, false, false, false, true, false, true] (fB11 fb bs f most rdy ts a b c s) =
  some ([false,
  decide ((100 : Int) < (↑s.size : Int)),
  false,
  false,
  decide ((300 : Int) < (↑bs.length : Int)),
  false,
  false,
  false,
  decide ((60 : Int) < (↑ts.length : Int)),
  roomB (([] : List Int).length + bs.length) Try.prog.types[(5 : Nat)].bytes,
  decide (bs.length ≤ (100000 : Nat)),
  (readR bs).snd == (0 : Int),
  okM b s,
  false,
  decide (ts.length ≤ (100000 : Nat)),
  okP most rdy ts,
  true],
  (SV.raw (Value.bool true), [])) := by kernel_rfl
theorem pb11_fft (fb : Bool) (bs : List Int) (f : Bool) (most : Int) (rdy : Bool) (ts : List Pt) (a b c : Int) (s : ByteArray) : Tr.follow [false, false, false, false, false, false, false, false, false, true, true, false, false, false, true, true, false, true, true, false, true, true, true, false, false, false, false, false, false, false, false, false, false, false, false, false, false, false, false, false, false, false, false, true, true] (fB11 fb bs f most rdy ts a b c s) =
  some ([false,
  decide ((100 : Int) < (↑s.size : Int)),
  false,
  false,
  decide ((300 : Int) < (↑bs.length : Int)),
  false,
  false,
  false,
  decide ((60 : Int) < (↑ts.length : Int)),
  roomB (([] : List Int).length + bs.length) Try.prog.types[(5 : Nat)].bytes,
  decide (bs.length ≤ (100000 : Nat)),
  (readR bs).snd == (0 : Int),
  okM b s,
  false,
  decide (ts.length ≤ (100000 : Nat)),
  okP most rdy ts,
  false,
  decide (ts.length ≤ (100000 : Nat)),
  decide (ts.length ≤ (300 : Nat)) && inR64 (0 : Int),
  (gQ most rdy ts).snd.snd.isSome,
  decide ((gQ most rdy ts).snd.fst.length ≤ (100000 : Nat)),
  decide ((gQ most rdy ts).snd.fst.length ≤ (300 : Nat)) && inR64 (0 : Int),
  (gR most rdy ts).snd.snd.isSome,
  (gQ most rdy ts).fst,
  false,
  false,
  false,
  false,
  false,
  false,
  false,
  false,
  false,
  (↑(gQ most rdy ts).snd.fst.length : Int) != (↑ts.length : Int),
  false,
  false,
  !(gR most rdy ts).fst,
  false,
  false,
  false,
  false,
  false,
  (↑((gR most rdy ts).snd.snd.getD []).length : Int) != (↑ts.length : Int),
  decide (ts.length ≤ (1000 : Nat) ∧ (gQ most rdy ts).snd.fst.length = ts.length ∧ ((gR most rdy ts).snd.snd.getD []).length = ts.length ∧ (((gR most rdy ts).snd.snd.getD []).all fun m => inR64 m.fst) = true),
  noneP (bP most rdy most (gQ most rdy ts).fst true false ((gR most rdy ts).snd.snd.getD []) false f ts true false (gQ most rdy ts).snd.fst) ts.length],
  (SV.raw (Value.bool true), [])) := by kernel_rfl
theorem pb11_fff (fb : Bool) (bs : List Int) (f : Bool) (most : Int) (rdy : Bool) (ts : List Pt) (a b c : Int) (s : ByteArray) : Tr.follow [false, false, false, false, false, false, false, false, false, true, true, false, false, false, true, true, false, true, true, false, true, true, false, false, false, false, false, false, false, false, false, false, false, false, false, false, false, false, false, false, false, false, false, true, true] (fB11 fb bs f most rdy ts a b c s) =
  some ([false,
  decide ((100 : Int) < (↑s.size : Int)),
  false,
  false,
  decide ((300 : Int) < (↑bs.length : Int)),
  false,
  false,
  false,
  decide ((60 : Int) < (↑ts.length : Int)),
  roomB (([] : List Int).length + bs.length) Try.prog.types[(5 : Nat)].bytes,
  decide (bs.length ≤ (100000 : Nat)),
  (readR bs).snd == (0 : Int),
  okM b s,
  false,
  decide (ts.length ≤ (100000 : Nat)),
  okP most rdy ts,
  false,
  decide (ts.length ≤ (100000 : Nat)),
  decide (ts.length ≤ (300 : Nat)) && inR64 (0 : Int),
  (gQ most rdy ts).snd.snd.isSome,
  decide ((gQ most rdy ts).snd.fst.length ≤ (100000 : Nat)),
  decide ((gQ most rdy ts).snd.fst.length ≤ (300 : Nat)) && inR64 (0 : Int),
  (gR most rdy ts).snd.snd.isSome,
  (gQ most rdy ts).fst,
  false,
  false,
  false,
  false,
  false,
  false,
  false,
  false,
  false,
  (↑(gQ most rdy ts).snd.fst.length : Int) != (↑ts.length : Int),
  false,
  false,
  !(gR most rdy ts).fst,
  false,
  false,
  false,
  false,
  false,
  (↑(0 : Nat) : Int) != (↑ts.length : Int),
  decide (ts.length = (0 : Nat)),
  noneP (bNP most rdy most (gQ most rdy ts).fst false f ts true false (gQ most rdy ts).snd.fst) ts.length],
  (SV.raw (Value.bool true), [])) := by kernel_rfl
theorem pb01_g1 (f : Bool) (most : Int) (rdy : Bool) (ts : List Pt) (a b c : Int) (s : ByteArray) : Tr.follow [false, true, true, true, true, true, true, true, true, true, true] (fB01 f most rdy ts a b c s) =
  some ([false,
  decide ((100 : Int) < (↑s.size : Int)),
  true,
  true,
  true,
  true,
  true,
  true,
  true,
  true,
  true],
  (SV.raw (Value.bool true), [])) := by kernel_rfl
theorem pb01_g3 (f : Bool) (most : Int) (rdy : Bool) (ts : List Pt) (a b c : Int) (s : ByteArray) : Tr.follow [false, false, false, false, false, false, false, false, true] (fB01 f most rdy ts a b c s) =
  some ([false,
  decide ((100 : Int) < (↑s.size : Int)),
  false,
  false,
  false,
  false,
  false,
  false,
  decide ((60 : Int) < (↑ts.length : Int))],
  (SV.raw (Value.bool true), [])) := by kernel_rfl
theorem pb01_ftc (f : Bool) (most : Int) (rdy : Bool) (ts : List Pt) (a b c : Int) (s : ByteArray) : Tr.follow [false, false, false, false, false, false, false, false, false, true, true, false, true, true, true, false, false, false, false, true, false, true] (fB01 f most rdy ts a b c s) =
  some ([false,
  decide ((100 : Int) < (↑s.size : Int)),
  false,
  false,
  false,
  false,
  false,
  false,
  decide ((60 : Int) < (↑ts.length : Int)),
  true,
  true,
  false,
  okM b s,
  true,
  decide ((msgL a b c s).length ≤ (100000 : Nat)),
  (readR (msgL a b c s)).snd != (0 : Int),
  false,
  false,
  !((readR (msgL a b c s)).fst.fst == a && ((readR (msgL a b c s)).fst.snd.fst == b && ((readR (msgL a b c s)).fst.snd.snd.fst == c && ((readR (msgL a b c s)).fst.snd.snd.snd.toList == s.toList && true)))),
  decide (ts.length ≤ (100000 : Nat)),
  okP most rdy ts,
  true],
  (SV.raw (Value.bool true), [])) := by kernel_rfl
theorem pb01_ftt (f : Bool) (most : Int) (rdy : Bool) (ts : List Pt) (a b c : Int) (s : ByteArray) : Tr.follow [false, false, false, false, false, false, false, false, false, true, true, false, true, true, true, false, false, false, false, true, true, false, true, true, false, true, true, true, false, false, false, false, false, false, false, false, false, false, false, false, false, false, false, false, false, false, false, false, true, true] (fB01 f most rdy ts a b c s) =
  some ([false,
  decide ((100 : Int) < (↑s.size : Int)),
  false,
  false,
  false,
  false,
  false,
  false,
  decide ((60 : Int) < (↑ts.length : Int)),
  true,
  true,
  false,
  okM b s,
  true,
  decide ((msgL a b c s).length ≤ (100000 : Nat)),
  (readR (msgL a b c s)).snd != (0 : Int),
  false,
  false,
  !((readR (msgL a b c s)).fst.fst == a && ((readR (msgL a b c s)).fst.snd.fst == b && ((readR (msgL a b c s)).fst.snd.snd.fst == c && ((readR (msgL a b c s)).fst.snd.snd.snd.toList == s.toList && true)))),
  decide (ts.length ≤ (100000 : Nat)),
  okP most rdy ts,
  false,
  decide (ts.length ≤ (100000 : Nat)),
  decide (ts.length ≤ (300 : Nat)) && inR64 (0 : Int),
  (gQ most rdy ts).snd.snd.isSome,
  decide ((gQ most rdy ts).snd.fst.length ≤ (100000 : Nat)),
  decide ((gQ most rdy ts).snd.fst.length ≤ (300 : Nat)) && inR64 (0 : Int),
  (gR most rdy ts).snd.snd.isSome,
  (gQ most rdy ts).fst,
  false,
  false,
  false,
  false,
  false,
  false,
  false,
  false,
  false,
  (↑(gQ most rdy ts).snd.fst.length : Int) != (↑ts.length : Int),
  false,
  false,
  !(gR most rdy ts).fst,
  false,
  false,
  false,
  false,
  false,
  (↑((gR most rdy ts).snd.snd.getD []).length : Int) != (↑ts.length : Int),
  decide (ts.length ≤ (1000 : Nat) ∧ (gQ most rdy ts).snd.fst.length = ts.length ∧ ((gR most rdy ts).snd.snd.getD []).length = ts.length ∧ (((gR most rdy ts).snd.snd.getD []).all fun m => inR64 m.fst) = true),
  noneP (bP most rdy most (gQ most rdy ts).fst true false ((gR most rdy ts).snd.snd.getD []) false f ts true false (gQ most rdy ts).snd.fst) ts.length],
  (SV.raw (Value.bool true), [])) := by kernel_rfl
theorem pb01_ftf (f : Bool) (most : Int) (rdy : Bool) (ts : List Pt) (a b c : Int) (s : ByteArray) : Tr.follow [false, false, false, false, false, false, false, false, false, true, true, false, true, true, true, false, false, false, false, true, true, false, true, true, false, true, true, false, false, false, false, false, false, false, false, false, false, false, false, false, false, false, false, false, false, false, false, false, true, true] (fB01 f most rdy ts a b c s) =
  some ([false,
  decide ((100 : Int) < (↑s.size : Int)),
  false,
  false,
  false,
  false,
  false,
  false,
  decide ((60 : Int) < (↑ts.length : Int)),
  true,
  true,
  false,
  okM b s,
  true,
  decide ((msgL a b c s).length ≤ (100000 : Nat)),
  (readR (msgL a b c s)).snd != (0 : Int),
  false,
  false,
  !((readR (msgL a b c s)).fst.fst == a && ((readR (msgL a b c s)).fst.snd.fst == b && ((readR (msgL a b c s)).fst.snd.snd.fst == c && ((readR (msgL a b c s)).fst.snd.snd.snd.toList == s.toList && true)))),
  decide (ts.length ≤ (100000 : Nat)),
  okP most rdy ts,
  false,
  decide (ts.length ≤ (100000 : Nat)),
  decide (ts.length ≤ (300 : Nat)) && inR64 (0 : Int),
  (gQ most rdy ts).snd.snd.isSome,
  decide ((gQ most rdy ts).snd.fst.length ≤ (100000 : Nat)),
  decide ((gQ most rdy ts).snd.fst.length ≤ (300 : Nat)) && inR64 (0 : Int),
  (gR most rdy ts).snd.snd.isSome,
  (gQ most rdy ts).fst,
  false,
  false,
  false,
  false,
  false,
  false,
  false,
  false,
  false,
  (↑(gQ most rdy ts).snd.fst.length : Int) != (↑ts.length : Int),
  false,
  false,
  !(gR most rdy ts).fst,
  false,
  false,
  false,
  false,
  false,
  (↑(0 : Nat) : Int) != (↑ts.length : Int),
  decide (ts.length = (0 : Nat)),
  noneP (bNP most rdy most (gQ most rdy ts).fst false f ts true false (gQ most rdy ts).snd.fst) ts.length],
  (SV.raw (Value.bool true), [])) := by kernel_rfl
theorem pb01_ffc (f : Bool) (most : Int) (rdy : Bool) (ts : List Pt) (a b c : Int) (s : ByteArray) : Tr.follow [false, false, false, false, false, false, false, false, false, true, true, false, false, false, true, false, true] (fB01 f most rdy ts a b c s) =
  some ([false,
  decide ((100 : Int) < (↑s.size : Int)),
  false,
  false,
  false,
  false,
  false,
  false,
  decide ((60 : Int) < (↑ts.length : Int)),
  true,
  true,
  false,
  okM b s,
  false,
  decide (ts.length ≤ (100000 : Nat)),
  okP most rdy ts,
  true],
  (SV.raw (Value.bool true), [])) := by kernel_rfl
theorem pb01_fft (f : Bool) (most : Int) (rdy : Bool) (ts : List Pt) (a b c : Int) (s : ByteArray) : Tr.follow [false, false, false, false, false, false, false, false, false, true, true, false, false, false, true, true, false, true, true, false, true, true, true, false, false, false, false, false, false, false, false, false, false, false, false, false, false, false, false, false, false, false, false, true, true] (fB01 f most rdy ts a b c s) =
  some ([false,
  decide ((100 : Int) < (↑s.size : Int)),
  false,
  false,
  false,
  false,
  false,
  false,
  decide ((60 : Int) < (↑ts.length : Int)),
  true,
  true,
  false,
  okM b s,
  false,
  decide (ts.length ≤ (100000 : Nat)),
  okP most rdy ts,
  false,
  decide (ts.length ≤ (100000 : Nat)),
  decide (ts.length ≤ (300 : Nat)) && inR64 (0 : Int),
  (gQ most rdy ts).snd.snd.isSome,
  decide ((gQ most rdy ts).snd.fst.length ≤ (100000 : Nat)),
  decide ((gQ most rdy ts).snd.fst.length ≤ (300 : Nat)) && inR64 (0 : Int),
  (gR most rdy ts).snd.snd.isSome,
  (gQ most rdy ts).fst,
  false,
  false,
  false,
  false,
  false,
  false,
  false,
  false,
  false,
  (↑(gQ most rdy ts).snd.fst.length : Int) != (↑ts.length : Int),
  false,
  false,
  !(gR most rdy ts).fst,
  false,
  false,
  false,
  false,
  false,
  (↑((gR most rdy ts).snd.snd.getD []).length : Int) != (↑ts.length : Int),
  decide (ts.length ≤ (1000 : Nat) ∧ (gQ most rdy ts).snd.fst.length = ts.length ∧ ((gR most rdy ts).snd.snd.getD []).length = ts.length ∧ (((gR most rdy ts).snd.snd.getD []).all fun m => inR64 m.fst) = true),
  noneP (bP most rdy most (gQ most rdy ts).fst true false ((gR most rdy ts).snd.snd.getD []) false f ts true false (gQ most rdy ts).snd.fst) ts.length],
  (SV.raw (Value.bool true), [])) := by kernel_rfl
theorem pb01_fff (f : Bool) (most : Int) (rdy : Bool) (ts : List Pt) (a b c : Int) (s : ByteArray) : Tr.follow [false, false, false, false, false, false, false, false, false, true, true, false, false, false, true, true, false, true, true, false, true, true, false, false, false, false, false, false, false, false, false, false, false, false, false, false, false, false, false, false, false, false, false, true, true] (fB01 f most rdy ts a b c s) =
  some ([false,
  decide ((100 : Int) < (↑s.size : Int)),
  false,
  false,
  false,
  false,
  false,
  false,
  decide ((60 : Int) < (↑ts.length : Int)),
  true,
  true,
  false,
  okM b s,
  false,
  decide (ts.length ≤ (100000 : Nat)),
  okP most rdy ts,
  false,
  decide (ts.length ≤ (100000 : Nat)),
  decide (ts.length ≤ (300 : Nat)) && inR64 (0 : Int),
  (gQ most rdy ts).snd.snd.isSome,
  decide ((gQ most rdy ts).snd.fst.length ≤ (100000 : Nat)),
  decide ((gQ most rdy ts).snd.fst.length ≤ (300 : Nat)) && inR64 (0 : Int),
  (gR most rdy ts).snd.snd.isSome,
  (gQ most rdy ts).fst,
  false,
  false,
  false,
  false,
  false,
  false,
  false,
  false,
  false,
  (↑(gQ most rdy ts).snd.fst.length : Int) != (↑ts.length : Int),
  false,
  false,
  !(gR most rdy ts).fst,
  false,
  false,
  false,
  false,
  false,
  (↑(0 : Nat) : Int) != (↑ts.length : Int),
  decide (ts.length = (0 : Nat)),
  noneP (bNP most rdy most (gQ most rdy ts).fst false f ts true false (gQ most rdy ts).snd.fst) ts.length],
  (SV.raw (Value.bool true), [])) := by kernel_rfl
theorem pb10_g1 (fb : Bool) (bs : List Int) (most : Int) (rdy : Bool) (a b c : Int) (s : ByteArray) : Tr.follow [false, true, true, true, true, true, true, true, true, true, true] (fB10 fb bs most rdy a b c s) =
  some ([false,
  decide ((100 : Int) < (↑s.size : Int)),
  true,
  true,
  true,
  true,
  true,
  true,
  true,
  true,
  true],
  (SV.raw (Value.bool true), [])) := by kernel_rfl
theorem pb10_g2 (fb : Bool) (bs : List Int) (most : Int) (rdy : Bool) (a b c : Int) (s : ByteArray) : Tr.follow [false, false, false, false, true, true, true, true, true, true] (fB10 fb bs most rdy a b c s) =
  some ([false,
  decide ((100 : Int) < (↑s.size : Int)),
  false,
  false,
  decide ((300 : Int) < (↑bs.length : Int)),
  true,
  true,
  true,
  true,
  true],
  (SV.raw (Value.bool true), [])) := by kernel_rfl
theorem pb10_ttc (fb : Bool) (bs : List Int) (most : Int) (rdy : Bool) (a b c : Int) (s : ByteArray) : Tr.follow [false, false, false, false, false, false, false, false, false, true, true, true, true, false, false, false, false, false, false, true, true, true, false, false, false, false, false, true] (fB10 fb bs most rdy a b c s) =
  some ([false,
  decide ((100 : Int) < (↑s.size : Int)),
  false,
  false,
  decide ((300 : Int) < (↑bs.length : Int)),
  false,
  false,
  false,
  false,
  roomB (([] : List Int).length + bs.length) Try.prog.types[(5 : Nat)].bytes,
  decide (bs.length ≤ (100000 : Nat)),
  (readR bs).snd == (0 : Int),
  okM (readR bs).fst.snd.fst (readR bs).fst.snd.snd.snd,
  false,
  false,
  false,
  false,
  false,
  !(strOf (List.map (fun x => x) (msgL (readR bs).fst.fst (readR bs).fst.snd.fst (readR bs).fst.snd.snd.fst (readR bs).fst.snd.snd.snd))).toList == (strOf (List.map (fun x => x) bs)).toList,
  okM b s,
  true,
  decide ((msgL a b c s).length ≤ (100000 : Nat)),
  (readR (msgL a b c s)).snd != (0 : Int),
  false,
  false,
  !((readR (msgL a b c s)).fst.fst == a && ((readR (msgL a b c s)).fst.snd.fst == b && ((readR (msgL a b c s)).fst.snd.snd.fst == c && ((readR (msgL a b c s)).fst.snd.snd.snd.toList == s.toList && true)))),
  okP most rdy [],
  true],
  (SV.raw (Value.bool true), [])) := by kernel_rfl
theorem pb10_ttf (fb : Bool) (bs : List Int) (most : Int) (rdy : Bool) (a b c : Int) (s : ByteArray) : Tr.follow [false, false, false, false, false, false, false, false, false, true, true, true, true, false, false, false, false, false, false, true, true, true, false, false, false, false, true, false, true, false, true, true, false, false, false, false, false, false, false, false, false, false, false, false, false, false, false, false, false, false, false, false, false, false] (fB10 fb bs most rdy a b c s) =
  some ([false,
  decide ((100 : Int) < (↑s.size : Int)),
  false,
  false,
  decide ((300 : Int) < (↑bs.length : Int)),
  false,
  false,
  false,
  false,
  roomB (([] : List Int).length + bs.length) Try.prog.types[(5 : Nat)].bytes,
  decide (bs.length ≤ (100000 : Nat)),
  (readR bs).snd == (0 : Int),
  okM (readR bs).fst.snd.fst (readR bs).fst.snd.snd.snd,
  false,
  false,
  false,
  false,
  false,
  !(strOf (List.map (fun x => x) (msgL (readR bs).fst.fst (readR bs).fst.snd.fst (readR bs).fst.snd.snd.fst (readR bs).fst.snd.snd.snd))).toList == (strOf (List.map (fun x => x) bs)).toList,
  okM b s,
  true,
  decide ((msgL a b c s).length ≤ (100000 : Nat)),
  (readR (msgL a b c s)).snd != (0 : Int),
  false,
  false,
  !((readR (msgL a b c s)).fst.fst == a && ((readR (msgL a b c s)).fst.snd.fst == b && ((readR (msgL a b c s)).fst.snd.snd.fst == c && ((readR (msgL a b c s)).fst.snd.snd.snd.toList == s.toList && true)))),
  okP most rdy [],
  false,
  true,
  (gQ most rdy []).snd.snd.isSome,
  decide ((gQ most rdy []).snd.fst.length ≤ (100000 : Nat)),
  decide ((gQ most rdy []).snd.fst.length ≤ (300 : Nat)) && inR64 (0 : Int),
  (gR most rdy []).snd.snd.isSome,
  (gQ most rdy []).fst,
  false,
  false,
  false,
  false,
  false,
  false,
  false,
  false,
  false,
  (↑(gQ most rdy []).snd.fst.length : Int) != (↑(0 : Nat) : Int),
  false,
  false,
  !(gR most rdy []).fst,
  false,
  false,
  false,
  false,
  false,
  false,
  false],
  (SV.raw (Value.bool true), [])) := by kernel_rfl
theorem pb10_tfc (fb : Bool) (bs : List Int) (most : Int) (rdy : Bool) (a b c : Int) (s : ByteArray) : Tr.follow [false, false, false, false, false, false, false, false, false, true, true, true, true, false, false, false, false, false, false, false, false, false, true] (fB10 fb bs most rdy a b c s) =
  some ([false,
  decide ((100 : Int) < (↑s.size : Int)),
  false,
  false,
  decide ((300 : Int) < (↑bs.length : Int)),
  false,
  false,
  false,
  false,
  roomB (([] : List Int).length + bs.length) Try.prog.types[(5 : Nat)].bytes,
  decide (bs.length ≤ (100000 : Nat)),
  (readR bs).snd == (0 : Int),
  okM (readR bs).fst.snd.fst (readR bs).fst.snd.snd.snd,
  false,
  false,
  false,
  false,
  false,
  !(strOf (List.map (fun x => x) (msgL (readR bs).fst.fst (readR bs).fst.snd.fst (readR bs).fst.snd.snd.fst (readR bs).fst.snd.snd.snd))).toList == (strOf (List.map (fun x => x) bs)).toList,
  okM b s,
  false,
  okP most rdy [],
  true],
  (SV.raw (Value.bool true), [])) := by kernel_rfl
theorem pb10_tff (fb : Bool) (bs : List Int) (most : Int) (rdy : Bool) (a b c : Int) (s : ByteArray) : Tr.follow [false, false, false, false, false, false, false, false, false, true, true, true, true, false, false, false, false, false, false, false, false, true, false, true, false, true, true, false, false, false, false, false, false, false, false, false, false, false, false, false, false, false, false, false, false, false, false, false, false] (fB10 fb bs most rdy a b c s) =
  some ([false,
  decide ((100 : Int) < (↑s.size : Int)),
  false,
  false,
  decide ((300 : Int) < (↑bs.length : Int)),
  false,
  false,
  false,
  false,
  roomB (([] : List Int).length + bs.length) Try.prog.types[(5 : Nat)].bytes,
  decide (bs.length ≤ (100000 : Nat)),
  (readR bs).snd == (0 : Int),
  okM (readR bs).fst.snd.fst (readR bs).fst.snd.snd.snd,
  false,
  false,
  false,
  false,
  false,
  !(strOf (List.map (fun x => x) (msgL (readR bs).fst.fst (readR bs).fst.snd.fst (readR bs).fst.snd.snd.fst (readR bs).fst.snd.snd.snd))).toList == (strOf (List.map (fun x => x) bs)).toList,
  okM b s,
  false,
  okP most rdy [],
  false,
  true,
  (gQ most rdy []).snd.snd.isSome,
  decide ((gQ most rdy []).snd.fst.length ≤ (100000 : Nat)),
  decide ((gQ most rdy []).snd.fst.length ≤ (300 : Nat)) && inR64 (0 : Int),
  (gR most rdy []).snd.snd.isSome,
  (gQ most rdy []).fst,
  false,
  false,
  false,
  false,
  false,
  false,
  false,
  false,
  false,
  (↑(gQ most rdy []).snd.fst.length : Int) != (↑(0 : Nat) : Int),
  false,
  false,
  !(gR most rdy []).fst,
  false,
  false,
  false,
  false,
  false,
  false,
  false],
  (SV.raw (Value.bool true), [])) := by kernel_rfl
theorem pb10_ftc (fb : Bool) (bs : List Int) (most : Int) (rdy : Bool) (a b c : Int) (s : ByteArray) : Tr.follow [false, false, false, false, false, false, false, false, false, true, true, false, true, true, true, false, false, false, false, false, true] (fB10 fb bs most rdy a b c s) =
  some ([false,
  decide ((100 : Int) < (↑s.size : Int)),
  false,
  false,
  decide ((300 : Int) < (↑bs.length : Int)),
  false,
  false,
  false,
  false,
  roomB (([] : List Int).length + bs.length) Try.prog.types[(5 : Nat)].bytes,
  decide (bs.length ≤ (100000 : Nat)),
  (readR bs).snd == (0 : Int),
  okM b s,
  true,
  decide ((msgL a b c s).length ≤ (100000 : Nat)),
  (readR (msgL a b c s)).snd != (0 : Int),
  false,
  false,
  !((readR (msgL a b c s)).fst.fst == a && ((readR (msgL a b c s)).fst.snd.fst == b && ((readR (msgL a b c s)).fst.snd.snd.fst == c && ((readR (msgL a b c s)).fst.snd.snd.snd.toList == s.toList && true)))),
  okP most rdy [],
  true],
  (SV.raw (Value.bool true), [])) := by kernel_rfl
theorem pb10_ftf (fb : Bool) (bs : List Int) (most : Int) (rdy : Bool) (a b c : Int) (s : ByteArray) : Tr.follow [false, false, false, false, false, false, false, false, false, true, true, false, true, true, true, false, false, false, false, true, false, true, false, true, true, false, false, false, false, false, false, false, false, false, false, false, false, false, false, false, false, false, false, false, false, false, false] (fB10 fb bs most rdy a b c s) =
  some ([false,
  decide ((100 : Int) < (↑s.size : Int)),
  false,
  false,
  decide ((300 : Int) < (↑bs.length : Int)),
  false,
  false,
  false,
  false,
  roomB (([] : List Int).length + bs.length) Try.prog.types[(5 : Nat)].bytes,
  decide (bs.length ≤ (100000 : Nat)),
  (readR bs).snd == (0 : Int),
  okM b s,
  true,
  decide ((msgL a b c s).length ≤ (100000 : Nat)),
  (readR (msgL a b c s)).snd != (0 : Int),
  false,
  false,
  !((readR (msgL a b c s)).fst.fst == a && ((readR (msgL a b c s)).fst.snd.fst == b && ((readR (msgL a b c s)).fst.snd.snd.fst == c && ((readR (msgL a b c s)).fst.snd.snd.snd.toList == s.toList && true)))),
  okP most rdy [],
  false,
  true,
  (gQ most rdy []).snd.snd.isSome,
  decide ((gQ most rdy []).snd.fst.length ≤ (100000 : Nat)),
  decide ((gQ most rdy []).snd.fst.length ≤ (300 : Nat)) && inR64 (0 : Int),
  (gR most rdy []).snd.snd.isSome,
  (gQ most rdy []).fst,
  false,
  false,
  false,
  false,
  false,
  false,
  false,
  false,
  false,
  (↑(gQ most rdy []).snd.fst.length : Int) != (↑(0 : Nat) : Int),
  false,
  false,
  !(gR most rdy []).fst,
  false,
  false,
  false,
  false,
  false,
  false,
  false],
  (SV.raw (Value.bool true), [])) := by kernel_rfl
theorem pb10_ffc (fb : Bool) (bs : List Int) (most : Int) (rdy : Bool) (a b c : Int) (s : ByteArray) : Tr.follow [false, false, false, false, false, false, false, false, false, true, true, false, false, false, false, true] (fB10 fb bs most rdy a b c s) =
  some ([false,
  decide ((100 : Int) < (↑s.size : Int)),
  false,
  false,
  decide ((300 : Int) < (↑bs.length : Int)),
  false,
  false,
  false,
  false,
  roomB (([] : List Int).length + bs.length) Try.prog.types[(5 : Nat)].bytes,
  decide (bs.length ≤ (100000 : Nat)),
  (readR bs).snd == (0 : Int),
  okM b s,
  false,
  okP most rdy [],
  true],
  (SV.raw (Value.bool true), [])) := by kernel_rfl
theorem pb10_fff (fb : Bool) (bs : List Int) (most : Int) (rdy : Bool) (a b c : Int) (s : ByteArray) : Tr.follow [false, false, false, false, false, false, false, false, false, true, true, false, false, false, true, false, true, false, true, true, false, false, false, false, false, false, false, false, false, false, false, false, false, false, false, false, false, false, false, false, false, false] (fB10 fb bs most rdy a b c s) =
  some ([false,
  decide ((100 : Int) < (↑s.size : Int)),
  false,
  false,
  decide ((300 : Int) < (↑bs.length : Int)),
  false,
  false,
  false,
  false,
  roomB (([] : List Int).length + bs.length) Try.prog.types[(5 : Nat)].bytes,
  decide (bs.length ≤ (100000 : Nat)),
  (readR bs).snd == (0 : Int),
  okM b s,
  false,
  okP most rdy [],
  false,
  true,
  (gQ most rdy []).snd.snd.isSome,
  decide ((gQ most rdy []).snd.fst.length ≤ (100000 : Nat)),
  decide ((gQ most rdy []).snd.fst.length ≤ (300 : Nat)) && inR64 (0 : Int),
  (gR most rdy []).snd.snd.isSome,
  (gQ most rdy []).fst,
  false,
  false,
  false,
  false,
  false,
  false,
  false,
  false,
  false,
  (↑(gQ most rdy []).snd.fst.length : Int) != (↑(0 : Nat) : Int),
  false,
  false,
  !(gR most rdy []).fst,
  false,
  false,
  false,
  false,
  false,
  false,
  false],
  (SV.raw (Value.bool true), [])) := by kernel_rfl
theorem pb00_g1 (most : Int) (rdy : Bool) (a b c : Int) (s : ByteArray) : Tr.follow [false, true, true, true, true, true, true, true, true, true, true] (fB00 most rdy a b c s) =
  some ([false,
  decide ((100 : Int) < (↑s.size : Int)),
  true,
  true,
  true,
  true,
  true,
  true,
  true,
  true,
  true],
  (SV.raw (Value.bool true), [])) := by kernel_rfl
theorem pb00_ftc (most : Int) (rdy : Bool) (a b c : Int) (s : ByteArray) : Tr.follow [false, false, false, false, false, false, false, false, false, true, true, false, true, true, true, false, false, false, false, false, true] (fB00 most rdy a b c s) =
  some ([false,
  decide ((100 : Int) < (↑s.size : Int)),
  false,
  false,
  false,
  false,
  false,
  false,
  false,
  true,
  true,
  false,
  okM b s,
  true,
  decide ((msgL a b c s).length ≤ (100000 : Nat)),
  (readR (msgL a b c s)).snd != (0 : Int),
  false,
  false,
  !((readR (msgL a b c s)).fst.fst == a && ((readR (msgL a b c s)).fst.snd.fst == b && ((readR (msgL a b c s)).fst.snd.snd.fst == c && ((readR (msgL a b c s)).fst.snd.snd.snd.toList == s.toList && true)))),
  okP most rdy [],
  true],
  (SV.raw (Value.bool true), [])) := by kernel_rfl
theorem pb00_ftf (most : Int) (rdy : Bool) (a b c : Int) (s : ByteArray) : Tr.follow [false, false, false, false, false, false, false, false, false, true, true, false, true, true, true, false, false, false, false, true, false, true, false, true, true, false, false, false, false, false, false, false, false, false, false, false, false, false, false, false, false, false, false, false, false, false, false] (fB00 most rdy a b c s) =
  some ([false,
  decide ((100 : Int) < (↑s.size : Int)),
  false,
  false,
  false,
  false,
  false,
  false,
  false,
  true,
  true,
  false,
  okM b s,
  true,
  decide ((msgL a b c s).length ≤ (100000 : Nat)),
  (readR (msgL a b c s)).snd != (0 : Int),
  false,
  false,
  !((readR (msgL a b c s)).fst.fst == a && ((readR (msgL a b c s)).fst.snd.fst == b && ((readR (msgL a b c s)).fst.snd.snd.fst == c && ((readR (msgL a b c s)).fst.snd.snd.snd.toList == s.toList && true)))),
  okP most rdy [],
  false,
  true,
  (gQ most rdy []).snd.snd.isSome,
  decide ((gQ most rdy []).snd.fst.length ≤ (100000 : Nat)),
  decide ((gQ most rdy []).snd.fst.length ≤ (300 : Nat)) && inR64 (0 : Int),
  (gR most rdy []).snd.snd.isSome,
  (gQ most rdy []).fst,
  false,
  false,
  false,
  false,
  false,
  false,
  false,
  false,
  false,
  (↑(gQ most rdy []).snd.fst.length : Int) != (↑(0 : Nat) : Int),
  false,
  false,
  !(gR most rdy []).fst,
  false,
  false,
  false,
  false,
  false,
  false,
  false],
  (SV.raw (Value.bool true), [])) := by kernel_rfl
theorem pb00_ffc (most : Int) (rdy : Bool) (a b c : Int) (s : ByteArray) : Tr.follow [false, false, false, false, false, false, false, false, false, true, true, false, false, false, false, true] (fB00 most rdy a b c s) =
  some ([false,
  decide ((100 : Int) < (↑s.size : Int)),
  false,
  false,
  false,
  false,
  false,
  false,
  false,
  true,
  true,
  false,
  okM b s,
  false,
  okP most rdy [],
  true],
  (SV.raw (Value.bool true), [])) := by kernel_rfl
theorem pb00_fff (most : Int) (rdy : Bool) (a b c : Int) (s : ByteArray) : Tr.follow [false, false, false, false, false, false, false, false, false, true, true, false, false, false, true, false, true, false, true, true, false, false, false, false, false, false, false, false, false, false, false, false, false, false, false, false, false, false, false, false, false, false] (fB00 most rdy a b c s) =
  some ([false,
  decide ((100 : Int) < (↑s.size : Int)),
  false,
  false,
  false,
  false,
  false,
  false,
  false,
  true,
  true,
  false,
  okM b s,
  false,
  okP most rdy [],
  false,
  true,
  (gQ most rdy []).snd.snd.isSome,
  decide ((gQ most rdy []).snd.fst.length ≤ (100000 : Nat)),
  decide ((gQ most rdy []).snd.fst.length ≤ (300 : Nat)) && inR64 (0 : Int),
  (gR most rdy []).snd.snd.isSome,
  (gQ most rdy []).fst,
  false,
  false,
  false,
  false,
  false,
  false,
  false,
  false,
  false,
  (↑(gQ most rdy []).snd.fst.length : Int) != (↑(0 : Nat) : Int),
  false,
  false,
  !(gR most rdy []).fst,
  false,
  false,
  false,
  false,
  false,
  false,
  false],
  (SV.raw (Value.bool true), [])) := by kernel_rfl

theorem clr_id {most : Int} {ts : List Pt} (h : okP most false ts = true) : ts.map clrE = ts := by
  have hx := (okP_iff.1 h).2.2
  have : ∀ x ∈ ts, clrE x = id x := fun x hm => by
    obtain ⟨_, _, _, h4, h5⟩ := hx x hm
    obtain ⟨a, b, c, d, e, f⟩ := x
    have hf : f = false := by
      cases f with
      | false => rfl
      | true => exact absurd (h4 rfl) (by decide)
    have he : e = false := by
      cases e with
      | false => rfl
      | true =>
        have hf2 : f = true := h5 rfl
        rw [hf] at hf2; cases hf2
    rw [hf, he]; rfl
  rw [List.map_congr_left this, List.map_id]
theorem okM0 : okM 0 ByteArray.empty = true := by kernel_rfl
theorem gQ_eq {most : Int} {rdy : Bool} {ts : List Pt} (h : okP most rdy ts = true) : gQ most rdy ts = (false, ts.map clrE, none) := by
  show guestR most rdy ts (0, 0, 0, ByteArray.empty) = _
  unfold guestR
  simp only [okM0, h, and_self, if_true]
  cases rdy with
  | false => rw [if_pos (by decide), clr_id h]
  | true =>
    rw [if_neg (by decide)]
    simp only [runR_eq, show ((0 : Int) == 1) = false from rfl]
    cases ts <;> rfl
theorem gR_eq {most : Int} {rdy : Bool} {ts : List Pt} (h : okP most rdy ts = true) : gR most rdy ts = (true, (ts.map clrE).map clrE, saysR true (ts.map clrE)) := by
  show guestR most (gQ most rdy ts).1 (gQ most rdy ts).2.1 (0, 0, 1, ByteArray.empty) = _
  rw [gQ_eq h]
  unfold guestR
  simp only [okM0, okP_clr (on := false) h, and_self, if_true]
  rw [if_neg (by decide)]
  simp only [runR_eq, show ((1 : Int) == 1) = true from rfl]
theorem says_get (l : List Pt) : (saysR true l).getD [] = l.map addE := by cases l <;> rfl
structure BkF (fp : Bool) (most : Int) (rdy : Bool) (ts : List Pt) : Prop where
  q1 : (gQ most rdy ts).2.2.isSome = false
  q2 : decide ((gQ most rdy ts).2.1.length ≤ 100000) = true
  q3 : (decide ((gQ most rdy ts).2.1.length ≤ 300) && inR64 0) = true
  q4 : (gQ most rdy ts).1 = false
  q5 : (((gQ most rdy ts).2.1.length : Int) != (ts.length : Int)) = false
  r1 : (gR most rdy ts).2.2.isSome = !decide (ts.length = 0)
  r2 : (!(gR most rdy ts).1) = false
  r3 : ((((gR most rdy ts).2.2.getD []).length : Int) != (ts.length : Int)) = false
  c1 : decide (ts.length ≤ 1000 ∧ (gQ most rdy ts).2.1.length = ts.length ∧ ((gR most rdy ts).2.2.getD []).length = ts.length ∧ (((gR most rdy ts).2.2.getD []).all fun m => inR64 m.1) = true) = true
  n1 : noneP (bP most rdy most (gQ most rdy ts).1 true false ((gR most rdy ts).2.2.getD []) false fp ts true false (gQ most rdy ts).2.1) ts.length = true
theorem bkF {fp : Bool} {most : Int} {rdy : Bool} {ts : List Pt} (h : okP most rdy ts = true) : BkF fp most rdy ts := by
  have hlen := okP_len h
  have hi := okP_iff.1 h
  have hr0 : inR64 0 = true := inR64_mk (by omega)
  refine ⟨?_, ?_, ?_, ?_, ?_, ?_, ?_, ?_, ?_, ?_⟩
  · rw [gQ_eq h]; rfl
  · rw [gQ_eq h]; exact decide_eq_true (by simp; omega)
  · rw [gQ_eq h, hr0, decide_eq_true (by simp; omega)]; rfl
  · rw [gQ_eq h]
  · rw [gQ_eq h]; simp
  · rw [gR_eq h]; cases ts <;> rfl
  · rw [gR_eq h]; rfl
  · rw [gR_eq h]; simp only [says_get, List.length_map]; simp
  · rw [gR_eq h, gQ_eq h]
    refine decide_eq_true ⟨by omega, by simp, by simp only [says_get, List.length_map], ?_⟩
    simp only [says_get]
    rw [List.all_eq_true]
    intro m hm
    obtain ⟨x, _, rfl⟩ := List.mem_map.1 hm
    exact inR64_mk (by show -9223372036854775808 ≤ x.1 % 4294967296 ∧ x.1 % 4294967296 ≤ 9223372036854775807; omega)
  · rw [gR_eq h, gQ_eq h]
    refine noneP_iff.2 fun k hk => ?_
    simp only [says_get]
    have e1 : elP (ts.map clrE) (k : Int) = clrE (ts[k]'hk) := by rw [elP_nat (by simpa using hk)]; simp
    have e2 : elP ts (k : Int) = ts[k]'hk := elP_nat hk
    have e3 : elM ((ts.map clrE).map addE) (k : Int) = addE (clrE (ts[k]'hk)) := by
      show ((ts.map clrE).map addE).getD k _ = _
      rw [List.getD_eq_getElem?_getD, List.getElem?_eq_getElem (by simpa using hk)]; simp
    show ((elP (ts.map clrE) (k : Int)).2.2.2.2.2 || ((elP (ts.map clrE) (k : Int)).2.2.2.2.1 || ((elP (ts.map clrE) (k : Int)).1 != (elP ts (k : Int)).1 || ((!((elP (ts.map clrE) (k : Int)).2.1.toList == (elP ts (k : Int)).2.1.toList)) || ((!((elP (ts.map clrE) (k : Int)).2.2.2.1 == (elP ts (k : Int)).2.2.2.1)) || (((elM ((ts.map clrE).map addE) (k : Int)).2.1 != 1) || ((elM ((ts.map clrE).map addE) (k : Int)).1 != (elP ts (k : Int)).1))))))) = false
    rw [e1, e2, e3]
    have hx := hi.2.2 _ (List.getElem_mem hk)
    have hid := mod_id hi.1.2 hx
    show (false || (false || ((ts[k]'hk).1 != (ts[k]'hk).1 || ((!((ts[k]'hk).2.1.toList == (ts[k]'hk).2.1.toList)) || ((!((ts[k]'hk).2.2.2.1 == (ts[k]'hk).2.2.2.1)) || (((1 : Int) != 1) || ((ts[k]'hk).1 % 4294967296 != (ts[k]'hk).1))))))) = false
    rw [hid]
    simp
/-- What is asked of the message and of the bytes. -/
structure BkM (bs : List Int) (a b c : Int) (s : ByteArray) : Prop where
  m1 : okM b s = true → ((readR (msgL a b c s)).2 != 0) = false
  m2 : okM b s = true → (!((readR (msgL a b c s)).1.1 == a && ((readR (msgL a b c s)).1.2.1 == b && ((readR (msgL a b c s)).1.2.2.1 == c && ((readR (msgL a b c s)).1.2.2.2.toList == s.toList && true))))) = false
  m3 : okM b s = true → decide ((msgL a b c s).length ≤ 100000) = true
  b1 : (readR bs).2 = 0 → okM (readR bs).1.2.1 (readR bs).1.2.2.2 = true
  b2 : (readR bs).2 = 0 → (!(strOf (List.map (fun x => x) (msgL (readR bs).1.1 (readR bs).1.2.1 (readR bs).1.2.2.1 (readR bs).1.2.2.2))).toList == (strOf (List.map (fun x => x) bs)).toList) = false
theorem bkM {bs : List Int} {a b c : Int} {s : ByteArray} (hb : ∀ x ∈ bs, isB8 x) (ha : 0 ≤ a ∧ a ≤ 4294967295) (hb' : 0 ≤ b ∧ b ≤ 65535) (hc : 0 ≤ c ∧ c ≤ 65535) (hs : ¬ (100 : Int) < (s.size : Int)) : BkM bs a b c s := by
  refine ⟨fun h => ?_, fun h => ?_, fun h => ?_, fun h => (msg_read hb h).1, fun h => ?_⟩
  · rw [read_msg ha hb' hc h]; rfl
  · rw [read_msg ha hb' hc h]; simp
  · refine decide_eq_true ?_
    unfold msgL
    rw [List.length_append, strL_len]
    simp only [List.length_cons, List.length_nil]
    omega
  · rw [(msg_read hb h).2]; simp
theorem back11 (fb : Bool) (bs : List Int) (f : Bool) (most : Int) (rdy : Bool) (ts : List Pt) (a b c : Int) (s : ByteArray) (hb : ∀ x ∈ bs, isB8 x) (ha : 0 ≤ a ∧ a ≤ 4294967295) (hb' : 0 ≤ b ∧ b ≤ 65535) (hc : 0 ≤ c ∧ c ≤ 65535) : (fB11 fb bs f most rdy ts a b c s).get = some (.raw (.bool true), []) := by
  by_cases g1 : (100 : Int) < (s.size : Int)
  · exact Tr.follow_get (pb11_g1 fb bs f most rdy ts a b c s) (by simp only [decide_eq_true g1])
  by_cases g2 : (300 : Int) < (bs.length : Int)
  · exact Tr.follow_get (pb11_g2 fb bs f most rdy ts a b c s) (by simp only [decide_eq_false g1, decide_eq_true g2])
  by_cases g3 : (60 : Int) < (ts.length : Int)
  · exact Tr.follow_get (pb11_g3 fb bs f most rdy ts a b c s) (by simp only [decide_eq_false g1, decide_eq_false g2, decide_eq_true g3])
  have M := bkM (bs := bs) hb ha hb' hc g1
  have k1 : roomB (([] : List Int).length + bs.length) Try.prog.types[(5 : Nat)].bytes = true := by
    refine decide_eq_true ?_
    rw [bytes5]
    simp
    omega
  have k2 : decide (bs.length ≤ 100000) = true := decide_eq_true (by omega)
  have k3 : decide (ts.length ≤ 100000) = true := decide_eq_true (by omega)
  have hr0 : inR64 0 = true := inR64_mk (by omega)
  have k4 : (decide (ts.length ≤ 300) && inR64 0) = true := by rw [hr0, decide_eq_true (by omega)]; rfl
  by_cases hr : (readR bs).2 = 0
  · have e1 : ((readR bs).2 == 0) = true := by rw [hr]; rfl
    by_cases hm : okM b s = true
    · by_cases ho : okP most rdy ts = true
      case neg => exact Tr.follow_get (pb11_ttc fb bs f most rdy ts a b c s) (by simp only [decide_eq_false g1, decide_eq_false g2, decide_eq_false g3, k1, k2, k3, k4, e1, M.b1 hr, M.b2 hr, hm, M.m1 hm, M.m2 hm, M.m3 hm, (Bool.not_eq_true _).mp ho])
      have B := bkF (fp := f) ho
      have r1 := B.r1
      by_cases hn : ts.length = 0
      · rw [decide_eq_true hn] at r1
        have r1 : (gR most rdy ts).2.2.isSome = false := r1
        have z1 : (((0 : Nat) : Int) != (ts.length : Int)) = false := by rw [hn]; rfl
        have z2 := decide_eq_true hn
        have z3 : noneP (bNP most rdy most (gQ most rdy ts).1 false f ts true false (gQ most rdy ts).2.1) ts.length = true := noneP_iff.2 (fun k _ => rfl)
        exact Tr.follow_get (pb11_ttf fb bs f most rdy ts a b c s) (by rw [z3]; simp only [decide_eq_false g1, decide_eq_false g2, decide_eq_false g3, k1, k2, k3, k4, e1, M.b1 hr, M.b2 hr, hm, M.m1 hm, M.m2 hm, M.m3 hm, ho, B.q1, B.q2, B.q3, B.q4, B.q5, r1, B.r2, z1, z2])
      · rw [decide_eq_false hn] at r1
        have r1 : (gR most rdy ts).2.2.isSome = true := r1
        have c1 := B.c1
        have n1 := B.n1
        have q4 := B.q4
        exact Tr.follow_get (pb11_ttt fb bs f most rdy ts a b c s) (by rw [n1, c1]; simp only [decide_eq_false g1, decide_eq_false g2, decide_eq_false g3, k1, k2, k3, k4, e1, M.b1 hr, M.b2 hr, hm, M.m1 hm, M.m2 hm, M.m3 hm, ho, B.q1, B.q2, B.q3, B.q4, B.q5, r1, B.r2, B.r3])
    · have hm : okM b s = false := by simpa using hm
      by_cases ho : okP most rdy ts = true
      case neg => exact Tr.follow_get (pb11_tfc fb bs f most rdy ts a b c s) (by simp only [decide_eq_false g1, decide_eq_false g2, decide_eq_false g3, k1, k2, k3, k4, e1, M.b1 hr, M.b2 hr, hm, (Bool.not_eq_true _).mp ho])
      have B := bkF (fp := f) ho
      have r1 := B.r1
      by_cases hn : ts.length = 0
      · rw [decide_eq_true hn] at r1
        have r1 : (gR most rdy ts).2.2.isSome = false := r1
        have z1 : (((0 : Nat) : Int) != (ts.length : Int)) = false := by rw [hn]; rfl
        have z2 := decide_eq_true hn
        have z3 : noneP (bNP most rdy most (gQ most rdy ts).1 false f ts true false (gQ most rdy ts).2.1) ts.length = true := noneP_iff.2 (fun k _ => rfl)
        exact Tr.follow_get (pb11_tff fb bs f most rdy ts a b c s) (by rw [z3]; simp only [decide_eq_false g1, decide_eq_false g2, decide_eq_false g3, k1, k2, k3, k4, e1, M.b1 hr, M.b2 hr, hm, ho, B.q1, B.q2, B.q3, B.q4, B.q5, r1, B.r2, z1, z2])
      · rw [decide_eq_false hn] at r1
        have r1 : (gR most rdy ts).2.2.isSome = true := r1
        have c1 := B.c1
        have n1 := B.n1
        have q4 := B.q4
        exact Tr.follow_get (pb11_tft fb bs f most rdy ts a b c s) (by rw [n1, c1]; simp only [decide_eq_false g1, decide_eq_false g2, decide_eq_false g3, k1, k2, k3, k4, e1, M.b1 hr, M.b2 hr, hm, ho, B.q1, B.q2, B.q3, B.q4, B.q5, r1, B.r2, B.r3])
  · have e1 : ((readR bs).2 == 0) = false := beq_eq_false_iff_ne.2 hr
    by_cases hm : okM b s = true
    · by_cases ho : okP most rdy ts = true
      case neg => exact Tr.follow_get (pb11_ftc fb bs f most rdy ts a b c s) (by simp only [decide_eq_false g1, decide_eq_false g2, decide_eq_false g3, k1, k2, k3, k4, e1, hm, M.m1 hm, M.m2 hm, M.m3 hm, (Bool.not_eq_true _).mp ho])
      have B := bkF (fp := f) ho
      have r1 := B.r1
      by_cases hn : ts.length = 0
      · rw [decide_eq_true hn] at r1
        have r1 : (gR most rdy ts).2.2.isSome = false := r1
        have z1 : (((0 : Nat) : Int) != (ts.length : Int)) = false := by rw [hn]; rfl
        have z2 := decide_eq_true hn
        have z3 : noneP (bNP most rdy most (gQ most rdy ts).1 false f ts true false (gQ most rdy ts).2.1) ts.length = true := noneP_iff.2 (fun k _ => rfl)
        exact Tr.follow_get (pb11_ftf fb bs f most rdy ts a b c s) (by rw [z3]; simp only [decide_eq_false g1, decide_eq_false g2, decide_eq_false g3, k1, k2, k3, k4, e1, hm, M.m1 hm, M.m2 hm, M.m3 hm, ho, B.q1, B.q2, B.q3, B.q4, B.q5, r1, B.r2, z1, z2])
      · rw [decide_eq_false hn] at r1
        have r1 : (gR most rdy ts).2.2.isSome = true := r1
        have c1 := B.c1
        have n1 := B.n1
        have q4 := B.q4
        exact Tr.follow_get (pb11_ftt fb bs f most rdy ts a b c s) (by rw [n1, c1]; simp only [decide_eq_false g1, decide_eq_false g2, decide_eq_false g3, k1, k2, k3, k4, e1, hm, M.m1 hm, M.m2 hm, M.m3 hm, ho, B.q1, B.q2, B.q3, B.q4, B.q5, r1, B.r2, B.r3])
    · have hm : okM b s = false := by simpa using hm
      by_cases ho : okP most rdy ts = true
      case neg => exact Tr.follow_get (pb11_ffc fb bs f most rdy ts a b c s) (by simp only [decide_eq_false g1, decide_eq_false g2, decide_eq_false g3, k1, k2, k3, k4, e1, hm, (Bool.not_eq_true _).mp ho])
      have B := bkF (fp := f) ho
      have r1 := B.r1
      by_cases hn : ts.length = 0
      · rw [decide_eq_true hn] at r1
        have r1 : (gR most rdy ts).2.2.isSome = false := r1
        have z1 : (((0 : Nat) : Int) != (ts.length : Int)) = false := by rw [hn]; rfl
        have z2 := decide_eq_true hn
        have z3 : noneP (bNP most rdy most (gQ most rdy ts).1 false f ts true false (gQ most rdy ts).2.1) ts.length = true := noneP_iff.2 (fun k _ => rfl)
        exact Tr.follow_get (pb11_fff fb bs f most rdy ts a b c s) (by rw [z3]; simp only [decide_eq_false g1, decide_eq_false g2, decide_eq_false g3, k1, k2, k3, k4, e1, hm, ho, B.q1, B.q2, B.q3, B.q4, B.q5, r1, B.r2, z1, z2])
      · rw [decide_eq_false hn] at r1
        have r1 : (gR most rdy ts).2.2.isSome = true := r1
        have c1 := B.c1
        have n1 := B.n1
        have q4 := B.q4
        exact Tr.follow_get (pb11_fft fb bs f most rdy ts a b c s) (by rw [n1, c1]; simp only [decide_eq_false g1, decide_eq_false g2, decide_eq_false g3, k1, k2, k3, k4, e1, hm, ho, B.q1, B.q2, B.q3, B.q4, B.q5, r1, B.r2, B.r3])
theorem back01 (f : Bool) (most : Int) (rdy : Bool) (ts : List Pt) (a b c : Int) (s : ByteArray) (ha : 0 ≤ a ∧ a ≤ 4294967295) (hb' : 0 ≤ b ∧ b ≤ 65535) (hc : 0 ≤ c ∧ c ≤ 65535) : (fB01 f most rdy ts a b c s).get = some (.raw (.bool true), []) := by
  by_cases g1 : (100 : Int) < (s.size : Int)
  · exact Tr.follow_get (pb01_g1 f most rdy ts a b c s) (by simp only [decide_eq_true g1])
  by_cases g3 : (60 : Int) < (ts.length : Int)
  · exact Tr.follow_get (pb01_g3 f most rdy ts a b c s) (by simp only [decide_eq_false g1, decide_eq_true g3])
  have M := bkM (bs := []) (fun _ h => by cases h) ha hb' hc g1
  have k3 : decide (ts.length ≤ 100000) = true := decide_eq_true (by omega)
  have hr0 : inR64 0 = true := inR64_mk (by omega)
  have k4 : (decide (ts.length ≤ 300) && inR64 0) = true := by rw [hr0, decide_eq_true (by omega)]; rfl
  by_cases hm : okM b s = true
  · by_cases ho : okP most rdy ts = true
    case neg => exact Tr.follow_get (pb01_ftc f most rdy ts a b c s) (by simp only [decide_eq_false g1, decide_eq_false g3, k3, k4, hm, M.m1 hm, M.m2 hm, M.m3 hm, (Bool.not_eq_true _).mp ho])
    have B := bkF (fp := f) ho
    have r1 := B.r1
    by_cases hn : ts.length = 0
    · rw [decide_eq_true hn] at r1
      have r1 : (gR most rdy ts).2.2.isSome = false := r1
      have z1 : (((0 : Nat) : Int) != (ts.length : Int)) = false := by rw [hn]; rfl
      have z2 := decide_eq_true hn
      have z3 : noneP (bNP most rdy most (gQ most rdy ts).1 false f ts true false (gQ most rdy ts).2.1) ts.length = true := noneP_iff.2 (fun k _ => rfl)
      exact Tr.follow_get (pb01_ftf f most rdy ts a b c s) (by rw [z3]; simp only [decide_eq_false g1, decide_eq_false g3, k3, k4, hm, M.m1 hm, M.m2 hm, M.m3 hm, ho, B.q1, B.q2, B.q3, B.q4, B.q5, r1, B.r2, z1, z2])
    · rw [decide_eq_false hn] at r1
      have r1 : (gR most rdy ts).2.2.isSome = true := r1
      have c1 := B.c1
      have n1 := B.n1
      have q4 := B.q4
      exact Tr.follow_get (pb01_ftt f most rdy ts a b c s) (by rw [n1, c1]; simp only [decide_eq_false g1, decide_eq_false g3, k3, k4, hm, M.m1 hm, M.m2 hm, M.m3 hm, ho, B.q1, B.q2, B.q3, B.q4, B.q5, r1, B.r2, B.r3])
  · have hm : okM b s = false := by simpa using hm
    by_cases ho : okP most rdy ts = true
    case neg => exact Tr.follow_get (pb01_ffc f most rdy ts a b c s) (by simp only [decide_eq_false g1, decide_eq_false g3, k3, k4, hm, (Bool.not_eq_true _).mp ho])
    have B := bkF (fp := f) ho
    have r1 := B.r1
    by_cases hn : ts.length = 0
    · rw [decide_eq_true hn] at r1
      have r1 : (gR most rdy ts).2.2.isSome = false := r1
      have z1 : (((0 : Nat) : Int) != (ts.length : Int)) = false := by rw [hn]; rfl
      have z2 := decide_eq_true hn
      have z3 : noneP (bNP most rdy most (gQ most rdy ts).1 false f ts true false (gQ most rdy ts).2.1) ts.length = true := noneP_iff.2 (fun k _ => rfl)
      exact Tr.follow_get (pb01_fff f most rdy ts a b c s) (by rw [z3]; simp only [decide_eq_false g1, decide_eq_false g3, k3, k4, hm, ho, B.q1, B.q2, B.q3, B.q4, B.q5, r1, B.r2, z1, z2])
    · rw [decide_eq_false hn] at r1
      have r1 : (gR most rdy ts).2.2.isSome = true := r1
      have c1 := B.c1
      have n1 := B.n1
      have q4 := B.q4
      exact Tr.follow_get (pb01_fft f most rdy ts a b c s) (by rw [n1, c1]; simp only [decide_eq_false g1, decide_eq_false g3, k3, k4, hm, ho, B.q1, B.q2, B.q3, B.q4, B.q5, r1, B.r2, B.r3])
theorem back10 (fb : Bool) (bs : List Int) (most : Int) (rdy : Bool) (a b c : Int) (s : ByteArray) (hb : ∀ x ∈ bs, isB8 x) (ha : 0 ≤ a ∧ a ≤ 4294967295) (hb' : 0 ≤ b ∧ b ≤ 65535) (hc : 0 ≤ c ∧ c ≤ 65535) : (fB10 fb bs most rdy a b c s).get = some (.raw (.bool true), []) := by
  by_cases g1 : (100 : Int) < (s.size : Int)
  · exact Tr.follow_get (pb10_g1 fb bs most rdy a b c s) (by simp only [decide_eq_true g1])
  by_cases g2 : (300 : Int) < (bs.length : Int)
  · exact Tr.follow_get (pb10_g2 fb bs most rdy a b c s) (by simp only [decide_eq_false g1, decide_eq_true g2])
  have M := bkM (bs := bs) hb ha hb' hc g1
  have k1 : roomB (([] : List Int).length + bs.length) Try.prog.types[(5 : Nat)].bytes = true := by
    refine decide_eq_true ?_
    rw [bytes5]
    simp
    omega
  have k2 : decide (bs.length ≤ 100000) = true := decide_eq_true (by omega)
  by_cases hr : (readR bs).2 = 0
  · have e1 : ((readR bs).2 == 0) = true := by rw [hr]; rfl
    by_cases hm : okM b s = true
    · by_cases ho : okP most rdy [] = true
      case neg => exact Tr.follow_get (pb10_ttc fb bs most rdy a b c s) (by simp only [decide_eq_false g1, decide_eq_false g2, k1, k2, e1, M.b1 hr, M.b2 hr, hm, M.m1 hm, M.m2 hm, M.m3 hm, (Bool.not_eq_true _).mp ho])
      have B := bkF (fp := false) ho
      have r1 := B.r1
      have r1 : (gR most rdy []).2.2.isSome = false := r1
      have q5 : (((gQ most rdy []).2.1.length : Int) != ((0 : Nat) : Int)) = false := B.q5
      exact Tr.follow_get (pb10_ttf fb bs most rdy a b c s) (by simp only [decide_eq_false g1, decide_eq_false g2, k1, k2, e1, M.b1 hr, M.b2 hr, hm, M.m1 hm, M.m2 hm, M.m3 hm, ho, B.q1, B.q2, B.q3, B.q4, q5, r1, B.r2])
    · have hm : okM b s = false := by simpa using hm
      by_cases ho : okP most rdy [] = true
      case neg => exact Tr.follow_get (pb10_tfc fb bs most rdy a b c s) (by simp only [decide_eq_false g1, decide_eq_false g2, k1, k2, e1, M.b1 hr, M.b2 hr, hm, (Bool.not_eq_true _).mp ho])
      have B := bkF (fp := false) ho
      have r1 := B.r1
      have r1 : (gR most rdy []).2.2.isSome = false := r1
      have q5 : (((gQ most rdy []).2.1.length : Int) != ((0 : Nat) : Int)) = false := B.q5
      exact Tr.follow_get (pb10_tff fb bs most rdy a b c s) (by simp only [decide_eq_false g1, decide_eq_false g2, k1, k2, e1, M.b1 hr, M.b2 hr, hm, ho, B.q1, B.q2, B.q3, B.q4, q5, r1, B.r2])
  · have e1 : ((readR bs).2 == 0) = false := beq_eq_false_iff_ne.2 hr
    by_cases hm : okM b s = true
    · by_cases ho : okP most rdy [] = true
      case neg => exact Tr.follow_get (pb10_ftc fb bs most rdy a b c s) (by simp only [decide_eq_false g1, decide_eq_false g2, k1, k2, e1, hm, M.m1 hm, M.m2 hm, M.m3 hm, (Bool.not_eq_true _).mp ho])
      have B := bkF (fp := false) ho
      have r1 := B.r1
      have r1 : (gR most rdy []).2.2.isSome = false := r1
      have q5 : (((gQ most rdy []).2.1.length : Int) != ((0 : Nat) : Int)) = false := B.q5
      exact Tr.follow_get (pb10_ftf fb bs most rdy a b c s) (by simp only [decide_eq_false g1, decide_eq_false g2, k1, k2, e1, hm, M.m1 hm, M.m2 hm, M.m3 hm, ho, B.q1, B.q2, B.q3, B.q4, q5, r1, B.r2])
    · have hm : okM b s = false := by simpa using hm
      by_cases ho : okP most rdy [] = true
      case neg => exact Tr.follow_get (pb10_ffc fb bs most rdy a b c s) (by simp only [decide_eq_false g1, decide_eq_false g2, k1, k2, e1, hm, (Bool.not_eq_true _).mp ho])
      have B := bkF (fp := false) ho
      have r1 := B.r1
      have r1 : (gR most rdy []).2.2.isSome = false := r1
      have q5 : (((gQ most rdy []).2.1.length : Int) != ((0 : Nat) : Int)) = false := B.q5
      exact Tr.follow_get (pb10_fff fb bs most rdy a b c s) (by simp only [decide_eq_false g1, decide_eq_false g2, k1, k2, e1, hm, ho, B.q1, B.q2, B.q3, B.q4, q5, r1, B.r2])
theorem back00 (most : Int) (rdy : Bool) (a b c : Int) (s : ByteArray) (ha : 0 ≤ a ∧ a ≤ 4294967295) (hb' : 0 ≤ b ∧ b ≤ 65535) (hc : 0 ≤ c ∧ c ≤ 65535) : (fB00 most rdy a b c s).get = some (.raw (.bool true), []) := by
  by_cases g1 : (100 : Int) < (s.size : Int)
  · exact Tr.follow_get (pb00_g1 most rdy a b c s) (by simp only [decide_eq_true g1])
  have M := bkM (bs := []) (fun _ h => by cases h) ha hb' hc g1
  by_cases hm : okM b s = true
  · by_cases ho : okP most rdy [] = true
    case neg => exact Tr.follow_get (pb00_ftc most rdy a b c s) (by simp only [decide_eq_false g1, hm, M.m1 hm, M.m2 hm, M.m3 hm, (Bool.not_eq_true _).mp ho])
    have B := bkF (fp := false) ho
    have r1 := B.r1
    have r1 : (gR most rdy []).2.2.isSome = false := r1
    have q5 : (((gQ most rdy []).2.1.length : Int) != ((0 : Nat) : Int)) = false := B.q5
    exact Tr.follow_get (pb00_ftf most rdy a b c s) (by simp only [decide_eq_false g1, hm, M.m1 hm, M.m2 hm, M.m3 hm, ho, B.q1, B.q2, B.q3, B.q4, q5, r1, B.r2])
  · have hm : okM b s = false := by simpa using hm
    by_cases ho : okP most rdy [] = true
    case neg => exact Tr.follow_get (pb00_ffc most rdy a b c s) (by simp only [decide_eq_false g1, hm, (Bool.not_eq_true _).mp ho])
    have B := bkF (fp := false) ho
    have r1 := B.r1
    have r1 : (gR most rdy []).2.2.isSome = false := r1
    have q5 : (((gQ most rdy []).2.1.length : Int) != ((0 : Nat) : Int)) = false := B.q5
    exact Tr.follow_get (pb00_fff most rdy a b c s) (by simp only [decide_eq_false g1, hm, ho, B.q1, B.q2, B.q3, B.q4, q5, r1, B.r2])
end
end Go.Proofs.Ytgegagndihffpaa
