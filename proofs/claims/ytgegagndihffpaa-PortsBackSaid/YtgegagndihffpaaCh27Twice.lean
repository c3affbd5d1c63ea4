/-
  Chapter 27: PortsTwice: its ways, and that each answers true. Own work; nothing here is trusted.
-/
import Derived.Test.YtgegagndihffpaaCh27Twice0
namespace Go.Proofs.Ytgegagndihffpaa
open Go Go.Sx Go.RowKit
set_option maxRecDepth 1000000
set_option maxHeartbeats 8000000
set_option linter.unusedVariables false
set_option linter.unusedSimpArgs false
noncomputable section

theorem tw_g1 (f : Bool) (most : Int) (rdy : Bool) (ts : List Pt) (id : Int) (nm : ByteArray) (cons : Bool) (a b c : Int) (s : ByteArray) : Tr.follow [false, true, true, true, true, true, true, true, true, true, true, true, true, true, true] (fW7 f most rdy ts id nm cons a b c s) =
  some ([false,
  decide ((60 : Int) < (↑ts.length : Int)),
  true,
  true,
  true,
  true,
  true,
  true,
  true,
  true,
  true,
  true,
  true,
  true,
  true],
  (SV.raw (Value.bool true), [])) := by kernel_rfl
theorem tw_g2 (f : Bool) (most : Int) (rdy : Bool) (ts : List Pt) (id : Int) (nm : ByteArray) (cons : Bool) (a b c : Int) (s : ByteArray) : Tr.follow [false, false, false, false, true, true, true, true, true, true, true, true, true, true] (fW7 f most rdy ts id nm cons a b c s) =
  some ([false,
  decide ((60 : Int) < (↑ts.length : Int)),
  false,
  false,
  decide ((100 : Int) < (↑nm.size : Int)),
  true,
  true,
  true,
  true,
  true,
  true,
  true,
  true,
  true],
  (SV.raw (Value.bool true), [])) := by kernel_rfl
theorem tn_g2 (most : Int) (rdy : Bool) (id : Int) (nm : ByteArray) (cons : Bool) (a b c : Int) (s : ByteArray) : Tr.follow [false, false, false, false, true, true, true, true, true, true, true, true, true, true] (fW7n most rdy id nm cons a b c s) =
  some ([false,
  false,
  false,
  false,
  decide ((100 : Int) < (↑nm.size : Int)),
  true,
  true,
  true,
  true,
  true,
  true,
  true,
  true,
  true],
  (SV.raw (Value.bool true), [])) := by kernel_rfl
theorem tw_g3 (f : Bool) (most : Int) (rdy : Bool) (ts : List Pt) (id : Int) (nm : ByteArray) (cons : Bool) (a b c : Int) (s : ByteArray) : Tr.follow [false, false, false, false, false, false, false, false, true, true, true, true, true] (fW7 f most rdy ts id nm cons a b c s) =
  some ([false,
  decide ((60 : Int) < (↑ts.length : Int)),
  false,
  false,
  decide ((100 : Int) < (↑nm.size : Int)),
  false,
  false,
  false,
  decide ((100 : Int) < (↑s.size : Int)),
  true,
  true,
  true,
  true],
  (SV.raw (Value.bool true), [])) := by kernel_rfl
theorem tn_g3 (most : Int) (rdy : Bool) (id : Int) (nm : ByteArray) (cons : Bool) (a b c : Int) (s : ByteArray) : Tr.follow [false, false, false, false, false, false, false, false, true, true, true, true, true] (fW7n most rdy id nm cons a b c s) =
  some ([false,
  false,
  false,
  false,
  decide ((100 : Int) < (↑nm.size : Int)),
  false,
  false,
  false,
  decide ((100 : Int) < (↑s.size : Int)),
  true,
  true,
  true,
  true],
  (SV.raw (Value.bool true), [])) := by kernel_rfl
theorem tw_g4 (f : Bool) (most : Int) (rdy : Bool) (ts : List Pt) (id : Int) (nm : ByteArray) (cons : Bool) (a b c : Int) (s : ByteArray) : Tr.follow [false, false, false, false, false, false, false, false, false, false, true, false, false, true] (fW7 f most rdy ts id nm cons a b c s) =
  some ([false,
  decide ((60 : Int) < (↑ts.length : Int)),
  false,
  false,
  decide ((100 : Int) < (↑nm.size : Int)),
  false,
  false,
  false,
  decide ((100 : Int) < (↑s.size : Int)),
  false,
  decide (ts.length ≤ (100000 : Nat)),
  okP most rdy ts,
  false,
  true],
  (SV.raw (Value.bool true), [])) := by kernel_rfl
theorem tn_g4 (most : Int) (rdy : Bool) (id : Int) (nm : ByteArray) (cons : Bool) (a b c : Int) (s : ByteArray) : Tr.follow [false, false, false, false, false, false, false, false, false, false, false, false, true] (fW7n most rdy id nm cons a b c s) =
  some ([false,
  false,
  false,
  false,
  decide ((100 : Int) < (↑nm.size : Int)),
  false,
  false,
  false,
  decide ((100 : Int) < (↑s.size : Int)),
  false,
  okP most rdy [],
  false,
  true],
  (SV.raw (Value.bool true), [])) := by kernel_rfl
theorem tw_e1 (f : Bool) (most : Int) (rdy : Bool) (ts : List Pt) (id : Int) (nm : ByteArray) (cons : Bool) (a b c : Int) (s : ByteArray) : Tr.follow [false, false, false, false, false, false, false, false, false, false, true, true, false, false, true, true, true, true, true, false, true, true, true, true, true, true, true, true] (fW7 f most rdy ts id nm cons a b c s) =
  some ([false,
  decide ((60 : Int) < (↑ts.length : Int)),
  false,
  false,
  decide ((100 : Int) < (↑nm.size : Int)),
  false,
  false,
  false,
  decide ((100 : Int) < (↑s.size : Int)),
  false,
  decide (ts.length ≤ (100000 : Nat)),
  okP most rdy ts,
  false,
  false,
  decide (ts.length ≤ (100000 : Nat)),
  smallK ts [(a, b, c, s)],
  decide (ts.length ≤ (100000 : Nat)),
  smallK ts [(a, b, c, s), (a, b, c, s)],
  decide ((knowAll most rdy ts [(a, b, c, s)]).length ≤ (100000 : Nat)),
  !sameP most rdy (knowAll most rdy ts [(a, b, c, s)]) most rdy (knowAll most rdy ts [(a, b, c, s), (a, b, c, s)]),
  decide (ts.length ≤ (100000 : Nat)),
  decide (ts.length ≤ (1000 : Nat)),
  okP most rdy ts,
  decide (id < (0 : Int)),
  true,
  true,
  true,
  true],
  (SV.raw (Value.bool true), [])) := by kernel_rfl
theorem tn_e1 (most : Int) (rdy : Bool) (id : Int) (nm : ByteArray) (cons : Bool) (a b c : Int) (s : ByteArray) : Tr.follow [false, false, false, false, false, false, false, false, false, false, true, false, false, true, true, true, false, true, true, true, true, true, true, true] (fW7n most rdy id nm cons a b c s) =
  some ([false,
  false,
  false,
  false,
  decide ((100 : Int) < (↑nm.size : Int)),
  false,
  false,
  false,
  decide ((100 : Int) < (↑s.size : Int)),
  false,
  okP most rdy [],
  false,
  false,
  smallK [] [(a, b, c, s)],
  smallK [] [(a, b, c, s), (a, b, c, s)],
  decide ((knowAll most rdy [] [(a, b, c, s)]).length ≤ (100000 : Nat)),
  !sameP most rdy (knowAll most rdy [] [(a, b, c, s)]) most rdy (knowAll most rdy [] [(a, b, c, s), (a, b, c, s)]),
  true,
  okP most rdy [],
  decide (id < (0 : Int)),
  true,
  true,
  true,
  true],
  (SV.raw (Value.bool true), [])) := by kernel_rfl
theorem tw_e2 (f : Bool) (most : Int) (rdy : Bool) (ts : List Pt) (id : Int) (nm : ByteArray) (cons : Bool) (a b c : Int) (s : ByteArray) : Tr.follow [false, false, false, false, false, false, false, false, false, false, true, true, false, false, true, true, true, true, true, false, true, true, true, false, true, true, true, true, true] (fW7 f most rdy ts id nm cons a b c s) =
  some ([false,
  decide ((60 : Int) < (↑ts.length : Int)),
  false,
  false,
  decide ((100 : Int) < (↑nm.size : Int)),
  false,
  false,
  false,
  decide ((100 : Int) < (↑s.size : Int)),
  false,
  decide (ts.length ≤ (100000 : Nat)),
  okP most rdy ts,
  false,
  false,
  decide (ts.length ≤ (100000 : Nat)),
  smallK ts [(a, b, c, s)],
  decide (ts.length ≤ (100000 : Nat)),
  smallK ts [(a, b, c, s), (a, b, c, s)],
  decide ((knowAll most rdy ts [(a, b, c, s)]).length ≤ (100000 : Nat)),
  !sameP most rdy (knowAll most rdy ts [(a, b, c, s)]) most rdy (knowAll most rdy ts [(a, b, c, s), (a, b, c, s)]),
  decide (ts.length ≤ (100000 : Nat)),
  decide (ts.length ≤ (1000 : Nat)),
  okP most rdy ts,
  decide (id < (0 : Int)),
  decide (most ≤ id),
  true,
  true,
  true,
  true],
  (SV.raw (Value.bool true), [])) := by kernel_rfl
theorem tn_e2 (most : Int) (rdy : Bool) (id : Int) (nm : ByteArray) (cons : Bool) (a b c : Int) (s : ByteArray) : Tr.follow [false, false, false, false, false, false, false, false, false, false, true, false, false, true, true, true, false, true, true, false, true, true, true, true, true] (fW7n most rdy id nm cons a b c s) =
  some ([false,
  false,
  false,
  false,
  decide ((100 : Int) < (↑nm.size : Int)),
  false,
  false,
  false,
  decide ((100 : Int) < (↑s.size : Int)),
  false,
  okP most rdy [],
  false,
  false,
  smallK [] [(a, b, c, s)],
  smallK [] [(a, b, c, s), (a, b, c, s)],
  decide ((knowAll most rdy [] [(a, b, c, s)]).length ≤ (100000 : Nat)),
  !sameP most rdy (knowAll most rdy [] [(a, b, c, s)]) most rdy (knowAll most rdy [] [(a, b, c, s), (a, b, c, s)]),
  true,
  okP most rdy [],
  decide (id < (0 : Int)),
  decide (most ≤ id),
  true,
  true,
  true,
  true],
  (SV.raw (Value.bool true), [])) := by kernel_rfl
theorem tw_e3 (f : Bool) (most : Int) (rdy : Bool) (ts : List Pt) (id : Int) (nm : ByteArray) (cons : Bool) (a b c : Int) (s : ByteArray) : Tr.follow [false, false, false, false, false, false, false, false, false, false, true, true, false, false, true, true, true, true, true, false, true, true, true, false, false, true, true, true, true, true] (fW7 f most rdy ts id nm cons a b c s) =
  some ([false,
  decide ((60 : Int) < (↑ts.length : Int)),
  false,
  false,
  decide ((100 : Int) < (↑nm.size : Int)),
  false,
  false,
  false,
  decide ((100 : Int) < (↑s.size : Int)),
  false,
  decide (ts.length ≤ (100000 : Nat)),
  okP most rdy ts,
  false,
  false,
  decide (ts.length ≤ (100000 : Nat)),
  smallK ts [(a, b, c, s)],
  decide (ts.length ≤ (100000 : Nat)),
  smallK ts [(a, b, c, s), (a, b, c, s)],
  decide ((knowAll most rdy ts [(a, b, c, s)]).length ≤ (100000 : Nat)),
  !sameP most rdy (knowAll most rdy ts [(a, b, c, s)]) most rdy (knowAll most rdy ts [(a, b, c, s), (a, b, c, s)]),
  decide (ts.length ≤ (100000 : Nat)),
  decide (ts.length ≤ (1000 : Nat)),
  okP most rdy ts,
  decide (id < (0 : Int)),
  decide (most ≤ id),
  decide ((64 : Int) < (↑nm.size : Int)),
  true,
  true,
  true,
  true],
  (SV.raw (Value.bool true), [])) := by kernel_rfl
theorem tn_e3 (most : Int) (rdy : Bool) (id : Int) (nm : ByteArray) (cons : Bool) (a b c : Int) (s : ByteArray) : Tr.follow [false, false, false, false, false, false, false, false, false, false, true, false, false, true, true, true, false, true, true, false, false, true, true, true, true, true] (fW7n most rdy id nm cons a b c s) =
  some ([false,
  false,
  false,
  false,
  decide ((100 : Int) < (↑nm.size : Int)),
  false,
  false,
  false,
  decide ((100 : Int) < (↑s.size : Int)),
  false,
  okP most rdy [],
  false,
  false,
  smallK [] [(a, b, c, s)],
  smallK [] [(a, b, c, s), (a, b, c, s)],
  decide ((knowAll most rdy [] [(a, b, c, s)]).length ≤ (100000 : Nat)),
  !sameP most rdy (knowAll most rdy [] [(a, b, c, s)]) most rdy (knowAll most rdy [] [(a, b, c, s), (a, b, c, s)]),
  true,
  okP most rdy [],
  decide (id < (0 : Int)),
  decide (most ≤ id),
  decide ((64 : Int) < (↑nm.size : Int)),
  true,
  true,
  true,
  true],
  (SV.raw (Value.bool true), [])) := by kernel_rfl
theorem tw_e4 (f : Bool) (most : Int) (rdy : Bool) (ts : List Pt) (id : Int) (nm : ByteArray) (cons : Bool) (a b c : Int) (s : ByteArray) : Tr.follow [false, false, false, false, false, false, false, false, false, false, true, true, false, false, true, true, true, true, true, false, true, true, true, false, false, false, true, true, false, false] (fW7 f most rdy ts id nm cons a b c s) =
  some ([false,
  decide ((60 : Int) < (↑ts.length : Int)),
  false,
  false,
  decide ((100 : Int) < (↑nm.size : Int)),
  false,
  false,
  false,
  decide ((100 : Int) < (↑s.size : Int)),
  false,
  decide (ts.length ≤ (100000 : Nat)),
  okP most rdy ts,
  false,
  false,
  decide (ts.length ≤ (100000 : Nat)),
  smallK ts [(a, b, c, s)],
  decide (ts.length ≤ (100000 : Nat)),
  smallK ts [(a, b, c, s), (a, b, c, s)],
  decide ((knowAll most rdy ts [(a, b, c, s)]).length ≤ (100000 : Nat)),
  !sameP most rdy (knowAll most rdy ts [(a, b, c, s)]) most rdy (knowAll most rdy ts [(a, b, c, s), (a, b, c, s)]),
  decide (ts.length ≤ (100000 : Nat)),
  decide (ts.length ≤ (1000 : Nat)),
  okP most rdy ts,
  decide (id < (0 : Int)),
  decide (most ≤ id),
  decide ((64 : Int) < (↑nm.size : Int)),
  decide ((0 : Int) ≤ atI ts id),
  true,
  false,
  false],
  (SV.raw (Value.bool true), [])) := by kernel_rfl
theorem tw_m00 (f : Bool) (most : Int) (rdy : Bool) (ts : List Pt) (id : Int) (nm : ByteArray) (cons : Bool) (a b c : Int) (s : ByteArray) : Tr.follow [false, false, false, false, false, false, false, false, false, false, true, true, false, false, true, true, true, true, true, false, true, true, true, false, false, false, false, true, false, true, true, true, false, true, true, true, true, false, false, true, true, true, false, false, false, false, false, true, false, false, false, false, false, false, false, false, false, false, false, true, false, false, true, true, false, true, true, false, true, true, true, true] (fW7 f most rdy ts id nm cons a b c s) =
  some ([false,
  decide ((60 : Int) < (↑ts.length : Int)),
  false,
  false,
  decide ((100 : Int) < (↑nm.size : Int)),
  false,
  false,
  false,
  decide ((100 : Int) < (↑s.size : Int)),
  false,
  decide (ts.length ≤ (100000 : Nat)),
  okP most rdy ts,
  false,
  false,
  decide (ts.length ≤ (100000 : Nat)),
  smallK ts [(a, b, c, s)],
  decide (ts.length ≤ (100000 : Nat)),
  smallK ts [(a, b, c, s), (a, b, c, s)],
  decide ((knowAll most rdy ts [(a, b, c, s)]).length ≤ (100000 : Nat)),
  !sameP most rdy (knowAll most rdy ts [(a, b, c, s)]) most rdy (knowAll most rdy ts [(a, b, c, s), (a, b, c, s)]),
  decide (ts.length ≤ (100000 : Nat)),
  decide (ts.length ≤ (1000 : Nat)),
  okP most rdy ts,
  decide (id < (0 : Int)),
  decide (most ≤ id),
  decide ((64 : Int) < (↑nm.size : Int)),
  decide ((0 : Int) ≤ atI ts id),
  !rdy,
  false,
  decide ((insQ ts id nm cons).length ≤ (100000 : Nat)),
  decide ((insQ ts id nm cons).length ≤ (1000 : Nat)),
  okP most rdy (insQ ts id nm cons),
  decide (atI (insQ ts id nm cons) id < (0 : Int)),
  !rdy,
  decide ((insQ ts id nm cons).length ≤ (100000 : Nat)),
  decide ((insQ ts id nm cons).length ≤ (1000 : Nat)),
  okP most rdy (insQ ts id nm cons),
  decide (atI (insQ ts id nm cons) id < (0 : Int)),
  tellsO (insQ ts id nm cons) id true,
  decide ((opnQ ts id nm cons).length ≤ (100000 : Nat)),
  decide ((opnQ ts id nm cons).length ≤ (1000 : Nat)),
  okP most rdy (opnQ ts id nm cons),
  decide (atI (opnQ ts id nm cons) id < (0 : Int)),
  tellsO (opnQ ts id nm cons) id true,
  false,
  false,
  false,
  decide ((delQ ts id nm cons).length ≤ (100000 : Nat)),
  false,
  !sameP most rdy (delQ ts id nm cons) most rdy ts,
  false,
  false,
  false,
  false,
  false,
  false,
  false,
  false,
  false,
  decide ((opnQ ts id nm cons).length ≤ (100000 : Nat)),
  false,
  !sameP most rdy (opnQ ts id nm cons) most rdy (openL (opnQ ts id nm cons) id true),
  decide ((opnQ ts id nm cons).length ≤ (100000 : Nat)),
  decide ((opnQ ts id nm cons).length ≤ (300 : Nat)) && inR64 (id % (4294967296 : Int)),
  (gueQ most rdy ts id nm cons).snd.snd.isSome,
  decide ((gueQ most rdy ts id nm cons).snd.fst.length ≤ (100000 : Nat)),
  decide ((gueQ most rdy ts id nm cons).snd.fst.length ≤ (300 : Nat)) && inR64 (id % (4294967296 : Int)),
  (guestR most (gueQ most rdy ts id nm cons).fst (gueQ most rdy ts id nm cons).snd.fst (id % (4294967296 : Int), (3 : Int), (1 : Int), ByteArray.empty)).snd.snd.isSome,
  decide ((gueQ most rdy ts id nm cons).snd.fst.length ≤ (100000 : Nat)),
  sameP most (gueQ most rdy ts id nm cons).fst (gueQ most rdy ts id nm cons).snd.fst most (guestR most (gueQ most rdy ts id nm cons).fst (gueQ most rdy ts id nm cons).snd.fst (id % (4294967296 : Int), (3 : Int), (1 : Int), ByteArray.empty)).fst (guestR most (gueQ most rdy ts id nm cons).fst (gueQ most rdy ts id nm cons).snd.fst (id % (4294967296 : Int), (3 : Int), (1 : Int), ByteArray.empty)).snd.fst,
  true,
  true],
  (SV.raw (Value.bool true), [])) := by kernel_rfl
theorem tn_m00 (most : Int) (rdy : Bool) (id : Int) (nm : ByteArray) (cons : Bool) (a b c : Int) (s : ByteArray) : Tr.follow [false, false, false, false, false, false, false, false, false, false, true, false, false, true, true, true, false, true, true, false, false, false, false, true, false, true, true, true, false, true, true, true, true, false, false, true, true, true, false, false, false, false, false, false, false, false, false, false, false, false, false, false, false, false, true, false, false, true, true, false, true, true, false, true, true, true, true] (fW7n most rdy id nm cons a b c s) =
  some ([false,
  false,
  false,
  false,
  decide ((100 : Int) < (↑nm.size : Int)),
  false,
  false,
  false,
  decide ((100 : Int) < (↑s.size : Int)),
  false,
  okP most rdy [],
  false,
  false,
  smallK [] [(a, b, c, s)],
  smallK [] [(a, b, c, s), (a, b, c, s)],
  decide ((knowAll most rdy [] [(a, b, c, s)]).length ≤ (100000 : Nat)),
  !sameP most rdy (knowAll most rdy [] [(a, b, c, s)]) most rdy (knowAll most rdy [] [(a, b, c, s), (a, b, c, s)]),
  true,
  okP most rdy [],
  decide (id < (0 : Int)),
  decide (most ≤ id),
  decide ((64 : Int) < (↑nm.size : Int)),
  false,
  !rdy,
  false,
  true,
  true,
  okP most rdy (insQ [] id nm cons),
  decide (atI (insQ [] id nm cons) id < (0 : Int)),
  !rdy,
  true,
  true,
  okP most rdy (insQ [] id nm cons),
  decide (atI (insQ [] id nm cons) id < (0 : Int)),
  tellsO (insQ [] id nm cons) id true,
  decide ((opnQ [] id nm cons).length ≤ (100000 : Nat)),
  decide ((opnQ [] id nm cons).length ≤ (1000 : Nat)),
  okP most rdy (opnQ [] id nm cons),
  decide (atI (opnQ [] id nm cons) id < (0 : Int)),
  tellsO (opnQ [] id nm cons) id true,
  false,
  false,
  false,
  false,
  !sameP most rdy (delQ [] id nm cons) most rdy [],
  false,
  false,
  false,
  false,
  false,
  false,
  false,
  false,
  false,
  decide ((opnQ [] id nm cons).length ≤ (100000 : Nat)),
  false,
  !sameP most rdy (opnQ [] id nm cons) most rdy (openL (opnQ [] id nm cons) id true),
  decide ((opnQ [] id nm cons).length ≤ (100000 : Nat)),
  decide ((opnQ [] id nm cons).length ≤ (300 : Nat)) && inR64 (id % (4294967296 : Int)),
  (gueQ most rdy [] id nm cons).snd.snd.isSome,
  decide ((gueQ most rdy [] id nm cons).snd.fst.length ≤ (100000 : Nat)),
  decide ((gueQ most rdy [] id nm cons).snd.fst.length ≤ (300 : Nat)) && inR64 (id % (4294967296 : Int)),
  (guestR most (gueQ most rdy [] id nm cons).fst (gueQ most rdy [] id nm cons).snd.fst (id % (4294967296 : Int), (3 : Int), (1 : Int), ByteArray.empty)).snd.snd.isSome,
  decide ((gueQ most rdy [] id nm cons).snd.fst.length ≤ (100000 : Nat)),
  sameP most (gueQ most rdy [] id nm cons).fst (gueQ most rdy [] id nm cons).snd.fst most (guestR most (gueQ most rdy [] id nm cons).fst (gueQ most rdy [] id nm cons).snd.fst (id % (4294967296 : Int), (3 : Int), (1 : Int), ByteArray.empty)).fst (guestR most (gueQ most rdy [] id nm cons).fst (gueQ most rdy [] id nm cons).snd.fst (id % (4294967296 : Int), (3 : Int), (1 : Int), ByteArray.empty)).snd.fst,
  true,
  true],
  (SV.raw (Value.bool true), [])) := by kernel_rfl
theorem tw_m10 (f : Bool) (most : Int) (rdy : Bool) (ts : List Pt) (id : Int) (nm : ByteArray) (cons : Bool) (a b c : Int) (s : ByteArray) : Tr.follow [false, false, false, false, false, false, false, false, false, false, true, true, false, false, true, true, true, true, true, false, true, true, true, false, false, false, false, false, false, true, true, true, false, false, true, true, true, false, false, true, true, true, false, false, false, false, false, true, false, false, false, false, false, false, false, false, false, false, false, true, false, false, true, true, false, true, true, false, true, true, true, true] (fW7 f most rdy ts id nm cons a b c s) =
  some ([false,
  decide ((60 : Int) < (↑ts.length : Int)),
  false,
  false,
  decide ((100 : Int) < (↑nm.size : Int)),
  false,
  false,
  false,
  decide ((100 : Int) < (↑s.size : Int)),
  false,
  decide (ts.length ≤ (100000 : Nat)),
  okP most rdy ts,
  false,
  false,
  decide (ts.length ≤ (100000 : Nat)),
  smallK ts [(a, b, c, s)],
  decide (ts.length ≤ (100000 : Nat)),
  smallK ts [(a, b, c, s), (a, b, c, s)],
  decide ((knowAll most rdy ts [(a, b, c, s)]).length ≤ (100000 : Nat)),
  !sameP most rdy (knowAll most rdy ts [(a, b, c, s)]) most rdy (knowAll most rdy ts [(a, b, c, s), (a, b, c, s)]),
  decide (ts.length ≤ (100000 : Nat)),
  decide (ts.length ≤ (1000 : Nat)),
  okP most rdy ts,
  decide (id < (0 : Int)),
  decide (most ≤ id),
  decide ((64 : Int) < (↑nm.size : Int)),
  decide ((0 : Int) ≤ atI ts id),
  !rdy,
  false,
  decide ((insQ ts id nm cons).length ≤ (100000 : Nat)),
  decide ((insQ ts id nm cons).length ≤ (1000 : Nat)),
  okP most rdy (insQ ts id nm cons),
  decide (atI (insQ ts id nm cons) id < (0 : Int)),
  !rdy,
  decide ((insQ ts id nm cons).length ≤ (100000 : Nat)),
  decide ((insQ ts id nm cons).length ≤ (1000 : Nat)),
  okP most rdy (insQ ts id nm cons),
  decide (atI (insQ ts id nm cons) id < (0 : Int)),
  tellsO (insQ ts id nm cons) id true,
  decide ((opnQ ts id nm cons).length ≤ (100000 : Nat)),
  decide ((opnQ ts id nm cons).length ≤ (1000 : Nat)),
  okP most rdy (opnQ ts id nm cons),
  decide (atI (opnQ ts id nm cons) id < (0 : Int)),
  tellsO (opnQ ts id nm cons) id true,
  false,
  false,
  false,
  decide ((delQ ts id nm cons).length ≤ (100000 : Nat)),
  false,
  !sameP most rdy (delQ ts id nm cons) most rdy ts,
  false,
  false,
  false,
  false,
  false,
  false,
  false,
  false,
  false,
  decide ((opnQ ts id nm cons).length ≤ (100000 : Nat)),
  false,
  !sameP most rdy (opnQ ts id nm cons) most rdy (openL (opnQ ts id nm cons) id true),
  decide ((opnQ ts id nm cons).length ≤ (100000 : Nat)),
  decide ((opnQ ts id nm cons).length ≤ (300 : Nat)) && inR64 (id % (4294967296 : Int)),
  (gueQ most rdy ts id nm cons).snd.snd.isSome,
  decide ((gueQ most rdy ts id nm cons).snd.fst.length ≤ (100000 : Nat)),
  decide ((gueQ most rdy ts id nm cons).snd.fst.length ≤ (300 : Nat)) && inR64 (id % (4294967296 : Int)),
  (guestR most (gueQ most rdy ts id nm cons).fst (gueQ most rdy ts id nm cons).snd.fst (id % (4294967296 : Int), (3 : Int), (1 : Int), ByteArray.empty)).snd.snd.isSome,
  decide ((gueQ most rdy ts id nm cons).snd.fst.length ≤ (100000 : Nat)),
  sameP most (gueQ most rdy ts id nm cons).fst (gueQ most rdy ts id nm cons).snd.fst most (guestR most (gueQ most rdy ts id nm cons).fst (gueQ most rdy ts id nm cons).snd.fst (id % (4294967296 : Int), (3 : Int), (1 : Int), ByteArray.empty)).fst (guestR most (gueQ most rdy ts id nm cons).fst (gueQ most rdy ts id nm cons).snd.fst (id % (4294967296 : Int), (3 : Int), (1 : Int), ByteArray.empty)).snd.fst,
  true,
  true],
  (SV.raw (Value.bool true), [])) := by kernel_rfl
theorem tn_m10 (most : Int) (rdy : Bool) (id : Int) (nm : ByteArray) (cons : Bool) (a b c : Int) (s : ByteArray) : Tr.follow [false, false, false, false, false, false, false, false, false, false, true, false, false, true, true, true, false, true, true, false, false, false, false, false, false, true, true, true, false, false, true, true, true, false, false, true, true, true, false, false, false, false, false, false, false, false, false, false, false, false, false, false, false, false, true, false, false, true, true, false, true, true, false, true, true, true, true] (fW7n most rdy id nm cons a b c s) =
  some ([false,
  false,
  false,
  false,
  decide ((100 : Int) < (↑nm.size : Int)),
  false,
  false,
  false,
  decide ((100 : Int) < (↑s.size : Int)),
  false,
  okP most rdy [],
  false,
  false,
  smallK [] [(a, b, c, s)],
  smallK [] [(a, b, c, s), (a, b, c, s)],
  decide ((knowAll most rdy [] [(a, b, c, s)]).length ≤ (100000 : Nat)),
  !sameP most rdy (knowAll most rdy [] [(a, b, c, s)]) most rdy (knowAll most rdy [] [(a, b, c, s), (a, b, c, s)]),
  true,
  okP most rdy [],
  decide (id < (0 : Int)),
  decide (most ≤ id),
  decide ((64 : Int) < (↑nm.size : Int)),
  false,
  !rdy,
  false,
  true,
  true,
  okP most rdy (insQ [] id nm cons),
  decide (atI (insQ [] id nm cons) id < (0 : Int)),
  !rdy,
  true,
  true,
  okP most rdy (insQ [] id nm cons),
  decide (atI (insQ [] id nm cons) id < (0 : Int)),
  tellsO (insQ [] id nm cons) id true,
  decide ((opnQ [] id nm cons).length ≤ (100000 : Nat)),
  decide ((opnQ [] id nm cons).length ≤ (1000 : Nat)),
  okP most rdy (opnQ [] id nm cons),
  decide (atI (opnQ [] id nm cons) id < (0 : Int)),
  tellsO (opnQ [] id nm cons) id true,
  false,
  false,
  false,
  false,
  !sameP most rdy (delQ [] id nm cons) most rdy [],
  false,
  false,
  false,
  false,
  false,
  false,
  false,
  false,
  false,
  decide ((opnQ [] id nm cons).length ≤ (100000 : Nat)),
  false,
  !sameP most rdy (opnQ [] id nm cons) most rdy (openL (opnQ [] id nm cons) id true),
  decide ((opnQ [] id nm cons).length ≤ (100000 : Nat)),
  decide ((opnQ [] id nm cons).length ≤ (300 : Nat)) && inR64 (id % (4294967296 : Int)),
  (gueQ most rdy [] id nm cons).snd.snd.isSome,
  decide ((gueQ most rdy [] id nm cons).snd.fst.length ≤ (100000 : Nat)),
  decide ((gueQ most rdy [] id nm cons).snd.fst.length ≤ (300 : Nat)) && inR64 (id % (4294967296 : Int)),
  (guestR most (gueQ most rdy [] id nm cons).fst (gueQ most rdy [] id nm cons).snd.fst (id % (4294967296 : Int), (3 : Int), (1 : Int), ByteArray.empty)).snd.snd.isSome,
  decide ((gueQ most rdy [] id nm cons).snd.fst.length ≤ (100000 : Nat)),
  sameP most (gueQ most rdy [] id nm cons).fst (gueQ most rdy [] id nm cons).snd.fst most (guestR most (gueQ most rdy [] id nm cons).fst (gueQ most rdy [] id nm cons).snd.fst (id % (4294967296 : Int), (3 : Int), (1 : Int), ByteArray.empty)).fst (guestR most (gueQ most rdy [] id nm cons).fst (gueQ most rdy [] id nm cons).snd.fst (id % (4294967296 : Int), (3 : Int), (1 : Int), ByteArray.empty)).snd.fst,
  true,
  true],
  (SV.raw (Value.bool true), [])) := by kernel_rfl
theorem tw_m11 (f : Bool) (most : Int) (rdy : Bool) (ts : List Pt) (id : Int) (nm : ByteArray) (cons : Bool) (a b c : Int) (s : ByteArray) : Tr.follow [false, false, false, false, false, false, false, false, false, false, true, true, false, false, true, true, true, true, true, false, true, true, true, false, false, false, false, false, false, true, true, true, false, false, true, true, true, false, false, true, true, true, false, false, false, false, false, true, false, false, false, false, false, false, false, false, false, false, false, true, false, false, true, true, true, true, true, false, true, true, true, true] (fW7 f most rdy ts id nm cons a b c s) =
  some ([false,
  decide ((60 : Int) < (↑ts.length : Int)),
  false,
  false,
  decide ((100 : Int) < (↑nm.size : Int)),
  false,
  false,
  false,
  decide ((100 : Int) < (↑s.size : Int)),
  false,
  decide (ts.length ≤ (100000 : Nat)),
  okP most rdy ts,
  false,
  false,
  decide (ts.length ≤ (100000 : Nat)),
  smallK ts [(a, b, c, s)],
  decide (ts.length ≤ (100000 : Nat)),
  smallK ts [(a, b, c, s), (a, b, c, s)],
  decide ((knowAll most rdy ts [(a, b, c, s)]).length ≤ (100000 : Nat)),
  !sameP most rdy (knowAll most rdy ts [(a, b, c, s)]) most rdy (knowAll most rdy ts [(a, b, c, s), (a, b, c, s)]),
  decide (ts.length ≤ (100000 : Nat)),
  decide (ts.length ≤ (1000 : Nat)),
  okP most rdy ts,
  decide (id < (0 : Int)),
  decide (most ≤ id),
  decide ((64 : Int) < (↑nm.size : Int)),
  decide ((0 : Int) ≤ atI ts id),
  !rdy,
  false,
  decide ((insQ ts id nm cons).length ≤ (100000 : Nat)),
  decide ((insQ ts id nm cons).length ≤ (1000 : Nat)),
  okP most rdy (insQ ts id nm cons),
  decide (atI (insQ ts id nm cons) id < (0 : Int)),
  !rdy,
  decide ((insQ ts id nm cons).length ≤ (100000 : Nat)),
  decide ((insQ ts id nm cons).length ≤ (1000 : Nat)),
  okP most rdy (insQ ts id nm cons),
  decide (atI (insQ ts id nm cons) id < (0 : Int)),
  tellsO (insQ ts id nm cons) id true,
  decide ((opnQ ts id nm cons).length ≤ (100000 : Nat)),
  decide ((opnQ ts id nm cons).length ≤ (1000 : Nat)),
  okP most rdy (opnQ ts id nm cons),
  decide (atI (opnQ ts id nm cons) id < (0 : Int)),
  tellsO (opnQ ts id nm cons) id true,
  false,
  false,
  false,
  decide ((delQ ts id nm cons).length ≤ (100000 : Nat)),
  false,
  !sameP most rdy (delQ ts id nm cons) most rdy ts,
  false,
  false,
  false,
  false,
  false,
  false,
  false,
  false,
  false,
  decide ((opnQ ts id nm cons).length ≤ (100000 : Nat)),
  false,
  !sameP most rdy (opnQ ts id nm cons) most rdy (openL (opnQ ts id nm cons) id true),
  decide ((opnQ ts id nm cons).length ≤ (100000 : Nat)),
  decide ((opnQ ts id nm cons).length ≤ (300 : Nat)) && inR64 (id % (4294967296 : Int)),
  (gueQ most rdy ts id nm cons).snd.snd.isSome,
  decide ((gueQ most rdy ts id nm cons).snd.fst.length ≤ (100000 : Nat)),
  decide ((gueQ most rdy ts id nm cons).snd.fst.length ≤ (300 : Nat)) && inR64 (id % (4294967296 : Int)),
  (guestR most (gueQ most rdy ts id nm cons).fst (gueQ most rdy ts id nm cons).snd.fst (id % (4294967296 : Int), (3 : Int), (1 : Int), ByteArray.empty)).snd.snd.isSome,
  decide ((gueQ most rdy ts id nm cons).snd.fst.length ≤ (100000 : Nat)),
  sameP most (gueQ most rdy ts id nm cons).fst (gueQ most rdy ts id nm cons).snd.fst most (guestR most (gueQ most rdy ts id nm cons).fst (gueQ most rdy ts id nm cons).snd.fst (id % (4294967296 : Int), (3 : Int), (1 : Int), ByteArray.empty)).fst (guestR most (gueQ most rdy ts id nm cons).fst (gueQ most rdy ts id nm cons).snd.fst (id % (4294967296 : Int), (3 : Int), (1 : Int), ByteArray.empty)).snd.fst,
  true,
  true],
  (SV.raw (Value.bool true), [])) := by kernel_rfl
theorem tn_m11 (most : Int) (rdy : Bool) (id : Int) (nm : ByteArray) (cons : Bool) (a b c : Int) (s : ByteArray) : Tr.follow [false, false, false, false, false, false, false, false, false, false, true, false, false, true, true, true, false, true, true, false, false, false, false, false, false, true, true, true, false, false, true, true, true, false, false, true, true, true, false, false, false, false, false, false, false, false, false, false, false, false, false, false, false, false, true, false, false, true, true, true, true, true, false, true, true, true, true] (fW7n most rdy id nm cons a b c s) =
  some ([false,
  false,
  false,
  false,
  decide ((100 : Int) < (↑nm.size : Int)),
  false,
  false,
  false,
  decide ((100 : Int) < (↑s.size : Int)),
  false,
  okP most rdy [],
  false,
  false,
  smallK [] [(a, b, c, s)],
  smallK [] [(a, b, c, s), (a, b, c, s)],
  decide ((knowAll most rdy [] [(a, b, c, s)]).length ≤ (100000 : Nat)),
  !sameP most rdy (knowAll most rdy [] [(a, b, c, s)]) most rdy (knowAll most rdy [] [(a, b, c, s), (a, b, c, s)]),
  true,
  okP most rdy [],
  decide (id < (0 : Int)),
  decide (most ≤ id),
  decide ((64 : Int) < (↑nm.size : Int)),
  false,
  !rdy,
  false,
  true,
  true,
  okP most rdy (insQ [] id nm cons),
  decide (atI (insQ [] id nm cons) id < (0 : Int)),
  !rdy,
  true,
  true,
  okP most rdy (insQ [] id nm cons),
  decide (atI (insQ [] id nm cons) id < (0 : Int)),
  tellsO (insQ [] id nm cons) id true,
  decide ((opnQ [] id nm cons).length ≤ (100000 : Nat)),
  decide ((opnQ [] id nm cons).length ≤ (1000 : Nat)),
  okP most rdy (opnQ [] id nm cons),
  decide (atI (opnQ [] id nm cons) id < (0 : Int)),
  tellsO (opnQ [] id nm cons) id true,
  false,
  false,
  false,
  false,
  !sameP most rdy (delQ [] id nm cons) most rdy [],
  false,
  false,
  false,
  false,
  false,
  false,
  false,
  false,
  false,
  decide ((opnQ [] id nm cons).length ≤ (100000 : Nat)),
  false,
  !sameP most rdy (opnQ [] id nm cons) most rdy (openL (opnQ [] id nm cons) id true),
  decide ((opnQ [] id nm cons).length ≤ (100000 : Nat)),
  decide ((opnQ [] id nm cons).length ≤ (300 : Nat)) && inR64 (id % (4294967296 : Int)),
  (gueQ most rdy [] id nm cons).snd.snd.isSome,
  decide ((gueQ most rdy [] id nm cons).snd.fst.length ≤ (100000 : Nat)),
  decide ((gueQ most rdy [] id nm cons).snd.fst.length ≤ (300 : Nat)) && inR64 (id % (4294967296 : Int)),
  (guestR most (gueQ most rdy [] id nm cons).fst (gueQ most rdy [] id nm cons).snd.fst (id % (4294967296 : Int), (3 : Int), (1 : Int), ByteArray.empty)).snd.snd.isSome,
  decide ((gueQ most rdy [] id nm cons).snd.fst.length ≤ (100000 : Nat)),
  sameP most (gueQ most rdy [] id nm cons).fst (gueQ most rdy [] id nm cons).snd.fst most (guestR most (gueQ most rdy [] id nm cons).fst (gueQ most rdy [] id nm cons).snd.fst (id % (4294967296 : Int), (3 : Int), (1 : Int), ByteArray.empty)).fst (guestR most (gueQ most rdy [] id nm cons).fst (gueQ most rdy [] id nm cons).snd.fst (id % (4294967296 : Int), (3 : Int), (1 : Int), ByteArray.empty)).snd.fst,
  true,
  true],
  (SV.raw (Value.bool true), [])) := by kernel_rfl

/-- All that is asked on the way, where the port goes in. -/
structure TwF (most : Int) (rdy : Bool) (ts : List Pt) (id : Int) (nm : ByteArray) (cons : Bool) (m : Mg) : Prop where
  s1 : smallK ts [m] = true
  s2 : smallK ts [m, m] = true
  n1 : decide ((knowAll most rdy ts [m]).length ≤ 100000) = true
  q1 : sameP most rdy (knowAll most rdy ts [m]) most rdy (knowAll most rdy ts [m, m]) = true
structure TwM (most : Int) (rdy : Bool) (ts : List Pt) (id : Int) (nm : ByteArray) (cons : Bool) : Prop where
  l1 : decide ((insQ ts id nm cons).length ≤ 100000) = true
  l2 : decide ((insQ ts id nm cons).length ≤ 1000) = true
  o1 : okP most rdy (insQ ts id nm cons) = true
  a1 : decide (atI (insQ ts id nm cons) id < 0) = false
  t1 : tellsO (insQ ts id nm cons) id true = false
  l3 : decide ((opnQ ts id nm cons).length ≤ 100000) = true
  l4 : decide ((opnQ ts id nm cons).length ≤ 1000) = true
  l5 : (decide ((opnQ ts id nm cons).length ≤ 300) && inR64 (id % 4294967296)) = true
  o2 : okP most rdy (opnQ ts id nm cons) = true
  a2 : decide (atI (opnQ ts id nm cons) id < 0) = false
  t2 : tellsO (opnQ ts id nm cons) id true = false
  l6 : decide ((delQ ts id nm cons).length ≤ 100000) = true
  q2 : sameP most rdy (delQ ts id nm cons) most rdy ts = true
  q3 : sameP most rdy (opnQ ts id nm cons) most rdy (openL (opnQ ts id nm cons) id true) = true
  g1 : (gueQ most rdy ts id nm cons).2.2.isSome = rdy
  l7 : decide ((gueQ most rdy ts id nm cons).2.1.length ≤ 100000) = true
  l8 : (decide ((gueQ most rdy ts id nm cons).2.1.length ≤ 300) && inR64 (id % 4294967296)) = true
  g2 : (guestR most (gueQ most rdy ts id nm cons).1 (gueQ most rdy ts id nm cons).2.1 (id % 4294967296, 3, 1, ByteArray.empty)).2.2.isSome = false
  q4 : sameP most (gueQ most rdy ts id nm cons).1 (gueQ most rdy ts id nm cons).2.1 most (guestR most (gueQ most rdy ts id nm cons).1 (gueQ most rdy ts id nm cons).2.1 (id % 4294967296, 3, 1, ByteArray.empty)).1 (guestR most (gueQ most rdy ts id nm cons).1 (gueQ most rdy ts id nm cons).2.1 (id % 4294967296, 3, 1, ByteArray.empty)).2.1 = true
theorem twF {most : Int} {rdy : Bool} {ts : List Pt} (id : Int) (nm : ByteArray) (cons : Bool) {m : Mg} (ho : okP most rdy ts = true) (ha : 0 ≤ m.1 ∧ m.1 ≤ 4294967295) : TwF most rdy ts id nm cons m := by
  have hl := okP_len ho
  have hr : inR64 m.1 = true := inR64_mk (by omega)
  have k1 : knowAll most rdy ts [m] = knowL most ts m := by unfold knowAll; rw [ho]; rfl
  have k2 : knowAll most rdy ts [m, m] = knowL most (knowL most ts m) m := by unfold knowAll; rw [ho]; rfl
  refine ⟨?_, ?_, ?_, ?_⟩
  · unfold smallK; rw [decide_eq_true (by simp; omega)]; simp [hr]
  · unfold smallK; rw [decide_eq_true (by simp; omega)]; simp [hr]
  · have := knowK_len most ts m
    rw [k1]; exact decide_eq_true (by show (knowK most ts m).2.length ≤ 100000; omega)
  · rw [k1, k2, know_twice (okP_iff.1 ho).2.1]; exact same_refl _ _ _
theorem okM3 : okM 3 ByteArray.empty = true := by kernel_rfl
theorem guest_port {most : Int} {rdy : Bool} {l r : List Pt} {x : Pt} (ho : okP most rdy (l ++ x :: r) = true) :
    guestR most rdy (l ++ x :: r) (x.1, 3, 1, ByteArray.empty) = if rdy = true ∧ x.2.2.2.2.2 = false then (rdy, l ++ rdyE x true :: r, optL (tellE x)) else (rdy, l ++ x :: r, none) := by
  obtain ⟨n1, n2⟩ := ne_of_mid ho
  unfold guestR
  simp only [okM3, ho, at_some (rfl : x.1 = x.1) n1, atP, show ((l.length : Int)).toNat = l.length from rfl, get_mid, set_mid, and_self, if_true]
  rw [if_neg (by decide)]
  cases rdy with
  | false => rw [if_pos (.inl rfl), if_neg (by simp)]
  | true =>
    rw [if_neg (by intro h; rcases h with h | h; cases h; omega)]
    cases x.2.2.2.2.2 with
    | true => rw [if_pos rfl, if_neg (by simp)]
    | false => rw [if_neg (by decide), if_pos ⟨rfl, rfl⟩]
theorem tell_some {x : Pt} (h : x.2.2.2.1 = true) : (optL (tellE x)).isSome = true := by
  unfold tellE
  rw [h]
  cases x.2.2.1 <;> cases (x.2.1.toList == ByteArray.empty.toList) <;> rfl
theorem twM {most : Int} {rdy : Bool} {ts : List Pt} {id : Int} {nm : ByteArray} (cons : Bool) (ho : okP most rdy ts = true) (h1 : ¬ id < 0) (h2 : ¬ most ≤ id) (h3 : ¬ (64 : Int) < (nm.size : Int)) (h4 : ¬ 0 ≤ atI ts id) : TwM most rdy ts id nm cons := by
  have hm := (okP_iff.1 ho).1
  have hx : okE most rdy ((id, nm, cons, false, false, false) : Pt) := ⟨by omega, by omega, by show nm.size ≤ 64; omega, nofun, nofun⟩
  obtain ⟨l, r, rfl, e1, hl, hr, o1⟩ := add_split (x := (id, nm, cons, false, false, false)) ho hx h4
  have eI : insQ (l ++ r) id nm cons = l ++ (id, nm, cons, false, false, false) :: r := e1
  obtain ⟨n1, n2⟩ := ne_of_mid o1
  have e2 := open_mid (l := l) (r := r) (x := ((id, nm, cons, false, false, false) : Pt)) (on := true) n1
  have eO : opnQ (l ++ r) id nm cons = l ++ (id, nm, cons, true, false, false) :: r := by
    show openL (insQ (l ++ r) id nm cons) id true = _
    rw [eI]; exact e2.1
  have eD : delQ (l ++ r) id nm cons = l ++ r := by
    show delL (insQ (l ++ r) id nm cons) _ _ = _
    rw [eI]; exact rem_mid (x := (id, nm, cons, false, false, false)) n1
  have o2 : okP most rdy (l ++ (id, nm, cons, true, false, false) :: r) = true := okP_set o1 rfl ⟨hx.1, hx.2.1, hx.2.2.1, nofun, nofun⟩
  have e3 := open_mid (l := l) (r := r) (x := ((id, nm, cons, true, false, false) : Pt)) (on := true) n1
  have hid : id % 4294967296 = id := Int.emod_eq_of_lt (by omega) (by omega)
  have g := guest_port o2
  have eG : gueQ most rdy (l ++ r) id nm cons = guestR most rdy (l ++ (id, nm, cons, true, false, false) :: r) (id, 3, 1, ByteArray.empty) := by
    show guestR most rdy (opnQ (l ++ r) id nm cons) (id % 4294967296, 3, 1, ByteArray.empty) = _
    rw [eO, hid]
  have hin : inR64 (id % 4294967296) = true := by rw [hid]; exact inR64_mk (by omega)
  have len : ∀ x : Pt, okP most rdy (l ++ x :: r) = true → (l ++ x :: r).length ≤ 32 := fun x h => okP_len h
  have len0 := okP_len ho
  have at0 : ∀ x : Pt, x.1 = id → decide (atI (l ++ x :: r) id < 0) = false := fun x hx => by
    rw [at_some hx n1]; exact decide_eq_false (by omega)
  have lo1 := len _ o1
  have lo2 := len _ o2
  refine ⟨?_, ?_, ?_, ?_, ?_, ?_, ?_, ?_, ?_, ?_, ?_, ?_, ?_, ?_, ?_, ?_, ?_, ?_, ?_⟩
  · rw [eI]; exact decide_eq_true (by omega)
  · rw [eI]; exact decide_eq_true (by omega)
  · rw [eI]; exact o1
  · rw [eI]; exact at0 _ rfl
  · rw [eI]; exact e2.2
  · rw [eO]; exact decide_eq_true (by omega)
  · rw [eO]; exact decide_eq_true (by omega)
  · rw [eO, hin, decide_eq_true (by omega)]; rfl
  · rw [eO]; exact o2
  · rw [eO]; exact at0 _ rfl
  · rw [eO]; exact e3.2
  · rw [eD]; exact decide_eq_true (by omega)
  · rw [eD]; exact same_refl _ _ _
  · rw [eO, e3.1]; exact same_refl _ _ _
  all_goals (simp only [eG]; have g' : guestR most rdy (l ++ (id, nm, cons, true, false, false) :: r) (id, 3, 1, ByteArray.empty) = _ := g; rw [g'])
  all_goals cases rdy
  all_goals simp only [Bool.false_eq_true, false_and, and_self, if_false, if_true, true_and]
  · rfl
  · exact tell_some rfl
  · exact decide_eq_true (by omega)
  · exact decide_eq_true (by have : (l ++ rdyE (id, nm, cons, true, false, false) true :: r).length = (l ++ ((id, nm, cons, true, false, false) : Pt) :: r).length := by simp
                             omega)
  · rw [hin, decide_eq_true (by omega)]; rfl
  · rw [hin, decide_eq_true (by have : (l ++ rdyE (id, nm, cons, true, false, false) true :: r).length = (l ++ ((id, nm, cons, true, false, false) : Pt) :: r).length := by simp
                                omega)]; rfl
  · rw [hid, g']; rfl
  · have o3 : okP most true (l ++ rdyE (id, nm, cons, true, false, false) true :: r) = true := okP_set o2 rfl ⟨hx.1, hx.2.1, hx.2.2.1, fun _ => rfl, nofun⟩
    have g3 := guest_port o3
    rw [hid]
    have g4 : guestR most true (l ++ rdyE (id, nm, cons, true, false, false) true :: r) (id, 3, 1, ByteArray.empty) = _ := g3
    rw [g4]; rfl
  · rw [hid, g']; exact same_refl _ _ _
  · have o3 : okP most true (l ++ rdyE (id, nm, cons, true, false, false) true :: r) = true := okP_set o2 rfl ⟨hx.1, hx.2.1, hx.2.2.1, fun _ => rfl, nofun⟩
    have g3 := guest_port o3
    rw [hid]
    have g4 : guestR most true (l ++ rdyE (id, nm, cons, true, false, false) true :: r) (id, 3, 1, ByteArray.empty) = _ := g3
    rw [g4]; exact same_refl _ _ _
theorem twice_run (f : Bool) (most : Int) (rdy : Bool) (ts : List Pt) (id : Int) (nm : ByteArray) (cons : Bool) (a b c : Int) (s : ByteArray) (ha : 0 ≤ a ∧ a ≤ 4294967295) :
    (fW7 f most rdy ts id nm cons a b c s).get = some (.raw (.bool true), []) := by
  by_cases g1 : (60 : Int) < (ts.length : Int)
  · exact Tr.follow_get (tw_g1 f most rdy ts id nm cons a b c s) (by simp only [decide_eq_true g1])
  have k1 := decide_eq_false g1
  have k2 : decide (ts.length ≤ 100000) = true := decide_eq_true (by omega)
  have k3 : decide (ts.length ≤ 1000) = true := decide_eq_true (by omega)
  by_cases g2 : (100 : Int) < (nm.size : Int)
  · exact Tr.follow_get (tw_g2 f most rdy ts id nm cons a b c s) (by simp only [k1, decide_eq_true g2])
  have k4 := decide_eq_false g2
  by_cases g3 : (100 : Int) < (s.size : Int)
  · exact Tr.follow_get (tw_g3 f most rdy ts id nm cons a b c s) (by simp only [k1, k4, decide_eq_true g3])
  have k5 := decide_eq_false g3
  by_cases ho : okP most rdy ts = true
  case neg => exact Tr.follow_get (tw_g4 f most rdy ts id nm cons a b c s) (by simp only [k1, k2, k4, k5, Bool.not_eq_true _ |>.mp ho])
  have F := twF id nm cons (m := (a, b, c, s)) ho ha
  have q1 : (!sameP most rdy (knowAll most rdy ts [(a, b, c, s)]) most rdy (knowAll most rdy ts [(a, b, c, s), (a, b, c, s)])) = false := by rw [F.q1]; rfl
  by_cases e1 : id < 0
  · exact Tr.follow_get (tw_e1 f most rdy ts id nm cons a b c s) (by simp only [k1, k2, k3, k4, k5, ho, F.s1, F.s2, F.n1, q1, decide_eq_true e1])
  have j1 := decide_eq_false e1
  by_cases e2 : most ≤ id
  · exact Tr.follow_get (tw_e2 f most rdy ts id nm cons a b c s) (by simp only [k1, k2, k3, k4, k5, ho, F.s1, F.s2, F.n1, q1, j1, decide_eq_true e2])
  have j2 := decide_eq_false e2
  by_cases e3 : (64 : Int) < (nm.size : Int)
  · exact Tr.follow_get (tw_e3 f most rdy ts id nm cons a b c s) (by simp only [k1, k2, k3, k4, k5, ho, F.s1, F.s2, F.n1, q1, j1, j2, decide_eq_true e3])
  have j3 := decide_eq_false e3
  by_cases e4 : 0 ≤ atI ts id
  · exact Tr.follow_get (tw_e4 f most rdy ts id nm cons a b c s) (by simp only [k1, k2, k3, k4, k5, ho, F.s1, F.s2, F.n1, q1, j1, j2, j3, decide_eq_true e4])
  have j4 := decide_eq_false e4
  have M := twM cons ho e1 e2 e3 e4
  have q2 : (!sameP most rdy (delQ ts id nm cons) most rdy ts) = false := by rw [M.q2]; rfl
  have q3 : (!sameP most rdy (opnQ ts id nm cons) most rdy (openL (opnQ ts id nm cons) id true)) = false := by rw [M.q3]; rfl
  have g1 := M.g1
  cases rdy with
  | false => exact Tr.follow_get (tw_m00 f most false ts id nm cons a b c s) (by simp only [k1, k2, k3, k4, k5, ho, F.s1, F.s2, F.n1, q1, j1, j2, j3, j4, M.l1, M.l2, M.o1, M.a1, M.t1, M.l3, M.l4, M.l5, M.o2, M.a2, M.t2, M.l6, q2, q3, g1, M.l7, M.l8, M.g2, M.q4, Bool.not_false])
  | true => exact Tr.follow_get (tw_m11 f most true ts id nm cons a b c s) (by simp only [k1, k2, k3, k4, k5, ho, F.s1, F.s2, F.n1, q1, j1, j2, j3, j4, M.l1, M.l2, M.o1, M.a1, M.t1, M.l3, M.l4, M.l5, M.o2, M.a2, M.t2, M.l6, q2, q3, g1, M.l7, M.l8, M.g2, M.q4, Bool.not_true])
theorem twice_run0 (most : Int) (rdy : Bool) (id : Int) (nm : ByteArray) (cons : Bool) (a b c : Int) (s : ByteArray) (ha : 0 ≤ a ∧ a ≤ 4294967295) :
    (fW7n most rdy id nm cons a b c s).get = some (.raw (.bool true), []) := by
  by_cases g2 : (100 : Int) < (nm.size : Int)
  · exact Tr.follow_get (tn_g2 most rdy id nm cons a b c s) (by simp only [decide_eq_true g2])
  have k4 := decide_eq_false g2
  by_cases g3 : (100 : Int) < (s.size : Int)
  · exact Tr.follow_get (tn_g3 most rdy id nm cons a b c s) (by simp only [k4, decide_eq_true g3])
  have k5 := decide_eq_false g3
  by_cases ho : okP most rdy [] = true
  case neg => exact Tr.follow_get (tn_g4 most rdy id nm cons a b c s) (by simp only [k4, k5, Bool.not_eq_true _ |>.mp ho])
  have F := twF id nm cons (m := (a, b, c, s)) ho ha
  have q1 : (!sameP most rdy (knowAll most rdy [] [(a, b, c, s)]) most rdy (knowAll most rdy [] [(a, b, c, s), (a, b, c, s)])) = false := by rw [F.q1]; rfl
  by_cases e1 : id < 0
  · exact Tr.follow_get (tn_e1 most rdy id nm cons a b c s) (by simp only [k4, k5, ho, F.s1, F.s2, F.n1, q1, decide_eq_true e1])
  have j1 := decide_eq_false e1
  by_cases e2 : most ≤ id
  · exact Tr.follow_get (tn_e2 most rdy id nm cons a b c s) (by simp only [k4, k5, ho, F.s1, F.s2, F.n1, q1, j1, decide_eq_true e2])
  have j2 := decide_eq_false e2
  by_cases e3 : (64 : Int) < (nm.size : Int)
  · exact Tr.follow_get (tn_e3 most rdy id nm cons a b c s) (by simp only [k4, k5, ho, F.s1, F.s2, F.n1, q1, j1, j2, decide_eq_true e3])
  have j3 := decide_eq_false e3
  have e4 : ¬ 0 ≤ atI [] id := by rw [at_none (fun _ h => by cases h)]; decide
  have j4 := decide_eq_false e4
  have M := twM cons ho e1 e2 e3 e4
  have q2 : (!sameP most rdy (delQ [] id nm cons) most rdy []) = false := by rw [M.q2]; rfl
  have q3 : (!sameP most rdy (opnQ [] id nm cons) most rdy (openL (opnQ [] id nm cons) id true)) = false := by rw [M.q3]; rfl
  have g1 := M.g1
  cases rdy with
  | false => exact Tr.follow_get (tn_m00 most false id nm cons a b c s) (by simp only [k4, k5, ho, F.s1, F.s2, F.n1, q1, j1, j2, j3, j4, M.l1, M.l2, M.o1, M.a1, M.t1, M.l3, M.l4, M.l5, M.o2, M.a2, M.t2, M.l6, q2, q3, g1, M.l7, M.l8, M.g2, M.q4, Bool.not_false])
  | true => exact Tr.follow_get (tn_m11 most true id nm cons a b c s) (by simp only [k4, k5, ho, F.s1, F.s2, F.n1, q1, j1, j2, j3, j4, M.l1, M.l2, M.o1, M.a1, M.t1, M.l3, M.l4, M.l5, M.o2, M.a2, M.t2, M.l6, q2, q3, g1, M.l7, M.l8, M.g2, M.q4, Bool.not_true])
end
end Go.Proofs.Ytgegagndihffpaa
