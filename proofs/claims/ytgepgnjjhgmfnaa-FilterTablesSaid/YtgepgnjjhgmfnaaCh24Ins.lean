/-
  Insert and Delete of owned slices, as specifications. Own work; nothing here is trusted.
-/
import Derived.Test.YtgepgnjjhgmfnaaCh24
namespace Go.Proofs.Ytgepgnjjhgmfnaa
open Go Go.Sx Go.RowKit
set_option maxRecDepth 1000000
set_option maxHeartbeats 8000000
set_option linter.unusedVariables false
set_option linter.unusedSimpArgs false
noncomputable section

theorem ins_end (f f2 : Bool) (ts us : List Int) (i : Int) : Tr.follow [true, false, true, true] (fnX C24 Try.prog noSp noLs (fun _ _ => 5) 10 61 [.h 0, .raw (.int .i64 i), .h 1] (numH 0 [.sl true f 3 ts, .sl true f2 3 us]) 2) =
  some ([bOk i (intO (↑ts.length : Int) none) (roomV (0 : Nat) ts.length none) && atV (0 : Nat) ts.length i none,
  (↑us.length : Int) == (0 : Int),
  i == (↑ts.length : Int),
  roomB (ts.length + us.length) Try.prog.types[(3 : Nat)].bytes],
  (SV.h (0 : Nat), [SO.sl true false (3 : Nat) (ts ++ us)])) := by kernel_rfl
theorem ins_shift (f f2 : Bool) (ts us tc : List Int) (i : Int) : Tr.follow [true, false, false, true, false, true, true, true, true, true, true, true, true, true, true, true, true, true, true, true] (fnX C24 Try.prog noSp noLs (fun _ _ => 5) 10 61 [.vs 2 1 0 0 ts.length none, .raw (.int .i64 i), .h 1] ((2, .sl true true 3 tc) :: (0, .gone) :: numH 0 [.sl true f 3 ts, .sl true f2 3 us]) 3) =
  some ([bOk i (intO (↑ts.length : Int) none) (roomV (0 : Nat) tc.length none) && atV (0 : Nat) tc.length i none,
  (↑us.length : Int) == (0 : Int),
  i == (↑ts.length : Int),
  inR64 ((↑ts.length : Int) + (↑us.length : Int)),
  decide ((↑(tc.length - (0 : Nat)) : Int) < (↑ts.length : Int) + (↑us.length : Int)),
  inR64 ((↑ts.length : Int) + (↑us.length : Int)),
  bOk (0 : Int) (intO (↑ts.length : Int) (some ((↑ts.length : Int) + (↑us.length : Int)))) (roomV (0 : Nat) tc.length none),
  inR64 (i + (↑us.length : Int)),
  bOk (i + (↑us.length : Int)) (intO (↑(intO (↑ts.length : Int) (some ((↑ts.length : Int) + (↑us.length : Int)))).toNat : Int) none) (roomV (0 : Nat) tc.length none) && atV (0 : Nat) tc.length (i + (↑us.length : Int)) none,
  decide ((0 : Nat) < tc.length),
  true,
  inR64 (i + (↑us.length : Int)),
  bOk (i + (↑us.length : Int)) (intO (↑(intO (↑ts.length : Int) (some ((↑ts.length : Int) + (↑us.length : Int)))).toNat : Int) none) (roomV (0 : Nat) tc.length none) && atV (0 : Nat) tc.length (i + (↑us.length : Int)) none,
  bOk i (intO (↑(intO (↑ts.length : Int) (some ((↑ts.length : Int) + (↑us.length : Int)))).toNat : Int) none) (roomV (0 : Nat) tc.length none) && atV (0 : Nat) tc.length i none,
  decide ((0 : Nat) + i.toNat + ((intO (↑(intO (↑ts.length : Int) (some ((↑ts.length : Int) + (↑us.length : Int)))).toNat : Int) none).toNat - i.toNat) ≤ tc.length),
  decide ((0 : Nat) + (i + (↑us.length : Int)).toNat + (List.take ((intO (↑(intO (↑ts.length : Int) (some ((↑ts.length : Int) + (↑us.length : Int)))).toNat : Int) none).toNat - (i + (↑us.length : Int)).toNat) (List.take ((intO (↑(intO (↑ts.length : Int) (some ((↑ts.length : Int) + (↑us.length : Int)))).toNat : Int) none).toNat - i.toNat) (List.drop ((0 : Nat) + i.toNat) tc))).length ≤ tc.length),
  bOk i (intO (↑(intO (↑ts.length : Int) (some ((↑ts.length : Int) + (↑us.length : Int)))).toNat : Int) none) (roomV (0 : Nat) (overL tc ((0 : Nat) + (i + (↑us.length : Int)).toNat) (List.take ((intO (↑(intO (↑ts.length : Int) (some ((↑ts.length : Int) + (↑us.length : Int)))).toNat : Int) none).toNat - (i + (↑us.length : Int)).toNat) (List.take ((intO (↑(intO (↑ts.length : Int) (some ((↑ts.length : Int) + (↑us.length : Int)))).toNat : Int) none).toNat - i.toNat) (List.drop ((0 : Nat) + i.toNat) tc)))).length none) && atV (0 : Nat) (overL tc ((0 : Nat) + (i + (↑us.length : Int)).toNat) (List.take ((intO (↑(intO (↑ts.length : Int) (some ((↑ts.length : Int) + (↑us.length : Int)))).toNat : Int) none).toNat - (i + (↑us.length : Int)).toNat) (List.take ((intO (↑(intO (↑ts.length : Int) (some ((↑ts.length : Int) + (↑us.length : Int)))).toNat : Int) none).toNat - i.toNat) (List.drop ((0 : Nat) + i.toNat) tc)))).length i none,
  decide ((0 : Nat) + i.toNat + (List.take ((intO (↑(intO (↑ts.length : Int) (some ((↑ts.length : Int) + (↑us.length : Int)))).toNat : Int) none).toNat - i.toNat) us).length ≤ (overL tc ((0 : Nat) + (i + (↑us.length : Int)).toNat) (List.take ((intO (↑(intO (↑ts.length : Int) (some ((↑ts.length : Int) + (↑us.length : Int)))).toNat : Int) none).toNat - (i + (↑us.length : Int)).toNat) (List.take ((intO (↑(intO (↑ts.length : Int) (some ((↑ts.length : Int) + (↑us.length : Int)))).toNat : Int) none).toNat - i.toNat) (List.drop ((0 : Nat) + i.toNat) tc)))).length),
  true,
  shutB (intO (↑ts.length : Int) (some ((↑ts.length : Int) + (↑us.length : Int)))).toNat (overL (overL tc ((0 : Nat) + (i + (↑us.length : Int)).toNat) (List.take ((intO (↑(intO (↑ts.length : Int) (some ((↑ts.length : Int) + (↑us.length : Int)))).toNat : Int) none).toNat - (i + (↑us.length : Int)).toNat) (List.take ((intO (↑(intO (↑ts.length : Int) (some ((↑ts.length : Int) + (↑us.length : Int)))).toNat : Int) none).toNat - i.toNat) (List.drop ((0 : Nat) + i.toNat) tc)))) ((0 : Nat) + i.toNat) (List.take ((intO (↑(intO (↑ts.length : Int) (some ((↑ts.length : Int) + (↑us.length : Int)))).toNat : Int) none).toNat - i.toNat) us)).length none],
  (SV.h (0 : Nat), [SO.sl true false (3 : Nat) (List.take (intO (↑ts.length : Int) (some ((↑ts.length : Int) + (↑us.length : Int)))).toNat (overL (overL tc ((0 : Nat) + (i + (↑us.length : Int)).toNat) (List.take ((intO (↑(intO (↑ts.length : Int) (some ((↑ts.length : Int) + (↑us.length : Int)))).toNat : Int) none).toNat - (i + (↑us.length : Int)).toNat) (List.take ((intO (↑(intO (↑ts.length : Int) (some ((↑ts.length : Int) + (↑us.length : Int)))).toNat : Int) none).toNat - i.toNat) (List.drop ((0 : Nat) + i.toNat) tc)))) ((0 : Nat) + i.toNat) (List.take ((intO (↑(intO (↑ts.length : Int) (some ((↑ts.length : Int) + (↑us.length : Int)))).toNat : Int) none).toNat - i.toNat) us)))])) := by kernel_rfl
theorem ins_grow (f f2 : Bool) (ts us tc : List Int) (i : Int) : Tr.follow [true, false, false, true, true, true, true, true, true, true, false, true, true, true, true, true, true, true, true, true] (fnX C24 Try.prog noSp noLs (fun _ _ => 5) 10 61 [.vs 2 1 0 0 ts.length none, .raw (.int .i64 i), .h 1] ((2, .sl true true 3 tc) :: (0, .gone) :: numH 0 [.sl true f 3 ts, .sl true f2 3 us]) 3) =
  some ([bOk i (intO (↑ts.length : Int) none) (roomV (0 : Nat) tc.length none) && atV (0 : Nat) tc.length i none,
  (↑us.length : Int) == (0 : Int),
  i == (↑ts.length : Int),
  inR64 ((↑ts.length : Int) + (↑us.length : Int)),
  decide ((↑(tc.length - (0 : Nat)) : Int) < (↑ts.length : Int) + (↑us.length : Int)),
  bOk (0 : Int) (intO (↑ts.length : Int) (some i)) (roomV (0 : Nat) tc.length none),
  inR64 ((↑ts.length : Int) + (↑us.length : Int)),
  inR64 ((↑ts.length : Int) + (↑us.length : Int) - i),
  decide ((0 : Int) ≤ (↑ts.length : Int) + (↑us.length : Int) - i) && (decide ((↑ts.length : Int) + (↑us.length : Int) - i ≤ (9223372036854775807 : Int)) && decide (((↑ts.length : Int) + (↑us.length : Int) - i) * (↑Try.prog.types[(3 : Nat)].bytes : Int) ≤ (281474976710656 : Int))),
  decide ((0 : Nat) + (intO (↑ts.length : Int) (some i)).toNat ≤ tc.length),
  decide ((0 : Nat) + (intO (↑ts.length : Int) (some i)).toNat + (List.replicate ((↑ts.length : Int) + (↑us.length : Int) - i).toNat (0 : Int)).length ≤ tc.length),
  true,
  roomB ((intO (↑ts.length : Int) (some i)).toNat + (List.replicate ((↑ts.length : Int) + (↑us.length : Int) - i).toNat (0 : Int)).length) Try.prog.types[(3 : Nat)].bytes,
  bOk i (intO (↑(List.take (intO (↑ts.length : Int) (some i)).toNat (List.drop (0 : Nat) tc) ++ List.replicate ((↑ts.length : Int) + (↑us.length : Int) - i).toNat (0 : Int)).length : Int) none) (roomV (0 : Nat) (List.take (intO (↑ts.length : Int) (some i)).toNat (List.drop (0 : Nat) tc) ++ List.replicate ((↑ts.length : Int) + (↑us.length : Int) - i).toNat (0 : Int)).length none) && atV (0 : Nat) (List.take (intO (↑ts.length : Int) (some i)).toNat (List.drop (0 : Nat) tc) ++ List.replicate ((↑ts.length : Int) + (↑us.length : Int) - i).toNat (0 : Int)).length i none,
  decide ((0 : Nat) + i.toNat + (List.take ((intO (↑(List.take (intO (↑ts.length : Int) (some i)).toNat (List.drop (0 : Nat) tc) ++ List.replicate ((↑ts.length : Int) + (↑us.length : Int) - i).toNat (0 : Int)).length : Int) none).toNat - i.toNat) us).length ≤ (List.take (intO (↑ts.length : Int) (some i)).toNat (List.drop (0 : Nat) tc) ++ List.replicate ((↑ts.length : Int) + (↑us.length : Int) - i).toNat (0 : Int)).length),
  inR64 (i + (↑us.length : Int)),
  bOk (i + (↑us.length : Int)) (intO (↑(overL (List.take (intO (↑ts.length : Int) (some i)).toNat (List.drop (0 : Nat) tc) ++ List.replicate ((↑ts.length : Int) + (↑us.length : Int) - i).toNat (0 : Int)) ((0 : Nat) + i.toNat) (List.take ((intO (↑(List.take (intO (↑ts.length : Int) (some i)).toNat (List.drop (0 : Nat) tc) ++ List.replicate ((↑ts.length : Int) + (↑us.length : Int) - i).toNat (0 : Int)).length : Int) none).toNat - i.toNat) us)).length : Int) none) (roomV (0 : Nat) (overL (List.take (intO (↑ts.length : Int) (some i)).toNat (List.drop (0 : Nat) tc) ++ List.replicate ((↑ts.length : Int) + (↑us.length : Int) - i).toNat (0 : Int)) ((0 : Nat) + i.toNat) (List.take ((intO (↑(List.take (intO (↑ts.length : Int) (some i)).toNat (List.drop (0 : Nat) tc) ++ List.replicate ((↑ts.length : Int) + (↑us.length : Int) - i).toNat (0 : Int)).length : Int) none).toNat - i.toNat) us)).length none) && atV (0 : Nat) (overL (List.take (intO (↑ts.length : Int) (some i)).toNat (List.drop (0 : Nat) tc) ++ List.replicate ((↑ts.length : Int) + (↑us.length : Int) - i).toNat (0 : Int)) ((0 : Nat) + i.toNat) (List.take ((intO (↑(List.take (intO (↑ts.length : Int) (some i)).toNat (List.drop (0 : Nat) tc) ++ List.replicate ((↑ts.length : Int) + (↑us.length : Int) - i).toNat (0 : Int)).length : Int) none).toNat - i.toNat) us)).length (i + (↑us.length : Int)) none,
  bOk i (intO (↑ts.length : Int) none) (roomV (0 : Nat) tc.length none) && atV (0 : Nat) tc.length i none,
  decide ((0 : Nat) + i.toNat + ((intO (↑ts.length : Int) none).toNat - i.toNat) ≤ tc.length),
  decide ((0 : Nat) + (i + (↑us.length : Int)).toNat + (List.take ((intO (↑(overL (List.take (intO (↑ts.length : Int) (some i)).toNat (List.drop (0 : Nat) tc) ++ List.replicate ((↑ts.length : Int) + (↑us.length : Int) - i).toNat (0 : Int)) ((0 : Nat) + i.toNat) (List.take ((intO (↑(List.take (intO (↑ts.length : Int) (some i)).toNat (List.drop (0 : Nat) tc) ++ List.replicate ((↑ts.length : Int) + (↑us.length : Int) - i).toNat (0 : Int)).length : Int) none).toNat - i.toNat) us)).length : Int) none).toNat - (i + (↑us.length : Int)).toNat) (List.take ((intO (↑ts.length : Int) none).toNat - i.toNat) (List.drop ((0 : Nat) + i.toNat) tc))).length ≤ (overL (List.take (intO (↑ts.length : Int) (some i)).toNat (List.drop (0 : Nat) tc) ++ List.replicate ((↑ts.length : Int) + (↑us.length : Int) - i).toNat (0 : Int)) ((0 : Nat) + i.toNat) (List.take ((intO (↑(List.take (intO (↑ts.length : Int) (some i)).toNat (List.drop (0 : Nat) tc) ++ List.replicate ((↑ts.length : Int) + (↑us.length : Int) - i).toNat (0 : Int)).length : Int) none).toNat - i.toNat) us)).length)],
  (SV.h (0 : Nat), [SO.sl true false (3 : Nat) (overL (overL (List.take (intO (↑ts.length : Int) (some i)).toNat (List.drop (0 : Nat) tc) ++ List.replicate ((↑ts.length : Int) + (↑us.length : Int) - i).toNat (0 : Int)) ((0 : Nat) + i.toNat) (List.take ((intO (↑(List.take (intO (↑ts.length : Int) (some i)).toNat (List.drop (0 : Nat) tc) ++ List.replicate ((↑ts.length : Int) + (↑us.length : Int) - i).toNat (0 : Int)).length : Int) none).toNat - i.toNat) us)) ((0 : Nat) + (i + (↑us.length : Int)).toNat) (List.take ((intO (↑(overL (List.take (intO (↑ts.length : Int) (some i)).toNat (List.drop (0 : Nat) tc) ++ List.replicate ((↑ts.length : Int) + (↑us.length : Int) - i).toNat (0 : Int)) ((0 : Nat) + i.toNat) (List.take ((intO (↑(List.take (intO (↑ts.length : Int) (some i)).toNat (List.drop (0 : Nat) tc) ++ List.replicate ((↑ts.length : Int) + (↑us.length : Int) - i).toNat (0 : Int)).length : Int) none).toNat - i.toNat) us)).length : Int) none).toNat - (i + (↑us.length : Int)).toNat) (List.take ((intO (↑ts.length : Int) none).toNat - i.toNat) (List.drop ((0 : Nat) + i.toNat) tc))))])) := by kernel_rfl
theorem ins_nil (f2 : Bool) (us : List Int) (i : Int) : Tr.follow [true, false, true, true, false] (fnX C24 Try.prog noSp noLs (fun _ _ => 5) 10 61 [.raw (.slice none 0 0), .raw (.int .i64 i), .h 0] (numH 0 [.sl true f2 3 us]) 1) =
  some ([bOk (intO (0 : Int) (some i)) (intO (0 : Int) none) (intO (0 : Int) none) && decide (intO (0 : Int) none ≤ (0 : Int)),
  (↑us.length : Int) == (0 : Int),
  i == (↑(0 : Nat) : Int),
  roomB us.length Try.prog.types[(3 : Nat)].bytes,
  decide (us.length = (0 : Nat))],
  (SV.h (0 : Nat), [SO.sl true false (3 : Nat) us])) := by kernel_rfl
theorem del_p (f : Bool) (ts : List Int) (i j : Int) : Tr.follow [true, false, true, true, true, true, true, true, true, true, true, true] (fnX C24 Try.prog noSp noLs (fun _ _ => 5) 10 62 [.h 0, .raw (.int .i64 i), .raw (.int .i64 j)] (numH 0 [.sl true f 3 ts]) 1) =
  some ([bOk i j (↑ts.length : Int) && (decide ((↑ts.length : Int) ≤ roomV (0 : Nat) ts.length none) && (decide ((0 : Nat) + i.toNat < ts.length) && decide (i < (↑ts.length : Int)))),
  i == j,
  bOk (0 : Int) (intO (↑ts.length : Int) (some i)) (roomV (0 : Nat) ts.length none),
  bOk j (intO (↑ts.length : Int) none) (roomV (0 : Nat) ts.length none) && atV (0 : Nat) ts.length j none,
  decide ((0 : Nat) + j.toNat + ((intO (↑ts.length : Int) none).toNat - j.toNat) ≤ ts.length),
  decide ((0 : Nat) + (intO (↑ts.length : Int) (some i)).toNat ≤ ts.length),
  decide ((0 : Nat) + (intO (↑ts.length : Int) (some i)).toNat + (List.take ((intO (↑ts.length : Int) none).toNat - j.toNat) (List.drop ((0 : Nat) + j.toNat) ts)).length ≤ ts.length),
  decide ((0 : Nat) + (intO (↑ts.length : Int) (some i)).toNat + (List.take ((intO (↑ts.length : Int) none).toNat - j.toNat) (List.drop ((0 : Nat) + j.toNat) ts)).length ≤ ts.length),
  bOk (↑((intO (↑ts.length : Int) (some i)).toNat + (List.take ((intO (↑ts.length : Int) none).toNat - j.toNat) (List.drop ((0 : Nat) + j.toNat) ts)).length) : Int) (intO (↑((intO (↑ts.length : Int) (some i)).toNat + (List.take ((intO (↑ts.length : Int) none).toNat - j.toNat) (List.drop ((0 : Nat) + j.toNat) ts)).length) : Int) (some (↑ts.length : Int))) (roomV (0 : Nat) (overL ts ((0 : Nat) + (intO (↑ts.length : Int) (some i)).toNat) (List.take ((intO (↑ts.length : Int) none).toNat - j.toNat) (List.drop ((0 : Nat) + j.toNat) ts))).length none) && atV (0 : Nat) (overL ts ((0 : Nat) + (intO (↑ts.length : Int) (some i)).toNat) (List.take ((intO (↑ts.length : Int) none).toNat - j.toNat) (List.drop ((0 : Nat) + j.toNat) ts))).length (↑((intO (↑ts.length : Int) (some i)).toNat + (List.take ((intO (↑ts.length : Int) none).toNat - j.toNat) (List.drop ((0 : Nat) + j.toNat) ts)).length) : Int) none,
  decide ((0 : Nat) + (↑((intO (↑ts.length : Int) (some i)).toNat + (List.take ((intO (↑ts.length : Int) none).toNat - j.toNat) (List.drop ((0 : Nat) + j.toNat) ts)).length) : Int).toNat + (List.replicate ((intO (↑((intO (↑ts.length : Int) (some i)).toNat + (List.take ((intO (↑ts.length : Int) none).toNat - j.toNat) (List.drop ((0 : Nat) + j.toNat) ts)).length) : Int) (some (↑ts.length : Int))).toNat - (↑((intO (↑ts.length : Int) (some i)).toNat + (List.take ((intO (↑ts.length : Int) none).toNat - j.toNat) (List.drop ((0 : Nat) + j.toNat) ts)).length) : Int).toNat) (0 : Int)).length ≤ (overL ts ((0 : Nat) + (intO (↑ts.length : Int) (some i)).toNat) (List.take ((intO (↑ts.length : Int) none).toNat - j.toNat) (List.drop ((0 : Nat) + j.toNat) ts))).length),
  true,
  shutB ((intO (↑ts.length : Int) (some i)).toNat + (List.take ((intO (↑ts.length : Int) none).toNat - j.toNat) (List.drop ((0 : Nat) + j.toNat) ts)).length) (overL (overL ts ((0 : Nat) + (intO (↑ts.length : Int) (some i)).toNat) (List.take ((intO (↑ts.length : Int) none).toNat - j.toNat) (List.drop ((0 : Nat) + j.toNat) ts))) ((0 : Nat) + (↑((intO (↑ts.length : Int) (some i)).toNat + (List.take ((intO (↑ts.length : Int) none).toNat - j.toNat) (List.drop ((0 : Nat) + j.toNat) ts)).length) : Int).toNat) (List.replicate ((intO (↑((intO (↑ts.length : Int) (some i)).toNat + (List.take ((intO (↑ts.length : Int) none).toNat - j.toNat) (List.drop ((0 : Nat) + j.toNat) ts)).length) : Int) (some (↑ts.length : Int))).toNat - (↑((intO (↑ts.length : Int) (some i)).toNat + (List.take ((intO (↑ts.length : Int) none).toNat - j.toNat) (List.drop ((0 : Nat) + j.toNat) ts)).length) : Int).toNat) (0 : Int))).length none],
  (SV.h (0 : Nat), [SO.sl true false (3 : Nat) (List.take ((intO (↑ts.length : Int) (some i)).toNat + (List.take ((intO (↑ts.length : Int) none).toNat - j.toNat) (List.drop ((0 : Nat) + j.toNat) ts)).length) (overL (overL ts ((0 : Nat) + (intO (↑ts.length : Int) (some i)).toNat) (List.take ((intO (↑ts.length : Int) none).toNat - j.toNat) (List.drop ((0 : Nat) + j.toNat) ts))) ((0 : Nat) + (↑((intO (↑ts.length : Int) (some i)).toNat + (List.take ((intO (↑ts.length : Int) none).toNat - j.toNat) (List.drop ((0 : Nat) + j.toNat) ts)).length) : Int).toNat) (List.replicate ((intO (↑((intO (↑ts.length : Int) (some i)).toNat + (List.take ((intO (↑ts.length : Int) none).toNat - j.toNat) (List.drop ((0 : Nat) + j.toNat) ts)).length) : Int) (some (↑ts.length : Int))).toNat - (↑((intO (↑ts.length : Int) (some i)).toNat + (List.take ((intO (↑ts.length : Int) none).toNat - j.toNat) (List.drop ((0 : Nat) + j.toNat) ts)).length) : Int).toNat) (0 : Int))))])) := by kernel_rfl

theorem ins_bytes : Try.prog.types[(3 : Nat)].bytes ≤ 1000 := by
  have h : Nat.ble Try.prog.types[(3 : Nat)].bytes 1000 = true := by kernel_rfl
  exact Nat.le_of_ble_eq_true h
def insT : FnF C24 := fun args os => match args, os with
  | [.h 0, .raw (.int .i64 i), .h 1], [.sl true f 3 ts, .sl true f2 3 us] => .br (decide (0 ≤ i ∧ i ≤ (ts.length : Int) ∧ ts.length ≤ 100000) && decide (us.length = 1)) (.leaf (.h 0, [.sl true false 3 (insL ts i.toNat us)])) .fail
  | [.raw (.slice none 0 0), .raw (.int .i64 i), .h 0], [.sl true f2 3 us] => .br (decide (i = 0) && decide (us.length = 1)) (.leaf (.h 0, [.sl true false 3 us])) .fail
  | _, _ => .fail
theorem insT_ok : ∀ args os r, (insT args os).get = some r → FnOwn Try.prog 61 args os r := fun args os r h => by
  unfold insT at h
  split at h
  · rename_i i f ts f2 us
    obtain ⟨hb, h2⟩ := Tr.get_ask.1 h
    simp only [Tr.get, Option.some.injEq] at h2
    subst h2
    change List (Int) at ts us
    simp only [Bool.and_eq_true, decide_eq_true_eq] at hb
    obtain ⟨⟨h0, h1, h2⟩, hu⟩ := hb
    have h1 : i ≤ ((ts : List (Int)).length : Int) := h1
    have h2 : (ts : List (Int)).length ≤ 100000 := h2
    have hu : (us : List (Int)).length = 1 := hu
    have hby := ins_bytes
    obtain ⟨I, rfl⟩ := Int.eq_ofNat_of_zero_le h0
    by_cases he : I = ts.length
    · subst he
      refine fnO_ok (d := 10) (unr := fun _ _ => 5) plain mixed noSp_ok noLs_ok ?_
      refine (Tr.follow_get (ins_end f f2 ts us (ts.length : Int)) ?_).trans (congrArg (fun l : List (Int) => some ((SV.h 0, [SO.sl true false 3 l]) : SV × List (SO C24))) (show ts ++ us = insL ts ((ts.length : Int)).toNat us by simp [insL]))
      generalize Try.prog.types[(3 : Nat)].bytes = by_ at *
      have hroom : (ts.length + us.length) * by_ ≤ 140737488355328 := Nat.le_trans (Nat.mul_le_mul (show ts.length + us.length ≤ 100001 by omega) hby) (by decide)
      simp only [List.cons.injEq, and_true]
      and_intros <;> first
        | exact decide_eq_true hroom
        | (simp [hu, bOk, roomV, atV, shutB, roomB, inR64, intO, overL]; done)
        | (simp [hu, bOk, roomV, atV, shutB, roomB, inR64, intO, overL]; omega)
    · have hlt : I < ts.length := by omega
      refine fnI_ok (d := 10) (unr := fun _ _ => 5) plain mixed noSp_ok noLs_ok fun tc t1 t2 => ?_
      change List (Int) at tc
      obtain ⟨rest, rfl⟩ : ∃ rest, tc = ts ++ rest := ⟨_, take_append_take t1 rfl⟩
      obtain ⟨a, b, rfl, ha⟩ : ∃ a b, ts = a ++ b ∧ a.length = I := ⟨ts.take I, ts.drop I, (List.take_append_drop I ts).symm, by rw [List.length_take]; omega⟩
      subst ha
      obtain ⟨x, rfl⟩ : ∃ x, us = [x] := by
        match us, hu with
        | [x], _ => exact ⟨x, rfl⟩
      have hi : insL (a ++ b) ((a.length : Int)).toNat [x] = a ++ ([x] ++ b) := by simp [insL]
      simp only [List.length_append] at h1 h2 hlt
      have hbl : 0 < b.length := by omega
      by_cases hroom : rest.length = 0
      · have hr : rest = [] := List.length_eq_zero_iff.1 hroom
        subst hr
        refine (Tr.follow_get (ins_grow f f2 (a ++ b) [x] (a ++ b ++ []) (a.length : Int)) ?_).trans (congrArg (fun l : List (Int) => some ((SV.h 0, [SO.sl true false 3 l]) : SV × List (SO C24))) (Eq.trans ?_ hi.symm))
        · generalize Try.prog.types[(3 : Nat)].bytes = by_ at *
          have hm : ((a.length : Int) + (b.length : Int) + 1 - (a.length : Int)) * (by_ : Int) ≤ 281474976710656 := by
            have h3 : (b.length + 1) * by_ ≤ 281474976710656 := Nat.le_trans (Nat.mul_le_mul (show b.length + 1 ≤ 100001 by omega) hby) (by decide)
            rw [show (a.length : Int) + (b.length : Int) + 1 - (a.length : Int) = ((b.length + 1 : Nat) : Int) by omega, ← Int.natCast_mul]
            omega
          simp only [List.cons.injEq, and_true]
          and_intros <;> first
            | (simp [bOk, roomV, atV, shutB, inR64, intO, overL]; done)
            | (simp [bOk, roomV, atV, shutB, inR64, intO, overL]; omega)
            | (refine decide_eq_true (Nat.le_trans (Nat.mul_le_mul (show _ ≤ 100001 from ?_) hby) (by decide)); simp [intO]; omega)
        · exact ins_grow_list a b x _ rfl hbl (by first | (simp [intO, overL]; done) | (simp [intO, overL]; omega)) (by first | (simp [intO, overL]; done) | (simp [intO, overL]; omega)) (by first | (simp [intO, overL]; done) | (simp [intO, overL]; omega)) (by first | (simp [intO, overL]; done) | (simp [intO, overL]; omega)) (by first | (simp [intO, overL]; done) | (simp [intO, overL]; omega)) (by first | (simp [intO, overL]; done) | (simp [intO, overL]; omega)) (by first | (simp [intO, overL]; done) | (simp [intO, overL]; omega)) (by first | (simp [intO, overL]; done) | (simp [intO, overL]; omega))
      · refine (Tr.follow_get (ins_shift f f2 (a ++ b) [x] (a ++ b ++ rest) (a.length : Int)) ?_).trans (congrArg (fun l : List (Int) => some ((SV.h 0, [SO.sl true false 3 l]) : SV × List (SO C24))) (Eq.trans ?_ hi.symm))
        · simp only [List.cons.injEq, and_true]
          and_intros <;> first
            | (simp [bOk, roomV, atV, shutB, inR64, intO, overL]; done)
            | (simp [bOk, roomV, atV, shutB, inR64, intO, overL]; omega)
            | (refine decide_eq_true (Nat.le_trans (Nat.mul_le_mul (show _ ≤ 100001 from ?_) hby) (by decide)); simp [intO]; omega)
        · exact ins_shift_list a b rest x hbl (by first | (simp [intO, overL]; done) | (simp [intO, overL]; omega)) (by first | (simp [intO, overL]; done) | (simp [intO, overL]; omega)) (by first | (simp [intO, overL]; done) | (simp [intO, overL]; omega)) (by first | (simp [intO, overL]; done) | (simp [intO, overL]; omega)) (by first | (simp [intO, overL]; done) | (simp [intO, overL]; omega)) (by first | (simp [intO, overL]; done) | (simp [intO, overL]; omega)) (by first | (simp [intO, overL]; done) | (simp [intO, overL]; omega))
  · rename_i i f2 us
    obtain ⟨hb, h2⟩ := Tr.get_ask.1 h
    simp only [Tr.get, Option.some.injEq] at h2
    subst h2
    change List (Int) at us
    simp only [Bool.and_eq_true, decide_eq_true_eq] at hb
    obtain ⟨rfl, hu⟩ := hb
    have hu : (us : List (Int)).length = 1 := hu
    have hby := ins_bytes
    refine fnO_ok (d := 10) (unr := fun _ _ => 5) plain mixed noSp_ok noLs_ok ?_
    refine Tr.follow_get (ins_nil f2 us 0) ?_
    generalize Try.prog.types[(3 : Nat)].bytes = by_ at *
    simp only [List.cons.injEq, and_true]
    and_intros <;> first
      | (simp [hu, bOk, intO]; done)
      | (refine decide_eq_true (Nat.le_trans (Nat.mul_le_mul (show _ ≤ 100001 from ?_) hby) (by decide)); omega)
  · cases h
def delT : FnF C24 := fun args os => match args, os with
  | [.h 0, .raw (.int .i64 i), .raw (.int .i64 j)], [.sl true f 3 ts] => .br (decide (0 ≤ i ∧ i < j ∧ j ≤ (ts.length : Int) ∧ ts.length ≤ 100000)) (.leaf (.h 0, [.sl true false 3 (delL ts i.toNat j.toNat)])) .fail
  | _, _ => .fail
theorem delT_ok : ∀ args os r, (delT args os).get = some r → FnOwn Try.prog 62 args os r := fun args os r h => by
  unfold delT at h
  split at h
  · rename_i i j f ts
    obtain ⟨hb, h2⟩ := Tr.get_ask.1 h
    simp only [Tr.get, Option.some.injEq] at h2
    subst h2
    change List (Int) at ts
    obtain ⟨h0, h1, h2, h3⟩ := of_decide_eq_true hb
    have h2 : j ≤ ((ts : List (Int)).length : Int) := h2
    have h3 : (ts : List (Int)).length ≤ 100000 := h3
    refine fnO_ok (d := 10) (unr := fun _ _ => 5) plain mixed noSp_ok noLs_ok ?_
    refine (Tr.follow_get (del_p f ts i j) ?_).trans (congrArg (fun l : List (Int) => some ((SV.h 0, [SO.sl true false 3 l]) : SV × List (SO C24))) (del_list ts _ (by omega) (by omega) (by first | (simp [intO, overL]; done) | (simp [intO, overL]; omega)) (by first | (simp [intO, overL]; done) | (simp [intO, overL]; omega)) (by first | (simp [intO, overL]; done) | (simp [intO, overL]; omega)) (by first | (simp [intO, overL]; done) | (simp [intO, overL]; omega)) (by first | (simp [intO, overL]; done) | (simp [intO, overL]; omega))))
    simp only [List.cons.injEq, and_true]
    and_intros <;> first
      | (simp [bOk, roomV, atV, shutB, inR64, intO, overL]; done)
      | (simp [bOk, roomV, atV, shutB, inR64, intO, overL]; omega)
      | (simp [bOk, roomV, atV, shutB, inR64, intO, overL, h0, h2]; omega)
  · cases h
end
end Go.Proofs.Ytgepgnjjhgmfnaa

