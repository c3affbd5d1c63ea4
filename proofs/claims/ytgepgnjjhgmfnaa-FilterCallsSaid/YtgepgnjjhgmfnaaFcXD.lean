/-
  Merged texts, part 4 of 8. Own work; nothing here is trusted.
-/
import Derived.Test.YtgepgnjjhgmfnaaFcXC
namespace Go.Proofs.Ytgepgnjjhgmfnaa
open Go Go.Sx Go.RowKit
set_option maxRecDepth 1000000
set_option maxHeartbeats 8000000
set_option linter.unusedVariables false
set_option linter.unusedSimpArgs false
noncomputable section
theorem ins_end (f f2 : Bool) (ts us : List Int) (i : Int) : Tr.follow [Tt,Ff,Tt,Tt] (fnX C24 Try.prog noSp noLs (fun _ _ => 5) 10 61 [.h 0, .raw (.int .i64 i), .h 1] (numH 0 [.sl true f 3 ts, .sl true f2 3 us]) 2) =
  some ([bOk i (intO (↑ts.length : Int) none) (roomV (0 : Nat) ts.length none) && atV (0 : Nat) ts.length i none,(↑us.length : Int) == 0,i == (↑ts.length : Int),roomB (ts.length + us.length) Try.prog.types[(3 : Nat)].bytes],
  (SV.h (0 : Nat), [SO.sl true false (3 : Nat) (ts ++ us)])) := by kernel_rfl
theorem ins_shift (f f2 : Bool) (ts us tc : List Int) (i : Int) : Tr.follow [Tt,Ff,Ff,Tt,Ff,Tt,Tt,Tt,Tt,Tt,Tt,Tt,Tt,Tt,Tt,Tt,Tt,Tt,Tt,Tt] (fnX C24 Try.prog noSp noLs (fun _ _ => 5) 10 61 [.vs 2 1 0 0 ts.length none, .raw (.int .i64 i), .h 1] ((2, .sl true true 3 tc) :: (0, .gone) :: numH 0 [.sl true f 3 ts, .sl true f2 3 us]) 3) =
  some ([bOk i (intO (↑ts.length : Int) none) (roomV (0 : Nat) tc.length none) && atV (0 : Nat) tc.length i none,(↑us.length : Int) == 0,i == (↑ts.length : Int),inR64 ((↑ts.length : Int) + (↑us.length : Int)),decide ((↑(tc.length - (0 : Nat)) : Int) < (↑ts.length : Int) + (↑us.length : Int)),inR64 ((↑ts.length : Int) + (↑us.length : Int)),bOk (0 : Int) (intO (↑ts.length : Int) (some ((↑ts.length : Int) + (↑us.length : Int)))) (roomV (0 : Nat) tc.length none),inR64 (i + (↑us.length : Int)),bOk (i + (↑us.length : Int)) (intO (↑(intO (↑ts.length : Int) (some ((↑ts.length : Int) + (↑us.length : Int)))).toNat : Int) none) (roomV (0 : Nat) tc.length none) && atV (0 : Nat) tc.length (i + (↑us.length : Int)) none,decide ((0 : Nat) < tc.length),Tt,inR64 (i + (↑us.length : Int)),bOk (i + (↑us.length : Int)) (intO (↑(intO (↑ts.length : Int) (some ((↑ts.length : Int) + (↑us.length : Int)))).toNat : Int) none) (roomV (0 : Nat) tc.length none) && atV (0 : Nat) tc.length (i + (↑us.length : Int)) none,bOk i (intO (↑(intO (↑ts.length : Int) (some ((↑ts.length : Int) + (↑us.length : Int)))).toNat : Int) none) (roomV (0 : Nat) tc.length none) && atV (0 : Nat) tc.length i none,decide ((0 : Nat) + i.toNat + ((intO (↑(intO (↑ts.length : Int) (some ((↑ts.length : Int) + (↑us.length : Int)))).toNat : Int) none).toNat - i.toNat) ≤ tc.length),decide ((0 : Nat) + (i + (↑us.length : Int)).toNat + (List.take ((intO (↑(intO (↑ts.length : Int) (some ((↑ts.length : Int) + (↑us.length : Int)))).toNat : Int) none).toNat - (i + (↑us.length : Int)).toNat) (List.take ((intO (↑(intO (↑ts.length : Int) (some ((↑ts.length : Int) + (↑us.length : Int)))).toNat : Int) none).toNat - i.toNat) (List.drop ((0 : Nat) + i.toNat) tc))).length ≤ tc.length),bOk i (intO (↑(intO (↑ts.length : Int) (some ((↑ts.length : Int) + (↑us.length : Int)))).toNat : Int) none) (roomV (0 : Nat) (overL tc ((0 : Nat) + (i + (↑us.length : Int)).toNat) (List.take ((intO (↑(intO (↑ts.length : Int) (some ((↑ts.length : Int) + (↑us.length : Int)))).toNat : Int) none).toNat - (i + (↑us.length : Int)).toNat) (List.take ((intO (↑(intO (↑ts.length : Int) (some ((↑ts.length : Int) + (↑us.length : Int)))).toNat : Int) none).toNat - i.toNat) (List.drop ((0 : Nat) + i.toNat) tc)))).length none) && atV (0 : Nat) (overL tc ((0 : Nat) + (i + (↑us.length : Int)).toNat) (List.take ((intO (↑(intO (↑ts.length : Int) (some ((↑ts.length : Int) + (↑us.length : Int)))).toNat : Int) none).toNat - (i + (↑us.length : Int)).toNat) (List.take ((intO (↑(intO (↑ts.length : Int) (some ((↑ts.length : Int) + (↑us.length : Int)))).toNat : Int) none).toNat - i.toNat) (List.drop ((0 : Nat) + i.toNat) tc)))).length i none,decide ((0 : Nat) + i.toNat + (List.take ((intO (↑(intO (↑ts.length : Int) (some ((↑ts.length : Int) + (↑us.length : Int)))).toNat : Int) none).toNat - i.toNat) us).length ≤ (overL tc ((0 : Nat) + (i + (↑us.length : Int)).toNat) (List.take ((intO (↑(intO (↑ts.length : Int) (some ((↑ts.length : Int) + (↑us.length : Int)))).toNat : Int) none).toNat - (i + (↑us.length : Int)).toNat) (List.take ((intO (↑(intO (↑ts.length : Int) (some ((↑ts.length : Int) + (↑us.length : Int)))).toNat : Int) none).toNat - i.toNat) (List.drop ((0 : Nat) + i.toNat) tc)))).length),Tt,shutB (intO (↑ts.length : Int) (some ((↑ts.length : Int) + (↑us.length : Int)))).toNat (overL (overL tc ((0 : Nat) + (i + (↑us.length : Int)).toNat) (List.take ((intO (↑(intO (↑ts.length : Int) (some ((↑ts.length : Int) + (↑us.length : Int)))).toNat : Int) none).toNat - (i + (↑us.length : Int)).toNat) (List.take ((intO (↑(intO (↑ts.length : Int) (some ((↑ts.length : Int) + (↑us.length : Int)))).toNat : Int) none).toNat - i.toNat) (List.drop ((0 : Nat) + i.toNat) tc)))) ((0 : Nat) + i.toNat) (List.take ((intO (↑(intO (↑ts.length : Int) (some ((↑ts.length : Int) + (↑us.length : Int)))).toNat : Int) none).toNat - i.toNat) us)).length none],
  (SV.h (0 : Nat), [SO.sl true false (3 : Nat) (List.take (intO (↑ts.length : Int) (some ((↑ts.length : Int) + (↑us.length : Int)))).toNat (overL (overL tc ((0 : Nat) + (i + (↑us.length : Int)).toNat) (List.take ((intO (↑(intO (↑ts.length : Int) (some ((↑ts.length : Int) + (↑us.length : Int)))).toNat : Int) none).toNat - (i + (↑us.length : Int)).toNat) (List.take ((intO (↑(intO (↑ts.length : Int) (some ((↑ts.length : Int) + (↑us.length : Int)))).toNat : Int) none).toNat - i.toNat) (List.drop ((0 : Nat) + i.toNat) tc)))) ((0 : Nat) + i.toNat) (List.take ((intO (↑(intO (↑ts.length : Int) (some ((↑ts.length : Int) + (↑us.length : Int)))).toNat : Int) none).toNat - i.toNat) us)))])) := by kernel_rfl
theorem ins_grow (f f2 : Bool) (ts us tc : List Int) (i : Int) : Tr.follow [Tt,Ff,Ff,Tt,Tt,Tt,Tt,Tt,Tt,Tt,Ff,Tt,Tt,Tt,Tt,Tt,Tt,Tt,Tt,Tt] (fnX C24 Try.prog noSp noLs (fun _ _ => 5) 10 61 [.vs 2 1 0 0 ts.length none, .raw (.int .i64 i), .h 1] ((2, .sl true true 3 tc) :: (0, .gone) :: numH 0 [.sl true f 3 ts, .sl true f2 3 us]) 3) =
  some ([bOk i (intO (↑ts.length : Int) none) (roomV (0 : Nat) tc.length none) && atV (0 : Nat) tc.length i none,(↑us.length : Int) == 0,i == (↑ts.length : Int),inR64 ((↑ts.length : Int) + (↑us.length : Int)),decide ((↑(tc.length - (0 : Nat)) : Int) < (↑ts.length : Int) + (↑us.length : Int)),bOk (0 : Int) (intO (↑ts.length : Int) (some i)) (roomV (0 : Nat) tc.length none),inR64 ((↑ts.length : Int) + (↑us.length : Int)),inR64 ((↑ts.length : Int) + (↑us.length : Int) - i),decide ((0 : Int) ≤ (↑ts.length : Int) + (↑us.length : Int) - i) && (decide ((↑ts.length : Int) + (↑us.length : Int) - i ≤ 9223372036854775807) && decide (((↑ts.length : Int) + (↑us.length : Int) - i) * (↑Try.prog.types[(3 : Nat)].bytes : Int) ≤ 281474976710656)),decide ((0 : Nat) + (intO (↑ts.length : Int) (some i)).toNat ≤ tc.length),decide ((0 : Nat) + (intO (↑ts.length : Int) (some i)).toNat + (List.replicate ((↑ts.length : Int) + (↑us.length : Int) - i).toNat (0 : Int)).length ≤ tc.length),Tt,roomB ((intO (↑ts.length : Int) (some i)).toNat + (List.replicate ((↑ts.length : Int) + (↑us.length : Int) - i).toNat (0 : Int)).length) Try.prog.types[(3 : Nat)].bytes,bOk i (intO (↑(List.take (intO (↑ts.length : Int) (some i)).toNat (List.drop (0 : Nat) tc) ++ List.replicate ((↑ts.length : Int) + (↑us.length : Int) - i).toNat (0 : Int)).length : Int) none) (roomV (0 : Nat) (List.take (intO (↑ts.length : Int) (some i)).toNat (List.drop (0 : Nat) tc) ++ List.replicate ((↑ts.length : Int) + (↑us.length : Int) - i).toNat (0 : Int)).length none) && atV (0 : Nat) (List.take (intO (↑ts.length : Int) (some i)).toNat (List.drop (0 : Nat) tc) ++ List.replicate ((↑ts.length : Int) + (↑us.length : Int) - i).toNat (0 : Int)).length i none,decide ((0 : Nat) + i.toNat + (List.take ((intO (↑(List.take (intO (↑ts.length : Int) (some i)).toNat (List.drop (0 : Nat) tc) ++ List.replicate ((↑ts.length : Int) + (↑us.length : Int) - i).toNat (0 : Int)).length : Int) none).toNat - i.toNat) us).length ≤ (List.take (intO (↑ts.length : Int) (some i)).toNat (List.drop (0 : Nat) tc) ++ List.replicate ((↑ts.length : Int) + (↑us.length : Int) - i).toNat (0 : Int)).length),inR64 (i + (↑us.length : Int)),bOk (i + (↑us.length : Int)) (intO (↑(overL (List.take (intO (↑ts.length : Int) (some i)).toNat (List.drop (0 : Nat) tc) ++ List.replicate ((↑ts.length : Int) + (↑us.length : Int) - i).toNat (0 : Int)) ((0 : Nat) + i.toNat) (List.take ((intO (↑(List.take (intO (↑ts.length : Int) (some i)).toNat (List.drop (0 : Nat) tc) ++ List.replicate ((↑ts.length : Int) + (↑us.length : Int) - i).toNat (0 : Int)).length : Int) none).toNat - i.toNat) us)).length : Int) none) (roomV (0 : Nat) (overL (List.take (intO (↑ts.length : Int) (some i)).toNat (List.drop (0 : Nat) tc) ++ List.replicate ((↑ts.length : Int) + (↑us.length : Int) - i).toNat (0 : Int)) ((0 : Nat) + i.toNat) (List.take ((intO (↑(List.take (intO (↑ts.length : Int) (some i)).toNat (List.drop (0 : Nat) tc) ++ List.replicate ((↑ts.length : Int) + (↑us.length : Int) - i).toNat (0 : Int)).length : Int) none).toNat - i.toNat) us)).length none) && atV (0 : Nat) (overL (List.take (intO (↑ts.length : Int) (some i)).toNat (List.drop (0 : Nat) tc) ++ List.replicate ((↑ts.length : Int) + (↑us.length : Int) - i).toNat (0 : Int)) ((0 : Nat) + i.toNat) (List.take ((intO (↑(List.take (intO (↑ts.length : Int) (some i)).toNat (List.drop (0 : Nat) tc) ++ List.replicate ((↑ts.length : Int) + (↑us.length : Int) - i).toNat (0 : Int)).length : Int) none).toNat - i.toNat) us)).length (i + (↑us.length : Int)) none,bOk i (intO (↑ts.length : Int) none) (roomV (0 : Nat) tc.length none) && atV (0 : Nat) tc.length i none,decide ((0 : Nat) + i.toNat + ((intO (↑ts.length : Int) none).toNat - i.toNat) ≤ tc.length),decide ((0 : Nat) + (i + (↑us.length : Int)).toNat + (List.take ((intO (↑(overL (List.take (intO (↑ts.length : Int) (some i)).toNat (List.drop (0 : Nat) tc) ++ List.replicate ((↑ts.length : Int) + (↑us.length : Int) - i).toNat (0 : Int)) ((0 : Nat) + i.toNat) (List.take ((intO (↑(List.take (intO (↑ts.length : Int) (some i)).toNat (List.drop (0 : Nat) tc) ++ List.replicate ((↑ts.length : Int) + (↑us.length : Int) - i).toNat (0 : Int)).length : Int) none).toNat - i.toNat) us)).length : Int) none).toNat - (i + (↑us.length : Int)).toNat) (List.take ((intO (↑ts.length : Int) none).toNat - i.toNat) (List.drop ((0 : Nat) + i.toNat) tc))).length ≤ (overL (List.take (intO (↑ts.length : Int) (some i)).toNat (List.drop (0 : Nat) tc) ++ List.replicate ((↑ts.length : Int) + (↑us.length : Int) - i).toNat (0 : Int)) ((0 : Nat) + i.toNat) (List.take ((intO (↑(List.take (intO (↑ts.length : Int) (some i)).toNat (List.drop (0 : Nat) tc) ++ List.replicate ((↑ts.length : Int) + (↑us.length : Int) - i).toNat (0 : Int)).length : Int) none).toNat - i.toNat) us)).length)],
  (SV.h (0 : Nat), [SO.sl true false (3 : Nat) (overL (overL (List.take (intO (↑ts.length : Int) (some i)).toNat (List.drop (0 : Nat) tc) ++ List.replicate ((↑ts.length : Int) + (↑us.length : Int) - i).toNat (0 : Int)) ((0 : Nat) + i.toNat) (List.take ((intO (↑(List.take (intO (↑ts.length : Int) (some i)).toNat (List.drop (0 : Nat) tc) ++ List.replicate ((↑ts.length : Int) + (↑us.length : Int) - i).toNat (0 : Int)).length : Int) none).toNat - i.toNat) us)) ((0 : Nat) + (i + (↑us.length : Int)).toNat) (List.take ((intO (↑(overL (List.take (intO (↑ts.length : Int) (some i)).toNat (List.drop (0 : Nat) tc) ++ List.replicate ((↑ts.length : Int) + (↑us.length : Int) - i).toNat (0 : Int)) ((0 : Nat) + i.toNat) (List.take ((intO (↑(List.take (intO (↑ts.length : Int) (some i)).toNat (List.drop (0 : Nat) tc) ++ List.replicate ((↑ts.length : Int) + (↑us.length : Int) - i).toNat (0 : Int)).length : Int) none).toNat - i.toNat) us)).length : Int) none).toNat - (i + (↑us.length : Int)).toNat) (List.take ((intO (↑ts.length : Int) none).toNat - i.toNat) (List.drop ((0 : Nat) + i.toNat) tc))))])) := by kernel_rfl
theorem ins_nil (f2 : Bool) (us : List Int) (i : Int) : Tr.follow [Tt,Ff,Tt,Tt,Ff] (fnX C24 Try.prog noSp noLs (fun _ _ => 5) 10 61 [.raw (.slice none 0 0), .raw (.int .i64 i), .h 0] (numH 0 [.sl true f2 3 us]) 1) =
  some ([bOk (intO (0 : Int) (some i)) (intO (0 : Int) none) (intO (0 : Int) none) && decide (intO (0 : Int) none ≤ 0),(↑us.length : Int) == 0,i == (↑(0 : Nat) : Int),roomB us.length Try.prog.types[(3 : Nat)].bytes,decide (us.length = (0 : Nat))],
  (SV.h (0 : Nat), [SO.sl true false (3 : Nat) us])) := by kernel_rfl
theorem del_p (f : Bool) (ts : List Int) (i j : Int) : Tr.follow [Tt,Ff,Tt,Tt,Tt,Tt,Tt,Tt,Tt,Tt,Tt,Tt] (fnX C24 Try.prog noSp noLs (fun _ _ => 5) 10 62 [.h 0, .raw (.int .i64 i), .raw (.int .i64 j)] (numH 0 [.sl true f 3 ts]) 1) =
  some ([bOk i j (↑ts.length : Int) && (decide ((↑ts.length : Int) ≤ roomV (0 : Nat) ts.length none) && (decide ((0 : Nat) + i.toNat < ts.length) && decide (i < (↑ts.length : Int)))),i == j,bOk (0 : Int) (intO (↑ts.length : Int) (some i)) (roomV (0 : Nat) ts.length none),bOk j (intO (↑ts.length : Int) none) (roomV (0 : Nat) ts.length none) && atV (0 : Nat) ts.length j none,decide ((0 : Nat) + j.toNat + ((intO (↑ts.length : Int) none).toNat - j.toNat) ≤ ts.length),decide ((0 : Nat) + (intO (↑ts.length : Int) (some i)).toNat ≤ ts.length),decide ((0 : Nat) + (intO (↑ts.length : Int) (some i)).toNat + (List.take ((intO (↑ts.length : Int) none).toNat - j.toNat) (List.drop ((0 : Nat) + j.toNat) ts)).length ≤ ts.length),decide ((0 : Nat) + (intO (↑ts.length : Int) (some i)).toNat + (List.take ((intO (↑ts.length : Int) none).toNat - j.toNat) (List.drop ((0 : Nat) + j.toNat) ts)).length ≤ ts.length),bOk (↑((intO (↑ts.length : Int) (some i)).toNat + (List.take ((intO (↑ts.length : Int) none).toNat - j.toNat) (List.drop ((0 : Nat) + j.toNat) ts)).length) : Int) (intO (↑((intO (↑ts.length : Int) (some i)).toNat + (List.take ((intO (↑ts.length : Int) none).toNat - j.toNat) (List.drop ((0 : Nat) + j.toNat) ts)).length) : Int) (some (↑ts.length : Int))) (roomV (0 : Nat) (overL ts ((0 : Nat) + (intO (↑ts.length : Int) (some i)).toNat) (List.take ((intO (↑ts.length : Int) none).toNat - j.toNat) (List.drop ((0 : Nat) + j.toNat) ts))).length none) && atV (0 : Nat) (overL ts ((0 : Nat) + (intO (↑ts.length : Int) (some i)).toNat) (List.take ((intO (↑ts.length : Int) none).toNat - j.toNat) (List.drop ((0 : Nat) + j.toNat) ts))).length (↑((intO (↑ts.length : Int) (some i)).toNat + (List.take ((intO (↑ts.length : Int) none).toNat - j.toNat) (List.drop ((0 : Nat) + j.toNat) ts)).length) : Int) none,decide ((0 : Nat) + (↑((intO (↑ts.length : Int) (some i)).toNat + (List.take ((intO (↑ts.length : Int) none).toNat - j.toNat) (List.drop ((0 : Nat) + j.toNat) ts)).length) : Int).toNat + (List.replicate ((intO (↑((intO (↑ts.length : Int) (some i)).toNat + (List.take ((intO (↑ts.length : Int) none).toNat - j.toNat) (List.drop ((0 : Nat) + j.toNat) ts)).length) : Int) (some (↑ts.length : Int))).toNat - (↑((intO (↑ts.length : Int) (some i)).toNat + (List.take ((intO (↑ts.length : Int) none).toNat - j.toNat) (List.drop ((0 : Nat) + j.toNat) ts)).length) : Int).toNat) (0 : Int)).length ≤ (overL ts ((0 : Nat) + (intO (↑ts.length : Int) (some i)).toNat) (List.take ((intO (↑ts.length : Int) none).toNat - j.toNat) (List.drop ((0 : Nat) + j.toNat) ts))).length),Tt,shutB ((intO (↑ts.length : Int) (some i)).toNat + (List.take ((intO (↑ts.length : Int) none).toNat - j.toNat) (List.drop ((0 : Nat) + j.toNat) ts)).length) (overL (overL ts ((0 : Nat) + (intO (↑ts.length : Int) (some i)).toNat) (List.take ((intO (↑ts.length : Int) none).toNat - j.toNat) (List.drop ((0 : Nat) + j.toNat) ts))) ((0 : Nat) + (↑((intO (↑ts.length : Int) (some i)).toNat + (List.take ((intO (↑ts.length : Int) none).toNat - j.toNat) (List.drop ((0 : Nat) + j.toNat) ts)).length) : Int).toNat) (List.replicate ((intO (↑((intO (↑ts.length : Int) (some i)).toNat + (List.take ((intO (↑ts.length : Int) none).toNat - j.toNat) (List.drop ((0 : Nat) + j.toNat) ts)).length) : Int) (some (↑ts.length : Int))).toNat - (↑((intO (↑ts.length : Int) (some i)).toNat + (List.take ((intO (↑ts.length : Int) none).toNat - j.toNat) (List.drop ((0 : Nat) + j.toNat) ts)).length) : Int).toNat) (0 : Int))).length none],
  (SV.h (0 : Nat), [SO.sl true false (3 : Nat) (List.take ((intO (↑ts.length : Int) (some i)).toNat + (List.take ((intO (↑ts.length : Int) none).toNat - j.toNat) (List.drop ((0 : Nat) + j.toNat) ts)).length) (overL (overL ts ((0 : Nat) + (intO (↑ts.length : Int) (some i)).toNat) (List.take ((intO (↑ts.length : Int) none).toNat - j.toNat) (List.drop ((0 : Nat) + j.toNat) ts))) ((0 : Nat) + (↑((intO (↑ts.length : Int) (some i)).toNat + (List.take ((intO (↑ts.length : Int) none).toNat - j.toNat) (List.drop ((0 : Nat) + j.toNat) ts)).length) : Int).toNat) (List.replicate ((intO (↑((intO (↑ts.length : Int) (some i)).toNat + (List.take ((intO (↑ts.length : Int) none).toNat - j.toNat) (List.drop ((0 : Nat) + j.toNat) ts)).length) : Int) (some (↑ts.length : Int))).toNat - (↑((intO (↑ts.length : Int) (some i)).toNat + (List.take ((intO (↑ts.length : Int) none).toNat - j.toNat) (List.drop ((0 : Nat) + j.toNat) ts)).length) : Int).toNat) (0 : Int))))])) := by kernel_rfl
theorem ins_bytes : Try.prog.types[(3 : Nat)].bytes ≤ 1000 := by
  have h : Nat.ble Try.prog.types[(3 : Nat)].bytes 1000 = true := by kernel_rfl
  exact Nat.le_of_ble_eq_true h
def insT : FnF C24 := fun args os => match args, os with
  | [.h 0, .raw (.int .i64 i), .h 1], [.sl true f 3 ts, .sl true f2 3 us] => .br (decide (0 ≤ i ∧ i ≤ (ts.length : Int) ∧ ts.length ≤ 100000) && decide (us.length = 1)) (.leaf (.h 0, [.sl true false 3 (insL ts i.toNat us)])) .fail
  | [.raw (.slice none 0 0), .raw (.int .i64 i), .h 0], [.sl true f2 3 us] => .br (decide (i = 0) && decide (us.length = 1)) (.leaf (.h 0, [.sl true false 3 us])) .fail
  | _, _ => .fail
theorem insT_ok : ∀ args os r, (insT args os).get = some r → FnOwn Try.prog 61 args os r := fun args os r h => by
  unfold insT at h
  split at h
  · rename_i i f ts f2 us
    obtain ⟨hb, h2⟩ := Tr.get_ask.1 h
    simp only [Tr.get, Option.some.injEq] at h2
    subst h2
    change List (Int) at ts us
    simp only [Bool.and_eq_true, decide_eq_true_eq] at hb
    obtain ⟨⟨h0, h1, h2⟩, hu⟩ := hb
    have h1 : i ≤ ((ts : List (Int)).length : Int) := h1
    have h2 : (ts : List (Int)).length ≤ 100000 := h2
    have hu : (us : List (Int)).length = 1 := hu
    have hby := ins_bytes
    obtain ⟨I, rfl⟩ := Int.eq_ofNat_of_zero_le h0
    by_cases he : I = ts.length
    · subst he
      refine fnO_ok (d := 10) (unr := fun _ _ => 5) plain mixed noSp_ok noLs_ok ?_
      refine (Tr.follow_get (ins_end f f2 ts us (ts.length : Int)) ?_).trans (congrArg (fun l : List (Int) => some ((SV.h 0, [SO.sl true false 3 l]) : SV × List (SO C24))) (show ts ++ us = insL ts ((ts.length : Int)).toNat us by simp [insL]))
      generalize Try.prog.types[(3 : Nat)].bytes = by_ at *
      have hroom : (ts.length + us.length) * by_ ≤ 140737488355328 := Nat.le_trans (Nat.mul_le_mul (show ts.length + us.length ≤ 100001 by omega) hby) (by decide)
      simp only [List.cons.injEq, and_true]
      and_intros <;> first
        | exact decide_eq_true hroom
        | (simp [hu, bOk, roomV, atV, shutB, roomB, inR64, intO, overL]; done)
        | (simp [hu, bOk, roomV, atV, shutB, roomB, inR64, intO, overL]; omega)
    · have hlt : I < ts.length := by omega
      refine fnI_ok (d := 10) (unr := fun _ _ => 5) plain mixed noSp_ok noLs_ok fun tc t1 t2 => ?_
      change List (Int) at tc
      obtain ⟨rest, rfl⟩ : ∃ rest, tc = ts ++ rest := ⟨_, take_append_take t1 rfl⟩
      obtain ⟨a, b, rfl, ha⟩ : ∃ a b, ts = a ++ b ∧ a.length = I := ⟨ts.take I, ts.drop I, (List.take_append_drop I ts).symm, by rw [List.length_take]; omega⟩
      subst ha
      obtain ⟨x, rfl⟩ : ∃ x, us = [x] := by
        match us, hu with
        | [x], _ => exact ⟨x, rfl⟩
      have hi : insL (a ++ b) ((a.length : Int)).toNat [x] = a ++ ([x] ++ b) := by simp [insL]
      simp only [List.length_append] at h1 h2 hlt
      have hbl : 0 < b.length := by omega
      by_cases hroom : rest.length = 0
      · have hr : rest = [] := List.length_eq_zero_iff.1 hroom
        subst hr
        refine (Tr.follow_get (ins_grow f f2 (a ++ b) [x] (a ++ b ++ []) (a.length : Int)) ?_).trans (congrArg (fun l : List (Int) => some ((SV.h 0, [SO.sl true false 3 l]) : SV × List (SO C24))) (Eq.trans ?_ hi.symm))
        · generalize Try.prog.types[(3 : Nat)].bytes = by_ at *
          have hm : ((a.length : Int) + (b.length : Int) + 1 - (a.length : Int)) * (by_ : Int) ≤ 281474976710656 := by
            have h3 : (b.length + 1) * by_ ≤ 281474976710656 := Nat.le_trans (Nat.mul_le_mul (show b.length + 1 ≤ 100001 by omega) hby) (by decide)
            rw [show (a.length : Int) + (b.length : Int) + 1 - (a.length : Int) = ((b.length + 1 : Nat) : Int) by omega, ← Int.natCast_mul]
            omega
          simp only [List.cons.injEq, and_true]
          and_intros <;> first
            | (simp [bOk, roomV, atV, shutB, inR64, intO, overL]; done)
            | (simp [bOk, roomV, atV, shutB, inR64, intO, overL]; omega)
            | (refine decide_eq_true (Nat.le_trans (Nat.mul_le_mul (show _ ≤ 100001 from ?_) hby) (by decide)); simp [intO]; omega)
        · exact ins_grow_list a b x _ rfl hbl (by first | (simp [intO, overL]; done) | (simp [intO, overL]; omega)) (by first | (simp [intO, overL]; done) | (simp [intO, overL]; omega)) (by first | (simp [intO, overL]; done) | (simp [intO, overL]; omega)) (by first | (simp [intO, overL]; done) | (simp [intO, overL]; omega)) (by first | (simp [intO, overL]; done) | (simp [intO, overL]; omega)) (by first | (simp [intO, overL]; done) | (simp [intO, overL]; omega)) (by first | (simp [intO, overL]; done) | (simp [intO, overL]; omega)) (by first | (simp [intO, overL]; done) | (simp [intO, overL]; omega))
      · refine (Tr.follow_get (ins_shift f f2 (a ++ b) [x] (a ++ b ++ rest) (a.length : Int)) ?_).trans (congrArg (fun l : List (Int) => some ((SV.h 0, [SO.sl true false 3 l]) : SV × List (SO C24))) (Eq.trans ?_ hi.symm))
        · simp only [List.cons.injEq, and_true]
          and_intros <;> first
            | (simp [bOk, roomV, atV, shutB, inR64, intO, overL]; done)
            | (simp [bOk, roomV, atV, shutB, inR64, intO, overL]; omega)
            | (refine decide_eq_true (Nat.le_trans (Nat.mul_le_mul (show _ ≤ 100001 from ?_) hby) (by decide)); simp [intO]; omega)
        · exact ins_shift_list a b rest x hbl (by first | (simp [intO, overL]; done) | (simp [intO, overL]; omega)) (by first | (simp [intO, overL]; done) | (simp [intO, overL]; omega)) (by first | (simp [intO, overL]; done) | (simp [intO, overL]; omega)) (by first | (simp [intO, overL]; done) | (simp [intO, overL]; omega)) (by first | (simp [intO, overL]; done) | (simp [intO, overL]; omega)) (by first | (simp [intO, overL]; done) | (simp [intO, overL]; omega)) (by first | (simp [intO, overL]; done) | (simp [intO, overL]; omega))
  · rename_i i f2 us
    obtain ⟨hb, h2⟩ := Tr.get_ask.1 h
    simp only [Tr.get, Option.some.injEq] at h2
    subst h2
    change List (Int) at us
    simp only [Bool.and_eq_true, decide_eq_true_eq] at hb
    obtain ⟨rfl, hu⟩ := hb
    have hu : (us : List (Int)).length = 1 := hu
    have hby := ins_bytes
    refine fnO_ok (d := 10) (unr := fun _ _ => 5) plain mixed noSp_ok noLs_ok ?_
    refine Tr.follow_get (ins_nil f2 us 0) ?_
    generalize Try.prog.types[(3 : Nat)].bytes = by_ at *
    simp only [List.cons.injEq, and_true]
    and_intros <;> first
      | (simp [hu, bOk, intO]; done)
      | (refine decide_eq_true (Nat.le_trans (Nat.mul_le_mul (show _ ≤ 100001 from ?_) hby) (by decide)); omega)
  · cases h
def delT : FnF C24 := fun args os => match args, os with
  | [.h 0, .raw (.int .i64 i), .raw (.int .i64 j)], [.sl true f 3 ts] => .br (decide (0 ≤ i ∧ i < j ∧ j ≤ (ts.length : Int) ∧ ts.length ≤ 100000)) (.leaf (.h 0, [.sl true false 3 (delL ts i.toNat j.toNat)])) .fail
  | _, _ => .fail
theorem delT_ok : ∀ args os r, (delT args os).get = some r → FnOwn Try.prog 62 args os r := fun args os r h => by
  unfold delT at h
  split at h
  · rename_i i j f ts
    obtain ⟨hb, h2⟩ := Tr.get_ask.1 h
    simp only [Tr.get, Option.some.injEq] at h2
    subst h2
    change List (Int) at ts
    obtain ⟨h0, h1, h2, h3⟩ := of_decide_eq_true hb
    have h2 : j ≤ ((ts : List (Int)).length : Int) := h2
    have h3 : (ts : List (Int)).length ≤ 100000 := h3
    refine fnO_ok (d := 10) (unr := fun _ _ => 5) plain mixed noSp_ok noLs_ok ?_
    refine (Tr.follow_get (del_p f ts i j) ?_).trans (congrArg (fun l : List (Int) => some ((SV.h 0, [SO.sl true false 3 l]) : SV × List (SO C24))) (del_list ts _ (by omega) (by omega) (by first | (simp [intO, overL]; done) | (simp [intO, overL]; omega)) (by first | (simp [intO, overL]; done) | (simp [intO, overL]; omega)) (by first | (simp [intO, overL]; done) | (simp [intO, overL]; omega)) (by first | (simp [intO, overL]; done) | (simp [intO, overL]; omega)) (by first | (simp [intO, overL]; done) | (simp [intO, overL]; omega))))
    simp only [List.cons.injEq, and_true]
    and_intros <;> first
      | (simp [bOk, roomV, atV, shutB, inR64, intO, overL]; done)
      | (simp [bOk, roomV, atV, shutB, inR64, intO, overL]; omega)
      | (simp [bOk, roomV, atV, shutB, inR64, intO, overL, h0, h2]; omega)
  · cases h
end
end Go.Proofs.Ytgepgnjjhgmfnaa
namespace Go.Proofs.Ytgepgnjjhgmfnaa
open Go Go.Sx Go.RowKit
set_option maxRecDepth 1000000
set_option maxHeartbeats 8000000
set_option linter.unusedVariables false
noncomputable section
def spX : SpecT C24 := addS 61 (ownS insT) (addS 62 (ownS delT) noSp)
theorem spX_ok : SpecTOk Try.prog spX := addS_ok (ownS_ok insT_ok) (addS_ok (ownS_ok delT_ok) noSp_ok)
theorem lives_run : (fnC C24 Try.prog spX noLs (fun _ _ => 34) 20 9 [] []).get = some (.raw (.bool true), []) := by kernel_rfl
theorem lives_ok : Fn0 (C := C24) Try.prog 9 [] [] (.raw (.bool true), []) := fnC_ok plain mixed spX_ok noLs_ok lives_run
end
end Go.Proofs.Ytgepgnjjhgmfnaa
namespace Go.Proofs.Ytgepgnjjhgmfnaa
open Go Go.Sx Go.RowKit
set_option maxRecDepth 1000000
set_option maxHeartbeats 8000000
set_option linter.unusedVariables false
set_option linter.unusedSimpArgs false
noncomputable section
abbrev Mac := Int × Int × Int × Int × Int × Int
abbrev mac0 : Mac := (0, 0, 0, 0, 0, 0)
/-- Elements at a place. -/
abbrev elI (ts : List Int) (k : Int) : Int := ts.getD k.toNat 0
abbrev elA (ts : List Mac) (k : Int) : Mac := ts.getD k.toNat mac0
abbrev nlS : SV := .raw (.slice none 0 0)
abbrev macL (m : Mac) : List SV := [.raw (.int .u8 m.1), .raw (.int .u8 m.2.1), .raw (.int .u8 m.2.2.1), .raw (.int .u8 m.2.2.2.1), .raw (.int .u8 m.2.2.2.2.1), .raw (.int .u8 m.2.2.2.2.2)]
/-- A list that may be nil. -/
abbrev Lo (α : Type) := Option (Bool × Bool × List α)
@[reducible] def hS {α : Type} (o : Lo α) (k : Nat) : SV := match o with
  | none => .raw (.slice none 0 0)
  | some _ => .h k
@[reducible] def nx {α : Type} (o : Lo α) (k : Nat) : Nat := match o with
  | none => k
  | some _ => k + 1
@[reducible] def lo {α : Type} (o : Lo α) : List α := match o with
  | none => []
  | some x => x.2.2
@[reducible] def obM (o : Lo Mac) : List (SO C24) := match o with
  | none => []
  | some x => [.sl x.1 x.2.1 22 x.2.2]
@[reducible] def obI (o : Lo Int) : List (SO C24) := match o with
  | none => []
  | some x => [.sl x.1 x.2.1 3 x.2.2]
@[reducible] def obB (o : Lo Int) : List (SO C24) := match o with
  | none => []
  | some x => [.sl x.1 x.2.1 5 x.2.2]
/-- Views. -/
@[reducible] def vw {α : Type} (o : Lo α) : Lo α := match o with
  | none => none
  | some x => some (false, x.2.1, x.2.2)
def decM (s : SV) (k : Nat) (os : List (SO C24)) : Option (Lo Mac × List (SO C24)) := match s with
  | .raw (.slice none 0 0) => some (none, os)
  | .h i => match Nat.beq i k with
    | true => match os with
      | .sl a b 22 ts :: r => some (some (a, b, ts), r)
      | _ => none
    | false => none
  | _ => none
def decI (s : SV) (k : Nat) (os : List (SO C24)) : Option (Lo Int × List (SO C24)) := match s with
  | .raw (.slice none 0 0) => some (none, os)
  | .h i => match Nat.beq i k with
    | true => match os with
      | .sl a b 3 ts :: r => some (some (a, b, ts), r)
      | _ => none
    | false => none
  | _ => none
def decB (s : SV) (k : Nat) (os : List (SO C24)) : Option (Lo Int × List (SO C24)) := match s with
  | .raw (.slice none 0 0) => some (none, os)
  | .h i => match Nat.beq i k with
    | true => match os with
      | .sl a b 5 ts :: r => some (some (a, b, ts), r)
      | _ => none
    | false => none
  | _ => none
theorem decM_eq {s : SV} {k : Nat} {os r : List (SO C24)} {o : Lo Mac} (h : decM s k os = some (o, r)) : s = hS o k ∧ os = obM o ++ r := by
  unfold decM at h
  split at h
  · cases h; exact ⟨rfl, rfl⟩
  · split at h
    · rename_i i hi
      split at h
      · cases h
        have := Nat.eq_of_beq_eq_true hi
        subst this
        exact ⟨rfl, rfl⟩
      · cases h
    · cases h
  · cases h
theorem decI_eq {s : SV} {k : Nat} {os r : List (SO C24)} {o : Lo Int} (h : decI s k os = some (o, r)) : s = hS o k ∧ os = obI o ++ r := by
  unfold decI at h
  split at h
  · cases h; exact ⟨rfl, rfl⟩
  · split at h
    · rename_i i hi
      split at h
      · cases h
        have := Nat.eq_of_beq_eq_true hi
        subst this
        exact ⟨rfl, rfl⟩
      · cases h
    · cases h
  · cases h
theorem decB_eq {s : SV} {k : Nat} {os r : List (SO C24)} {o : Lo Int} (h : decB s k os = some (o, r)) : s = hS o k ∧ os = obB o ++ r := by
  unfold decB at h
  split at h
  · cases h; exact ⟨rfl, rfl⟩
  · split at h
    · rename_i i hi
      split at h
      · cases h
        have := Nat.eq_of_beq_eq_true hi
        subst this
        exact ⟨rfl, rfl⟩
      · cases h
    · cases h
  · cases h
def u8D : SV → Option Int
  | .raw (.int .u8 x) => some x
  | _ => none
def i64D : SV → Option Int
  | .raw (.int .i64 x) => some x
  | _ => none
def u16D : SV → Option Int
  | .raw (.int .u16 x) => some x
  | _ => none
def blD : SV → Option Bool
  | .raw (.bool x) => some x
  | _ => none
theorem u8D_eq {s : SV} {x : Int} (h : u8D s = some x) : s = .raw (.int .u8 x) := by
  unfold u8D at h; split at h <;> cases h; rfl
theorem i64D_eq {s : SV} {x : Int} (h : i64D s = some x) : s = .raw (.int .i64 x) := by
  unfold i64D at h; split at h <;> cases h; rfl
theorem u16D_eq {s : SV} {x : Int} (h : u16D s = some x) : s = .raw (.int .u16 x) := by
  unfold u16D at h; split at h <;> cases h; rfl
theorem blD_eq {s : SV} {x : Bool} (h : blD s = some x) : s = .raw (.bool x) := by
  unfold blD at h; split at h <;> cases h; rfl
def macD (a0 a1 a2 a3 a4 a5 : SV) : Option Mac := (u8D a0).bind fun x0 => (u8D a1).bind fun x1 => (u8D a2).bind fun x2 => (u8D a3).bind fun x3 => (u8D a4).bind fun x4 => (u8D a5).bind fun x5 => some (x0, x1, x2, x3, x4, x5)
theorem macD_eq {a0 a1 a2 a3 a4 a5 : SV} {m : Mac} (h : macD a0 a1 a2 a3 a4 a5 = some m) : [a0, a1, a2, a3, a4, a5] = macL m := by
  unfold macD at h
  simp only [Option.bind_eq_some_iff] at h
  obtain ⟨x0, h0, x1, h1, x2, h2, x3, h3, x4, h4, x5, h5, h6⟩ := h
  cases h6
  rw [u8D_eq h0, u8D_eq h1, u8D_eq h2, u8D_eq h3, u8D_eq h4, u8D_eq h5]
/-- A filter. -/
abbrev Fv := Mac × Bool × Bool × Lo Mac × Lo Mac × Lo Int
abbrev fltL (m : Mac) (p q : Bool) (o g v : SV) : List SV := [.raw (.int .u8 m.1), .raw (.int .u8 m.2.1), .raw (.int .u8 m.2.2.1), .raw (.int .u8 m.2.2.2.1), .raw (.int .u8 m.2.2.2.2.1), .raw (.int .u8 m.2.2.2.2.2), .raw (.bool p), .raw (.bool q), o, g, v]
def fltD (cs : List SV) : Option (Mac × Bool × Bool × SV × SV × SV) := match cs with
  | [a0, a1, a2, a3, a4, a5, b0, b1, o, g, v] => (macD a0 a1 a2 a3 a4 a5).bind fun m => (blD b0).bind fun p => (blD b1).bind fun q => some (m, p, q, o, g, v)
  | _ => none
theorem fltD_eq {cs : List SV} {m : Mac} {p q : Bool} {o g v : SV} (h : fltD cs = some (m, p, q, o, g, v)) : cs = fltL m p q o g v := by
  unfold fltD at h
  split at h
  · simp only [Option.bind_eq_some_iff] at h
    obtain ⟨m', h0, p', h1, q', h2, h3⟩ := h
    cases h3
    have := macD_eq h0
    simp only [macL, List.cons.injEq, and_true] at this
    obtain ⟨rfl, rfl, rfl, rfl, rfl, rfl⟩ := this
    rw [blD_eq h1, blD_eq h2]
  · cases h
/-- A filter among arguments, its lists numbered from k on. -/
@[reducible] def fltC (F : Fv) (k : Nat) : List SV := fltL F.1 F.2.1 F.2.2.1 (hS F.2.2.2.1 k) (hS F.2.2.2.2.1 (nx F.2.2.2.1 k)) (hS F.2.2.2.2.2 (nx F.2.2.2.2.1 (nx F.2.2.2.1 k)))
@[reducible] def fltO (F : Fv) : List (SO C24) := obM F.2.2.2.1 ++ (obM F.2.2.2.2.1 ++ obI F.2.2.2.2.2)
@[reducible] def fltN (F : Fv) (k : Nat) : Nat := nx F.2.2.2.2.2 (nx F.2.2.2.2.1 (nx F.2.2.2.1 k))
def decF (cs : List SV) (k : Nat) (os : List (SO C24)) : Option (Fv × List (SO C24)) := match fltD cs with
  | some ((x0, x1, x2, x3, x4, x5), p, q, so, sg, sv) => match decM so k os with
    | some (o, os1) => match decM sg (nx o k) os1 with
      | some (g, os2) => match decI sv (nx g (nx o k)) os2 with
        | some (v, os3) => some (((x0, x1, x2, x3, x4, x5), p, q, o, g, v), os3)
        | none => none
      | none => none
    | none => none
  | none => none
theorem decF_eq {cs : List SV} {k : Nat} {os r : List (SO C24)} {F : Fv} (h : decF cs k os = some (F, r)) : cs = fltC F k ∧ os = fltO F ++ r := by
  unfold decF at h
  split at h
  · rename_i h0
    split at h
    · rename_i h1
      split at h
      · rename_i h2
        split at h
        · rename_i h3
          cases h
          obtain ⟨rfl, rfl⟩ := decM_eq h1
          obtain ⟨rfl, rfl⟩ := decM_eq h2
          obtain ⟨rfl, rfl⟩ := decI_eq h3
          exact ⟨fltD_eq h0, by simp [fltO]⟩
        · cases h
      · cases h
    · cases h
  · cases h
/-- A frame. -/
abbrev Rv := Mac × Mac × Int × Int × Lo Int
@[reducible] def frmC (x : Rv) (k : Nat) : List SV := [.raw (.int .u8 x.1.1), .raw (.int .u8 x.1.2.1), .raw (.int .u8 x.1.2.2.1), .raw (.int .u8 x.1.2.2.2.1), .raw (.int .u8 x.1.2.2.2.2.1), .raw (.int .u8 x.1.2.2.2.2.2), .raw (.int .u8 x.2.1.1), .raw (.int .u8 x.2.1.2.1), .raw (.int .u8 x.2.1.2.2.1), .raw (.int .u8 x.2.1.2.2.2.1), .raw (.int .u8 x.2.1.2.2.2.2.1), .raw (.int .u8 x.2.1.2.2.2.2.2), .raw (.int .i64 x.2.2.1), .raw (.int .u16 x.2.2.2.1), hS x.2.2.2.2 k]
def decR (cs : List SV) (k : Nat) (os : List (SO C24)) : Option (Rv × List (SO C24)) := match cs with
  | [a0, a1, a2, a3, a4, a5, c0, c1, c2, c3, c4, c5, vl, ty, d] => match macD a0 a1 a2 a3 a4 a5 with
    | some (x0, x1, x2, x3, x4, x5) => match macD c0 c1 c2 c3 c4 c5 with
      | some (y0, y1, y2, y3, y4, y5) => match i64D vl with
        | some v => match u16D ty with
          | some t => match decB d k os with
            | some (w, r) => some (((x0, x1, x2, x3, x4, x5), (y0, y1, y2, y3, y4, y5), v, t, w), r)
            | none => none
          | none => none
        | none => none
      | none => none
    | none => none
  | _ => none
theorem decR_eq {cs : List SV} {k : Nat} {os r : List (SO C24)} {x : Rv} (h : decR cs k os = some (x, r)) : cs = frmC x k ∧ os = obB x.2.2.2.2 ++ r := by
  unfold decR at h
  split at h
  · split at h
    · rename_i h0
      split at h
      · rename_i h1
        split at h
        · rename_i h2
          split at h
          · rename_i h3
            split at h
            · rename_i h4
              cases h
              obtain ⟨rfl, rfl⟩ := decB_eq h4
              have e0 := macD_eq h0
              have e1 := macD_eq h1
              simp only [macL, List.cons.injEq, and_true] at e0 e1
              obtain ⟨rfl, rfl, rfl, rfl, rfl, rfl⟩ := e0
              obtain ⟨rfl, rfl, rfl, rfl, rfl, rfl⟩ := e1
              rw [i64D_eq h2, u16D_eq h3]
              exact ⟨rfl, rfl⟩
            · cases h
          · cases h
        · cases h
      · cases h
    · cases h
  · cases h
theorem keeps_same {nb : Nat} {os : List (SO C24)} (h : nb = os.length) : Keeps nb os os := by
  subst h
  exact Keeps.of (Nat.le_refl _) rfl (fun o ho => by rw [List.drop_length] at ho; cases ho)
abbrev cSlots : List Nat := [1, 16, 17, 18, 2]
@[reducible] def cSt (m : Mac) (p q : Bool) (o g : Lo Mac) (v : Lo Int) (K R : Int) : List SV × List (SO C24) := ([.h 0, hS v 1, .raw (.int .i64 ((lo v).length : Int)), .raw (.int .i64 K), .raw (.int .i64 R)], .box (fltL m p q (hS o (nx v 1)) (hS g (nx o (nx v 1))) (hS v 1)) 26 :: (obI v ++ (obM o ++ obM g)))
abbrev cNb (o g : Lo Mac) (v : Lo Int) : Nat := nx g (nx o (nx v 1))
abbrev cRound (m : Mac) (p q : Bool) (o g : Lo Mac) (v : Lo Int) (K : Int) := roundG C24 Try.prog noSp noLs (fun _ _ => 20) 10 11 0 cSlots ⟨(cSt m p q o g v K 0).1, cNb o g v, (cSt m p q o g v K 0).2⟩
@[reducible] def iSt (v : Lo Int) (x K R : Int) : List SV × List (SO C24) := ([hS v 0, .raw (.int .i64 x), .raw (.int .i64 ((lo v).length : Int)), .raw (.int .i64 K), .raw (.int .i64 R)], obI v)
abbrev iRound (v : Lo Int) (x K : Int) := roundG C24 Try.prog noSp noLs (fun _ _ => 20) 10 63 0 [0, 1, 7, 8, 4] ⟨(iSt v x K 0).1, nx v 0, (iSt v x K 0).2⟩
@[reducible] def aSt (v : Lo Mac) (x : Mac) (K R : Int) : List SV × List (SO C24) := ([hS v 0, .h (nx v 0), .raw (.int .i64 ((lo v).length : Int)), .raw (.int .i64 K), .raw (.int .i64 R)], obM v ++ [.box (macL x) 22])
abbrev aRound (v : Lo Mac) (x : Mac) (K : Int) := roundG C24 Try.prog noSp noLs (fun _ _ => 20) 10 64 0 [0, 3, 7, 8, 4] ⟨(aSt v x K 0).1, nx v 0 + 1, (aSt v x K 0).2⟩
end
end Go.Proofs.Ytgepgnjjhgmfnaa
namespace Go.Proofs.Ytgepgnjjhgmfnaa
open Go Go.Sx Go.RowKit
set_option maxRecDepth 1000000
set_option maxHeartbeats 8000000
set_option linter.unusedVariables false
set_option linter.unusedSimpArgs false
noncomputable section
theorem c_end (m : Mac) (p q : Bool) (o g : Lo Mac) (a b : Bool) (ts : List Int) (K : Int) : Tr.follow [Ff] (cRound m p q o g (some (a, b, ts)) K) =
  some ([decide (K < (↑(ts).length : Int))],
  (.exit 0, cSt m p q o g (some (a, b, ts)) K 0)) := by cases o <;> cases g <;> kernel_rfl
theorem c_neg (m : Mac) (p q : Bool) (o g : Lo Mac) (a b : Bool) (ts : List Int) (K : Int) : Tr.follow [Tt,Tt,Tt,Tt,Tt,Tt,Tt,Tt,Tt,Tt,Tt,Tt] (cRound m p q o g (some (a, b, ts)) K) =
  some ([decide (K < (↑(ts).length : Int)),inB K ts.length,decide (K.toNat < ts.length),decide (elI ts K < 0),Tt,Tt,Tt,Tt,Tt,Tt,Tt,Tt],
  (.ret, cSt m p q o g (some (a, b, ts)) K 2)) := by cases o <;> cases g <;> kernel_rfl
theorem c_big (m : Mac) (p q : Bool) (o g : Lo Mac) (a b : Bool) (ts : List Int) (K : Int) : Tr.follow [Tt,Tt,Tt,Ff,Ff,Tt,Tt,Tt,Tt,Tt,Tt] (cRound m p q o g (some (a, b, ts)) K) =
  some ([decide (K < (↑(ts).length : Int)),inB K ts.length,decide (K.toNat < ts.length),decide (elI ts K < 0),Ff,decide ((4095 : Int) < elI ts K),Tt,Tt,Tt,Tt,Tt],
  (.ret, cSt m p q o g (some (a, b, ts)) K 2)) := by cases o <;> cases g <;> kernel_rfl
theorem c_fst (m : Mac) (p q : Bool) (o g : Lo Mac) (a b : Bool) (ts : List Int) (K : Int) : Tr.follow [Tt,Tt,Tt,Ff,Ff,Ff,Ff,Ff,Ff,Ff,Ff,Ff,Ff,Ff,Ff,Ff,Ff,Ff,Ff,Tt] (cRound m p q o g (some (a, b, ts)) K) =
  some ([decide (K < (↑(ts).length : Int)),inB K ts.length,decide (K.toNat < ts.length),decide (elI ts K < 0),Ff,decide ((4095 : Int) < elI ts K),Ff,Ff,decide ((0 : Int) < K),Ff,Ff,Ff,Ff,Ff,Ff,Ff,Ff,Ff,Ff,inR64 (K + (1 : Int))],
  (.normal, cSt m p q o g (some (a, b, ts)) (K + 1) 0)) := by cases o <;> cases g <;> kernel_rfl
theorem c_ok (m : Mac) (p q : Bool) (o g : Lo Mac) (a b : Bool) (ts : List Int) (K : Int) : Tr.follow [Tt,Tt,Tt,Ff,Ff,Ff,Ff,Ff,Tt,Tt,Tt,Tt,Tt,Tt,Tt,Tt,Tt,Tt,Tt,Ff,Ff,Tt] (cRound m p q o g (some (a, b, ts)) K) =
  some ([decide (K < (↑(ts).length : Int)),inB K ts.length,decide (K.toNat < ts.length),decide (elI ts K < 0),Ff,decide ((4095 : Int) < elI ts K),Ff,Ff,decide ((0 : Int) < K),Tt,Tt,Tt,inR64 (K - (1 : Int)),Tt,inB (K - (1 : Int)) ts.length,Tt,decide ((K - (1 : Int)).toNat < ts.length),Tt,Tt,Ff,decide (elI ts K ≤ elI ts (K - 1)),inR64 (K + (1 : Int))],
  (.normal, cSt m p q o g (some (a, b, ts)) (K + 1) 0)) := by cases o <;> cases g <;> kernel_rfl
theorem c_dec (m : Mac) (p q : Bool) (o g : Lo Mac) (a b : Bool) (ts : List Int) (K : Int) : Tr.follow [Tt,Tt,Tt,Ff,Ff,Ff,Ff,Ff,Tt,Tt,Tt,Tt,Tt,Tt,Tt,Tt,Tt,Tt,Tt,Ff,Tt] (cRound m p q o g (some (a, b, ts)) K) =
  some ([decide (K < (↑(ts).length : Int)),inB K ts.length,decide (K.toNat < ts.length),decide (elI ts K < 0),Ff,decide ((4095 : Int) < elI ts K),Ff,Ff,decide ((0 : Int) < K),Tt,Tt,Tt,inR64 (K - (1 : Int)),Tt,inB (K - (1 : Int)) ts.length,Tt,decide ((K - (1 : Int)).toNat < ts.length),Tt,Tt,Ff,decide (elI ts K ≤ elI ts (K - 1))],
  (.ret, cSt m p q o g (some (a, b, ts)) K 2)) := by cases o <;> cases g <;> kernel_rfl
theorem i_end (a b : Bool) (ts : List Int) (x K : Int) : Tr.follow [Ff] (iRound (some (a, b, ts)) x K) =
  some ([decide (K < (↑(ts).length : Int))],
  (.exit 0, iSt (some (a, b, ts)) x K 0)) := by kernel_rfl
theorem i_hit (a b : Bool) (ts : List Int) (x K : Int) : Tr.follow [Tt,Tt,Tt,Tt] (iRound (some (a, b, ts)) x K) =
  some ([decide (K < (↑(ts).length : Int)),inB K ts.length,decide (K.toNat < ts.length),x == elI ts K],
  (.ret, iSt (some (a, b, ts)) x K K)) := by kernel_rfl
theorem i_nxt (a b : Bool) (ts : List Int) (x K : Int) : Tr.follow [Tt,Tt,Tt,Ff,Tt] (iRound (some (a, b, ts)) x K) =
  some ([decide (K < (↑(ts).length : Int)),inB K ts.length,decide (K.toNat < ts.length),x == elI ts K,inR64 (K + (1 : Int))],
  (.normal, iSt (some (a, b, ts)) x (K + 1) 0)) := by kernel_rfl
theorem a_end (a b : Bool) (ts : List Mac) (x : Mac) (K : Int) : Tr.follow [Ff] (aRound (some (a, b, ts)) x K) =
  some ([decide (K < (↑(ts).length : Int))],
  (.exit 0, aSt (some (a, b, ts)) x K 0)) := by kernel_rfl
theorem a_hit (a b : Bool) (ts : List Mac) (x : Mac) (K : Int) : Tr.follow [Tt,Tt,Tt,Tt] (aRound (some (a, b, ts)) x K) =
  some ([decide (K < (↑(ts).length : Int)),inB K ts.length,decide (K.toNat < ts.length),x.fst == (elA ts K).fst && (x.snd.fst == (elA ts K).snd.fst && (x.snd.snd.fst == (elA ts K).snd.snd.fst && (x.snd.snd.snd.fst == (elA ts K).snd.snd.snd.fst && (x.snd.snd.snd.snd.fst == (elA ts K).snd.snd.snd.snd.fst && (x.snd.snd.snd.snd.snd == (elA ts K).snd.snd.snd.snd.snd && true)))))],
  (.ret, aSt (some (a, b, ts)) x K K)) := by kernel_rfl
theorem a_nxt (a b : Bool) (ts : List Mac) (x : Mac) (K : Int) : Tr.follow [Tt,Tt,Tt,Ff,Tt] (aRound (some (a, b, ts)) x K) =
  some ([decide (K < (↑(ts).length : Int)),inB K ts.length,decide (K.toNat < ts.length),x.fst == (elA ts K).fst && (x.snd.fst == (elA ts K).snd.fst && (x.snd.snd.fst == (elA ts K).snd.snd.fst && (x.snd.snd.snd.fst == (elA ts K).snd.snd.snd.fst && (x.snd.snd.snd.snd.fst == (elA ts K).snd.snd.snd.snd.fst && (x.snd.snd.snd.snd.snd == (elA ts K).snd.snd.snd.snd.snd && true))))),inR64 (K + (1 : Int))],
  (.normal, aSt (some (a, b, ts)) x (K + 1) 0)) := by kernel_rfl
/-- A number that is amiss. -/
def badV (ts : List Int) (k : Nat) : Bool := decide (elI ts (k : Int) < 0) || (decide ((4095 : Int) < elI ts (k : Int)) || (decide (0 < (k : Int)) && decide (elI ts (k : Int) ≤ elI ts ((k : Int) - 1))))
theorem c_round {m : Mac} {p q : Bool} {o g : Lo Mac} {a b : Bool} {ts : List Int} {k : Nat} (hk : k < ts.length) (hl : ts.length ≤ 100000) :
    (cRound m p q o g (some (a, b, ts)) (k : Int)).get = bro (badV ts k) (some (.ret, cSt m p q o g (some (a, b, ts)) (k : Int) 2)) (some (.normal, cSt m p q o g (some (a, b, ts)) ((k + 1 : Nat) : Int) 0)) := by
  have k1 := decide_eq_true (show (k : Int) < (ts.length : Int) by omega)
  have k2 : Sx.inB (k : Int) ts.length = true := inB_mk ⟨by omega, by omega⟩
  have k3 := decide_eq_true (show ((k : Nat) : Int).toNat < ts.length by omega)
  have k4 : inR64 ((k : Int) + 1) = true := inR64_mk (by omega)
  unfold badV
  by_cases h1 : elI ts (k : Int) < 0
  · rw [decide_eq_true h1]
    exact Tr.follow_get (c_neg m p q o g a b ts k) (by simp only [k1, k2, k3, decide_eq_true h1])
  have e1 := decide_eq_false h1
  rw [e1]
  by_cases h2 : (4095 : Int) < elI ts (k : Int)
  · rw [decide_eq_true h2]
    exact Tr.follow_get (c_big m p q o g a b ts k) (by simp only [k1, k2, k3, e1, decide_eq_true h2])
  have e2 := decide_eq_false h2
  rw [e2]
  by_cases h3 : 0 < (k : Int)
  · have e3 := decide_eq_true h3
    have k5 : inR64 ((k : Int) - 1) = true := inR64_mk (by omega)
    have k6 : Sx.inB ((k : Int) - 1) ts.length = true := inB_mk ⟨by omega, by omega⟩
    have k7 := decide_eq_true (show ((k : Int) - 1).toNat < ts.length by omega)
    rw [e3]
    by_cases h4 : elI ts (k : Int) ≤ elI ts ((k : Int) - 1)
    · rw [decide_eq_true h4]
      exact Tr.follow_get (c_dec m p q o g a b ts k) (by simp only [k1, k2, k3, k5, k6, k7, e1, e2, e3, decide_eq_true h4])
    · rw [decide_eq_false h4]
      exact Tr.follow_get (c_ok m p q o g a b ts k) (by simp only [k1, k2, k3, k4, k5, k6, k7, e1, e2, e3, decide_eq_false h4])
  · have e3 := decide_eq_false h3
    rw [e3]
    exact Tr.follow_get (c_fst m p q o g a b ts k) (by simp only [k1, k2, k3, k4, e1, e2, e3])
theorem c_endN (m : Mac) (p q : Bool) (o g : Lo Mac) (K : Int) (hK : decide (K < 0) = false) : (cRound m p q o g none K).get = some (.exit 0, cSt m p q o g none K 0) := by
  have h : Tr.follow [Ff] (cRound m p q o g none K) = some ([decide (K < 0)], (.exit 0, cSt m p q o g none K 0)) := by cases o <;> cases g <;> kernel_rfl
  exact Tr.follow_get h (by rw [hK])
def isHS {α : Type} (s : SV) (o : Lo α) (k : Nat) : Bool := match o, s with
  | none, .raw (.slice none 0 0) => true
  | some _, .h i => Nat.beq i k
  | _, _ => false
theorem isHS_eq {α : Type} {s : SV} {o : Lo α} {k : Nat} (h : isHS s o k = true) : s = hS o k := by
  unfold isHS at h
  split at h
  · rfl
  · rw [Nat.eq_of_beq_eq_true h]
  · cases h
/-- The list in a slot, and in a filter behind a pointer. -/
def cLoop : LoopFn C24 := fun li => match li with
  | ⟨[.h 0, s, .raw (.int .i64 n), .raw (.int .i64 (.ofNat 0)), .raw (.int .i64 (.ofNat 0))], nb, .box cs 26 :: os⟩ => match fltD cs with
    | some (m, p, q, so, sg, sv) => match decI s 1 os with
      | some (v, os1) => match decM so (nx v 1) os1 with
        | some (o, os2) => match decM sg (nx o (nx v 1)) os2 with
          | some (g, []) => match Nat.beq nb (cNb o g v), isHS sv v 1 with
            | true, true => .br (n == ((lo v).length : Int)) (.br (decide ((lo v).length ≤ 100000)) (.br (noneP (badV (lo v)) (lo v).length) (.leaf (.exit 0, cSt m p q o g v ((lo v).length : Int) 0)) (.leaf (.ret, cSt m p q o g v (fstP (badV (lo v)) (lo v).length : Int) 2))) .fail) .fail
            | _, _ => .fail
          | _ => .fail
        | none => .fail
      | none => .fail
    | none => .fail
  | _ => .fail
theorem c_loop : loopOf Try.prog 11 0 = some (((loopOf Try.prog 11 0).get!).1, (loopOf Try.prog 11 0).get!.2) := by kernel_rfl
theorem cSt_len (m : Mac) (p q : Bool) (o g : Lo Mac) (v : Lo Int) (K R : Int) : (cSt m p q o g v K R).2.length = cNb o g v := by
  cases o <;> cases g <;> cases v <;> rfl
theorem cLoop_ok : ∀ tm hp n x, (loopS [1, 16, 17, 18, 2] [] cLoop tm hp n).get = some x → InLoop Try.prog ((loopOf Try.prog 11 0).get!).1 (loopOf Try.prog 11 0).get!.2 tm hp n fun e tm hp n => (e, tm, hp, n) = x := loopS_of fun li r h => by
  unfold cLoop at h
  split at h
  · rename_i s n nb cs os
    split at h
    · rename_i m p q so sg sv hcs
      split at h
      · rename_i v os1 h1
        split at h
        · rename_i o os3 h3
          split at h
          · rename_i g h4
            split at h
            · rename_i hnb hsv
              obtain ⟨rfl, rfl⟩ := decI_eq h1
              obtain ⟨rfl, rfl⟩ := decM_eq h3
              obtain ⟨rfl, rfl⟩ := decM_eq h4
              have hnb := Nat.eq_of_beq_eq_true hnb
              subst hnb
              obtain rfl := fltD_eq hcs
              obtain rfl := isHS_eq hsv
              clear h1 h3 h4 hcs hsv
              obtain ⟨hn0, hB⟩ := Tr.get_ask.1 h
              obtain ⟨hl, hC⟩ := Tr.get_ask.1 hB
              clear h hB
              have hn0 := eq_of_beq hn0
              subst hn0
              have hl : (lo v).length ≤ 100000 := of_decide_eq_true hl
              have hr : r.2.2 = (cSt m p q o g v 0 0).2 := by
                rcases Tr.get_br.1 hC with ⟨_, hD⟩ | ⟨_, hD⟩ <;> (simp only [Tr.get, Option.some.injEq] at hD; subst hD; rfl)
              have e1 : Sx.LI.mk [SV.h 0, hS v 1, .raw (.int .i64 ((lo v).length : Int)), .raw (.int .i64 (.ofNat 0)), .raw (.int .i64 (.ofNat 0))] (cNb o g v) (.box (fltL m p q (hS o (nx v 1)) (hS g (nx o (nx v 1))) (hS v 1)) 26 :: (obI v ++ (obM o ++ (obM g ++ [])))) = ⟨(cSt m p q o g v 0 0).1, cNb o g v, (cSt m p q o g v 0 0).2⟩ := by
                rw [List.append_nil]; rfl
              rw [e1]
              refine ⟨by rw [hr]; exact keeps_same (cSt_len m p q o g v 0 0).symm, ?_⟩
              refine scan_li (n := (lo v).length) (stN := fun k => cSt m p q o g v (k : Int) 0) (stR := fun k => cSt m p q o g v (k : Int) 2) (p := badV (lo v)) (d := 10) (unr := fun _ _ => 20) (sp := noSp) (ls := noLs) (b := 0) plain mixed noSp_ok noLs_ok c_loop (fun k hk => ?_) ?_ hC
              · cases v with
                | none => exact absurd hk (Nat.not_lt_zero _)
                | some x => obtain ⟨a, b, ts⟩ := x; exact c_round hk hl
              · cases v with
                | none => exact c_endN m p q o g _ (by decide)
                | some x => obtain ⟨a, b, ts⟩ := x; exact Tr.follow_get (c_end m p q o g a b ts _) (by rw [decide_eq_false (Int.lt_irrefl _)])
            · cases h
          · cases h
        · cases h
      · cases h
    · cases h
  · cases h
def eqI (ts : List Int) (x : Int) (k : Nat) : Bool := x == elI ts (k : Int)
def eqM (x y : Mac) : Bool := x.1 == y.1 && (x.2.1 == y.2.1 && (x.2.2.1 == y.2.2.1 && (x.2.2.2.1 == y.2.2.2.1 && (x.2.2.2.2.1 == y.2.2.2.2.1 && (x.2.2.2.2.2 == y.2.2.2.2.2 && true)))))
def eqA (ts : List Mac) (x : Mac) (k : Nat) : Bool := eqM x (elA ts (k : Int))
theorem i_endN (x K : Int) (hK : decide (K < 0) = false) : (iRound none x K).get = some (.exit 0, iSt none x K 0) := by
  have h : Tr.follow [Ff] (iRound none x K) = some ([decide (K < 0)], (.exit 0, iSt none x K 0)) := by kernel_rfl
  exact Tr.follow_get h (by rw [hK])
theorem a_endN (x : Mac) (K : Int) (hK : decide (K < 0) = false) : (aRound none x K).get = some (.exit 0, aSt none x K 0) := by
  have h : Tr.follow [Ff] (aRound none x K) = some ([decide (K < 0)], (.exit 0, aSt none x K 0)) := by kernel_rfl
  exact Tr.follow_get h (by rw [hK])
theorem i_round {a b : Bool} {ts : List Int} {x : Int} {k : Nat} (hk : k < ts.length) (hl : ts.length ≤ 100000) :
    (iRound (some (a, b, ts)) x (k : Int)).get = bro (eqI ts x k) (some (.ret, iSt (some (a, b, ts)) x (k : Int) (k : Int))) (some (.normal, iSt (some (a, b, ts)) x ((k + 1 : Nat) : Int) 0)) := by
  have k1 := decide_eq_true (show (k : Int) < (ts.length : Int) by omega)
  have k2 : Sx.inB (k : Int) ts.length = true := inB_mk ⟨by omega, by omega⟩
  have k3 := decide_eq_true (show ((k : Nat) : Int).toNat < ts.length by omega)
  have k4 : inR64 ((k : Int) + 1) = true := inR64_mk (by omega)
  unfold eqI
  cases h : (x == elI ts (k : Int)) with
  | true => exact Tr.follow_get (i_hit a b ts x k) (by simp only [k1, k2, k3, h])
  | false => exact Tr.follow_get (i_nxt a b ts x k) (by simp only [k1, k2, k3, k4, h])
theorem a_round {a b : Bool} {ts : List Mac} {x : Mac} {k : Nat} (hk : k < ts.length) (hl : ts.length ≤ 100000) :
    (aRound (some (a, b, ts)) x (k : Int)).get = bro (eqA ts x k) (some (.ret, aSt (some (a, b, ts)) x (k : Int) (k : Int))) (some (.normal, aSt (some (a, b, ts)) x ((k + 1 : Nat) : Int) 0)) := by
  have k1 := decide_eq_true (show (k : Int) < (ts.length : Int) by omega)
  have k2 : Sx.inB (k : Int) ts.length = true := inB_mk ⟨by omega, by omega⟩
  have k3 := decide_eq_true (show ((k : Nat) : Int).toNat < ts.length by omega)
  have k4 : inR64 ((k : Int) + 1) = true := inR64_mk (by omega)
  unfold eqA eqM
  have h1 := a_hit a b ts x k
  have h2 := a_nxt a b ts x k
  generalize (x.1 == (elA ts (k : Int)).1 && (x.2.1 == (elA ts (k : Int)).2.1 && (x.2.2.1 == (elA ts (k : Int)).2.2.1 && (x.2.2.2.1 == (elA ts (k : Int)).2.2.2.1 && (x.2.2.2.2.1 == (elA ts (k : Int)).2.2.2.2.1 && (x.2.2.2.2.2 == (elA ts (k : Int)).2.2.2.2.2 && true)))))) = c at h1 h2 ⊢
  cases c with
  | true => exact Tr.follow_get h1 (by simp only [k1, k2, k3])
  | false => exact Tr.follow_get h2 (by simp only [k1, k2, k3, k4])
def iLoop : LoopFn C24 := fun li => match li with
  | ⟨[s, .raw (.int .i64 x), .raw (.int .i64 n), .raw (.int .i64 (.ofNat 0)), .raw (.int .i64 (.ofNat 0))], nb, os⟩ => match decI s 0 os with
    | some (v, []) => match Nat.beq nb (nx v 0) with
      | true => .br (n == ((lo v).length : Int)) (.br (decide ((lo v).length ≤ 100000)) (.br (noneP (eqI (lo v) x) (lo v).length) (.leaf (.exit 0, iSt v x ((lo v).length : Int) 0)) (.leaf (.ret, iSt v x (fstP (eqI (lo v) x) (lo v).length : Int) (fstP (eqI (lo v) x) (lo v).length : Int)))) .fail) .fail
      | false => .fail
    | _ => .fail
  | _ => .fail
theorem i_loop : loopOf Try.prog 63 0 = some (((loopOf Try.prog 63 0).get!).1, (loopOf Try.prog 63 0).get!.2) := by kernel_rfl
theorem iLoop_ok : ∀ tm hp n x, (loopS [0, 1, 7, 8, 4] [] iLoop tm hp n).get = some x → InLoop Try.prog ((loopOf Try.prog 63 0).get!).1 (loopOf Try.prog 63 0).get!.2 tm hp n fun e tm hp n => (e, tm, hp, n) = x := loopS_of fun li r h => by
  unfold iLoop at h
  split at h
  · rename_i s x n nb os
    split at h
    · rename_i v h1
      split at h
      · rename_i hnb
        obtain ⟨rfl, rfl⟩ := decI_eq h1
        have hnb := Nat.eq_of_beq_eq_true hnb
        subst hnb
        clear h1
        obtain ⟨hn0, hB⟩ := Tr.get_ask.1 h
        obtain ⟨hl, hC⟩ := Tr.get_ask.1 hB
        clear h hB
        have hn0 := eq_of_beq hn0
        subst hn0
        have hl : (lo v).length ≤ 100000 := of_decide_eq_true hl
        have hr : r.2.2 = (iSt v x 0 0).2 := by
          rcases Tr.get_br.1 hC with ⟨_, hD⟩ | ⟨_, hD⟩ <;> (simp only [Tr.get, Option.some.injEq] at hD; subst hD; rfl)
        have e1 : Sx.LI.mk [hS v 0, .raw (.int .i64 x), .raw (.int .i64 ((lo v).length : Int)), .raw (.int .i64 (.ofNat 0)), .raw (.int .i64 (.ofNat 0))] (nx v 0) (obI v ++ []) = ⟨(iSt v x 0 0).1, nx v 0, (iSt v x 0 0).2⟩ := by
          rw [List.append_nil]; rfl
        rw [e1]
        refine ⟨by rw [hr]; exact keeps_same (by cases v <;> rfl), ?_⟩
        refine scan_li (n := (lo v).length) (stN := fun k => iSt v x (k : Int) 0) (stR := fun k => iSt v x (k : Int) (k : Int)) (p := eqI (lo v) x) (d := 10) (unr := fun _ _ => 20) (sp := noSp) (ls := noLs) (b := 0) plain mixed noSp_ok noLs_ok i_loop (fun k hk => ?_) ?_ hC
        · cases v with
          | none => exact absurd hk (Nat.not_lt_zero _)
          | some y => obtain ⟨a, b, ts⟩ := y; exact i_round hk hl
        · cases v with
          | none => exact i_endN x _ (by decide)
          | some y => obtain ⟨a, b, ts⟩ := y; exact Tr.follow_get (i_end a b ts x _) (by rw [decide_eq_false (Int.lt_irrefl _)])
      · cases h
    · cases h
  · cases h
def mac1D (cs : List SV) : Option Mac := match cs with
  | [a0, a1, a2, a3, a4, a5] => macD a0 a1 a2 a3 a4 a5
  | _ => none
theorem mac1D_eq {cs : List SV} {m : Mac} (h : mac1D cs = some m) : cs = macL m := by
  unfold mac1D at h
  split at h
  · exact macD_eq h
  · cases h
def aLoop : LoopFn C24 := fun li => match li with
  | ⟨[s, .h j, .raw (.int .i64 n), .raw (.int .i64 (.ofNat 0)), .raw (.int .i64 (.ofNat 0))], nb, os⟩ => match decM s 0 os with
    | some (v, [.box cs 22]) => match mac1D cs with
      | some x => match Nat.beq nb (nx v 0 + 1), Nat.beq j (nx v 0) with
        | true, true => .br (n == ((lo v).length : Int)) (.br (decide ((lo v).length ≤ 100000)) (.br (noneP (eqA (lo v) x) (lo v).length) (.leaf (.exit 0, aSt v x ((lo v).length : Int) 0)) (.leaf (.ret, aSt v x (fstP (eqA (lo v) x) (lo v).length : Int) (fstP (eqA (lo v) x) (lo v).length : Int)))) .fail) .fail
        | _, _ => .fail
      | none => .fail
    | _ => .fail
  | _ => .fail
theorem a_loop : loopOf Try.prog 64 0 = some (((loopOf Try.prog 64 0).get!).1, (loopOf Try.prog 64 0).get!.2) := by kernel_rfl
theorem aLoop_ok : ∀ tm hp n x, (loopS [0, 3, 7, 8, 4] [] aLoop tm hp n).get = some x → InLoop Try.prog ((loopOf Try.prog 64 0).get!).1 (loopOf Try.prog 64 0).get!.2 tm hp n fun e tm hp n => (e, tm, hp, n) = x := loopS_of fun li r h => by
  unfold aLoop at h
  split at h
  · rename_i s j n nb os
    split at h
    · rename_i v cs h1
      split at h
      · rename_i x hx
        split at h
        · rename_i hnb hj
          obtain ⟨rfl, rfl⟩ := decM_eq h1
          have hnb := Nat.eq_of_beq_eq_true hnb
          have hj := Nat.eq_of_beq_eq_true hj
          subst hnb hj
          obtain rfl := mac1D_eq hx
          clear h1 hx
          obtain ⟨hn0, hB⟩ := Tr.get_ask.1 h
          obtain ⟨hl, hC⟩ := Tr.get_ask.1 hB
          clear h hB
          have hn0 := eq_of_beq hn0
          subst hn0
          have hl : (lo v).length ≤ 100000 := of_decide_eq_true hl
          have hr : r.2.2 = (aSt v x 0 0).2 := by
            rcases Tr.get_br.1 hC with ⟨_, hD⟩ | ⟨_, hD⟩ <;> (simp only [Tr.get, Option.some.injEq] at hD; subst hD; rfl)
          refine ⟨by rw [hr]; exact keeps_same (by cases v <;> rfl), ?_⟩
          refine scan_li (n := (lo v).length) (stN := fun k => aSt v x (k : Int) 0) (stR := fun k => aSt v x (k : Int) (k : Int)) (p := eqA (lo v) x) (d := 10) (unr := fun _ _ => 20) (sp := noSp) (ls := noLs) (b := 0) plain mixed noSp_ok noLs_ok a_loop (fun k hk => ?_) ?_ hC
          · cases v with
            | none => exact absurd hk (Nat.not_lt_zero _)
            | some y => obtain ⟨a, b, ts⟩ := y; exact a_round hk hl
          · cases v with
            | none => exact a_endN x _ (by decide)
            | some y => obtain ⟨a, b, ts⟩ := y; exact Tr.follow_get (a_end a b ts x _) (by rw [decide_eq_false (Int.lt_irrefl _)])
        · cases h
      · cases h
    · cases h
  · cases h
def lsF : LoopT C24 := Sx.addL 11 0 (loopS [1, 16, 17, 18, 2] [] cLoop) (Sx.addL 63 0 (loopS [0, 1, 7, 8, 4] [] iLoop) (Sx.addL 64 0 (loopS [0, 3, 7, 8, 4] [] aLoop) noLs))
theorem lsF_ok : LoopTOk Try.prog lsF := addL_ok c_loop cLoop_ok (addL_ok i_loop iLoop_ok (addL_ok a_loop aLoop_ok noLs_ok))
abbrev unF (g b : Nat) : Nat := match g, b with
  | 11, 0 => 0 | 63, 0 => 0 | 64, 0 => 0 | _, _ => 20
end
end Go.Proofs.Ytgepgnjjhgmfnaa
namespace Go.Proofs.Ytgepgnjjhgmfnaa
open Go Go.Sx Go.RowKit
set_option maxRecDepth 1000000
set_option maxHeartbeats 8000000
set_option linter.unusedVariables false
noncomputable section
abbrev f24C (F : Fv) := fnC C24 Try.prog noSp lsF unF 10 11 [.agg (fltC F 0)] (fltO F)
abbrev f24L (F : Fv) := fnC C24 Try.prog noSp lsF unF 10 10 [.agg (fltC F 0)] (fltO F)
abbrev f24O (F : Fv) := fnC C24 Try.prog noSp lsF unF 10 13 [.agg (fltC F 0)] (fltO F)
end
end Go.Proofs.Ytgepgnjjhgmfnaa
namespace Go.Proofs.Ytgepgnjjhgmfnaa
open Go Go.Sx Go.RowKit
set_option maxRecDepth 1000000
set_option maxHeartbeats 8000000
set_option linter.unusedVariables false
set_option linter.unusedSimpArgs false
noncomputable section
theorem ck_1 (m : Mac) (p q : Bool) (o g : Lo Mac) (v : Lo Int) : Tr.follow [Tt,Tt,Tt,Tt,Tt,Tt] (f24C (m, p, q, o, g, v)) =
  some ([decide ((32 : Int) < (↑(lo o).length : Int)),Tt,Tt,Tt,Tt,Tt],
  (SV.raw (Value.int IntKind.i64 (2 : Int)), [])) := by cases o <;> cases g <;> cases v <;> kernel_rfl
theorem ck_2 (m : Mac) (p q : Bool) (o g : Lo Mac) (v : Lo Int) : Tr.follow [Ff,Ff,Ff,Ff,Tt] (f24C (m, p, q, o, g, v)) =
  some ([decide ((32 : Int) < (↑(lo o).length : Int)),Ff,Ff,Ff,decide ((32 : Int) < (↑(lo g).length : Int))],
  (SV.raw (Value.int IntKind.i64 (2 : Int)), [])) := by cases o <;> cases g <;> cases v <;> kernel_rfl
theorem ck_ok (m : Mac) (p q : Bool) (o g : Lo Mac) (v : Lo Int) : Tr.follow [Ff,Ff,Ff,Ff,Ff,Tt,Tt,Tt] (f24C (m, p, q, o, g, v)) =
  some ([decide ((32 : Int) < (↑(lo o).length : Int)),Ff,Ff,Ff,decide ((32 : Int) < (↑(lo g).length : Int)),(↑(lo v).length : Int) == (↑(lo v).length : Int),decide ((lo v).length ≤ (100000 : Nat)),noneP (badV (lo v)) (lo v).length],
  (SV.raw (Value.int IntKind.i64 (0 : Int)), [])) := by cases o <;> cases g <;> cases v <;> kernel_rfl
theorem ck_bad (m : Mac) (p q : Bool) (o g : Lo Mac) (v : Lo Int) : Tr.follow [Ff,Ff,Ff,Ff,Ff,Tt,Tt,Ff] (f24C (m, p, q, o, g, v)) =
  some ([decide ((32 : Int) < (↑(lo o).length : Int)),Ff,Ff,Ff,decide ((32 : Int) < (↑(lo g).length : Int)),(↑(lo v).length : Int) == (↑(lo v).length : Int),decide ((lo v).length ≤ (100000 : Nat)),noneP (badV (lo v)) (lo v).length],
  (SV.raw (Value.int IntKind.i64 (2 : Int)), [])) := by cases o <;> cases g <;> cases v <;> kernel_rfl
theorem li_1 (m : Mac) (p q : Bool) (o g : Lo Mac) (v : Lo Int) : Tr.follow [Ff,Ff,Ff,Ff,Ff,Ff,Ff,Ff,Ff,Ff] (f24L (m, p, q, o, g, v)) =
  some ([decide ((↑(lo o).length : Int) ≤ 60),Ff,Ff,Ff,Ff,Ff,Ff,Ff,Ff,Ff],
  (SV.raw (Value.bool false), [])) := by cases o <;> cases g <;> cases v <;> kernel_rfl
theorem li_2 (m : Mac) (p q : Bool) (o g : Lo Mac) (v : Lo Int) : Tr.follow [Tt,Tt,Tt,Tt,Ff,Ff,Ff,Ff,Ff] (f24L (m, p, q, o, g, v)) =
  some ([decide ((↑(lo o).length : Int) ≤ 60),Tt,Tt,Tt,decide ((↑(lo g).length : Int) ≤ 60),Ff,Ff,Ff,Ff],
  (SV.raw (Value.bool false), [])) := by cases o <;> cases g <;> cases v <;> kernel_rfl
theorem li_3 (m : Mac) (p q : Bool) (o g : Lo Mac) (v : Lo Int) : Tr.follow [Tt,Tt,Tt,Tt,Tt,Tt,Tt,Tt] (f24L (m, p, q, o, g, v)) =
  some ([decide ((↑(lo o).length : Int) ≤ 60),Tt,Tt,Tt,decide ((↑(lo g).length : Int) ≤ 60),Tt,Tt,Tt],
  (SV.raw (Value.bool (decide ((↑(lo v).length : Int) ≤ (60 : Int)))), [])) := by cases o <;> cases g <;> cases v <;> kernel_rfl
theorem ow (m : Mac) (p q : Bool) (o g : Lo Mac) (v : Lo Int) : Tr.follow [Tt,Tt,Tt] (f24O (m, p, q, o, g, v)) =
  some ([roomB (([] : List Mac).length + (lo o).length) Try.prog.types[(22 : Nat)].bytes,roomB (([] : List Mac).length + (lo g).length) Try.prog.types[(22 : Nat)].bytes,roomB (([] : List Int).length + (lo v).length) Try.prog.types[(3 : Nat)].bytes],
  (.agg (fltL m p q (.h (fltN (m, p, q, o, g, v) 0)) (.h (fltN (m, p, q, o, g, v) 0 + 1)) (.h (fltN (m, p, q, o, g, v) 0 + 2))), [.sl true false 22 (lo o), .sl true false 22 (lo g), .sl true false 3 (lo v)])) := by cases o <;> cases g <;> cases v <;> kernel_rfl
/-- A filter by its lists. -/
abbrev Fp := Mac × Bool × Bool × List Mac × List Mac × List Int
abbrev plF (F : Fv) : Fp := (F.1, F.2.1, F.2.2.1, lo F.2.2.2.1, lo F.2.2.2.2.1, lo F.2.2.2.2.2)
/-- Filters that are valid. -/
def okF (F : Fp) : Bool := !decide ((32 : Int) < (F.2.2.2.1.length : Int)) && (!decide ((32 : Int) < (F.2.2.2.2.1.length : Int)) && noneP (badV F.2.2.2.2.2) F.2.2.2.2.2.length)
def liF (F : Fp) : Bool := decide ((F.2.2.2.1.length : Int) ≤ 60) && (decide ((F.2.2.2.2.1.length : Int) ≤ 60) && decide ((F.2.2.2.2.2.length : Int) ≤ 60))
def smF (F : Fp) : Bool := decide (F.2.2.2.1.length ≤ 100000 ∧ F.2.2.2.2.1.length ≤ 100000 ∧ F.2.2.2.2.2.length ≤ 100000)
def withL {α β : Type} (o : Lo α) (k : List α → β) : β := match o with
  | none => k []
  | some (_, _, l) => k l
theorem withL_eq {α β : Type} (o : Lo α) (k : List α → β) : withL o k = k (lo o) := by cases o <;> rfl
def onF (args : List SV) (os : List (SO C24)) (k : Fp → Nat → Tr (SV × List (SO C24))) : Tr (SV × List (SO C24)) := match args with
  | [.agg cs] => match decF cs 0 os with
    | some (((x0, x1, x2, x3, x4, x5), p, q, o, g, v), []) => withL o fun ol => withL g fun gl => withL v fun vl => k ((x0, x1, x2, x3, x4, x5), p, q, ol, gl, vl) (fltN ((x0, x1, x2, x3, x4, x5), p, q, o, g, v) 0)
    | _ => .fail
  | _ => .fail
theorem onF_eq {args : List SV} {os : List (SO C24)} {k : Fp → Nat → Tr (SV × List (SO C24))} {r : SV × List (SO C24)} (h : (onF args os k).get = some r) : ∃ F, args = [.agg (fltC F 0)] ∧ os = fltO F ∧ (k (plF F) (fltN F 0)).get = some r := by
  unfold onF at h
  split at h
  · split at h
    · rename_i hF
      obtain ⟨rfl, rfl⟩ := decF_eq hF
      simp only [withL_eq] at h
      exact ⟨_, rfl, List.append_nil _, h⟩
    · cases h
  · cases h
def chkT : FnF C24 := fun args os => onF args os fun F _ => .br (smF F) (.br (okF F) (.leaf (.raw (.int .i64 0), [])) (.leaf (.raw (.int .i64 2), []))) .fail
def lightT : FnF C24 := fun args os => onF args os fun F _ => .leaf (.raw (.bool (liF F)), [])
def ownT : FnF C24 := fun args os => onF args os fun F n => .br (smF F) (.leaf (.agg (fltL F.1 F.2.1 F.2.2.1 (.h n) (.h (n + 1)) (.h (n + 2))), [.sl true false 22 F.2.2.2.1, .sl true false 22 F.2.2.2.2.1, .sl true false 3 F.2.2.2.2.2])) .fail
theorem chkT_ok : ∀ args os r, (chkT args os).get = some r → Fn0 Try.prog 11 args os r := fun args os r h => by
  obtain ⟨F, rfl, rfl, h1⟩ := onF_eq h
  clear h
  obtain ⟨m, p, q, o, g, v⟩ := F
  obtain ⟨hs, h2⟩ := Tr.get_ask.1 h1
  refine fnC_ok (sp := noSp) (ls := lsF) (unr := unF) (d := 10) plain mixed noSp_ok lsF_ok (Eq.trans ?_ h2)
  have hs : (lo o).length ≤ 100000 ∧ (lo g).length ≤ 100000 ∧ (lo v).length ≤ 100000 := of_decide_eq_true hs
  have k1 : decide ((lo v).length ≤ 100000) = true := decide_eq_true hs.2.2
  have k2 : (((lo v).length : Int) == ((lo v).length : Int)) = true := beq_self_eq_true _
  unfold okF
  simp only
  cases h1 : decide ((32 : Int) < ((lo o).length : Int)) with
  | true => exact Tr.follow_get (ck_1 m p q o g v) (by simp only [h1])
  | false =>
    cases h2 : decide ((32 : Int) < ((lo g).length : Int)) with
    | true => exact Tr.follow_get (ck_2 m p q o g v) (by simp only [h1, h2])
    | false =>
      cases h3 : noneP (badV (lo v)) (lo v).length with
      | true => exact Tr.follow_get (ck_ok m p q o g v) (by simp only [h1, h2, h3, k1, k2])
      | false => exact Tr.follow_get (ck_bad m p q o g v) (by simp only [h1, h2, h3, k1, k2])
theorem lightT_ok : ∀ args os r, (lightT args os).get = some r → Fn0 Try.prog 10 args os r := fun args os r h => by
  obtain ⟨F, rfl, rfl, h1⟩ := onF_eq h
  clear h
  obtain ⟨m, p, q, o, g, v⟩ := F
  refine fnC_ok (sp := noSp) (ls := lsF) (unr := unF) (d := 10) plain mixed noSp_ok lsF_ok (Eq.trans ?_ h1)
  unfold liF
  simp only
  cases h1 : decide (((lo o).length : Int) ≤ 60) with
  | false => exact Tr.follow_get (li_1 m p q o g v) (by simp only [h1])
  | true =>
    cases h2 : decide (((lo g).length : Int) ≤ 60) with
    | false => exact Tr.follow_get (li_2 m p q o g v) (by simp only [h1, h2])
    | true => exact Tr.follow_get (li_3 m p q o g v) (by simp only [h1, h2])
theorem bytes22 : Try.prog.types[(22 : Nat)].bytes ≤ 1000 := by
  have h : Nat.ble Try.prog.types[(22 : Nat)].bytes 1000 = true := by kernel_rfl
  exact Nat.le_of_ble_eq_true h
theorem bytes3 : Try.prog.types[(3 : Nat)].bytes ≤ 1000 := by
  have h : Nat.ble Try.prog.types[(3 : Nat)].bytes 1000 = true := by kernel_rfl
  exact Nat.le_of_ble_eq_true h
theorem roomM {n : Nat} (h : n ≤ 200000) : roomB n Try.prog.types[(22 : Nat)].bytes = true := decide_eq_true (Nat.le_trans (Nat.mul_le_mul h bytes22) (by decide))
theorem roomI {n : Nat} (h : n ≤ 200000) : roomB n Try.prog.types[(3 : Nat)].bytes = true := decide_eq_true (Nat.le_trans (Nat.mul_le_mul h bytes3) (by decide))
theorem ownT_ok : ∀ args os r, (ownT args os).get = some r → Fn0 Try.prog 13 args os r := fun args os r h => by
  obtain ⟨F, rfl, rfl, h1⟩ := onF_eq h
  clear h
  obtain ⟨m, p, q, o, g, v⟩ := F
  obtain ⟨hs, h2⟩ := Tr.get_ask.1 h1
  refine fnC_ok (sp := noSp) (ls := lsF) (unr := unF) (d := 10) plain mixed noSp_ok lsF_ok (Eq.trans ?_ h2)
  have hs : (lo o).length ≤ 100000 ∧ (lo g).length ≤ 100000 ∧ (lo v).length ≤ 100000 := of_decide_eq_true hs
  exact Tr.follow_get (ow m p q o g v) (by rw [roomM (show ([] : List Mac).length + (lo o).length ≤ 200000 by simp; omega), roomM (show ([] : List Mac).length + (lo g).length ≤ 200000 by simp; omega), roomI (show ([] : List Int).length + (lo v).length ≤ 200000 by simp; omega)])
def sfP : SpecT C24 := addS 11 (seeS chkT) noSp
theorem sfP_ok : SpecTOk Try.prog sfP := addS_ok (seeS_ok chkT_ok) noSp_ok
abbrev f24P (feats : Int) (F : Fv) (x : Rv) := fnC C24 Try.prog sfP lsF unF 10 16 [.raw (.int .u64 feats), .agg (fltC F 0), .agg (frmC x (fltN F 0))] (fltO F ++ obB x.2.2.2.2)
end
end Go.Proofs.Ytgepgnjjhgmfnaa
namespace Go.Proofs.Ytgepgnjjhgmfnaa
open Go Go.Sx Go.RowKit
set_option maxRecDepth 1000000
set_option maxHeartbeats 8000000
set_option linter.unusedVariables false
set_option linter.unusedSimpArgs false
noncomputable section
@[reducible] def ekS (m : Mac) (p q : Bool) (o g : Lo Mac) (v : Lo Int) (K R : Int) : List SV × List (SO C24) := ([.h 0, .raw (.int .i64 K), .raw (.int .i64 R)], .box (fltL m p q (hS o 1) (hS g (nx o 1)) (hS v (nx g (nx o 1)))) 26 :: (obM o ++ (obM g ++ obI v)))
abbrev ekN (o g : Lo Mac) (v : Lo Int) : Nat := nx v (nx g (nx o 1))
abbrev ekR (m : Mac) (p q : Bool) (o g : Lo Mac) (v : Lo Int) (K : Int) := roundG C24 Try.prog noSp noLs (fun _ _ => 20) 10 27 0 [1, 3, 2] ⟨(ekS m p q o g v K 0).1, ekN o g v, (ekS m p q o g v K 0).2⟩
end
end Go.Proofs.Ytgepgnjjhgmfnaa
namespace Go.Proofs.Ytgepgnjjhgmfnaa
open Go Go.Sx Go.RowKit
set_option maxRecDepth 1000000
set_option maxHeartbeats 8000000
set_option linter.unusedVariables false
set_option linter.unusedSimpArgs false
noncomputable section
theorem ek_tree (m : Mac) (p q : Bool) (o g : Lo Mac) (a b : Bool) (ts : List Int) (K : Int) : (ekR m p q o g (some (a, b, ts)) K).get =
  bro (decide (K < (↑ts.length : Int))) (bro (inB K ts.length) (bro (decide (K.toNat < ts.length)) (bro (decide (elI ts K < (0 : Int))) (some (Ex.ret, ekS m p q o g (some (a, b, ts)) K 2)) (bro (inB K ts.length) (bro (decide (K.toNat < ts.length)) (bro (decide ((4095 : Int) < elI ts K)) (some (Ex.ret, ekS m p q o g (some (a, b, ts)) K 2)) (bro (decide ((0 : Int) < K)) (bro (inB K ts.length) (bro (decide (K.toNat < ts.length)) (bro (inR64 (K - (1 : Int))) (bro (inB (K - (1 : Int)) ts.length) (bro (decide ((K - (1 : Int)).toNat < ts.length)) (bro (decide (elI ts K ≤ elI ts (K - (1 : Int)))) (some (Ex.ret, ekS m p q o g (some (a, b, ts)) K 2)) (bro (inR64 (K + (1 : Int))) (some (Ex.normal, ekS m p q o g (some (a, b, ts)) (K + (1 : Int)) 0)) (some (Ex.normal, ekS m p q o g (some (a, b, ts)) (IntKind.i64.wrap (K + (1 : Int))) 0)))) (none)) (none)) (bro (inB (IntKind.i64.wrap (K - (1 : Int))) ts.length) (bro (decide ((IntKind.i64.wrap (K - (1 : Int))).toNat < ts.length)) (bro (decide (elI ts K ≤ elI ts (IntKind.i64.wrap (K - (1 : Int))))) (some (Ex.ret, ekS m p q o g (some (a, b, ts)) K 2)) (bro (inR64 (K + (1 : Int))) (some (Ex.normal, ekS m p q o g (some (a, b, ts)) (K + (1 : Int)) 0)) (some (Ex.normal, ekS m p q o g (some (a, b, ts)) (IntKind.i64.wrap (K + (1 : Int))) 0)))) (none)) (none))) (none)) (none)) (bro (inR64 (K + (1 : Int))) (some (Ex.normal, ekS m p q o g (some (a, b, ts)) (K + (1 : Int)) 0)) (some (Ex.normal, ekS m p q o g (some (a, b, ts)) (IntKind.i64.wrap (K + (1 : Int))) 0))))) (none)) (none))) (none)) (none)) (some (Ex.exit (0 : Nat), ekS m p q o g (some (a, b, ts)) K 0)) := by cases o <;> cases g <;> kernel_rfl
theorem ek_round {m : Mac} {p q : Bool} {o g : Lo Mac} {a b : Bool} {ts : List Int} (hl : ts.length ≤ 100000) {k : Nat} (hk : k < ts.length) :
    (ekR m p q o g (some (a, b, ts)) (k : Int)).get = bro (badV ts k) (some (.ret, ekS m p q o g (some (a, b, ts)) (k : Int) 2)) (some (.normal, ekS m p q o g (some (a, b, ts)) ((k + 1 : Nat) : Int) 0)) := by
  rw [ek_tree, decide_eq_true (show (k : Int) < (ts.length : Int) by omega), inB_mk (i := (k : Int)) (n := ts.length) ⟨by omega, by omega⟩, decide_eq_true (show ((k : Nat) : Int).toNat < ts.length by omega), inR64_mk (r := (k : Int) + 1) (by omega)]
  unfold badV
  by_cases h0 : (0 : Int) < (k : Int)
  · rw [decide_eq_true h0, inR64_mk (r := (k : Int) - 1) (by omega), inB_mk (i := (k : Int) - 1) (n := ts.length) ⟨by omega, by omega⟩, decide_eq_true (show ((k : Int) - 1).toNat < ts.length by omega)]
    cases decide (elI ts (k : Int) < 0) <;> cases decide ((4095 : Int) < elI ts (k : Int)) <;> cases decide (elI ts (k : Int) ≤ elI ts ((k : Int) - 1)) <;> rfl
  · rw [decide_eq_false h0]
    cases decide (elI ts (k : Int) < 0) <;> cases decide ((4095 : Int) < elI ts (k : Int)) <;> rfl
theorem ek_end {m : Mac} {p q : Bool} {o g : Lo Mac} {a b : Bool} {ts : List Int} : (ekR m p q o g (some (a, b, ts)) (ts.length : Int)).get = some (.exit 0, ekS m p q o g (some (a, b, ts)) (ts.length : Int) 0) := by
  rw [ek_tree, decide_eq_false (Int.lt_irrefl _)]; rfl
theorem ek_nil (m : Mac) (p q : Bool) (o g : Lo Mac) : (ekR m p q o g none 0).get = some (.exit 0, ekS m p q o g none 0 0) := by cases o <;> cases g <;> kernel_rfl
theorem ek_loop : loopOf Try.prog 27 0 = some (((loopOf Try.prog 27 0).get!).1, (loopOf Try.prog 27 0).get!.2) := by kernel_rfl
theorem ekS_len (m : Mac) (p q : Bool) (o g : Lo Mac) (v : Lo Int) (K R : Int) : (ekS m p q o g v K R).2.length = ekN o g v := by cases o <;> cases g <;> cases v <;> rfl
def ekLoop : LoopFn C24 := fun li => match li with
  | ⟨[.h 0, .raw (.int .i64 (.ofNat 0)), .raw (.int .i64 (.ofNat 0))], nb, .box cs 26 :: os⟩ => match decF cs 1 os with
    | some (((x0, x1, x2, x3, x4, x5), p, q, o, g, v), []) => match Nat.beq nb (ekN o g v) with
      | true => .br (decide ((lo v).length ≤ 100000)) (.br (noneP (badV (lo v)) (lo v).length) (.leaf (.exit 0, ekS (x0, x1, x2, x3, x4, x5) p q o g v ((lo v).length : Int) 0)) (.leaf (.ret, ekS (x0, x1, x2, x3, x4, x5) p q o g v (fstP (badV (lo v)) (lo v).length : Int) 2))) .fail
      | false => .fail
    | _ => .fail
  | _ => .fail
theorem ekLoop_ok : ∀ tm hp n x, (loopS [1, 3, 2] [] ekLoop tm hp n).get = some x → InLoop Try.prog ((loopOf Try.prog 27 0).get!).1 (loopOf Try.prog 27 0).get!.2 tm hp n fun e tm hp n => (e, tm, hp, n) = x := loopS_of fun li r h => by
  unfold ekLoop at h
  split at h
  · rename_i nb cs os
    split at h
    · rename_i x0 x1 x2 x3 x4 x5 p q o g v hF
      obtain ⟨rfl, rfl⟩ := decF_eq hF
      split at h
      · rename_i hb
        obtain rfl := Nat.eq_of_beq_eq_true hb
        obtain ⟨hs, h2⟩ := Tr.get_ask.1 h
        have hs : (lo v).length ≤ 100000 := of_decide_eq_true hs
        have hr : r.2.2 = (ekS (x0, x1, x2, x3, x4, x5) p q o g v 0 0).2 := by
          rcases Tr.get_br.1 h2 with ⟨_, hD⟩ | ⟨_, hD⟩ <;> (simp only [Tr.get, Option.some.injEq] at hD; subst hD; rfl)
        have e1 : Sx.LI.mk [SV.h 0, .raw (.int .i64 (.ofNat 0)), .raw (.int .i64 (.ofNat 0))] (ekN o g v) (.box (fltC ((x0, x1, x2, x3, x4, x5), p, q, o, g, v) 1) 26 :: (fltO ((x0, x1, x2, x3, x4, x5), p, q, o, g, v) ++ [])) = ⟨(ekS (x0, x1, x2, x3, x4, x5) p q o g v 0 0).1, ekN o g v, (ekS (x0, x1, x2, x3, x4, x5) p q o g v 0 0).2⟩ := by
          rw [List.append_nil]; rfl
        rw [e1]
        refine ⟨by rw [hr]; exact keeps_same (ekS_len _ p q o g v 0 0).symm, ?_⟩
        refine scan_li (n := (lo v).length) (stN := fun k => ekS (x0, x1, x2, x3, x4, x5) p q o g v (k : Int) 0) (stR := fun k => ekS (x0, x1, x2, x3, x4, x5) p q o g v (k : Int) 2) (p := badV (lo v)) (d := 10) (unr := fun _ _ => 20) (sp := noSp) (ls := noLs) (b := 0) plain mixed noSp_ok noLs_ok ek_loop (fun k hk => ?_) ?_ h2
        · cases v with
          | none => exact absurd hk (Nat.not_lt_zero _)
          | some x => obtain ⟨a, b, ts⟩ := x; exact ek_round hs hk
        · cases v with
          | none => exact ek_nil _ p q o g
          | some x => obtain ⟨a, b, ts⟩ := x; exact ek_end
      · cases h
    · cases h
  · cases h
def lsK : LoopT C24 := Sx.addL 27 0 (loopS [1, 3, 2] [] ekLoop) noLs
theorem lsK_ok : LoopTOk Try.prog lsK := addL_ok ek_loop ekLoop_ok noLs_ok
abbrev unK (g b : Nat) : Nat := match g, b with
  | 27, 0 => 0 | _, _ => 20
abbrev f24K (F : Fv) := fnC C24 Try.prog noSp lsK unK 10 27 [.agg (fltC F 0)] (fltO F)
abbrev rI (n : Int) : Option (SV × List (SO C24)) := some (.raw (.int .i64 n), [])
theorem kk_tree (m : Mac) (p q : Bool) (o g : Lo Mac) (v : Lo Int) : (f24K (m, p, q, o, g, v)).get = bro (decide ((32 : Int) < ((lo o).length : Int))) (rI 2) (bro (decide ((32 : Int) < ((lo g).length : Int))) (rI 2) (bro (decide ((lo v).length ≤ 100000)) (bro (noneP (badV (lo v)) (lo v).length) (rI 0) (rI 2)) none)) := by cases o <;> cases g <;> cases v <;> kernel_rfl
def rckT : FnF C24 := fun args os => onF args os fun F _ => .br (smF F) (.br (okF F) (.leaf (.raw (.int .i64 0), [])) (.leaf (.raw (.int .i64 2), []))) .fail
theorem rckT_ok : ∀ args os r, (rckT args os).get = some r → Fn0 Try.prog 27 args os r := fun args os r h => by
  obtain ⟨F, rfl, rfl, h1⟩ := onF_eq h
  clear h
  obtain ⟨m, p, q, o, g, v⟩ := F
  obtain ⟨hs, h2⟩ := Tr.get_ask.1 h1
  refine fnC_ok (sp := noSp) (ls := lsK) (unr := unK) (d := 10) plain mixed noSp_ok lsK_ok (Eq.trans ?_ h2)
  have hs : (lo o).length ≤ 100000 ∧ (lo g).length ≤ 100000 ∧ (lo v).length ≤ 100000 := of_decide_eq_true hs
  refine (kk_tree m p q o g v).trans ?_
  rw [decide_eq_true hs.2.2]
  unfold okF
  show bro (decide ((32 : Int) < ((lo o).length : Int))) _ _ = (Tr.br (!decide ((32 : Int) < ((lo o).length : Int)) && (!decide ((32 : Int) < ((lo g).length : Int)) && noneP (badV (lo v)) (lo v).length)) _ _).get
  cases decide ((32 : Int) < ((lo o).length : Int)) <;> cases decide ((32 : Int) < ((lo g).length : Int)) <;> cases noneP (badV (lo v)) (lo v).length <;> rfl
end
end Go.Proofs.Ytgepgnjjhgmfnaa
namespace Go.Proofs.Ytgepgnjjhgmfnaa
open Go Go.Sx Go.RowKit
set_option maxRecDepth 1000000
set_option maxHeartbeats 8000000
set_option linter.unusedVariables false
set_option linter.unusedSimpArgs false
noncomputable section
def hasB (feats bit : Int) : Bool := bitsV IntKind.u64 BinOp.and (shrV IntKind.u64 feats bit) 1 == 1
def grpM (x : Mac) : Bool := bitsV IntKind.u8 BinOp.and x.1 1 == 1
def allM (x : Mac) : Bool := eqM x (255, 255, 255, 255, 255, 255)
theorem pass_tree (feats : Int) (m : Mac) (p q : Bool) (o g : Lo Mac) (v : Lo Int) (xd xs : Mac) (xv xt : Int) (d : Lo Int) : (f24P feats (m, p, q, o, g, v) (xd, xs, xv, xt, d)).get =
  
  bro (smF (m, p, q, (lo o), (lo g), (lo v))) (bro (okF (m, p, q, (lo o), (lo g), (lo v))) (bro (decide (xv < (-1 : Int))) (some (SV.raw (Value.bool false), [])) (bro (decide ((4095 : Int) < xv)) (some (SV.raw (Value.bool false), [])) (bro (xt == (33024 : Int)) (some (SV.raw (Value.bool false), [])) (bro (decide ((1500 : Int) < (↑(lo d).length : Int))) (some (SV.raw (Value.bool false), [])) (bro (hasB feats 19) (bro (decide ((0 : Int) ≤ xv)) (bro ((↑(lo v).length : Int) == (↑((lo v)).length : Int)) (bro (decide (((lo v)).length ≤ (100000 : Nat))) (bro (noneP (eqI ((lo v)) xv) ((lo v)).length) (some (SV.raw (Value.bool false), [])) (bro (p) (some (SV.raw (Value.bool true), [])) (bro (grpM xd) (bro (q) (some (SV.raw (Value.bool true), [])) (bro (allM xd) (some (SV.raw (Value.bool true), [])) (bro ((↑(lo g).length : Int) == (↑((lo g)).length : Int)) (bro (decide (((lo g)).length ≤ (100000 : Nat))) (bro (noneP (eqA ((lo g)) xd) ((lo g)).length) (some (SV.raw (Value.bool false), [])) (some (SV.raw (Value.bool true), []))) (none)) (none)))) (bro (eqM m xd) (some (SV.raw (Value.bool true), [])) (bro ((↑(lo o).length : Int) == (↑((lo o)).length : Int)) (bro (decide (((lo o)).length ≤ (100000 : Nat))) (bro (noneP (eqA ((lo o)) xd) ((lo o)).length) (some (SV.raw (Value.bool false), [])) (some (SV.raw (Value.bool true), []))) (none)) (none)))))) (none)) (none)) (bro (p) (some (SV.raw (Value.bool true), [])) (bro (grpM xd) (bro (q) (some (SV.raw (Value.bool true), [])) (bro (allM xd) (some (SV.raw (Value.bool true), [])) (bro ((↑(lo g).length : Int) == (↑((lo g)).length : Int)) (bro (decide (((lo g)).length ≤ (100000 : Nat))) (bro (noneP (eqA ((lo g)) xd) ((lo g)).length) (some (SV.raw (Value.bool false), [])) (some (SV.raw (Value.bool true), []))) (none)) (none)))) (bro (eqM m xd) (some (SV.raw (Value.bool true), [])) (bro ((↑(lo o).length : Int) == (↑((lo o)).length : Int)) (bro (decide (((lo o)).length ≤ (100000 : Nat))) (bro (noneP (eqA ((lo o)) xd) ((lo o)).length) (some (SV.raw (Value.bool false), [])) (some (SV.raw (Value.bool true), []))) (none)) (none)))))) (bro (p) (some (SV.raw (Value.bool true), [])) (bro (grpM xd) (bro (q) (some (SV.raw (Value.bool true), [])) (bro (allM xd) (some (SV.raw (Value.bool true), [])) (bro ((↑(lo g).length : Int) == (↑((lo g)).length : Int)) (bro (decide (((lo g)).length ≤ (100000 : Nat))) (bro (noneP (eqA ((lo g)) xd) ((lo g)).length) (some (SV.raw (Value.bool false), [])) (some (SV.raw (Value.bool true), []))) (none)) (none)))) (bro (eqM m xd) (some (SV.raw (Value.bool true), [])) (bro ((↑(lo o).length : Int) == (↑((lo o)).length : Int)) (bro (decide (((lo o)).length ≤ (100000 : Nat))) (bro (noneP (eqA ((lo o)) xd) ((lo o)).length) (some (SV.raw (Value.bool false), [])) (some (SV.raw (Value.bool true), []))) (none)) (none)))))))))) (some (SV.raw (Value.bool false), []))) (none) := by cases o <;> cases g <;> cases v <;> cases d <;> kernel_rfl
/-- A frame by its bytes. -/
abbrev Rp := Mac × Mac × Int × Int × List Int
def tailP (F : Fp) (d : Mac) : Bool := sel F.2.1 true (sel (grpM d) (sel F.2.2.1 true (sel (allM d) true (sel (noneP (eqA F.2.2.2.2.1 d) F.2.2.2.2.1.length) false true))) (sel (eqM F.1 d) true (sel (noneP (eqA F.2.2.2.1 d) F.2.2.2.1.length) false true)))
def passP (feats : Int) (F : Fp) (x : Rp) : Bool := sel (okF F) (sel (decide (x.2.2.1 < -1)) false (sel (decide ((4095 : Int) < x.2.2.1)) false (sel (x.2.2.2.1 == 33024) false (sel (decide ((1500 : Int) < (x.2.2.2.2.length : Int))) false
  (sel (hasB feats 19) (sel (decide ((0 : Int) ≤ x.2.2.1)) (sel (noneP (eqI F.2.2.2.2.2 x.2.2.1) F.2.2.2.2.2.length) false (tailP F x.1)) (tailP F x.1)) (tailP F x.1)))))) false
theorem broB {c a b : Bool} : bro c (some ((SV.raw (.bool a), []) : SV × List (SO C24))) (some (SV.raw (.bool b), [])) = some (SV.raw (.bool (sel c a b)), []) := by cases c <;> rfl
def passT : FnF C24 := fun args os => match args with
  | [.raw (.int .u64 feats), .agg cs, .agg ds] => match decF cs 0 os with
    | some (((x0, x1, x2, x3, x4, x5), p, q, o, g, v), os1) => match decR ds (fltN ((x0, x1, x2, x3, x4, x5), p, q, o, g, v) 0) os1 with
      | some (((y0, y1, y2, y3, y4, y5), (z0, z1, z2, z3, z4, z5), vl, ty, d), []) => withL o fun ol => withL g fun gl => withL v fun l => withL d fun dl =>
        .br (smF ((x0, x1, x2, x3, x4, x5), p, q, ol, gl, l)) (.leaf (.raw (.bool (passP feats ((x0, x1, x2, x3, x4, x5), p, q, ol, gl, l) ((y0, y1, y2, y3, y4, y5), (z0, z1, z2, z3, z4, z5), vl, ty, dl))), [])) .fail
      | _ => .fail
    | none => .fail
  | _ => .fail
theorem passT_ok : ∀ args os r, (passT args os).get = some r → Fn0 Try.prog 16 args os r := fun args os r h => by
  unfold passT at h
  split at h
  · rename_i feats cs ds
    split at h
    · rename_i x0 x1 x2 x3 x4 x5 p q o g v os1 hF
      split at h
      · rename_i y0 y1 y2 y3 y4 y5 z0 z1 z2 z3 z4 z5 vl ty d hR
        obtain ⟨rfl, rfl⟩ := decF_eq hF
        obtain ⟨rfl, rfl⟩ := decR_eq hR
        simp only [withL_eq] at h
        obtain ⟨hs, h2⟩ := Tr.get_ask.1 h
        simp only [Tr.get, Option.some.injEq] at h2
        subst h2
        clear hF hR h
        have hs' := hs
        have hs : (lo o).length ≤ 100000 ∧ (lo g).length ≤ 100000 ∧ (lo v).length ≤ 100000 := of_decide_eq_true hs
        have e1 : fltO ((x0, x1, x2, x3, x4, x5), p, q, o, g, v) ++ (obB d ++ []) = fltO ((x0, x1, x2, x3, x4, x5), p, q, o, g, v) ++ obB d := by rw [List.append_nil]
        refine fnC_ok (sp := sfP) (ls := lsF) (unr := unF) (d := 10) plain mixed sfP_ok lsF_ok ?_
        rw [e1]
        refine (pass_tree feats (x0, x1, x2, x3, x4, x5) p q o g v (y0, y1, y2, y3, y4, y5) (z0, z1, z2, z3, z4, z5) vl ty d).trans ?_
        have k1 : decide ((lo v).length ≤ 100000) = true := decide_eq_true hs.2.2
        have k2 : decide ((lo o).length ≤ 100000) = true := decide_eq_true hs.1
        have k3 : decide ((lo g).length ≤ 100000) = true := decide_eq_true hs.2.1
        rw [hs']
        simp only [k1, k2, k3, beq_self_eq_true, bro_true, broB]
        rfl
      · cases h
    · cases h
  · cases h
end
end Go.Proofs.Ytgepgnjjhgmfnaa
namespace Go.Proofs.Ytgepgnjjhgmfnaa
open Go Go.Sx Go.RowKit
set_option maxRecDepth 1000000
set_option maxHeartbeats 8000000
set_option linter.unusedVariables false
set_option linter.unusedSimpArgs false
noncomputable section
@[reducible] def eaS (v : Lo Mac) (x : Mac) (K : Int) (R : Bool) : List SV × List (SO C24) := ([hS v 0, .h (nx v 0), .raw (.int .i64 K), .raw (.bool R)], obM v ++ [.box (macL x) 22])
abbrev eaR (v : Lo Mac) (x : Mac) (K : Int) := roundG C24 Try.prog noSp noLs (fun _ _ => 20) 10 51 0 [0, 3, 5, 4] ⟨(eaS v x K false).1, nx v 0 + 1, (eaS v x K false).2⟩
@[reducible] def epS (F : Fv) (x : Rv) (b : Bool) (K : Int) : List SV × List (SO C24) := ([.h 0, .h 1, .raw (.bool b), .raw (.int .i64 K), .raw (.bool false)], .box (fltC F 2) 26 :: .box (frmC x (fltN F 2)) 43 :: (fltO F ++ obB x.2.2.2.2))
abbrev epN (F : Fv) (x : Rv) : Nat := nx x.2.2.2.2 (fltN F 2)
abbrev epR (F : Fv) (x : Rv) (b : Bool) (K : Int) := roundG C24 Try.prog noSp noLs (fun _ _ => 20) 10 28 0 [4, 5, 7, 8, 6] ⟨(epS F x b K).1, epN F x, (epS F x b K).2⟩
end
end Go.Proofs.Ytgepgnjjhgmfnaa
namespace Go.Proofs.Ytgepgnjjhgmfnaa
open Go Go.Sx Go.RowKit
set_option maxRecDepth 1000000
set_option maxHeartbeats 8000000
set_option linter.unusedVariables false
set_option linter.unusedSimpArgs false
noncomputable section
theorem eqM_comm (x y : Mac) : eqM x y = eqM y x := by
  unfold eqM
  simp only [Bool.beq_comm]
theorem ea_tree (a b : Bool) (ts : List Mac) (x : Mac) (K : Int) : (eaR (some (a, b, ts)) x K).get =
  bro (decide (K < (ts.length : Int))) (bro (inB K ts.length) (bro (decide (K.toNat < ts.length)) (bro (eqM (elA ts K) x) (some (.ret, eaS (some (a, b, ts)) x K true)) (bro (inR64 (K + 1)) (some (.normal, eaS (some (a, b, ts)) x (K + 1) false)) (some (.normal, eaS (some (a, b, ts)) x (IntKind.i64.wrap (K + 1)) false)))) none) none) (some (.exit 0, eaS (some (a, b, ts)) x K false)) := by kernel_rfl
theorem ea_round {a b : Bool} {ts : List Mac} {x : Mac} {k : Nat} (hk : k < ts.length) (hl : ts.length ≤ 100000) :
    (eaR (some (a, b, ts)) x (k : Int)).get = bro (eqA ts x k) (some (.ret, eaS (some (a, b, ts)) x (k : Int) true)) (some (.normal, eaS (some (a, b, ts)) x ((k + 1 : Nat) : Int) false)) := by
  rw [ea_tree, decide_eq_true (show (k : Int) < (ts.length : Int) by omega), inB_mk (i := (k : Int)) (n := ts.length) ⟨by omega, by omega⟩, decide_eq_true (show ((k : Nat) : Int).toNat < ts.length by omega), inR64_mk (r := (k : Int) + 1) (by omega), eqM_comm]
  unfold eqA
  cases eqM x (elA ts (k : Int)) <;> rfl
theorem ea_end {a b : Bool} {ts : List Mac} {x : Mac} : (eaR (some (a, b, ts)) x (ts.length : Int)).get = some (.exit 0, eaS (some (a, b, ts)) x (ts.length : Int) false) := by
  rw [ea_tree, decide_eq_false (Int.lt_irrefl _)]; rfl
theorem ea_nil (x : Mac) : (eaR none x 0).get = some (.exit 0, eaS none x 0 false) := by kernel_rfl
theorem ea_loop : loopOf Try.prog 51 0 = some (((loopOf Try.prog 51 0).get!).1, (loopOf Try.prog 51 0).get!.2) := by kernel_rfl
def eaLoop : LoopFn C24 := fun li => match li with
  | ⟨[.h 0, .h 1, .raw (.int .i64 (.ofNat 0)), .raw (.bool false)], 2, [.sl a b 22 ts, .box [.raw (.int .u8 x0), .raw (.int .u8 x1), .raw (.int .u8 x2), .raw (.int .u8 x3), .raw (.int .u8 x4), .raw (.int .u8 x5)] 22]⟩ =>
    .br (decide (ts.length ≤ 100000)) (.br (noneP (eqA ts (x0, x1, x2, x3, x4, x5)) ts.length) (.leaf (.exit 0, eaS (some (a, b, ts)) (x0, x1, x2, x3, x4, x5) (ts.length : Int) false)) (.leaf (.ret, eaS (some (a, b, ts)) (x0, x1, x2, x3, x4, x5) (fstP (eqA ts (x0, x1, x2, x3, x4, x5)) ts.length : Int) true))) .fail
  | ⟨[.raw (.slice none 0 0), .h 0, .raw (.int .i64 (.ofNat 0)), .raw (.bool false)], 1, [.box [.raw (.int .u8 x0), .raw (.int .u8 x1), .raw (.int .u8 x2), .raw (.int .u8 x3), .raw (.int .u8 x4), .raw (.int .u8 x5)] 22]⟩ =>
    .leaf (.exit 0, eaS none (x0, x1, x2, x3, x4, x5) 0 false)
  | _ => .fail
theorem eaLoop_ok : ∀ tm hp n x, (loopS [0, 3, 5, 4] [] eaLoop tm hp n).get = some x → InLoop Try.prog ((loopOf Try.prog 51 0).get!).1 (loopOf Try.prog 51 0).get!.2 tm hp n fun e tm hp n => (e, tm, hp, n) = x := loopS_of fun li r h => by
  unfold eaLoop at h
  split at h
  · rename_i a b ts x0 x1 x2 x3 x4 x5
    obtain ⟨hs, h2⟩ := Tr.get_ask.1 h
    have hs : (ts : List Mac).length ≤ 100000 := of_decide_eq_true hs
    have hr : r.2.2 = (eaS (some (a, b, ts)) (x0, x1, x2, x3, x4, x5) 0 false).2 := by
      rcases Tr.get_br.1 h2 with ⟨_, hD⟩ | ⟨_, hD⟩ <;> (simp only [Tr.get, Option.some.injEq] at hD; subst hD; rfl)
    refine ⟨by rw [hr]; exact keeps_same rfl, ?_⟩
    exact scan_li (n := (ts : List Mac).length) (stN := fun k => eaS (some (a, b, ts)) (x0, x1, x2, x3, x4, x5) (k : Int) false) (stR := fun k => eaS (some (a, b, ts)) (x0, x1, x2, x3, x4, x5) (k : Int) true) (p := eqA ts (x0, x1, x2, x3, x4, x5)) (d := 10) (unr := fun _ _ => 20) (sp := noSp) (ls := noLs) (b := 0) plain mixed noSp_ok noLs_ok ea_loop (fun k hk => ea_round hk hs) ea_end h2
  · rename_i x0 x1 x2 x3 x4 x5
    simp only [Tr.get, Option.some.injEq] at h
    subst h
    refine ⟨keeps_same rfl, ?_⟩
    exact scan_li (n := 0) (stN := fun k => eaS none (x0, x1, x2, x3, x4, x5) (k : Int) false) (stR := fun k => eaS none (x0, x1, x2, x3, x4, x5) (k : Int) true) (p := fun _ => false) (d := 10) (unr := fun _ _ => 20) (sp := noSp) (ls := noLs) (b := 0) plain mixed noSp_ok noLs_ok ea_loop (fun k hk => absurd hk (Nat.not_lt_zero _)) (ea_nil _) rfl
  · cases h
theorem ep_tree (m : Mac) (p q : Bool) (o g : Lo Mac) (a b : Bool) (ts : List Int) (xd xs : Mac) (xv xt : Int) (d : Lo Int) (w : Bool) (K : Int) : (epR (m, p, q, o, g, some (a, b, ts)) (xd, xs, xv, xt, d) w K).get =
  bro (decide (K < (ts.length : Int))) (bro w (bro (inR64 (K + 1)) (some (.normal, epS (m, p, q, o, g, some (a, b, ts)) (xd, xs, xv, xt, d) true (K + 1))) (some (.normal, epS (m, p, q, o, g, some (a, b, ts)) (xd, xs, xv, xt, d) true (IntKind.i64.wrap (K + 1))))) (bro (inB K ts.length) (bro (decide (K.toNat < ts.length)) (bro (inR64 (K + 1)) (some (.normal, epS (m, p, q, o, g, some (a, b, ts)) (xd, xs, xv, xt, d) (elI ts K == xv) (K + 1))) (some (.normal, epS (m, p, q, o, g, some (a, b, ts)) (xd, xs, xv, xt, d) (elI ts K == xv) (IntKind.i64.wrap (K + 1))))) none) none)) (some (.exit 0, epS (m, p, q, o, g, some (a, b, ts)) (xd, xs, xv, xt, d) w K)) := by cases o <;> cases g <;> cases d <;> kernel_rfl
abbrev pvW (w : Bool) (ts : List Int) (xv : Int) (k : Nat) : Bool := w || !noneP (eqI ts xv) k
theorem noneP_succ {p : Nat → Bool} {k : Nat} : noneP p (k + 1) = (noneP p k && !p k) := by
  rw [Bool.eq_iff_iff, noneP_iff, Bool.and_eq_true, noneP_iff, Bool.not_eq_true']
  exact ⟨fun h => ⟨fun j hj => h j (by omega), h k (by omega)⟩, fun h j hj => by
    rcases Nat.lt_or_ge j k with h1 | h1
    · exact h.1 j h1
    · obtain rfl : j = k := by omega
      exact h.2⟩
theorem noneP_zero {p : Nat → Bool} : noneP p 0 = true := noneP_iff.2 fun k hk => absurd hk (Nat.not_lt_zero _)
theorem pvW_succ {w : Bool} {ts : List Int} {xv : Int} {k : Nat} : pvW w ts xv (k + 1) = bif pvW w ts xv k then true else (elI ts (k : Int) == xv) := by
  unfold pvW
  rw [noneP_succ, show eqI ts xv k = (elI ts (k : Int) == xv) from Bool.beq_comm]
  cases w <;> cases noneP (eqI ts xv) k <;> cases (elI ts (k : Int) == xv) <;> rfl
theorem ep_round {m : Mac} {p q : Bool} {o g : Lo Mac} {a b : Bool} {ts : List Int} {xd xs : Mac} {xv xt : Int} {d : Lo Int} {w : Bool} {k : Nat} (hk : k < ts.length) (hl : ts.length ≤ 100000) :
    (epR (m, p, q, o, g, some (a, b, ts)) (xd, xs, xv, xt, d) (pvW w ts xv k) (k : Int)).get = some (.normal, epS (m, p, q, o, g, some (a, b, ts)) (xd, xs, xv, xt, d) (pvW w ts xv (k + 1)) ((k + 1 : Nat) : Int)) := by
  rw [ep_tree, pvW_succ, decide_eq_true (show (k : Int) < (ts.length : Int) by omega), inB_mk (i := (k : Int)) (n := ts.length) ⟨by omega, by omega⟩, decide_eq_true (show ((k : Nat) : Int).toNat < ts.length by omega), inR64_mk (r := (k : Int) + 1) (by omega)]
  cases pvW w ts xv k <;> rfl
theorem ep_end {m : Mac} {p q : Bool} {o g : Lo Mac} {a b : Bool} {ts : List Int} {xd xs : Mac} {xv xt : Int} {d : Lo Int} {w : Bool} : (epR (m, p, q, o, g, some (a, b, ts)) (xd, xs, xv, xt, d) w (ts.length : Int)).get = some (.exit 0, epS (m, p, q, o, g, some (a, b, ts)) (xd, xs, xv, xt, d) w (ts.length : Int)) := by
  rw [ep_tree, decide_eq_false (Int.lt_irrefl _)]; rfl
theorem ep_nil (m : Mac) (p q : Bool) (o g : Lo Mac) (xd xs : Mac) (xv xt : Int) (d : Lo Int) (w : Bool) : (epR (m, p, q, o, g, none) (xd, xs, xv, xt, d) w 0).get = some (.exit 0, epS (m, p, q, o, g, none) (xd, xs, xv, xt, d) w 0) := by cases o <;> cases g <;> cases d <;> kernel_rfl
theorem ep_loop : loopOf Try.prog 28 0 = some (((loopOf Try.prog 28 0).get!).1, (loopOf Try.prog 28 0).get!.2) := by kernel_rfl
theorem epS_len (F : Fv) (x : Rv) (w : Bool) (K : Int) : (epS F x w K).2.length = epN F x := by
  obtain ⟨m, p, q, o, g, v⟩ := F
  obtain ⟨xd, xs, xv, xt, d⟩ := x
  cases o <;> cases g <;> cases v <;> cases d <;> rfl
def epLoop : LoopFn C24 := fun li => match li with
  | ⟨[.h 0, .h 1, .raw (.bool w), .raw (.int .i64 (.ofNat 0)), .raw (.bool false)], nb, .box cs 26 :: .box ds 43 :: os⟩ => match decF cs 2 os with
    | some (((x0, x1, x2, x3, x4, x5), p, q, o, g, v), os1) => match decR ds (fltN ((x0, x1, x2, x3, x4, x5), p, q, o, g, v) 2) os1 with
      | some (((y0, y1, y2, y3, y4, y5), (z0, z1, z2, z3, z4, z5), vl, ty, d), []) => match Nat.beq nb (epN ((x0, x1, x2, x3, x4, x5), p, q, o, g, v) ((y0, y1, y2, y3, y4, y5), (z0, z1, z2, z3, z4, z5), vl, ty, d)) with
        | true => .br (decide ((lo v).length ≤ 100000)) (.leaf (.exit 0, epS ((x0, x1, x2, x3, x4, x5), p, q, o, g, v) ((y0, y1, y2, y3, y4, y5), (z0, z1, z2, z3, z4, z5), vl, ty, d) (pvW w (lo v) vl (lo v).length) ((lo v).length : Int))) .fail
        | false => .fail
      | _ => .fail
    | _ => .fail
  | _ => .fail
theorem epLoop_ok : ∀ tm hp n x, (loopS [4, 5, 7, 8, 6] [] epLoop tm hp n).get = some x → InLoop Try.prog ((loopOf Try.prog 28 0).get!).1 (loopOf Try.prog 28 0).get!.2 tm hp n fun e tm hp n => (e, tm, hp, n) = x := loopS_of fun li r h => by
  unfold epLoop at h
  split at h
  · rename_i w nb cs ds os
    split at h
    · rename_i x0 x1 x2 x3 x4 x5 p q o g v os1 hF
      obtain ⟨rfl, rfl⟩ := decF_eq hF
      split at h
      · rename_i y0 y1 y2 y3 y4 y5 z0 z1 z2 z3 z4 z5 vl ty d hR
        obtain ⟨rfl, rfl⟩ := decR_eq hR
        split at h
        · rename_i hb
          obtain rfl := Nat.eq_of_beq_eq_true hb
          obtain ⟨hs, h2⟩ := Tr.get_ask.1 h
          have hs : (lo v).length ≤ 100000 := of_decide_eq_true hs
          simp only [Tr.get, Option.some.injEq] at h2
          subst h2
          have e1 : Sx.LI.mk [SV.h 0, SV.h 1, .raw (.bool w), .raw (.int .i64 (.ofNat 0)), .raw (.bool false)] (epN ((x0, x1, x2, x3, x4, x5), p, q, o, g, v) ((y0, y1, y2, y3, y4, y5), (z0, z1, z2, z3, z4, z5), vl, ty, d)) (.box (fltC ((x0, x1, x2, x3, x4, x5), p, q, o, g, v) 2) 26 :: .box (frmC ((y0, y1, y2, y3, y4, y5), (z0, z1, z2, z3, z4, z5), vl, ty, d) (fltN ((x0, x1, x2, x3, x4, x5), p, q, o, g, v) 2)) 43 :: (fltO ((x0, x1, x2, x3, x4, x5), p, q, o, g, v) ++ (obB d ++ []))) = ⟨(epS ((x0, x1, x2, x3, x4, x5), p, q, o, g, v) ((y0, y1, y2, y3, y4, y5), (z0, z1, z2, z3, z4, z5), vl, ty, d) (pvW w (lo v) vl 0) ((0 : Nat) : Int)).1, epN ((x0, x1, x2, x3, x4, x5), p, q, o, g, v) ((y0, y1, y2, y3, y4, y5), (z0, z1, z2, z3, z4, z5), vl, ty, d), (epS ((x0, x1, x2, x3, x4, x5), p, q, o, g, v) ((y0, y1, y2, y3, y4, y5), (z0, z1, z2, z3, z4, z5), vl, ty, d) (pvW w (lo v) vl 0) ((0 : Nat) : Int)).2⟩ := by
            rw [List.append_nil, show pvW w (lo v) vl 0 = w by unfold pvW; rw [noneP_zero]; cases w <;> rfl]; rfl
          rw [e1]
          refine ⟨keeps_same (epS_len ((x0, x1, x2, x3, x4, x5), p, q, o, g, v) ((y0, y1, y2, y3, y4, y5), (z0, z1, z2, z3, z4, z5), vl, ty, d) w 0).symm, ?_⟩
          refine loop_li (σ := Nat) (st := fun k => epS ((x0, x1, x2, x3, x4, x5), p, q, o, g, v) ((y0, y1, y2, y3, y4, y5), (z0, z1, z2, z3, z4, z5), vl, ty, d) (pvW w (lo v) vl k) (k : Int)) (Inv := fun k => k ≤ (lo v).length) (μ := fun k => (lo v).length - k) (d := 10) (unr := fun _ _ => 20) (sp := noSp) (ls := noLs) plain mixed noSp_ok noLs_ok ep_loop (fun k hk => ?_) 0 (Nat.zero_le _)
          by_cases h5 : k < (lo v).length
          · cases v with
            | none => exact absurd h5 (Nat.not_lt_zero _)
            | some y => obtain ⟨a, b, ts⟩ := y; exact ⟨_, ep_round h5 hs, fun _ => ⟨k + 1, by omega, by omega, rfl⟩, nofun⟩
          · obtain rfl : k = (lo v).length := by omega
            cases v with
            | none => exact ⟨_, ep_nil _ p q o g _ _ vl ty d _, nofun, fun _ => ⟨rfl, rfl⟩⟩
            | some y => obtain ⟨a, b, ts⟩ := y; exact ⟨_, ep_end, nofun, fun _ => ⟨rfl, rfl⟩⟩
        · cases h
      · cases h
    · cases h
  · cases h
def sfRp : SpecT C24 := addS 27 (seeS rckT) noSp
theorem sfRp_ok : SpecTOk Try.prog sfRp := addS_ok (seeS_ok rckT_ok) noSp_ok
def lsRp : LoopT C24 := Sx.addL 28 0 (loopS [4, 5, 7, 8, 6] [] epLoop) (Sx.addL 51 0 (loopS [0, 3, 5, 4] [] eaLoop) noLs)
theorem lsRp_ok : LoopTOk Try.prog lsRp := addL_ok ep_loop epLoop_ok (addL_ok ea_loop eaLoop_ok noLs_ok)
abbrev unRp (g b : Nat) : Nat := match g, b with
  | 28, 0 => 0 | 51, 0 => 0 | _, _ => 20
abbrev f24Rp (feats : Int) (F : Fv) (x : Rv) := fnC C24 Try.prog sfRp lsRp unRp 10 28 [.raw (.int .u64 feats), .agg (fltC F 0), .agg (frmC x (fltN F 0))] (fltO F ++ obB x.2.2.2.2)
end
end Go.Proofs.Ytgepgnjjhgmfnaa
namespace Go.Proofs.Ytgepgnjjhgmfnaa
open Go Go.Sx Go.RowKit
set_option maxRecDepth 1000000
set_option maxHeartbeats 8000000
set_option linter.unusedVariables false
set_option linter.unusedSimpArgs false
noncomputable section
abbrev pT : Option (SV × List (SO C24)) := some (.raw (.bool true), [])
abbrev pF : Option (SV × List (SO C24)) := some (.raw (.bool false), [])
abbrev amX (l : Lo Mac) (x : Mac) : Option (SV × List (SO C24)) := bro (decide ((lo l).length ≤ (100000 : Nat))) (bro (noneP (eqA (lo l) x) (lo l).length) pF pT) none
abbrev alX (l : Lo Mac) (x : Mac) : Option (SV × List (SO C24)) := bro (x.1 != 255) (amX l x) (bro (x.2.1 != 255) (amX l x) (bro (x.2.2.1 != 255) (amX l x) (bro (x.2.2.2.1 != 255) (amX l x) (bro (x.2.2.2.2.1 != 255) (amX l x) (bro (x.2.2.2.2.2 != 255) (amX l x) pT)))))
abbrev grX (p q : Bool) (g : Lo Mac) (x : Mac) : Option (SV × List (SO C24)) := bro p pT (bro q pT (alX g x))
abbrev onX (m : Mac) (p : Bool) (o : Lo Mac) (x : Mac) : Option (SV × List (SO C24)) := bro p pT (bro (eqM m x) pT (amX o x))
theorem rp_tree (feats : Int) (m : Mac) (p q : Bool) (o g : Lo Mac) (v : Lo Int) (xd xs : Mac) (xv xt : Int) (d : Lo Int) : (f24Rp feats (m, p, q, o, g, v) (xd, xs, xv, xt, d)).get =
  bro (smF (m, p, q, lo o, lo g, lo v)) (bro (okF (m, p, q, lo o, lo g, lo v)) (bro (decide (xv < (-1 : Int))) pF (bro (decide ((4095 : Int) < xv)) pF (bro (xt == (33024 : Int)) pF (bro (decide ((1500 : Int) < ((lo d).length : Int))) pF (bro (!(shrV IntKind.u64 feats ((19 : Int) % (18446744073709551616 : Int))).tmod (2 : Int) == (1 : Int)) (bro (decide ((lo v).length ≤ (100000 : Nat))) (bro (xd.1.tmod (2 : Int) == (1 : Int)) (grX p q g xd) (onX m p o xd)) none) (bro (decide ((lo v).length ≤ (100000 : Nat))) (bro (xd.1.tmod (2 : Int) == (1 : Int)) (bro (pvW (decide (xv < (0 : Int))) (lo v) xv (lo v).length) (grX p q g xd) pF) (bro (pvW (decide (xv < (0 : Int))) (lo v) xv (lo v).length) (onX m p o xd) pF)) none)))))) pF) none := by cases o <;> cases g <;> cases v <;> cases d <;> kernel_rfl
theorem and1_64 {y : Int} (h : 0 ≤ y) : (bitsV IntKind.u64 BinOp.and y 1 == 1) = (y.tmod 2 == 1) := by
  have e : bitsV IntKind.u64 BinOp.and y 1 = ((BitVec.ofInt 64 y &&& 1#64).toNat : Int) % 18446744073709551616 := rfl
  have e2 : (BitVec.ofInt 64 y &&& 1#64).toNat = (y % 18446744073709551616).toNat % 2 := by
    rw [BitVec.toNat_and, BitVec.toNat_ofInt]
    exact Nat.and_one_is_mod _
  rw [e, e2, Int.tmod_eq_emod_of_nonneg h, Bool.eq_iff_iff, beq_iff_eq, beq_iff_eq]
  omega
theorem and1_8 {y : Int} (h : 0 ≤ y) : (bitsV IntKind.u8 BinOp.and y 1 == 1) = (y.tmod 2 == 1) := by
  have e : bitsV IntKind.u8 BinOp.and y 1 = ((BitVec.ofInt 8 y &&& 1#8).toNat : Int) % 256 := rfl
  have e2 : (BitVec.ofInt 8 y &&& 1#8).toNat = (y % 256).toNat % 2 := by
    rw [BitVec.toNat_and, BitVec.toNat_ofInt]
    exact Nat.and_one_is_mod _
  rw [e, e2, Int.tmod_eq_emod_of_nonneg h, Bool.eq_iff_iff, beq_iff_eq, beq_iff_eq]
  omega
theorem has_ref {feats n : Int} (h : 0 ≤ feats) : ((shrV IntKind.u64 feats n).tmod 2 == 1) = hasB feats n := by
  unfold hasB
  rw [and1_64]
  unfold shrV
  exact Int.fdiv_nonneg h (Int.le_of_lt (Int.pow_pos (by decide)))
theorem alX_eq {l : Lo Mac} {x : Mac} (hl : (lo l).length ≤ 100000) : alX l x = some (.raw (.bool (sel (allM x) true (sel (noneP (eqA (lo l) x) (lo l).length) false true))), []) := by
  unfold alX amX allM eqM
  rw [decide_eq_true hl]
  obtain ⟨a, b, c, d, e, f⟩ := x
  generalize noneP (eqA (lo l) (a, b, c, d, e, f)) (lo l).length = n
  show bro (a != 255) _ (bro (b != 255) _ (bro (c != 255) _ (bro (d != 255) _ (bro (e != 255) _ (bro (f != 255) _ _))))) = some (SV.raw (.bool (sel (a == 255 && (b == 255 && (c == 255 && (d == 255 && (e == 255 && (f == 255 && true)))))) true (sel n false true))), [])
  unfold bne
  cases (a == 255) <;> cases (b == 255) <;> cases (c == 255) <;> cases (d == 255) <;> cases (e == 255) <;> cases (f == 255) <;> cases n <;> rfl
theorem amX_eq {l : Lo Mac} {x : Mac} (hl : (lo l).length ≤ 100000) : amX l x = some (.raw (.bool (sel (noneP (eqA (lo l) x) (lo l).length) false true)), []) := by
  unfold amX
  rw [decide_eq_true hl]
  cases noneP (eqA (lo l) x) (lo l).length <;> rfl
theorem rp_get {feats : Int} {m : Mac} {p q : Bool} {o g : Lo Mac} {v : Lo Int} {xd xs : Mac} {xv xt : Int} {d : Lo Int} (hf : 0 ≤ feats) (hx : 0 ≤ xd.1) (hs : smF (m, p, q, lo o, lo g, lo v) = true) : (f24Rp feats (m, p, q, o, g, v) (xd, xs, xv, xt, d)).get = some (.raw (.bool (passP feats (m, p, q, lo o, lo g, lo v) (xd, xs, xv, xt, lo d))), []) := by
  have hl : (lo o).length ≤ 100000 ∧ (lo g).length ≤ 100000 ∧ (lo v).length ≤ 100000 := of_decide_eq_true hs
  rw [rp_tree, hs, bro_true, decide_eq_true hl.2.2]
  unfold passP tailP grX onX
  rw [alX_eq hl.2.1, amX_eq hl.1, show (19 : Int) % (18446744073709551616 : Int) = 19 from rfl]
  have eh : ((shrV IntKind.u64 feats 19).tmod 2 == 1) = hasB feats 19 := has_ref hf
  have eg : (xd.1.tmod 2 == 1) = grpM xd := (and1_8 hx).symm
  rw [eh, eg]
  unfold pvW
  show bro (okF (m, p, q, lo o, lo g, lo v)) _ _ = some (SV.raw (.bool (sel (okF (m, p, q, lo o, lo g, lo v)) (sel (decide (xv < -1)) false (sel (decide ((4095 : Int) < xv)) false (sel (xt == 33024) false (sel (decide ((1500 : Int) < ((lo d).length : Int))) false (sel (hasB feats 19) (sel (decide ((0 : Int) ≤ xv)) (sel (noneP (eqI (lo v) xv) (lo v).length) false _) _) _))))) false)), [])
  have e0 : decide ((0 : Int) ≤ xv) = !decide (xv < 0) := by
    by_cases h : xv < 0
    · rw [decide_eq_true h, decide_eq_false (by omega)]; rfl
    · rw [decide_eq_false h, decide_eq_true (by omega)]; rfl
  rw [e0]
  cases okF (m, p, q, lo o, lo g, lo v) <;> cases decide (xv < -1) <;> cases decide ((4095 : Int) < xv) <;> cases (xt == 33024) <;> cases decide ((1500 : Int) < ((lo d).length : Int)) <;> first | rfl | skip
  generalize noneP (eqI (lo v) xv) (lo v).length = n1
  generalize noneP (eqA (lo g) xd) (lo g).length = n2
  generalize noneP (eqA (lo o) xd) (lo o).length = n3
  generalize allM xd = al
  generalize eqM m xd = em
  cases hasB feats 19 <;> cases decide (xv < 0) <;> cases grpM xd <;> cases p <;> cases q <;> cases n1 <;> cases n2 <;> cases n3 <;> cases al <;> cases em <;> rfl
def rpassT : FnF C24 := fun args os => match args with
  | [.raw (.int .u64 feats), .agg cs, .agg ds] => match decF cs 0 os with
    | some (((x0, x1, x2, x3, x4, x5), p, q, o, g, v), os1) => match decR ds (fltN ((x0, x1, x2, x3, x4, x5), p, q, o, g, v) 0) os1 with
      | some (((y0, y1, y2, y3, y4, y5), (z0, z1, z2, z3, z4, z5), vl, ty, d), []) => withL o fun ol => withL g fun gl => withL v fun l => withL d fun dl =>
        .br (smF ((x0, x1, x2, x3, x4, x5), p, q, ol, gl, l)) (.br (decide (0 ≤ feats ∧ 0 ≤ y0)) (.leaf (.raw (.bool (passP feats ((x0, x1, x2, x3, x4, x5), p, q, ol, gl, l) ((y0, y1, y2, y3, y4, y5), (z0, z1, z2, z3, z4, z5), vl, ty, dl))), [])) .fail) .fail
      | _ => .fail
    | none => .fail
  | _ => .fail
theorem rpassT_ok : ∀ args os r, (rpassT args os).get = some r → Fn0 Try.prog 28 args os r := fun args os r h => by
  unfold rpassT at h
  split at h
  · rename_i feats cs ds
    split at h
    · rename_i x0 x1 x2 x3 x4 x5 p q o g v os1 hF
      split at h
      · rename_i y0 y1 y2 y3 y4 y5 z0 z1 z2 z3 z4 z5 vl ty d hR
        obtain ⟨rfl, rfl⟩ := decF_eq hF
        obtain ⟨rfl, e2⟩ := decR_eq hR
        rw [List.append_nil] at e2
        subst e2
        simp only [withL_eq] at h
        obtain ⟨hs, h2⟩ := Tr.get_ask.1 h
        obtain ⟨h3, h4⟩ := Tr.get_ask.1 h2
        have h3 : 0 ≤ feats ∧ 0 ≤ y0 := of_decide_eq_true h3
        exact fnC_ok (sp := sfRp) (ls := lsRp) (unr := unRp) (d := 10) plain mixed sfRp_ok lsRp_ok ((rp_get (xs := (z0, z1, z2, z3, z4, z5)) (d := d) h3.1 (xd := (y0, y1, y2, y3, y4, y5)) h3.2 hs).trans h4)
      · cases h
    · cases h
  · cases h
end
end Go.Proofs.Ytgepgnjjhgmfnaa
namespace Go.Proofs.Ytgepgnjjhgmfnaa
open Go Go.Sx Go.RowKit
set_option maxRecDepth 1000000
set_option maxHeartbeats 8000000
set_option linter.unusedVariables false
set_option linter.unusedSimpArgs false
noncomputable section
abbrev tbA (f : Bool) (r : List Int) (n K : Int) : List SV × List (SO C24) := ([.h 0, .raw (.int .u64 n), nlS, .raw (.int .i64 K)], [.sl false f 5 r])
abbrev tbB (f : Bool) (r : List Int) (ms : List Mac) (n K : Int) : List SV × List (SO C24) := ([.h 0, .raw (.int .u64 n), .h 1, .raw (.int .i64 K)], [.sl false f 5 r, .sl true false 22 ms])
abbrev tbR (s : List SV × List (SO C24)) := roundG C24 Try.prog noSp noLs (fun _ _ => 20) 10 54 0 [0, 5, 6, 7] ⟨s.1, 1, s.2⟩
end
end Go.Proofs.Ytgepgnjjhgmfnaa
namespace Go.Proofs.Ytgepgnjjhgmfnaa
open Go Go.Sx Go.RowKit
set_option maxRecDepth 1000000
set_option maxHeartbeats 8000000
set_option linter.unusedVariables false
noncomputable section
abbrev mSlots : List Nat := [0, 3, 4, 7]
/-- Nothing read; the first one missed; some read. -/
abbrev mStA (o f bad : Bool) (r : List Int) (n K : Int) : List SV × List (SO C24) := ([.h 0, .raw (.slice none 0 0), .raw (.int .u64 n), .raw (.int .u64 K)], [.box [.h 1, .raw (.bool bad)] 62, .sl o f 5 r])
abbrev mStM (o f g : Bool) (r : List Int) (ms : List Mac) (n K : Int) : List SV × List (SO C24) := ([.h 0, .h 2, .raw (.int .u64 n), .raw (.int .u64 K)], [.box [.h 1, .raw (.bool true)] 62, .sl o f 5 r, .sl true g 22 ms])
abbrev mStB (o f g bad : Bool) (r s : List Int) (ms : List Mac) (n K : Int) : List SV × List (SO C24) := ([.h 0, .h 2, .raw (.int .u64 n), .raw (.int .u64 K)], [.box [.h 3, .raw (.bool bad)] 62, .sl o f 5 r, .sl true g 22 ms, .sl false f 5 s])
abbrev mRA (o f bad : Bool) (r : List Int) (n K : Int) := roundG C24 Try.prog noSp noLs (fun _ _ => 20) 10 59 2 mSlots ⟨(mStA o f bad r n K).1, 2, (mStA o f bad r n K).2⟩
abbrev mRM (o f g : Bool) (r : List Int) (ms : List Mac) (n K : Int) := roundG C24 Try.prog noSp noLs (fun _ _ => 20) 10 59 2 mSlots ⟨(mStM o f g r ms n K).1, 2, (mStM o f g r ms n K).2⟩
abbrev mRB (o f g bad : Bool) (r s : List Int) (ms : List Mac) (n K : Int) := roundG C24 Try.prog noSp noLs (fun _ _ => 20) 10 59 2 mSlots ⟨(mStB o f g bad r s ms n K).1, 2, (mStB o f g bad r s ms n K).2⟩
/-- The first six bytes, and the rest. -/
abbrev c6 (r : List Int) : List Int := List.take (Int.toNat 6) r
abbrev d6 (r : List Int) : List Int := List.drop (Int.toNat 6) r
abbrev macAt (l : List Int) : Mac := (l.getD 0 0, l.getD (0 + 1) 0, l.getD (0 + 1 + 1) 0, l.getD (0 + 1 + 1 + 1) 0, l.getD (0 + 1 + 1 + 1 + 1) 0, l.getD (0 + 1 + 1 + 1 + 1 + 1) 0)
end
end Go.Proofs.Ytgepgnjjhgmfnaa
namespace Go.Proofs.Ytgepgnjjhgmfnaa
open Go Go.Sx Go.RowKit
set_option maxRecDepth 1000000
set_option maxHeartbeats 8000000
set_option linter.unusedVariables false
set_option linter.unusedSimpArgs false
noncomputable section
theorem tbA_end (f : Bool) (r : List Int) (n K : Int) : Tr.follow [Tt,Ff] (tbR (tbA f r n K)) =
  some ([inR64 n,decide (K < n)],
  (.exit 0, tbA f r n K)) := by kernel_rfl
theorem tbA_go (f : Bool) (r : List Int) (n K : Int) : Tr.follow [Tt,Tt,Tt,Tt,Tt,Tt,Tt,Tt,Tt,Ff,Tt] (tbR (tbA f r n K)) =
  some ([inR64 n,decide (K < n),Tt,inR64 ((6 : Int) * K),inR64 ((6 : Int) * K),inR64 ((6 : Int) * K + (6 : Int)),cutB (some ((6 : Int) * K)) (some ((6 : Int) * K + (6 : Int))) r.length,decide ((intO (↑(6 : Nat) : Int) none).toNat - (intO (0 : Int) none).toNat ≤ (cutL r (some ((6 : Int) * K)) (some ((6 : Int) * K + (6 : Int)))).length),Tt,Ff,inR64 (K + (1 : Int))],
  (.normal, tbB f r [(macAt (cutL r (some (6 * K)) (some (6 * K + 6))))] n (K + 1))) := by kernel_rfl
theorem tbB_end (f : Bool) (r : List Int) (ms : List Mac) (n K : Int) : Tr.follow [Tt,Ff] (tbR (tbB f r ms n K)) =
  some ([inR64 n,decide (K < n)],
  (.exit 0, tbB f r ms n K)) := by kernel_rfl
theorem tbB_go (f : Bool) (r : List Int) (ms : List Mac) (n K : Int) : Tr.follow [Tt,Tt,Tt,Tt,Tt,Tt,Tt,Tt,Tt,Tt] (tbR (tbB f r ms n K)) =
  some ([inR64 n,decide (K < n),Tt,inR64 ((6 : Int) * K),inR64 ((6 : Int) * K),inR64 ((6 : Int) * K + (6 : Int)),cutB (some ((6 : Int) * K)) (some ((6 : Int) * K + (6 : Int))) r.length,decide ((intO (↑(6 : Nat) : Int) none).toNat - (intO (0 : Int) none).toNat ≤ (cutL r (some ((6 : Int) * K)) (some ((6 : Int) * K + (6 : Int)))).length),roomB (ms.length + [(macAt (cutL r (some (6 * K)) (some (6 * K + 6))))].length) Try.prog.types[(22 : Nat)].bytes,inR64 (K + (1 : Int))],
  (.normal, tbB f r (ms ++ [(macAt (cutL r (some (6 * K)) (some (6 * K + 6))))]) n (K + 1))) := by kernel_rfl
theorem by22 : Try.prog.types[(22 : Nat)].bytes ≤ 64 := of_decide_eq_true (by kernel_rfl)
theorem room22 {n : Nat} (h : n ≤ 100000) : roomB n Try.prog.types[(22 : Nat)].bytes = true := decide_eq_true (Nat.le_trans (Nat.mul_le_mul h by22) (by decide))
/-- The first addresses. -/
def tbl (r : List Int) : Nat → List Mac
  | 0 => []
  | j + 1 => tbl r j ++ [macAt (cutL r (some (6 * (j : Int))) (some (6 * (j : Int) + 6)))]
theorem tbl_len (r : List Int) (j : Nat) : (tbl r j).length = j := by
  induction j with
  | zero => rfl
  | succ j ih => show (tbl r j ++ [_]).length = _; rw [List.length_append, ih]; rfl
@[reducible] def tbS (f : Bool) (r : List Int) (n : Nat) : Nat → List SV × List (SO C24)
  | 0 => tbA f r (n : Int) 0
  | j + 1 => tbB f r (tbl r (j + 1)) (n : Int) ((j + 1 : Nat) : Int)
theorem tb_facts {r : List Int} {n j : Nat} (hj : j < n) (hr : 6 * n ≤ r.length) : cutB (some (6 * (j : Int))) (some (6 * (j : Int) + 6)) r.length = true ∧ (cutL r (some (6 * (j : Int))) (some (6 * (j : Int) + 6))).length = 6 := by
  constructor
  · exact bOk_mk (by omega)
  · rw [cutL_eq]
    show ((r.take (6 * (j : Int) + 6).toNat).drop (6 * (j : Int)).toNat).length = 6
    rw [List.length_drop, List.length_take]
    omega
theorem tb_round {f : Bool} {r : List Int} {n : Nat} (hn : n ≤ 32) (hr : 6 * n ≤ r.length) {j : Nat} (hj : j < n) : (tbR (tbS f r n j)).get = some (.normal, tbS f r n (j + 1)) := by
  obtain ⟨h1, h2⟩ := tb_facts hj hr
  have k1 : inR64 (n : Int) = true := inR64_mk (by omega)
  have k2 := decide_eq_true (show (j : Int) < (n : Int) by omega)
  have k3 : inR64 (6 * (j : Int)) = true := inR64_mk (by omega)
  have k4 : inR64 (6 * (j : Int) + 6) = true := inR64_mk (by omega)
  have k5 : inR64 ((j : Int) + 1) = true := inR64_mk (by omega)
  have k6 : decide ((intO (↑(6 : Nat) : Int) none).toNat - (intO (0 : Int) none).toNat ≤ (cutL r (some (6 * (j : Int))) (some (6 * (j : Int) + 6))).length) = true := decide_eq_true (by rw [h2]; show 6 - 0 ≤ 6; omega)
  cases j with
  | zero => exact Tr.follow_get (tbA_go f r (n : Int) ((0 : Nat) : Int)) (by simp only [k1, k2, k3, k4, k5, k6, h1])
  | succ j =>
    have k7 : ∀ x : Mac, roomB ((tbl r (j + 1)).length + [x].length) Try.prog.types[(22 : Nat)].bytes = true := fun x => room22 (by rw [tbl_len]; show j + 1 + 1 ≤ 100000; omega)
    exact Tr.follow_get (tbB_go f r (tbl r (j + 1)) (n : Int) ((j + 1 : Nat) : Int)) (by simp only [k1, k2, k3, k4, k5, k6, k7, h1])
theorem tb_end {f : Bool} {r : List Int} {n : Nat} (hn : n ≤ 32) : (tbR (tbS f r n n)).get = some (.exit 0, tbS f r n n) := by
  have k1 : inR64 (n : Int) = true := inR64_mk (by omega)
  have k2 : decide ((n : Int) < (n : Int)) = false := decide_eq_false (Int.lt_irrefl _)
  cases n with
  | zero => exact Tr.follow_get (tbA_end f r ((0 : Nat) : Int) 0) (by simp only [k1]; rfl)
  | succ j => exact Tr.follow_get (tbB_end f r _ ((j + 1 : Nat) : Int) ((j + 1 : Nat) : Int)) (by simp only [k1, k2])
theorem tb_loop : loopOf Try.prog 54 0 = some (((loopOf Try.prog 54 0).get!).1, (loopOf Try.prog 54 0).get!.2) := by kernel_rfl
theorem tb_run {f : Bool} {r : List Int} {n : Nat} (hn : n ≤ 32) (hr : 6 * n ≤ r.length) :
    Keeps 1 (tbS f r n 0).2 (tbS f r n n).2 ∧ LoopRun Try.prog ((loopOf Try.prog 54 0).get!).1 (loopOf Try.prog 54 0).get!.2 1 (LI.st [0, 5, 6, 7] ⟨(tbS f r n 0).1, 1, (tbS f r n 0).2⟩) fun x T => ∃ vs os, (x = .exit 0 ∧ (vs, os) = tbS f r n n) ∧ T = ⟨zipT [0, 5, 6, 7] vs, numH 0 os, os.length⟩ := by
  constructor
  · cases n <;> exact Keeps.of3 (by simp) rfl
  · refine loop_li (σ := Nat) (st := tbS f r n) (Inv := fun j => j ≤ n) (μ := fun j => n - j) (d := 10) (unr := fun _ _ => 20) (sp := noSp) (ls := noLs) plain mixed noSp_ok noLs_ok tb_loop (fun j hj => ?_) 0 (Nat.zero_le _)
    by_cases h5 : j < n
    · exact ⟨_, tb_round hn hr h5, fun _ => ⟨j + 1, by omega, by omega, rfl⟩, nofun⟩
    · obtain rfl : j = n := by omega
      exact ⟨_, tb_end hn, nofun, fun _ => ⟨rfl, rfl⟩⟩
def tbLeaf (f : Bool) (r : List Int) (n : Int) : Tr (Ex × List SV × List (SO C24)) := .br (decide (n = 0)) (.leaf (.exit 0, tbA f r n 0)) (.leaf (.exit 0, tbB f r (tbl r n.toNat) n n))
def tbLoop : LoopFn C24 := fun li => match li with
  | ⟨[.h 0, .raw (.int .u64 n), .raw (.slice none 0 0), .raw (.int .i64 (.ofNat 0))], 1, [.sl false f 5 r]⟩ => .br (decide (0 ≤ n ∧ n ≤ 32 ∧ 6 * n ≤ (r.length : Int))) (tbLeaf f r n) .fail
  | _ => .fail
theorem tbLoop_ok : ∀ tm hp n x, (loopS [0, 5, 6, 7] [] tbLoop tm hp n).get = some x → InLoop Try.prog ((loopOf Try.prog 54 0).get!).1 (loopOf Try.prog 54 0).get!.2 tm hp n fun e tm hp n => (e, tm, hp, n) = x := loopS_of fun li r h => by
  unfold tbLoop at h
  split at h
  · rename_i n f rr
    obtain ⟨h1, h2⟩ := Tr.get_ask.1 h
    have h1 : 0 ≤ n ∧ n ≤ 32 ∧ 6 * n ≤ ((rr : List Int).length : Int) := of_decide_eq_true h1
    obtain ⟨N, rfl⟩ := Int.eq_ofNat_of_zero_le h1.1
    have e : (tbLeaf f rr (N : Int)).get = some (.exit 0, tbS f rr N N) := by
      unfold tbLeaf
      cases N with
      | zero => rfl
      | succ j => rw [decide_eq_false (show ¬ (((j + 1 : Nat) : Int) = 0) by omega)]; rfl
    have hr := Option.some.inj (h2.symm.trans e)
    subst hr
    have h9 : 6 * (N : Int) ≤ ((List.length (α := Int) rr : Nat) : Int) := h1.2.2
    have h8 : 6 * N ≤ List.length (α := Int) rr := by omega
    exact tb_run (f := f) (r := rr) (n := N) (by omega) h8
  · cases h
end
end Go.Proofs.Ytgepgnjjhgmfnaa
namespace Go.Proofs.Ytgepgnjjhgmfnaa
open Go Go.Sx Go.RowKit
set_option maxRecDepth 1000000
set_option maxHeartbeats 8000000
set_option linter.unusedVariables false
set_option linter.unusedSimpArgs false
noncomputable section
abbrev F0 : Fv := (mac0, false, false, none, none, none)
@[reducible] def rvA (F : Fv) (n : Int) (put : Bool) (i : Int) : List SV × List (SO C24) := ([.h 0, .h 1, .raw (.int .i64 n), nlS, .raw (.bool put), .raw (.int .i64 i)], .box (fltC F 2) 26 :: .box (fltC F0 0) 26 :: fltO F)
@[reducible] def rvB (F : Fv) (n : Int) (us : List Int) (put : Bool) (i : Int) : List SV × List (SO C24) := ([.h 0, .h 1, .raw (.int .i64 n), .h (fltN F 2), .raw (.bool put), .raw (.int .i64 i)], .box (fltC F 2) 26 :: .box (fltC F0 0) 26 :: (fltO F ++ [.sl true false 3 us]))
abbrev rvR (F : Fv) (s : List SV × List (SO C24)) := roundG C24 Try.prog noSp noLs (fun _ _ => 20) 10 34 1 [4, 6, 18, 19, 20, 21] ⟨s.1, fltN F 2, s.2⟩
end
end Go.Proofs.Ytgepgnjjhgmfnaa
namespace Go.Proofs.Ytgepgnjjhgmfnaa
open Go Go.Sx Go.RowKit
set_option maxRecDepth 1000000
set_option maxHeartbeats 8000000
set_option linter.unusedVariables false
set_option linter.unusedSimpArgs false
noncomputable section
def opq24 {α : Type} (a : α) : α := Classical.choose (⟨a, rfl⟩ : ∃ x, x = a)
theorem opq24_eq {α : Type} (a : α) : opq24 a = a := Classical.choose_spec (⟨a, rfl⟩ : ∃ x, x = a)
abbrev vX := Option (Ex × List SV × List (SO C24))
@[reducible] noncomputable def in2 (ts : List Int) (i : Int) (X : vX) : vX := bro (inB i ts.length) (bro (decide (i.toNat < ts.length)) X none) none
@[reducible] noncomputable def nxA (F : Fv) (n : Int) (put : Bool) (i : Int) : vX := bro (inR64 (i + 1)) (some (.normal, rvA F n put (i + 1))) (some (.normal, rvA F n put (IntKind.i64.wrap (i + 1))))
@[reducible] noncomputable def nxB (F : Fv) (n : Int) (us : List Int) (put : Bool) (i : Int) : vX := bro (inR64 (i + 1)) (some (.normal, rvB F n us put (i + 1))) (some (.normal, rvB F n us put (IntKind.i64.wrap (i + 1))))
noncomputable abbrev rm3 (k : Nat) : Bool := roomB k Try.prog.types[(3 : Nat)].bytes
@[reducible] noncomputable def qvA (F : Fv) (ts : List Int) (n : Int) (put : Bool) (i : Int) : vX := in2 ts i (bro (elI ts i != n) (in2 ts i (nxB F n [elI ts i] put i)) (nxA F n put i))
@[reducible] noncomputable def qvB (F : Fv) (ts us : List Int) (n : Int) (put : Bool) (i : Int) : vX := in2 ts i (bro (elI ts i != n) (in2 ts i (bro (rm3 (us.length + [elI ts i].length)) (nxB F n (us ++ [elI ts i]) put i) none)) (nxB F n us put i))
theorem rvA_tree (m : Mac) (p q a b : Bool) (o g : Lo Mac) (ts : List Int) (n : Int) (put : Bool) (i : Int) : (rvR (m, p, q, o, g, some (a, b, ts)) (rvA (m, p, q, o, g, some (a, b, ts)) n put i)).get =
  bro (decide (i < (ts.length : Int))) (bro put (in2 ts i (bro (decide (n ≤ elI ts i)) (in2 ts i (bro (elI ts i != n) (in2 ts i (nxB (m, p, q, o, g, some (a, b, ts)) n [n, elI ts i] false i)) (nxB (m, p, q, o, g, some (a, b, ts)) n [n] false i))) (qvA (m, p, q, o, g, some (a, b, ts)) ts n put i))) (qvA (m, p, q, o, g, some (a, b, ts)) ts n put i)) (some (.exit 1, rvA (m, p, q, o, g, some (a, b, ts)) n put i)) := by cases o <;> cases g <;> kernel_rfl
theorem rvB_tree (m : Mac) (p q a b : Bool) (o g : Lo Mac) (ts us : List Int) (n : Int) (put : Bool) (i : Int) : (rvR (m, p, q, o, g, some (a, b, ts)) (rvB (m, p, q, o, g, some (a, b, ts)) n us put i)).get =
  bro (decide (i < (ts.length : Int))) (bro put (in2 ts i (bro (decide (n ≤ elI ts i)) (bro (rm3 (us.length + [n].length)) (in2 ts i (bro (elI ts i != n) (in2 ts i (bro (rm3 ((us ++ [n]).length + [elI ts i].length)) (nxB (m, p, q, o, g, some (a, b, ts)) n (us ++ [n] ++ [elI ts i]) false i) none)) (nxB (m, p, q, o, g, some (a, b, ts)) n (us ++ [n]) false i))) none) (qvB (m, p, q, o, g, some (a, b, ts)) ts us n put i))) (qvB (m, p, q, o, g, some (a, b, ts)) ts us n put i)) (some (.exit 1, rvB (m, p, q, o, g, some (a, b, ts)) n us put i)) := by cases o <;> cases g <;> kernel_rfl
/-- One number of the filter: what is put, and whether there is still something to put. -/
noncomputable def vstep (n x : Int) (s : List Int × Bool) : List Int × Bool := match s.2 && decide (n ≤ x), x != n with
  | true, true => (s.1 ++ [n] ++ [x], false)
  | true, false => (s.1 ++ [n], false)
  | false, true => (s.1 ++ [x], s.2)
  | false, false => s
@[reducible] noncomputable def rvS (F : Fv) (n : Int) (s : List Int × Bool) (i : Int) : List SV × List (SO C24) := match s.1 with
  | [] => rvA F n s.2 i
  | x :: us => rvB F n (x :: us) s.2 i
theorem by3 : Try.prog.types[(3 : Nat)].bytes ≤ 64 := of_decide_eq_true (by kernel_rfl)
theorem rm3_ok {n : Nat} (h : n ≤ 100000) : rm3 n = true := decide_eq_true (Nat.le_trans (Nat.mul_le_mul h by3) (by decide))
theorem rv_round {m : Mac} {p q a b : Bool} {o g : Lo Mac} {ts : List Int} {n : Int} {s : List Int × Bool} (hs : s.1.length ≤ 90000) {k : Nat} (hk : k < ts.length) (hl : ts.length ≤ 100000) : (rvR (m, p, q, o, g, some (a, b, ts)) (rvS (m, p, q, o, g, some (a, b, ts)) n s (k : Int))).get = some (.normal, rvS (m, p, q, o, g, some (a, b, ts)) n (vstep n (elI ts (k : Int)) s) ((k + 1 : Nat) : Int)) := by
  have k1 := decide_eq_true (show (k : Int) < (ts.length : Int) by omega)
  have k2 := inB_mk (i := (k : Int)) (n := ts.length) ⟨by omega, by omega⟩
  have k3 := decide_eq_true (show ((k : Nat) : Int).toNat < ts.length by omega)
  have k4 := inR64_mk (r := (k : Int) + 1) (by omega)
  obtain ⟨us, put⟩ := s
  unfold vstep
  cases us with
  | nil =>
    refine (rvA_tree m p q a b o g ts n put (k : Int)).trans ?_
    unfold qvA in2 nxA nxB
    rw [k1, k2, k3, k4]
    cases put <;> cases decide (n ≤ elI ts (k : Int)) <;> cases (elI ts (k : Int) != n) <;> rfl
  | cons x us =>
    have hs : (x :: us).length ≤ 90000 := hs
    have r1 : rm3 ((x :: us).length + [n].length) = true := rm3_ok (by show (x :: us).length + 1 ≤ 100000; omega)
    have r2 : rm3 ((x :: us).length + [elI ts (k : Int)].length) = true := rm3_ok (by show (x :: us).length + 1 ≤ 100000; omega)
    have r3 : rm3 (((x :: us) ++ [n]).length + [elI ts (k : Int)].length) = true := rm3_ok (by rw [List.length_append]; show (x :: us).length + 1 + 1 ≤ 100000; omega)
    refine (rvB_tree m p q a b o g ts (x :: us) n put (k : Int)).trans ?_
    unfold qvB in2 nxB
    rw [k1, k2, k3, k4, r1, r2, r3]
    cases put <;> cases decide (n ≤ elI ts (k : Int)) <;> cases (elI ts (k : Int) != n) <;> rfl
/-- The numbers behind a command, read so far. -/
noncomputable def vf (n : Int) (put : Bool) (ts : List Int) (k : Nat) : List Int × Bool := (ts.take k).foldl (fun s x => vstep n x s) ([], put)
theorem vf_step {n : Int} {put : Bool} {ts : List Int} {k : Nat} (hk : k < ts.length) : vf n put ts (k + 1) = vstep n (elI ts (k : Int)) (vf n put ts k) := by
  unfold vf
  have e : elI ts (k : Int) = ts[k] := by
    show ts.getD k 0 = _
    rw [List.getD_eq_getElem?_getD, List.getElem?_eq_getElem hk]; rfl
  rw [List.take_add_one, List.getElem?_eq_getElem hk, List.foldl_append, e]; rfl
theorem vstep_len (n x : Int) (s : List Int × Bool) : (vstep n x s).1.length ≤ s.1.length + 2 := by
  unfold vstep
  cases s.2 && decide (n ≤ x) <;> cases (x != n) <;> simp
theorem vf_len {n : Int} {put : Bool} {ts : List Int} {k : Nat} (hk : k ≤ ts.length) : (vf n put ts k).1.length ≤ 2 * k := by
  induction k with
  | zero => exact Nat.le_refl _
  | succ k ih =>
    rw [vf_step (by omega)]
    have := vstep_len n (elI ts (k : Int)) (vf n put ts k)
    have := ih (by omega)
    omega
theorem rv_loop : loopOf Try.prog 34 1 = some (((loopOf Try.prog 34 1).get!).1, (loopOf Try.prog 34 1).get!.2) := by kernel_rfl
theorem rv_end {m : Mac} {p q a b : Bool} {o g : Lo Mac} {ts : List Int} {n : Int} {s : List Int × Bool} : (rvR (m, p, q, o, g, some (a, b, ts)) (rvS (m, p, q, o, g, some (a, b, ts)) n s (ts.length : Int))).get = some (.exit 1, rvS (m, p, q, o, g, some (a, b, ts)) n s (ts.length : Int)) := by
  have k1 : decide ((ts.length : Int) < (ts.length : Int)) = false := decide_eq_false (Int.lt_irrefl _)
  obtain ⟨us, put⟩ := s
  cases us with
  | nil => exact (rvA_tree m p q a b o g ts n put _).trans (by rw [k1]; rfl)
  | cons x us => exact (rvB_tree m p q a b o g ts (x :: us) n put _).trans (by rw [k1]; rfl)
theorem rv_nil (m : Mac) (p q : Bool) (o g : Lo Mac) (n : Int) (put : Bool) : (rvR (m, p, q, o, g, none) (rvA (m, p, q, o, g, none) n put 0)).get = some (.exit 1, rvA (m, p, q, o, g, none) n put 0) := by cases o <;> cases g <;> kernel_rfl
theorem rvS_keep (F : Fv) (n : Int) (put : Bool) (s : List Int × Bool) (i : Int) : Keeps (fltN F 2) (rvA F n put 0).2 (rvS F n s i).2 := by
  obtain ⟨m, p, q, o, g, v⟩ := F
  obtain ⟨us, put⟩ := s
  cases us <;> cases o <;> cases g <;> cases v <;> exact Keeps.of3 (Nat.le_of_ble_eq_true rfl) rfl
theorem rv_run {m : Mac} {p q : Bool} {o g : Lo Mac} {v : Lo Int} {n : Int} {put : Bool} (hl : (lo v).length ≤ 40000) :
    Keeps (fltN (m, p, q, o, g, v) 2) (rvA (m, p, q, o, g, v) n put 0).2 (rvS (m, p, q, o, g, v) n (vf n put (lo v) (lo v).length) ((lo v).length : Int)).2 ∧ LoopRun Try.prog ((loopOf Try.prog 34 1).get!).1 (loopOf Try.prog 34 1).get!.2 (fltN (m, p, q, o, g, v) 2) (LI.st [4, 6, 18, 19, 20, 21] ⟨(rvA (m, p, q, o, g, v) n put 0).1, fltN (m, p, q, o, g, v) 2, (rvA (m, p, q, o, g, v) n put 0).2⟩) fun x T => ∃ vs os, (x = .exit 1 ∧ (vs, os) = rvS (m, p, q, o, g, v) n (vf n put (lo v) (lo v).length) ((lo v).length : Int)) ∧ T = ⟨zipT [4, 6, 18, 19, 20, 21] vs, numH 0 os, os.length⟩ := by
  refine ⟨rvS_keep _ _ _ _ _, ?_⟩
  refine loop_li (σ := Nat) (st := fun k => rvS (m, p, q, o, g, v) n (vf n put (lo v) k) (k : Int)) (Inv := fun k => k ≤ (lo v).length) (μ := fun k => (lo v).length - k) (d := 10) (unr := fun _ _ => 20) (sp := noSp) (ls := noLs) plain mixed noSp_ok noLs_ok rv_loop (fun k hk => ?_) 0 (Nat.zero_le _)
  by_cases h5 : k < (lo v).length
  · cases v with
    | none => exact absurd h5 (Nat.not_lt_zero _)
    | some y =>
      obtain ⟨a, b, ts⟩ := y
      have h5 : k < ts.length := h5
      have hl : ts.length ≤ 40000 := hl
      have hv := vf_len (n := n) (put := put) (ts := ts) (k := k) (by omega)
      refine ⟨_, rv_round (s := vf n put ts k) (by omega) h5 (by omega), fun _ => ⟨k + 1, h5, by show ts.length - (k + 1) < ts.length - k; omega, ?_⟩, nofun⟩
      show rvS _ n (vstep n (elI ts (k : Int)) (vf n put ts k)) _ = rvS _ n (vf n put ts (k + 1)) _
      rw [vf_step h5]
  · obtain rfl : k = (lo v).length := by omega
    cases v with
    | none => exact ⟨_, rv_nil m p q o g n put, nofun, fun _ => ⟨rfl, rfl⟩⟩
    | some y => obtain ⟨a, b, ts⟩ := y; exact ⟨_, rv_end, nofun, fun _ => ⟨rfl, rfl⟩⟩
noncomputable def rvLeaf (F : Fv) (n : Int) (put : Bool) : Tr (Ex × List SV × List (SO C24)) := .br (decide ((opq24 (vf n put (lo F.2.2.2.2.2) (lo F.2.2.2.2.2).length)).1.length = 0)) (.leaf (.exit 1, rvA F n (opq24 (vf n put (lo F.2.2.2.2.2) (lo F.2.2.2.2.2).length)).2 ((lo F.2.2.2.2.2).length : Int))) (.leaf (.exit 1, rvB F n (opq24 (vf n put (lo F.2.2.2.2.2) (lo F.2.2.2.2.2).length)).1 (opq24 (vf n put (lo F.2.2.2.2.2) (lo F.2.2.2.2.2).length)).2 ((lo F.2.2.2.2.2).length : Int)))
theorem rvLeaf_get (F : Fv) (n : Int) (put : Bool) : (rvLeaf F n put).get = some (.exit 1, rvS F n (vf n put (lo F.2.2.2.2.2) (lo F.2.2.2.2.2).length) ((lo F.2.2.2.2.2).length : Int)) := by
  unfold rvLeaf
  simp only [opq24_eq]
  generalize vf n put (lo F.2.2.2.2.2) (lo F.2.2.2.2.2).length = s
  obtain ⟨us, put⟩ := s
  cases us with
  | nil => rfl
  | cons x us => rfl
noncomputable def rvLoop : LoopFn C24 := fun li => match li with
  | ⟨[.h 0, .h 1, .raw (.int .i64 n), .raw (.slice none 0 0), .raw (.bool put), .raw (.int .i64 (.ofNat 0))], nb, .box cs 26 :: .box [.raw (.int .u8 (.ofNat 0)), .raw (.int .u8 (.ofNat 0)), .raw (.int .u8 (.ofNat 0)), .raw (.int .u8 (.ofNat 0)), .raw (.int .u8 (.ofNat 0)), .raw (.int .u8 (.ofNat 0)), .raw (.bool false), .raw (.bool false), .raw (.slice none 0 0), .raw (.slice none 0 0), .raw (.slice none 0 0)] 26 :: os⟩ => match decF cs 2 os with
    | some (((x0, x1, x2, x3, x4, x5), p, q, o, g, v), []) => match Nat.beq nb (fltN ((x0, x1, x2, x3, x4, x5), p, q, o, g, v) 2) with
      | true => .br (decide ((lo v).length ≤ 40000)) (rvLeaf ((x0, x1, x2, x3, x4, x5), p, q, o, g, v) n put) .fail
      | false => .fail
    | _ => .fail
  | _ => .fail
theorem rvLoop_ok : ∀ tm hp n x, (loopS [4, 6, 18, 19, 20, 21] [] rvLoop tm hp n).get = some x → InLoop Try.prog ((loopOf Try.prog 34 1).get!).1 (loopOf Try.prog 34 1).get!.2 tm hp n fun e tm hp n => (e, tm, hp, n) = x := loopS_of fun li r h => by
  unfold rvLoop at h
  split at h
  · rename_i n put nb cs os
    split at h
    · rename_i x0 x1 x2 x3 x4 x5 p q o g v hF
      obtain ⟨rfl, rfl⟩ := decF_eq hF
      split at h
      · rename_i hb
        obtain rfl := Nat.eq_of_beq_eq_true hb
        obtain ⟨hs, h2⟩ := Tr.get_ask.1 h
        have hs : (lo v).length ≤ 40000 := of_decide_eq_true hs
        have hr := Option.some.inj (h2.symm.trans (rvLeaf_get _ _ _))
        subst hr
        rw [List.append_nil]
        exact rv_run hs
      · cases h
    · cases h
  · cases h
end
end Go.Proofs.Ytgepgnjjhgmfnaa
namespace Go.Proofs.Ytgepgnjjhgmfnaa
open Go Go.Sx Go.RowKit
set_option maxRecDepth 1000000
set_option maxHeartbeats 8000000
set_option linter.unusedVariables false
set_option linter.unusedSimpArgs false
noncomputable section
def lsRc : LoopT C24 := Sx.addL 54 0 (loopH [0] [0, 5, 6, 7] [] tbLoop) (Sx.addL 34 1 (loopS [4, 6, 18, 19, 20, 21] [] rvLoop) noLs)
theorem lsRc_ok : LoopTOk Try.prog lsRc := addL_ok tb_loop (loopH_ok tbLoop_ok) (addL_ok rv_loop rvLoop_ok noLs_ok)
abbrev unRc (g b : Nat) : Nat := match g, b with
  | 54, 0 => 0 | 34, 1 => 0 | _, _ => 20
abbrev f24Rc (feats : Int) (F : Fv) (b : Lo Int) := fnC C24 Try.prog sfRp lsRc unRc 10 34 [.raw (.int .u64 feats), .agg (fltC F 0), hS b (fltN F 0)] (fltO F ++ obB b)
end
end Go.Proofs.Ytgepgnjjhgmfnaa
namespace Go.Proofs.Ytgepgnjjhgmfnaa
open Go Go.Sx Go.RowKit
set_option maxRecDepth 1000000
set_option maxHeartbeats 8000000
set_option linter.unusedVariables false
set_option linter.unusedSimpArgs false
noncomputable section
theorem mA_end (o f bad : Bool) (r : List Int) (n K : Int) : Tr.follow [Ff,Ff,Ff,Ff,Ff,Ff,Ff] (mRA o f bad r n K) =
  some ([decide (K < n),Ff,Ff,Ff,Ff,Ff,Ff],
  (.exit 2, mStA o f bad r n K)) := by kernel_rfl
theorem mA_bad (f : Bool) (r : List Int) (n K : Int) : Tr.follow [Tt,Tt,Tt,Tt,Tt,Ff] (mRA false f true r n K) =
  some ([decide (K < n),Tt,Tt,Tt,Tt,Ff],
  (.exit 2, mStA false f true r n K)) := by kernel_rfl
theorem mA_ok (f : Bool) (r : List Int) (n K : Int) : Tr.follow [Tt,Tt,Tt,Tt,Tt,Tt,Ff,Ff,Ff,Ff,Ff,Ff,Ff,Ff,Tt,Tt,Tt,Tt,Tt,Tt,Ff] (mRA false f false r n K) =
  some ([decide (K < n),Tt,Tt,Tt,Tt,Tt,Ff,Ff,Ff,Ff,Ff,Ff,Ff,decide ((↑r.length : Int) < 6),cutB none (some 6) r.length,cutB (some 6) none r.length,decide ((6 : Nat) ≤ (c6 r).length) && decide ((0 : Nat) < (c6 r).length),decide ((0 : Nat) < (c6 r).length),decide ((0 : Nat) + Try.prog.types[(22 : Nat)].size / 1 ≤ (c6 r).length),Tt,Ff],
  (.normal, mStB false f false false r (d6 r) [macAt (c6 r)] n ((K + 1) % 18446744073709551616))) := by kernel_rfl
theorem mA_no (f : Bool) (r : List Int) (n K : Int) : Tr.follow [Tt,Tt,Tt,Tt,Tt,Tt,Ff,Ff,Ff,Ff,Ff,Ff,Ff,Tt,Tt,Tt,Tt,Tt,Tt,Tt,Ff] (mRA false f false r n K) =
  some ([decide (K < n),Tt,Tt,Tt,Tt,Tt,Ff,Ff,Ff,Ff,Ff,Ff,Ff,decide ((↑r.length : Int) < 6),Tt,Tt,Tt,Tt,Tt,Tt,Ff],
  (.normal, mStM false f false r [mac0] n ((K + 1) % 18446744073709551616))) := by kernel_rfl
theorem mM_end (o f g : Bool) (r : List Int) (ms : List Mac) (n K : Int) : Tr.follow [Ff,Ff,Ff,Ff,Ff,Ff,Ff] (mRM o f g r ms n K) =
  some ([decide (K < n),Ff,Ff,Ff,Ff,Ff,Ff],
  (.exit 2, mStM o f g r ms n K)) := by kernel_rfl
theorem mM_bad (o f g : Bool) (r : List Int) (ms : List Mac) (n K : Int) : Tr.follow [Tt,Tt,Tt,Tt,Tt,Ff] (mRM o f g r ms n K) =
  some ([decide (K < n),Tt,Tt,Tt,Tt,Ff],
  (.exit 2, mStM o f g r ms n K)) := by kernel_rfl
theorem mB_end (o f g bad : Bool) (r s : List Int) (ms : List Mac) (n K : Int) : Tr.follow [Ff,Ff,Ff,Ff,Ff,Ff,Ff] (mRB o f g bad r s ms n K) =
  some ([decide (K < n),Ff,Ff,Ff,Ff,Ff,Ff],
  (.exit 2, mStB o f g bad r s ms n K)) := by kernel_rfl
theorem mB_bad (o f g : Bool) (r s : List Int) (ms : List Mac) (n K : Int) : Tr.follow [Tt,Tt,Tt,Tt,Tt,Ff] (mRB o f g true r s ms n K) =
  some ([decide (K < n),Tt,Tt,Tt,Tt,Ff],
  (.exit 2, mStB o f g true r s ms n K)) := by kernel_rfl
theorem mB_ok (o f g : Bool) (r s : List Int) (ms : List Mac) (n K : Int) : Tr.follow [Tt,Tt,Tt,Tt,Tt,Tt,Ff,Ff,Ff,Ff,Ff,Ff,Ff,Ff,Tt,Tt,Tt,Tt,Tt,Tt] (mRB o f g false r s ms n K) =
  some ([decide (K < n),Tt,Tt,Tt,Tt,Tt,Ff,Ff,Ff,Ff,Ff,Ff,Ff,decide ((↑s.length : Int) < 6),cutB none (some 6) s.length,cutB (some 6) none s.length,decide ((6 : Nat) ≤ (c6 s).length) && decide ((0 : Nat) < (c6 s).length),decide ((0 : Nat) < (c6 s).length),decide ((0 : Nat) + Try.prog.types[(22 : Nat)].size / 1 ≤ (c6 s).length),roomB (ms.length + [macAt (c6 s)].length) Try.prog.types[(22 : Nat)].bytes],
  (.normal, mStB o f false false r (d6 s) (ms ++ [macAt (c6 s)]) n ((K + 1) % 18446744073709551616))) := by kernel_rfl
theorem mB_no (o f g : Bool) (r s : List Int) (ms : List Mac) (n K : Int) : Tr.follow [Tt,Tt,Tt,Tt,Tt,Tt,Ff,Ff,Ff,Ff,Ff,Ff,Ff,Tt,Tt,Tt,Tt,Tt,Tt,Tt] (mRB o f g false r s ms n K) =
  some ([decide (K < n),Tt,Tt,Tt,Tt,Tt,Ff,Ff,Ff,Ff,Ff,Ff,Ff,decide ((↑s.length : Int) < 6),Tt,Tt,Tt,Tt,Tt,roomB (ms.length + [mac0].length) Try.prog.types[(22 : Nat)].bytes],
  (.normal, mStB o f false true r s (ms ++ [mac0]) n ((K + 1) % 18446744073709551616))) := by kernel_rfl
theorem c6_eq (r : List Int) : c6 r = r.take 6 := rfl
theorem d6_eq (r : List Int) : d6 r = r.drop 6 := rfl
theorem size22 : Try.prog.types[(22 : Nat)].size = 6 := by kernel_rfl
/-- How many rounds, what was read, what is left, whether something missed; how it stands: 0 nothing, 1 missed at once, 2 some. -/
abbrev MS := Nat × List Mac × List Int × Bool × Nat
def finM : Nat → Nat → List Mac → List Int → Nat → MS
  | 0, K, ms, s, ph => (K, ms, s, false, ph)
  | j + 1, K, ms, s, ph => if (s.length : Int) < 6 then (K + 1, ms ++ [mac0], s, true, match ph with | 0 => 1 | _ => 2) else finM j (K + 1) (ms ++ [macAt (c6 s)]) (d6 s) 2
@[reducible] def mSt (f : Bool) (r : List Int) (n : Int) (x : MS) : List SV × List (SO C24) := match x.2.2.2.2 with
  | 0 => mStA false f false r n (x.1 : Int)
  | 1 => mStM false f false r x.2.1 n (x.1 : Int)
  | _ => mStB false f false x.2.2.2.1 r x.2.2.1 x.2.1 n (x.1 : Int)
/-- A state that may be met. -/
structure OkM (r : List Int) (n : Nat) (G : MS) (x : MS) : Prop where
  le : x.1 ≤ n
  len : x.2.1.length ≤ x.1
  ph0 : x.2.2.2.2 = 0 → x.2.2.2.1 = false ∧ x.2.1 = [] ∧ x.2.2.1 = r
  ph1 : x.2.2.2.2 = 1 → x.2.2.2.1 = true
  run : x.2.2.2.1 = false → finM (n - x.1) x.1 x.2.1 x.2.2.1 x.2.2.2.2 = G
  stop : x.2.2.2.1 = true → x = G
theorem m_loop : loopOf Try.prog 59 2 = some (((loopOf Try.prog 59 2).get!).1, (loopOf Try.prog 59 2).get!.2) := by kernel_rfl
theorem emod_u {k : Nat} (h : k ≤ 100) : ((k : Int) + 1) % 18446744073709551616 = ((k + 1 : Nat) : Int) := by omega
theorem m_run {f : Bool} {r : List Int} {n : Nat} (hn : n ≤ 32) {G : MS} (hG : finM n 0 [] r 0 = G) :
    LoopRun Try.prog ((loopOf Try.prog 59 2).get!).1 (loopOf Try.prog 59 2).get!.2 2 (LI.st mSlots ⟨(mSt f r (n : Int) (0, [], r, false, 0)).1, 2, (mSt f r (n : Int) (0, [], r, false, 0)).2⟩) fun x T => ∃ vs os, (x = .exit 2 ∧ (vs, os) = mSt f r (n : Int) G) ∧ T = ⟨zipT mSlots vs, numH 0 os, os.length⟩ := by
  refine loop_li (σ := MS) (st := mSt f r (n : Int)) (Inv := OkM r n G) (μ := fun x => n - x.1) (d := 10) (unr := fun _ _ => 20) (sp := noSp) (ls := noLs) plain mixed noSp_ok noLs_ok m_loop (fun x hx => ?_) (0, [], r, false, 0) ⟨Nat.zero_le _, Nat.le_refl _, fun _ => ⟨rfl, rfl, rfl⟩, nofun, fun _ => hG, nofun⟩
  obtain ⟨K, ms, s, bad, ph⟩ := x
  obtain ⟨h1, h2, h3, h4, h5, h6⟩ := hx
  simp only at h1 h2 h3 h4 h5 h6
  cases bad with
  | true =>
    have hS := h6 rfl
    subst hS
    match ph, h3 with
    | 0, h3 => exact absurd (h3 rfl).1 (by decide)
    | 1, _ =>
      by_cases hk : (K : Int) < (n : Int)
      · exact ⟨_, Tr.follow_get (mM_bad false f false r ms (n : Int) (K : Int)) (by simp only [decide_eq_true hk]), nofun, fun _ => ⟨rfl, rfl⟩⟩
      · exact ⟨_, Tr.follow_get (mM_end false f false r ms (n : Int) (K : Int)) (by simp only [decide_eq_false hk]), nofun, fun _ => ⟨rfl, rfl⟩⟩
    | ph + 2, _ =>
      by_cases hk : (K : Int) < (n : Int)
      · exact ⟨_, Tr.follow_get (mB_bad false f false r s ms (n : Int) (K : Int)) (by simp only [decide_eq_true hk]), nofun, fun _ => ⟨rfl, rfl⟩⟩
      · exact ⟨_, Tr.follow_get (mB_end false f false true r s ms (n : Int) (K : Int)) (by simp only [decide_eq_false hk]), nofun, fun _ => ⟨rfl, rfl⟩⟩
  | false =>
    have hrun := h5 rfl
    by_cases hk : (K : Int) < (n : Int)
    · have hkn : K < n := by omega
      have kk := decide_eq_true hk
      obtain ⟨j, hj⟩ : ∃ j, n - K = j + 1 := ⟨n - K - 1, by omega⟩
      have hj2 : n - (K + 1) = j := by omega
      rw [hj] at hrun
      unfold finM at hrun
      have room : ∀ m : Mac, roomB (ms.length + [m].length) Try.prog.types[(22 : Nat)].bytes = true := fun m => roomM (by simp; omega)
      have eu := emod_u (k := K) (by omega)
      by_cases h6' : (s.length : Int) < 6
      · rw [if_pos h6'] at hrun
        have k6 := decide_eq_true h6'
        match ph, h3, h4, hrun with
        | 0, h3, _, hrun =>
          obtain ⟨_, rfl, rfl⟩ := h3 rfl
          refine ⟨_, Tr.follow_get (mA_no f s (n : Int) (K : Int)) (by simp only [kk, k6]), fun _ => ⟨(K + 1, [mac0], s, true, 1), ⟨by omega, by simp, nofun, fun _ => rfl, nofun, fun _ => hrun⟩, by simp only; omega, ?_⟩, fun h => by cases h⟩
          rw [eu]; rfl
        | 1, _, h4, _ => exact absurd (h4 rfl) (by decide)
        | ph + 2, _, _, hrun =>
          refine ⟨_, Tr.follow_get (mB_no false f false r s ms (n : Int) (K : Int)) (by simp only [kk, k6, room]), fun _ => ⟨(K + 1, ms ++ [mac0], s, true, 2), ⟨by omega, by simp; omega, nofun, fun _ => rfl, nofun, fun _ => hrun⟩, by simp only; omega, ?_⟩, fun h => by cases h⟩
          rw [eu]; rfl
      · rw [if_neg h6'] at hrun
        have k6 := decide_eq_false h6'
        have b1 : cutB none (some (6 : Int)) s.length = true := bOk_mk (by omega)
        have b2 : cutB (some (6 : Int)) none s.length = true := bOk_mk (by omega)
        have hc : (c6 s).length = 6 := by rw [c6_eq, List.length_take]; omega
        have b3 : (decide ((6 : Nat) ≤ (c6 s).length) && decide ((0 : Nat) < (c6 s).length)) = true := by rw [hc]; rfl
        have b4 : decide ((0 : Nat) < (c6 s).length) = true := by rw [hc]; rfl
        have b5 : decide ((0 : Nat) + Try.prog.types[(22 : Nat)].size / 1 ≤ (c6 s).length) = true := by rw [hc, size22]; rfl
        match ph, h3, h4, hrun with
        | 0, h3, _, hrun =>
          obtain ⟨_, rfl, rfl⟩ := h3 rfl
          refine ⟨_, Tr.follow_get (mA_ok f s (n : Int) (K : Int)) (by simp only [kk, k6, b1, b2]; rw [b3, b4, b5]), fun _ => ⟨(K + 1, [macAt (c6 s)], d6 s, false, 2), ⟨by omega, by simp, nofun, nofun, fun _ => by simp only; rw [hj2]; exact hrun, nofun⟩, by simp only; omega, ?_⟩, fun h => by cases h⟩
          rw [eu]; rfl
        | 1, _, h4, _ => exact absurd (h4 rfl) (by decide)
        | ph + 2, _, _, hrun =>
          refine ⟨_, Tr.follow_get (mB_ok false f false r s ms (n : Int) (K : Int)) (by simp only [kk, k6, b1, b2, room]; rw [b3, b4, b5]), fun _ => ⟨(K + 1, ms ++ [macAt (c6 s)], d6 s, false, 2), ⟨by omega, by simp; omega, nofun, nofun, fun _ => by simp only; rw [hj2]; exact hrun, nofun⟩, by simp only; omega, ?_⟩, fun h => by cases h⟩
          rw [eu]; rfl
    · have hKn : K = n := by omega
      subst hKn
      have kk := decide_eq_false hk
      rw [Nat.sub_self] at hrun
      have hrun : (K, ms, s, false, ph) = G := hrun
      subst hrun
      match ph, h3, h4 with
      | 0, h3, _ =>
        obtain ⟨_, rfl, rfl⟩ := h3 rfl
        exact ⟨_, Tr.follow_get (mA_end false f false s (K : Int) (K : Int)) (by simp only [kk]), nofun, fun _ => ⟨rfl, rfl⟩⟩
      | 1, _, h4 => exact absurd (h4 rfl) (by decide)
      | ph + 2, _, _ => exact ⟨_, Tr.follow_get (mB_end false f false false r s ms (K : Int) (K : Int)) (by simp only [kk]), nofun, fun _ => ⟨rfl, rfl⟩⟩
end
end Go.Proofs.Ytgepgnjjhgmfnaa
namespace Go.Proofs.Ytgepgnjjhgmfnaa
open Go Go.Sx Go.RowKit
set_option maxRecDepth 1000000
set_option maxHeartbeats 8000000
set_option linter.unusedVariables false
set_option linter.unusedSimpArgs false
noncomputable section
def phG (G : MS) : Nat := G.2.2.2.2
def mcLoop : LoopFn C24 := fun li => match li with
  | ⟨[.h 0, .raw (.slice none 0 0), .raw (.int .u64 n), .raw (.int .u64 (.ofNat 0))], 2, [.box [.h 1, .raw (.bool bad)] 62, .sl false f 5 r]⟩ =>
    .br bad (.leaf (.exit 2, mStA false f true r n 0)) (.br (decide (0 ≤ n ∧ n ≤ 32)) (.br (Nat.beq (phG (finM n.toNat 0 [] r 0)) 0) (.leaf (.exit 2, mStA false f false r n ((finM n.toNat 0 [] r 0).1 : Int)))
      (.br (Nat.beq (phG (finM n.toNat 0 [] r 0)) 1) (.leaf (.exit 2, mStM false f false r (finM n.toNat 0 [] r 0).2.1 n ((finM n.toNat 0 [] r 0).1 : Int)))
        (.leaf (.exit 2, mStB false f false (finM n.toNat 0 [] r 0).2.2.2.1 r (finM n.toNat 0 [] r 0).2.2.1 (finM n.toNat 0 [] r 0).2.1 n ((finM n.toNat 0 [] r 0).1 : Int))))) .fail)
  | _ => .fail
theorem mcLoop_ok : ∀ tm hp n x, (loopS [0, 3, 4, 7] [] mcLoop tm hp n).get = some x → InLoop Try.prog ((loopOf Try.prog 59 2).get!).1 (loopOf Try.prog 59 2).get!.2 tm hp n fun e tm hp n => (e, tm, hp, n) = x := loopS_of fun li r h => by
  unfold mcLoop at h
  split at h
  · rename_i n bad f rs
    change List Int at rs
    cases bad with
    | true =>
      have h : some (Ex.exit 2, mStA false f true rs n 0) = some r := h
      cases h
      refine ⟨Keeps.of3 (Nat.le_refl 2) rfl, ?_⟩
      refine loop_li (σ := Unit) (st := fun _ => mStA false f true rs n 0) (Inv := fun _ => True) (μ := fun _ => 0) (d := 10) (unr := fun _ _ => 20) (sp := noSp) (ls := noLs) plain mixed noSp_ok noLs_ok m_loop (fun x _ => ?_) () trivial
      by_cases hk : (0 : Int) < n
      · exact ⟨_, Tr.follow_get (mA_bad f rs n 0) (by simp only [decide_eq_true hk]), nofun, fun _ => ⟨rfl, rfl⟩⟩
      · exact ⟨_, Tr.follow_get (mA_end false f true rs n 0) (by simp only [decide_eq_false hk]), nofun, fun _ => ⟨rfl, rfl⟩⟩
    | false =>
      obtain ⟨hn, h2⟩ := Tr.get_ask.1 (show (Tr.br (decide (0 ≤ n ∧ n ≤ 32)) _ .fail).get = some r from h)
      have hn : 0 ≤ n ∧ n ≤ 32 := of_decide_eq_true hn
      clear h
      obtain ⟨m, rfl⟩ := Int.eq_ofNat_of_zero_le hn.1
      have e0 : ((m : Int)).toNat = m := rfl
      rw [e0] at h2
      have hrun := m_run (f := f) (r := rs) (n := m) (by omega) (G := finM m 0 [] rs 0) rfl
      generalize finM m 0 [] rs 0 = G at h2 hrun
      obtain ⟨K, ms, s, bad, ph⟩ := G
      have hr : r = (.exit 2, mSt f rs (m : Int) (K, ms, s, bad, ph)) := by
        match ph, h2 with
        | 0, h2 => exact (Option.some.inj h2).symm
        | 1, h2 => exact (Option.some.inj h2).symm
        | ph + 2, h2 => exact (Option.some.inj h2).symm
      subst hr
      refine ⟨?_, hrun⟩
      match ph with
      | 0 => exact Keeps.of3 (Nat.le_refl 2) rfl
      | 1 => exact Keeps.of3 (show 2 ≤ 3 by decide) rfl
      | ph + 2 => exact Keeps.of3 (show 2 ≤ 4 by decide) rfl
  · cases h
@[reducible] def bSt (v : Lo Int) (x i j : Int) : List SV × List (SO C24) := ([hS v 0, .raw (.int .i64 x), .raw (.int .i64 i), .raw (.int .i64 j), .raw (.int .i64 ((lo v).length : Int))], obI v)
abbrev bRound (v : Lo Int) (x i j : Int) := roundG C24 Try.prog noSp noLs (fun _ _ => 20) 10 60 0 [0, 1, 7, 8, 6] ⟨(bSt v x i j).1, nx v 0, (bSt v x i j).2⟩
abbrev hI (i j : Int) : Int := shrV IntKind.u64 ((i + j) % 18446744073709551616) 1
end
end Go.Proofs.Ytgepgnjjhgmfnaa
namespace Go.Proofs.Ytgepgnjjhgmfnaa
open Go Go.Sx Go.RowKit
set_option maxRecDepth 1000000
set_option maxHeartbeats 8000000
set_option linter.unusedVariables false
set_option linter.unusedSimpArgs false
noncomputable section
theorem bn_end (a b : Bool) (ts : List Int) (x i j : Int) : Tr.follow [Ff] (bRound (some (a, b, ts)) x i j) =
  some ([decide (i < j)],
  (.exit 0, bSt (some (a, b, ts)) x i j)) := by kernel_rfl
theorem bn_lt (a b : Bool) (ts : List Int) (x i j : Int) : Tr.follow [Tt,Tt,Ff,Tt,Tt,Tt,Ff,Ff,Ff,Ff,Ff,Ff,Ff,Tt,Tt] (bRound (some (a, b, ts)) x i j) =
  some ([decide (i < j),inR64 (i + j),Ff,inR64 (hI i j),inB (hI i j) ts.length,decide ((hI i j).toNat < ts.length),elI ts (hI i j) != elI ts (hI i j),Ff,Ff,Ff,Ff,Ff,Ff,decide (elI ts (hI i j) < x),inR64 (hI i j + (1 : Int))],
  (.normal, bSt (some (a, b, ts)) x (hI i j + 1) j)) := by kernel_rfl
theorem bn_ge (a b : Bool) (ts : List Int) (x i j : Int) : Tr.follow [Tt,Tt,Ff,Tt,Tt,Tt,Ff,Ff,Ff,Ff,Ff,Ff,Ff,Ff] (bRound (some (a, b, ts)) x i j) =
  some ([decide (i < j),inR64 (i + j),Ff,inR64 (hI i j),inB (hI i j) ts.length,decide ((hI i j).toNat < ts.length),elI ts (hI i j) != elI ts (hI i j),Ff,Ff,Ff,Ff,Ff,Ff,decide (elI ts (hI i j) < x)],
  (.normal, bSt (some (a, b, ts)) x i (hI i j))) := by kernel_rfl
theorem bn_endN (x i j : Int) (h : decide (i < j) = false) : (bRound none x i j).get = some (.exit 0, bSt none x i j) := by
  have h2 : Tr.follow [Ff] (bRound none x i j) = some ([decide (i < j)], (.exit 0, bSt none x i j)) := by kernel_rfl
  exact Tr.follow_get h2 (by rw [h])
def bsN (ts : List Int) (x : Int) : Nat → Nat → Nat → Nat
  | 0, i, _ => i
  | f + 1, i, j => if i < j then (if ts.getD ((i + j) / 2) 0 < x then bsN ts x f ((i + j) / 2 + 1) j else bsN ts x f i ((i + j) / 2)) else i
theorem hI_eq {i j : Nat} (hi : i ≤ 100000) (hj : j ≤ 100000) : hI (i : Int) (j : Int) = (((i + j) / 2 : Nat) : Int) := by
  show Int.fdiv (((i : Int) + (j : Int)) % 18446744073709551616) (2 ^ 1) = _
  rw [Int.fdiv_eq_ediv_of_nonneg _ (by decide)]
  omega
def bsI (ts : List Int) (x : Int) : Nat := bsN ts x (ts.length + 1) 0 ts.length
theorem bsN_le (ts : List Int) (x : Int) : ∀ (f i j : Nat), i ≤ j → i ≤ bsN ts x f i j ∧ bsN ts x f i j ≤ j
  | 0, i, j, h => ⟨Nat.le_refl _, h⟩
  | f + 1, i, j, h => by
    unfold bsN
    split
    · split
      · have := bsN_le ts x f ((i + j) / 2 + 1) j (by omega); omega
      · have := bsN_le ts x f i ((i + j) / 2) (by omega); omega
    · omega
theorem bsI_le (ts : List Int) (x : Int) : bsI ts x ≤ ts.length := (bsN_le ts x _ 0 _ (Nat.zero_le _)).2
/-- Where the list is in order, it is the first place that does not stand ahead. -/
theorem bsN_spec (ts : List Int) (x : Int) : ∀ (f i j : Nat), i ≤ j → j ≤ ts.length → j - i < f → (∀ k l, k ≤ l → l < ts.length → ts.getD k 0 ≤ ts.getD l 0) → (∀ k, k < i → ts.getD k 0 < x) → (∀ k, j ≤ k → k < ts.length → x ≤ ts.getD k 0) →
    (∀ k, k < bsN ts x f i j → ts.getD k 0 < x) ∧ ∀ k, bsN ts x f i j ≤ k → k < ts.length → x ≤ ts.getD k 0
  | 0, i, j, h1, h2, h3, _, _, _ => by omega
  | f + 1, i, j, h1, h2, h3, hs, ha, hb => by
    unfold bsN
    split
    · rename_i hij
      split
      · rename_i hlt
        refine bsN_spec ts x f ((i + j) / 2 + 1) j (by omega) h2 (by omega) hs (fun k hk => ?_) hb
        have := hs k ((i + j) / 2) (by omega) (by omega)
        omega
      · rename_i hlt
        refine bsN_spec ts x f i ((i + j) / 2) (by omega) (by omega) (by omega) hs ha (fun k hk hl => ?_)
        have := hs ((i + j) / 2) k hk hl
        omega
    · have : i = j := by omega
      subst this
      exact ⟨ha, hb⟩
theorem b_loop : loopOf Try.prog 60 0 = some (((loopOf Try.prog 60 0).get!).1, (loopOf Try.prog 60 0).get!.2) := by kernel_rfl
theorem b_run {v : Lo Int} (hv : (lo v).length ≤ 100000) {x : Int} {R : Nat} (hR : bsI (lo v) x = R) :
    LoopRun Try.prog ((loopOf Try.prog 60 0).get!).1 (loopOf Try.prog 60 0).get!.2 (nx v 0) (LI.st [0, 1, 7, 8, 6] ⟨(bSt v x (((0 : Nat) : Int)) ((lo v).length : Int)).1, nx v 0, (bSt v x (((0 : Nat) : Int)) ((lo v).length : Int)).2⟩) fun e T => ∃ vs os, (e = .exit 0 ∧ (vs, os) = bSt v x (R : Int) (R : Int)) ∧ T = ⟨zipT [0, 1, 7, 8, 6] vs, numH 0 os, os.length⟩ := by
  refine loop_li (σ := Nat × Nat) (st := fun y => bSt v x (y.1 : Int) (y.2 : Int)) (Inv := fun y => y.1 ≤ y.2 ∧ y.2 ≤ (lo v).length ∧ ∃ f, y.2 - y.1 < f ∧ bsN (lo v) x f y.1 y.2 = R) (μ := fun y => y.2 - y.1) (d := 10) (unr := fun _ _ => 20) (sp := noSp) (ls := noLs) plain mixed noSp_ok noLs_ok b_loop (fun y hy => ?_) (0, (lo v).length) ⟨Nat.zero_le _, Nat.le_refl _, _, by simp, hR⟩
  obtain ⟨i, j⟩ := y
  obtain ⟨h1, h2, f, h3, h4⟩ := hy
  simp only at h1 h2 h3 h4
  by_cases hij : i < j
  · cases v with
    | none => simp at h2; omega
    | some y =>
      obtain ⟨a, b, ts⟩ := y
      change j ≤ ts.length at h2
      change bsN ts x f i j = R at h4
      change ts.length ≤ 100000 at hv
      have hh := hI_eq (i := i) (j := j) (by omega) (by omega)
      have k1 := decide_eq_true (show (i : Int) < (j : Int) by omega)
      have k2 : inR64 ((i : Int) + (j : Int)) = true := inR64_mk (by omega)
      have k3 : inR64 (hI (i : Int) (j : Int)) = true := by rw [hh]; exact inR64_mk (by omega)
      have k4 : Sx.inB (hI (i : Int) (j : Int)) ts.length = true := by rw [hh]; exact inB_mk ⟨by omega, by omega⟩
      have k5 : decide ((hI (i : Int) (j : Int)).toNat < ts.length) = true := by rw [hh]; exact decide_eq_true (by omega)
      have k6 : (elI ts (hI (i : Int) (j : Int)) != elI ts (hI (i : Int) (j : Int))) = false := bne_self_eq_false' _
      have k7 : inR64 (hI (i : Int) (j : Int) + 1) = true := by rw [hh]; exact inR64_mk (by omega)
      have el : elI ts (hI (i : Int) (j : Int)) = ts.getD ((i + j) / 2) 0 := by
        show ts.getD (hI (i : Int) (j : Int)).toNat 0 = _
        rw [hh]; rfl
      obtain ⟨f', rfl⟩ : ∃ f', f = f' + 1 := ⟨f - 1, by omega⟩
      unfold bsN at h4
      rw [if_pos hij] at h4
      by_cases hlt : ts.getD ((i + j) / 2) 0 < x
      · rw [if_pos hlt] at h4
        have k8 : decide (elI ts (hI (i : Int) (j : Int)) < x) = true := by rw [el]; exact decide_eq_true hlt
        refine ⟨_, Tr.follow_get (bn_lt a b ts x i j) (by simp only [k1, k2, k3, k4, k5, k6, k7, k8]), fun _ => ⟨((i + j) / 2 + 1, j), ⟨by omega, h2, f', by omega, h4⟩, by simp only; omega, ?_⟩, fun h => by cases h⟩
        rw [hh]; rfl
      · rw [if_neg hlt] at h4
        have k8 : decide (elI ts (hI (i : Int) (j : Int)) < x) = false := by rw [el]; exact decide_eq_false hlt
        refine ⟨_, Tr.follow_get (bn_ge a b ts x i j) (by simp only [k1, k2, k3, k4, k5, k6, k8]), fun _ => ⟨(i, (i + j) / 2), ⟨by omega, by show (i + j) / 2 ≤ ts.length; omega, f', by omega, h4⟩, by simp only; omega, ?_⟩, fun h => by cases h⟩
        rw [hh]
  · have hij2 : i = j := by omega
    subst hij2
    have hi : i = R := by
      rw [← h4]
      cases f with
      | zero => rfl
      | succ f => unfold bsN; rw [if_neg (Nat.lt_irrefl _)]
    subst hi
    have k1 := decide_eq_false (Int.lt_irrefl (i : Int))
    cases v with
    | none => exact ⟨_, bn_endN x (i : Int) (i : Int) k1, nofun, fun _ => ⟨rfl, rfl⟩⟩
    | some y =>
      obtain ⟨a, b, ts⟩ := y
      exact ⟨_, Tr.follow_get (bn_end a b ts x i i) (by rw [k1]), nofun, fun _ => ⟨rfl, rfl⟩⟩
def bLoop : LoopFn C24 := fun li => match li with
  | ⟨[s, .raw (.int .i64 x), .raw (.int .i64 (.ofNat 0)), .raw (.int .i64 n), .raw (.int .i64 n2)], nb, os⟩ => match decI s 0 os with
    | some (v, []) => match Nat.beq nb (nx v 0) with
      | true => .br (n == ((lo v).length : Int)) (.br (n2 == ((lo v).length : Int)) (.br (decide ((lo v).length ≤ 100000)) (.leaf (.exit 0, bSt v x (bsI (lo v) x : Int) (bsI (lo v) x : Int))) .fail) .fail) .fail
      | false => .fail
    | _ => .fail
  | _ => .fail
theorem bLoop_ok : ∀ tm hp n x, (loopS [0, 1, 7, 8, 6] [] bLoop tm hp n).get = some x → InLoop Try.prog ((loopOf Try.prog 60 0).get!).1 (loopOf Try.prog 60 0).get!.2 tm hp n fun e tm hp n => (e, tm, hp, n) = x := loopS_of fun li r h => by
  unfold bLoop at h
  split at h
  · rename_i s x n n2 nb os
    split at h
    · rename_i v h1
      split at h
      · rename_i hnb
        obtain ⟨rfl, rfl⟩ := decI_eq h1
        have hnb := Nat.eq_of_beq_eq_true hnb
        subst hnb
        clear h1
        obtain ⟨hn0, hB⟩ := Tr.get_ask.1 h
        obtain ⟨hn1, hC⟩ := Tr.get_ask.1 hB
        obtain ⟨hl, hD⟩ := Tr.get_ask.1 hC
        clear h hB hC
        have hn0 := eq_of_beq hn0
        have hn1 := eq_of_beq hn1
        subst hn0 hn1
        have hl : (lo v).length ≤ 100000 := of_decide_eq_true hl
        have hD : some (Ex.exit 0, bSt v x (bsI (lo v) x : Int) (bsI (lo v) x : Int)) = some r := hD
        cases hD
        have e1 : Sx.LI.mk [hS v 0, .raw (.int .i64 x), .raw (.int .i64 (.ofNat 0)), .raw (.int .i64 ((lo v).length : Int)), .raw (.int .i64 ((lo v).length : Int))] (nx v 0) (obI v ++ []) = ⟨(bSt v x (((0 : Nat) : Int)) ((lo v).length : Int)).1, nx v 0, (bSt v x (((0 : Nat) : Int)) ((lo v).length : Int)).2⟩ := by
          rw [List.append_nil]; rfl
        rw [e1]
        exact ⟨keeps_same (by cases v <;> rfl), b_run hl rfl⟩
      · cases h
    · cases h
  · cases h
def lsB : LoopT C24 := Sx.addL 60 0 (loopS [0, 1, 7, 8, 6] [] bLoop) noLs
theorem lsB_ok : LoopTOk Try.prog lsB := addL_ok b_loop bLoop_ok noLs_ok
abbrev unB (g b : Nat) : Nat := match g, b with
  | 60, 0 => 0 | _, _ => 20
abbrev f24B (v : Lo Int) (x : Int) := fnC C24 Try.prog noSp lsB unB 10 60 [hS v 0, .raw (.int .i64 x)] (obI v)
end
end Go.Proofs.Ytgepgnjjhgmfnaa
namespace Go.Proofs.Ytgepgnjjhgmfnaa
open Go Go.Sx Go.RowKit
set_option maxRecDepth 1000000
set_option maxHeartbeats 8000000
set_option linter.unusedVariables false
set_option linter.unusedSimpArgs false
noncomputable section
@[reducible] def cpM (o : Lo Mac) : List (SO C24) := match o with
  | none => []
  | some x => [.sl true false 22 x.2.2]
@[reducible] def cpI (o : Lo Int) : List (SO C24) := match o with
  | none => []
  | some x => [.sl true false 3 x.2.2]
/-- A copy, its lists numbered from n on. -/
@[reducible] def clnS (F : Fv) (n : Nat) : SV := .agg (fltC F n)
@[reducible] def clnO (F : Fv) : List (SO C24) := cpM F.2.2.2.1 ++ (cpM F.2.2.2.2.1 ++ cpI F.2.2.2.2.2)
theorem cl_0 (m : Mac) (p q : Bool) (a1 b1 a2 b2 a3 b3 : Bool) (OS GS : List Mac) (VS : List Int) : Tr.follow [Tt,Tt,Tt] (fnC C24 Try.prog noSp noLs (fun _ _ => 20) 10 36 [.agg (fltC (m, p, q, none, none, none) 0)] (fltO (m, p, q, none, none, none))) =
  some ([Tt,Tt,Tt],
  (clnS (m, p, q, none, none, none) (fltN (m, p, q, none, none, none) 0), clnO (m, p, q, none, none, none))) := by kernel_rfl
theorem cl_1 (m : Mac) (p q : Bool) (a1 b1 a2 b2 a3 b3 : Bool) (OS GS : List Mac) (VS : List Int) : Tr.follow [Ff,Tt,Tt,Tt] (fnC C24 Try.prog noSp noLs (fun _ _ => 20) 10 36 [.agg (fltC (m, p, q, some (a1, b1, OS), none, none) 0)] (fltO (m, p, q, some (a1, b1, OS), none, none))) =
  some ([Ff,roomB (([] : List Mac).length + OS.length) Try.prog.types[(22 : Nat)].bytes,Tt,Tt],
  (clnS (m, p, q, some (a1, b1, OS), none, none) (fltN (m, p, q, some (a1, b1, OS), none, none) 0), clnO (m, p, q, some (a1, b1, OS), none, none))) := by kernel_rfl
theorem cl_2 (m : Mac) (p q : Bool) (a1 b1 a2 b2 a3 b3 : Bool) (OS GS : List Mac) (VS : List Int) : Tr.follow [Tt,Ff,Tt,Tt] (fnC C24 Try.prog noSp noLs (fun _ _ => 20) 10 36 [.agg (fltC (m, p, q, none, some (a2, b2, GS), none) 0)] (fltO (m, p, q, none, some (a2, b2, GS), none))) =
  some ([Tt,Ff,roomB (([] : List Mac).length + GS.length) Try.prog.types[(22 : Nat)].bytes,Tt],
  (clnS (m, p, q, none, some (a2, b2, GS), none) (fltN (m, p, q, none, some (a2, b2, GS), none) 0), clnO (m, p, q, none, some (a2, b2, GS), none))) := by kernel_rfl
theorem cl_3 (m : Mac) (p q : Bool) (a1 b1 a2 b2 a3 b3 : Bool) (OS GS : List Mac) (VS : List Int) : Tr.follow [Ff,Tt,Ff,Tt,Tt] (fnC C24 Try.prog noSp noLs (fun _ _ => 20) 10 36 [.agg (fltC (m, p, q, some (a1, b1, OS), some (a2, b2, GS), none) 0)] (fltO (m, p, q, some (a1, b1, OS), some (a2, b2, GS), none))) =
  some ([Ff,roomB (([] : List Mac).length + OS.length) Try.prog.types[(22 : Nat)].bytes,Ff,roomB (([] : List Mac).length + GS.length) Try.prog.types[(22 : Nat)].bytes,Tt],
  (clnS (m, p, q, some (a1, b1, OS), some (a2, b2, GS), none) (fltN (m, p, q, some (a1, b1, OS), some (a2, b2, GS), none) 0), clnO (m, p, q, some (a1, b1, OS), some (a2, b2, GS), none))) := by kernel_rfl
theorem cl_4 (m : Mac) (p q : Bool) (a1 b1 a2 b2 a3 b3 : Bool) (OS GS : List Mac) (VS : List Int) : Tr.follow [Tt,Tt,Ff,Tt] (fnC C24 Try.prog noSp noLs (fun _ _ => 20) 10 36 [.agg (fltC (m, p, q, none, none, some (a3, b3, VS)) 0)] (fltO (m, p, q, none, none, some (a3, b3, VS)))) =
  some ([Tt,Tt,Ff,roomB (([] : List Int).length + VS.length) Try.prog.types[(3 : Nat)].bytes],
  (clnS (m, p, q, none, none, some (a3, b3, VS)) (fltN (m, p, q, none, none, some (a3, b3, VS)) 0), clnO (m, p, q, none, none, some (a3, b3, VS)))) := by kernel_rfl
theorem cl_5 (m : Mac) (p q : Bool) (a1 b1 a2 b2 a3 b3 : Bool) (OS GS : List Mac) (VS : List Int) : Tr.follow [Ff,Tt,Tt,Ff,Tt] (fnC C24 Try.prog noSp noLs (fun _ _ => 20) 10 36 [.agg (fltC (m, p, q, some (a1, b1, OS), none, some (a3, b3, VS)) 0)] (fltO (m, p, q, some (a1, b1, OS), none, some (a3, b3, VS)))) =
  some ([Ff,roomB (([] : List Mac).length + OS.length) Try.prog.types[(22 : Nat)].bytes,Tt,Ff,roomB (([] : List Int).length + VS.length) Try.prog.types[(3 : Nat)].bytes],
  (clnS (m, p, q, some (a1, b1, OS), none, some (a3, b3, VS)) (fltN (m, p, q, some (a1, b1, OS), none, some (a3, b3, VS)) 0), clnO (m, p, q, some (a1, b1, OS), none, some (a3, b3, VS)))) := by kernel_rfl
theorem cl_6 (m : Mac) (p q : Bool) (a1 b1 a2 b2 a3 b3 : Bool) (OS GS : List Mac) (VS : List Int) : Tr.follow [Tt,Ff,Tt,Ff,Tt] (fnC C24 Try.prog noSp noLs (fun _ _ => 20) 10 36 [.agg (fltC (m, p, q, none, some (a2, b2, GS), some (a3, b3, VS)) 0)] (fltO (m, p, q, none, some (a2, b2, GS), some (a3, b3, VS)))) =
  some ([Tt,Ff,roomB (([] : List Mac).length + GS.length) Try.prog.types[(22 : Nat)].bytes,Ff,roomB (([] : List Int).length + VS.length) Try.prog.types[(3 : Nat)].bytes],
  (clnS (m, p, q, none, some (a2, b2, GS), some (a3, b3, VS)) (fltN (m, p, q, none, some (a2, b2, GS), some (a3, b3, VS)) 0), clnO (m, p, q, none, some (a2, b2, GS), some (a3, b3, VS)))) := by kernel_rfl
theorem cl_7 (m : Mac) (p q : Bool) (a1 b1 a2 b2 a3 b3 : Bool) (OS GS : List Mac) (VS : List Int) : Tr.follow [Ff,Tt,Ff,Tt,Ff,Tt] (fnC C24 Try.prog noSp noLs (fun _ _ => 20) 10 36 [.agg (fltC (m, p, q, some (a1, b1, OS), some (a2, b2, GS), some (a3, b3, VS)) 0)] (fltO (m, p, q, some (a1, b1, OS), some (a2, b2, GS), some (a3, b3, VS)))) =
  some ([Ff,roomB (([] : List Mac).length + OS.length) Try.prog.types[(22 : Nat)].bytes,Ff,roomB (([] : List Mac).length + GS.length) Try.prog.types[(22 : Nat)].bytes,Ff,roomB (([] : List Int).length + VS.length) Try.prog.types[(3 : Nat)].bytes],
  (clnS (m, p, q, some (a1, b1, OS), some (a2, b2, GS), some (a3, b3, VS)) (fltN (m, p, q, some (a1, b1, OS), some (a2, b2, GS), some (a3, b3, VS)) 0), clnO (m, p, q, some (a1, b1, OS), some (a2, b2, GS), some (a3, b3, VS)))) := by kernel_rfl
def cloneT : FnF C24 := fun args os => match args with
  | [.agg cs] => match decF cs 0 os with
    | some (((x0, x1, x2, x3, x4, x5), p, q, o, g, v), []) => withL o fun ol => withL g fun gl => withL v fun vl => .br (smF ((x0, x1, x2, x3, x4, x5), p, q, ol, gl, vl)) (.leaf (clnS ((x0, x1, x2, x3, x4, x5), p, q, o, g, v) (fltN ((x0, x1, x2, x3, x4, x5), p, q, o, g, v) 0), clnO ((x0, x1, x2, x3, x4, x5), p, q, o, g, v))) .fail
    | _ => .fail
  | _ => .fail
theorem cloneT_ok : ∀ args os r, (cloneT args os).get = some r → Fn0 Try.prog 36 args os r := fun args os r h => by
  unfold cloneT at h
  split at h
  · split at h
    · rename_i x0 x1 x2 x3 x4 x5 p q o g v hF
      obtain ⟨rfl, rfl⟩ := decF_eq hF
      simp only [withL_eq] at h
      obtain ⟨hs, h2⟩ := Tr.get_ask.1 h
      have hs : (lo o).length ≤ 100000 ∧ (lo g).length ≤ 100000 ∧ (lo v).length ≤ 100000 := of_decide_eq_true hs
      clear h hF
      rw [List.append_nil]
      refine fnC_ok (sp := noSp) (ls := noLs) (unr := fun _ _ => 20) (d := 10) plain mixed noSp_ok noLs_ok (Eq.trans ?_ h2)
      have r1 : ∀ l : List Mac, l.length ≤ 100000 → roomB (([] : List Mac).length + l.length) Try.prog.types[(22 : Nat)].bytes = true := fun l hl => roomM (by simp; omega)
      have r2 : ∀ l : List Int, l.length ≤ 100000 → roomB (([] : List Int).length + l.length) Try.prog.types[(3 : Nat)].bytes = true := fun l hl => roomI (by simp; omega)
      cases o with
      | none =>
        cases g with
        | none =>
          cases v with
          | none => exact Tr.follow_get (cl_0 (x0, x1, x2, x3, x4, x5) p q false false false false false false [] [] []) rfl
          | some v => obtain ⟨a3, b3, VS⟩ := v; exact Tr.follow_get (cl_4 (x0, x1, x2, x3, x4, x5) p q false false false false a3 b3 [] [] VS) (by rw [r2 VS hs.2.2])
        | some g =>
          obtain ⟨a2, b2, GS⟩ := g
          cases v with
          | none => exact Tr.follow_get (cl_2 (x0, x1, x2, x3, x4, x5) p q false false a2 b2 false false [] GS []) (by rw [r1 GS hs.2.1])
          | some v => obtain ⟨a3, b3, VS⟩ := v; exact Tr.follow_get (cl_6 (x0, x1, x2, x3, x4, x5) p q false false a2 b2 a3 b3 [] GS VS) (by rw [r1 GS hs.2.1, r2 VS hs.2.2])
      | some o =>
        obtain ⟨a1, b1, OS⟩ := o
        cases g with
        | none =>
          cases v with
          | none => exact Tr.follow_get (cl_1 (x0, x1, x2, x3, x4, x5) p q a1 b1 false false false false OS [] []) (by rw [r1 OS hs.1])
          | some v => obtain ⟨a3, b3, VS⟩ := v; exact Tr.follow_get (cl_5 (x0, x1, x2, x3, x4, x5) p q a1 b1 false false a3 b3 OS [] VS) (by rw [r1 OS hs.1, r2 VS hs.2.2])
        | some g =>
          obtain ⟨a2, b2, GS⟩ := g
          cases v with
          | none => exact Tr.follow_get (cl_3 (x0, x1, x2, x3, x4, x5) p q a1 b1 a2 b2 false false OS GS []) (by rw [r1 OS hs.1, r1 GS hs.2.1])
          | some v => obtain ⟨a3, b3, VS⟩ := v; exact Tr.follow_get (cl_7 (x0, x1, x2, x3, x4, x5) p q a1 b1 a2 b2 a3 b3 OS GS VS) (by rw [r1 OS hs.1, r1 GS hs.2.1, r2 VS hs.2.2])
    · cases h
  · cases h
end
end Go.Proofs.Ytgepgnjjhgmfnaa
namespace Go.Proofs.Ytgepgnjjhgmfnaa
open Go Go.Sx Go.RowKit
set_option maxRecDepth 1000000
set_option maxHeartbeats 8000000
set_option linter.unusedVariables false
set_option linter.unusedSimpArgs false
noncomputable section
theorem bs_end (v : Lo Int) (x : Int) : Tr.follow [Tt,Tt,Tt,Ff,Ff,Ff,Ff,Ff,Ff,Ff,Ff,Ff] (f24B v x) =
  some ([(↑(lo v).length : Int) == (↑(lo v).length : Int),(↑(lo v).length : Int) == (↑(lo v).length : Int),decide ((lo v).length ≤ (100000 : Nat)),decide ((↑(bsI (lo v) x) : Int) < (↑(lo v).length : Int)),Ff,Ff,Ff,Ff,Ff,Ff,Ff,Ff],
  (SV.tup [SV.raw (Value.int IntKind.i64 (↑(bsI (lo v) x) : Int)), SV.raw (Value.bool false)], [])) := by cases v <;> kernel_rfl
theorem bs_in (a b : Bool) (ts : List Int) (x : Int) : Tr.follow [Tt,Tt,Tt,Tt,Tt,Tt,Tt,Tt,Tt,Tt,Tt,Tt,Tt,Tt,Tt,Tt,Tt,Tt,Tt,Tt,Tt] (f24B (some (a, b, ts)) x) =
  some ([(↑ts.length : Int) == (↑(ts).length : Int),(↑ts.length : Int) == (↑(ts).length : Int),decide ((ts).length ≤ (100000 : Nat)),decide ((↑(bsI (ts) x) : Int) < (↑(ts).length : Int)),Tt,Tt,inB (↑(bsI (ts) x) : Int) ts.length,Tt,decide ((↑(bsI (ts) x) : Int).toNat < ts.length),Tt,Tt,Tt,ts.getD (↑(bsI (ts) x) : Int).toNat (0 : Int) == x,Tt,Tt,Tt,Tt,Tt,Tt,Tt,Tt],
  (SV.tup [SV.raw (Value.int IntKind.i64 (↑(bsI (ts) x) : Int)), SV.raw (Value.bool true)], [])) := by kernel_rfl
theorem bs_no (a b : Bool) (ts : List Int) (x : Int) : Tr.follow [Tt,Tt,Tt,Tt,Tt,Tt,Tt,Tt,Tt,Tt,Tt,Tt,Ff,Ff,Ff,Tt,Ff,Tt,Ff,Ff,Ff,Ff,Ff,Ff,Tt] (f24B (some (a, b, ts)) x) =
  some ([(↑ts.length : Int) == (↑(ts).length : Int),(↑ts.length : Int) == (↑(ts).length : Int),decide ((ts).length ≤ (100000 : Nat)),decide ((↑(bsI (ts) x) : Int) < (↑(ts).length : Int)),Tt,Tt,inB (↑(bsI (ts) x) : Int) ts.length,Tt,decide ((↑(bsI (ts) x) : Int).toNat < ts.length),Tt,Tt,Tt,ts.getD (↑(bsI (ts) x) : Int).toNat (0 : Int) == x,Ff,Ff,inB (↑(bsI (ts) x) : Int) ts.length,Ff,decide ((↑(bsI (ts) x) : Int).toNat < ts.length),Ff,Ff,ts.getD (↑(bsI (ts) x) : Int).toNat (0 : Int) != ts.getD (↑(bsI (ts) x) : Int).toNat (0 : Int),Ff,Ff,Ff,Tt],
  (SV.tup [SV.raw (Value.int IntKind.i64 (↑(bsI (ts) x) : Int)), SV.raw (Value.bool false)], [])) := by kernel_rfl
def bsF (l : List Int) (x : Int) : Bool := decide ((bsI l x : Int) < (l.length : Int)) && l.getD (bsI l x) 0 == x
/-- The place as a number, that stands still where the list is not known. -/
def bsZ (l : List Int) (x : Int) : Int := match l with
  | [] => 0
  | y :: r => (bsI (y :: r) x : Int)
theorem bsZ_eq (l : List Int) (x : Int) : bsZ l x = (bsI l x : Int) := by cases l <;> rfl
def bsT : FnF C24 := fun args os => match args with
  | [s, .raw (.int .i64 x)] => match decI s 0 os with
    | some (v, []) => withL v fun l => .br (decide (l.length ≤ 100000)) (.leaf (.tup [.raw (.int .i64 (bsZ l x)), .raw (.bool (bsF l x))], [])) .fail
    | _ => .fail
  | _ => .fail
theorem bsT_ok : ∀ args os r, (bsT args os).get = some r → Fn0 Try.prog 60 args os r := fun args os r h => by
  unfold bsT at h
  split at h
  · rename_i s x
    split at h
    · rename_i v h1
      obtain ⟨rfl, rfl⟩ := decI_eq h1
      rw [withL_eq] at h
      obtain ⟨hl, h2⟩ := Tr.get_ask.1 h
      simp only [Tr.get, Option.some.injEq] at h2
      subst h2
      clear h h1
      have k1 := hl
      have hl : (lo v).length ≤ 100000 := of_decide_eq_true hl
      have k2 : (((lo v).length : Int) == ((lo v).length : Int)) = true := beq_self_eq_true _
      refine fnC_ok (sp := noSp) (ls := lsB) (unr := unB) (d := 10) plain mixed noSp_ok lsB_ok ?_
      rw [List.append_nil, bsZ_eq]
      unfold bsF
      by_cases hlt : (bsI (lo v) x : Int) < ((lo v).length : Int)
      · rw [decide_eq_true hlt]
        cases v with
        | none => exact absurd hlt (by show ¬ ((bsI [] x : Nat) : Int) < ((0 : Nat) : Int); omega)
        | some y =>
          obtain ⟨a, b, ts⟩ := y
          change ((bsI ts x : Nat) : Int) < (ts.length : Int) at hlt
          change decide (ts.length ≤ 100000) = true at k1
          change ((ts.length : Int) == (ts.length : Int)) = true at k2
          have k3 := decide_eq_true hlt
          have k4 : Sx.inB ((bsI ts x : Nat) : Int) ts.length = true := inB_mk ⟨by omega, hlt⟩
          have k5 : decide (((bsI ts x : Nat) : Int).toNat < ts.length) = true := decide_eq_true (by omega)
          have e1 : ((bsI ts x : Nat) : Int).toNat = bsI ts x := rfl
          rw [e1] at k5
          show (f24B (some (a, b, ts)) x).get = some (.tup [.raw (.int .i64 (bsI ts x : Int)), .raw (.bool (true && ts.getD (bsI ts x) 0 == x))], [])
          cases he : (ts.getD (bsI ts x) 0 == x) with
          | true => exact Tr.follow_get (bs_in a b ts x) (by simp only [k1, k2, k3, k4, k5, e1, he])
          | false => exact Tr.follow_get (bs_no a b ts x) (by simp only [k1, k2, k3, k4, k5, e1, he, bne_self_eq_false])
      · rw [decide_eq_false hlt]
        exact Tr.follow_get (bs_end v x) (by simp only [k1, k2, decide_eq_false hlt])
    · cases h
  · cases h
def lsM : LoopT C24 := Sx.addL 59 2 (loopS [0, 3, 4, 7] [] mcLoop) noLs
theorem lsM_ok : LoopTOk Try.prog lsM := addL_ok m_loop mcLoop_ok noLs_ok
abbrev unM (g b : Nat) : Nat := match g, b with
  | 59, 2 => 0 | _, _ => 20
def sfC : SpecT C24 := addS 11 (seeS chkT) (addS 36 (seeS cloneT) (addS 60 (seeS bsT) (addS 61 (ownS insT) (addS 62 (ownS delT) noSp))))
theorem sfC_ok : SpecTOk Try.prog sfC := addS_ok (seeS_ok chkT_ok) (addS_ok (seeS_ok cloneT_ok) (addS_ok (seeS_ok bsT_ok) (addS_ok (ownS_ok insT_ok) (addS_ok (ownS_ok delT_ok) noSp_ok))))
/-- A number of four bytes; how addresses are read. -/
abbrev nQ (l : List Int) : Int := bitsV IntKind.u64 BinOp.or (bitsV IntKind.u64 BinOp.or (bitsV IntKind.u64 BinOp.or (bitsV IntKind.u64 BinOp.or (0 : Int) (shlV IntKind.u64 (l.getD (Int.toNat (0 : Int)) (0 : Int) % (18446744073709551616 : Int)) ((8 : Int) * (0 : Int)))) (shlV IntKind.u64 (l.getD ((0 : Int) + (1 : Int)).toNat (0 : Int) % (18446744073709551616 : Int)) ((8 : Int) * ((0 : Int) + (1 : Int))))) (shlV IntKind.u64 (l.getD ((0 : Int) + (1 : Int) + (1 : Int)).toNat (0 : Int) % (18446744073709551616 : Int)) ((8 : Int) * ((0 : Int) + (1 : Int) + (1 : Int))))) (shlV IntKind.u64 (l.getD ((0 : Int) + (1 : Int) + (1 : Int) + (1 : Int)).toNat (0 : Int) % (18446744073709551616 : Int)) ((8 : Int) * ((0 : Int) + (1 : Int) + (1 : Int) + (1 : Int))))
abbrev q4 (r : List Int) : List Int := cutL r none (some 4)
abbrev r4 (r : List Int) : List Int := cutL r (some 4) none
abbrev gM (r : List Int) : MS := finM (nQ (q4 r)).toNat 0 [] (r4 r) 0
abbrev nV (l : List Int) : Int := bitsV IntKind.i64 BinOp.or (l.getD (Int.toNat (0 : Int)) (0 : Int)) (shlV IntKind.i64 (l.getD (Int.toNat (1 : Int)) (0 : Int)) (8 : Int))
abbrev r2 (bs : List Int) : List Int := cutL bs (some 2) none
abbrev hd (bs : List Int) : List Int := cutL bs none (some 2)
abbrev f24T (feats : Int) (F : Fv) (b : Lo Int) := fnC C24 Try.prog sfC lsM unM 10 12 [.raw (.int .u64 feats), .agg (fltC F 0), hS b (fltN F 0)] (fltO F ++ obB b)
end
end Go.Proofs.Ytgepgnjjhgmfnaa
namespace Go.Proofs.Ytgepgnjjhgmfnaa
open Go Go.Sx Go.RowKit
set_option maxRecDepth 1000000
set_option maxHeartbeats 8000000
set_option linter.unusedVariables false
set_option linter.unusedSimpArgs false
noncomputable section
/-- A number of four bytes, as the reference reads it; what is behind a table of so many. -/
abbrev nR (l : List Int) : Int := bitsV IntKind.u64 BinOp.or (bitsV IntKind.u64 BinOp.or (bitsV IntKind.u64 BinOp.or (l.getD 0 0 % (18446744073709551616 : Int)) (shlV IntKind.u64 (l.getD 1 0 % (18446744073709551616 : Int)) (8 : Int))) (shlV IntKind.u64 (l.getD 2 0 % (18446744073709551616 : Int)) (16 : Int))) (shlV IntKind.u64 (l.getD 3 0 % (18446744073709551616 : Int)) (24 : Int))
abbrev rT (l : List Int) : List Int := cutL (r4 l) (some ((6 : Int) * nR l % (18446744073709551616 : Int))) none
abbrev nW (l : List Int) : Int := bitsV IntKind.i64 BinOp.or (l.getD 0 0) (shlV IntKind.i64 (l.getD 1 0) (8 : Int))
abbrev hB (feats n : Int) : Bool := (shrV IntKind.u64 feats n).tmod (2 : Int) == (1 : Int)
/-- What the reference gives back: nothing changed; other switches or address; other numbers (none at all); other addresses. -/
@[reducible] def rcE (F : Fv) : SV × List (SO C24) := (.tup [.agg (fltC F 0), .raw (.int .u8 1)], [])
@[reducible] def rcK (F : Fv) (m : Mac) (p q : Bool) : SV × List (SO C24) := (.tup [.agg (fltC (m, p, q, F.2.2.2.1, F.2.2.2.2.1, F.2.2.2.2.2) 0), .raw (.int .u8 0)], [])
@[reducible] def rcV (F : Fv) (N : Nat) (l : List Int) : SV × List (SO C24) := (.tup [.agg (fltL F.1 F.2.1 F.2.2.1 (hS F.2.2.2.1 0) (hS F.2.2.2.2.1 (nx F.2.2.2.1 0)) (.h N)), .raw (.int .u8 0)], [.sl true false 3 l])
@[reducible] def rcN (F : Fv) : SV × List (SO C24) := (.tup [.agg (fltL F.1 F.2.1 F.2.2.1 (hS F.2.2.2.1 0) (hS F.2.2.2.2.1 (nx F.2.2.2.1 0)) nlS), .raw (.int .u8 0)], [])
@[reducible] def rcT (F : Fv) (N : Nat) (a b : Option (List Mac)) : SV × List (SO C24) := match a, b with
  | none, none => (.tup [.agg (fltL F.1 F.2.1 F.2.2.1 nlS nlS (hS F.2.2.2.2.2 (nx F.2.2.2.2.1 (nx F.2.2.2.1 0)))), .raw (.int .u8 0)], [])
  | some a, none => (.tup [.agg (fltL F.1 F.2.1 F.2.2.1 (.h N) nlS (hS F.2.2.2.2.2 (nx F.2.2.2.2.1 (nx F.2.2.2.1 0)))), .raw (.int .u8 0)], [.sl true false 22 a])
  | none, some b => (.tup [.agg (fltL F.1 F.2.1 F.2.2.1 nlS (.h N) (hS F.2.2.2.2.2 (nx F.2.2.2.2.1 (nx F.2.2.2.1 0)))), .raw (.int .u8 0)], [.sl true false 22 b])
  | some a, some b => (.tup [.agg (fltL F.1 F.2.1 F.2.2.1 (.h N) (.h (N + 1)) (hS F.2.2.2.2.2 (nx F.2.2.2.2.1 (nx F.2.2.2.1 0)))), .raw (.int .u8 0)], [.sl true false 22 a, .sl true false 22 b])
end
end Go.Proofs.Ytgepgnjjhgmfnaa
