/-
  Chapter 8: FreeOrders. Own work; nothing here is trusted.
-/
import Derived.Test.YtkhlmlcjedbkcaaCh08OrdersP
import Derived.Test.YtkhlmlcjedbkcaaSxArg
namespace Go.Proofs.Ytkhlmlcjedbkcaa
open Go Go.Sx Go.RowKit
set_option maxRecDepth 1000000
set_option maxHeartbeats 8000000
set_option linter.unusedVariables false
set_option linter.unusedSimpArgs false
theorem cutR_eq (B : List Int) (p : Int) : cutR B p = drL B p := by
  unfold cutR drL
  simp only [intO]
  rw [show ((B.length : Int)).toNat = B.length from rfl, List.take_length]
theorem cutL_eq (B : List Int) (p : Int) : cutL B p = tkL B p := rfl
theorem selfV_eq (B : List Int) : selfV B = B := by
  unfold selfV
  simp only [List.nil_append]
  rw [show ((B.length : Int)).toNat = B.length from rfl, List.take_length]; rfl
theorem upto_in : ∀ (n : Nat) (x : Int), x ∈ upto n → 0 ≤ x ∧ x < (n : Int)
  | 0, _, h => by cases h
  | n + 1, x, h => by
    simp only [upto, List.mem_append, List.mem_singleton] at h
    rcases h with h | h
    · have := upto_in n x h; omega
    · omega
theorem upto_nodup : ∀ n : Nat, (upto n).Nodup
  | 0 => List.nodup_nil
  | n + 1 => by
    unfold upto
    rw [List.nodup_append]
    refine ⟨upto_nodup n, by simp, fun x hx y hy => ?_⟩
    have := upto_in n x hx
    simp only [List.mem_singleton] at hy
    omega
theorem okF_perm {size : Int} {l l' : List Int} (hp : l.Perm l') (h : okF size l = true) : okF size l' = true := by
  obtain ⟨h1, h2, h3⟩ := okF_iff.1 h
  exact okF_iff.2 ⟨by rw [← hp.length_eq]; exact h1, fun x hx => h2 x (hp.mem_iff.2 hx), (hp.nodup_iff).1 h3⟩
theorem okF_sub {size : Int} {l l' : List Int} (hp : l'.Sublist l) (h : okF size l = true) : okF size l' = true := by
  obtain ⟨h1, h2, h3⟩ := okF_iff.1 h
  have := hp.length_le
  exact okF_iff.2 ⟨by omega, fun x hx => h2 x (hp.subset hx), h3.sublist hp⟩
theorem td (B : List Int) (p : Int) : tkL B p ++ drL B p = B := List.take_append_drop _ _
/-- The facts that all ways ask for. -/
structure OF (S N K C : Int) (L T G B : List Int) : Prop where
  s1 : 1 ≤ S ∧ S ≤ 300
  n1 : 1 ≤ N ∧ N ≤ S
  k1 : 0 ≤ K ∧ K < N
  c1 : 0 ≤ C ∧ C < N
  l1 : (L.length : Int) = S
  t1 : (T.length : Int) = N
  g1 : (G.length : Int) = S - N
  b1 : (B.length : Int) = N
  okL : okF S L = true
  okX : okF S (B ++ G) = true
theorem of_mk (a b c d : Int) : OF (oS a) (oN a b) (oK a b c) (oC a b d) (oL a) (oT a b) (oG a b) (oB a b c) := by
  have s1 : 1 ≤ oS a ∧ oS a ≤ 300 := by unfold oS; omega
  have n1 : 1 ≤ oN a b ∧ oN a b ≤ oS a := by
    unfold oN
    have := Int.emod_nonneg b (show oS a ≠ 0 by omega)
    have := Int.emod_lt_of_pos b (show 0 < oS a by omega)
    omega
  have k1 : 0 ≤ oK a b c ∧ oK a b c < oN a b := ⟨Int.emod_nonneg c (by omega), Int.emod_lt_of_pos c (by omega)⟩
  have c1 : 0 ≤ oC a b d ∧ oC a b d < oN a b := ⟨Int.emod_nonneg d (by omega), Int.emod_lt_of_pos d (by omega)⟩
  have l1 : ((oL a).length : Int) = oS a := by unfold oL; rw [upto_len]; omega
  have t1 : ((oT a b).length : Int) = oN a b := by unfold oT tkL; rw [List.length_take]; omega
  have g1 : ((oG a b).length : Int) = oS a - oN a b := by unfold oG drL; rw [List.length_drop]; omega
  have eB : oB a b c = drL (oT a b) (oK a b c) ++ tkL (oT a b) (oK a b c) := by unfold oB; rw [cutR_eq, cutL_eq, List.nil_append]
  have pB : (oT a b).Perm (oB a b c) := by
    rw [eB]
    have := List.perm_append_comm (l₁ := tkL (oT a b) (oK a b c)) (l₂ := drL (oT a b) (oK a b c))
    rwa [td] at this
  have b1 : ((oB a b c).length : Int) = oN a b := by rw [← pB.length_eq]; exact t1
  have okL : okF (oS a) (oL a) = true := okF_iff.2 ⟨⟨by omega, by omega, by omega⟩, fun x hx => by
    have := upto_in _ x hx
    omega, upto_nodup _⟩
  refine ⟨s1, n1, k1, c1, l1, t1, g1, b1, okL, okF_perm ?_ okL⟩
  have := pB.append_right (oG a b)
  rwa [show oT a b ++ oG a b = oL a from td _ _] at this
theorem cat3 (B G : List Int) (C : Int) : tkL B C ++ (drL B C ++ G) = B ++ G := by rw [← List.append_assoc, td]
theorem sm_of {l : List Int} (h : l.length ≤ 1000) : small l = true := decide_eq_true h
theorem eqL_self (l : List Int) : eqL l l = true := beq_self_eq_true l
section
variable {S N K C : Int} {L T G B : List Int} (F : OF S N K C L T G B)
include F
theorem OF.tN : tkL (B ++ G) N = B := by
  have := F.b1; have := F.n1
  unfold tkL; rw [show N.toNat = B.length by omega]; simp
theorem OF.dN : drL (B ++ G) N = G := by
  have := F.b1; have := F.n1
  unfold drL; rw [show N.toNat = B.length by omega]; simp
theorem OF.tC : tkL (B ++ G) C = tkL B C := by
  have := F.b1; have := F.n1; have := F.c1
  unfold tkL; rw [List.take_append_of_le_length (by omega)]
theorem OF.dC : drL (B ++ G) C = drL B C ++ G := by
  have := F.b1; have := F.n1; have := F.c1
  unfold drL; rw [List.drop_append_of_le_length (by omega)]
theorem OF.dlen : ((drL B C).length : Int) = N - C := by
  have := F.b1; have := F.n1; have := F.c1
  unfold drL; rw [List.length_drop]; omega
theorem OF.tlen : ((tkL B C).length : Int) = C := by
  have := F.b1; have := F.n1; have := F.c1
  unfold tkL; rw [List.length_take]; omega
theorem OF.tD : tkL (drL B C ++ G) (N - C) = drL B C := by
  have := F.dlen; have := F.c1
  unfold tkL; rw [show (N - C).toNat = (drL B C).length by omega]; simp
theorem OF.dD : drL (drL B C ++ G) (N - C) = G := by
  have := F.dlen; have := F.c1
  unfold drL at *; rw [show (N - C).toNat = (List.drop C.toNat B).length by omega]; simp
theorem OF.okD : okF S (drL B C ++ G) = true := okF_sub (List.Sublist.append (List.drop_sublist _ _) (List.Sublist.refl _)) F.okX
theorem OF.empD : empL (drL B C ++ G) = false := decide_eq_false (by
  have := F.dlen; have := F.c1
  rw [List.length_append]; omega)
end
theorem orders_lt {a b c d : Int} (hlt : oN a b < oS a) : Fn0 (C := C8) Try.prog 3 [.raw (.int .i64 a), .raw (.int .i64 b), .raw (.int .i64 c), .raw (.int .i64 d)] [] (.raw (.bool true), []) := by
  have F := of_mk a b c d
  have q1 := o1z_path a b c d
  have q2 := o1_path a b c d
  have emp : empL (oG a b) = false := decide_eq_false (by have := F.g1; omega)
  refine fnC_ok (sp := sfO) (ls := l8) (unr := un8) (d := 10) plain mixed sfO_ok l8_ok ?_
  generalize oS a = S at *
  generalize oN a b = N at *
  generalize oK a b c = K at *
  generalize oC a b d = C at *
  generalize oL a = L at *
  generalize oT a b = T at *
  generalize oG a b = G at *
  generalize oB a b c = B at *
  have s1 := F.s1; have n1 := F.n1; have k1 := F.k1; have c1 := F.c1; have l1 := F.l1; have t1 := F.t1; have g1 := F.g1; have b1 := F.b1
  have dl := F.dlen; have tl := F.tlen
  have lx : (B ++ G).length = B.length + G.length := List.length_append
  have ldx : (drL B C ++ G).length = (drL B C).length + G.length := List.length_append
  have lK : (drL T K).length ≤ T.length := by unfold drL; rw [List.length_drop]; omega
  have lK2 : (tkL T K).length ≤ T.length := by unfold tkL; rw [List.length_take]; omega
  have e1 : bOk K (T.length : Int) (T.length : Int) = true := bOk_mk ⟨by omega, by omega, by omega⟩
  have e2 : bOk 0 K (T.length : Int) = true := bOk_mk ⟨by omega, by omega, by omega⟩
  have e3 : bOk C (B.length : Int) (B.length : Int) = true := bOk_mk ⟨by omega, by omega, by omega⟩
  have e4 : bOk 0 C (B.length : Int) = true := bOk_mk ⟨by omega, by omega, by omega⟩
  have e5 : roomB (drL T K).length Try.prog.types[(3 : Nat)].bytes = true := room3 (by omega)
  have e6 : roomB ((drL T K).length + (tkL T K).length) Try.prog.types[(3 : Nat)].bytes = true := room3 (by omega)
  have e7 : roomB ((tkL B C).length + (drL B C).length) Try.prog.types[(3 : Nat)].bytes = true := room3 (by omega)
  have d1 : decide (1 ≤ S ∧ S ≤ 1000) = true := decide_eq_true (by omega)
  have d2 : decide (1 ≤ S ∧ S ≤ 4611686018427387904) = true := decide_eq_true (by omega)
  have d3 : decide (1 ≤ N ∧ N ≤ (L.length : Int)) = true := decide_eq_true (by omega)
  have d4 : decide (1 ≤ N ∧ N ≤ 4611686018427387904) = true := decide_eq_true (by omega)
  have d5 : decide (1 ≤ N ∧ N ≤ ((B ++ G).length : Int)) = true := decide_eq_true (by omega)
  simp only [okG, cutR_eq, cutL_eq, intO, List.nil_append, show ([] : List Int).length = 0 from rfl, Nat.zero_add, F.tN, F.dN, F.tC, F.dC, F.tD, F.dD, cat3, F.okD, F.okX, F.okL, F.empD, emp, eqL_self, sm_of (l := B) (by omega), sm_of (l := G) (by omega), sm_of (l := B ++ G) (by omega), td, e1, e2, e3, e4, e5, e6, e7, d1, d2, d3, d4, d5, inR64_mk (r := S) (by omega), inR64_mk (r := N) (by omega), inR64_mk (r := N - C) (by omega), beq_self_eq_true, Bool.and_self] at q1 q2
  by_cases h0 : C = 0
  · rw [show (C == 0) = true by simpa using h0] at q1
    exact Tr.follow_get q1 rfl
  · rw [show (C == 0) = false by simpa using h0] at q2
    simp only [decide_eq_true (show 1 ≤ C ∧ C ≤ ((B ++ G).length : Int) by omega), decide_eq_true (show 1 ≤ N - C ∧ N - C ≤ ((drL B C ++ G).length : Int) by omega)] at q2
    exact Tr.follow_get q2 rfl
theorem orders_eq {a b c d : Int} (heq : oN a b = oS a) : Fn0 (C := C8) Try.prog 3 [.raw (.int .i64 a), .raw (.int .i64 b), .raw (.int .i64 c), .raw (.int .i64 d)] [] (.raw (.bool true), []) := by
  have F := of_mk a b c d
  have q1 := o2z_path a b c d
  have q2 := o2_path a b c d
  refine fnC_ok (sp := sfO2) (ls := l8) (unr := un8) (d := 10) plain mixed sfO2_ok l8_ok ?_
  generalize oS a = S at *
  generalize oN a b = N at *
  generalize oK a b c = K at *
  generalize oC a b d = C at *
  generalize oL a = L at *
  generalize oT a b = T at *
  generalize oG a b = G at *
  generalize oB a b c = B at *
  have hG : G = [] := List.eq_nil_of_length_eq_zero (by have := F.g1; omega)
  subst hG
  have s1 := F.s1; have n1 := F.n1; have k1 := F.k1; have c1 := F.c1; have l1 := F.l1; have t1 := F.t1; have b1 := F.b1
  have dl := F.dlen; have tl := F.tlen
  have okB : okF S B = true := by have := F.okX; rwa [List.append_nil] at this
  have okN : okF S [] = true := okF_iff.2 ⟨⟨by omega, by omega, by simp; omega⟩, fun x hx => (by cases hx), List.nodup_nil⟩
  have okd : okF S (drL B C) = true := okF_sub (List.drop_sublist _ _) okB
  have g1 := okG_parts (size := S) (ts := []) (us := B) (by unfold okG; rw [List.append_nil]; exact okB)
  have g2 := okG_parts (size := S) (ts := []) (us := drL B C) (by unfold okG; rw [List.append_nil]; exact okd)
  have g3 := okG_parts (size := S) (ts := drL B C) (us := tkL B C) (by unfold okG; rw [td]; exact okB)
  obtain ⟨_, g12, _, _, _, g16, g17⟩ := g1
  obtain ⟨_, g22, _, _, _, g26, g27⟩ := g2
  obtain ⟨_, g32, _, _, _, g36, g37⟩ := g3
  have tN : tkL B N = B := by have := F.tN; rwa [List.append_nil] at this
  have dN : drL B N = [] := by have := F.dN; rwa [List.append_nil] at this
  have tD : tkL (drL B C) (N - C) = drL B C := by have := F.tD; rwa [List.append_nil] at this
  have dD : drL (drL B C) (N - C) = [] := by have := F.dD; rwa [List.append_nil] at this
  have lK : (drL T K).length ≤ T.length := by unfold drL; rw [List.length_drop]; omega
  have lK2 : (tkL T K).length ≤ T.length := by unfold tkL; rw [List.length_take]; omega
  have e1 : bOk K (T.length : Int) (T.length : Int) = true := bOk_mk ⟨by omega, by omega, by omega⟩
  have e2 : bOk 0 K (T.length : Int) = true := bOk_mk ⟨by omega, by omega, by omega⟩
  have e3 : bOk C (B.length : Int) (B.length : Int) = true := bOk_mk ⟨by omega, by omega, by omega⟩
  have e4 : bOk 0 C (B.length : Int) = true := bOk_mk ⟨by omega, by omega, by omega⟩
  have e5 : roomB (drL T K).length Try.prog.types[(3 : Nat)].bytes = true := room3 (by omega)
  have e6 : roomB ((drL T K).length + (tkL T K).length) Try.prog.types[(3 : Nat)].bytes = true := room3 (by omega)
  have e7 : roomB ((tkL B C).length + (drL B C).length) Try.prog.types[(3 : Nat)].bytes = true := room3 (by omega)
  have e8 : roomB B.length Try.prog.types[(3 : Nat)].bytes = true := room3 (by omega)
  have e9 : roomB (drL B C).length Try.prog.types[(3 : Nat)].bytes = true := room3 (by omega)
  have e10 : roomB (tkL B C).length Try.prog.types[(3 : Nat)].bytes = true := room3 (by omega)
  have fullv : ∀ l : List Int, bOk 0 (l.length : Int) (l.length : Int) = true := fun l => bOk_mk ⟨by omega, by omega, by omega⟩
  have d1 : decide (1 ≤ S ∧ S ≤ 1000) = true := decide_eq_true (by omega)
  have d2 : decide (1 ≤ S ∧ S ≤ 4611686018427387904) = true := decide_eq_true (by omega)
  have d3 : decide (1 ≤ N ∧ N ≤ (L.length : Int)) = true := decide_eq_true (by omega)
  have d4 : decide (1 ≤ N ∧ N ≤ 4611686018427387904) = true := decide_eq_true (by omega)
  have d5 : decide (1 ≤ N ∧ N ≤ (B.length : Int)) = true := decide_eq_true (by omega)
  have d6 : decide ((drL B C).length = 0) = false := decide_eq_false (by omega)
  simp only [cutR_eq, cutL_eq, selfV_eq, intO, List.nil_append, show ([] : List Int).length = 0 from rfl, Nat.zero_add, Nat.add_zero, tN, dN, tD, dD, okB, okN, okd, F.okL, eqL_self, sm_of (l := B) (by omega), sm_of (l := ([] : List Int)) (by decide), sm_of (l := drL B C) (by omega), sm_of (l := tkL B C) (by omega), td, e1, e2, e3, e4, e5, e6, e7, e8, e9, e10, fullv, d1, d2, d3, d4, d5, d6, g12, g16, g17, g22, g26, g27, g32, g36, g37,
    inR64_mk (r := S) (by omega), inR64_mk (r := N) (by omega), inR64_mk (r := N - C) (by omega), decide_eq_true (Int.le_refl _), decide_true, beq_self_eq_true, Bool.and_self, Int.le_refl] at q1 q2
  by_cases h0 : C = 0
  · rw [show (C == 0) = true by simpa using h0] at q1
    exact Tr.follow_get q1 rfl
  · rw [show (C == 0) = false by simpa using h0] at q2
    simp only [decide_eq_true (show 1 ≤ C ∧ C ≤ (B.length : Int) by omega), decide_eq_true (show 1 ≤ N - C ∧ N - C ≤ ((drL B C).length : Int) by omega)] at q2
    exact Tr.follow_get q2 rfl
theorem FreeOrders_walk (a0 a1 a2 a3 : Int) (_ : (Lit.int .i64 a0).wf = true) (_ : (Lit.int .i64 a1).wf = true) (_ : (Lit.int .i64 a2).wf = true) (_ : (Lit.int .i64 a3).wf = true) (w : World) :
    Calls Try.prog 3 #[.int .i64 a0, .int .i64 a1, .int .i64 a2, .int .i64 a3] w fun e w' => e = .returned (.bool true) ∧ Below w.heap.size w w' := by
  have h : Fn0 (C := C8) Try.prog 3 [.raw (.int .i64 a0), .raw (.int .i64 a1), .raw (.int .i64 a2), .raw (.int .i64 a3)] [] (.raw (.bool true), []) := by
    by_cases h : oN a0 a1 < oS a0
    · exact orders_lt h
    · exact orders_eq (by have := (of_mk a0 a1 a2 a3).n1; omega)
  exact run_flat (C := C8) (args := [.raw (.int .i64 a0), .raw (.int .i64 a1), .raw (.int .i64 a2), .raw (.int .i64 a3)]) (vals := [.int .i64 a0, .int .i64 a1, .int .i64 a2, .int .i64 a3]) h rfl
end Go.Proofs.Ytkhlmlcjedbkcaa
