/-
  Merged texts, part 6 of 6. Own work; nothing here is trusted.
-/
import Derived.OwnWalk
import Derived.WalkKit
import Derived.TacticsIn
import Derived.Test.YtfgbhgeppdffaaaGreatTbPE
namespace Go.Proofs.YtfgbhgeppdffaaaGreat
open Go Go.Sx Go.RowKit
set_option maxRecDepth 1000000
set_option maxHeartbeats 8000000
set_option linter.unusedVariables false
noncomputable section
def rsX (f : Nat → Int) (ps : List Sg) : List Int := readS f (partS false (ps.map rdE))
def rsG (ts : List Sg) (N : Nat) (f : Nat → Int) (n : Int) : Bool := (wfS ts && (szB N && okSg ts)) && (memA N ts && (wfS (partS true ts) && (gaG ((partS true ts).map rdE) N f &&
  decide ((partS true ts).length ≠ 0 ∧ 1 ≤ n ∧ n < 4294967296 ∧ n ≤ wrI (partS true ts) ∧ wrI (partS true ts) < 4294967296 ∧ wrI (partS true ts) ≤ ((rsX f (partS true ts)).length : Int) ∧ (rsX f (partS true ts)).getD (wrI (partS true ts) - 1).toNat 0 = 0))))
theorem result_ok {full : Bool} {ts : List Sg} {N : Nat} {f : Nat → Int} {n : Int} (h : rsG ts N f n = true) : FnB Tryz.prog 21 [.h 0, .h 1, .raw (.int .u32 n)] (memS true full ts N f) (.tup [.h 5, .raw (.int .u8 0), .raw (.int .i64 0)], gaR full ts N f ((rsX f (partS true ts)).take (n - 1).toNat)) := by
  unfold rsG at h
  simp only [Bool.and_eq_true] at h
  obtain ⟨⟨hw, hN, hok⟩, hm, hwp, hga, hd⟩ := h
  obtain ⟨ps, hps⟩ : ∃ ps, partS true ts = ps := ⟨_, rfl⟩
  rw [hps] at hwp hga hd ⊢
  obtain ⟨hne, hn2, hn3, hnw, hw3, hwx, hst⟩ := of_decide_eq_true hd
  have he : inE N ts = 0 := by rw [inE_eq, hok, hm]; rfl
  have hpi : partI true ts = ps := (partI_eq true ts).trans hps
  have hoi : okI ts = true := (okI_eq ts).trans hok
  have hl : ps.length ≤ 1000 := by
    have h1 := part_len true ts
    rw [hps] at h1
    have := okSg_len hok
    omega
  generalize hwt : wrI ps = wt at *
  have hxs : readI f (ps.map rdE) = rsX f ps := readI_eq f _
  generalize rsX f ps = xs at *
  refine FnB.ofSelf (by kernel_rfl) rfl (fun i o hi hl => .inl (owned_at own_gaR hi hl)) fun fz ρ w vals S hd => ?_
  obtain ⟨u0, ul, q0, q1, rfl⟩ := denL_cons.1 hd
  obtain ⟨u1, ul2, q2, q3, rfl⟩ := denL_cons.1 q1
  obtain ⟨u2, ul3, q4, q5, rfl⟩ := denL_cons.1 q3
  rw [denL_nil] at q5
  subst q5
  cases q4
  obtain ⟨fn, h1, h2, h3, h4⟩ := f21_ex
  refine calls_of_wp h1 h2 ?_
  rw [h3]
  have H0 : Pq 5 fz w ρ (memS true full ts N f) 76 [0, 1, 2] [.h 0, .h 1, .raw (.int .u32 n)] (memS true full ts N f) { tmps := #[u0, u1, .int .u32 n] ++ Array.replicate (76 - (#[u0, u1, .int .u32 n] : Array Value).size) undef, defers := [] } w :=
    ⟨by rw [Array.size_append, Array.size_replicate]; rfl, rfl, ρ, S, TmL.ok (ts := [0, 1, 2]) ⟨⟨u0, q0, arg_at rfl⟩, ⟨u1, q2, arg_at rfl⟩, ⟨_, rfl, arg_at rfl⟩, trivial⟩, fun _ _ => rfl, Bg.start⟩
  rw [c21_eq]
  have l5 : 5 ≤ (memS true full ts N f).length := Nat.le_refl 5
  have l6 : ∀ qs, 5 ≤ (gaO full ts qs N f).length := fun _ => by show 5 ≤ 6; decide
  have l7 : ∀ ys, 5 ≤ (gaR full ts N f ys).length := fun _ => by show 5 ≤ 6; decide
  refine wp_seq (wp_mono (step21 (lp21 _ (by simp)) (rs_0 full ts N f n) l5 H0) fun e a1 w1 hq => ?_)
  obtain ⟨rfl, H1⟩ := hq
  have p1 : (rsL r1 [0, 1, 2] [0, 1, 2, 9] ⟨[.h 0, .h 1, .raw (.int .u32 n)], 5, memS true full ts N f⟩).get = some (.normal, [.h 0, .h 1, .raw (.int .u32 n), .raw (.int .i64 0)], memS true full ts N f) := by
    refine (rs_1 full ts N f n).trans ?_
    rw [rgB_self, hw, hN, he]; rfl
  refine wp_seq (wp_seq (wp_mono (step21 (lp21 _ (by simp)) p1 l5 H1) fun e a2 w2 hq => ?_))
  obtain ⟨rfl, H2⟩ := hq
  refine wp_mono (step21 (lp21 _ (by simp)) ((rs_2 full ts N f n 0).trans rfl : _ = some (Ex.normal, [SV.h 0, SV.h 1, SV.raw (.int .u32 n)], memS true full ts N f)) l5 H2) fun e a3 w3 hq => ?_
  obtain ⟨rfl, H3⟩ := hq
  have p4 : (rsL r4 [0, 1, 2] [0, 2, 10] ⟨[.h 0, .h 1, .raw (.int .u32 n)], 5, memS true full ts N f⟩).get = some (.normal, [.h 0, .raw (.int .u32 n), .h 5], gaO full ts ps N f) := by
    refine (rs_4 full ts N f n).trans ?_
    rw [hpi, hw, hoi, decide_eq_false hne]; rfl
  refine wp_seq (wp_mono (step21 (lp21 _ (by simp)) p4 l5 H3) fun e a4 w4 hq => ?_)
  obtain ⟨rfl, H4⟩ := hq
  have p5 : (rsL r5 [0, 2, 10] [0, 2, 10, 12] ⟨[.h 0, .raw (.int .u32 n), .h 5], 5, gaO full ts ps N f⟩).get = some (.normal, [.h 0, .raw (.int .u32 n), .h 5, .raw (.int .u64 wt)], gaO full ts ps N f) := by
    refine (rs_5 full ts ps N f n wt).trans ?_
    rw [hwp, hwt]; rfl
  refine wp_seq (wp_mono (step21 (lp21 _ (by simp)) p5 (l6 _) H4) fun e a5 w5 hq => ?_)
  obtain ⟨rfl, H5⟩ := hq
  have p6 : (rsL r6 [0, 2, 10, 12] [0, 2, 10, 12] ⟨[.h 0, .raw (.int .u32 n), .h 5, .raw (.int .u64 wt)], 5, gaO full ts ps N f⟩).get = some (.normal, [.h 0, .raw (.int .u32 n), .h 5, .raw (.int .u64 wt)], gaO full ts ps N f) := by
    refine (rs_6 full ts ps N f n wt).trans ?_
    have e1 : (wt == (0 : Int)) = false := beq_false_of_ne (by omega)
    have e2 : (n == (0 : Int)) = false := beq_false_of_ne (by omega)
    have e3 : n % 18446744073709551616 = n := Int.emod_eq_of_lt (by omega) (by omega)
    rw [e1, e2, e3, decide_eq_false (show ¬ wt < n by omega)]; rfl
  refine wp_seq (wp_mono (step21 (lp21 _ (by simp)) p6 (l6 _) H5) fun e a6 w6 hq => ?_)
  obtain ⟨rfl, H6⟩ := hq
  refine wp_seq (wp_seq (wp_mono (step21 (lp21 _ (by simp)) (rs_10 full ts ps N f n wt) (l6 _) H6) fun e a7 w7 hq => ?_))
  obtain ⟨rfl, H7⟩ := hq
  have loop : (Code.block 1 (.loop rL)).wp Tryz.prog (fun e a w' => e = .normal ∧ Pq 5 fz w ρ (memS true full ts N f) 76 sr1 (rsV (fK ps ps.length) n wt (ps.length : Nat)) (gaO full ts (fK ps ps.length) N f) a w') a7 w7 := by
    refine wp_block (wp_loop (fun a w' => ∃ k : Nat, k ≤ ps.length ∧ Pq 5 fz w ρ (memS true full ts N f) 76 sr1 (rsV (fK ps k) n wt (k : Nat)) (gaO full ts (fK ps k) N f) a w') (fun a w => muK ps.length a.tmps[44]?) ⟨0, Nat.zero_le _, H7⟩ ?_)
    rintro a w ⟨k, hk, H⟩
    have y1 := H.tm (t := 44) (v := .int .i64 ((k : Nat) : Int)) rfl
    by_cases hlt : k < ps.length
    · refine wp_mono (step21 (lp21 _ (by simp)) (prs_go hlt hl) (l6 _) H) fun e a1 w1 hq => ?_
      obtain ⟨rfl, H1⟩ := hq
      have y2 := H1.tm (t := 44) (v := .int .i64 ((k + 1 : Nat) : Int)) rfl
      refine ⟨⟨k + 1, hlt, H1⟩, ?_⟩
      rw [y1, y2]
      show ps.length - ((k + 1 : Nat) : Int).toNat < ps.length - ((k : Nat) : Int).toNat
      omega
    · obtain rfl : k = ps.length := by omega
      refine wp_mono (step21 (lp21 _ (by simp)) prs_end (l6 _) H) fun e a1 w1 hq => ?_
      obtain ⟨rfl, H1⟩ := hq
      exact ⟨rfl, H1⟩
  refine wp_mono loop fun e a8 w8 hq => ?_
  obtain ⟨rfl, H8⟩ := hq
  rw [fK_full] at H8
  have p15 : (rsL r15 sr1 [2, 12, 14, 15] ⟨rsV (ps.map rdE) n wt (ps.length : Nat), 5, gaO full ts (ps.map rdE) N f⟩).get = some (.normal, [.raw (.int .u32 n), .raw (.int .u64 wt), .h 5, .raw (.int .i64 0)], gaR full ts N f xs) := by
    refine (rs_15 full ts (ps.map rdE) N f n wt _).trans ?_
    rw [rgB_self, gaGI_eq, hga, hxs]; rfl
  refine wp_seq (wp_mono (step21 (lp21 _ (by simp)) p15 (l6 _) H8) fun e a9 w9 hq => ?_)
  obtain ⟨rfl, H9⟩ := hq
  refine wp_seq (wp_mono (step21 (lp21 _ (by simp)) (rs_16 full ts ps N f n wt xs) (l7 _) H9) fun e a10 w10 hq => ?_)
  obtain ⟨rfl, H10⟩ := hq
  have p18 : (rsL r18 [2, 12, 14] [2, 14, 16] ⟨[.raw (.int .u32 n), .raw (.int .u64 wt), .h 5], 5, gaR full ts N f xs⟩).get = some (.normal, [.raw (.int .u32 n), .h 5, .raw (.int .u8 0)], gaR full ts N f xs) := by
    refine (rs_18 full ts ps N f n wt xs).trans ?_
    have e3 : (wt - 1) % 18446744073709551616 = wt - 1 := Int.emod_eq_of_lt (by omega) (by omega)
    rw [e3, inB_mk ⟨by omega, by omega⟩, decide_eq_true (show (wt - 1).toNat < xs.length by omega)]
    show some (Ex.normal, [_, _, SV.raw (Value.int IntKind.u8 (xs.getD (wt - 1).toNat 0))], _) = _
    rw [hst]
    rfl
  refine wp_seq (wp_mono (step21 (lp21 _ (by simp)) p18 (l7 _) H10) fun e a11 w11 hq => ?_)
  obtain ⟨rfl, H11⟩ := hq
  refine wp_seq (wp_mono (step21 (lp21 _ (by simp)) ((rs_19 full ts ps N f n wt xs 0).trans rfl : _ = some (Ex.normal, [SV.raw (.int .u32 n), SV.h 5, SV.raw (.int .u8 0)], gaR full ts N f xs)) (l7 _) H11) fun e a12 w12 hq => ?_)
  obtain ⟨rfl, H12⟩ := hq
  have p21 : (rsL r21 [2, 14, 16] [6, 7, 8] ⟨[.raw (.int .u32 n), .h 5, .raw (.int .u8 0)], 5, gaR full ts N f xs⟩).get = some (.normal, [.h 5, .raw (.int .u8 0), .raw (.int .i64 0)], gaR full ts N f (xs.take (n - 1).toNat)) := by
    refine (rs_21 full ts ps N f n wt xs 0).trans ?_
    have e3 : (n - 1) % 4294967296 = n - 1 := Int.emod_eq_of_lt (by omega) (by omega)
    have hr : roomV 0 xs.length none = ((xs.length : Nat) : Int) - ((0 : Nat) : Int) := rfl
    have hs : shutB (n - 1).toNat xs.length (some (n - 1).toNat) = true := by
      show (decide ((n - 1).toNat ≤ (n - 1).toNat) && decide ((n - 1).toNat ≤ xs.length)) = true
      rw [decide_eq_true (Nat.le_refl _), decide_eq_true (show (n - 1).toNat ≤ xs.length by omega)]; rfl
    rw [e3, bOk_mk ⟨by omega, by omega, by omega⟩, decide_eq_true (show n - 1 ≤ roomV 0 xs.length none by rw [hr]; omega), hs]
    rfl
  refine wp_seq (wp_mono (step21 (lp21 _ (by simp)) p21 (l7 _) H12) fun e a13 w13 hq => ?_)
  obtain ⟨rfl, H13⟩ := hq
  have z7 := H13.tm (t := 7) (v := .int .u8 0) rfl
  have z8 := H13.tm (t := 8) (v := .int .i64 0) rfl
  obtain ⟨_, hd8, ρ', S8, T8, A8, B8⟩ := H13
  obtain ⟨v6, hv6, z6⟩ := T8 6 (.h 5) rfl
  refine wp_ret (bodyPost_ret (results_tmp3 h4 _ _ _) hd8 ⟨ρ', _, rfl, A8, S8, B8.st, B8.mn, ?_⟩)
  have x6 : a13.tmps.getD 6 undef = v6 := by rw [Array.getD_eq_getD_getElem?, z6]; rfl
  have x7 : a13.tmps.getD 7 undef = .int .u8 0 := by rw [Array.getD_eq_getD_getElem?, z7]; rfl
  have x8 : a13.tmps.getD 8 undef = .int .i64 0 := by rw [Array.getD_eq_getD_getElem?, z8]; rfl
  rw [x6, x7, x8]
  have hv6 : ρ' 5 = some v6 := hv6
  simp [den, denL, hv6]
end
end Go.Proofs.YtfgbhgeppdffaaaGreat
namespace Go.Proofs.YtfgbhgeppdffaaaGreat
open Go Go.Sx Go.RowKit
set_option maxRecDepth 1000000
set_option maxHeartbeats 8000000
set_option linter.unusedVariables false
set_option linter.unusedSimpArgs false
noncomputable section
theorem cutF_tree (full : Bool) (ts : List Sg) (f n : Int) : (fnB CT Tryz.prog sp3 lsE lsEu 10 169 [.h 0, .raw (.int .u64 f), .raw (.int .u64 n)] [.sl false full 101 (ts : List Sg)]).get =
  bro (wfS ts) (bro (chkI ts != (0 : Int)) (some (SV.raw (Value.slice none 0 0), [SO.sl false full 101 ts])) (bro (roomB (([] : List Sg).length + ts.length) Tryz.prog.types[(101 : Nat)].bytes) (bro (eaG ts f) (bro (eatPI ts f) (bro (eaG (eatRI ts f) n) (bro (eatPI (eatRI ts f) n) (some (SV.h 1, [SO.sl false full 101 ts, SO.sl true false 101 (eatOI (eatRI ts f) n)])) (bro (decide (eatNI (eatRI ts f) n = (0 : Nat))) (some (SV.raw (Value.slice none 0 0), [SO.sl false full 101 ts])) (some (SV.h 1, [SO.sl false full 101 ts, SO.sl true false 101 (eatOI (eatRI ts f) n)])))) (none)) (bro (decide (eatNI ts f = (0 : Nat))) (bro (eaG ts n) (bro (eatPI ts n) (some (SV.h 1, [SO.sl false full 101 ts, SO.sl true false 101 (eatOI ts n)])) (bro (decide (eatNI ts n = (0 : Nat))) (some (SV.raw (Value.slice none 0 0), [SO.sl false full 101 ts])) (some (SV.h 1, [SO.sl false full 101 ts, SO.sl true false 101 (eatOI ts n)])))) (none)) (bro (decide ((1 : Nat) ≤ (0 : Nat) + eatNI ts f ∧ (0 : Nat) + eatNI ts f + (ts.length - eatNI ts f) ≤ ts.length)) (bro (eaG ts n) (bro (eatPI (List.take (ts.length - eatNI ts f) (List.drop ((0 : Nat) + eatNI ts f) ts)) n) (some (SV.h 1, [SO.sl false full 101 ts, SO.sl true false 101 (eatOI (List.take (ts.length - eatNI ts f) (List.drop ((0 : Nat) + eatNI ts f) ts)) n)])) (bro (decide (eatNI (List.take (ts.length - eatNI ts f) (List.drop ((0 : Nat) + eatNI ts f) ts)) n = (0 : Nat))) (some (SV.raw (Value.slice none 0 0), [SO.sl false full 101 ts])) (some (SV.h 1, [SO.sl false full 101 ts, SO.sl true false 101 (eatOI (List.take (ts.length - eatNI ts f) (List.drop ((0 : Nat) + eatNI ts f) ts)) n)])))) (none)) (none)))) (none)) (none))) (none) := by kernel_rfl
def gdS (l : List Sg) : Prop := wfS l = true ∧ l.all sgB = true
theorem gdS_cons {x : Sg} {r : List Sg} : gdS (x :: r) ↔ (sgW x = true ∧ sgB x = true) ∧ gdS r := by
  unfold gdS wfS
  rw [List.all_cons, List.all_cons, Bool.and_eq_true, Bool.and_eq_true]
  constructor
  · rintro ⟨⟨a, b⟩, c, d⟩; exact ⟨⟨a, c⟩, b, d⟩
  · rintro ⟨⟨a, c⟩, b, d⟩; exact ⟨⟨a, b⟩, c, d⟩
theorem eat_gd : ∀ {l : List Sg} {n : Int}, gdS l → gdS (eatO l n) ∧ gdS (eatR l n)
  | [], n, h => ⟨h, h⟩
  | x :: r, n, h => by
    obtain ⟨⟨h1, h2⟩, h3⟩ := gdS_cons.1 h
    by_cases c1 : n ≤ 0
    · unfold eatO eatR
      rw [decide_eq_true c1]; exact ⟨⟨rfl, rfl⟩, h⟩
    · by_cases c2 : n < x.2.1
      · have w := sgW_iff.1 h1
        have b : 1 ≤ x.2.1 ∧ x.2.1 - 1 ≤ 18446744073709551615 - x.1 := of_decide_eq_true h2
        unfold eatO eatR
        rw [decide_eq_false c1, decide_eq_true c2]
        refine ⟨gdS_cons.2 ⟨⟨sgW_iff.2 ?_, decide_eq_true ?_⟩, rfl, rfl⟩, gdS_cons.2 ⟨⟨sgW_iff.2 ?_, decide_eq_true ?_⟩, h3⟩⟩ <;> simp only <;> omega
      · rw [eatO_s c1 c2, eatR_s c1 c2]
        have ih := eat_gd (n := n - x.2.1) h3
        exact ⟨gdS_cons.2 ⟨⟨h1, h2⟩, ih.1⟩, ih.2⟩
theorem okSg_gd {l : List Sg} (hw : wfS l = true) (h : okSg l = true) : gdS l ∧ l.length ≤ 100000 := by
  have h1 := okSg_len h
  unfold okSg at h
  simp only [Bool.and_eq_true] at h
  exact ⟨⟨hw, h.2.1.1⟩, by omega⟩
def nG (x : Int) : Bool := decide (0 ≤ x ∧ x < 18446744073709551616)
theorem nG_iff {x : Int} : nG x = true ↔ 0 ≤ x ∧ x < 18446744073709551616 := decide_eq_true_iff
def cutI (l : List Sg) (f n : Int) : List Sg := opq (cutS l f n)
theorem cutI_eq (l : List Sg) (f n : Int) : cutI l f n = cutS l f n := opq_eq _
theorem eatR_len (l : List Sg) (n : Int) : (eatR l n).length ≤ l.length := by
  cases h : eatP l n with
  | true =>
    rw [(eat_part h).2]
    have := (eatP_iff.1 h).1
    rw [List.length_cons, List.length_drop]; omega
  | false => rw [(eat_full h).2, List.length_drop]; omega
theorem cut_get {full : Bool} {ts : List Sg} {f n : Int} (hw : wfS ts = true) (hf : nG f = true) (hn : nG n = true) :
    (fnB CT Tryz.prog sp3 lsE lsEu 10 169 [.h 0, .raw (.int .u64 f), .raw (.int .u64 n)] [.sl false full 101 (ts : List Sg)]).get =
      bro (decide ((cutS ts f n).length = 0)) (some (.raw (.slice none 0 0), [.sl false full 101 (ts : List Sg)])) (some (.h 1, [.sl false full 101 (ts : List Sg), .sl true false 101 (cutS ts f n)])) := by
  have hf := nG_iff.1 hf
  have hn := nG_iff.1 hn
  refine (cutF_tree full ts f n).trans ?_
  rw [hw, chkI_bne]
  unfold cutS
  cases ho : okSg ts with
  | false => rfl
  | true =>
    obtain ⟨hg, hl⟩ := okSg_gd hw ho
    have hgR := (eat_gd (n := f) hg).2
    have hlR := eatR_len ts f
    have g1 : ∀ x, nG x = true → eaG ts x = true := fun x hx => eaG_iff.2 ⟨⟨hl, nG_iff.1 hx⟩, hg⟩
    have g2 : eaG (eatR ts f) n = true := eaG_iff.2 ⟨⟨by omega, hn⟩, hgR⟩
    have r1 : roomB (([] : List Sg).length + ts.length) Tryz.prog.types[(101 : Nat)].bytes = true := rmS (by show 0 + ts.length ≤ _; omega)
    have key : ∀ X : List Sg, bro (eatPI X n) (some (SV.h 1, [.sl false full 101 (ts : List Sg), SO.sl true false 101 (eatOI X n)])) (bro (decide (eatNI X n = 0)) (some (.raw (.slice none 0 0), [.sl false full 101 (ts : List Sg)])) (some (SV.h 1, [SO.sl false full 101 (ts : List Sg), .sl true false 101 (eatOI X n)])))
        = bro (decide ((eatO X n).length = 0)) (some (.raw (.slice none 0 0), [.sl false full 101 (ts : List Sg)])) (some (SV.h 1, [SO.sl (C := CT) false full 101 (ts : List Sg), .sl true false 101 (eatO X n)])) := fun X => by
      rw [eatPI_eq, eatNI_eq, eatOI_eq]
      by_cases e : eatO X n = []
      · obtain ⟨e1, e2⟩ := eatO_nil.1 e
        rw [e2, e1, e]; rfl
      · have hne : decide ((eatO X n).length = 0) = false := decide_eq_false fun h => e (List.eq_nil_of_length_eq_zero h)
        rw [hne]
        cases hp : eatP X n with
        | true => rfl
        | false =>
          have : decide (eatN X n = 0) = false := decide_eq_false fun h => e (eatO_nil.2 ⟨h, hp⟩)
          rw [this]; rfl
    show bro true (bro false _ (bro (roomB (([] : List Sg).length + ts.length) Tryz.prog.types[(101 : Nat)].bytes) (bro (eaG ts f) (bro (eatPI ts f) (bro (eaG (eatRI ts f) n) _ none) (bro (decide (eatNI ts f = 0)) (bro (eaG ts n) _ none) (bro (decide (1 ≤ 0 + eatNI ts f ∧ 0 + eatNI ts f + (ts.length - eatNI ts f) ≤ ts.length)) (bro (eaG ts n) _ none) none))) none) none)) none = _
    rw [r1, g1 f (nG_iff.2 hf), g1 n (nG_iff.2 hn), eatRI_eq, g2]
    rw [show eatPI ts f = eatP ts f from eatPI_eq _ _, show eatNI ts f = eatN ts f from eatNI_eq _ _]
    cases hp : eatP ts f with
    | true => exact key (eatR ts f)
    | false =>
      obtain ⟨q1, q2⟩ := eat_full hp
      have hle := eatN_le ts f
      by_cases h0 : eatN ts f = 0
      · rw [decide_eq_true h0]
        rw [h0, List.drop_zero] at q2
        rw [q2]
        exact key ts
      · rw [decide_eq_false h0, decide_eq_true (show 1 ≤ 0 + eatN ts f ∧ 0 + eatN ts f + (ts.length - eatN ts f) ≤ ts.length by omega)]
        have e : List.take (ts.length - eatN ts f) (List.drop (0 + eatN ts f) ts) = eatR ts f := by
          rw [q2, Nat.zero_add]
          exact List.take_of_length_le (by rw [List.length_drop]; exact Nat.le_refl _)
        rw [← e]
        exact key _
def cutT : FnF CT := fun ws os => match ws, os with
  | [.h 0, .raw (.int .u64 f), .raw (.int .u64 n)], [.sl false full 101 ts] => .br (wfS ts) (.br (nG f) (.br (nG n) (.br (decide ((cutI ts f n).length = 0)) (.leaf (.raw (.slice none 0 0), [])) (.leaf (.h 1, [.sl true false 101 (cutI ts f n : List Sg)]))) .fail) .fail) .fail
  | _, _ => .fail
theorem cutT_ok : ∀ args os r, (cutT args os).get = some r → Fn0 Tryz.prog 169 args os r := fun args os r h => by
  unfold cutT at h
  split at h
  · rename_i f n full ts
    change List Sg at ts
    obtain ⟨h1, hA⟩ := Tr.get_ask.1 h
    obtain ⟨h2, hB⟩ := Tr.get_ask.1 hA
    obtain ⟨h3, hC⟩ := Tr.get_ask.1 hB
    clear h hA hB
    have k := cut_get (full := full) h1 h2 h3
    rw [← cutI_eq] at k
    rcases Tr.get_br.1 hC with ⟨h5, h6⟩ | ⟨h5, h6⟩ <;> (simp only [Tr.get, Option.some.injEq] at h6; subst h6; rw [h5] at k; exact Fn0.ofB (fnB_ok plain mixed sp3_ok lsE_ok k))
  · cases h
def sp4 : SpecT CT := addS 169 (seeS cutT) sp3
theorem sp4_ok : SpecTOk Tryz.prog sp4 := addS_ok (seeS_ok cutT_ok) sp3_ok
abbrev spSl : List Nat := [0, 1, 2, 9, 10, 11]
@[reducible] def spO (full fu : Bool) (l0 : List Sg) (cs : List Int) : List (SO CT) := [.sl false full 101 (l0 : List Sg), .sl false fu 3 (cs : List Int)]
@[reducible] def spA (full fu : Bool) (l0 : List Sg) (cs : List Int) (mo al a K : Int) : List SV × List (SO CT) := ([.h 0, .h 1, .raw (.int .i64 mo), .raw (.int .u64 al), .raw (.int .u64 a), .raw (.int .i64 K)], spO full fu l0 cs)
@[reducible] def spB (full fu : Bool) (l0 : List Sg) (cs : List Int) (l : List Sg) (mo al a K : Int) : List SV × List (SO CT) := ([.h 2, .h 1, .raw (.int .i64 mo), .raw (.int .u64 al), .raw (.int .u64 a), .raw (.int .i64 K)], spO full fu l0 cs ++ [.sl true false 101 (l : List Sg)])
abbrev spR (x : List SV × List (SO CT)) := roundG CT Tryz.prog sp4 noLs (fun _ _ => 20) 10 119 0 spSl ⟨x.1, 2, x.2⟩
abbrev elI (cs : List Int) (K : Int) : Int := cs.getD K.toNat 0
theorem spA_skip1 (full fu : Bool) (l0 : List Sg) (cs : List Int) (mo al a K : Int) : Tr.follow [Tt,Tt,Tt,Tt,Tt,Tt,Tt,Tt,Tt,Tt,Tt,Tt,Tt,Tt,Tt] (spR (spA full fu l0 cs mo al a K)) =
  some ([decide (K < (↑cs.length : Int)),inB K cs.length,decide (K.toNat < cs.length),decide (elI cs K ≤ 0),Tt,Tt,Tt,Tt,Tt,Tt,Tt,Tt,Tt,Tt,inR64 (K + (1 : Int))],
  (Ex.normal, [SV.h 0, SV.h 1, SV.raw (Value.int IntKind.i64 mo), SV.raw (Value.int IntKind.u64 al), SV.raw (Value.int IntKind.u64 a), SV.raw (Value.int IntKind.i64 (K + (1 : Int)))], [SO.sl false full 101 l0, SO.sl false fu 3 cs])) := by kernel_rfl
theorem spA_skip2 (full fu : Bool) (l0 : List Sg) (cs : List Int) (mo al a K : Int) : Tr.follow [Tt,Tt,Tt,Ff,Ff,Ff,Tt,Ff,Tt,Ff,Ff,Ff,Ff,Ff,Tt,Tt] (spR (spA full fu l0 cs mo al a K)) =
  some ([decide (K < (↑cs.length : Int)),inB K cs.length,decide (K.toNat < cs.length),decide (elI cs K ≤ 0),Ff,Ff,inB K cs.length,Ff,decide (K.toNat < cs.length),Ff,Ff,Ff,Ff,Ff,decide ((al - a) % 18446744073709551616 ≤ elI cs K % 18446744073709551616),inR64 (K + (1 : Int))],
  (Ex.normal, [SV.h 0, SV.h 1, SV.raw (Value.int IntKind.i64 mo), SV.raw (Value.int IntKind.u64 al), SV.raw (Value.int IntKind.u64 a), SV.raw (Value.int IntKind.i64 (K + (1 : Int)))], [SO.sl false full 101 l0, SO.sl false fu 3 cs])) := by kernel_rfl
theorem spA_cut (full fu : Bool) (l0 : List Sg) (cs : List Int) (mo al a K : Int) : Tr.follow [Tt,Tt,Tt,Ff,Ff,Ff,Tt,Ff,Tt,Ff,Ff,Ff,Ff,Ff,Ff,Tt,Tt,Tt,Tt,Tt,Ff,Tt,Tt,Tt,Ff,Tt,Tt,Ff,Tt,Tt] (spR (spA full fu l0 cs mo al a K)) =
  some ([decide (K < (↑cs.length : Int)),inB K cs.length,decide (K.toNat < cs.length),decide (elI cs K ≤ 0),Ff,Ff,inB K cs.length,Ff,decide (K.toNat < cs.length),Ff,Ff,Ff,Ff,Ff,decide ((al - a) % 18446744073709551616 ≤ elI cs K % 18446744073709551616),inB K cs.length,decide (K.toNat < cs.length),wfS l0,Tt,nG ((a + elI cs K % 18446744073709551616) % 18446744073709551616),decide ((cutI l0 (0 : Int) ((a + elI cs K % 18446744073709551616) % 18446744073709551616)).length = (0 : Nat)),wfS l0,nG ((a + elI cs K % 18446744073709551616) % 18446744073709551616),nG al,decide ((cutI l0 ((a + elI cs K % 18446744073709551616) % 18446744073709551616) al).length = (0 : Nat)),roomB ((cutI l0 (0 : Int) ((a + elI cs K % 18446744073709551616) % 18446744073709551616)).length + (cutI l0 ((a + elI cs K % 18446744073709551616) % 18446744073709551616) al).length) Tryz.prog.types[(101 : Nat)].bytes,decide ((↑l0.length : Int) < (↑(cutI l0 (0 : Int) ((a + elI cs K % 18446744073709551616) % 18446744073709551616) ++ cutI l0 ((a + elI cs K % 18446744073709551616) % 18446744073709551616) al).length : Int)),mo == 0,inR64 (mo - (1 : Int)),inR64 (K + (1 : Int))],
  (Ex.normal, [SV.h 2, SV.h 1, SV.raw (Value.int IntKind.i64 (mo - (1 : Int))), SV.raw (Value.int IntKind.u64 al), SV.raw (Value.int IntKind.u64 ((a + elI cs K % 18446744073709551616) % 18446744073709551616)), SV.raw (Value.int IntKind.i64 (K + (1 : Int)))], [SO.sl false full 101 l0, SO.sl false fu 3 cs, SO.sl true false 101 (cutI l0 (0 : Int) ((a + elI cs K % 18446744073709551616) % 18446744073709551616) ++ cutI l0 ((a + elI cs K % 18446744073709551616) % 18446744073709551616) al)])) := by kernel_rfl
theorem spA_break (full fu : Bool) (l0 : List Sg) (cs : List Int) (mo al a K : Int) : Tr.follow [Tt,Tt,Tt,Ff,Ff,Ff,Tt,Ff,Tt,Ff,Ff,Ff,Ff,Ff,Ff,Tt,Tt,Tt,Tt,Tt,Ff,Tt,Tt,Tt,Ff,Tt,Tt,Tt] (spR (spA full fu l0 cs mo al a K)) =
  some ([decide (K < (↑cs.length : Int)),inB K cs.length,decide (K.toNat < cs.length),decide (elI cs K ≤ 0),Ff,Ff,inB K cs.length,Ff,decide (K.toNat < cs.length),Ff,Ff,Ff,Ff,Ff,decide ((al - a) % 18446744073709551616 ≤ elI cs K % 18446744073709551616),inB K cs.length,decide (K.toNat < cs.length),wfS l0,Tt,nG ((a + elI cs K % 18446744073709551616) % 18446744073709551616),decide ((cutI l0 (0 : Int) ((a + elI cs K % 18446744073709551616) % 18446744073709551616)).length = (0 : Nat)),wfS l0,nG ((a + elI cs K % 18446744073709551616) % 18446744073709551616),nG al,decide ((cutI l0 ((a + elI cs K % 18446744073709551616) % 18446744073709551616) al).length = (0 : Nat)),roomB ((cutI l0 (0 : Int) ((a + elI cs K % 18446744073709551616) % 18446744073709551616)).length + (cutI l0 ((a + elI cs K % 18446744073709551616) % 18446744073709551616) al).length) Tryz.prog.types[(101 : Nat)].bytes,decide ((↑l0.length : Int) < (↑(cutI l0 (0 : Int) ((a + elI cs K % 18446744073709551616) % 18446744073709551616) ++ cutI l0 ((a + elI cs K % 18446744073709551616) % 18446744073709551616) al).length : Int)),mo == 0],
  (Ex.exit 0, [SV.h 0, SV.h 1, SV.raw (Value.int IntKind.i64 mo), SV.raw (Value.int IntKind.u64 al), SV.raw (Value.int IntKind.u64 a), SV.raw (Value.int IntKind.i64 K)], [SO.sl false full 101 l0, SO.sl false fu 3 cs])) := by kernel_rfl
theorem spA_same (full fu : Bool) (l0 : List Sg) (cs : List Int) (mo al a K : Int) : Tr.follow [Tt,Tt,Tt,Ff,Ff,Ff,Tt,Ff,Tt,Ff,Ff,Ff,Ff,Ff,Ff,Tt,Tt,Tt,Tt,Tt,Ff,Tt,Tt,Tt,Ff,Tt,Ff,Tt] (spR (spA full fu l0 cs mo al a K)) =
  some ([decide (K < (↑cs.length : Int)),inB K cs.length,decide (K.toNat < cs.length),decide (elI cs K ≤ 0),Ff,Ff,inB K cs.length,Ff,decide (K.toNat < cs.length),Ff,Ff,Ff,Ff,Ff,decide ((al - a) % 18446744073709551616 ≤ elI cs K % 18446744073709551616),inB K cs.length,decide (K.toNat < cs.length),wfS l0,Tt,nG ((a + elI cs K % 18446744073709551616) % 18446744073709551616),decide ((cutI l0 (0 : Int) ((a + elI cs K % 18446744073709551616) % 18446744073709551616)).length = (0 : Nat)),wfS l0,nG ((a + elI cs K % 18446744073709551616) % 18446744073709551616),nG al,decide ((cutI l0 ((a + elI cs K % 18446744073709551616) % 18446744073709551616) al).length = (0 : Nat)),roomB ((cutI l0 (0 : Int) ((a + elI cs K % 18446744073709551616) % 18446744073709551616)).length + (cutI l0 ((a + elI cs K % 18446744073709551616) % 18446744073709551616) al).length) Tryz.prog.types[(101 : Nat)].bytes,decide ((↑l0.length : Int) < (↑(cutI l0 (0 : Int) ((a + elI cs K % 18446744073709551616) % 18446744073709551616) ++ cutI l0 ((a + elI cs K % 18446744073709551616) % 18446744073709551616) al).length : Int)),inR64 (K + (1 : Int))],
  (Ex.normal, [SV.h 2, SV.h 1, SV.raw (Value.int IntKind.i64 mo), SV.raw (Value.int IntKind.u64 al), SV.raw (Value.int IntKind.u64 ((a + elI cs K % 18446744073709551616) % 18446744073709551616)), SV.raw (Value.int IntKind.i64 (K + (1 : Int)))], [SO.sl false full 101 l0, SO.sl false fu 3 cs, SO.sl true false 101 (cutI l0 (0 : Int) ((a + elI cs K % 18446744073709551616) % 18446744073709551616) ++ cutI l0 ((a + elI cs K % 18446744073709551616) % 18446744073709551616) al)])) := by kernel_rfl
theorem spA_end (full fu : Bool) (l0 : List Sg) (cs : List Int) (mo al a K : Int) : Tr.follow [Ff] (spR (spA full fu l0 cs mo al a K)) =
  some ([decide (K < (↑cs.length : Int))],
  (Ex.exit 0, [SV.h 0, SV.h 1, SV.raw (Value.int IntKind.i64 mo), SV.raw (Value.int IntKind.u64 al), SV.raw (Value.int IntKind.u64 a), SV.raw (Value.int IntKind.i64 K)], [SO.sl false full 101 l0, SO.sl false fu 3 cs])) := by kernel_rfl
theorem spB_skip1 (full fu : Bool) (l0 : List Sg) (cs : List Int) (l : List Sg) (mo al a K : Int) : Tr.follow [Tt,Tt,Tt,Tt,Tt,Tt,Tt,Tt,Tt,Tt,Tt,Tt,Tt,Tt,Tt] (spR (spB full fu l0 cs l mo al a K)) =
  some ([decide (K < (↑cs.length : Int)),inB K cs.length,decide (K.toNat < cs.length),decide (elI cs K ≤ 0),Tt,Tt,Tt,Tt,Tt,Tt,Tt,Tt,Tt,Tt,inR64 (K + (1 : Int))],
  (Ex.normal, [SV.h 2, SV.h 1, SV.raw (Value.int IntKind.i64 mo), SV.raw (Value.int IntKind.u64 al), SV.raw (Value.int IntKind.u64 a), SV.raw (Value.int IntKind.i64 (K + (1 : Int)))], [SO.sl false full 101 l0, SO.sl false fu 3 cs, SO.sl true false 101 l])) := by kernel_rfl
theorem spB_skip2 (full fu : Bool) (l0 : List Sg) (cs : List Int) (l : List Sg) (mo al a K : Int) : Tr.follow [Tt,Tt,Tt,Ff,Ff,Ff,Tt,Ff,Tt,Ff,Ff,Ff,Ff,Ff,Tt,Tt] (spR (spB full fu l0 cs l mo al a K)) =
  some ([decide (K < (↑cs.length : Int)),inB K cs.length,decide (K.toNat < cs.length),decide (elI cs K ≤ 0),Ff,Ff,inB K cs.length,Ff,decide (K.toNat < cs.length),Ff,Ff,Ff,Ff,Ff,decide ((al - a) % 18446744073709551616 ≤ elI cs K % 18446744073709551616),inR64 (K + (1 : Int))],
  (Ex.normal, [SV.h 2, SV.h 1, SV.raw (Value.int IntKind.i64 mo), SV.raw (Value.int IntKind.u64 al), SV.raw (Value.int IntKind.u64 a), SV.raw (Value.int IntKind.i64 (K + (1 : Int)))], [SO.sl false full 101 l0, SO.sl false fu 3 cs, SO.sl true false 101 l])) := by kernel_rfl
theorem spB_cut (full fu : Bool) (l0 : List Sg) (cs : List Int) (l : List Sg) (mo al a K : Int) : Tr.follow [Tt,Tt,Tt,Ff,Ff,Ff,Tt,Ff,Tt,Ff,Ff,Ff,Ff,Ff,Ff,Tt,Tt,Tt,Tt,Tt,Ff,Tt,Tt,Tt,Ff,Tt,Tt,Ff,Tt,Tt] (spR (spB full fu l0 cs l mo al a K)) =
  some ([decide (K < (↑cs.length : Int)),inB K cs.length,decide (K.toNat < cs.length),decide (elI cs K ≤ 0),Ff,Ff,inB K cs.length,Ff,decide (K.toNat < cs.length),Ff,Ff,Ff,Ff,Ff,decide ((al - a) % 18446744073709551616 ≤ elI cs K % 18446744073709551616),inB K cs.length,decide (K.toNat < cs.length),wfS l,Tt,nG ((a + elI cs K % 18446744073709551616) % 18446744073709551616),decide ((cutI l (0 : Int) ((a + elI cs K % 18446744073709551616) % 18446744073709551616)).length = (0 : Nat)),wfS l,nG ((a + elI cs K % 18446744073709551616) % 18446744073709551616),nG al,decide ((cutI l ((a + elI cs K % 18446744073709551616) % 18446744073709551616) al).length = (0 : Nat)),roomB ((cutI l (0 : Int) ((a + elI cs K % 18446744073709551616) % 18446744073709551616)).length + (cutI l ((a + elI cs K % 18446744073709551616) % 18446744073709551616) al).length) Tryz.prog.types[(101 : Nat)].bytes,decide ((↑l.length : Int) < (↑(cutI l (0 : Int) ((a + elI cs K % 18446744073709551616) % 18446744073709551616) ++ cutI l ((a + elI cs K % 18446744073709551616) % 18446744073709551616) al).length : Int)),mo == 0,inR64 (mo - (1 : Int)),inR64 (K + (1 : Int))],
  (Ex.normal, [SV.h 2, SV.h 1, SV.raw (Value.int IntKind.i64 (mo - (1 : Int))), SV.raw (Value.int IntKind.u64 al), SV.raw (Value.int IntKind.u64 ((a + elI cs K % 18446744073709551616) % 18446744073709551616)), SV.raw (Value.int IntKind.i64 (K + (1 : Int)))], [SO.sl false full 101 l0, SO.sl false fu 3 cs, SO.sl true false 101 (cutI l (0 : Int) ((a + elI cs K % 18446744073709551616) % 18446744073709551616) ++ cutI l ((a + elI cs K % 18446744073709551616) % 18446744073709551616) al)])) := by kernel_rfl
theorem spB_break (full fu : Bool) (l0 : List Sg) (cs : List Int) (l : List Sg) (mo al a K : Int) : Tr.follow [Tt,Tt,Tt,Ff,Ff,Ff,Tt,Ff,Tt,Ff,Ff,Ff,Ff,Ff,Ff,Tt,Tt,Tt,Tt,Tt,Ff,Tt,Tt,Tt,Ff,Tt,Tt,Tt] (spR (spB full fu l0 cs l mo al a K)) =
  some ([decide (K < (↑cs.length : Int)),inB K cs.length,decide (K.toNat < cs.length),decide (elI cs K ≤ 0),Ff,Ff,inB K cs.length,Ff,decide (K.toNat < cs.length),Ff,Ff,Ff,Ff,Ff,decide ((al - a) % 18446744073709551616 ≤ elI cs K % 18446744073709551616),inB K cs.length,decide (K.toNat < cs.length),wfS l,Tt,nG ((a + elI cs K % 18446744073709551616) % 18446744073709551616),decide ((cutI l (0 : Int) ((a + elI cs K % 18446744073709551616) % 18446744073709551616)).length = (0 : Nat)),wfS l,nG ((a + elI cs K % 18446744073709551616) % 18446744073709551616),nG al,decide ((cutI l ((a + elI cs K % 18446744073709551616) % 18446744073709551616) al).length = (0 : Nat)),roomB ((cutI l (0 : Int) ((a + elI cs K % 18446744073709551616) % 18446744073709551616)).length + (cutI l ((a + elI cs K % 18446744073709551616) % 18446744073709551616) al).length) Tryz.prog.types[(101 : Nat)].bytes,decide ((↑l.length : Int) < (↑(cutI l (0 : Int) ((a + elI cs K % 18446744073709551616) % 18446744073709551616) ++ cutI l ((a + elI cs K % 18446744073709551616) % 18446744073709551616) al).length : Int)),mo == 0],
  (Ex.exit 0, [SV.h 2, SV.h 1, SV.raw (Value.int IntKind.i64 mo), SV.raw (Value.int IntKind.u64 al), SV.raw (Value.int IntKind.u64 a), SV.raw (Value.int IntKind.i64 K)], [SO.sl false full 101 l0, SO.sl false fu 3 cs, SO.sl true false 101 l])) := by kernel_rfl
theorem spB_same (full fu : Bool) (l0 : List Sg) (cs : List Int) (l : List Sg) (mo al a K : Int) : Tr.follow [Tt,Tt,Tt,Ff,Ff,Ff,Tt,Ff,Tt,Ff,Ff,Ff,Ff,Ff,Ff,Tt,Tt,Tt,Tt,Tt,Ff,Tt,Tt,Tt,Ff,Tt,Ff,Tt] (spR (spB full fu l0 cs l mo al a K)) =
  some ([decide (K < (↑cs.length : Int)),inB K cs.length,decide (K.toNat < cs.length),decide (elI cs K ≤ 0),Ff,Ff,inB K cs.length,Ff,decide (K.toNat < cs.length),Ff,Ff,Ff,Ff,Ff,decide ((al - a) % 18446744073709551616 ≤ elI cs K % 18446744073709551616),inB K cs.length,decide (K.toNat < cs.length),wfS l,Tt,nG ((a + elI cs K % 18446744073709551616) % 18446744073709551616),decide ((cutI l (0 : Int) ((a + elI cs K % 18446744073709551616) % 18446744073709551616)).length = (0 : Nat)),wfS l,nG ((a + elI cs K % 18446744073709551616) % 18446744073709551616),nG al,decide ((cutI l ((a + elI cs K % 18446744073709551616) % 18446744073709551616) al).length = (0 : Nat)),roomB ((cutI l (0 : Int) ((a + elI cs K % 18446744073709551616) % 18446744073709551616)).length + (cutI l ((a + elI cs K % 18446744073709551616) % 18446744073709551616) al).length) Tryz.prog.types[(101 : Nat)].bytes,decide ((↑l.length : Int) < (↑(cutI l (0 : Int) ((a + elI cs K % 18446744073709551616) % 18446744073709551616) ++ cutI l ((a + elI cs K % 18446744073709551616) % 18446744073709551616) al).length : Int)),inR64 (K + (1 : Int))],
  (Ex.normal, [SV.h 2, SV.h 1, SV.raw (Value.int IntKind.i64 mo), SV.raw (Value.int IntKind.u64 al), SV.raw (Value.int IntKind.u64 ((a + elI cs K % 18446744073709551616) % 18446744073709551616)), SV.raw (Value.int IntKind.i64 (K + (1 : Int)))], [SO.sl false full 101 l0, SO.sl false fu 3 cs, SO.sl true false 101 (cutI l (0 : Int) ((a + elI cs K % 18446744073709551616) % 18446744073709551616) ++ cutI l ((a + elI cs K % 18446744073709551616) % 18446744073709551616) al)])) := by kernel_rfl
theorem spB_end (full fu : Bool) (l0 : List Sg) (cs : List Int) (l : List Sg) (mo al a K : Int) : Tr.follow [Ff] (spR (spB full fu l0 cs l mo al a K)) =
  some ([decide (K < (↑cs.length : Int))],
  (Ex.exit 0, [SV.h 2, SV.h 1, SV.raw (Value.int IntKind.i64 mo), SV.raw (Value.int IntKind.u64 al), SV.raw (Value.int IntKind.u64 a), SV.raw (Value.int IntKind.i64 K)], [SO.sl false full 101 l0, SO.sl false fu 3 cs, SO.sl true false 101 l])) := by kernel_rfl
theorem spN_tree (full : Bool) (l0 : List Sg) (mo al : Int) : (roundG CT Tryz.prog sp4 noLs (fun _ _ => 20) 10 119 0 spSl ⟨[.h 0, .raw (.slice none 0 0), .raw (.int .i64 mo), .raw (.int .u64 al), .raw (.int .u64 0), .raw (.int .i64 0)], 1, [.sl false full 101 (l0 : List Sg)]⟩).get = some (.exit 0, [.h 0, .raw (.slice none 0 0), .raw (.int .i64 mo), .raw (.int .u64 al), .raw (.int .u64 0), .raw (.int .i64 0)], [.sl false full 101 (l0 : List Sg)]) := by kernel_rfl
theorem elI_at {cs : List Int} {k : Nat} (h : k < cs.length) : elI cs (k : Int) = cs[k] := by
  show cs.getD ((k : Int).toNat) _ = _
  rw [Int.toNat_natCast, List.getD_eq_getElem?_getD, List.getElem?_eq_getElem h]; rfl
theorem contig.wf {w : Bool} : ∀ {l : List Sg} {A T : Int}, contig w A l T → 0 ≤ A → T < 4294967296 → A + T ≤ 18446744073709551616 → wfS l = true
  | [], _, _, _, _, _, _ => rfl
  | x :: r, A, T, ⟨h1, h2, h3, h4⟩, hA, hT, hS => by
    have := h4.sum.2
    have ih := h4.wf (by omega) (by omega) (by omega)
    unfold wfS at *
    rw [List.all_cons, ih, Bool.and_true]
    exact sgW_iff.2 ⟨by omega, by omega, by omega, by omega⟩
def splE (T : Int) (l0 : List Sg) : List Int → Int → Int → Int → Option (List Sg) → Option (List Sg) × Int × Int × Int
  | [], mo, a, K, o => (o, mo, a, K)
  | c :: cs, mo, a, K, o => bif decide (c ≤ 0) || decide (T - a ≤ c) then splE T l0 cs mo a (K + 1) o
    else bif decide ((o.getD l0).length < (cutS (o.getD l0) 0 (a + c) ++ cutS (o.getD l0) (a + c) T).length) then (bif decide (mo = 0) then (o, mo, a, K) else splE T l0 cs (mo - 1) (a + c) (K + 1) (some (cutS (o.getD l0) 0 (a + c) ++ cutS (o.getD l0) (a + c) T)))
    else splE T l0 cs mo (a + c) (K + 1) (some (cutS (o.getD l0) 0 (a + c) ++ cutS (o.getD l0) (a + c) T))
theorem splE_eq (T : Int) (l0 : List Sg) : ∀ (cs : List Int) (mo a K : Int) (o : Option (List Sg)), (splE T l0 cs mo a K o).1.getD l0 = splitS T cs mo a (o.getD l0)
  | [], mo, a, K, o => rfl
  | c :: cs, mo, a, K, o => by
    unfold splE splitS
    cases (decide (c ≤ 0) || decide (T - a ≤ c)) with
    | true => rw [cond_true, cond_true]; exact splE_eq T l0 cs mo a (K + 1) o
    | false =>
      rw [cond_false, cond_false]
      cases decide ((o.getD l0).length < (cutS (o.getD l0) 0 (a + c) ++ cutS (o.getD l0) (a + c) T).length) with
      | true =>
        rw [cond_true, cond_true]
        cases decide (mo = 0) with
        | true => rfl
        | false => rw [cond_false, cond_false]; exact splE_eq T l0 cs _ _ _ (some _)
      | false => rw [cond_false, cond_false]; exact splE_eq T l0 cs _ _ _ (some _)
@[reducible] def spSt (full fu : Bool) (l0 : List Sg) (cs : List Int) (al : Int) (s : Option (List Sg) × Int × Int × Int) : List SV × List (SO CT) := match s.1 with
  | none => spA full fu l0 cs s.2.1 al s.2.2.1 s.2.2.2
  | some l => spB full fu l0 cs l s.2.1 al s.2.2.1 s.2.2.2
structure SpI (w : Bool) (A T : Int) (l0 : List Sg) (cs : List Int) (F : Option (List Sg) × Int × Int × Int) (k : Nat) (s : Option (List Sg) × Int × Int × Int) : Prop where
  kl : k ≤ cs.length
  K : s.2.2.2 = (k : Int)
  con : contig w A (s.1.getD l0) T
  mo : 0 ≤ s.2.1
  len : ((s.1.getD l0).length : Int) + s.2.1 ≤ 64
  a0 : 0 ≤ s.2.2.1
  aT : s.2.2.1 < T
  fin : splE T l0 (cs.drop k) s.2.1 s.2.2.1 s.2.2.2 s.1 = F
theorem sp_loop : loopOf Tryz.prog 119 0 = some (((loopOf Tryz.prog 119 0).get!).1, (loopOf Tryz.prog 119 0).get!.2) := by kernel_rfl
def i64B (c : Int) : Bool := decide (-9223372036854775808 ≤ c ∧ c ≤ 9223372036854775807)
theorem sp_run {full fu : Bool} {w : Bool} {A T : Int} {l0 : List Sg} {cs : List Int} {mo : Int} (hA : 0 ≤ A) (hT : 1 ≤ T ∧ T < 4294967296) (hS : A + T ≤ 18446744073709551616) (hc : contig w A l0 T) (hm : 0 ≤ mo) (hl : (l0.length : Int) + mo ≤ 64) (hcs : cs.all i64B = true) (hcl : cs.length ≤ 100000) :
    LoopRun Tryz.prog ((loopOf Tryz.prog 119 0).get!).1 (loopOf Tryz.prog 119 0).get!.2 2 (LI.st spSl ⟨(spA full fu l0 cs mo T 0 0).1, 2, (spA full fu l0 cs mo T 0 0).2⟩) fun x Y => ∃ vs os, (x = .exit 0 ∧ (vs, os) = spSt full fu l0 cs T (splE T l0 cs mo 0 0 none)) ∧ Y = ⟨zipT spSl vs, numH 0 os, os.length⟩ := by
  obtain ⟨F, hF⟩ : ∃ F, splE T l0 cs mo 0 0 none = F := ⟨_, rfl⟩
  rw [hF]
  refine loop_li (σ := Nat × Option (List Sg) × Int × Int × Int) (st := fun s => spSt full fu l0 cs T s.2) (Inv := fun s => SpI w A T l0 cs F s.1 s.2) (μ := fun s => cs.length - s.1) (d := 10) (unr := fun _ _ => 20) (sp := sp4) (ls := noLs) plain mixed sp4_ok noLs_ok sp_loop (fun s hI => ?_) (0, none, mo, 0, 0) ⟨Nat.zero_le _, rfl, hc, hm, hl, Int.le_refl _, by show (0 : Int) < T; omega, hF⟩
  obtain ⟨k, o, m, a, K⟩ := s
  obtain ⟨g1, g2, g3, g4, g5, g6, g7, g8⟩ := hI
  simp only at g1 g2 g3 g4 g5 g6 g7 g8
  subst g2
  by_cases h5 : k < cs.length
  · have k1 := decide_eq_true (show (k : Int) < (cs.length : Int) by omega)
    have k2 : Sx.inB (k : Int) cs.length = true := inB_mk ⟨by omega, by omega⟩
    have k3 := decide_eq_true (show ((k : Nat) : Int).toNat < cs.length by omega)
    have k4 : inR64 ((k : Int) + 1) = true := inR64_mk (by omega)
    have k5 : inR64 (m - 1) = true := inR64_mk (by omega)
    have hci : -9223372036854775808 ≤ elI cs (k : Int) ∧ elI cs (k : Int) ≤ 9223372036854775807 := by
      rw [elI_at h5]; exact of_decide_eq_true (List.all_eq_true.1 hcs _ (List.getElem_mem h5))
    have hd : cs.drop k = elI cs (k : Int) :: cs.drop (k + 1) := by rw [List.drop_eq_getElem_cons h5, elI_at h5]
    rw [hd] at g8
    generalize hcc : elI cs (k : Int) = c at *
    have nx : ∀ (s' : Option (List Sg) × Int × Int × Int), s'.2.2.2 = ((k + 1 : Nat) : Int) → contig w A (s'.1.getD l0) T → 0 ≤ s'.2.1 → ((s'.1.getD l0).length : Int) + s'.2.1 ≤ 64 → 0 ≤ s'.2.2.1 → s'.2.2.1 < T → splE T l0 (cs.drop (k + 1)) s'.2.1 s'.2.2.1 s'.2.2.2 s'.1 = F → SpI w A T l0 cs F (k + 1) s' := fun s' a1 a2 a3 a4 a5 a6 a7 => ⟨h5, a1, a2, a3, a4, a5, a6, a7⟩
    by_cases c1 : c ≤ 0
    · unfold splE at g8
      rw [decide_eq_true c1, Bool.true_or, cond_true] at g8
      refine ⟨(.normal, spSt full fu l0 cs T (o, m, a, ((k + 1 : Nat) : Int))), ?_, fun _ => ⟨(k + 1, o, m, a, ((k + 1 : Nat) : Int)), nx _ rfl g3 g4 g5 g6 g7 g8, by show cs.length - (k + 1) < cs.length - k; omega, rfl⟩, nofun⟩
      cases o with
      | none =>
        have hp := spA_skip1 full fu l0 cs m T a (k : Int)
        rw [hcc] at hp
        simp only [k1, k2, k3, k4, decide_eq_true c1] at hp
        exact Tr.follow_get hp rfl
      | some l =>
        have hp := spB_skip1 full fu l0 cs l m T a (k : Int)
        rw [hcc] at hp
        simp only [k1, k2, k3, k4, decide_eq_true c1] at hp
        exact Tr.follow_get hp rfl
    · have e1 : c % 18446744073709551616 = c := Int.emod_eq_of_lt (by omega) (by omega)
      have e2 : (T - a) % 18446744073709551616 = T - a := Int.emod_eq_of_lt (by omega) (by omega)
      by_cases c2 : T - a ≤ c
      · unfold splE at g8
        rw [decide_eq_true c2, Bool.or_true, cond_true] at g8
        refine ⟨(.normal, spSt full fu l0 cs T (o, m, a, ((k + 1 : Nat) : Int))), ?_, fun _ => ⟨(k + 1, o, m, a, ((k + 1 : Nat) : Int)), nx _ rfl g3 g4 g5 g6 g7 g8, by show cs.length - (k + 1) < cs.length - k; omega, rfl⟩, nofun⟩
        cases o with
        | none =>
          have hp := spA_skip2 full fu l0 cs m T a (k : Int)
          rw [hcc] at hp
          simp only [k1, k2, k3, k4, e1, e2, decide_eq_false c1, decide_eq_true c2] at hp
          exact Tr.follow_get hp rfl
        | some l =>
          have hp := spB_skip2 full fu l0 cs l m T a (k : Int)
          rw [hcc] at hp
          simp only [k1, k2, k3, k4, e1, e2, decide_eq_false c1, decide_eq_true c2] at hp
          exact Tr.follow_get hp rfl
      · have e3 : (a + c) % 18446744073709551616 = a + c := Int.emod_eq_of_lt (by omega) (by omega)
        have q1 : nG (a + c) = true := nG_iff.2 ⟨by omega, by omega⟩
        have q2 : nG T = true := nG_iff.2 ⟨by omega, by omega⟩
        have q3 : wfS (o.getD l0) = true := g3.wf hA hT.2 hS
        obtain ⟨t1, t2⟩ := cut_two (c := a + c) g3 (by omega) hT.2 hS (by omega) (by omega)
        have ho := g3.ok (by omega) hT.2 hS
        have n1 : ¬ (cutS (o.getD l0) 0 (a + c)).length = 0 := fun h => by
          have h1 : contig w A (cutS (o.getD l0) 0 (a + c)) (a + c) := by
            unfold cutS; rw [ho, cond_true, eatR_zero]; exact g3.eatO (by omega) (by omega)
          rw [List.eq_nil_of_length_eq_zero h] at h1
          have : a + c = 0 := h1
          omega
        have n2 : ¬ (cutS (o.getD l0) (a + c) T).length = 0 := fun h => by
          have h1 : contig w (A + (a + c)) (cutS (o.getD l0) (a + c) T) (T - (a + c)) := by
            unfold cutS; rw [ho, cond_true, (g3.eatR (by omega) (by omega)).all (n := T) (by omega)]; exact g3.eatR (by omega) (by omega)
          rw [List.eq_nil_of_length_eq_zero h] at h1
          have : T - (a + c) = 0 := h1
          omega
        have r1 : roomB ((cutS (o.getD l0) 0 (a + c)).length + (cutS (o.getD l0) (a + c) T).length) Tryz.prog.types[(101 : Nat)].bytes = true := rmS (by rw [← List.length_append]; omega)
        unfold splE at g8
        rw [decide_eq_false c1, decide_eq_false c2, Bool.or_false, cond_false] at g8
        by_cases d1 : (o.getD l0).length < (cutS (o.getD l0) 0 (a + c) ++ cutS (o.getD l0) (a + c) T).length
        · rw [decide_eq_true d1, cond_true] at g8
          have d1' := decide_eq_true (show (((o.getD l0).length : Nat) : Int) < (((cutS (o.getD l0) 0 (a + c) ++ cutS (o.getD l0) (a + c) T).length : Nat) : Int) by omega)
          by_cases d2 : m = 0
          · rw [decide_eq_true d2, cond_true] at g8
            rw [← g8]
            refine ⟨(.exit 0, spSt full fu l0 cs T (o, m, a, (k : Int))), ?_, nofun, fun _ => ⟨rfl, rfl⟩⟩
            have d2' : (m == 0) = true := by rw [d2]; rfl
            cases o with
            | none =>
              have hp := spA_break full fu l0 cs m T a (k : Int)
              rw [hcc] at hp
              simp only [cutI_eq, k1, k2, k3, e1, e2, e3, q1, q2] at hp
              simp only [Option.getD_none] at q3 n1 n2 r1 d1'
              simp only [decide_eq_false c1, decide_eq_false c2, decide_eq_false n1, decide_eq_false n2, q3, r1, d1', d2'] at hp
              exact Tr.follow_get hp rfl
            | some l =>
              have hp := spB_break full fu l0 cs l m T a (k : Int)
              rw [hcc] at hp
              simp only [cutI_eq, k1, k2, k3, e1, e2, e3, q1, q2] at hp
              simp only [Option.getD_some] at q3 n1 n2 r1 d1'
              simp only [decide_eq_false c1, decide_eq_false c2, decide_eq_false n1, decide_eq_false n2, q3, r1, d1', d2'] at hp
              exact Tr.follow_get hp rfl
          · rw [decide_eq_false d2, cond_false] at g8
            refine ⟨(.normal, spSt full fu l0 cs T (some (cutS (o.getD l0) 0 (a + c) ++ cutS (o.getD l0) (a + c) T), m - 1, a + c, ((k + 1 : Nat) : Int))), ?_, fun _ => ⟨(k + 1, some (cutS (o.getD l0) 0 (a + c) ++ cutS (o.getD l0) (a + c) T), m - 1, a + c, ((k + 1 : Nat) : Int)), nx _ rfl t1 (by simp only; omega) (by simp only [Option.getD_some]; omega) (by simp only; omega) (by simp only; omega) g8, by show cs.length - (k + 1) < cs.length - k; omega, rfl⟩, nofun⟩
            have d2' : (m == 0) = false := by rw [beq_eq_false_iff_ne]; exact d2
            cases o with
            | none =>
              have hp := spA_cut full fu l0 cs m T a (k : Int)
              rw [hcc] at hp
              simp only [cutI_eq, k1, k2, k3, k4, k5, e1, e2, e3, q1, q2] at hp
              simp only [Option.getD_none] at q3 n1 n2 r1 d1'
              simp only [decide_eq_false c1, decide_eq_false c2, decide_eq_false n1, decide_eq_false n2, q3, r1, d1', d2'] at hp
              exact Tr.follow_get hp rfl
            | some l =>
              have hp := spB_cut full fu l0 cs l m T a (k : Int)
              rw [hcc] at hp
              simp only [cutI_eq, k1, k2, k3, k4, k5, e1, e2, e3, q1, q2] at hp
              simp only [Option.getD_some] at q3 n1 n2 r1 d1'
              simp only [decide_eq_false c1, decide_eq_false c2, decide_eq_false n1, decide_eq_false n2, q3, r1, d1', d2'] at hp
              exact Tr.follow_get hp rfl
        · rw [decide_eq_false d1, cond_false] at g8
          have d1' := decide_eq_false (show ¬ (((o.getD l0).length : Nat) : Int) < (((cutS (o.getD l0) 0 (a + c) ++ cutS (o.getD l0) (a + c) T).length : Nat) : Int) by omega)
          refine ⟨(.normal, spSt full fu l0 cs T (some (cutS (o.getD l0) 0 (a + c) ++ cutS (o.getD l0) (a + c) T), m, a + c, ((k + 1 : Nat) : Int))), ?_, fun _ => ⟨(k + 1, some (cutS (o.getD l0) 0 (a + c) ++ cutS (o.getD l0) (a + c) T), m, a + c, ((k + 1 : Nat) : Int)), nx _ rfl t1 g4 (by simp only [Option.getD_some]; omega) (by simp only; omega) (by simp only; omega) g8, by show cs.length - (k + 1) < cs.length - k; omega, rfl⟩, nofun⟩
          cases o with
          | none =>
            have hp := spA_same full fu l0 cs m T a (k : Int)
            rw [hcc] at hp
            simp only [cutI_eq, k1, k2, k3, k4, e1, e2, e3, q1, q2] at hp
            simp only [Option.getD_none] at q3 n1 n2 r1 d1'
            simp only [decide_eq_false c1, decide_eq_false c2, decide_eq_false n1, decide_eq_false n2, q3, r1, d1'] at hp
            exact Tr.follow_get hp rfl
          | some l =>
            have hp := spB_same full fu l0 cs l m T a (k : Int)
            rw [hcc] at hp
            simp only [cutI_eq, k1, k2, k3, k4, e1, e2, e3, q1, q2] at hp
            simp only [Option.getD_some] at q3 n1 n2 r1 d1'
            simp only [decide_eq_false c1, decide_eq_false c2, decide_eq_false n1, decide_eq_false n2, q3, r1, d1'] at hp
            exact Tr.follow_get hp rfl
  · obtain rfl : k = cs.length := by omega
    rw [List.drop_length] at g8
    have g8 : (o, m, a, ((cs.length : Nat) : Int)) = F := g8
    rw [← g8]
    refine ⟨(.exit 0, spSt full fu l0 cs T (o, m, a, ((cs.length : Nat) : Int))), ?_, nofun, fun _ => ⟨rfl, rfl⟩⟩
    have k1 := decide_eq_false (Int.lt_irrefl ((cs.length : Nat) : Int))
    cases o with
    | none =>
      have hp := spA_end full fu l0 cs m T a ((cs.length : Nat) : Int)
      simp only [k1] at hp
      exact Tr.follow_get hp rfl
    | some l =>
      have hp := spB_end full fu l0 cs l m T a ((cs.length : Nat) : Int)
      simp only [k1] at hp
      exact Tr.follow_get hp rfl
def chB (w : Bool) : Int → List Sg → Bool
  | _, [] => true
  | A, x :: r => (x.1 == A && x.2.2 == w) && (decide (1 ≤ x.2.1) && chB w (A + x.2.1) r)
theorem chB_contig {w : Bool} : ∀ {l : List Sg} {A : Int}, chB w A l = true → contig w A l (sgSum l)
  | [], _, _ => rfl
  | x :: r, A, h => by
    unfold chB at h
    simp only [Bool.and_eq_true, beq_iff_eq, decide_eq_true_eq] at h
    refine ⟨h.1.1, h.1.2, h.2.1, ?_⟩
    show contig w (A + x.2.1) r (x.2.1 + sgSum r - x.2.1)
    rw [show x.2.1 + sgSum r - x.2.1 = sgSum r by omega]
    exact chB_contig h.2.2
theorem contig_chB {w : Bool} : ∀ {l : List Sg} {A T : Int}, contig w A l T → chB w A l = true
  | [], _, _, _ => rfl
  | x :: r, A, T, ⟨h1, h2, h3, h4⟩ => by
    unfold chB
    simp only [Bool.and_eq_true, beq_iff_eq, decide_eq_true_eq]
    exact ⟨⟨h1, h2⟩, h3, contig_chB h4⟩
def chL (l : List Sg) : Bool := match l with
  | [] => false
  | x :: r => chB x.2.2 x.1 (x :: r) && decide (0 ≤ x.1 ∧ x.1 + sgSum (x :: r) ≤ 18446744073709551616)
theorem chL_spec {l : List Sg} (h : chL l = true) : ∃ w A, contig w A l (sgSum l) ∧ 0 ≤ A ∧ A + sgSum l ≤ 18446744073709551616 ∧ l ≠ [] := by
  cases l with
  | nil => cases h
  | cons x r =>
    unfold chL at h
    simp only [Bool.and_eq_true, decide_eq_true_eq] at h
    exact ⟨_, _, chB_contig h.1, h.2.1, h.2.2, nofun⟩
theorem chL_mk {w : Bool} {A T : Int} {l : List Sg} (h : contig w A l T) (hn : l ≠ []) (hA : 0 ≤ A) (hS : A + T ≤ 18446744073709551616) : chL l = true := by
  cases l with
  | nil => exact absurd rfl hn
  | cons x r =>
    obtain ⟨h1, h2, h3, h4⟩ := h
    have hs := (show contig w A (x :: r) T from ⟨h1, h2, h3, h4⟩).sum.1
    show (chB x.2.2 x.1 (x :: r) && decide (0 ≤ x.1 ∧ x.1 + sgSum (x :: r) ≤ 18446744073709551616)) = true
    rw [hs, h1, h2]
    simp only [Bool.and_eq_true, decide_eq_true_eq]
    exact ⟨contig_chB (T := T) ⟨h1, h2, h3, h4⟩, hA, hS⟩
def spG (l0 : List Sg) (cs : List Int) (mo al : Int) : Bool := decide (0 ≤ mo ∧ (l0.length : Int) + mo ≤ 64 ∧ 1 ≤ al ∧ al < 4294967296 ∧ cs.length ≤ 100000 ∧ al = sgSum l0) && (chL l0 && cs.all i64B)
theorem spG_iff {l0 : List Sg} {cs : List Int} {mo al : Int} : spG l0 cs mo al = true ↔ (0 ≤ mo ∧ (l0.length : Int) + mo ≤ 64 ∧ 1 ≤ al ∧ al < 4294967296 ∧ cs.length ≤ 100000 ∧ al = sgSum l0) ∧ chL l0 = true ∧ cs.all i64B = true := by
  unfold spG; rw [Bool.and_eq_true, Bool.and_eq_true, decide_eq_true_eq]
def splI (T : Int) (l0 : List Sg) (cs : List Int) (mo : Int) : Option (List Sg) × Int × Int × Int := opq (splE T l0 cs mo 0 0 none)
theorem splI_eq (T : Int) (l0 : List Sg) (cs : List Int) (mo : Int) : splI T l0 cs mo = splE T l0 cs mo 0 0 none := opq_eq _
def spLeaf (full fu : Bool) (l0 : List Sg) (cs : List Int) (al : Int) (s : Option (List Sg) × Int × Int × Int) : Tr (Ex × List SV × List (SO CT)) :=
  .br s.1.isNone (.leaf (.exit 0, spA full fu l0 cs s.2.1 al s.2.2.1 s.2.2.2)) (.leaf (.exit 0, spB full fu l0 cs (s.1.getD []) s.2.1 al s.2.2.1 s.2.2.2))
theorem spLeaf_get (full fu : Bool) (l0 : List Sg) (cs : List Int) (al : Int) (s : Option (List Sg) × Int × Int × Int) : (spLeaf full fu l0 cs al s).get = some (.exit 0, spSt full fu l0 cs al s) := by
  obtain ⟨o, m, a, K⟩ := s
  cases o <;> rfl
def spLoop : LoopFn CT := fun li => match li with
  | ⟨[.h 0, .h 1, .raw (.int .i64 mo), .raw (.int .u64 al), .raw (.int .u64 (.ofNat 0)), .raw (.int .i64 (.ofNat 0))], 2, [.sl false full 101 l0, .sl false fu 3 cs]⟩ => .br (spG l0 cs mo al) (spLeaf full fu l0 cs al (splI al l0 cs mo)) .fail
  | ⟨[.h 0, .raw (.slice none 0 0), .raw (.int .i64 mo), .raw (.int .u64 al), .raw (.int .u64 (.ofNat 0)), .raw (.int .i64 (.ofNat 0))], 1, [.sl false full 101 l0]⟩ => .leaf (.exit 0, [.h 0, .raw (.slice none 0 0), .raw (.int .i64 mo), .raw (.int .u64 al), .raw (.int .u64 0), .raw (.int .i64 0)], [.sl false full 101 l0])
  | _ => .fail
theorem spLoop_ok : ∀ tm hp n x, (loopS spSl [] spLoop tm hp n).get = some x → InLoop Tryz.prog ((loopOf Tryz.prog 119 0).get!).1 (loopOf Tryz.prog 119 0).get!.2 tm hp n fun e tm hp n => (e, tm, hp, n) = x := loopS_of fun li r h => by
  unfold spLoop at h
  split at h
  · rename_i mo al full l0 fu cs
    change List Sg at l0
    change List Int at cs
    obtain ⟨hg, hC⟩ := Tr.get_ask.1 h
    clear h
    have hr := Option.some.inj (hC.symm.trans (spLeaf_get _ _ _ _ _ _))
    subst hr
    obtain ⟨⟨h1, h2, h3, h4, h5, h6⟩, h7, h8⟩ := spG_iff.1 hg
    obtain ⟨w, A, q1, q2, q3, q4⟩ := chL_spec h7
    rw [← h6] at q1 q3
    rw [splI_eq]
    refine ⟨?_, sp_run q2 ⟨h3, h4⟩ q3 q1 h1 h2 h8 h5⟩
    generalize splE al l0 cs mo 0 0 none = s
    obtain ⟨o, m, a, K⟩ := s
    cases o <;> exact Keeps.of3 (Nat.le_of_ble_eq_true rfl) rfl
  · rename_i mo al full l0
    change List Sg at l0
    simp only [Tr.get, Option.some.injEq] at h
    subst h
    refine ⟨Keeps.of3 (Nat.le_of_ble_eq_true rfl) rfl, ?_⟩
    refine scan_li (n := 0) (stN := fun k => ([.h 0, .raw (.slice none 0 0), .raw (.int .i64 mo), .raw (.int .u64 al), .raw (.int .u64 0), .raw (.int .i64 0)], [.sl false full 101 (l0 : List Sg)])) (stR := fun k => ([.h 0, .raw (.slice none 0 0), .raw (.int .i64 mo), .raw (.int .u64 al), .raw (.int .u64 0), .raw (.int .i64 0)], [.sl false full 101 (l0 : List Sg)])) (p := fun _ => false) (d := 10) (unr := fun _ _ => 20) (sp := sp4) (ls := noLs) plain mixed sp4_ok noLs_ok sp_loop (fun k hk => by omega) ?_ rfl
    exact spN_tree full l0 mo al
  · cases h
def lsS : LoopT CT := Sx.addL 119 0 (loopS spSl [] spLoop) noLs
theorem lsS_ok : LoopTOk Tryz.prog lsS := addL_ok sp_loop spLoop_ok noLs_ok
abbrev lsSu (g b : Nat) : Nat := match g, b with
  | 119, 0 => 0 | _, _ => 20
theorem spF_tree (full fu : Bool) (l0 : List Sg) (cs : List Int) (mo : Int) : (fnB CT Tryz.prog sp4 lsS lsSu 10 119 [.h 0, .h 1, .raw (.int .i64 mo)] [.sl false full 101 (l0 : List Sg), .sl false fu 3 (cs : List Int)]).get =
  bro (wfS l0) (bro (spG l0 cs mo ((rdI l0 + wrI l0) % (18446744073709551616 : Int))) (bro ((splI ((rdI l0 + wrI l0) % (18446744073709551616 : Int)) l0 cs mo).fst.isNone) (some (SV.h 0, [SO.sl false full 101 l0, SO.sl false fu 3 cs])) (some (SV.h 2, [SO.sl false full 101 l0, SO.sl false fu 3 cs, SO.sl true false 101 ((splI ((rdI l0 + wrI l0) % (18446744073709551616 : Int)) l0 cs mo).fst.getD [])]))) (none)) (none) := by kernel_rfl
theorem spFN_tree (full : Bool) (l0 : List Sg) (mo : Int) : (fnB CT Tryz.prog sp4 lsS lsSu 10 119 [.h 0, .raw (.slice none 0 0), .raw (.int .i64 mo)] [.sl false full 101 (l0 : List Sg)]).get =
  bro (wfS l0) (some (SV.h 0, [SO.sl false full 101 l0])) (none) := by kernel_rfl
def splL (l0 : List Sg) (cs : List Int) (mo : Int) : List Sg := opq (splitB l0 cs mo)
def splN (l0 : List Sg) (cs : List Int) (mo : Int) : Bool := opq ((splE (sgSum l0) l0 cs mo 0 0 none).1.isNone)
theorem splL_eq (l0 : List Sg) (cs : List Int) (mo : Int) : splL l0 cs mo = splitB l0 cs mo := opq_eq _
theorem splN_eq (l0 : List Sg) (cs : List Int) (mo : Int) : splN l0 cs mo = (splE (sgSum l0) l0 cs mo 0 0 none).1.isNone := opq_eq _
def spGI (l0 : List Sg) (cs : List Int) (mo : Int) : Bool := opq (spG l0 cs mo (sgSum l0))
theorem spGI_eq (l0 : List Sg) (cs : List Int) (mo : Int) : spGI l0 cs mo = spG l0 cs mo (sgSum l0) := opq_eq _
theorem spG_sum {l0 : List Sg} {cs : List Int} {mo : Int} (h : spG l0 cs mo (sgSum l0) = true) : okSg l0 = true ∧ (rdI l0 + wrI l0) % 18446744073709551616 = sgSum l0 ∧ sumS l0 = sgSum l0 := by
  obtain ⟨⟨h1, h2, h3, h4, h5, h6⟩, h7, h8⟩ := spG_iff.1 h
  obtain ⟨w, A, q1, q2, q3, q4⟩ := chL_spec h7
  have ho := q1.ok (by omega) h4 q3
  obtain ⟨p1, p2⟩ := q1.part
  refine ⟨ho, ?_, by unfold sumS; rw [ho]; rfl⟩
  rw [rdI_eq, wrI_eq, ho, cond_true, cond_true]
  unfold rdS wrS
  have e : sgSum (partS false l0) + sgSum (partS true l0) = sgSum l0 := by
    cases w with
    | true =>
      have p2 : partS false l0 = [] := p2
      rw [p1, p2]; show 0 + sgSum l0 = _; omega
    | false =>
      have p2 : partS true l0 = [] := p2
      rw [p1, p2]; show sgSum l0 + 0 = _; omega
  rw [e]
  exact Int.emod_eq_of_lt (by omega) (by omega)
theorem splN_none {l0 : List Sg} {cs : List Int} {mo : Int} (h : spG l0 cs mo (sgSum l0) = true) (hn : splN l0 cs mo = true) : splitB l0 cs mo = l0 := by
  rw [splN_eq] at hn
  unfold splitB
  rw [(spG_sum h).2.2]
  have := splE_eq (sgSum l0) l0 cs mo 0 0 none
  rw [Option.isNone_iff_eq_none.1 hn] at this
  exact this.symm
theorem spl_get {full fu : Bool} {l0 : List Sg} {cs : List Int} {mo : Int} (hw : wfS l0 = true) (h : spG l0 cs mo (sgSum l0) = true) : (fnB CT Tryz.prog sp4 lsS lsSu 10 119 [.h 0, .h 1, .raw (.int .i64 mo)] [.sl false full 101 (l0 : List Sg), .sl false fu 3 (cs : List Int)]).get =
    bro (splN l0 cs mo) (some (.h 0, [.sl false full 101 (l0 : List Sg), .sl false fu 3 (cs : List Int)])) (some (.h 2, [.sl false full 101 (l0 : List Sg), .sl false fu 3 (cs : List Int), .sl true false 101 (splL l0 cs mo)])) := by
  obtain ⟨s1, s2, s3⟩ := spG_sum h
  refine (spF_tree full fu l0 cs mo).trans ?_
  rw [hw, s2, h, splI_eq, splN_eq, splL_eq]
  have := splE_eq (sgSum l0) l0 cs mo 0 0 none
  unfold splitB
  rw [s3]
  generalize splE (sgSum l0) l0 cs mo 0 0 none = s at *
  obtain ⟨o, m, a, K⟩ := s
  cases o with
  | none => rfl
  | some l =>
    have this : l = splitS (sgSum l0) cs mo 0 l0 := this
    rw [← this]; rfl
def splT : FnF CT := fun ws os => match ws, os with
  | [.h 0, .h 1, .raw (.int .i64 mo)], [.sl false full 101 l0, .sl false fu 3 cs] => .br (wfS l0) (.br (spGI l0 cs mo) (.br (splN l0 cs mo) (.leaf (.h 0, [])) (.leaf (.h 2, [.sl true false 101 (splL l0 cs mo : List Sg)]))) .fail) .fail
  | [.h 0, .raw (.slice none 0 0), .raw (.int .i64 mo)], [.sl false full 101 l0] => .br (wfS l0) (.leaf (.h 0, [])) .fail
  | _, _ => .fail
theorem splT_ok : ∀ args os r, (splT args os).get = some r → Fn0 Tryz.prog 119 args os r := fun args os r h => by
  unfold splT at h
  split at h
  · rename_i mo full l0 fu cs
    change List Sg at l0
    change List Int at cs
    obtain ⟨h1, hA⟩ := Tr.get_ask.1 h
    obtain ⟨h2, hB⟩ := Tr.get_ask.1 hA
    clear h hA
    rw [spGI_eq] at h2
    have k := spl_get (full := full) (fu := fu) h1 h2
    rcases Tr.get_br.1 hB with ⟨h5, h6⟩ | ⟨h5, h6⟩ <;> (simp only [Tr.get, Option.some.injEq] at h6; subst h6; rw [h5] at k; exact Fn0.ofB (fnB_ok plain mixed sp4_ok lsS_ok k))
  · rename_i mo full l0
    change List Sg at l0
    obtain ⟨h1, hA⟩ := Tr.get_ask.1 h
    simp only [Tr.get, Option.some.injEq] at hA
    subst hA
    have k := spFN_tree full l0 mo
    rw [h1] at k
    exact Fn0.ofB (fnB_ok plain mixed sp4_ok lsS_ok k)
  · cases h
def sp5 : SpecT CT := addS 119 (seeS splT) sp4
theorem sp5_ok : SpecTOk Tryz.prog sp5 := addS_ok (seeS_ok splT_ok) sp4_ok
theorem cb_tt (full fu : Bool) (l : List Sg) (cs : List Int) : Tr.follow [Tt,Ff,Tt,Tt,Ff,Tt,Tt,Ff,Tt,Tt,Tt,Tt,Tt,Tt,Tt,Tt,Tt,Tt] (fnB CT Tryz.prog sp5 noLs (fun _ _ => 20) 10 57 [.h 0, .h 1] [.sl false full 101 (l : List Sg), .sl false fu 3 (cs : List Int)]) =
  some ([wfS l,chkI l != (0 : Int),wfS l,okI l,decide ((partI false l).length = (0 : Nat)),wfS l,okI l,decide ((partI true l).length = (0 : Nat)),inR64 ((64 : Int) - (↑l.length : Int)),wfS (partI false l),spGI (partI false l) cs ((64 : Int) - (↑l.length : Int)),splN (partI false l) cs ((64 : Int) - (↑l.length : Int)),inR64 ((64 : Int) - (↑(partI false l).length : Int)),inR64 ((64 : Int) - (↑(partI false l).length : Int) - (↑(partI true l).length : Int)),wfS (partI true l),spGI (partI true l) cs ((64 : Int) - (↑(partI false l).length : Int) - (↑(partI true l).length : Int)),splN (partI true l) cs ((64 : Int) - (↑(partI false l).length : Int) - (↑(partI true l).length : Int)),roomB ((partI false l).length + (partI true l).length) Tryz.prog.types[(101 : Nat)].bytes],
  (SV.h 2, [SO.sl false full 101 l, SO.sl false fu 3 cs, SO.sl true false 101 (partI false l ++ partI true l)])) := by kernel_rfl
theorem cb_tf (full fu : Bool) (l : List Sg) (cs : List Int) : Tr.follow [Tt,Ff,Tt,Tt,Ff,Tt,Tt,Ff,Tt,Tt,Tt,Tt,Tt,Tt,Tt,Tt,Ff,Tt] (fnB CT Tryz.prog sp5 noLs (fun _ _ => 20) 10 57 [.h 0, .h 1] [.sl false full 101 (l : List Sg), .sl false fu 3 (cs : List Int)]) =
  some ([wfS l,chkI l != (0 : Int),wfS l,okI l,decide ((partI false l).length = (0 : Nat)),wfS l,okI l,decide ((partI true l).length = (0 : Nat)),inR64 ((64 : Int) - (↑l.length : Int)),wfS (partI false l),spGI (partI false l) cs ((64 : Int) - (↑l.length : Int)),splN (partI false l) cs ((64 : Int) - (↑l.length : Int)),inR64 ((64 : Int) - (↑(partI false l).length : Int)),inR64 ((64 : Int) - (↑(partI false l).length : Int) - (↑(partI true l).length : Int)),wfS (partI true l),spGI (partI true l) cs ((64 : Int) - (↑(partI false l).length : Int) - (↑(partI true l).length : Int)),splN (partI true l) cs ((64 : Int) - (↑(partI false l).length : Int) - (↑(partI true l).length : Int)),roomB ((partI false l).length + (splL (partI true l) cs ((64 : Int) - (↑(partI false l).length : Int) - (↑(partI true l).length : Int))).length) Tryz.prog.types[(101 : Nat)].bytes],
  (SV.h 2, [SO.sl false full 101 l, SO.sl false fu 3 cs, SO.sl true false 101 (partI false l ++ splL (partI true l) cs ((64 : Int) - (↑(partI false l).length : Int) - (↑(partI true l).length : Int)))])) := by kernel_rfl
theorem cb_ft (full fu : Bool) (l : List Sg) (cs : List Int) : Tr.follow [Tt,Ff,Tt,Tt,Ff,Tt,Tt,Ff,Tt,Tt,Tt,Ff,Tt,Tt,Tt,Tt,Tt,Tt] (fnB CT Tryz.prog sp5 noLs (fun _ _ => 20) 10 57 [.h 0, .h 1] [.sl false full 101 (l : List Sg), .sl false fu 3 (cs : List Int)]) =
  some ([wfS l,chkI l != (0 : Int),wfS l,okI l,decide ((partI false l).length = (0 : Nat)),wfS l,okI l,decide ((partI true l).length = (0 : Nat)),inR64 ((64 : Int) - (↑l.length : Int)),wfS (partI false l),spGI (partI false l) cs ((64 : Int) - (↑l.length : Int)),splN (partI false l) cs ((64 : Int) - (↑l.length : Int)),inR64 ((64 : Int) - (↑(splL (partI false l) cs ((64 : Int) - (↑l.length : Int))).length : Int)),inR64 ((64 : Int) - (↑(splL (partI false l) cs ((64 : Int) - (↑l.length : Int))).length : Int) - (↑(partI true l).length : Int)),wfS (partI true l),spGI (partI true l) cs ((64 : Int) - (↑(splL (partI false l) cs ((64 : Int) - (↑l.length : Int))).length : Int) - (↑(partI true l).length : Int)),splN (partI true l) cs ((64 : Int) - (↑(splL (partI false l) cs ((64 : Int) - (↑l.length : Int))).length : Int) - (↑(partI true l).length : Int)),roomB ((splL (partI false l) cs ((64 : Int) - (↑l.length : Int))).length + (partI true l).length) Tryz.prog.types[(101 : Nat)].bytes],
  (SV.h 2, [SO.sl false full 101 l, SO.sl false fu 3 cs, SO.sl true false 101 (splL (partI false l) cs ((64 : Int) - (↑l.length : Int)) ++ partI true l)])) := by kernel_rfl
theorem cb_ff (full fu : Bool) (l : List Sg) (cs : List Int) : Tr.follow [Tt,Ff,Tt,Tt,Ff,Tt,Tt,Ff,Tt,Tt,Tt,Ff,Tt,Tt,Tt,Tt,Ff,Tt] (fnB CT Tryz.prog sp5 noLs (fun _ _ => 20) 10 57 [.h 0, .h 1] [.sl false full 101 (l : List Sg), .sl false fu 3 (cs : List Int)]) =
  some ([wfS l,chkI l != (0 : Int),wfS l,okI l,decide ((partI false l).length = (0 : Nat)),wfS l,okI l,decide ((partI true l).length = (0 : Nat)),inR64 ((64 : Int) - (↑l.length : Int)),wfS (partI false l),spGI (partI false l) cs ((64 : Int) - (↑l.length : Int)),splN (partI false l) cs ((64 : Int) - (↑l.length : Int)),inR64 ((64 : Int) - (↑(splL (partI false l) cs ((64 : Int) - (↑l.length : Int))).length : Int)),inR64 ((64 : Int) - (↑(splL (partI false l) cs ((64 : Int) - (↑l.length : Int))).length : Int) - (↑(partI true l).length : Int)),wfS (partI true l),spGI (partI true l) cs ((64 : Int) - (↑(splL (partI false l) cs ((64 : Int) - (↑l.length : Int))).length : Int) - (↑(partI true l).length : Int)),splN (partI true l) cs ((64 : Int) - (↑(splL (partI false l) cs ((64 : Int) - (↑l.length : Int))).length : Int) - (↑(partI true l).length : Int)),roomB ((splL (partI false l) cs ((64 : Int) - (↑l.length : Int))).length + (splL (partI true l) cs ((64 : Int) - (↑(splL (partI false l) cs ((64 : Int) - (↑l.length : Int))).length : Int) - (↑(partI true l).length : Int))).length) Tryz.prog.types[(101 : Nat)].bytes],
  (SV.h 2, [SO.sl false full 101 l, SO.sl false fu 3 cs, SO.sl true false 101 (splL (partI false l) cs ((64 : Int) - (↑l.length : Int)) ++ splL (partI true l) cs ((64 : Int) - (↑(splL (partI false l) cs ((64 : Int) - (↑l.length : Int))).length : Int) - (↑(partI true l).length : Int)))])) := by kernel_rfl
theorem cbN_p (full : Bool) (l : List Sg) : Tr.follow [Tt,Ff,Tt,Tt,Ff,Tt,Tt,Ff,Tt,Tt,Tt,Tt,Tt,Tt] (fnB CT Tryz.prog sp5 noLs (fun _ _ => 20) 10 57 [.h 0, .raw (.slice none 0 0)] [.sl false full 101 (l : List Sg)]) =
  some ([wfS l,chkI l != (0 : Int),wfS l,okI l,decide ((partI false l).length = (0 : Nat)),wfS l,okI l,decide ((partI true l).length = (0 : Nat)),inR64 ((64 : Int) - (↑l.length : Int)),wfS (partI false l),inR64 ((64 : Int) - (↑(partI false l).length : Int)),inR64 ((64 : Int) - (↑(partI false l).length : Int) - (↑(partI true l).length : Int)),wfS (partI true l),roomB ((partI false l).length + (partI true l).length) Tryz.prog.types[(101 : Nat)].bytes],
  (SV.h 1, [SO.sl false full 101 l, SO.sl true false 101 (partI false l ++ partI true l)])) := by kernel_rfl
def cbR (l : List Sg) (cs : List Int) : List Sg := splitB (partS false l) cs (64 - l.length)
def cbW (l : List Sg) (cs : List Int) : List Sg := splitB (partS true l) cs (64 - (cbR l cs).length - (partS true l).length)
def cbG (l : List Sg) (cs : List Int) : Bool := (wfS l && okSg l) && ((spG (partS false l) cs (64 - l.length) (sgSum (partS false l))) && spG (partS true l) cs (64 - (cbR l cs).length - (partS true l).length) (sgSum (partS true l)))
def cbGI (l : List Sg) (cs : List Int) : Bool := opq (cbG l cs)
def cutBI (l : List Sg) (cs : List Int) : List Sg := opq (cutB l cs)
theorem cutBI_eq (l : List Sg) (cs : List Int) : cutBI l cs = cutB l cs := opq_eq _
theorem cbGI_eq (l : List Sg) (cs : List Int) : cbGI l cs = cbG l cs := opq_eq _
theorem spG_ne {l : List Sg} {cs : List Int} {mo al : Int} (h : spG l cs mo al = true) : ¬ l.length = 0 := fun e => by
  obtain ⟨_, h7, _⟩ := spG_iff.1 h
  rw [List.eq_nil_of_length_eq_zero e] at h7; cases h7
theorem cb_get {full fu : Bool} {l : List Sg} {cs : List Int} (h : cbG l cs = true) : (fnB CT Tryz.prog sp5 noLs (fun _ _ => 20) 10 57 [.h 0, .h 1] [.sl false full 101 (l : List Sg), .sl false fu 3 (cs : List Int)]).get = some (.h 2, [.sl false full 101 (l : List Sg), .sl false fu 3 (cs : List Int), .sl true false 101 (cutB l cs)]) := by
  unfold cbG at h
  simp only [Bool.and_eq_true] at h
  obtain ⟨⟨hw, ho⟩, h1, h2⟩ := h
  have hl := okSg_len ho
  have i1 := spG_iff.1 h1
  have i2 := spG_iff.1 h2
  have w1 := wf_part (b := false) hw
  have w2 := wf_part (b := true) hw
  have n1 := decide_eq_false (spG_ne h1)
  have n2 := decide_eq_false (spG_ne h2)
  have c0 : (chkI l != 0) = false := by rw [chkI_bne, ho]; rfl
  have r64 : ∀ x : Int, -64 ≤ x ∧ x ≤ 64 → inR64 x = true := fun x hx => inR64_mk (by omega)
  have m1 := r64 (64 - (l.length : Int)) (by omega)
  have hcb : cutB l cs = cbR l cs ++ cbW l cs := by
    unfold cutB; rw [ho]; rfl
  have hrl : ((cbR l cs).length : Int) ≤ 64 := by omega
  have pl1 := partS_len false l
  have pl2 := partS_len true l
  have hwl : ((cbW l cs).length : Int) ≤ 64 := by
    unfold cbW
    obtain ⟨⟨a1, a2, a3, a4, a5, a6⟩, a7, a8⟩ := i2
    obtain ⟨w, A, q1, q2, q3, q4⟩ := chL_spec a7
    have := (splitS_ok (w := w) (A := A) (T := sgSum (partS true l)) a4 q3 (cs := cs) (more := 64 - (cbR l cs).length - (partS true l).length) (a := 0) q1 (Int.le_refl _) a1 a2).2
    unfold splitB
    rw [(spG_sum h2).2.2]
    omega
  have rm : ∀ x y : Nat, (x : Int) ≤ 64 → (y : Int) ≤ 64 → roomB (x + y) Tryz.prog.types[(101 : Nat)].bytes = true := fun x y hx hy => rmS (by omega)
  have m2 := r64 (64 - ((cbR l cs).length : Int)) (by omega)
  have m3 := r64 (64 - ((cbR l cs).length : Int) - ((partS true l).length : Int)) (by omega)
  cases e1 : splN (partS false l) cs (64 - l.length) with
  | true =>
    have f1 : partS false l = cbR l cs := (splN_none h1 e1).symm
    rw [← f1] at hcb m2 m3 h2 hrl
    have hW : cbW l cs = splitB (partS true l) cs (64 - (partS false l).length - (partS true l).length) := by unfold cbW; rw [← f1]
    cases e2 : splN (partS true l) cs (64 - (partS false l).length - (partS true l).length) with
    | true =>
      have f2 : partS true l = cbW l cs := by rw [hW]; exact (splN_none h2 e2).symm
      have hp := cb_tt full fu l cs
      simp only [partI_eq, okI_eq, spGI_eq, splL_eq, hw, ho, h1, h2, w1, w2, n1, n2, c0, m1, m2, m3, e1, e2, rm _ _ hrl (show (((partS true l).length : Nat) : Int) ≤ 64 by omega)] at hp
      rw [hcb, ← f2]
      exact Tr.follow_get hp rfl
    | false =>
      have hp := cb_tf full fu l cs
      rw [hW] at hwl
      simp only [partI_eq, okI_eq, spGI_eq, splL_eq, hw, ho, h1, h2, w1, w2, n1, n2, c0, m1, m2, m3, e1, e2, rm _ _ hrl hwl] at hp
      rw [hcb, hW]
      exact Tr.follow_get hp rfl
  | false =>
    have hR : splitB (partS false l) cs (64 - l.length) = cbR l cs := rfl
    cases e2 : splN (partS true l) cs (64 - (cbR l cs).length - (partS true l).length) with
    | true =>
      have f2 : partS true l = cbW l cs := (splN_none h2 e2).symm
      have hp := cb_ft full fu l cs
      simp only [partI_eq, okI_eq, spGI_eq, splL_eq, hR, hw, ho, h1, h2, w1, w2, n1, n2, c0, m1, m2, m3, e1, e2, rm _ _ hrl (show (((partS true l).length : Nat) : Int) ≤ 64 by omega)] at hp
      rw [hcb, ← f2]
      exact Tr.follow_get hp rfl
    | false =>
      have hW : cbW l cs = splitB (partS true l) cs (64 - (cbR l cs).length - (partS true l).length) := rfl
      have hp := cb_ff full fu l cs
      rw [hW] at hwl
      simp only [partI_eq, okI_eq, spGI_eq, splL_eq, hR, hw, ho, h1, h2, w1, w2, n1, n2, c0, m1, m2, m3, e1, e2, rm _ _ hrl hwl] at hp
      rw [hcb, hW]
      exact Tr.follow_get hp rfl
theorem cbN_get {full : Bool} {l : List Sg} (h : cbG l [] = true) : (fnB CT Tryz.prog sp5 noLs (fun _ _ => 20) 10 57 [.h 0, .raw (.slice none 0 0)] [.sl false full 101 (l : List Sg)]).get = some (.h 1, [.sl false full 101 (l : List Sg), .sl true false 101 (cutB l [])]) := by
  unfold cbG at h
  simp only [Bool.and_eq_true] at h
  obtain ⟨⟨hw, ho⟩, h1, h2⟩ := h
  have hl := okSg_len ho
  have w1 := wf_part (b := false) hw
  have w2 := wf_part (b := true) hw
  have n1 := decide_eq_false (spG_ne h1)
  have n2 := decide_eq_false (spG_ne h2)
  have c0 : (chkI l != 0) = false := by rw [chkI_bne, ho]; rfl
  have r64 : ∀ x : Int, -64 ≤ x ∧ x ≤ 64 → inR64 x = true := fun x hx => inR64_mk (by omega)
  have pl1 := partS_len false l
  have pl2 := partS_len true l
  have m1 := r64 (64 - (l.length : Int)) (by omega)
  have m2 := r64 (64 - ((partS false l).length : Int)) (by omega)
  have m3 := r64 (64 - ((partS false l).length : Int) - ((partS true l).length : Int)) (by omega)
  have rm : roomB ((partS false l).length + (partS true l).length) Tryz.prog.types[(101 : Nat)].bytes = true := rmS (by omega)
  have hp := cbN_p full l
  simp only [partI_eq, okI_eq, hw, ho, w1, w2, n1, n2, c0, m1, m2, m3, rm] at hp
  have hcb : cutB l [] = partS false l ++ partS true l := by
    unfold cutB splitB; rw [ho]; rfl
  rw [hcb]
  exact Tr.follow_get hp rfl
def cutBT : FnF CT := fun ws os => match ws, os with
  | [.h 0, .h 1], [.sl false full 101 l, .sl false fu 3 cs] => .br (cbGI l cs) (.leaf (.h 2, [.sl true false 101 (cutBI l cs : List Sg)])) .fail
  | [.h 0, .raw (.slice none 0 0)], [.sl false full 101 l] => .br (cbGI l []) (.leaf (.h 1, [.sl true false 101 (cutBI l [] : List Sg)])) .fail
  | _, _ => .fail
theorem cutBT_ok : ∀ args os r, (cutBT args os).get = some r → Fn0 Tryz.prog 57 args os r := fun args os r h => by
  unfold cutBT at h
  split at h
  · rename_i full l fu cs
    change List Sg at l
    change List Int at cs
    obtain ⟨h1, hA⟩ := Tr.get_ask.1 h
    simp only [Tr.get, Option.some.injEq] at hA
    subst hA
    rw [cbGI_eq] at h1
    rw [cutBI_eq]
    exact Fn0.ofB (fnB_ok plain mixed sp5_ok noLs_ok (cb_get h1))
  · rename_i full l
    change List Sg at l
    obtain ⟨h1, hA⟩ := Tr.get_ask.1 h
    simp only [Tr.get, Option.some.injEq] at hA
    subst hA
    rw [cbGI_eq] at h1
    rw [cutBI_eq]
    exact Fn0.ofB (fnB_ok plain mixed sp5_ok noLs_ok (cbN_get h1))
  · cases h
def sp6 : SpecT CT := addS 57 (seeS cutBT) sp5
theorem sp6_ok : SpecTOk Tryz.prog sp6 := addS_ok (seeS_ok cutBT_ok) sp5_ok
end
end Go.Proofs.YtfgbhgeppdffaaaGreat
namespace Go.Proofs.YtfgbhgeppdffaaaGreat
open Go Go.Sx Go.RowKit
set_option maxRecDepth 1000000
set_option maxHeartbeats 8000000
set_option linter.unusedVariables false
noncomputable section
@[reducible] def rqV (d : SV) (n : Int) : SV := .agg [.raw (.int .u32 1), .raw (.int .u64 3), d, .raw (.int .i64 n), .raw (.slice none 0 0)]
@[reducible] def lyO (fc : Bool) (bs cs : List Int) (N : Nat) (f : Nat → Int) : List (SO CT) := [.box [.h 3, .h 4] 138, .sl true false 5 (bs : List Int), .sl false fc 3 (cs : List Int), .sl true false 58 ([(0, (N : Int))] : List Rg), .rw 34 1 1 false [.h 5], .mem 5 N f]
def hdr : List Int := [1, 0, 0, 0, 0, 0, 0, 0, 3, 0, 0, 0, 0, 0, 0, 0]
@[reducible] def hdB (bs : List Int) : List Int := hdr ++ bs
theorem bytes_tree (bs : List Int) (n : Int) : (fnB CT Tryz.prog noSp noLs (fun _ _ => 20) 20 18 [rqV (.h 0) n] [.sl true false 5 (bs : List Int)]).get =
  bro (decide (n < 0)) (some (SV.tup [SV.raw (Value.slice none 0 0), SV.raw (Value.int IntKind.i64 2)], [SO.sl true false 5 bs])) (bro (roomB (16 + bs.length) Tryz.prog.types[(5 : Nat)].bytes) (some (SV.tup [SV.h 1, SV.raw (Value.int IntKind.i64 0)], [SO.sl true false 5 bs, SO.sl true false 5 (hdr ++ bs)])) none) := by kernel_rfl
def bytG (bs : List Int) (n : Int) : Bool := decide (0 ≤ n ∧ bs.length ≤ 100000)
def bytT : FnF CT := fun ws os => match ws, os with
  | [.agg [.raw (.int .u32 1), .raw (.int .u64 3), .h 0, .raw (.int .i64 n), .raw (.slice none 0 0)]], [.sl true false 5 bs] =>
    .br (bytG bs n) (.leaf (SV.tup [SV.h 1, SV.raw (Value.int IntKind.i64 0)], [SO.sl true false 5 bs, SO.sl true false 5 (hdB bs)])) .fail
  | _, _ => .fail
theorem bytT_ok : ∀ args os r, (bytT args os).get = some r → FnB Tryz.prog 18 args os r := fun args os r h => by
  unfold bytT at h
  split at h
  · rename_i n bs
    change List Int at bs
    obtain ⟨h1, h2⟩ := Tr.get_ask.1 h
    have h1 := of_decide_eq_true h1
    simp only [Tr.get, Option.some.injEq] at h2
    subst h2
    refine fnB_ok plain mixed noSp_ok noLs_ok (unr := fun _ _ => 20) (d := 20) ((bytes_tree bs n).trans ?_)
    rw [decide_eq_false (show ¬ n < 0 by omega), rmB (by have := h1.2; omega)]
    rfl
  · cases h
def spLy : SpecT CT := addS 18 (footS bytT) sp6
theorem spLy_ok : SpecTOk Tryz.prog spLy := addS_ok (footS_ok bytT_ok) sp6_ok
def lyL1 (bs : List Int) (n : Int) : Int := (((((hdB bs).length : Int) % 18446744073709551616 + n % 18446744073709551616) % 18446744073709551616) + 1) % 18446744073709551616
def lyS0 (bs : List Int) (pl n : Int) : List Sg := [(pl, ((hdB bs).length : Int) % 18446744073709551616 % 4294967296, false), ((pl + ((hdB bs).length : Int) % 18446744073709551616) % 18446744073709551616, (n + 1) % 4294967296, true)]
@[reducible] def lyB (bs : List Int) (n : Int) : List Int := hdB bs ++ List.replicate (n + 1).toNat 0
theorem lay_tree (fc : Bool) (bs cs : List Int) (N : Nat) (f : Nat → Int) (pl n : Int) : Tr.follow [Ff,Tt,Ff,Tt,Tt,Ff,Tt,Tt,Tt,Tt,Tt,Tt,Tt,Tt,Tt] (fnBD CT Tryz.prog spLy noLs (fun _ _ => 20) 20 17 [.h 0, .raw (.int .u64 pl), rqV (.h 1) n, .h 2] (lyO fc bs cs N f)) =
  some ([Ff, bytG bs n, false, rgB [((0 : Int), (N : Int))] N, memG N pl (lyL1 bs n), !memC N pl (lyL1 bs n), inR64 (n + 1), cbGI (lyS0 bs pl n) cs, true, inR64 (n + 1), decide (0 ≤ n + 1) && (decide (n + 1 ≤ 9223372036854775807) && decide ((n + 1) * (Tryz.prog.types[(5 : Nat)].bytes : Int) ≤ 281474976710656)),
    roomB ((hdB bs).length + (List.replicate (n + 1).toNat (0 : Int)).length) Tryz.prog.types[(5 : Nat)].bytes, rgB [((0 : Int), (N : Int))] N, memG N pl ((lyB bs n).length : Int), memC N pl ((lyB bs n).length : Int)],
  (SV.tup [SV.h 6, SV.raw (Value.int IntKind.i64 0)], lyO fc bs cs N (wrM f pl.toNat (lyB bs n)) ++ [SO.sl true false 101 (cutBI (lyS0 bs pl n) cs)])) := by kernel_rfl
def lySg (bs : List Int) (pl n : Int) : List Sg := [(pl, 16 + (bs.length : Int), false), (pl + (16 + (bs.length : Int)), n + 1, true)]
def layG (bs cs : List Int) (N : Nat) (pl n : Int) : Bool := decide (0 ≤ n ∧ n ≤ 100000 ∧ bs.length ≤ 100000 ∧ 0 ≤ pl ∧ pl + (16 + (bs.length : Int)) + (n + 1) ≤ (N : Int) ∧ N ≤ 4294967296) && cbG (lySg bs pl n) cs
theorem hdB_len (bs : List Int) : (hdB bs).length = 16 + bs.length := by
  show (hdr ++ bs).length = _
  rw [List.length_append]; rfl
theorem lay_ok {fc : Bool} {bs cs : List Int} {N : Nat} {f : Nat → Int} {pl n : Int} (h : layG bs cs N pl n = true) : FnB Tryz.prog 17 [.h 0, .raw (.int .u64 pl), rqV (.h 1) n, .h 2] (lyO fc bs cs N f) (SV.tup [SV.h 6, SV.raw (Value.int IntKind.i64 0)], lyO fc bs cs N (wrM f pl.toNat (lyB bs n)) ++ [SO.sl true false 101 (cutBI (lySg bs pl n) cs)]) := by
  unfold layG at h
  rw [Bool.and_eq_true] at h
  obtain ⟨hd, hc⟩ := h
  obtain ⟨h1, h2, h3, h4, h5, h6⟩ := of_decide_eq_true hd
  have hl := hdB_len bs
  have e1 : lyL1 bs n = 16 + (bs.length : Int) + (n + 1) := by
    unfold lyL1
    rw [hl]
    omega
  have e2 : lyS0 bs pl n = lySg bs pl n := by
    unfold lyS0 lySg
    rw [hl]
    have x1 : ((16 + bs.length : Nat) : Int) % 18446744073709551616 % 4294967296 = 16 + (bs.length : Int) := by omega
    have x2 : (pl + ((16 + bs.length : Nat) : Int) % 18446744073709551616) % 18446744073709551616 = pl + (16 + (bs.length : Int)) := by omega
    have x3 : (n + 1) % 4294967296 = n + 1 := by omega
    rw [x1, x2, x3]
  have e3 : (lyB bs n).length = 16 + bs.length + (n + 1).toNat := by
    show (hdB bs ++ List.replicate (n + 1).toNat 0).length = _
    rw [List.length_append, List.length_replicate, hl]
  have hp := lay_tree fc bs cs N f pl n
  have g1 : memG N pl (16 + (bs.length : Int) + (n + 1)) = true := memG_iff.2 (by omega)
  have g2 : memC N pl (16 + (bs.length : Int) + (n + 1)) = true := decide_eq_true (by omega)
  have e4 : ((lyB bs n).length : Int) = 16 + (bs.length : Int) + (n + 1) := by rw [e3]; omega
  have hm : (n + 1) * (Tryz.prog.types[(5 : Nat)].bytes : Int) ≤ 281474976710656 := by
    have hb := byB
    have h1 : (n + 1).toNat * Tryz.prog.types[(5 : Nat)].bytes ≤ 100001 * 8 := Nat.mul_le_mul (by omega) hb
    have h2 : (((n + 1).toNat * Tryz.prog.types[(5 : Nat)].bytes : Nat) : Int) ≤ ((100001 * 8 : Nat) : Int) := Int.ofNat_le.2 h1
    rw [Int.natCast_mul, Int.toNat_of_nonneg (by omega)] at h2
    exact Int.le_trans h2 (by decide)
  have hbg : bytG bs n = true := decide_eq_true ⟨h1, h3⟩
  have i1 : inR64 (n + 1) = true := inR64_mk (by omega)
  rw [e2] at hp
  rw [e1, hbg, rgB_self, g1, g2, i1, cbGI_eq, hc, decide_eq_true (show (0 : Int) ≤ n + 1 by omega), decide_eq_true (show n + 1 ≤ (9223372036854775807 : Int) by omega), decide_eq_true hm, rmB (by rw [hl, List.length_replicate]; omega), e4, g1, g2] at hp
  exact fnBD_ok plain mixed spLy_ok noLs_ok (Tr.follow_get hp rfl)
@[reducible] def lyN (bs : List Int) (N : Nat) (f : Nat → Int) : List (SO CT) := [.box [.h 2, .h 3] 138, .sl true false 5 (bs : List Int), .sl true false 58 ([(0, (N : Int))] : List Rg), .rw 34 1 1 false [.h 4], .mem 5 N f]
theorem layN_tree (bs : List Int) (N : Nat) (f : Nat → Int) (pl n : Int) : Tr.follow [Ff,Tt,Ff,Tt,Tt,Ff,Tt,Tt,Tt,Tt,Tt,Tt,Tt,Tt,Tt] (fnBD CT Tryz.prog spLy noLs (fun _ _ => 20) 20 17 [.h 0, .raw (.int .u64 pl), rqV (.h 1) n, .raw (.slice none 0 0)] (lyN bs N f)) =
  some ([Ff, bytG bs n, false, rgB [((0 : Int), (N : Int))] N, memG N pl (lyL1 bs n), !memC N pl (lyL1 bs n), inR64 (n + 1), cbGI (lyS0 bs pl n) [], true, inR64 (n + 1), decide (0 ≤ n + 1) && (decide (n + 1 ≤ 9223372036854775807) && decide ((n + 1) * (Tryz.prog.types[(5 : Nat)].bytes : Int) ≤ 281474976710656)),
    roomB ((hdB bs).length + (List.replicate (n + 1).toNat (0 : Int)).length) Tryz.prog.types[(5 : Nat)].bytes, rgB [((0 : Int), (N : Int))] N, memG N pl ((lyB bs n).length : Int), memC N pl ((lyB bs n).length : Int)],
  (SV.tup [SV.h 5, SV.raw (Value.int IntKind.i64 0)], lyN bs N (wrM f pl.toNat (lyB bs n)) ++ [SO.sl true false 101 (cutBI (lyS0 bs pl n) [])])) := by kernel_rfl
theorem layN_ok {bs : List Int} {N : Nat} {f : Nat → Int} {pl n : Int} (h : layG bs [] N pl n = true) : FnB Tryz.prog 17 [.h 0, .raw (.int .u64 pl), rqV (.h 1) n, .raw (.slice none 0 0)] (lyN bs N f) (SV.tup [SV.h 5, SV.raw (Value.int IntKind.i64 0)], lyN bs N (wrM f pl.toNat (lyB bs n)) ++ [SO.sl true false 101 (cutBI (lySg bs pl n) [])]) := by
  unfold layG at h
  rw [Bool.and_eq_true] at h
  obtain ⟨hd, hc⟩ := h
  obtain ⟨h1, h2, h3, h4, h5, h6⟩ := of_decide_eq_true hd
  have hl := hdB_len bs
  have e1 : lyL1 bs n = 16 + (bs.length : Int) + (n + 1) := by
    unfold lyL1
    rw [hl]
    omega
  have e2 : lyS0 bs pl n = lySg bs pl n := by
    unfold lyS0 lySg
    rw [hl]
    have x1 : ((16 + bs.length : Nat) : Int) % 18446744073709551616 % 4294967296 = 16 + (bs.length : Int) := by omega
    have x2 : (pl + ((16 + bs.length : Nat) : Int) % 18446744073709551616) % 18446744073709551616 = pl + (16 + (bs.length : Int)) := by omega
    have x3 : (n + 1) % 4294967296 = n + 1 := by omega
    rw [x1, x2, x3]
  have e3 : (lyB bs n).length = 16 + bs.length + (n + 1).toNat := by
    show (hdB bs ++ List.replicate (n + 1).toNat 0).length = _
    rw [List.length_append, List.length_replicate, hl]
  have hp := layN_tree bs N f pl n
  have g1 : memG N pl (16 + (bs.length : Int) + (n + 1)) = true := memG_iff.2 (by omega)
  have g2 : memC N pl (16 + (bs.length : Int) + (n + 1)) = true := decide_eq_true (by omega)
  have e4 : ((lyB bs n).length : Int) = 16 + (bs.length : Int) + (n + 1) := by rw [e3]; omega
  have hm : (n + 1) * (Tryz.prog.types[(5 : Nat)].bytes : Int) ≤ 281474976710656 := by
    have hb := byB
    have h1 : (n + 1).toNat * Tryz.prog.types[(5 : Nat)].bytes ≤ 100001 * 8 := Nat.mul_le_mul (by omega) hb
    have h2 : (((n + 1).toNat * Tryz.prog.types[(5 : Nat)].bytes : Nat) : Int) ≤ ((100001 * 8 : Nat) : Int) := Int.ofNat_le.2 h1
    rw [Int.natCast_mul, Int.toNat_of_nonneg (by omega)] at h2
    exact Int.le_trans h2 (by decide)
  have hbg : bytG bs n = true := decide_eq_true ⟨h1, h3⟩
  have i1 : inR64 (n + 1) = true := inR64_mk (by omega)
  rw [e2] at hp
  rw [e1, hbg, rgB_self, g1, g2, i1, cbGI_eq, hc, decide_eq_true (show (0 : Int) ≤ n + 1 by omega), decide_eq_true (show n + 1 ≤ (9223372036854775807 : Int) by omega), decide_eq_true hm, rmB (by rw [hl, List.length_replicate]; omega), e4, g1, g2] at hp
  exact fnBD_ok plain mixed spLy_ok noLs_ok (Tr.follow_get hp rfl)
end
end Go.Proofs.YtfgbhgeppdffaaaGreat
namespace Go.Proofs.YtfgbhgeppdffaaaGreat
open Go Go.Sx
abbrev z0 : SV := .raw (.int .i64 0)
abbrev w0 : SV := .raw (.int .u64 0)
abbrev x0 : SV := .raw (.int .u32 0)
abbrev y0 : SV := .raw (.int .u8 0)
abbrev bf : SV := .raw (.bool false)
abbrev bt : SV := .raw (.bool true)
abbrev nl : SV := .raw (.slice none 0 0)
abbrev zi (n : Int) : SV := .raw (.int .i64 n)
abbrev wi (n : Int) : SV := .raw (.int .u64 n)
abbrev xi (n : Int) : SV := .raw (.int .u32 n)
abbrev ni : SV := .raw .nilIface
abbrev m1 : SV := .raw (.int .i64 (-1))
end Go.Proofs.YtfgbhgeppdffaaaGreat
namespace Go.Proofs.YtfgbhgeppdffaaaGreat
open Go Go.Sx Go.RowKit
set_option maxRecDepth 1000000
set_option maxHeartbeats 8000000
noncomputable section
@[reducible] def ob0 : SO CT := .box [.h 1,zi 2,wi 22280167936,w0,y0,z0,z0,.h 8,.h 9,y0,y0,ni,ni,ni,ni,ni,ni,ni,ni,ni,ni,ni,ni,ni,ni,ni,ni,bf,bf,bf,bf,bf,bf,bf,bf,bf,bf,bf,bf,bf,bf,bf,bf] 202
@[reducible] def ob1 : SO CT := .sl true false 58 ([(0,524288)] : List (Int × Int))
@[reducible] def ob2 : SO CT := .rw 34 1 1 false [.h 10]
@[reducible] def ob3 : SO CT := .sl true true 337 ([secZ,secZ,secZ,secZ])
@[reducible] def ob4 : SO CT := .mp .i64 337 ([])
@[reducible] def ob5 : SO CT := .sl true false 194 ([(16,0,false,0,0,0)] : List (Int × Int × Bool × Int × Int × Int))
@[reducible] def ob6 : SO CT := .sl true false 5 ([4,0,0,0,0,0,0,0] : List (Int))
@[reducible] def ob7 : SO CT := .box [.h 8,.h 9] 138
@[reducible] def ob8 : SO CT := .mv .i64 false 1 [[1],[2],[3],[4],[5],[6]] [.fn 72 1 [.h 0],.fn 73 1 [.h 0],.fn 74 1 [.h 0],.fn 75 1 [.h 0],.fn 76 1 [.h 0],.fn 77 1 [.h 0]] [0,1,2,3,4,5] 6
@[reducible] def ob9 : SO CT := .sl true false 3 ([0,1] : List (Int))
@[reducible] def ob10 : SO CT := .mv .i64 false 1 [] [] [] 0
@[reducible] def ob11 : SO CT := .mem 5 524288 (wrM (wrM (wrM (wrM (wrM (wrM (fun _ => 0) 4128 [0]) 4129 [0]) 4130 [0]) 4131 [0]) 4136 [0]) 4137 [0])
@[reducible] def ob12 : SO CT := .mem 5 524288 (wrM (wrM (wrM (wrM (wrM (wrM (wrM (wrM (wrM (fun _ => 0) 4096 (List.replicate 32 0)) 4128 (List.replicate 10 0)) 4140 (List.replicate 22 0)) 4128 [0]) 4129 [0]) 4130 [0]) 4131 [0]) 4136 [0]) 4137 [0])
@[reducible] def ob13 : SO CT := .rw 42 19 1 false [zi 1,bf,bf,bf,zi 2,x0,w0,nl,z0,nl,nl,z0,w0,nl,z0,m1,nl,y0,bf]
@[reducible] def ob14 : SO CT := .sl true false 194 ([(16,2,true,4096,4128,4140)] : List (Int × Int × Bool × Int × Int × Int))
@[reducible] def ob15 : SO CT := .box [.h 1,zi 2,wi 22280167936,wi 4294992384,.raw (.int .u8 15),zi 1,z0,.h 10,.h 11,y0,y0,ni,ni,ni,ni,ni,ni,ni,ni,ni,ni,ni,ni,ni,ni,ni,ni,bf,bf,bf,bf,bf,bf,bf,bf,bf,bf,bf,bf,bf,bf,bf,bf] 202
@[reducible] def ob16 : SO CT := .rw 34 1 1 false [.h 14]
@[reducible] def ob17 : SO CT := .mem 5 524288 (wrM (wrM (wrM (wrM (wrM (wrM (wrM (wrM (wrM (wrM (fun _ => 0) 4096 (List.replicate 32 0)) 4128 (List.replicate 10 0)) 4140 (List.replicate 22 0)) 4128 [0]) 4129 [0]) 4130 [0]) 4131 [0]) 4136 [0]) 4137 [0]) 65536 [4,0,0,0,0,0,0,0,0,0,0,0,0,0,0,0,0])
@[reducible] def ob18 : SO CT := .rw 42 19 2 false [zi 1,bf,bf,bf,zi 2,x0,w0,nl,z0,nl,nl,z0,w0,nl,z0,m1,nl,y0,bf,zi 2,bf,bf,bf,z0,xi 4,w0,nl,z0,nl,nl,z0,w0,nl,z0,z0,nl,y0,bf]
@[reducible] def ob19 : SO CT := .sl true false 3 ([] : List (Int))
@[reducible] def ob20 : SO CT := .box [.fn 399 1 [.h 4],.fn 400 1 [.h 4],.fn 401 1 [.h 4],.fn 402 1 [.h 4],.fn 401 1 [.h 4],.fn 403 1 [.h 4]] 527
@[reducible] def ob21 : SO CT := .box [z0,.h 22] 525
@[reducible] def ob22 : SO CT := .sl true false 101 ([(65536,16,false),(65552,1,true)] : List (Int × Int × Bool))
@[reducible] def ob23 : SO CT := .box [.h 2,.h 3,.h 4,.ifc 173 [.h 5],.h 6,zi 1,.h 7] 123
@[reducible] def ob24 : SO CT := .box [.h 10,.h 11] 190
@[reducible] def ob25 : SO CT := .box [.h 2,zi 2,wi 22280167936,wi 4294992384,.raw (.int .u8 15),zi 1,z0,.h 12,.h 13,y0,y0,ni,ni,ni,ni,ni,ni,ni,ni,ni,ni,ni,ni,ni,ni,ni,ni,bf,bf,bf,bf,bf,bf,bf,bf,bf,bf,bf,bf,bf,bf,bf,bf] 202
@[reducible] def ob26 : SO CT := .box [.h 2,bf,zi 2,wi 4096,wi 4128,wi 4140,bf,bf,bf,wi 16384,zi 2,.h 14,.h 15,.raw (.int .u16 0),.raw (.int .u16 0),.bs 16 0 6 6,.h 17,.h 18,zi 1,bf,z0,x0,bf,bf,bf] 285
@[reducible] def ob27 : SO CT := .rw 215 3 1 false [z0,z0,.h 19]
@[reducible] def ob28 : SO CT := .rw 34 1 1 false [.h 20]
@[reducible] def ob29 : SO CT := .mv .i64 false 1 [[0]] [.h 17] [0] 1
@[reducible] def ob30 : SO CT := .box [.fn 399 1 [.h 5],.fn 400 1 [.h 5],.fn 401 1 [.h 5],.fn 402 1 [.h 5],.fn 401 1 [.h 5],.fn 403 1 [.h 5]] 527
@[reducible] def ob31 : SO CT := .box [z0,.h 21] 525
@[reducible] def ob32 : SO CT := .box [.h 1,zi 6,zi 100,bf] 132
@[reducible] def ob33 : SO CT := .box [.h 2,.h 3,.h 4,.ifc 173 [.h 5],.h 6,zi 1,.h 22] 123
@[reducible] def ob34 : SO CT := .box [.h 2,zi 2,wi 22280167936,wi 4294992384,.raw (.int .u8 15),zi 1,z0,.h 12,.h 13,y0,y0,ni,ni,ni,ni,ni,ni,ni,ni,ni,ni,ni,ni,ni,ni,ni,ni,bt,bf,bf,bf,bf,bf,bf,bf,bf,bf,bf,bf,bf,bf,bf,bf] 202
@[reducible] def ob35 : SO CT := .box [.h 2,bf,zi 2,wi 4096,wi 4128,wi 4140,bf,bf,bf,wi 16384,zi 2,.h 14,.h 15,.raw (.int .u16 1),.raw (.int .u16 0),.bs 16 5 0 0,.h 17,.h 18,zi 1,bf,z0,x0,bt,bt,bf] 285
@[reducible] def ob36 : SO CT := .mem 5 524288 (wrM (wrM (wrM (wrM (wrM (wrM (wrM (wrM (wrM (wrM (wrM (wrM (wrM (wrM (wrM (wrM (fun _ => 0) 4096 (List.replicate 32 0)) 4128 (List.replicate 10 0)) 4140 (List.replicate 22 0)) 4128 [0]) 4129 [0]) 4130 [0]) 4131 [0]) 4136 [0]) 4137 [0]) 65536 [4,0,0,0,0,0,0,0,0,0,0,0,0,0,0,0,0]) 4096 [0,0,1,0,0,0,0,0,16,0,0,0,1,0,1,0]) 4112 [16,0,1,0,0,0,0,0,1,0,0,0,2,0,0,0]) 4132 [0]) 4133 [0]) 4130 [1]) 4131 [0])
@[reducible] def ob37 : SO CT := .rw 42 19 8 false [zi 1,bf,bf,bf,zi 2,x0,w0,nl,z0,nl,nl,z0,w0,nl,z0,m1,nl,y0,bf,zi 2,bf,bf,bf,z0,xi 4,w0,nl,z0,nl,nl,z0,w0,nl,z0,z0,nl,y0,bf,zi 4,bf,bf,bf,z0,x0,w0,nl,z0,nl,nl,z0,w0,nl,z0,m1,nl,y0,bf,zi 4,bf,bf,bf,z0,x0,w0,nl,z0,nl,nl,z0,w0,nl,z0,m1,nl,y0,bf,zi 4,bf,bf,bf,z0,x0,w0,nl,z0,nl,nl,z0,w0,nl,z0,m1,nl,y0,bf,zi 4,bf,bf,bf,z0,x0,w0,nl,z0,nl,nl,z0,w0,nl,z0,m1,nl,y0,bf,zi 4,bf,bf,bf,z0,x0,w0,nl,z0,nl,nl,z0,w0,nl,z0,m1,nl,y0,bf,zi 4,bf,bf,bf,z0,x0,w0,nl,z0,nl,nl,z0,w0,nl,z0,m1,nl,y0,bf]
@[reducible] def ob38 : SO CT := .rw 42 19 9 false [zi 1,bf,bf,bf,zi 2,x0,w0,nl,z0,nl,nl,z0,w0,nl,z0,m1,nl,y0,bf,zi 2,bf,bf,bf,z0,xi 4,w0,nl,z0,nl,nl,z0,w0,nl,z0,z0,nl,y0,bf,zi 4,bf,bf,bf,z0,x0,w0,nl,z0,nl,nl,z0,w0,nl,z0,m1,nl,y0,bf,zi 4,bf,bf,bf,z0,x0,w0,nl,z0,nl,nl,z0,w0,nl,z0,m1,nl,y0,bf,zi 4,bf,bf,bf,z0,x0,w0,nl,z0,nl,nl,z0,w0,nl,z0,m1,nl,y0,bf,zi 4,bf,bf,bf,z0,x0,w0,nl,z0,nl,nl,z0,w0,nl,z0,m1,nl,y0,bf,zi 4,bf,bf,bf,z0,x0,w0,nl,z0,nl,nl,z0,w0,nl,z0,m1,nl,y0,bf,zi 4,bf,bf,bf,z0,x0,w0,nl,z0,nl,nl,z0,w0,nl,z0,m1,nl,y0,bf,zi 5,bf,bf,bf,z0,x0,w0,nl,z0,nl,nl,z0,w0,nl,z0,m1,nl,y0,bf]
@[reducible] def ob39 : SO CT := .box [.h 2,zi 2,wi 22280167936,wi 4294992384,.raw (.int .u8 15),zi 1,z0,.h 12,.h 13,y0,y0,.ifc 176 [.h 14],ni,ni,ni,ni,ni,ni,ni,ni,ni,ni,ni,ni,ni,ni,ni,bf,bf,bf,bf,bf,bf,bf,bf,bf,bf,bf,bf,bf,bf,bf,bf] 202
@[reducible] def ob40 : SO CT := .box [.h 2,bf,zi 2,wi 4096,wi 4128,wi 4140,bf,bf,bf,wi 16384,zi 2,.h 15,.h 16,.raw (.int .u16 1),.raw (.int .u16 0),.bs 17 5 0 0,.h 18,.h 19,zi 1,bf,z0,x0,bt,bt,bf] 285
@[reducible] def ob41 : SO CT := .rw 215 3 1 false [z0,z0,.h 20]
@[reducible] def ob42 : SO CT := .rw 34 1 1 false [.h 21]
@[reducible] def ob43 : SO CT := .mv .i64 false 1 [[0]] [.h 18] [0] 1
@[reducible] def ob44 : SO CT := .box [z0,.h 23] 525
@[reducible] def ob45 : SO CT := .box [.h 2,.h 3,.h 4,.ifc 173 [.h 5],.h 6,zi 1,.h 24] 123
@[reducible] def ob46 : SO CT := .rw 42 19 13 false [zi 1,bf,bf,bf,zi 2,x0,w0,nl,z0,nl,nl,z0,w0,nl,z0,m1,nl,y0,bf,zi 2,bf,bf,bf,z0,xi 4,w0,nl,z0,nl,nl,z0,w0,nl,z0,z0,nl,y0,bf,zi 4,bf,bf,bf,z0,x0,w0,nl,z0,nl,nl,z0,w0,nl,z0,m1,nl,y0,bf,zi 4,bf,bf,bf,z0,x0,w0,nl,z0,nl,nl,z0,w0,nl,z0,m1,nl,y0,bf,zi 4,bf,bf,bf,z0,x0,w0,nl,z0,nl,nl,z0,w0,nl,z0,m1,nl,y0,bf,zi 4,bf,bf,bf,z0,x0,w0,nl,z0,nl,nl,z0,w0,nl,z0,m1,nl,y0,bf,zi 4,bf,bf,bf,z0,x0,w0,nl,z0,nl,nl,z0,w0,nl,z0,m1,nl,y0,bf,zi 4,bf,bf,bf,z0,x0,w0,nl,z0,nl,nl,z0,w0,nl,z0,m1,nl,y0,bf,zi 5,bf,bf,bf,z0,x0,w0,nl,z0,nl,nl,z0,w0,nl,z0,m1,nl,y0,bf,zi 6,bf,bf,bf,z0,x0,w0,nl,z0,nl,nl,z0,w0,nl,z0,m1,nl,y0,bf,zi 6,bf,bf,bf,z0,x0,w0,nl,z0,nl,nl,z0,w0,nl,z0,m1,nl,y0,bf,zi 6,bf,bf,bf,z0,x0,w0,nl,z0,nl,nl,z0,w0,nl,z0,m1,nl,y0,bf,zi 6,bf,bf,bf,z0,x0,w0,nl,z0,nl,nl,z0,w0,nl,z0,m1,nl,y0,bf]
@[reducible] def ob47 : SO CT := .box [.h 2,bf,zi 2,wi 4096,wi 4128,wi 4140,bf,bf,bf,.raw (.int .u16 1),.raw (.int .u16 0),.h 22,.fn 439 1 [.h 14],zi 4,bf,z0,nl,xi 1,bf,bf,bf] 291
@[reducible] def ob48 : SO CT := .mem 5 524288 (wrM (wrM (wrM (wrM (wrM (wrM (wrM (wrM (wrM (wrM (wrM (wrM (wrM (wrM (wrM (wrM (wrM (fun _ => 0) 4096 (List.replicate 32 0)) 4128 (List.replicate 10 0)) 4140 (List.replicate 22 0)) 4128 [0]) 4129 [0]) 4130 [0]) 4131 [0]) 4136 [0]) 4137 [0]) 65536 [4,0,0,0,0,0,0,0,0,0,0,0,0,0,0,0,0]) 4096 [0,0,1,0,0,0,0,0,16,0,0,0,1,0,1,0]) 4112 [16,0,1,0,0,0,0,0,1,0,0,0,2,0,0,0]) 4132 [0]) 4133 [0]) 4130 [1]) 4131 [0]) 65552 [0])
@[reducible] def ob49 : SO CT := .rw 42 19 14 false [zi 1,bf,bf,bf,zi 2,x0,w0,nl,z0,nl,nl,z0,w0,nl,z0,m1,nl,y0,bf,zi 2,bf,bf,bf,z0,xi 4,w0,nl,z0,nl,nl,z0,w0,nl,z0,z0,nl,y0,bf,zi 4,bf,bf,bf,z0,x0,w0,nl,z0,nl,nl,z0,w0,nl,z0,m1,nl,y0,bf,zi 4,bf,bf,bf,z0,x0,w0,nl,z0,nl,nl,z0,w0,nl,z0,m1,nl,y0,bf,zi 4,bf,bf,bf,z0,x0,w0,nl,z0,nl,nl,z0,w0,nl,z0,m1,nl,y0,bf,zi 4,bf,bf,bf,z0,x0,w0,nl,z0,nl,nl,z0,w0,nl,z0,m1,nl,y0,bf,zi 4,bf,bf,bf,z0,x0,w0,nl,z0,nl,nl,z0,w0,nl,z0,m1,nl,y0,bf,zi 4,bf,bf,bf,z0,x0,w0,nl,z0,nl,nl,z0,w0,nl,z0,m1,nl,y0,bf,zi 5,bf,bf,bf,z0,x0,w0,nl,z0,nl,nl,z0,w0,nl,z0,m1,nl,y0,bf,zi 6,bf,bf,bf,z0,x0,w0,nl,z0,nl,nl,z0,w0,nl,z0,m1,nl,y0,bf,zi 6,bf,bf,bf,z0,x0,w0,nl,z0,nl,nl,z0,w0,nl,z0,m1,nl,y0,bf,zi 6,bf,bf,bf,z0,x0,w0,nl,z0,nl,nl,z0,w0,nl,z0,m1,nl,y0,bf,zi 6,bf,bf,bf,z0,x0,w0,nl,z0,nl,nl,z0,w0,nl,z0,m1,nl,y0,bf,zi 7,bf,bf,bf,z0,x0,w0,nl,z0,nl,nl,z0,w0,nl,z0,z0,nl,y0,bf]
@[reducible] def ob50 : SO CT := .box [.h 2,bf,zi 2,wi 4096,wi 4128,wi 4140,bf,bf,bf,.raw (.int .u16 1),.raw (.int .u16 1),.h 22,.raw .nilFunc,zi 4,bf,z0,nl,xi 1,bt,bt,bf] 291
@[reducible] def ob51 : SO CT := .mem 5 524288 (wrM (wrM (wrM (wrM (wrM (wrM (wrM (wrM (wrM (wrM (wrM (wrM (wrM (wrM (wrM (wrM (wrM (wrM (wrM (wrM (wrM (wrM (wrM (wrM (wrM (wrM (wrM (fun _ => 0) 4096 (List.replicate 32 0)) 4128 (List.replicate 10 0)) 4140 (List.replicate 22 0)) 4128 [0]) 4129 [0]) 4130 [0]) 4131 [0]) 4136 [0]) 4137 [0]) 65536 [4,0,0,0,0,0,0,0,0,0,0,0,0,0,0,0,0]) 4096 [0,0,1,0,0,0,0,0,16,0,0,0,1,0,1,0]) 4112 [16,0,1,0,0,0,0,0,1,0,0,0,2,0,0,0]) 4132 [0]) 4133 [0]) 4130 [1]) 4131 [0]) 65552 [0]) 4144 [0]) 4145 [0]) 4146 [0]) 4147 [0]) 4148 [1]) 4149 [0]) 4150 [0]) 4151 [0]) 4142 [1]) 4143 [0])
@[reducible] def ob52 : SO CT := .mv .i64 false 1 [] [] [] 1
@[reducible] def ob53 : SO CT := .rw 42 19 19 false [zi 1,bf,bf,bf,zi 2,x0,w0,nl,z0,nl,nl,z0,w0,nl,z0,m1,nl,y0,bf,zi 2,bf,bf,bf,z0,xi 4,w0,nl,z0,nl,nl,z0,w0,nl,z0,z0,nl,y0,bf,zi 4,bf,bf,bf,z0,x0,w0,nl,z0,nl,nl,z0,w0,nl,z0,m1,nl,y0,bf,zi 4,bf,bf,bf,z0,x0,w0,nl,z0,nl,nl,z0,w0,nl,z0,m1,nl,y0,bf,zi 4,bf,bf,bf,z0,x0,w0,nl,z0,nl,nl,z0,w0,nl,z0,m1,nl,y0,bf,zi 4,bf,bf,bf,z0,x0,w0,nl,z0,nl,nl,z0,w0,nl,z0,m1,nl,y0,bf,zi 4,bf,bf,bf,z0,x0,w0,nl,z0,nl,nl,z0,w0,nl,z0,m1,nl,y0,bf,zi 4,bf,bf,bf,z0,x0,w0,nl,z0,nl,nl,z0,w0,nl,z0,m1,nl,y0,bf,zi 5,bf,bf,bf,z0,x0,w0,nl,z0,nl,nl,z0,w0,nl,z0,m1,nl,y0,bf,zi 6,bf,bf,bf,z0,x0,w0,nl,z0,nl,nl,z0,w0,nl,z0,m1,nl,y0,bf,zi 6,bf,bf,bf,z0,x0,w0,nl,z0,nl,nl,z0,w0,nl,z0,m1,nl,y0,bf,zi 6,bf,bf,bf,z0,x0,w0,nl,z0,nl,nl,z0,w0,nl,z0,m1,nl,y0,bf,zi 6,bf,bf,bf,z0,x0,w0,nl,z0,nl,nl,z0,w0,nl,z0,m1,nl,y0,bf,zi 7,bf,bf,bf,z0,x0,w0,nl,z0,nl,nl,z0,w0,nl,z0,z0,nl,y0,bf,zi 6,bf,bf,bf,z0,x0,w0,nl,z0,nl,nl,z0,w0,nl,z0,m1,nl,y0,bf,zi 6,bf,bf,bf,z0,x0,w0,nl,z0,nl,nl,z0,w0,nl,z0,m1,nl,y0,bf,zi 6,bf,bf,bf,z0,x0,w0,nl,z0,nl,nl,z0,w0,nl,z0,m1,nl,y0,bf,zi 6,bf,bf,bf,z0,x0,w0,nl,z0,nl,nl,z0,w0,nl,z0,m1,nl,y0,bf,zi 6,bf,bf,bf,z0,x0,w0,nl,z0,nl,nl,z0,w0,nl,z0,m1,nl,y0,bf]
@[reducible] def ob54 : SO CT := .box [.h 2,zi 2,wi 22280167936,wi 4294992384,.raw (.int .u8 15),zi 1,z0,.h 12,.h 13,y0,.raw (.int .u8 1),.ifc 176 [.h 14],ni,ni,ni,ni,ni,ni,ni,ni,ni,ni,ni,ni,ni,ni,ni,bf,bf,bf,bf,bf,bf,bf,bf,bf,bf,bf,bf,bf,bf,bf,bf] 202
@[reducible] def ob55 : SO CT := .rw 42 19 20 false [zi 1,bf,bf,bf,zi 2,x0,w0,nl,z0,nl,nl,z0,w0,nl,z0,m1,nl,y0,bf,zi 2,bf,bf,bf,z0,xi 4,w0,nl,z0,nl,nl,z0,w0,nl,z0,z0,nl,y0,bf,zi 4,bf,bf,bf,z0,x0,w0,nl,z0,nl,nl,z0,w0,nl,z0,m1,nl,y0,bf,zi 4,bf,bf,bf,z0,x0,w0,nl,z0,nl,nl,z0,w0,nl,z0,m1,nl,y0,bf,zi 4,bf,bf,bf,z0,x0,w0,nl,z0,nl,nl,z0,w0,nl,z0,m1,nl,y0,bf,zi 4,bf,bf,bf,z0,x0,w0,nl,z0,nl,nl,z0,w0,nl,z0,m1,nl,y0,bf,zi 4,bf,bf,bf,z0,x0,w0,nl,z0,nl,nl,z0,w0,nl,z0,m1,nl,y0,bf,zi 4,bf,bf,bf,z0,x0,w0,nl,z0,nl,nl,z0,w0,nl,z0,m1,nl,y0,bf,zi 5,bf,bf,bf,z0,x0,w0,nl,z0,nl,nl,z0,w0,nl,z0,m1,nl,y0,bf,zi 6,bf,bf,bf,z0,x0,w0,nl,z0,nl,nl,z0,w0,nl,z0,m1,nl,y0,bf,zi 6,bf,bf,bf,z0,x0,w0,nl,z0,nl,nl,z0,w0,nl,z0,m1,nl,y0,bf,zi 6,bf,bf,bf,z0,x0,w0,nl,z0,nl,nl,z0,w0,nl,z0,m1,nl,y0,bf,zi 6,bf,bf,bf,z0,x0,w0,nl,z0,nl,nl,z0,w0,nl,z0,m1,nl,y0,bf,zi 7,bf,bf,bf,z0,x0,w0,nl,z0,nl,nl,z0,w0,nl,z0,z0,nl,y0,bf,zi 6,bf,bf,bf,z0,x0,w0,nl,z0,nl,nl,z0,w0,nl,z0,m1,nl,y0,bf,zi 6,bf,bf,bf,z0,x0,w0,nl,z0,nl,nl,z0,w0,nl,z0,m1,nl,y0,bf,zi 6,bf,bf,bf,z0,x0,w0,nl,z0,nl,nl,z0,w0,nl,z0,m1,nl,y0,bf,zi 6,bf,bf,bf,z0,x0,w0,nl,z0,nl,nl,z0,w0,nl,z0,m1,nl,y0,bf,zi 6,bf,bf,bf,z0,x0,w0,nl,z0,nl,nl,z0,w0,nl,z0,m1,nl,y0,bf,zi 3,bf,bf,bf,z0,x0,w0,nl,z0,nl,nl,z0,w0,nl,z0,m1,nl,y0,bf]
@[reducible] def ob56 : SO CT := .box [.fn 404 1 [.h 5]] 527
@[reducible] def ob57 : SO CT := .rw 215 3 1 false [z0,z0,nl]
@[reducible] def ob58 : SO CT := .rw 42 19 23 false [zi 1,bf,bf,bf,zi 2,x0,w0,nl,z0,nl,nl,z0,w0,nl,z0,m1,nl,y0,bf,zi 2,bf,bf,bf,z0,xi 4,w0,nl,z0,nl,nl,z0,w0,nl,z0,z0,nl,y0,bf,zi 4,bf,bf,bf,z0,x0,w0,nl,z0,nl,nl,z0,w0,nl,z0,m1,nl,y0,bf,zi 4,bf,bf,bf,z0,x0,w0,nl,z0,nl,nl,z0,w0,nl,z0,m1,nl,y0,bf,zi 4,bf,bf,bf,z0,x0,w0,nl,z0,nl,nl,z0,w0,nl,z0,m1,nl,y0,bf,zi 4,bf,bf,bf,z0,x0,w0,nl,z0,nl,nl,z0,w0,nl,z0,m1,nl,y0,bf,zi 4,bf,bf,bf,z0,x0,w0,nl,z0,nl,nl,z0,w0,nl,z0,m1,nl,y0,bf,zi 4,bf,bf,bf,z0,x0,w0,nl,z0,nl,nl,z0,w0,nl,z0,m1,nl,y0,bf,zi 5,bf,bf,bf,z0,x0,w0,nl,z0,nl,nl,z0,w0,nl,z0,m1,nl,y0,bf,zi 6,bf,bf,bf,z0,x0,w0,nl,z0,nl,nl,z0,w0,nl,z0,m1,nl,y0,bf,zi 6,bf,bf,bf,z0,x0,w0,nl,z0,nl,nl,z0,w0,nl,z0,m1,nl,y0,bf,zi 6,bf,bf,bf,z0,x0,w0,nl,z0,nl,nl,z0,w0,nl,z0,m1,nl,y0,bf,zi 6,bf,bf,bf,z0,x0,w0,nl,z0,nl,nl,z0,w0,nl,z0,m1,nl,y0,bf,zi 7,bf,bf,bf,z0,x0,w0,nl,z0,nl,nl,z0,w0,nl,z0,z0,nl,y0,bf,zi 6,bf,bf,bf,z0,x0,w0,nl,z0,nl,nl,z0,w0,nl,z0,m1,nl,y0,bf,zi 6,bf,bf,bf,z0,x0,w0,nl,z0,nl,nl,z0,w0,nl,z0,m1,nl,y0,bf,zi 6,bf,bf,bf,z0,x0,w0,nl,z0,nl,nl,z0,w0,nl,z0,m1,nl,y0,bf,zi 6,bf,bf,bf,z0,x0,w0,nl,z0,nl,nl,z0,w0,nl,z0,m1,nl,y0,bf,zi 6,bf,bf,bf,z0,x0,w0,nl,z0,nl,nl,z0,w0,nl,z0,m1,nl,y0,bf,zi 3,bf,bf,bf,z0,x0,w0,nl,z0,nl,nl,z0,w0,nl,z0,m1,nl,y0,bf,zi 4,bf,bf,bf,z0,x0,w0,nl,z0,nl,nl,z0,w0,nl,z0,m1,nl,y0,bf,zi 4,bf,bf,bf,z0,x0,w0,nl,z0,nl,nl,z0,w0,nl,z0,m1,nl,y0,bf,zi 4,bf,bf,bf,z0,x0,w0,nl,z0,nl,nl,z0,w0,nl,z0,z0,.vs 28 1 0 0 0 (some 0),y0,bt]
@[reducible] def ob59 : SO CT := .box [.fn 401 1 [.h 5],.fn 413 1 [.h 5]] 527
@[reducible] def ob60 : SO CT := .sl true false 5 ([0] : List (Int))
@[reducible] def ob61 : SO CT := .box [.h 7,.h 8] 138
@[reducible] def ob62 : SO CT := .box [.h 9,.h 10] 190
@[reducible] def ob63 : SO CT := .box [.fn 401 1 [.h 4],.fn 413 1 [.h 4]] 527
@[reducible] def ob64 : SO CT := .sl true true 101 ([(8192,4,false)] : List (Int × Int × Bool))
@[reducible] def ob65 : SO CT := .box [.h 9,.h 10] 138
@[reducible] def ob66 : SO CT := .box [.h 2,bf,zi 2,wi 4096,wi 4128,wi 4140,bf,bf,bf,.raw (.int .u16 0),.raw (.int .u16 0),.h 13,.raw .nilFunc,z0,bf,z0,nl,x0,bf,bf,bf] 291
@[reducible] def ob67 : SO CT := .mp .i64 3 ([(0,0)] : List (Int × Int))
@[reducible] def ob68 : SO CT := .sl true false 97 ([(1,0,0)] : List (Int × Int × Int))
@[reducible] def ob69 : SO CT := .sl true false 3 ([1] : List (Int))
@[reducible] def ob70 : SO CT := .sl true false 101 ([(8192,4,false)] : List (Int × Int × Bool))
@[reducible] def ob71 : SO CT := .sl true false 3 ([0] : List (Int))
@[reducible] def ob72 : SO CT := .box [.h 1,bf,zi 2,wi 4096,wi 4128,wi 4140,.ifc 173 [.h 2],.ifc 176 [.h 3],.h 4,bf,bf,.h 5,.h 6,.h 7,.h 8,zi 1,wi 8192,bf,bf,bf] 165
@[reducible] def ob73 : SO CT := .box [.h 1,bf,zi 2,wi 4096,wi 4128,wi 4140,bf,bf,bf,w0,zi 2,.h 11,.h 12,.raw (.int .u16 0),.raw (.int .u16 0),.bs 13 0 6 6,.h 14,.h 15,zi 1,bf,z0,x0,bf,bf,bf] 285
@[reducible] def ob74 : SO CT := .box [.h 1,bf,zi 2,wi 4096,wi 4128,wi 4140,bf,bf,bf,.raw (.int .u16 0),.raw (.int .u16 0),.h 16,.raw .nilFunc,z0,bf,z0,nl,x0,bf,bf,bf] 291
@[reducible] def ob75 : SO CT := .rw 34 1 1 false [.h 18]
@[reducible] def ob76 : SO CT := .mv .i64 false 1 [[0]] [.h 14] [0] 1
@[reducible] def ob77 : SO CT := .box [.fn 399 1 [.h 2],.fn 400 1 [.h 2],.fn 401 1 [.h 2],.fn 402 1 [.h 2],.fn 401 1 [.h 2],.fn 403 1 [.h 2]] 527
@[reducible] def ob78 : SO CT := .box [z0,.h 19] 525
@[reducible] def ob79 : SO CT := .box [.h 1,bf,zi 2,wi 4096,wi 4128,wi 4140,.ifc 173 [.h 2],.ifc 176 [.h 3],.h 4,bf,bf,.h 20,.h 6,.h 21,.h 8,zi 1,wi 8192,bf,bf,bf] 165
@[reducible] def ob80 : SO CT := .box [.h 1,bf,zi 2,wi 4096,wi 4128,wi 4140,bf,bf,bf,w0,zi 2,.h 22,.h 12,.raw (.int .u16 1),.raw (.int .u16 1),.bs 23 1 0 0,.h 14,.h 15,zi 2,bf,z0,x0,bf,bt,bf] 285
@[reducible] def ob81 : SO CT := .box [.h 1,bf,zi 2,wi 4096,wi 4128,wi 4140,bf,bf,bf,.raw (.int .u16 1),.raw (.int .u16 1),.h 16,.raw .nilFunc,zi 4,bf,z0,nl,x0,bt,bt,bf] 291
@[reducible] def ob82 : SO CT := .mem 5 524288 (wrM (wrM (wrM (wrM (wrM (wrM (wrM (wrM (wrM (wrM (wrM (wrM (wrM (wrM (wrM (wrM (wrM (wrM (wrM (wrM (wrM (fun _ => 0) 4128 [0]) 4129 [0]) 4130 [0]) 4131 [0]) 4136 [0]) 4137 [0]) 4096 [0,32,0,0,0,0,0,0,4,0,0,0,0,0,0,0]) 4132 [0]) 4133 [0]) 4130 [1]) 4131 [0]) 4144 [0]) 4145 [0]) 4146 [0]) 4147 [0]) 4148 [0]) 4149 [0]) 4150 [0]) 4151 [0]) 4142 [1]) 4143 [0])
@[reducible] def ob83 : SO CT := .sl true false 97 ([(1,0,0),(2,0,0),(3,0,0),(4,0,0)] : List (Int × Int × Int))
@[reducible] def ob84 : SO CT := .box [.fn 401 1 [.h 2],.fn 413 1 [.h 2]] 527
@[reducible] def ob85 : SO CT := .sl true false 302 ([(0,0,0)] : List (Int × Int × Int))
@[reducible] def ob86 : SO CT := .box [.h 1,.h 2,.h 3,.ifc 173 [.h 4],.vs 5 3 0 0 0 none,zi 1,.h 6] 123
@[reducible] def ob87 : SO CT := .box [.h 1,zi 2,wi 22280167936,wi 4294992384,.raw (.int .u8 15),zi 1,z0,.h 11,.h 12,y0,.raw (.int .u8 1),.ifc 176 [.h 13],ni,ni,ni,ni,ni,ni,ni,ni,ni,ni,ni,ni,ni,ni,ni,bf,bf,bf,bf,bf,bf,bf,bf,bf,bf,bf,bf,bf,bf,bf,bf] 202
@[reducible] def ob88 : SO CT := .box [.h 1,bf,zi 2,wi 4096,wi 4128,wi 4140,bf,bf,bf,wi 16384,zi 2,.vs 14 1 0 0 2 (some 2),.h 15,.raw (.int .u16 1),.raw (.int .u16 1),.bs 16 1 0 0,.h 17,.h 18,zi 2,bf,z0,xi 1,bf,bt,bf] 285
@[reducible] def ob89 : SO CT := .rw 42 19 23 false [zi 1,bf,bf,bf,zi 2,x0,w0,nl,z0,nl,nl,z0,w0,nl,z0,m1,nl,y0,bf,zi 2,bf,bf,bf,z0,xi 4,w0,nl,z0,nl,nl,z0,w0,nl,z0,z0,nl,y0,bf,zi 4,bf,bf,bf,z0,x0,w0,nl,z0,nl,nl,z0,w0,nl,z0,m1,nl,y0,bf,zi 4,bf,bf,bf,z0,x0,w0,nl,z0,nl,nl,z0,w0,nl,z0,m1,nl,y0,bf,zi 4,bf,bf,bf,z0,x0,w0,nl,z0,nl,nl,z0,w0,nl,z0,m1,nl,y0,bf,zi 4,bf,bf,bf,z0,x0,w0,nl,z0,nl,nl,z0,w0,nl,z0,m1,nl,y0,bf,zi 4,bf,bf,bf,z0,x0,w0,nl,z0,nl,nl,z0,w0,nl,z0,m1,nl,y0,bf,zi 4,bf,bf,bf,z0,x0,w0,nl,z0,nl,nl,z0,w0,nl,z0,m1,nl,y0,bf,zi 5,bf,bf,bf,z0,x0,w0,nl,z0,nl,nl,z0,w0,nl,z0,m1,nl,y0,bf,zi 6,bf,bf,bf,z0,x0,w0,nl,z0,nl,nl,z0,w0,nl,z0,m1,nl,y0,bf,zi 6,bf,bf,bf,z0,x0,w0,nl,z0,nl,nl,z0,w0,nl,z0,m1,nl,y0,bf,zi 6,bf,bf,bf,z0,x0,w0,nl,z0,nl,nl,z0,w0,nl,z0,m1,nl,y0,bf,zi 6,bf,bf,bf,z0,x0,w0,nl,z0,nl,nl,z0,w0,nl,z0,m1,nl,y0,bf,zi 7,bf,bf,bf,z0,x0,w0,nl,z0,nl,nl,z0,w0,nl,z0,z0,nl,y0,bf,zi 6,bf,bf,bf,z0,x0,w0,nl,z0,nl,nl,z0,w0,nl,z0,m1,nl,y0,bf,zi 6,bf,bf,bf,z0,x0,w0,nl,z0,nl,nl,z0,w0,nl,z0,m1,nl,y0,bf,zi 6,bf,bf,bf,z0,x0,w0,nl,z0,nl,nl,z0,w0,nl,z0,m1,nl,y0,bf,zi 6,bf,bf,bf,z0,x0,w0,nl,z0,nl,nl,z0,w0,nl,z0,m1,nl,y0,bf,zi 6,bf,bf,bf,z0,x0,w0,nl,z0,nl,nl,z0,w0,nl,z0,m1,nl,y0,bf,zi 3,bf,bf,bf,z0,x0,w0,nl,z0,nl,nl,z0,w0,nl,z0,m1,nl,y0,bf,zi 4,bf,bf,bf,z0,x0,w0,nl,z0,nl,nl,z0,w0,nl,z0,m1,nl,y0,bf,zi 4,bf,bf,bf,z0,x0,w0,nl,z0,nl,nl,z0,w0,nl,z0,m1,nl,y0,bf,zi 4,bf,bf,bf,z0,x0,w0,nl,z0,nl,nl,z0,w0,nl,z0,z0,.vs 19 1 0 0 0 (some 0),y0,bt]
@[reducible] def ob90 : SO CT := .box [.h 1,bf,zi 2,wi 4096,wi 4128,wi 4140,bf,bf,bf,.raw (.int .u16 1),.raw (.int .u16 1),.h 21,.raw .nilFunc,zi 4,bf,z0,nl,xi 1,bt,bt,bf] 291
@[reducible] def ob91 : SO CT := .sl true false 5 (List.replicate 2048 0 : List (Int))
@[reducible] def ob92 : SO CT := .box [.h 1,bf,zi 2,wi 4096,wi 4128,wi 4140,bf,bf,bf,w0,zi 2,.h 11,.h 12,.raw (.int .u16 1),.raw (.int .u16 1),.bs 13 1 0 0,.h 14,.h 15,zi 2,bf,z0,x0,bf,bt,bf] 285
def row0 : Row CT := ⟨[zi 4, bf],
  [],
  .tup [.h 0, .raw (.int .i64 0)],
  [.box [.h 1,.h 2,.h 3,ni,nl,z0,nl] 123, .box [.h 4,.h 5] 138, .box [.h 6,.h 7] 190, ob0, ob1, ob2, ob3, ob4, ob5, ob6, .mem 5 524288 (fun _ => 0)]⟩
theorem row0_get : (fnB CT Tryz.prog spX noLs (fun _ _ => 200) 60 9 row0.args row0.os).get = some (row0.v, row0.os') := by kernel_rfl
theorem row0_ok : FnB Tryz.prog 9 row0.args row0.os (row0.v, row0.os') := fnB_ok plain mixed spX_ok noLs_ok row0_get
def row1 : Row CT := ⟨[zi 2, .agg [bf,bf,bf]],
  [],
  .tup [.h 0, .raw (.int .i64 0)],
  [.box [.h 1,bf,zi 2,wi 4096,wi 4128,wi 4140,.ifc 173 [.h 2],.ifc 176 [.h 3],.h 4,bf,bf,nl,.h 5,.h 6,.h 7,z0,wi 8192,bf,bf,bf] 165, ob7, .box [.h 1,bf,zi 2,wi 4096,wi 4128,wi 4140,bf,bf,bf,w0,zi 2,.h 10,.h 11,.raw (.int .u16 0),.raw (.int .u16 0),nl,.raw (.pointer none),nl,z0,bf,z0,x0,bf,bf,bf] 285, .box [.h 1,bf,zi 2,wi 4096,wi 4128,wi 4140,bf,bf,bf,.raw (.int .u16 0),.raw (.int .u16 0),.h 12,.raw .nilFunc,z0,bf,z0,nl,x0,bf,bf,bf] 291, ob8, .mp .i64 3 ([] : List (Int × Int)), ob9, ob10, ob1, .rw 34 1 1 false [.h 13], ob9, ob10, ob10, ob11]⟩
theorem row1_get : (fnB CT Tryz.prog spX noLs (fun _ _ => 200) 60 23 row1.args row1.os).get = some (row1.v, row1.os') := by kernel_rfl
theorem row1_ok : FnB Tryz.prog 23 row1.args row1.os (row1.v, row1.os') := fnB_ok plain mixed spX_ok noLs_ok row1_get
def row2 : Row CT := ⟨[.h 0, .agg [zi 1,bf,bf,bf,zi 2,x0,w0,nl,z0,nl,nl,z0,w0,nl]],
  [.box [.h 1,.h 2,.h 3,ni,nl,z0,nl] 123, .box [.h 4,.h 5] 138, .box [.h 6,.h 7] 190, ob0, ob1, ob2, ob3, ob4, ob5, ob6, .mem 5 524288 (fun _ => 0)],
  .agg [.raw (.int .i64 1), .raw (.bool false), .raw (.bool false), .raw (.bool false), .raw (.int .i64 2), .raw (.int .u32 0), .raw (.int .u64 0), .raw (.slice none 0 0), .raw (.int .i64 0), .raw (.slice none 0 0), .raw (.slice none 0 0), .raw (.int .i64 0), .raw (.int .u64 0), .raw (.slice none 0 0), .raw (.int .i64 0), .raw (.int .i64 (-1)), .raw (.slice none 0 0), .raw (.int .u8 0), .raw (.bool false)],
  [.box [.h 1,.h 2,.h 3,.ifc 173 [.h 11],nl,z0,.h 12] 123, .box [.h 4,.h 5] 138, .box [.h 6,.h 7] 190, .box [.h 1,zi 2,wi 22280167936,wi 4294992384,.raw (.int .u8 15),zi 1,z0,.h 13,.h 14,y0,y0,ni,ni,ni,ni,ni,ni,ni,ni,ni,ni,ni,ni,ni,ni,ni,ni,bf,bf,bf,bf,bf,bf,bf,bf,bf,bf,bf,bf,bf,bf,bf,bf] 202, ob1, ob2, ob3, ob4, ob5, ob6, ob12, .box [.h 1,bf,zi 2,wi 4096,wi 4128,wi 4140,bf,bf,bf,wi 16384,zi 2,.h 15,.h 16,.raw (.int .u16 0),.raw (.int .u16 0),nl,.raw (.pointer none),nl,z0,bf,z0,x0,bf,bf,bf] 285, ob13, ob14, ob6, ob9, ob10]⟩
theorem row2_get : (fnB CT Tryz.prog spX noLs (fun _ _ => 200) 60 10 row2.args row2.os).get = some (row2.v, row2.os') := by kernel_rfl
theorem row2_ok : FnB Tryz.prog 10 row2.args row2.os (row2.v, row2.os') := fnB_ok plain mixed spX_ok noLs_ok row2_get
def row3 : Row CT := ⟨[.h 0, .agg [zi 2,bf,bf,bf,z0,xi 4,w0,nl,z0,nl,nl,z0,w0,nl]],
  [.box [.h 1,.h 2,.h 3,.ifc 173 [.h 4],nl,z0,.h 5] 123, .box [.h 6,.h 7] 138, .box [.h 8,.h 9] 190, ob15, .box [.h 1,bf,zi 2,wi 4096,wi 4128,wi 4140,bf,bf,bf,wi 16384,zi 2,.h 12,.h 13,.raw (.int .u16 0),.raw (.int .u16 0),nl,.raw (.pointer none),nl,z0,bf,z0,x0,bf,bf,bf] 285, ob13, ob1, ob16, ob3, ob4, ob14, ob6, ob9, ob10, ob12],
  .agg [.raw (.int .i64 2), .raw (.bool false), .raw (.bool false), .raw (.bool false), .raw (.int .i64 0), .raw (.int .u32 4), .raw (.int .u64 0), .raw (.slice none 0 0), .raw (.int .i64 0), .raw (.slice none 0 0), .raw (.slice none 0 0), .raw (.int .i64 0), .raw (.int .u64 0), .raw (.slice none 0 0), .raw (.int .i64 0), .raw (.int .i64 0), .raw (.slice none 0 0), .raw (.int .u8 0), .raw (.bool false)],
  [.box [.h 1,.h 2,.h 3,.ifc 173 [.h 4],.h 15,zi 1,.h 16] 123, .box [.h 6,.h 7] 138, .box [.h 8,.h 9] 190, ob15, .box [.h 1,bf,zi 2,wi 4096,wi 4128,wi 4140,bf,bf,bf,wi 16384,zi 2,.h 17,.h 13,.raw (.int .u16 0),.raw (.int .u16 0),.bs 18 0 6 6,.h 19,.h 20,zi 1,bf,z0,x0,bf,bf,bf] 285, .gone, ob1, ob16, ob3, ob4, ob14, ob6, ob9, .mv .i64 false 1 [[0]] [.h 19] [0] 1, ob17, .rw 215 3 1 false [z0,z0,.h 21], ob18, ob19, ob20, ob21, ob22, ob22, ob9]⟩
theorem row3_get : (fnB CT Tryz.prog spX noLs (fun _ _ => 200) 60 10 row3.args row3.os).get = some (row3.v, row3.os') := by kernel_rfl
theorem row3_ok : FnB Tryz.prog 10 row3.args row3.os (row3.v, row3.os') := fnB_ok plain mixed spX_ok noLs_ok row3_get
def row4 : Row CT := ⟨[.h 0],
  [.box [.h 1,z0,zi 100,bf] 132, ob23, ob7, ob24, ob25, ob26, ob27, ob18, ob1, ob28, ob3, ob4, ob14, ob6, ob19, ob29, ob30, ob31, ob22, ob22, ob17, ob9],
  .tup [],
  [ob32, ob33, ob7, ob24, ob34, ob35, ob27, .gone, ob1, ob28, ob3, ob4, ob14, ob6, ob19, ob29, ob30, ob31, ob22, ob22, ob36, ob9, ob37]⟩
theorem row4_get : (fnB CT Tryz.prog spX noLs (fun _ _ => 200) 60 111 row4.args row4.os).get = some (row4.v, row4.os') := by kernel_rfl
theorem row4_ok : FnB Tryz.prog 111 row4.args row4.os (row4.v, row4.os') := fnB_ok plain mixed spX_ok noLs_ok row4_get
def row5 : Row CT := ⟨[.h 0],
  [ob32, ob23, ob7, ob24, ob34, ob35, ob27, ob37, ob1, ob28, ob3, ob4, ob14, ob6, ob19, ob29, ob30, ob31, ob22, ob22, ob36, ob9],
  .tup [],
  [ob32, ob23, ob7, ob24, ob34, ob35, ob27, ob37, ob1, ob28, ob3, ob4, ob14, ob6, ob19, ob29, ob30, ob31, ob22, ob22, ob36, ob9]⟩
theorem row5_get : (fnB CT Tryz.prog spX noLs (fun _ _ => 200) 60 112 row5.args row5.os).get = some (row5.v, row5.os') := by kernel_rfl
theorem row5_ok : FnB Tryz.prog 112 row5.args row5.os (row5.v, row5.os') := fnB_ok plain mixed spX_ok noLs_ok row5_get
def row6 : Row CT := ⟨[.h 0, zi 5],
  [ob32, ob23, ob7, ob24, ob34, ob35, ob27, ob37, ob1, ob28, ob3, ob4, ob14, ob6, ob19, ob29, ob30, ob31, ob22, ob22, ob36, ob9],
  .tup [],
  [.box [.h 1,zi 7,zi 100,bf] 132, ob33, ob7, ob24, .box [.h 2,zi 2,wi 22280167936,wi 4294992384,.raw (.int .u8 15),zi 1,z0,.h 12,.h 13,y0,y0,.ifc 176 [.h 23],ni,ni,ni,ni,ni,ni,ni,ni,ni,ni,ni,ni,ni,ni,ni,bf,bf,bf,bf,bf,bf,bf,bf,bf,bf,bf,bf,bf,bf,bf,bf] 202, ob35, ob27, .gone, ob1, ob28, ob3, ob4, ob14, ob6, ob19, ob29, ob30, ob31, ob22, ob22, ob36, ob9, ob38, .box [.h 2,bf,zi 2,wi 4096,wi 4128,wi 4140,bf,bf,bf,.raw (.int .u16 0),.raw (.int .u16 0),.h 24,.fn 438 1 [.h 23],zi 3,bf,z0,nl,x0,bf,bf,bf] 291, ob10]⟩
theorem row6_get : (fnB CT Tryz.prog spX noLs (fun _ _ => 200) 60 113 row6.args row6.os).get = some (row6.v, row6.os') := by kernel_rfl
theorem row6_ok : FnB Tryz.prog 113 row6.args row6.os (row6.v, row6.os') := fnB_ok plain mixed spX_ok noLs_ok row6_get
def row7 : Row CT := ⟨[.h 0],
  [.box [.h 1,zi 7,zi 100,bf] 132, ob23, ob7, ob24, ob39, ob40, ob41, ob38, ob1, ob42, ob3, ob4, ob14, ob6, .box [.h 2,bf,zi 2,wi 4096,wi 4128,wi 4140,bf,bf,bf,.raw (.int .u16 0),.raw (.int .u16 0),.h 22,.fn 438 1 [.h 14],zi 3,bf,z0,nl,x0,bf,bf,bf] 291, ob19, ob43, ob30, ob44, ob22, ob22, ob36, ob10, ob9],
  .tup [],
  [.box [.h 1,zi 11,zi 100,bf] 132, ob45, ob7, ob24, ob39, ob40, ob41, .gone, ob1, ob42, ob3, ob4, ob14, ob6, .box [.h 2,bf,zi 2,wi 4096,wi 4128,wi 4140,bf,bf,bf,.raw (.int .u16 1),.raw (.int .u16 0),.h 22,.raw .nilFunc,zi 3,bf,z0,.h 25,x0,bf,bt,bf] 291, ob19, ob43, ob30, ob44, ob22, ob22, ob36, .mv .i64 false 1 [[0]] [.h 26] [0] 1, ob9, ob46, ob22, ob22]⟩
theorem row7_get : (fnB CT Tryz.prog spX noLs (fun _ _ => 200) 60 112 row7.args row7.os).get = some (row7.v, row7.os') := by kernel_rfl
theorem row7_ok : FnB Tryz.prog 112 row7.args row7.os (row7.v, row7.os') := fnB_ok plain mixed spX_ok noLs_ok row7_get
def row8 : Row CT := ⟨[.h 0, zi 7],
  [.box [.h 1,zi 11,zi 100,bf] 132, ob23, ob7, ob24, ob39, ob40, ob41, ob46, ob1, ob42, ob3, ob4, ob14, ob6, .box [.h 2,bf,zi 2,wi 4096,wi 4128,wi 4140,bf,bf,bf,.raw (.int .u16 1),.raw (.int .u16 0),.h 22,.raw .nilFunc,zi 3,bf,z0,.h 23,x0,bf,bt,bf] 291, ob19, ob43, ob30, .box [z0,.h 24] 525, ob22, ob22, ob36, .mv .i64 false 1 [[0]] [.h 25] [0] 1, ob22, ob9, ob22],
  .tup [],
  [.box [.h 1,zi 12,zi 100,bt] 132, .box [.h 2,.h 3,.h 4,.ifc 173 [.h 5],.h 6,zi 1,.h 26] 123, ob7, ob24, ob39, ob40, ob41, .gone, ob1, ob42, ob3, ob4, ob14, ob6, ob47, ob19, ob43, ob30, .box [z0,.h 24] 525, ob22, ob22, ob48, .mv .i64 false 1 [[0]] [.h 25] [0] 1, ob22, ob9, ob22, ob49]⟩
theorem row8_get : (fnB CT Tryz.prog spX noLs (fun _ _ => 200) 60 113 row8.args row8.os).get = some (row8.v, row8.os') := by kernel_rfl
theorem row8_ok : FnB Tryz.prog 113 row8.args row8.os (row8.v, row8.os') := fnB_ok plain mixed spX_ok noLs_ok row8_get
def row9 : Row CT := ⟨[.h 0],
  [.box [.h 1,zi 12,zi 100,bt] 132, ob23, ob7, ob24, ob39, ob40, ob41, ob49, ob1, ob42, ob3, ob4, ob14, ob6, ob47, ob19, ob43, ob30, ob44, ob22, ob22, ob48, .mv .i64 false 1 [[0]] [.h 24] [0] 1, ob9, ob22],
  .tup [],
  [.box [.h 1,zi 17,zi 100,bt] 132, .box [.h 2,.h 3,.h 4,.ifc 173 [.h 5],.h 6,zi 1,.h 25] 123, ob7, ob24, .box [.h 2,zi 2,wi 22280167936,wi 4294992384,.raw (.int .u8 15),zi 1,z0,.h 26,.h 27,y0,.raw (.int .u8 1),.ifc 176 [.h 14],ni,ni,ni,ni,ni,ni,ni,ni,ni,ni,ni,ni,ni,ni,ni,bf,bf,bf,bf,bf,bf,bf,bf,bf,bf,bf,bf,bf,bf,bf,bf] 202, ob40, ob41, .gone, ob1, ob42, ob3, ob4, ob14, ob6, ob50, ob19, ob43, ob30, ob44, ob22, ob22, ob51, ob52, ob9, ob22, ob53, ob14, ob6]⟩
theorem row9_get : (fnB CT Tryz.prog spX noLs (fun _ _ => 200) 60 112 row9.args row9.os).get = some (row9.v, row9.os') := by kernel_rfl
theorem row9_ok : FnB Tryz.prog 112 row9.args row9.os (row9.v, row9.os') := fnB_ok plain mixed spX_ok noLs_ok row9_get
def row10 : Row CT := ⟨[.h 0, zi 3],
  [.box [.h 1,zi 17,zi 100,bt] 132, ob23, ob7, ob24, ob54, ob40, ob41, ob53, ob1, ob42, ob3, ob4, ob14, ob6, ob50, ob19, ob43, ob30, ob44, ob22, ob22, ob51, ob52, ob9],
  .tup [],
  [.box [.h 1,zi 18,zi 100,bt] 132, ob45, ob7, ob24, ob54, .box [.h 2,bf,zi 2,wi 4096,wi 4128,wi 4140,bf,bf,bf,wi 16384,zi 2,.h 15,.h 16,.raw (.int .u16 1),.raw (.int .u16 0),.bs 25 0 1 1,.h 18,.h 19,zi 2,bf,z0,x0,bf,bf,bf] 285, ob41, .gone, ob1, ob42, ob3, ob4, ob14, ob6, ob50, ob19, ob43, ob30, ob44, ob22, ob22, ob51, ob52, ob9, ob55, ob56]⟩
theorem row10_get : (fnB CT Tryz.prog spX noLs (fun _ _ => 200) 60 113 row10.args row10.os).get = some (row10.v, row10.os') := by kernel_rfl
theorem row10_ok : FnB Tryz.prog 113 row10.args row10.os (row10.v, row10.os') := fnB_ok plain mixed spX_ok noLs_ok row10_get
def row11 : Row CT := ⟨[.h 0],
  [.box [.h 1,zi 18,zi 100,bt] 132, ob23, ob7, ob24, ob54, .box [.h 2,bf,zi 2,wi 4096,wi 4128,wi 4140,bf,bf,bf,wi 16384,zi 2,.h 15,.h 16,.raw (.int .u16 1),.raw (.int .u16 0),.bs 17 0 1 1,.h 18,.h 19,zi 2,bf,z0,x0,bf,bf,bf] 285, ob41, ob55, ob1, ob42, ob3, ob4, ob14, ob6, ob50, ob19, ob43, ob56, ob44, ob22, ob22, ob51, ob52, ob9],
  .tup [],
  [.box [.h 1,zi 21,zi 100,bt] 132, .box [.h 2,.h 3,.h 4,.ifc 173 [.h 5],.vs 24 3 0 0 0 none,zi 1,.h 25] 123, ob7, ob24, ob54, .box [.h 2,bf,zi 2,wi 4096,wi 4128,wi 4140,bf,bf,bf,wi 16384,zi 2,.vs 26 1 0 0 2 (some 2),.h 16,.raw (.int .u16 1),.raw (.int .u16 1),.bs 27 1 0 0,.h 18,.h 19,zi 2,bf,z0,xi 1,bf,bt,bf] 285, ob41, .gone, ob1, ob42, ob3, ob4, ob14, ob6, ob50, ob19, ob52, ob56, ob44, ob22, ob22, ob51, ob52, ob9, ob57, ob58, ob9, ob59, ob60]⟩
theorem row11_get : (fnB CT Tryz.prog spX noLs (fun _ _ => 200) 60 111 row11.args row11.os).get = some (row11.v, row11.os') := by kernel_rfl
theorem row11_ok : FnB Tryz.prog 111 row11.args row11.os (row11.v, row11.os') := fnB_ok plain mixed spX_ok noLs_ok row11_get
def row12 : Row CT := ⟨[.h 0],
  [.box [.h 1,z0,zi 100,bf] 132, ob23, ob7, ob24, ob25, ob26, ob27, ob18, ob1, ob28, ob3, ob4, ob14, ob6, ob19, ob29, ob30, ob31, ob22, ob22, ob17, ob9],
  .tup [],
  [.box [.h 1,zi 21,zi 100,bt] 132, .box [.h 2,.h 3,.h 4,.ifc 173 [.h 5],.vs 22 3 0 0 0 none,zi 1,.h 23] 123, ob7, ob24, .box [.h 2,zi 2,wi 22280167936,wi 4294992384,.raw (.int .u8 15),zi 1,z0,.h 24,.h 25,y0,.raw (.int .u8 1),.ifc 176 [.h 26],ni,ni,ni,ni,ni,ni,ni,ni,ni,ni,ni,ni,ni,ni,ni,bf,bf,bf,bf,bf,bf,bf,bf,bf,bf,bf,bf,bf,bf,bf,bf] 202, .box [.h 2,bf,zi 2,wi 4096,wi 4128,wi 4140,bf,bf,bf,wi 16384,zi 2,.vs 27 1 0 0 2 (some 2),.h 15,.raw (.int .u16 1),.raw (.int .u16 1),.bs 28 1 0 0,.h 17,.h 18,zi 2,bf,z0,xi 1,bf,bt,bf] 285, ob27, .gone, ob1, ob28, ob3, ob4, ob14, ob6, ob19, ob52, ob30, ob31, ob22, ob22, ob51, ob9, ob57, .rw 42 19 23 false [zi 1,bf,bf,bf,zi 2,x0,w0,nl,z0,nl,nl,z0,w0,nl,z0,m1,nl,y0,bf,zi 2,bf,bf,bf,z0,xi 4,w0,nl,z0,nl,nl,z0,w0,nl,z0,z0,nl,y0,bf,zi 4,bf,bf,bf,z0,x0,w0,nl,z0,nl,nl,z0,w0,nl,z0,m1,nl,y0,bf,zi 4,bf,bf,bf,z0,x0,w0,nl,z0,nl,nl,z0,w0,nl,z0,m1,nl,y0,bf,zi 4,bf,bf,bf,z0,x0,w0,nl,z0,nl,nl,z0,w0,nl,z0,m1,nl,y0,bf,zi 4,bf,bf,bf,z0,x0,w0,nl,z0,nl,nl,z0,w0,nl,z0,m1,nl,y0,bf,zi 4,bf,bf,bf,z0,x0,w0,nl,z0,nl,nl,z0,w0,nl,z0,m1,nl,y0,bf,zi 4,bf,bf,bf,z0,x0,w0,nl,z0,nl,nl,z0,w0,nl,z0,m1,nl,y0,bf,zi 5,bf,bf,bf,z0,x0,w0,nl,z0,nl,nl,z0,w0,nl,z0,m1,nl,y0,bf,zi 6,bf,bf,bf,z0,x0,w0,nl,z0,nl,nl,z0,w0,nl,z0,m1,nl,y0,bf,zi 6,bf,bf,bf,z0,x0,w0,nl,z0,nl,nl,z0,w0,nl,z0,m1,nl,y0,bf,zi 6,bf,bf,bf,z0,x0,w0,nl,z0,nl,nl,z0,w0,nl,z0,m1,nl,y0,bf,zi 6,bf,bf,bf,z0,x0,w0,nl,z0,nl,nl,z0,w0,nl,z0,m1,nl,y0,bf,zi 7,bf,bf,bf,z0,x0,w0,nl,z0,nl,nl,z0,w0,nl,z0,z0,nl,y0,bf,zi 6,bf,bf,bf,z0,x0,w0,nl,z0,nl,nl,z0,w0,nl,z0,m1,nl,y0,bf,zi 6,bf,bf,bf,z0,x0,w0,nl,z0,nl,nl,z0,w0,nl,z0,m1,nl,y0,bf,zi 6,bf,bf,bf,z0,x0,w0,nl,z0,nl,nl,z0,w0,nl,z0,m1,nl,y0,bf,zi 6,bf,bf,bf,z0,x0,w0,nl,z0,nl,nl,z0,w0,nl,z0,m1,nl,y0,bf,zi 6,bf,bf,bf,z0,x0,w0,nl,z0,nl,nl,z0,w0,nl,z0,m1,nl,y0,bf,zi 3,bf,bf,bf,z0,x0,w0,nl,z0,nl,nl,z0,w0,nl,z0,m1,nl,y0,bf,zi 4,bf,bf,bf,z0,x0,w0,nl,z0,nl,nl,z0,w0,nl,z0,m1,nl,y0,bf,zi 4,bf,bf,bf,z0,x0,w0,nl,z0,nl,nl,z0,w0,nl,z0,m1,nl,y0,bf,zi 4,bf,bf,bf,z0,x0,w0,nl,z0,nl,nl,z0,w0,nl,z0,z0,.vs 29 1 0 0 0 (some 0),y0,bt], ob14, ob6, .box [.h 2,bf,zi 2,wi 4096,wi 4128,wi 4140,bf,bf,bf,.raw (.int .u16 1),.raw (.int .u16 1),.h 30,.raw .nilFunc,zi 4,bf,z0,nl,xi 1,bt,bt,bf] 291, ob9, ob59, ob60, ob52]⟩
def orc12_111 : List (Nat × Row CT) := [(fpR row4.args row4.os, row4), (fpR row11.args row11.os, row11)]
def orc12_112 : List (Nat × Row CT) := [(fpR row5.args row5.os, row5), (fpR row7.args row7.os, row7), (fpR row9.args row9.os, row9)]
def orc12_113 : List (Nat × Row CT) := [(fpR row6.args row6.os, row6), (fpR row8.args row8.os, row8), (fpR row10.args row10.os, row10)]
def sp12 : SpecT CT := (addS 113 (footS (orcF 113 orc12_113)) (addS 112 (footS (orcF 112 orc12_112)) (addS 111 (footS (orcF 111 orc12_111)) spX)))
theorem sp12_ok : SpecTOk Tryz.prog sp12 := (addS_ok (footS_ok (orcF_ok (RowsOk.cons row6_ok (RowsOk.cons row8_ok (RowsOk.cons row10_ok RowsOk.nil))))) (addS_ok (footS_ok (orcF_ok (RowsOk.cons row5_ok (RowsOk.cons row7_ok (RowsOk.cons row9_ok RowsOk.nil))))) (addS_ok (footS_ok (orcF_ok (RowsOk.cons row4_ok (RowsOk.cons row11_ok RowsOk.nil)))) spX_ok)))
theorem row12_get : (fnB CT Tryz.prog sp12 noLs (fun _ _ => 200) 60 50 row12.args row12.os).get = bro (same2 row4.args row4.os row4) (bro (same2 row5.args row5.os row5) (bro (same2 row6.args row6.os row6) (bro (same2 row7.args row7.os row7) (bro (same2 row8.args row8.os row8) (bro (same2 row9.args row9.os row9) (bro (same2 row10.args row10.os row10) (bro (same2 row11.args row11.os row11) (some (row12.v, row12.os')) none) none) none) none) none) none) none) none := by kernel_rfl
theorem row12_ok : FnB Tryz.prog 50 row12.args row12.os (row12.v, row12.os') := fnB_ok plain mixed sp12_ok noLs_ok (row12_get.trans (by rw [same2_self row4, same2_self row5, same2_self row6, same2_self row7, same2_self row8, same2_self row9, same2_self row10, same2_self row11]; rfl))
def row13 : Row CT := ⟨[.h 0, zi 100],
  [.box [.h 1,.h 2,.h 3,.ifc 173 [.h 4],.h 5,zi 1,.h 6] 123, ob61, ob62, .box [.h 1,zi 2,wi 22280167936,wi 4294992384,.raw (.int .u8 15),zi 1,z0,.h 11,.h 12,y0,y0,ni,ni,ni,ni,ni,ni,ni,ni,ni,ni,ni,ni,ni,ni,ni,ni,bf,bf,bf,bf,bf,bf,bf,bf,bf,bf,bf,bf,bf,bf,bf,bf] 202, .box [.h 1,bf,zi 2,wi 4096,wi 4128,wi 4140,bf,bf,bf,wi 16384,zi 2,.h 13,.h 14,.raw (.int .u16 0),.raw (.int .u16 0),.bs 15 0 6 6,.h 16,.h 17,zi 1,bf,z0,x0,bf,bf,bf] 285, .rw 215 3 1 false [z0,z0,.h 18], ob18, ob1, .rw 34 1 1 false [.h 19], ob3, ob4, ob14, ob6, ob19, .mv .i64 false 1 [[0]] [.h 16] [0] 1, ob20, .box [z0,.h 20] 525, ob22, ob22, ob17, ob9],
  .tup [.raw (.int .i64 21), .raw (.bool true)],
  [.box [.h 1,.h 2,.h 3,.ifc 173 [.h 4],.vs 21 3 0 0 0 none,zi 1,.h 22] 123, ob61, ob62, .box [.h 1,zi 2,wi 22280167936,wi 4294992384,.raw (.int .u8 15),zi 1,z0,.h 23,.h 24,y0,.raw (.int .u8 1),.ifc 176 [.h 25],ni,ni,ni,ni,ni,ni,ni,ni,ni,ni,ni,ni,ni,ni,ni,bf,bf,bf,bf,bf,bf,bf,bf,bf,bf,bf,bf,bf,bf,bf,bf] 202, .box [.h 1,bf,zi 2,wi 4096,wi 4128,wi 4140,bf,bf,bf,wi 16384,zi 2,.vs 26 1 0 0 2 (some 2),.h 14,.raw (.int .u16 1),.raw (.int .u16 1),.bs 27 1 0 0,.h 16,.h 17,zi 2,bf,z0,xi 1,bf,bt,bf] 285, .rw 215 3 1 false [z0,z0,.h 18], .gone, ob1, .rw 34 1 1 false [.h 19], ob3, ob4, ob14, ob6, ob19, ob52, ob20, .box [z0,.h 20] 525, ob22, ob22, ob51, ob9, ob57, ob58, ob14, ob6, .box [.h 1,bf,zi 2,wi 4096,wi 4128,wi 4140,bf,bf,bf,.raw (.int .u16 1),.raw (.int .u16 1),.h 29,.raw .nilFunc,zi 4,bf,z0,nl,xi 1,bt,bt,bf] 291, ob9, ob63, ob60, ob52]⟩
def orc13_50 : List (Nat × Row CT) := [(fpR row12.args row12.os, row12)]
def sp13 : SpecT CT := (addS 50 (footS (orcF 50 orc13_50)) spX)
theorem sp13_ok : SpecTOk Tryz.prog sp13 := (addS_ok (footS_ok (orcF_ok (RowsOk.cons row12_ok RowsOk.nil))) spX_ok)
theorem row13_get : (fnB CT Tryz.prog sp13 noLs (fun _ _ => 200) 60 12 row13.args row13.os).get = bro (same2 row12.args row12.os row12) (some (row13.v, row13.os')) none := by kernel_rfl
theorem row13_ok : FnB Tryz.prog 12 row13.args row13.os (row13.v, row13.os') := fnB_ok plain mixed sp13_ok noLs_ok (row13_get.trans (by rw [same2_self row12]; rfl))
def row14 : Row CT := ⟨[.h 0, .agg [zi 1,.h 1,z0,x0]],
  [.box [.h 2,bf,zi 2,wi 4096,wi 4128,wi 4140,.ifc 173 [.h 3],.ifc 176 [.h 4],.h 5,bf,bf,nl,.h 6,.h 7,.h 8,z0,wi 8192,bf,bf,bf] 165, ob64, ob65, .box [.h 2,bf,zi 2,wi 4096,wi 4128,wi 4140,bf,bf,bf,w0,zi 2,.h 11,.h 12,.raw (.int .u16 0),.raw (.int .u16 0),nl,.raw (.pointer none),nl,z0,bf,z0,x0,bf,bf,bf] 285, ob66, ob8, .mp .i64 3 ([] : List (Int × Int)), ob9, ob10, ob1, ob16, ob9, ob10, ob10, ob11],
  .tup [.agg [.raw (.int .i64 0), .raw (.int .i64 0), .raw (.int .i64 0)], .raw (.int .i64 0)],
  [.box [.h 2,bf,zi 2,wi 4096,wi 4128,wi 4140,.ifc 173 [.h 3],.ifc 176 [.h 4],.h 5,bf,bf,.h 15,.h 6,.h 16,.h 8,zi 1,wi 8192,bf,bf,bf] 165, ob64, ob65, .box [.h 2,bf,zi 2,wi 4096,wi 4128,wi 4140,bf,bf,bf,w0,zi 2,.h 17,.h 12,.raw (.int .u16 0),.raw (.int .u16 0),.bs 18 0 6 6,.h 19,.h 20,zi 1,bf,z0,x0,bf,bf,bf] 285, ob66, ob8, ob67, ob9, .mv .i64 false 1 [[0]] [.h 21] [0] 1, ob1, ob16, ob9, .mv .i64 false 1 [[0]] [.h 19] [0] 1, ob10, ob11, ob68, ob69, ob69, .box [.fn 399 1 [.h 3],.fn 400 1 [.h 3],.fn 401 1 [.h 3],.fn 402 1 [.h 3],.fn 401 1 [.h 3],.fn 403 1 [.h 3]] 527, ob21, ob70, ob71, ob71]⟩
theorem row14_get : (fnB CT Tryz.prog spX noLs (fun _ _ => 200) 60 24 row14.args row14.os).get = some (row14.v, row14.os') := by kernel_rfl
theorem row14_ok : FnB Tryz.prog 24 row14.args row14.os (row14.v, row14.os') := fnB_ok plain mixed spX_ok noLs_ok row14_get
end
end Go.Proofs.YtfgbhgeppdffaaaGreat
namespace Go.Proofs.YtfgbhgeppdffaaaGreat
open Go Go.Sx Go.RowKit
set_option maxRecDepth 1000000
set_option maxHeartbeats 8000000
set_option linter.unusedVariables false
noncomputable section
theorem opIn_v {F : Fence} {n : Nat} {P : Program} {o : Oper} {a : Act} {w w' : World} {K : Act → World → Prop} {Q : Exit → Act → World → Prop} {v : Value} (hd : ∀ c, o.op ≠ .defer c) (hc : ∀ c, o.op ≠ .call c)
    (h : (execOp a.eval o).run P w = .ok (.value v) w') (hk : K (a.put o.dst v) w') : o.wpIn F n P a w K Q := by
  refine ⟨fun f hf => ?_, ?_⟩
  · unfold Oper.about at hf
    split at hf
    · rename_i c ho; exact absurd ho (hc _)
    · cases hf
  · rw [Oper.semAt_eq _ _ _ hd, h]; exact hk
theorem opIn_s {F : Fence} {n : Nat} {P : Program} {o : Oper} {a : Act} {w w' : World} {K : Act → World → Prop} {Q : Exit → Act → World → Prop} (hd : ∀ c, o.op ≠ .defer c) (hc : ∀ c, o.op ≠ .call c)
    (h : (execOp a.eval o).run P w = .ok .skip w') (hk : K (a.put o.dst undef) w') : o.wpIn F n P a w K Q := by
  refine ⟨fun f hf => ?_, ?_⟩
  · unfold Oper.about at hf
    split at hf
    · rename_i c ho; exact absurd ho (hc _)
    · cases hf
  · rw [Oper.semAt_eq _ _ _ hd, h]; exact hk
noncomputable def rb0 : Oper := (regO (inBl (rfB kR))).toList[0]!
noncomputable def rb1 : Oper := (regO (inBl (rfB kR))).toList[1]!
noncomputable def rb2 : Oper := (regO (inBl (rfB kR))).toList[2]!
theorem rb_eq : rfB kR = .block 1 (.region 5 [rb0, rb1, rb2].toArray false) := by kernel_rfl
theorem rb0_op : rb0.op = .load 3 (.tmp 6) := by kernel_rfl
theorem rb1_op : rb1.op = .binOp .add 3 (.tmp 13) (.const (.int .i64 1)) 3 := by kernel_rfl
theorem rb2_op : rb2.op = .store 3 (.tmp 6) (.tmp 14) := by kernel_rfl
theorem rb0_dst : rb0.dst = some 13 ∧ rb0.guard = none := ⟨by kernel_rfl, by kernel_rfl⟩
theorem rb1_dst : rb1.dst = some 14 ∧ rb1.guard = none := ⟨by kernel_rfl, by kernel_rfl⟩
theorem rb2_dst : rb2.dst = none ∧ rb2.guard = none := ⟨by kernel_rfl, by kernel_rfl⟩
theorem sz3 : szOf Tryz.prog 3 = some 1 := by kernel_rfl
theorem load3 {w : World} {B : Nat} {i : Int} (hB : w.heap[B]? = some (.cells #[.int .i64 i] 3 (0, 0))) : (Instr.loadAt 3 (.pointer (some ⟨B, 0, none⟩))).run Tryz.prog w = .ok (.int .i64 i) w := by
  have hc : w.cell? ⟨B, 0, none⟩ = some (.int .i64 i) := by simp [World.cell?, hB]
  simp [Instr.loadAt, Instr.sureAddr, loadVar, isAgg, und3, hc, go_sem]
theorem store3 {w : World} {B : Nat} {i j : Int} (hB : w.heap[B]? = some (.cells #[.int .i64 i] 3 (0, 0))) : (Instr.storeAt 3 (.pointer (some ⟨B, 0, none⟩)) (.int .i64 j)).run Tryz.prog w = .ok () (w.setRow B #[.int .i64 j]) := by
  have := storeAt_run (P := Tryz.prog) (w := w) (t := 3) (g := B) (o := 0) (v := .int .i64 j) sz3 hB (by simp [Value.cells]) (by simp [Value.cells, Value.oneCell'])
  simpa [Value.cells] using this
theorem body_in {F : Fence} {n l B : Nat} {Q : Exit → Act → World → Prop} {a : Act} {w : World} (h6 : a.tmps[6]? = some (.pointer (some ⟨B, 0, none⟩))) (hN : a.tmps.size = 21) (hB : w.heap[B]? = some (.cells #[.int .i64 0] 3 (0, 0)))
    (hQ : ∀ a', Q .normal a' (w.setRow B #[.int .i64 1])) : (rfB kR).wpIn F n Tryz.prog Q a w := by
  rw [rb_eq]
  refine wpIn_block (wpIn_region_lit (wpListIn_plain rb0_dst.2 fun K1 hK1 => ?_))
  refine opIn_v (v := .int .i64 0) (w' := w) (fun c => by rw [rb0_op]; nofun) (fun c => by rw [rb0_op]; nofun) ?_ (hK1 _ _ (wpListIn_plain rb1_dst.2 fun K2 hK2 => ?_))
  · unfold execOp
    rw [rb0_op]
    have e : a.eval (.tmp 6) = .pointer (some ⟨B, 0, none⟩) := by show a.tmps.getD 6 undef = _; rw [Array.getD_eq_getD_getElem?, h6]; rfl
    simp only [e, Sem.run_bind, load3 hB, Result.andThen_ok, Sem.run_pure]
  rw [rb0_dst.1]
  refine opIn_v (v := .int .i64 1) (w' := w) (fun c => by rw [rb1_op]; nofun) (fun c => by rw [rb1_op]; nofun) ?_ (hK2 _ _ (wpListIn_plain rb2_dst.2 fun K3 hK3 => ?_))
  · unfold execOp
    rw [rb1_op]
    have e : (a.put (some 13) (.int .i64 0)).eval (.tmp 13) = .int .i64 0 := by
      show (a.tmps.setIfInBounds 13 (.int .i64 0)).getD 13 undef = _
      rw [Array.getD_eq_getD_getElem?, Array.getElem?_setIfInBounds]; simp [hN]
    have e' : (a.put (some 13) (.int .i64 0)).eval (.const (.int .i64 1)) = .int .i64 1 := rfl
    simp only [e, e']
    simp [binOp, Op.intArith, eqGuard, go_sem, IntKind.wrap]
  rw [rb1_dst.1]
  refine opIn_s (w' := w.setRow B #[.int .i64 1]) (fun c => by rw [rb2_op]; nofun) (fun c => by rw [rb2_op]; nofun) ?_ (hK3 _ _ ?_)
  · unfold execOp
    rw [rb2_op]
    have e6 : ((a.put (some 13) (.int .i64 0)).put (some 14) (.int .i64 1)).eval (.tmp 6) = .pointer (some ⟨B, 0, none⟩) := by
      show ((a.tmps.setIfInBounds 13 (.int .i64 0)).setIfInBounds 14 (.int .i64 1)).getD 6 undef = _
      rw [Array.getD_eq_getD_getElem?, Array.getElem?_setIfInBounds, Array.getElem?_setIfInBounds]; simp [h6]
    have e14 : ((a.put (some 13) (.int .i64 0)).put (some 14) (.int .i64 1)).eval (.tmp 14) = .int .i64 1 := by
      show ((a.tmps.setIfInBounds 13 (.int .i64 0)).setIfInBounds 14 (.int .i64 1)).getD 14 undef = _
      rw [Array.getD_eq_getD_getElem?, Array.getElem?_setIfInBounds]; simp [hN]
    simp only [e6, e14, Sem.run_bind, store3 hB, Result.andThen_ok, Sem.run_pure]
  · exact hQ _
noncomputable def ya : Oper := (regO q4).toList[0]!
noncomputable def yb : Oper := (regO q4).toList[1]!
noncomputable def yc : Oper := (regO q4).toList[2]!
noncomputable def yd : Oper := (regO q4).toList[3]!
noncomputable def ycC : Call := match yc.op with
  | .call c => c
  | _ => default
theorem q4_eq : q4 = .region 4 [ya, yb, yc, yd].toArray false := by kernel_rfl
theorem ya_op : ya.op = .move (.tmp 0) := by kernel_rfl
theorem yb_op : yb.op = .move (.tmp 4) := by kernel_rfl
theorem yc_op : yc.op = .call ycC := by kernel_rfl
theorem ycC_1 : ycC.callee = .value (.tmp 19) := by kernel_rfl
theorem ycC_2 : ycC.args = #[.tmp 20] := by kernel_rfl
theorem yd_op : yd.op = .unOp .not 4 (.tmp 21) := by kernel_rfl
theorem ya_dst : ya.dst = some 19 ∧ ya.guard = none := ⟨by kernel_rfl, by kernel_rfl⟩
theorem yb_dst : yb.dst = some 20 ∧ yb.guard = none := ⟨by kernel_rfl, by kernel_rfl⟩
theorem yc_dst : yc.dst = some 21 ∧ yc.guard = none := ⟨by kernel_rfl, by kernel_rfl⟩
theorem yd_dst : yd.dst = some 22 ∧ yd.guard = none := ⟨by kernel_rfl, by kernel_rfl⟩
theorem eval_at {a : Act} {t : Nat} {v : Value} (h : a.tmps[t]? = some v) : a.eval (.tmp t) = v := by
  show a.tmps.getD t undef = v
  rw [Array.getD_eq_getD_getElem?, h]; rfl
theorem putT_at {a : Act} {d : Nat} {v : Value} (h : d < a.tmps.size) : (a.put (some d) v).tmps[d]? = some v := by
  show (a.tmps.setIfInBounds d v)[d]? = some v
  rw [Array.getElem?_setIfInBounds]; simp [h]
theorem putT_ne {a : Act} {d t : Nat} {v : Value} (h : t ≠ d) : (a.put (some d) v).tmps[t]? = a.tmps[t]? := by
  show (a.tmps.setIfInBounds d v)[t]? = _
  exact Array.getElem?_setIfInBounds_ne (Ne.symm h)
theorem putT_size {a : Act} {d : Nat} {v : Value} : (a.put (some d) v).tmps.size = a.tmps.size := by
  show (a.tmps.setIfInBounds d v).size = _
  simp
theorem q4_in {n l : Nat} {Q : Exit → Act → World → Prop} {a : Act} {w : World} {f : FuncId} {tmps : Array Value} {asg bod : Code} {G : World → Prop} (h0 : a.tmps[0]? = some (.func (.yield l) #[] #[])) (h4 : a.tmps[4]? = some (.int .i64 0)) (hN : a.tmps.size = 23)
    (hy : (Instr.yield l #[.int .i64 0]).run Tryz.prog w = .ok (.round l f tmps asg bod) w) (hr : RoundIn Fence.wide (n - 1) Tryz.prog l f tmps asg bod w fun e w' => e = .returned (.bool true) ∧ G w')
    (hQ : ∀ a' w', G w' → a'.tmps.size = 23 → a'.defers = a.defers → (∀ t, t < 19 → a'.tmps[t]? = a.tmps[t]?) → a'.tmps[22]? = some (.bool false) → Q .normal a' w') : q4.wpIn Fence.wide n Tryz.prog Q a w := by
  rw [q4_eq]
  refine wpIn_region_lit (wpListIn_plain ya_dst.2 fun K1 hK1 => ?_)
  refine opIn_v (v := .func (.yield l) #[] #[]) (w' := w) (fun c => by rw [ya_op]; nofun) (fun c => by rw [ya_op]; nofun) (by unfold execOp; rw [ya_op]; simp only [eval_at h0, Sem.run_pure]) (hK1 _ _ (wpListIn_plain yb_dst.2 fun K2 hK2 => ?_))
  rw [ya_dst.1]
  have g4 : (a.put (some 19) (.func (.yield l) #[] #[])).tmps[4]? = some (.int .i64 0) := (putT_ne (by decide)).trans h4
  refine opIn_v (v := .int .i64 0) (w' := w) (fun c => by rw [yb_op]; nofun) (fun c => by rw [yb_op]; nofun) (by unfold execOp; rw [yb_op]; simp only [eval_at g4, Sem.run_pure]) (hK2 _ _ (wpListIn_plain yc_dst.2 fun K3 hK3 => ?_))
  rw [yb_dst.1]
  obtain ⟨a2, ha2⟩ : ∃ a2, (a.put (some 19) (.func (.yield l) #[] #[])).put (some 20) (.int .i64 0) = a2 := ⟨_, rfl⟩
  rw [ha2]
  have s2 : a2.tmps.size = 23 := by rw [← ha2, putT_size, putT_size]; exact hN
  have k19 : a2.tmps[19]? = some (.func (.yield l) #[] #[]) := by rw [← ha2]; exact (putT_ne (by decide)).trans (putT_at (by omega))
  have k20 : a2.tmps[20]? = some (.int .i64 0) := by rw [← ha2]; exact putT_at (by rw [putT_size]; omega)
  have kold : ∀ t, t < 19 → a2.tmps[t]? = a.tmps[t]? := fun t ht => by rw [← ha2]; exact (putT_ne (by omega)).trans (putT_ne (by omega))
  have kd : a2.defers = a.defers := by rw [← ha2]; rfl
  have hres : (resolve a2.eval ycC yc.type).run Tryz.prog w = .ok { target := .fn (.yield l) #[], args := #[.int .i64 0] } w := by
    unfold resolve
    rw [ycC_1, ycC_2]
    simp only [eval_at k19, List.map_toArray, List.map_cons, List.map_nil, eval_at k20]
    simp [Deferred.ofValue]
  refine ⟨fun _ _ => trivial, ?_⟩
  have hex : (yc.semAt Fence.wide.round a2.eval).run Tryz.prog w = .ok (.round l f tmps asg bod) w := by
    rw [Oper.semAt_eq _ _ _ (fun c => by rw [yc_op]; nofun)]
    unfold execOp
    rw [yc_op]
    simp only [Sem.run_bind, hres, Result.andThen_ok, invoke]
    exact hy
  rw [hex]
  refine ⟨fun h => by simp [Fence.wide] at h, hr.mono ?_⟩
  rintro e w' ⟨rfl, hg⟩
  refine hK3 _ _ (wpListIn_plain yd_dst.2 fun K4 hK4 => ?_)
  rw [yc_dst.1]
  have k21 : (a2.put (some 21) (.bool true)).tmps[21]? = some (.bool true) := putT_at (by omega)
  refine opIn_v (v := .bool false) (w' := w') (fun c => by rw [yd_op]; nofun) (fun c => by rw [yd_op]; nofun) (by unfold execOp; rw [yd_op]; simp only [eval_at k21]; simp [Op.unary]) (hK4 _ _ ?_)
  rw [yd_dst.1]
  exact hQ _ _ hg (by rw [putT_size, putT_size]; exact s2) kd (fun t ht => (putT_ne (by omega)).trans ((putT_ne (by omega)).trans (kold t ht))) (putT_at (by rw [putT_size]; omega))
theorem round_in {n l D B fn : Nat} {w : World} {tmps : Array Value} {r : LoopState → Option Code → Loop} (hr : r = fun st pe => { state := st, pending := pe, fn := fn, tmps := tmps, params := #[12], assign := .skip, body := rfB kR, defers := D })
    (h6 : tmps[6]? = some (.pointer (some ⟨B, 0, none⟩))) (hN : tmps.size = 21) (hB : w.heap[B]? = some (.cells #[.int .i64 0] 3 (0, 0))) (hl : w.heap[l]? = some (.loop (r .ready none))) (hlB : l ≠ B) :
    (Instr.yield l #[.int .i64 0]).run Tryz.prog w = .ok (.round l fn (tmps.setIfInBounds 12 (.int .i64 0)) .skip (rfB kR)) w ∧
    RoundIn Fence.wide n Tryz.prog l fn (tmps.setIfInBounds 12 (.int .i64 0)) .skip (rfB kR) w fun e w' => e = .returned (.bool true) ∧ w'.heap.size = w.heap.size ∧ w'.os = w.os ∧ w'.tape = w.tape ∧ w'.output = w.output ∧
      w'.heap[B]? = some (.cells #[.int .i64 1] 3 (0, 0)) ∧ w'.heap[l]? = some (.loop (r .ready none)) ∧ ∀ b, b ≠ B → b ≠ l → w'.heap[b]? = w.heap[b]? := by
  have hlt : l < w.heap.size := (Array.getElem?_eq_some_iff.1 hl).1
  have hBt : B < w.heap.size := (Array.getElem?_eq_some_iff.1 hB).1
  have hy := run_yield (P := Tryz.prog) (args := #[.int .i64 0]) hl (by rw [hr]; rfl)
  refine ⟨by subst hr; simpa using hy, roundIn_of_wpIn trivial (wpIn_skip ⟨_, run_beginRound hl (by rw [hr]), ?_⟩)⟩
  refine body_in (l := l) (B := B) (by show (tmps.setIfInBounds 12 _)[6]? = _; rw [Array.getElem?_setIfInBounds_ne (by decide)]; exact h6) (by show (tmps.setIfInBounds 12 _).size = _; simpa using hN) ((World.putObj_heap_other (Ne.symm hlB)).trans hB) fun a' => ?_
  obtain ⟨W2, hW2⟩ : ∃ W2, (w.putObj l (.loop { r .ready none with state := .busy })).setRow B #[.int .i64 1] = W2 := ⟨_, rfl⟩
  rw [hW2]
  have e1 : W2.heap.size = w.heap.size := by rw [← hW2]; simp [World.setRow]
  have e2 : W2.heap[l]? = some (.loop { r .ready none with state := .busy }) := by
    rw [← hW2]
    have : ((w.putObj l (.loop { r .ready none with state := .busy })).setRow B #[.int .i64 1]).heap[l]? = (w.putObj l (.loop { r .ready none with state := .busy })).heap[l]? := setRow_other _ _ _ _ hlB
    rw [this]; exact World.putObj_heap_same hlt
  have e3 : W2.heap[B]? = some (.cells #[.int .i64 1] 3 (0, 0)) := by
    rw [← hW2]
    exact setRow_heap _ _ _ _ _ _ ((World.putObj_heap_other (Ne.symm hlB)).trans hB)
  have e4 : ∀ b, b ≠ B → b ≠ l → W2.heap[b]? = w.heap[b]? := fun b h1 h2 => by
    rw [← hW2]
    exact (setRow_other _ _ _ _ h1).trans (World.putObj_heap_other h2)
  refine ⟨_, _, run_endRound none e2, by rfl, ?_, ?_, ?_, ?_, ?_, ?_, ?_⟩
  · rw [World.putObj_size]; exact e1
  · rw [← hW2]; rfl
  · rw [← hW2]; rfl
  · rw [← hW2]; rfl
  · exact (World.putObj_heap_other (Ne.symm hlB)).trans e3
  · rw [World.putObj_heap_same (by omega), hr]; rfl
  · exact fun b h1 h2 => (World.putObj_heap_other h2).trans (e4 b h1 h2)
end
end Go.Proofs.YtfgbhgeppdffaaaGreat
namespace Go.Proofs.YtfgbhgeppdffaaaGreat
open Go Go.Sx Go.RowKit
set_option maxRecDepth 1000000
set_option maxHeartbeats 8000000
noncomputable section
def row15 : Row CT := ⟨[.h 0],
  [ob72, ob65, ob73, ob74, ob8, ob68, ob67, ob69, ob29, ob1, ob75, ob69, ob76, ob77, ob78, ob70, ob10, ob71, ob11, ob71],
  .agg [.h 20],
  [ob72, ob65, ob73, ob74, ob8, ob68, ob67, ob69, ob29, ob1, ob75, ob69, ob76, ob77, ob78, ob70, ob10, ob71, ob11, ob71, .sl true false 302 ([(0,1,0)] : List (Int × Int × Int))]⟩
theorem row15_get : (fnB CT Tryz.prog spX noLs (fun _ _ => 200) 60 28 row15.args row15.os).get = some (row15.v, row15.os') := by kernel_rfl
theorem row15_ok : FnB Tryz.prog 28 row15.args row15.os (row15.v, row15.os') := fnB_ok plain mixed spX_ok noLs_ok row15_get
def row16 : Row CT := ⟨[.h 0],
  [ob72, ob65, ob73, ob74, ob8, ob68, ob67, ob69, ob29, ob1, ob75, ob69, ob76, ob77, ob78, ob70, ob10, ob71, ob11, ob71],
  .tup [.raw (.int .i64 1), .raw (.int .i64 0)],
  [ob79, ob65, ob80, ob81, ob8, .gone, ob67, ob69, ob52, ob1, ob75, ob69, ob52, ob77, ob78, ob70, ob52, ob71, ob82, ob71, ob83, ob9, ob9, ob84]⟩
theorem row16_get : (fnB CT Tryz.prog spX noLs (fun _ _ => 200) 60 137 row16.args row16.os).get = some (row16.v, row16.os') := by kernel_rfl
theorem row16_ok : FnB Tryz.prog 137 row16.args row16.os (row16.v, row16.os') := fnB_ok plain mixed spX_ok noLs_ok row16_get
def row23 : Row CT := ⟨[.h 0],
  [ob72, ob65, ob92, ob81, ob8, ob83, ob67, ob9, ob52, ob1, .rw 34 1 1 false [.h 17], ob9, ob52, ob84, .box [z0,.h 18] 525, ob70, ob52, ob82, ob71],
  .agg [.vs 19 3 0 0 0 none],
  [ob72, ob65, ob92, ob81, ob8, ob83, ob67, ob9, ob52, ob1, .rw 34 1 1 false [.h 17], ob9, ob52, ob84, .box [z0,.h 18] 525, ob70, ob52, ob82, ob71, ob85]⟩
theorem row23_get : (fnB CT Tryz.prog spX noLs (fun _ _ => 200) 60 28 row23.args row23.os).get = some (row23.v, row23.os') := by kernel_rfl
theorem row23_ok : FnB Tryz.prog 28 row23.args row23.os (row23.v, row23.os') := fnB_ok plain mixed spX_ok noLs_ok row23_get
end
end Go.Proofs.YtfgbhgeppdffaaaGreat
namespace Go.Proofs.YtfgbhgeppdffaaaGreat
open Go Go.Sx Go.RowKit
set_option maxRecDepth 1000000
set_option maxHeartbeats 8000000
set_option linter.unusedVariables false
noncomputable section
def row18 : Row CT := ⟨[.h 0, .raw (.int .i64 5)],
  [.box [.h 1, .raw (.bool false), .raw (.int .i64 2), .raw (.int .u64 4096), .raw (.int .u64 4128), .raw (.int .u64 4140), .ifc 173 [.h 2], .ifc 176 [.h 3], .h 4, .raw (.bool false), .raw (.bool false), .h 5, .h 6, .h 7, .h 8, .raw (.int .i64 1), .raw (.int .u64 8192), .raw (.bool false), .raw (.bool false), .raw (.bool false)] 165,
  .box [.h 9, .h 10] 138,
  .box [.h 1, .raw (.bool false), .raw (.int .i64 2), .raw (.int .u64 4096), .raw (.int .u64 4128), .raw (.int .u64 4140), .raw (.bool false), .raw (.bool false), .raw (.bool false), .raw (.int .u64 0), .raw (.int .i64 2), .h 11, .h 12, .raw (.int .u16 0), .raw (.int .u16 0), .bs 13 0 6 6, .h 14, .h 15, .raw (.int .i64 1), .raw (.bool false), .raw (.int .i64 0), .raw (.int .u32 0), .raw (.bool false), .raw (.bool false), .raw (.bool false)] 285,
  .box [.h 1, .raw (.bool false), .raw (.int .i64 2), .raw (.int .u64 4096), .raw (.int .u64 4128), .raw (.int .u64 4140), .raw (.bool false), .raw (.bool false), .raw (.bool false), .raw (.int .u16 0), .raw (.int .u16 0), .h 16, .raw .nilFunc, .raw (.int .i64 0), .raw (.bool false), .raw (.int .i64 0), .raw (.slice none 0 0), .raw (.int .u32 0), .raw (.bool false), .raw (.bool false), .raw (.bool false)] 291,
  .mv .i64 false 1 [[1], [2], [3], [4], [5], [6]] [.fn 72 1 [.h 0], .fn 73 1 [.h 0], .fn 74 1 [.h 0], .fn 75 1 [.h 0], .fn 76 1 [.h 0], .fn 77 1 [.h 0]] [0, 1, 2, 3, 4, 5] 6,
  .sl true false 97 ([(1, 0, 0)] : List (Int × Int × Int)),
  .mp .i64 3 ([(0, 0)] : List (Int × Int)),
  .sl true false 3 ([1] : List (Int)),
  .mv .i64 false 1 [[0]] [.h 17] [0] 1,
  .sl true false 58 ([(0, 524288)] : List (Int × Int)),
  .rw 34 1 1 false [.h 18],
  .sl true false 3 ([1] : List (Int)),
  .mv .i64 false 1 [[0]] [.h 14] [0] 1,
  .box [.fn 399 1 [.h 2], .fn 400 1 [.h 2], .fn 401 1 [.h 2], .fn 402 1 [.h 2], .fn 401 1 [.h 2], .fn 403 1 [.h 2]] 527,
  .box [.raw (.int .i64 0), .h 19] 525,
  .sl true false 101 ([(8192, 4, false)] : List (Int × Int × Bool)),
  .mv .i64 false 1 [] [] [] 0,
  .sl true false 3 ([0] : List (Int)),
  .mem 5 524288 (wrM (wrM (wrM (wrM (wrM (wrM (fun _ => 0) 4128 [0]) 4129 [0]) 4130 [0]) 4131 [0]) 4136 [0]) 4137 [0]),
  .sl true false 3 ([0] : List (Int))],
  .tup [.raw (.int .i64 1), .raw (.bool true)],
  [.box [.h 1, .raw (.bool false), .raw (.int .i64 2), .raw (.int .u64 4096), .raw (.int .u64 4128), .raw (.int .u64 4140), .ifc 173 [.h 2], .ifc 176 [.h 3], .h 4, .raw (.bool false), .raw (.bool false), .h 20, .h 6, .h 21, .h 8, .raw (.int .i64 1), .raw (.int .u64 8192), .raw (.bool false), .raw (.bool false), .raw (.bool false)] 165,
  .box [.h 9, .h 10] 138,
  .box [.h 1, .raw (.bool false), .raw (.int .i64 2), .raw (.int .u64 4096), .raw (.int .u64 4128), .raw (.int .u64 4140), .raw (.bool false), .raw (.bool false), .raw (.bool false), .raw (.int .u64 0), .raw (.int .i64 2), .h 22, .h 12, .raw (.int .u16 1), .raw (.int .u16 1), .bs 23 1 0 0, .h 14, .h 15, .raw (.int .i64 2), .raw (.bool false), .raw (.int .i64 0), .raw (.int .u32 0), .raw (.bool false), .raw (.bool true), .raw (.bool false)] 285,
  .box [.h 1, .raw (.bool false), .raw (.int .i64 2), .raw (.int .u64 4096), .raw (.int .u64 4128), .raw (.int .u64 4140), .raw (.bool false), .raw (.bool false), .raw (.bool false), .raw (.int .u16 1), .raw (.int .u16 1), .h 16, .raw .nilFunc, .raw (.int .i64 4), .raw (.bool false), .raw (.int .i64 0), .raw (.slice none 0 0), .raw (.int .u32 0), .raw (.bool true), .raw (.bool true), .raw (.bool false)] 291,
  .mv .i64 false 1 [[1], [2], [3], [4], [5], [6]] [.fn 72 1 [.h 0], .fn 73 1 [.h 0], .fn 74 1 [.h 0], .fn 75 1 [.h 0], .fn 76 1 [.h 0], .fn 77 1 [.h 0]] [0, 1, 2, 3, 4, 5] 6,
  .gone,
  .mp .i64 3 ([(0, 0)] : List (Int × Int)),
  .sl true false 3 ([1] : List (Int)),
  .mv .i64 false 1 [] [] [] 1,
  .sl true false 58 ([(0, 524288)] : List (Int × Int)),
  .rw 34 1 1 false [.h 18],
  .sl true false 3 ([1] : List (Int)),
  .mv .i64 false 1 [] [] [] 1,
  .box [.fn 399 1 [.h 2], .fn 400 1 [.h 2], .fn 401 1 [.h 2], .fn 402 1 [.h 2], .fn 401 1 [.h 2], .fn 403 1 [.h 2]] 527,
  .box [.raw (.int .i64 0), .h 19] 525,
  .sl true false 101 ([(8192, 4, false)] : List (Int × Int × Bool)),
  .mv .i64 false 1 [] [] [] 1,
  .sl true false 3 ([0] : List (Int)),
  .mem 5 524288 (wrM (wrM (wrM (wrM (wrM (wrM (wrM (wrM (wrM (wrM (wrM (wrM (wrM (wrM (wrM (wrM (wrM (wrM (wrM (wrM (wrM (fun _ => 0) 4128 [0]) 4129 [0]) 4130 [0]) 4131 [0]) 4136 [0]) 4137 [0]) 4096 [0, 32, 0, 0, 0, 0, 0, 0, 4, 0, 0, 0, 0, 0, 0, 0]) 4132 [0]) 4133 [0]) 4130 [1]) 4131 [0]) 4144 [0]) 4145 [0]) 4146 [0]) 4147 [0]) 4148 [0]) 4149 [0]) 4150 [0]) 4151 [0]) 4142 [1]) 4143 [0]),
  .sl true false 3 ([0] : List (Int)),
  .sl true false 97 ([(1, 0, 0), (2, 0, 0), (3, 0, 0), (4, 0, 0)] : List (Int × Int × Int)),
  .sl true false 3 ([0, 1] : List (Int)),
  .sl true false 3 ([0, 1] : List (Int)),
  .box [.fn 401 1 [.h 2], .fn 413 1 [.h 2]] 527]⟩
def orcT : List (Nat × Row CT) := [(fpR row15.args row15.os, row15), (fpR row23.args row23.os, row23)]
def orcR : List (Nat × Row CT) := [(fpR row16.args row16.os, row16)]
def spDr : SpecT CT := addS 137 (footS (orcF 137 orcR)) (addS 28 (footS (orcF 28 orcT)) spX)
theorem spDr_ok : SpecTOk Tryz.prog spDr := addS_ok (footS_ok (orcF_ok (RowsOk.cons row16_ok RowsOk.nil))) (addS_ok (footS_ok (orcF_ok (RowsOk.cons row15_ok (RowsOk.cons row23_ok RowsOk.nil)))) spX_ok)
def oA : List (SO CT) := row18.os ++ [.box [.raw (.int .i64 0)] 3]
def oB : List (SO CT) := oA ++ [.box [.raw (.int .i64 5)] 3, .box [.h 0] 75]
def oC : List (SO CT) := row18.os ++ [.box [.raw (.int .i64 5)] 3, .box [.h 0] 75]
def oD : List (SO CT) := [.box [.h 1, .raw (.bool false), .raw (.int .i64 2), .raw (.int .u64 4096), .raw (.int .u64 4128), .raw (.int .u64 4140), .ifc 173 [.h 2], .ifc 176 [.h 3], .h 4, .raw (.bool false), .raw (.bool false), .h 22, .h 6, .h 23, .h 8, .raw (.int .i64 1), .raw (.int .u64 8192), .raw (.bool false), .raw (.bool false), .raw (.bool false)] 165,
  .box [.h 9, .h 10] 138,
  .box [.h 1, .raw (.bool false), .raw (.int .i64 2), .raw (.int .u64 4096), .raw (.int .u64 4128), .raw (.int .u64 4140), .raw (.bool false), .raw (.bool false), .raw (.bool false), .raw (.int .u64 0), .raw (.int .i64 2), .h 24, .h 12, .raw (.int .u16 1), .raw (.int .u16 1), .bs 25 1 0 0, .h 14, .h 15, .raw (.int .i64 2), .raw (.bool false), .raw (.int .i64 0), .raw (.int .u32 0), .raw (.bool false), .raw (.bool true), .raw (.bool false)] 285,
  .box [.h 1, .raw (.bool false), .raw (.int .i64 2), .raw (.int .u64 4096), .raw (.int .u64 4128), .raw (.int .u64 4140), .raw (.bool false), .raw (.bool false), .raw (.bool false), .raw (.int .u16 1), .raw (.int .u16 1), .h 16, .raw .nilFunc, .raw (.int .i64 4), .raw (.bool false), .raw (.int .i64 0), .raw (.slice none 0 0), .raw (.int .u32 0), .raw (.bool true), .raw (.bool true), .raw (.bool false)] 291,
  .mv .i64 false 1 [[1], [2], [3], [4], [5], [6]] [.fn 72 1 [.h 0], .fn 73 1 [.h 0], .fn 74 1 [.h 0], .fn 75 1 [.h 0], .fn 76 1 [.h 0], .fn 77 1 [.h 0]] [0, 1, 2, 3, 4, 5] 6,
  .gone,
  .mp .i64 3 ([(0, 0)] : List (Int × Int)),
  .sl true false 3 ([1] : List (Int)),
  .mv .i64 false 1 [] [] [] 1,
  .sl true false 58 ([(0, 524288)] : List (Int × Int)),
  .rw 34 1 1 false [.h 18],
  .sl true false 3 ([1] : List (Int)),
  .mv .i64 false 1 [] [] [] 1,
  .box [.fn 399 1 [.h 2], .fn 400 1 [.h 2], .fn 401 1 [.h 2], .fn 402 1 [.h 2], .fn 401 1 [.h 2], .fn 403 1 [.h 2]] 527,
  .box [.raw (.int .i64 0), .h 19] 525,
  .sl true false 101 ([(8192, 4, false)] : List (Int × Int × Bool)),
  .mv .i64 false 1 [] [] [] 1,
  .sl true false 3 ([0] : List (Int)),
  .mem 5 524288 (wrM (wrM (wrM (wrM (wrM (wrM (wrM (wrM (wrM (wrM (wrM (wrM (wrM (wrM (wrM (wrM (wrM (wrM (wrM (wrM (wrM (fun _ => 0) 4128 [0]) 4129 [0]) 4130 [0]) 4131 [0]) 4136 [0]) 4137 [0]) 4096 [0, 32, 0, 0, 0, 0, 0, 0, 4, 0, 0, 0, 0, 0, 0, 0]) 4132 [0]) 4133 [0]) 4130 [1]) 4131 [0]) 4144 [0]) 4145 [0]) 4146 [0]) 4147 [0]) 4148 [0]) 4149 [0]) 4150 [0]) 4151 [0]) 4142 [1]) 4143 [0]),
  .sl true false 3 ([0] : List (Int)),
  .box [.raw (.int .i64 5)] 3,
  .box [.h 0] 75,
  .sl true false 97 ([(1, 0, 0), (2, 0, 0), (3, 0, 0), (4, 0, 0)] : List (Int × Int × Int)),
  .sl true false 3 ([0, 1] : List (Int)),
  .sl true false 3 ([0, 1] : List (Int)),
  .box [.fn 401 1 [.h 2], .fn 413 1 [.h 2]] 527]
def oE : List (SO CT) := oD ++ [.box [.raw (.int .i64 1)] 3]
theorem p_k0 : (pieceL CT Tryz.prog spDr noLs (fun _ _ => 20) 20 26 21 k0 [0, 1] [0, 1] ⟨[.h 0, .raw (.int .i64 5)], 20, row18.os⟩).get = some (.normal, [.h 0, .raw (.int .i64 5)], row18.os) := by kernel_rfl
theorem p_k1 : (pieceL CT Tryz.prog spDr noLs (fun _ _ => 20) 20 26 21 k1 [0, 1] [0, 1] ⟨[.h 0, .raw (.int .i64 5)], 20, row18.os⟩).get = some (.normal, [.h 0, .raw (.int .i64 5)], row18.os) := by kernel_rfl
theorem p_k3 : (pieceL CT Tryz.prog spDr noLs (fun _ _ => 20) 20 26 21 k3 [0, 1] [0, 1, 6] ⟨[.h 0, .raw (.int .i64 5)], 20, row18.os⟩).get = some (.normal, [.h 0, .raw (.int .i64 5), .h 20], oA) := by kernel_rfl
theorem p_k4 : (pieceL CT Tryz.prog spDr noLs (fun _ _ => 20) 20 26 21 k4 [0, 1, 6] [0, 11, 6] ⟨[.h 0, .raw (.int .i64 5), .h 20], 21, oA⟩).get = some (.normal, [.h 0, .fn 136 0 [.h 21, .h 22], .h 20], oB) := by kernel_rfl
theorem p_q0 (l : Nat) : (pieceL CT Tryz.prog spDr noLs (fun _ _ => 20) 20 136 23 q0 [0, 1, 2] [0, 1, 2, 4] ⟨[.raw (.func (.yield l) #[] #[]), .h 20, .h 21], 22, oC⟩).get = some (.normal, [.raw (.func (.yield l) #[] #[]), .h 20, .h 21, .raw (.int .i64 0)], oC) := by kernel_rfl
theorem p_q1 (l : Nat) : (pieceL CT Tryz.prog spDr noLs (fun _ _ => 20) 20 136 23 q1 [0, 1, 2, 4] [0, 1, 2, 4] ⟨[.raw (.func (.yield l) #[] #[]), .h 20, .h 21, .raw (.int .i64 0)], 22, oC⟩).get = some (.normal, [.raw (.func (.yield l) #[] #[]), .h 20, .h 21, .raw (.int .i64 0)], oC) := (by kernel_rfl : (pieceL CT Tryz.prog spDr noLs (fun _ _ => 20) 20 136 23 q1 [0, 1, 2, 4] [0, 1, 2, 4] ⟨[.raw (.func (.yield l) #[] #[]), .h 20, .h 21, .raw (.int .i64 0)], 22, oC⟩).get = bro (same2 row15.args row15.os row15) (some (.normal, [.raw (.func (.yield l) #[] #[]), .h 20, .h 21, .raw (.int .i64 0)], oC)) none).trans (by rw [same2_self row15]; rfl)
theorem p_q3 (l : Nat) : (pieceL CT Tryz.prog spDr noLs (fun _ _ => 20) 20 136 23 q3 [0, 1, 2, 4] [0, 1, 2, 4] ⟨[.raw (.func (.yield l) #[] #[]), .h 20, .h 21, .raw (.int .i64 0)], 22, oC⟩).get = some (.normal, [.raw (.func (.yield l) #[] #[]), .h 20, .h 21, .raw (.int .i64 0)], oD) := (by kernel_rfl : (pieceL CT Tryz.prog spDr noLs (fun _ _ => 20) 20 136 23 q3 [0, 1, 2, 4] [0, 1, 2, 4] ⟨[.raw (.func (.yield l) #[] #[]), .h 20, .h 21, .raw (.int .i64 0)], 22, oC⟩).get = bro (same2 row16.args row16.os row16) (some (.normal, [.raw (.func (.yield l) #[] #[]), .h 20, .h 21, .raw (.int .i64 0)], oD)) none).trans (by rw [same2_self row16]; rfl)
theorem p_q5 (l : Nat) : (pieceL CT Tryz.prog spDr noLs (fun _ _ => 20) 20 136 23 q5 [0, 1, 2, 4, 22] [0, 1, 2, 4] ⟨[.raw (.func (.yield l) #[] #[]), .h 20, .h 21, .raw (.int .i64 0), .raw (.bool false)], 26, oD⟩).get = some (.normal, [.raw (.func (.yield l) #[] #[]), .h 20, .h 21, .raw (.int .i64 0)], oD) := by kernel_rfl
theorem p_q2 (l : Nat) : (pieceL CT Tryz.prog spDr noLs (fun _ _ => 20) 20 136 23 q2 [0, 1, 2, 4] [0, 1, 2, 4] ⟨[.raw (.func (.yield l) #[] #[]), .h 20, .h 21, .raw (.int .i64 0)], 26, oD⟩).get = some (.normal, [.raw (.func (.yield l) #[] #[]), .h 20, .h 21, .raw (.int .i64 1)], oD) := by kernel_rfl
theorem p_q1x (l : Nat) : (pieceL CT Tryz.prog spDr noLs (fun _ _ => 20) 20 136 23 q1 [0, 1, 2, 4] [0, 1, 2, 4] ⟨[.raw (.func (.yield l) #[] #[]), .h 20, .h 21, .raw (.int .i64 1)], 26, oD⟩).get = some (.exit 0, [.raw (.func (.yield l) #[] #[]), .h 20, .h 21, .raw (.int .i64 1)], oD) := (by kernel_rfl : (pieceL CT Tryz.prog spDr noLs (fun _ _ => 20) 20 136 23 q1 [0, 1, 2, 4] [0, 1, 2, 4] ⟨[.raw (.func (.yield l) #[] #[]), .h 20, .h 21, .raw (.int .i64 1)], 26, oD⟩).get = bro (same2 row23.args row23.os row23) (some (.exit 0, [.raw (.func (.yield l) #[] #[]), .h 20, .h 21, .raw (.int .i64 1)], oD)) none).trans (by rw [same2_self row23]; rfl)
theorem p_k6 : (pieceL CT Tryz.prog spDr noLs (fun _ _ => 20) 20 26 21 k6 [0, 6] [4, 5] ⟨[.h 0, .h 26], 27, oE⟩).get = some (.normal, [.raw (.int .i64 1), .raw (.bool true)], oE) := (by kernel_rfl : (pieceL CT Tryz.prog spDr noLs (fun _ _ => 20) 20 26 21 k6 [0, 6] [4, 5] ⟨[.h 0, .h 26], 27, oE⟩).get = bro (same2 row23.args row23.os row23) (some (.normal, [.raw (.int .i64 1), .raw (.bool true)], oE)) none).trans (by rw [same2_self row23]; rfl)
def ixC : List Nat := [0, 1, 2, 3, 4, 5, 6, 7, 8, 9, 10, 11, 12, 13, 14, 15, 16, 17, 18, 19, 21, 22]
def ixE : List Nat := [0, 1, 2, 3, 4, 5, 6, 7, 8, 9, 10, 11, 12, 13, 14, 15, 16, 17, 18, 19, 22, 23, 24, 25]
theorem pick_C : oC.map (renO (pickF ixC oB.length)) = ixC.map fun i => oB.getD i .gone := by kernel_rfl
theorem pick_E : row18.os'.map (renO (pickF ixE oE.length)) = ixE.map fun i => oE.getD i .gone := by kernel_rfl
theorem own_D : owned oD = true := by kernel_rfl
theorem own_C : owned oC = true := by kernel_rfl
theorem own_F : owned row18.os' = true := by kernel_rfl
theorem keep_18 : keepsB row18.os row18.os' = true := by kernel_rfl
theorem lps_26 : ([k0, k1, k3, k4, k6].all fun c => (lps 0 c).isEmpty) = true := by kernel_rfl
theorem lps_136 : ([q0, q1, q3, q5, q2].all fun c => (lps 0 c).isEmpty) = true := by kernel_rfl
theorem f26_ex : ∃ fn, Tryz.prog.funcs[(26 : Nat)]? = some fn ∧ fn.body = some c26 ∧ fn.ntmps = 21 ∧ fn.results = #[.tmp 4, .tmp 5] := ⟨_, rfl, by kernel_rfl, by kernel_rfl, by kernel_rfl⟩
theorem f136_ex : ∃ fn, Tryz.prog.funcs[(136 : Nat)]? = some fn ∧ fn.body = some c136 ∧ fn.ntmps = 23 ∧ fn.results = #[] := ⟨_, rfl, by kernel_rfl, by kernel_rfl, by kernel_rfl⟩
section walk
variable {fz : Nat → Prop} {w0 : World} {ρ0 : Asg}
structure Dq (fz : Nat → Prop) (w0 : World) (ρ0 : Asg) (L : List (Nat × Obj)) (N : Nat) (df : List Deferred) (slots : List Nat) (vs : List SV) (os : List (SO CT)) (a : Act) (w : World) : Prop where
  N : a.tmps.size = N
  df : a.defers = df
  ex : ∃ ρ, Self fz ρ os w ∧ TmOk ρ (zipT slots vs) a ∧ (∀ j, j < 20 → ρ j = ρ0 j) ∧ Bg w0 ρ0 row18.os ρ os w ∧ ∀ x ∈ L, Raw fz ρ os w x.1 ∧ w.heap[x.1]? = some x.2 ∧ w0.heap.size ≤ x.1
theorem Dq.of {L : List (Nat × Obj)} {N : Nat} {outs : List Nat} {vs' : List SV} {os os' : List (SO CT)} {a a' : Act} {w w' : World} {x : Ex} {e : Exit} {df : List Deferred} (h20 : 20 ≤ os.length)
    {ρ : Asg} (g3 : ∀ j, j < 20 → ρ j = ρ0 j) (g4 : Bg w0 ρ0 row18.os ρ os w) (g5 : ∀ x ∈ L, Raw fz ρ os w x.1 ∧ w.heap[x.1]? = some x.2 ∧ w0.heap.size ≤ x.1) (hd : a.defers = df) (h : StepB a.defers N outs fz ρ os w x vs' os' e a' w') : e = exitOf x ∧ Dq fz w0 ρ0 L N df outs vs' os' a' w' := by
  obtain ⟨rfl, hN, hD, ρ', k1, k2, k3, k4, k5⟩ := h
  refine ⟨rfl, hN, hD.trans hd, ρ', k2, k5, fun j hj => (k1 j (by omega)).trans (g3 j hj), g4.step k3 k4, fun y hy => ?_⟩
  obtain ⟨h1, h2, h3⟩ := g5 y hy
  obtain ⟨r1, r2⟩ := h1.step k3 k4
  exact ⟨r1, r2.trans h2, h3⟩
theorem Dq.step136 {L : List (Nat × Obj)} {c : Code} (hc : lps 0 c = []) {slots outs : List Nat} {vs vs' : List SV} {os os' : List (SO CT)} {x : Ex} {nb : Nat} {df : List Deferred}
    (h : (pieceL CT Tryz.prog spDr noLs (fun _ _ => 20) 20 136 23 c slots outs ⟨vs, nb, os⟩).get = some (x, vs', os')) (hnb : nb = os.length) (h20 : 20 ≤ os.length) {a : Act} {w : World} (H : Dq fz w0 ρ0 L 23 df slots vs os a w) :
    c.wp Tryz.prog (fun e a' w' => e = exitOf x ∧ Dq fz w0 ρ0 L 23 df outs vs' os' a' w') a w := by
  obtain ⟨hN, hd, ρ, g1, g2, g3, g4, g5⟩ := H
  obtain ⟨fn, h1, h2, h3, _⟩ := f136_ex
  exact wp_mono (self_stepB plain mixed spDr_ok noLs_ok h1 h2 h3 (fun x hx => by rw [hc] at hx; cases hx) h hnb hN g1 g2) fun e a' w' hq => Dq.of h20 g3 g4 g5 hd hq
theorem Dq.step26 {L : List (Nat × Obj)} {c : Code} (hc : lps 0 c = []) {slots outs : List Nat} {vs vs' : List SV} {os os' : List (SO CT)} {x : Ex} {nb : Nat} {df : List Deferred}
    (h : (pieceL CT Tryz.prog spDr noLs (fun _ _ => 20) 20 26 21 c slots outs ⟨vs, nb, os⟩).get = some (x, vs', os')) (hnb : nb = os.length) (h20 : 20 ≤ os.length) {a : Act} {w : World} (H : Dq fz w0 ρ0 L 21 df slots vs os a w) :
    c.wp Tryz.prog (fun e a' w' => e = exitOf x ∧ Dq fz w0 ρ0 L 21 df outs vs' os' a' w') a w := by
  obtain ⟨hN, hd, ρ, g1, g2, g3, g4, g5⟩ := H
  obtain ⟨fn, h1, h2, h3, _⟩ := f26_ex
  exact wp_mono (self_stepB plain mixed spDr_ok noLs_ok h1 h2 h3 (fun x hx => by rw [hc] at hx; cases hx) h hnb hN g1 g2) fun e a' w' hq => Dq.of h20 g3 g4 g5 hd hq
theorem Dq.tm {L : List (Nat × Obj)} {N : Nat} {slots : List Nat} {vs : List SV} {os : List (SO CT)} {df : List Deferred} {a : Act} {w : World} (h : Dq fz w0 ρ0 L N df slots vs os a w) {t : Nat} {v : Value} (ht : find t (zipT slots vs) = some (.raw v)) : a.tmps[t]? = some v := by
  obtain ⟨_, _, ρ, _, g2, _⟩ := h
  obtain ⟨u, h1, h2⟩ := g2 t _ ht
  cases h1
  exact h2
theorem lp26 : ∀ c ∈ [k0, k1, k3, k4, k6], lps 0 c = [] := fun c hc => List.isEmpty_iff.1 (List.all_eq_true.1 lps_26 c hc)
theorem lp136 : ∀ c ∈ [q0, q1, q3, q5, q2], lps 0 c = [] := fun c hc => List.isEmpty_iff.1 (List.all_eq_true.1 lps_136 c hc)
theorem len_C : oC.length = 22 := by kernel_rfl
theorem len_D : oD.length = 26 := by kernel_rfl
theorem len_E : oE.length = 27 := by kernel_rfl
abbrev lB (B D l : Nat) (i : Int) (r : LoopState → Option Code → Loop) : List (Nat × Obj) := [(B, .cells #[.int .i64 i] 3 (0, 0)), (D, .deferred (some [])), (l, .loop (r .ready none))]
abbrev Yv (l : Nat) : Value := .func (.yield l) #[] #[]
theorem q4_wp {B D l fn : Nat} {tmps : Array Value} {r : LoopState → Option Code → Loop} (hr : r = fun st pe => { state := st, pending := pe, fn := fn, tmps := tmps, params := #[12], assign := .skip, body := rfB kR, defers := D })
    (h6 : tmps[6]? = some (.pointer (some ⟨B, 0, none⟩))) (hN : tmps.size = 21) (hlB : l ≠ B) (hDB : D ≠ B) (hDl : D ≠ l) {a : Act} {w : World} (H : Dq fz w0 ρ0 (lB B D l 0 r) 23 [] [0, 1, 2, 4] [.raw (Yv l), .h 20, .h 21, .raw (.int .i64 0)] oD a w) :
    q4.wp Tryz.prog (fun e a' w' => e = .normal ∧ Dq fz w0 ρ0 (lB B D l 1 r) 23 [] [0, 1, 2, 4, 22] [.raw (Yv l), .h 20, .h 21, .raw (.int .i64 0), .raw (.bool false)] oD a' w') a w := by
  have t0 := H.tm (t := 0) rfl
  have t4 := H.tm (t := 4) rfl
  obtain ⟨hN', hd, ρ, g1, g2, g3, g4, g5⟩ := H
  obtain ⟨b1, b2, b3⟩ := g5 _ (List.mem_cons_self)
  obtain ⟨d1, d2, d3⟩ := g5 _ (List.mem_cons_of_mem _ List.mem_cons_self)
  obtain ⟨l1, l2, l3⟩ := g5 _ (List.mem_cons_of_mem _ (List.mem_cons_of_mem _ List.mem_cons_self))
  obtain ⟨hy, hri⟩ := round_in (n := 5 - 1) hr h6 hN b2 l2 hlB
  refine wpIn_wide.1 (q4_in (n := 5) t0 t4 hN' hy hri ?_)
  rintro a' w' ⟨s1, s2, s3, s4, s5, s6, s7⟩ n1 n2 n3 n4
  refine ⟨rfl, n1, n2.trans hd, ρ, ?_, ?_, g3, ?_, ?_⟩
  · refine Self.raw g1 own_D (by omega) fun b hb hm => s7 b (fun e => ?_) (fun e => ?_)
    · subst e; exact hm.elim b1.nm b1.nf
    · subst e; exact hm.elim l1.nm l1.nf
  · have cp : ∀ (t : Nat) (v : SV), t < 19 → find t (zipT [0, 1, 2, 4] [.raw (Yv l), .h 20, .h 21, .raw (.int .i64 0)]) = some v → ∃ u, den ρ v = some u ∧ a'.tmps[t]? = some u := fun t v ht hf => by
      obtain ⟨u, h1, h2⟩ := g2 t v hf
      exact ⟨u, h1, (n3 t ht).trans h2⟩
    exact TmL.ok (ts := [0, 1, 2, 4, 22]) ⟨cp 0 _ (by decide) rfl, cp 1 _ (by decide) rfl, cp 2 _ (by decide) rfl, cp 4 _ (by decide) rfl, ⟨_, rfl, n4⟩, trivial⟩
  · refine g4.up ⟨s2, s3, s4, by omega, fun b hb => s7 b (fun e => ?_) (fun e => ?_)⟩
    · subst e; exact absurd b3 (by show ¬ w0.heap.size ≤ b; omega)
    · subst e; exact absurd l3 (by show ¬ w0.heap.size ≤ b; omega)
  · intro x hx
    rcases List.mem_cons.1 hx with rfl | hx
    · exact ⟨b1.size (by omega), s5, b3⟩
    rcases List.mem_cons.1 hx with rfl | hx
    · exact ⟨d1.size (by omega), (s7 D hDB hDl).trans d2, d3⟩
    rcases List.mem_cons.1 hx with rfl | hx
    · exact ⟨l1.size (by omega), s6, l3⟩
    · cases hx
theorem it_calls {B D l fn : Nat} {tmps : Array Value} {r : LoopState → Option Code → Loop} (hr : r = fun st pe => { state := st, pending := pe, fn := fn, tmps := tmps, params := #[12], assign := .skip, body := rfB kR, defers := D })
    (h6 : tmps[6]? = some (.pointer (some ⟨B, 0, none⟩))) (hN : tmps.size = 21) (hlB : l ≠ B) (hDB : D ≠ B) (hDl : D ≠ l) {w : World} {ρ : Asg} {u1 u2 : Value}
    (g1 : Self fz ρ oC w) (e1 : ρ 20 = some u1) (e2 : ρ 21 = some u2) (g3 : ∀ j, j < 20 → ρ j = ρ0 j) (g4 : Bg w0 ρ0 row18.os ρ oC w) (g5 : ∀ x ∈ lB B D l 0 r, Raw fz ρ oC w x.1 ∧ w.heap[x.1]? = some x.2 ∧ w0.heap.size ≤ x.1) :
    Calls Tryz.prog 136 #[Yv l, u1, u2] w fun e w' => ∃ v ρ', e = .returned v ∧ Self fz ρ' oD w' ∧ (∀ j, j < 20 → ρ' j = ρ0 j) ∧ Bg w0 ρ0 row18.os ρ' oD w' ∧ ∀ x ∈ lB B D l 1 r, Raw fz ρ' oD w' x.1 ∧ w'.heap[x.1]? = some x.2 ∧ w0.heap.size ≤ x.1 := by
  obtain ⟨f, h1, h2, h3, h4⟩ := f136_ex
  refine (callsIn_wide (n := 5)).1 (callsIn_of_wp h1 h2 trivial (wpIn_wide.2 ?_))
  rw [h3]
  have H0 : Dq fz w0 ρ0 (lB B D l 0 r) 23 [] [0, 1, 2] [.raw (Yv l), .h 20, .h 21] oC { tmps := #[Yv l, u1, u2] ++ Array.replicate (23 - (#[Yv l, u1, u2] : Array Value).size) undef, defers := [] } w :=
    ⟨by rw [Array.size_append, Array.size_replicate]; rfl, rfl, ρ, g1, TmL.ok (ts := [0, 1, 2]) ⟨⟨_, rfl, arg_at rfl⟩, ⟨u1, e1, arg_at rfl⟩, ⟨u2, e2, arg_at rfl⟩, trivial⟩, g3, g4, g5⟩
  rw [c136_eq]
  have cC : 22 = oC.length := len_C.symm
  have cD : 26 = oD.length := len_D.symm
  refine wp_seq (wp_mono (H0.step136 (lp136 _ (by simp)) (p_q0 l) cC (by omega)) fun e a1 w1 hq => ?_)
  obtain ⟨rfl, H1⟩ := hq
  refine wp_block (wp_loop_rounds (0 + 1 + 1) ?_)
  rw [rounds_succ]
  refine wp_seq (wp_mono (H1.step136 (lp136 _ (by simp)) (p_q1 l) cC (by omega)) fun e a2 w2 hq => ?_)
  obtain ⟨rfl, H2⟩ := hq
  refine wp_seq (wp_block (wp_seq (wp_mono (H2.step136 (lp136 _ (by simp)) (p_q3 l) cC (by omega)) fun e a3 w3 hq => ?_)))
  obtain ⟨rfl, H3⟩ := hq
  refine wp_seq (wp_mono (q4_wp hr h6 hN hlB hDB hDl H3) fun e a4 w4 hq => ?_)
  obtain ⟨rfl, H4⟩ := hq
  refine wp_mono (H4.step136 (lp136 _ (by simp)) (p_q5 l) cD (by omega)) fun e a5 w5 hq => ?_
  obtain ⟨rfl, H5⟩ := hq
  refine wp_mono (H5.step136 (lp136 _ (by simp)) (p_q2 l) cD (by omega)) fun e a6 w6 hq => ?_
  obtain ⟨rfl, H6⟩ := hq
  show Code.rounds _ _ _ (0 + 1) a6 w6
  rw [rounds_succ]
  refine wp_seq (wp_mono (H6.step136 (lp136 _ (by simp)) (p_q1x l) cD (by omega)) fun e a7 w7 hq => ?_)
  obtain ⟨rfl, H7⟩ := hq
  obtain ⟨_, hd, ρ', k1, k2, k3, k4, k5⟩ := H7
  exact ⟨hd, _, results_none h4 _ _ _, _, ρ', rfl, k1, k3, k4, k5⟩
end walk
theorem len_A : oA.length = 21 := by kernel_rfl
theorem len_B : oB.length = 23 := by kernel_rfl
theorem len_18 : row18.os.length = 20 := by kernel_rfl
theorem len_18' : row18.os'.length = 24 := by kernel_rfl
theorem oB_20 : oB[20]? = some (.box [.raw (.int .i64 0)] 3) := by kernel_rfl
theorem oC_in : ∀ i ∈ ixC, i < oB.length := by rw [len_B]; decide
theorem oE_in : ∀ i ∈ ixE, i < oE.length := by rw [len_E]; decide
theorem ixC_nd : ixC.Nodup := by decide
theorem ixE_nd : ixE.Nodup := by decide
theorem ixC_lo : ∀ j, j < 20 → pickF ixC oB.length j = j := by
  intro j hj
  have h : ∀ j : Fin 20, ixC[j.1]? = some j.1 := by decide
  unfold pickF
  rw [h ⟨j, hj⟩]
theorem ixC_hi : pickF ixC oB.length 20 = 21 ∧ pickF ixC oB.length 21 = 22 := ⟨by rfl, by rfl⟩
theorem ixE_lo : ∀ j, j < 20 → pickF ixE oE.length j = j := by
  intro j hj
  have h : ∀ j : Fin 20, ixE[j.1]? = some j.1 := by decide
  unfold pickF
  rw [h ⟨j, hj⟩]
theorem oC_no {fz : Nat → Prop} {ρ : Asg} {w : World} {B : Nat} (h : Self fz ρ oB w) (hB : ρ 20 = some (.pointer (some ⟨B, 0, none⟩))) : ¬ Mine (fun j => ρ (pickF ixC oB.length j)) oC B := by
  rintro ⟨i, o, v, h1, h2, h3, h4⟩
  obtain ⟨hlt, hp⟩ := pick_get pick_C oC_in h1
  have hne : pickF ixC oB.length i ≠ 20 := by
    have hn : ∀ j : Fin 22, ixC[j.1]? ≠ some 20 := by decide
    intro e
    have hl : i < 22 := hlt
    unfold pickF at e
    cases hx : ixC[i]? with
    | none => rw [hx] at e; rw [len_B] at e; simp at e; omega
    | some y => rw [hx] at e; simp only at e; rw [e] at hx; exact hn ⟨i, hl⟩ hx
  have q1 := num_find (m := 0) hp
  have q2 := num_find (m := 0) oB_20
  rw [Nat.zero_add] at q1 q2
  have hlive : ∀ O : SO CT, O.owns = true → O.live = true := fun O hO => by cases O <;> first | exact hO | rfl
  exact h.sep 20 _ _ _ _ _ B (Ne.symm hne) q2 q1 rfl (hlive _ (by rw [renO_owns]; exact h2)) hB h3 rfl h4
theorem owns_live {O : SO CT} (h : O.owns = true) : O.live = true := by cases O <;> first | exact h | rfl
theorem mine_snoc {ρ : Asg} {os : List (SO CT)} {o : SO CT} {v : Value} {g : Nat} (h : Mine (ρ.add os.length v) (os ++ [o]) g) : blk v = some g ∨ Mine ρ os g := by
  obtain ⟨i, O, u, h1, h2, h3, h4⟩ := h
  by_cases hi : i = os.length
  · subst hi
    have : (ρ.add os.length v) os.length = some v := Asg.add_self ρ os.length v
    rw [this] at h3
    cases h3
    exact .inl h4
  · have hlt : i < os.length := by
      have := (List.getElem?_eq_some_iff.1 h1).1
      simp at this
      omega
    rw [List.getElem?_append_left hlt] at h1
    refine .inr ⟨i, O, u, h1, h2, ?_, h4⟩
    unfold Asg.add at h3
    rw [if_neg hi] at h3
    exact h3
theorem drain_calls {fz : Nat → Prop} {ρ : Asg} {w : World} {p : Value} (g1 : Self fz ρ row18.os w) (e0 : ρ 0 = some p) :
    Calls Tryz.prog 26 #[p, .int .i64 5] w fun e w' => ∃ ρ' u, e = .returned u ∧ (∀ j, j < row18.os.length → ρ' j = ρ j) ∧ Self fz ρ' row18.os' w' ∧ Stood ρ row18.os w w' ∧ (∀ g, Mine ρ' row18.os' g → w.heap.size ≤ g ∨ Mine ρ row18.os g) ∧ den ρ' row18.v = some u := by
  obtain ⟨f, h1, h2, h3, h4⟩ := f26_ex
  refine (callsIn_wide (n := 5)).1 (callsIn_of_wp_marks h1 h2 trivial (wpIn_wide.2 ?_))
  rw [h3]
  have H0 : Dq fz w ρ [] 21 [] [0, 1] [.h 0, .raw (.int .i64 5)] row18.os { tmps := #[p, .int .i64 5] ++ Array.replicate (21 - (#[p, .int .i64 5] : Array Value).size) undef, defers := [] } w :=
    ⟨by rw [Array.size_append, Array.size_replicate]; rfl, rfl, ρ, g1, TmL.ok (ts := [0, 1]) ⟨⟨p, e0, arg_at rfl⟩, ⟨_, rfl, arg_at rfl⟩, trivial⟩, fun _ _ => rfl, Bg.start, fun x hx => by cases hx⟩
  rw [c26_eq]
  have l18 := len_18
  have lA := len_A
  have lB' := len_B
  refine wp_seq (wp_mono (H0.step26 (lp26 _ (by simp)) p_k0 l18.symm (by omega)) fun e a1 w1 hq => ?_)
  obtain ⟨rfl, H1⟩ := hq
  refine wp_seq (wp_mono (H1.step26 (lp26 _ (by simp)) p_k1 l18.symm (by omega)) fun e a2 w2 hq => ?_)
  obtain ⟨rfl, H2⟩ := hq
  refine wp_seq (wp_mono (H2.step26 (lp26 _ (by simp)) p_k3 l18.symm (by omega)) fun e a3 w3 hq => ?_)
  obtain ⟨rfl, H3⟩ := hq
  refine wp_seq (wp_seq (wp_mono (H3.step26 (lp26 _ (by simp)) p_k4 lA.symm (by omega)) fun e a4 w4 hq => ?_))
  obtain ⟨rfl, N4, d4, ρ4, S4, T4, A4, B4, _⟩ := hq
  have f20 := num_find (m := 0) oB_20
  rw [Nat.zero_add] at f20
  obtain ⟨_, hv, B, cs, rfl, _, hcs, hheap⟩ := S4.obj 20 _ f20
  obtain rfl : cs = [.int .i64 0] := (Option.some.inj hcs).symm
  obtain ⟨u6, q6, t6⟩ := T4 6 (.h 20) rfl
  have q6 : ρ4 20 = some u6 := q6
  rw [hv] at q6
  cases q6
  obtain ⟨u0, q0', t0⟩ := T4 0 (.h 0) rfl
  have q0' : ρ4 0 = some u0 := q0'
  obtain ⟨uf, qf, t11⟩ := T4 11 (.fn 136 0 [.h 21, .h 22]) rfl
  have hBl : B < w4.heap.size := (Array.getElem?_eq_some_iff.1 hheap).1
  have mB : Mine ρ4 oB B := ⟨20, _, _, oB_20, rfl, hv, rfl⟩
  have hB0 : w.heap.size ≤ B := by
    rcases B4.mn B mB with h | ⟨i, o, v, k1, k2, k3, k4⟩
    · exact h
    · have hi : i < 20 := by have := (List.getElem?_eq_some_iff.1 k1).1; omega
      have k1' : oB[i]? = some o := by
        show ((row18.os ++ _) ++ _)[i]? = _
        rw [List.getElem?_append_left (by simp [l18]; omega), List.getElem?_append_left (by omega)]; exact k1
      have fi := num_find (m := 0) k1'
      rw [Nat.zero_add] at fi
      exact absurd k4 (S4.sep 20 i _ _ _ _ B (by omega) f20 fi rfl (owns_live k2) hv ((A4 i hi).trans k3) rfl)
  obtain ⟨u1, u2, r1, r2, rfl⟩ : ∃ u1 u2, ρ4 21 = some u1 ∧ ρ4 22 = some u2 ∧ uf = .func (.func 136) #[] #[u1, u2] := by
    have qf2 := qf
    simp only [den] at qf2
    cases x1 : ρ4 21 with
    | none => simp [denL, den, x1] at qf2
    | some u1 =>
      cases x2 : ρ4 22 with
      | none => simp [denL, den, x1, x2] at qf2
      | some u2 => exact ⟨u1, u2, rfl, rfl, by simp [denL, den, x1, x2] at qf2; exact qf2.symm⟩
  refine wp_block ((wpIn_wide (n := 5)).1 (wpIn_rangeFunc ?_))
  intro fn _
  obtain ⟨r, hr⟩ : ∃ r : LoopState → Option Code → Loop, r = fun st pe => { state := st, pending := pe, fn := fn, tmps := a4.tmps, params := #[12], assign := .skip, body := rfB kR, defers := w4.heap.size } := ⟨_, rfl⟩
  obtain ⟨W1, hW1⟩ : ∃ W1, (w4.alloc (.deferred (some []))).alloc (.loop (r .ready none)) = W1 := ⟨_, rfl⟩
  have hold : ∀ k, k < w4.heap.size → W1.heap[k]? = w4.heap[k]? := fun k hk => by
    rw [← hW1]; exact (Below.heap_alloc _ _ k (by simp; omega)).trans (Below.heap_alloc _ _ k hk)
  have hL1 : W1.heap[w4.heap.size + 1]? = some (.loop (r .ready none)) := by
    rw [← hW1]; have := World.alloc_heap_new (w4.alloc (.deferred (some []))) (.loop (r .ready none)); rwa [World.size_alloc] at this
  have hK1 : W1.heap[w4.heap.size]? = some (.deferred (some [])) := by
    rw [← hW1]; exact (Below.heap_alloc _ _ _ (by simp)).trans (World.alloc_heap_new w4 _)
  have hs1 : W1.heap.size = w4.heap.size + 2 := by rw [← hW1, World.size_alloc, World.size_alloc]
  have SC := Self.pick S4 ixC pick_C oC_in ixC_nd (by rw [len_C]; rfl)
  have S1 : Self fz (fun j => ρ4 (pickF ixC oB.length j)) oC W1 := Self.raw SC own_C (by omega) fun b hb _ => hold b hb
  have A1 : ∀ j, j < 20 → ρ4 (pickF ixC oB.length j) = ρ j := fun j hj => by rw [ixC_lo j hj]; exact A4 j hj
  have Bg1 : Bg w ρ row18.os (fun j => ρ4 (pickF ixC oB.length j)) oC W1 := (B4.sub fun g hg => Mine.pick pick_C oC_in hg).up ⟨by rw [← hW1]; rfl, by rw [← hW1]; rfl, by rw [← hW1]; rfl, by omega, fun b hb => hold b (Nat.lt_of_lt_of_le hb B4.st.size)⟩
  have nfB : ¬ fz B := fun hf => S4.frz B hf (.inr (mine_wr.2 mB))
  have hw4 := B4.st.size
  have R1 : ∀ x ∈ lB B w4.heap.size (w4.heap.size + 1) 0 r, Raw fz (fun j => ρ4 (pickF ixC oB.length j)) oC W1 x.1 ∧ W1.heap[x.1]? = some x.2 ∧ w.heap.size ≤ x.1 := fun x hx => by
    rcases List.mem_cons.1 hx with rfl | hx
    · exact ⟨⟨oC_no S4 hv, nfB, by show B < _; omega⟩, (hold B hBl).trans hheap, hB0⟩
    rcases List.mem_cons.1 hx with rfl | hx
    · exact ⟨⟨fun hm => by have := Mine.lt SC hm; simp at this, fun hf => by have := (S4.fzHeap hf).1; simp at this, by show w4.heap.size < _; omega⟩, hK1, hw4⟩
    rcases List.mem_cons.1 hx with rfl | hx
    · exact ⟨⟨fun hm => by have := Mine.lt SC hm; simp only at this; omega, fun hf => by have := (S4.fzHeap hf).1; simp only at this; omega, by show w4.heap.size + 1 < _; omega⟩, hL1, by show w.heap.size ≤ w4.heap.size + 1; omega⟩
    · cases hx
  refine ⟨w4.heap.size + 1, [{ target := .collected w4.heap.size, args := #[] }], W1, { target := .fn (.func 136) #[u1, u2], args := #[.func (.yield (w4.heap.size + 1)) #[] #[]] }, W1, 136, #[Yv (w4.heap.size + 1), u1, u2], W1, ?_, ?_, fun _ _ => trivial, ?_, fun h => by simp [Fence.wide] at h, ?_⟩
  · rw [← hW1, hr]; exact run_enterLoop_outer _ _ _ _ _
  · simp only [resolve, eval_at t11]
    simp [Deferred.ofValue, Act.eval]
  · have hff : (callFunc 136 #[Yv (w4.heap.size + 1), u1, u2]).run Tryz.prog W1 = .ok (.enter 136 #[Yv (w4.heap.size + 1), u1, u2]) W1 := by
      obtain ⟨fn2, x1, x2, _⟩ := f136_ex
      have hb : fn2.body.isNone = false := by rw [x2]; rfl
      simp only [callFunc, Sem.run_bind, run_program, Result.andThen_ok, x1, plain.nm 136 fn2 x1, Bool.false_eq_true, if_false, hb, Sem.run_pure]
    simp only [invoke]
    exact hff
  refine callsIn_wide.2 ((it_calls hr t6 N4 (by omega) (by omega) (by omega) S1 (by rw [ixC_hi.1]; exact r1) (by rw [ixC_hi.2]; exact r2) A1 Bg1 R1).mono ?_)
  rintro e w5 ⟨v, ρ5, rfl, S5, A5, B5, R5⟩
  obtain ⟨b1, b2, b3⟩ := R5 _ (List.mem_cons_self)
  obtain ⟨d1, d2, d3⟩ := R5 _ (List.mem_cons_of_mem _ List.mem_cons_self)
  obtain ⟨l1, l2, l3⟩ := R5 _ (List.mem_cons_of_mem _ (List.mem_cons_of_mem _ List.mem_cons_self))
  have hend := run_endLoop (P := Tryz.prog) l2 (by rw [hr]; simp)
  have hpe : (r .ready none).pending = none := by rw [hr]
  generalize hob : Obj.loop { r .ready none with state := .exhausted } = ob at hend
  obtain ⟨w6, hw6⟩ : ∃ w6, w5.putObj (w4.heap.size + 1) ob = w6 := ⟨_, rfl⟩
  have hend2 : (Instr.endLoop (w4.heap.size + 1)).run Tryz.prog w5 = .ok none w6 := by rw [← hw6, ← hpe]; exact hend
  refine ⟨none, w6, hend2, ?_⟩
  have s6 : w6.heap.size = w5.heap.size := by rw [← hw6]; exact World.putObj_size
  have o6 : ∀ b, b ≠ w4.heap.size + 1 → w6.heap[b]? = w5.heap[b]? := fun b hb => by rw [← hw6]; exact World.putObj_heap_other hb
  have S6 : Self fz ρ5 oD w6 := Self.raw S5 own_D (by omega) fun b hb hm => o6 b fun e => by
    subst e; exact hm.elim l1.nm l1.nf
  have b1 : Raw fz ρ5 oD w5 B := b1
  have b2 : w5.heap[B]? = some (.cells #[.int .i64 1] 3 (0, 0)) := b2
  have b2' : w6.heap[B]? = some (.cells #[.int .i64 1] 3 (0, 0)) := (o6 B (by omega)).trans b2
  have d1 : Raw fz ρ5 oD w5 w4.heap.size := d1
  have d2 : w5.heap[w4.heap.size]? = some (.deferred (some [])) := d2
  have d2' : w6.heap[w4.heap.size]? = some (.deferred (some [])) := (o6 _ (by omega)).trans d2
  have l3 : w.heap.size ≤ w4.heap.size + 1 := l3
  have S7 : Self fz (ρ5.add oD.length (.pointer (some ⟨B, 0, none⟩))) (oD ++ [.box [.raw (.int .i64 1)] 3]) w6 := by
    refine Self.snoc (v := .pointer (some ⟨B, 0, none⟩)) S6 rfl rfl ⟨B, [.int .i64 1], rfl, trivial, rfl, b2'⟩ ?_ ?_ ?_ nofun ?_ (fun g h => h) (fun X h => trivial)
    · intro g hg; cases hg; exact (Array.getElem?_eq_some_iff.1 b2').1
    · intro g hg; cases hg; exact b1.nm
    · intro _ i O u g h1 h2 h3 hg h5
      cases hg
      exact b1.nm ⟨i, O, u, h1, owned_at own_D h1 h2, h3, h5⟩
    · intro g hg
      refine ⟨(S6.fzHeap hg).1, fun hm => S6.frz g hg (.inr (mine_wr.2 hm)), fun _ hB => ?_⟩
      cases hB
      exact nfB hg
  have aN : ∀ j, j < 26 → (ρ5.add oD.length (.pointer (some ⟨B, 0, none⟩))) j = ρ5 j := fun j hj => by
    unfold Asg.add
    rw [if_neg (by rw [len_D]; omega)]
  have msn : ∀ g, Mine (ρ5.add oD.length (.pointer (some ⟨B, 0, none⟩))) oE g → g = B ∨ Mine ρ5 oD g := fun g hg => (mine_snoc hg).imp (fun h => by cases h; rfl) id
  have H6 : Dq fz w ρ [(w4.heap.size, .deferred (some []))] 21 [{ target := .collected w4.heap.size, args := #[] }] [0, 6] [.h 0, .h 26] oE { a4 with defers := [{ target := .collected w4.heap.size, args := #[] }] ++ a4.defers } w6 := by
    refine ⟨N4, by show [_] ++ a4.defers = _; rw [d4]; rfl, _, S7, ?_, fun j hj => (aN j (by omega)).trans (A5 j hj), ?_, ?_⟩
    · refine TmL.ok (ts := [0, 6]) ⟨⟨u0, ?_, t0⟩, ⟨_, ?_, t6⟩, trivial⟩
      · show (ρ5.add oD.length (.pointer (some ⟨B, 0, none⟩))) 0 = some u0
        rw [aN 0 (by omega), A5 0 (by omega), ← A4 0 (by omega)]; exact q0'
      · have := Asg.add_self ρ5 oD.length (.pointer (some ⟨B, 0, none⟩))
        rw [len_D] at this
        rw [len_D]
        exact this
    · have h := B5.up (w' := w6) ⟨by rw [← hw6]; rfl, by rw [← hw6]; rfl, by rw [← hw6]; rfl, by omega, fun b hb => o6 b (by omega)⟩
      exact ⟨h.st, fun g hg => (msn g hg).elim (fun e => by subst e; exact .inl hB0) (h.mn g)⟩
    · intro x hx
      rcases List.mem_cons.1 hx with rfl | hx
      · exact ⟨⟨fun hm => (msn _ hm).elim (fun e => by simp only at e; omega) d1.nm, d1.nf, by show w4.heap.size < _; have := d1.lt; omega⟩, d2', d3⟩
      · cases hx
  refine wp_seq (wp_mono (H6.step26 (lp26 _ (by simp)) p_k6 len_E.symm (by rw [len_E]; omega)) fun e a7 w7 hq => ?_)
  obtain ⟨rfl, H7⟩ := hq
  have z4 := H7.tm (t := 4) rfl
  have z5 := H7.tm (t := 5) rfl
  obtain ⟨_, d7, ρ7, S8, _, A7, B7, R7⟩ := H7
  obtain ⟨c1, c2, _⟩ := R7 _ (List.mem_cons_self)
  have c1 : Raw fz ρ7 oE w7 w4.heap.size := c1
  have c2 : w7.heap[w4.heap.size]? = some (.deferred (some [])) := c2
  refine wp_ret ?_
  show LeavesInM Fence.wide 5 Tryz.prog f a7.tmps _ a7.defers .returning w7
  rw [d7]
  obtain ⟨w8, hw8⟩ : ∃ w8, w7.putObj w4.heap.size (.deferred none) = w8 := ⟨_, rfl⟩
  have s8 : w8.heap.size = w7.heap.size := by rw [← hw8]; exact World.putObj_size
  have o8 : ∀ b, b ≠ w4.heap.size → w8.heap[b]? = w7.heap[b]? := fun b hb => by rw [← hw8]; exact World.putObj_heap_other hb
  refine ⟨by nofun, .inl ⟨w4.heap.size, w8, rfl, by rw [← hw8]; exact run_takeDeferred c2, .tuple #[.int .i64 1, .bool true], ?_, ?_⟩⟩
  · have := results_tmp2 h4 a7.tmps Tryz.prog w8
    rw [this]
    have x4 : a7.tmps.getD 4 undef = .int .i64 1 := by rw [Array.getD_eq_getD_getElem?, z4]; rfl
    have x5 : a7.tmps.getD 5 undef = .bool true := by rw [Array.getD_eq_getD_getElem?, z5]; rfl
    rw [x4, x5]
  have SF := Self.pick S8 ixE pick_E oE_in ixE_nd (by rw [len_18']; rfl)
  have BF := (B7.sub fun g hg => Mine.pick pick_E oE_in hg).up (w' := w8) ⟨by rw [← hw8]; rfl, by rw [← hw8]; rfl, by rw [← hw8]; rfl, by omega, fun b hb => o8 b (by omega)⟩
  refine ⟨fun j => ρ7 (pickF ixE oE.length j), _, rfl, fun j hj => ?_, Self.raw SF own_F (by omega) (fun b hb hm => o8 b fun e => ?_), BF.st, BF.mn, rfl⟩
  · rw [len_18] at hj
    show ρ7 (pickF ixE oE.length j) = _
    rw [ixE_lo j hj]; exact A7 j hj
  · subst e
    exact hm.elim (fun hm => c1.nm (Mine.pick pick_E oE_in hm)) c1.nf
theorem row18_ok : FnB Tryz.prog 26 row18.args row18.os (row18.v, row18.os') := by
  refine FnB.ofSelf (by kernel_rfl) keep_18 (fun i o hi hl => .inl (owned_at own_F hi hl)) fun fz ρ w vals RR hd => ?_
  have hd : denL ρ [.h 0, .raw (.int .i64 5)] = some vals := hd
  obtain ⟨p, ul, q1, q2, rfl⟩ := denL_cons.1 hd
  obtain ⟨v2, ul2, q3, q4, rfl⟩ := denL_cons.1 q2
  rw [denL_nil] at q4
  subst q4
  cases q3
  exact drain_calls RR q1
end
end Go.Proofs.YtfgbhgeppdffaaaGreat
namespace Go.Proofs.YtfgbhgeppdffaaaGreat
open Go Go.Sx Go.RowKit
set_option maxRecDepth 1000000
set_option maxHeartbeats 8000000
noncomputable section
def row19 : Row CT := ⟨[.h 0],
  [ob86, ob61, ob62, ob87, ob88, ob57, ob89, ob1, ob28, ob3, ob4, ob14, ob6, ob90, ob9, ob52, ob63, ob21, ob22, ob60, ob51, ob52, ob9],
  .h 23,
  [ob86, ob61, ob62, ob87, ob88, ob57, ob89, ob1, ob28, ob3, ob4, ob14, ob6, ob90, ob9, ob52, ob63, ob21, ob22, ob60, ob51, ob52, ob9, .rw 42 19 23 false [zi 1,bf,bf,bf,zi 2,x0,w0,nl,z0,nl,nl,z0,w0,nl,z0,m1,nl,y0,bf,zi 2,bf,bf,bf,z0,xi 4,w0,nl,z0,nl,nl,z0,w0,nl,z0,z0,nl,y0,bf,zi 4,bf,bf,bf,z0,x0,w0,nl,z0,nl,nl,z0,w0,nl,z0,m1,nl,y0,bf,zi 4,bf,bf,bf,z0,x0,w0,nl,z0,nl,nl,z0,w0,nl,z0,m1,nl,y0,bf,zi 4,bf,bf,bf,z0,x0,w0,nl,z0,nl,nl,z0,w0,nl,z0,m1,nl,y0,bf,zi 4,bf,bf,bf,z0,x0,w0,nl,z0,nl,nl,z0,w0,nl,z0,m1,nl,y0,bf,zi 4,bf,bf,bf,z0,x0,w0,nl,z0,nl,nl,z0,w0,nl,z0,m1,nl,y0,bf,zi 4,bf,bf,bf,z0,x0,w0,nl,z0,nl,nl,z0,w0,nl,z0,m1,nl,y0,bf,zi 5,bf,bf,bf,z0,x0,w0,nl,z0,nl,nl,z0,w0,nl,z0,m1,nl,y0,bf,zi 6,bf,bf,bf,z0,x0,w0,nl,z0,nl,nl,z0,w0,nl,z0,m1,nl,y0,bf,zi 6,bf,bf,bf,z0,x0,w0,nl,z0,nl,nl,z0,w0,nl,z0,m1,nl,y0,bf,zi 6,bf,bf,bf,z0,x0,w0,nl,z0,nl,nl,z0,w0,nl,z0,m1,nl,y0,bf,zi 6,bf,bf,bf,z0,x0,w0,nl,z0,nl,nl,z0,w0,nl,z0,m1,nl,y0,bf,zi 7,bf,bf,bf,z0,x0,w0,nl,z0,nl,nl,z0,w0,nl,z0,z0,nl,y0,bf,zi 6,bf,bf,bf,z0,x0,w0,nl,z0,nl,nl,z0,w0,nl,z0,m1,nl,y0,bf,zi 6,bf,bf,bf,z0,x0,w0,nl,z0,nl,nl,z0,w0,nl,z0,m1,nl,y0,bf,zi 6,bf,bf,bf,z0,x0,w0,nl,z0,nl,nl,z0,w0,nl,z0,m1,nl,y0,bf,zi 6,bf,bf,bf,z0,x0,w0,nl,z0,nl,nl,z0,w0,nl,z0,m1,nl,y0,bf,zi 6,bf,bf,bf,z0,x0,w0,nl,z0,nl,nl,z0,w0,nl,z0,m1,nl,y0,bf,zi 3,bf,bf,bf,z0,x0,w0,nl,z0,nl,nl,z0,w0,nl,z0,m1,nl,y0,bf,zi 4,bf,bf,bf,z0,x0,w0,nl,z0,nl,nl,z0,w0,nl,z0,m1,nl,y0,bf,zi 4,bf,bf,bf,z0,x0,w0,nl,z0,nl,nl,z0,w0,nl,z0,m1,nl,y0,bf,zi 4,bf,bf,bf,z0,x0,w0,nl,z0,nl,nl,z0,w0,nl,z0,z0,.h 24,y0,bt], .sl true false 5 ([] : List (Int))]⟩
theorem row19_get : (fnB CT Tryz.prog spX noLs (fun _ _ => 200) 60 13 row19.args row19.os).get = some (row19.v, row19.os') := by kernel_rfl
theorem row19_ok : FnB Tryz.prog 13 row19.args row19.os (row19.v, row19.os') := fnB_ok plain mixed spX_ok noLs_ok row19_get
def row20 : Row CT := ⟨[.agg [zi 1,.h 0,.h 1,.h 2,bf,bf], .agg [zi 7,bf,bf,bf,z0,x0,w0,nl,z0,nl,nl,z0,w0,nl,z0,z0,nl,y0,bf]],
  [.rw 341 9 1 false [z0,xi 4,w0,nl,z0,nl,bf,nl,y0], ob91, ob91],
  .tup [.agg [.raw (.int .i64 1), .h 0, .h 3, .h 4, .raw (.bool false), .raw (.bool false)], .raw (.int .i64 0)],
  [.rw 341 9 1 false [z0,xi 4,w0,nl,z0,nl,bt,nl,y0], ob91, ob91, ob91, ob91]⟩
theorem row20_get : (fnB CT Tryz.prog spX noLs (fun _ _ => 200) 60 164 row20.args row20.os).get = some (row20.v, row20.os') := by kernel_rfl
theorem row20_ok : FnB Tryz.prog 164 row20.args row20.os (row20.v, row20.os') := fnB_ok plain mixed spX_ok noLs_ok row20_get
def row21 : Row CT := ⟨[.h 0, zi 4, bf],
  [ob86, ob61, ob62, ob87, ob88, ob57, ob89, ob1, ob28, ob3, ob4, ob14, ob6, ob90, ob9, ob52, ob63, ob21, ob22, ob60, ob51, ob52, ob9],
  .agg [.raw (.bool true), .raw (.int .i64 (-1)), .raw (.int .i64 0)],
  [ob86, ob61, ob62, ob87, ob88, ob57, ob89, ob1, ob28, ob3, ob4, ob14, ob6, ob90, ob9, ob52, ob63, ob21, ob22, ob60, ob51, ob52, ob9]⟩
def orc21_13 : List (Nat × Row CT) := [(fpR row19.args row19.os, row19)]
def orc21_164 : List (Nat × Row CT) := [(fpR row20.args row20.os, row20)]
def sp21 : SpecT CT := (addS 164 (footS (orcF 164 orc21_164)) (addS 13 (footS (orcF 13 orc21_13)) spX))
theorem sp21_ok : SpecTOk Tryz.prog sp21 := (addS_ok (footS_ok (orcF_ok (RowsOk.cons row20_ok RowsOk.nil))) (addS_ok (footS_ok (orcF_ok (RowsOk.cons row19_ok RowsOk.nil))) spX_ok))
theorem row21_get : (fnB CT Tryz.prog sp21 noLs (fun _ _ => 200) 60 14 row21.args row21.os).get = bro (same2 row19.args row19.os row19) (bro (same2 row20.args row20.os row20) (some (row21.v, row21.os')) none) none := by kernel_rfl
theorem row21_ok : FnB Tryz.prog 14 row21.args row21.os (row21.v, row21.os') := fnB_ok plain mixed sp21_ok noLs_ok (row21_get.trans (by rw [same2_self row19, same2_self row20]; rfl))
def row22 : Row CT := ⟨[],
  [],
  .raw (.bool true),
  []⟩
def orc22_9 : List (Nat × Row CT) := [(fpR row0.args row0.os, row0)]
def orc22_10 : List (Nat × Row CT) := [(fpR row2.args row2.os, row2), (fpR row3.args row3.os, row3)]
def orc22_12 : List (Nat × Row CT) := [(fpR row13.args row13.os, row13)]
def orc22_23 : List (Nat × Row CT) := [(fpR row1.args row1.os, row1)]
def orc22_24 : List (Nat × Row CT) := [(fpR row14.args row14.os, row14)]
def orc22_26 : List (Nat × Row CT) := [(fpR row18.args row18.os, row18)]
def orc22_14 : List (Nat × Row CT) := [(fpR row21.args row21.os, row21)]
def sp22 : SpecT CT := (addS 14 (footS (orcF 14 orc22_14)) (addS 26 (footS (orcF 26 orc22_26)) (addS 24 (footS (orcF 24 orc22_24)) (addS 23 (footS (orcF 23 orc22_23)) (addS 12 (footS (orcF 12 orc22_12)) (addS 10 (footS (orcF 10 orc22_10)) (addS 9 (footS (orcF 9 orc22_9)) spX)))))))
theorem sp22_ok : SpecTOk Tryz.prog sp22 := (addS_ok (footS_ok (orcF_ok (RowsOk.cons row21_ok RowsOk.nil))) (addS_ok (footS_ok (orcF_ok (RowsOk.cons row18_ok RowsOk.nil))) (addS_ok (footS_ok (orcF_ok (RowsOk.cons row14_ok RowsOk.nil))) (addS_ok (footS_ok (orcF_ok (RowsOk.cons row1_ok RowsOk.nil))) (addS_ok (footS_ok (orcF_ok (RowsOk.cons row13_ok RowsOk.nil))) (addS_ok (footS_ok (orcF_ok (RowsOk.cons row2_ok (RowsOk.cons row3_ok RowsOk.nil)))) (addS_ok (footS_ok (orcF_ok (RowsOk.cons row0_ok RowsOk.nil))) spX_ok)))))))
theorem row22_get : (fnB CT Tryz.prog sp22 noLs (fun _ _ => 200) 60 6 row22.args row22.os).get = bro (same2 row0.args row0.os row0) (bro (same2 row1.args row1.os row1) (bro (same2 row2.args row2.os row2) (bro (same2 row3.args row3.os row3) (bro (same2 row13.args row13.os row13) (bro (same2 row14.args row14.os row14) (bro (same2 row18.args row18.os row18) (bro (same2 row21.args row21.os row21) (some (row22.v, row22.os')) none) none) none) none) none) none) none) none := by kernel_rfl
theorem row22_ok : FnB Tryz.prog 6 row22.args row22.os (row22.v, row22.os') := fnB_ok plain mixed sp22_ok noLs_ok (row22_get.trans (by rw [same2_self row0, same2_self row1, same2_self row2, same2_self row3, same2_self row13, same2_self row14, same2_self row18, same2_self row21]; rfl))
end
end Go.Proofs.YtfgbhgeppdffaaaGreat
namespace Go.Proofs.YtfgbhgeppdffaaaGreat
open Go Go.Sx Go.RowKit
set_option maxRecDepth 1000000
set_option maxHeartbeats 8000000
set_option linter.unusedVariables false
noncomputable section
def aliveT : FnF CT := fun ws os => match ws, os with
  | [], [] => .leaf (.raw (.bool true), [])
  | _, _ => .fail
theorem aliveT_ok : ∀ args os r, (aliveT args os).get = some r → FnB Tryz.prog 6 args os r := fun args os r h => by
  unfold aliveT at h
  split at h
  · simp only [Tr.get, Option.some.injEq] at h
    subst h
    exact row22_ok
  · cases h
def layGI (bs cs : List Int) (N : Nat) (pl n : Int) : Bool := opq (layG bs cs N pl n)
def layM (f : Nat → Int) (bs : List Int) (pl n : Int) : Nat → Int := opq (wrM f pl.toNat (lyB bs n))
def layL (bs cs : List Int) (pl n : Int) : List Sg := opq (cutB (lySg bs pl n) cs)
def layT : FnF CT := fun ws os => match ws, os with
  | [.h 0, .raw (.int .u64 pl), .agg [.raw (.int .u32 1), .raw (.int .u64 3), .h 1, .raw (.int .i64 n), .raw (.slice none 0 0)], .h 2], [.box [.h 3, .h 4] 138, .sl true false 5 bs, .sl false fc 3 cs, .sl true false 58 rg, .rw 34 1 1 false [.h 5], .mem 5 N f] =>
    .br (rgB rg N) (.br (layGI bs cs N pl n) (.leaf (SV.tup [SV.h 6, SV.raw (Value.int IntKind.i64 0)], lyO fc bs cs N (layM f bs pl n) ++ [SO.sl true false 101 (layL bs cs pl n)])) .fail) .fail
  | [.h 0, .raw (.int .u64 pl), .agg [.raw (.int .u32 1), .raw (.int .u64 3), .h 1, .raw (.int .i64 n), .raw (.slice none 0 0)], .raw (.slice none 0 0)], [.box [.h 2, .h 3] 138, .sl true false 5 bs, .sl true false 58 rg, .rw 34 1 1 false [.h 4], .mem 5 N f] =>
    .br (rgB rg N) (.br (layGI bs [] N pl n) (.leaf (SV.tup [SV.h 5, SV.raw (Value.int IntKind.i64 0)], lyN bs N (layM f bs pl n) ++ [SO.sl true false 101 (layL bs [] pl n)])) .fail) .fail
  | _, _ => .fail
theorem layT_ok : ∀ args os r, (layT args os).get = some r → FnB Tryz.prog 17 args os r := fun args os r h => by
  unfold layT at h
  split at h
  · rename_i pl n bs fc cs rg N f
    change List Int at bs
    change List Int at cs
    change List Rg at rg
    obtain ⟨h1, h2⟩ := Tr.get_ask.1 h
    obtain ⟨h3, h4⟩ := Tr.get_ask.1 h2
    clear h h2
    obtain rfl : rg = [(0, (N : Int))] := rgB_eq h1
    simp only [Tr.get, Option.some.injEq] at h4
    subst h4
    have h3 : layG bs cs N pl n = true := (opq_eq _).symm.trans h3
    have e1 : layM f bs pl n = wrM f pl.toNat (lyB bs n) := opq_eq _
    have e2 : layL bs cs pl n = cutBI (lySg bs pl n) cs := (opq_eq _).trans (cutBI_eq _ _).symm
    rw [e1, e2]
    exact lay_ok h3
  · rename_i pl n bs rg N f
    change List Int at bs
    change List Rg at rg
    obtain ⟨h1, h2⟩ := Tr.get_ask.1 h
    obtain ⟨h3, h4⟩ := Tr.get_ask.1 h2
    clear h h2
    obtain rfl : rg = [(0, (N : Int))] := rgB_eq h1
    simp only [Tr.get, Option.some.injEq] at h4
    subst h4
    have h3 : layG bs [] N pl n = true := (opq_eq _).symm.trans h3
    have e1 : layM f bs pl n = wrM f pl.toNat (lyB bs n) := opq_eq _
    have e2 : layL bs [] pl n = cutBI (lySg bs pl n) [] := (opq_eq _).trans (cutBI_eq _ _).symm
    rw [e1, e2]
    exact layN_ok h3
  · cases h
def scGI (ts : List Sg) (bs : List Int) (N : Nat) : Bool := opq (scG ts bs N)
def scM (f : Nat → Int) (ts : List Sg) (bs : List Int) : Nat → Int := opq (writeS f (scE ts bs) bs)
def scN (ts : List Sg) (bs : List Int) : Int := opq ((ofS (scE ts bs) (scE ts bs).length : Nat) : Int)
def scT : FnF CT := fun ws os => match ws, os with
  | [.h 0, .h 1, .h 2], [.box [.h 3, .h 4] 138, .sl true fl 101 ts, .sl true fb 5 bs, .sl true false 58 rg, .rw 34 1 1 false [.h 5], .mem 5 N f] =>
    .br (rgB rg N) (.br (scGI ts bs N) (.leaf (.tup [.raw (.int .i64 (scN ts bs)), .raw (.int .i64 0)], scO fl fb ts bs N (scM f ts bs))) .fail) .fail
  | _, _ => .fail
theorem scT_ok : ∀ args os r, (scT args os).get = some r → FnB Tryz.prog 20 args os r := fun args os r h => by
  unfold scT at h
  split at h
  · rename_i fl ts fb bs rg N f
    change List Sg at ts
    change List Int at bs
    change List Rg at rg
    obtain ⟨h1, h2⟩ := Tr.get_ask.1 h
    obtain ⟨h3, h4⟩ := Tr.get_ask.1 h2
    clear h h2
    obtain rfl : rg = [(0, (N : Int))] := rgB_eq h1
    simp only [Tr.get, Option.some.injEq] at h4
    subst h4
    have h3 : scG ts bs N = true := (opq_eq _).symm.trans h3
    have e1 : scM f ts bs = writeS f (scE ts bs) bs := opq_eq _
    have e2 : scN ts bs = ((ofS (scE ts bs) (scE ts bs).length : Nat) : Int) := opq_eq _
    rw [e1, e2]
    exact scatter_ok h3
  · cases h
def rsGI (ts : List Sg) (N : Nat) (f : Nat → Int) (n : Int) : Bool := opq (rsG ts N f n)
def rsB (f : Nat → Int) (ts : List Sg) (n : Int) : List Int := opq ((rsX f (partS true ts)).take (n - 1).toNat)
def rsT : FnF CT := fun ws os => match ws, os with
  | [.h 0, .h 1, .raw (.int .u32 n)], [.box [.h 2, .h 3] 138, .sl true full 101 ts, .sl true false 58 rg, .rw 34 1 1 false [.h 4], .mem 5 N f] =>
    .br (rgB rg N) (.br (rsGI ts N f n) (.leaf (.tup [.h 5, .raw (.int .u8 0), .raw (.int .i64 0)], gaR full ts N f (rsB f ts n))) .fail) .fail
  | _, _ => .fail
theorem rsT_ok : ∀ args os r, (rsT args os).get = some r → FnB Tryz.prog 21 args os r := fun args os r h => by
  unfold rsT at h
  split at h
  · rename_i n full ts rg N f
    change List Sg at ts
    change List Rg at rg
    obtain ⟨h1, h2⟩ := Tr.get_ask.1 h
    obtain ⟨h3, h4⟩ := Tr.get_ask.1 h2
    clear h h2
    obtain rfl : rg = [(0, (N : Int))] := rgB_eq h1
    simp only [Tr.get, Option.some.injEq] at h4
    subst h4
    have h3 : rsG ts N f n = true := (opq_eq _).symm.trans h3
    have e1 : rsB f ts n = (rsX f (partS true ts)).take (n - 1).toNat := opq_eq _
    rw [e1]
    exact result_ok h3
  · cases h
def spF4 : SpecT CT := addS 6 (footS aliveT) (addS 17 (footS layT) (addS 18 (footS bytT) (addS 19 (footS gatT) (addS 20 (footS scT) (addS 21 (footS rsT) noSp)))))
theorem spF4_ok : SpecTOk Tryz.prog spF4 := addS_ok (footS_ok aliveT_ok) (addS_ok (footS_ok layT_ok) (addS_ok (footS_ok bytT_ok) (addS_ok (footS_ok gatT_ok) (addS_ok (footS_ok scT_ok) (addS_ok (footS_ok rsT_ok) noSp_ok)))))
section
variable {C : Tab} {P : Program}
theorem self_opsN (hp0 : Plain P) (hm : P.follows .mixedOrders = true) {sp : SpecT C} (hs : SpecTOk P sp) {ls : LoopT C} (hl : LoopTOk P ls) {unr : Nat → Nat → Nat} {d N nb : Nat} {all l r : List Oper} {slots outs : List Nat} {ivs : List SV} {os : List (SO C)} {vs : List SV} {os' : List (SO C)}
    (h : (opsL C P sp ls unr d N all l slots outs ⟨ivs, nb, os⟩).get = some (.normal, vs, os')) (hle : nb ≤ os.length) {fz : Nat → Prop} {ρ : Asg} {w : World} {a : Act} (hN : a.tmps.size = N) (RR : Self fz ρ os w) (T : TmOk ρ (zipT slots ivs) a)
    {Q : Exit → Act → World → Prop} (hk : ∀ a' w', StepN nb a.defers N outs fz ρ os w .normal vs os' .normal a' w' → wpList P all.toArray Q r a' w') : wpList P all.toArray Q (l ++ r) a w := by
  obtain ⟨tm, hp, n, h1, h2⟩ := canonR_out h
  refine wpl_append l (regionS_sound (I := fun y : LT C => y.get = some (Ex.normal, tm, hp, n)) (B := w) (X := pinB nb a.defers fz ρ os) hp0 (ansT_ok _) (evalR_ok (ansT_ok _) hp0 hm hs hl d) l h1 hN (Self.pinN hle a.defers RR) T ?_)
  intro ρ1 tm1 hp1 n1 a' w' g1 g2 g3 g4 g5 g6 g7
  simp only [Tr.get, Option.some.injEq, Prod.mk.injEq] at g7
  obtain ⟨_, rfl, rfl, rfl⟩ := g7
  obtain ⟨ρ2, q1, q2, q3⟩ := h2 w _ ρ1 w' a' rfl g5 g6
  obtain ⟨r1, r2, r3⟩ := self_next (Rel.unpinN q2)
  exact hk a' w' ⟨rfl, g3, g4, ρ2, q1, r1, r2, r3, q3⟩
variable {nb : Nat} {fz : Nat → Prop} {w0 : World} {ρ0 : Asg} {S0 : List (SO C)}
theorem Pq.ops {sp : SpecT C} (hs : SpecTOk Tryz.prog sp) {unr : Nat → Nat → Nat} {d N n : Nat} {all l r : List Oper} {slots outs : List Nat} {vs vs' : List SV} {os os' : List (SO C)}
    (h : (opsL C Tryz.prog sp noLs unr d N all l slots outs ⟨vs, n, os⟩).get = some (.normal, vs', os')) (hnb : nb ≤ n) (hle : n ≤ os.length) {a : Act} {w : World} (H : Pq nb fz w0 ρ0 S0 N slots vs os a w)
    {Q : Exit → Act → World → Prop} (hk : ∀ a' w', Pq nb fz w0 ρ0 S0 N outs vs' os' a' w' → wpList Tryz.prog all.toArray Q r a' w') : wpList Tryz.prog all.toArray Q (l ++ r) a w := by
  obtain ⟨hN, hd, ρ, g1, g2, g3, g4⟩ := H
  refine self_opsN plain mixed hs noLs_ok h hle hN g1 g2 fun a' w' hq => hk a' w' ?_
  obtain ⟨_, hN, hD, ρ', k1, k2, k3, k4, k5⟩ := hq
  exact ⟨hN, hD.trans hd, ρ', k2, k5, fun j hj => (k1 j (by omega)).trans (g3 j hj), g4.step k3 k4⟩
theorem Pq.two {sp : SpecT C} (hs : SpecTOk Tryz.prog sp) {unr : Nat → Nat → Nat} {d N n i k : Nat} {c : Code} {o : Array Oper} (hc : c = .region i o false) {s1 s2 s3 : List Nat} {v1 v2 v3 : List SV} {o1 o2 o3 : List (SO C)}
    (h1 : (opsL C Tryz.prog sp noLs unr d N (regO c).toList ((regO c).toList.take k) s1 s2 ⟨v1, n, o1⟩).get = some (.normal, v2, o2))
    (h2 : (opsL C Tryz.prog sp noLs unr d N (regO c).toList ((regO c).toList.drop k) s2 s3 ⟨v2, n, o2⟩).get = some (.normal, v3, o3)) (hnb : nb ≤ n) (hle1 : n ≤ o1.length) (hle2 : n ≤ o2.length) {a : Act} {w : World} (H : Pq nb fz w0 ρ0 S0 N s1 v1 o1 a w) :
    c.wp Tryz.prog (fun e a' w' => e = .normal ∧ Pq nb fz w0 ρ0 S0 N s3 v3 o3 a' w') a w := by
  subst hc
  refine wp_region_list ?_
  show wpList Tryz.prog o _ o.toList a w
  have e : o.toList.toArray = o := Array.toArray_toList
  rw [← List.take_append_drop k o.toList]
  conv => arg 2; rw [← e]
  refine Pq.ops hs h1 hnb hle1 H fun a1 w1 H1 => ?_
  rw [← List.append_nil (o.toList.drop k)]
  exact Pq.ops hs h2 hnb hle2 H1 fun a2 w2 H2 => ⟨rfl, H2⟩
end
namespace Bu
abbrev Ar := Option (Bool × List Int)
@[reducible] def arL (o : Ar) : List Int := match o with
  | none => []
  | some x => x.2
@[reducible] def nA (o : Ar) : Nat := match o with
  | none => 0
  | some _ => 1
@[reducible] def arV (k : Nat) (o : Ar) : SV := match o with
  | none => .raw (.slice none 0 0)
  | some _ => .h k
@[reducible] def obB (o : Ar) : List (SO CT) := match o with
  | none => []
  | some x => [.sl false x.1 5 (x.2 : List Int)]
@[reducible] def obC (o : Ar) : List (SO CT) := match o with
  | none => []
  | some x => [.sl false x.1 3 (x.2 : List Int)]
noncomputable def c4 : Code := ((Tryz.prog.funcs[(4 : Nat)]?).bind (·.body)).getD .skip
noncomputable def b0 : Code := seqA c4
noncomputable def b1 : Code := seqA (seqB c4)
noncomputable def b2 : Code := seqA (seqB (seqB c4))
noncomputable def b3 : Code := seqA (seqB (seqB (seqB c4)))
noncomputable def bT : Code := seqB (seqB (seqB (seqB c4)))
noncomputable def b4 : Code := seqA bT
noncomputable def b5 : Code := seqA (seqB bT)
noncomputable def b6 : Code := seqA (seqB (seqB bT))
noncomputable def b7 : Code := seqA (seqB (seqB (seqB bT)))
noncomputable def bU : Code := seqB (seqB (seqB (seqB bT)))
noncomputable def b8 : Code := seqA bU
noncomputable def b9 : Code := seqA (seqB bU)
noncomputable def b10 : Code := seqA (seqB (seqB bU))
noncomputable def bW : Code := seqB (seqB (seqB bU))
noncomputable def b11 : Code := seqA bW
noncomputable def b12 : Code := seqA (seqB bW)
noncomputable def b13 : Code := seqA (seqB (seqB bW))
theorem c4_eq : c4 = .seq b0 (.seq b1 (.seq b2 (.seq b3 (.seq b4 (.seq b5 (.seq b6 (.seq b7 (.seq b8 (.seq b9 (.seq b10 (.seq b11 (.seq b12 (.seq b13 .ret))))))))))))) := by kernel_rfl
theorem b11_eq : b11 = .region 15 (regO b11) false := by kernel_rfl
theorem b13_eq : b13 = .region 17 (regO b13) false := by kernel_rfl
@[reducible] def bfL (c : Code) (slots outs : List Nat) (i : LI CT) : RT CT := pieceL CT Tryz.prog spF4 noLs (fun _ _ => 20) 20 4 142 c slots outs i
@[reducible] def bfO (c : Code) (l : List Oper) (slots outs : List Nat) (i : LI CT) : RT CT := opsL CT Tryz.prog spF4 noLs (fun _ _ => 20) 20 142 (regO c).toList l slots outs i
section
variable (bo co : Ar)
@[reducible] def nK (bo co : Ar) : Nat := nA bo + nA co
@[reducible] def OB (bo co : Ar) : List (SO CT) := obB bo ++ obC co
@[reducible] def rqB (h : Nat) (n : Int) : SO CT := .box [.raw (.int .u32 1), .raw (.int .u64 3), .h h, .raw (.int .i64 n), .raw (.slice none 0 0)] 37
@[reducible] def rgO (N : Nat) : SO CT := .sl true false 58 ([(0, (N : Int))] : List Rg)
@[reducible] def S3 (bo co : Ar) (N : Nat) (f : Nat → Int) : List (SO CT) := OB bo co ++ [.box [.h (nK bo co + 1), .h (nK bo co + 2)] 138, rgO N, .rw 34 1 1 false [.h (nK bo co + 3)], .mem 5 N f]
@[reducible] def S5 (bo co : Ar) (n : Int) (bs : List Int) (N : Nat) (f : Nat → Int) : List (SO CT) := OB bo co ++ [.box [.h (nK bo co + 2), .h (nK bo co + 3)] 138, rqB (nK bo co + 4) n, rgO N, .rw 34 1 1 false [.h (nK bo co + 5)], .sl true false 5 (bs : List Int), .mem 5 N f]
@[reducible] def S6 (bo co : Ar) (n : Int) (bs : List Int) (l : List Sg) (N : Nat) (f : Nat → Int) : List (SO CT) := OB bo co ++ [.box [.h (nK bo co + 3), .h (nK bo co + 4)] 138, rqB (nK bo co + 5) n, .sl true false 101 (l : List Sg), rgO N, .rw 34 1 1 false [.h (nK bo co + 6)], .sl true false 5 (bs : List Int), .mem 5 N f]
@[reducible] def S7 (bo co : Ar) (l : List Sg) (xs : List Int) (N : Nat) (f : Nat → Int) : List (SO CT) := OB bo co ++ [.box [.h (nK bo co + 3), .h (nK bo co + 4)] 138, .sl true false 101 (l : List Sg), .sl true false 5 (xs : List Int), rgO N, .rw 34 1 1 false [.h (nK bo co + 5)], .mem 5 N f]
@[reducible] def S8 (bo co : Ar) (l : List Sg) (xs ys : List Int) (N : Nat) (f : Nat → Int) : List (SO CT) := OB bo co ++ [.box [.h (nK bo co + 4), .h (nK bo co + 5)] 138, .sl true false 101 (l : List Sg), .sl true false 5 (xs : List Int), .sl true false 5 (ys : List Int), rgO N, .rw 34 1 1 false [.h (nK bo co + 6)], .mem 5 N f]
@[reducible] def S12 (bo co : Ar) (xs ys zs : List Int) : List (SO CT) := OB bo co ++ [.sl true false 5 (xs : List Int), .sl true false 5 (ys : List Int), .sl true false 5 (zs : List Int)]
abbrev ZZ : SV := .raw (.int .i64 0)
@[reducible] def vA (bo co : Ar) (pl : Int) : List SV := [arV 0 bo, .raw (.int .i64 pl), arV (nA bo) co]
theorem q0 (pl : Int) : (bfL b0 [0, 1, 2] [0, 1, 2] ⟨vA bo co pl, nK bo co, OB bo co⟩).get = some (Ex.normal, vA bo co pl, OB bo co) := by cases bo <;> cases co <;> kernel_rfl
theorem q1 (pl : Int) : (bfL b1 [0, 1, 2] [0, 1, 2] ⟨vA bo co pl, nK bo co, OB bo co⟩).get = some (Ex.normal, vA bo co pl, OB bo co) := by cases bo <;> cases co <;> kernel_rfl
theorem q2 (pl : Int) : (bfL b2 [0, 1, 2] [0, 1, 2] ⟨vA bo co pl, nK bo co, OB bo co⟩).get =
  bro (decide ((6000 : Int) < ((arL bo).length : Int))) (some (Ex.ret, vA bo co pl, OB bo co)) (bro (decide ((70 : Int) < ((arL co).length : Int))) (some (Ex.ret, vA bo co pl, OB bo co)) (some (Ex.normal, vA bo co pl, OB bo co))) := by cases bo <;> cases co <;> kernel_rfl
theorem q2r (pl : Int) : (bfL b2 [0, 1, 2] [6] ⟨vA bo co pl, nK bo co, OB bo co⟩).get =
  bro (decide ((6000 : Int) < ((arL bo).length : Int))) (some (Ex.ret, [.raw (.bool true)], OB bo co)) (bro (decide ((70 : Int) < ((arL co).length : Int))) (some (Ex.ret, [.raw (.bool true)], OB bo co)) none) := by cases bo <;> cases co <;> kernel_rfl
theorem q3 (pl : Int) : (bfL b3 [0, 1, 2] [0, 1, 2, 7, 8] ⟨vA bo co pl, nK bo co, OB bo co⟩).get = some (Ex.normal, vA bo co pl ++ [.h (nK bo co), ZZ], S3 bo co 32768 fun _ => 0) := by cases bo <;> cases co <;> kernel_rfl
theorem q4 (pl : Int) (N : Nat) (f : Nat → Int) : (bfL b4 [0, 1, 2, 7, 8] [0, 1, 2, 7] ⟨vA bo co pl ++ [.h (nK bo co), ZZ], nK bo co, S3 bo co N f⟩).get = some (Ex.normal, vA bo co pl ++ [.h (nK bo co)], S3 bo co N f) := by cases bo <;> cases co <;> kernel_rfl
theorem q5 (pl : Int) (N : Nat) (f : Nat → Int) : (bfL b5 [0, 1, 2, 7] [0, 1, 2, 7, 9] ⟨vA bo co pl ++ [.h (nK bo co)], nK bo co, S3 bo co N f⟩).get =
  bro (roomB (([] : List Int).length + (arL bo).length) Tryz.prog.types[(5 : Nat)].bytes) (some (Ex.normal, vA bo co pl ++ [.h (nK bo co), .h (nK bo co + 1)], S5 bo co ((arL bo).length : Int) (arL bo) N f)) none := by cases bo <;> cases co <;> kernel_rfl
@[reducible] def lfB (bo co : Ar) (bs : List Int) (n : Int) (N : Nat) (f : Nat → Int) (x : Int) : Option (Ex × List SV × List (SO CT)) :=
  bro (rgB [((0 : Int), (N : Int))] N) (bro (layGI bs (arL co) N (x % 18446744073709551616) n) (some (Ex.normal, [arV 0 bo, .h (nK bo co), ZZ, .h (nK bo co + 1), .h (nK bo co + 2)], S6 bo co n bs (layL bs (arL co) (x % 18446744073709551616) n) N (layM f bs (x % 18446744073709551616) n))) none) none
theorem q6 (pl n : Int) (bs : List Int) (N : Nat) (f : Nat → Int) : (bfL b6 [0, 1, 2, 7, 9] [0, 7, 8, 9, 10] ⟨vA bo co pl ++ [.h (nK bo co), .h (nK bo co + 1)], nK bo co, S5 bo co n bs N f⟩).get =
  bro (decide (pl.tmod (16000 : Int) < (0 : Int))) (bro (inR64 (pl.tmod (16000 : Int) + (16000 : Int))) (lfB bo co bs n N f (pl.tmod (16000 : Int) + (16000 : Int))) (lfB bo co bs n N f (IntKind.i64.wrap (pl.tmod (16000 : Int) + (16000 : Int))))) (lfB bo co bs n N f (pl.tmod (16000 : Int))) := by cases bo <;> cases co <;> kernel_rfl
theorem q7 (n : Int) (bs : List Int) (l : List Sg) (N : Nat) (f : Nat → Int) : (bfL b7 [0, 7, 8, 9, 10] [0, 7, 8, 10, 11, 12] ⟨[arV 0 bo, .h (nK bo co), ZZ, .h (nK bo co + 1), .h (nK bo co + 2)], nK bo co, S6 bo co n bs l N f⟩).get =
  bro (bytG bs n) (some (Ex.normal, [arV 0 bo, .h (nK bo co), ZZ, .h (nK bo co + 1), .h (nK bo co + 2), ZZ], S7 bo co l (hdB bs) N f)) none := by cases bo <;> cases co <;> kernel_rfl
theorem q8 (l : List Sg) (xs : List Int) (N : Nat) (f : Nat → Int) : (bfL b8 [0, 7, 8, 10, 11, 12] [0, 7, 8, 10, 11, 12, 13, 14] ⟨[arV 0 bo, .h (nK bo co), ZZ, .h (nK bo co + 1), .h (nK bo co + 2), ZZ], nK bo co, S7 bo co l xs N f⟩).get =
  bro (rgB [((0 : Int), (N : Int))] N) (bro (gaGI l N f) (some (Ex.normal, [arV 0 bo, .h (nK bo co), ZZ, .h (nK bo co + 1), .h (nK bo co + 2), ZZ, .h (nK bo co + 3), ZZ], S8 bo co l xs (readI f l) N f)) none) none := by cases bo <;> cases co <;> kernel_rfl
@[reducible] def sEq (xs ys : List Int) : Bool := (Sx.strOf (xs.map fun x => x)).toList == (Sx.strOf (ys.map fun x => x)).toList
theorem q9 (l : List Sg) (xs ys : List Int) (N : Nat) (f : Nat → Int) : (bfL b9 [0, 7, 8, 10, 11, 12, 13, 14] [0, 7, 10, 11] ⟨[arV 0 bo, .h (nK bo co), ZZ, .h (nK bo co + 1), .h (nK bo co + 2), ZZ, .h (nK bo co + 3), ZZ], nK bo co, S8 bo co l xs ys N f⟩).get =
  bro (!sEq ys xs) (some (Ex.ret, [arV 0 bo, .h (nK bo co), .h (nK bo co + 1), .h (nK bo co + 2)], S7 bo co l xs N f)) (some (Ex.normal, [arV 0 bo, .h (nK bo co), .h (nK bo co + 1), .h (nK bo co + 2)], S7 bo co l xs N f)) := by cases bo <;> cases co <;> kernel_rfl
theorem q10 (l : List Sg) (xs : List Int) (N : Nat) (f : Nat → Int) : (bfL b10 [0, 7, 10, 11] [0, 7, 10, 11, 15, 8] ⟨[arV 0 bo, .h (nK bo co), .h (nK bo co + 1), .h (nK bo co + 2)], nK bo co, S7 bo co l xs N f⟩).get =
  bro (roomB (([] : List Int).length + (arL bo).length) Tryz.prog.types[(5 : Nat)].bytes) (bro (roomB ((([] : List Int) ++ arL bo).length + [(0 : Int)].length) Tryz.prog.types[(5 : Nat)].bytes) (bro (rgB [((0 : Int), (N : Int))] N) (bro (scGI l (arL bo ++ [(0 : Int)]) N)
    (some (Ex.normal, [arV 0 bo, .h (nK bo co), .h (nK bo co + 1), .h (nK bo co + 2), .raw (.int .i64 (scN l (arL bo ++ [(0 : Int)]))), ZZ], S7 bo co l xs N (scM f l (arL bo ++ [(0 : Int)])))) none) none) none) none := by cases bo <;> cases co <;> kernel_rfl
theorem q11a (l : List Sg) (xs : List Int) (k : Int) (N : Nat) (f : Nat → Int) : (bfO b11 ((regO b11).toList.take 4) [0, 7, 10, 11, 15, 8] [0, 7, 10, 11, 15, 8, 91, 92, 94] ⟨[arV 0 bo, .h (nK bo co), .h (nK bo co + 1), .h (nK bo co + 2), .raw (.int .i64 k), ZZ], nK bo co, S7 bo co l xs N f⟩).get =
  some (Ex.normal, [arV 0 bo, .h (nK bo co), .h (nK bo co + 1), .h (nK bo co + 2), .raw (.int .i64 k), ZZ, .h (nK bo co), .h (nK bo co + 1), .raw (.int .i64 ((arL bo).length : Int))], S7 bo co l xs N f) := by cases bo <;> cases co <;> kernel_rfl
@[reducible] def lfR (bo co : Ar) (l : List Sg) (xs : List Int) (k : Int) (N : Nat) (f : Nat → Int) (x : Int) : Option (Ex × List SV × List (SO CT)) :=
  bro (rgB [((0 : Int), (N : Int))] N) (bro (rsGI l N f (x % 4294967296)) (some (Ex.normal, [arV 0 bo, .h (nK bo co), .h (nK bo co + 1), .h (nK bo co + 2), .raw (.int .i64 k), ZZ, .h (nK bo co + 3), .raw (.int .u8 0), ZZ], S8 bo co l xs (rsB f l (x % 4294967296)) N f)) none) none
theorem q11b (l : List Sg) (xs : List Int) (k m : Int) (N : Nat) (f : Nat → Int) : (bfO b11 ((regO b11).toList.drop 4) [0, 7, 10, 11, 15, 8, 91, 92, 94] [0, 7, 10, 11, 15, 8, 16, 17, 12] ⟨[arV 0 bo, .h (nK bo co), .h (nK bo co + 1), .h (nK bo co + 2), .raw (.int .i64 k), ZZ, .h (nK bo co), .h (nK bo co + 1), .raw (.int .i64 m)], nK bo co, S7 bo co l xs N f⟩).get =
  bro (inR64 (m + (1 : Int))) (lfR bo co l xs k N f (m + 1)) (lfR bo co l xs k N f (IntKind.i64.wrap (m + (1 : Int)))) := by cases bo <;> cases co <;> kernel_rfl
theorem q12 (l : List Sg) (xs ys : List Int) (k : Int) (N : Nat) (f : Nat → Int) : (bfL b12 [0, 7, 10, 11, 15, 8, 16, 17, 12] [0, 11, 16, 18, 8, 12, 14, 15, 17] ⟨[arV 0 bo, .h (nK bo co), .h (nK bo co + 1), .h (nK bo co + 2), .raw (.int .i64 k), ZZ, .h (nK bo co + 3), .raw (.int .u8 0), ZZ], nK bo co, S8 bo co l xs ys N f⟩).get =
  bro (rgB [((0 : Int), (N : Int))] N) (bro (gaGI l N f) (some (Ex.normal, [arV 0 bo, .h (nK bo co), .h (nK bo co + 1), .h (nK bo co + 2), ZZ, ZZ, ZZ, .raw (.int .i64 k), .raw (.int .u8 0)], S12 bo co xs ys (readI f l))) none) none := by cases bo <;> cases co <;> kernel_rfl
theorem q13a (xs ys zs : List Int) (k : Int) : (bfO b13 ((regO b13).toList.take 14) [0, 11, 16, 18, 8, 12, 14, 15, 17] [0, 11, 16, 18, 117, 118, 120, 17] ⟨[arV 0 bo, .h (nK bo co), .h (nK bo co + 1), .h (nK bo co + 2), ZZ, ZZ, ZZ, .raw (.int .i64 k), .raw (.int .u8 0)], nK bo co, S12 bo co xs ys zs⟩).get =
  some (Ex.normal, [arV 0 bo, .h (nK bo co), .h (nK bo co + 1), .h (nK bo co + 2), .raw (.bool true), .raw (.int .i64 k), .raw (.int .i64 ((arL bo).length : Int)), .raw (.int .u8 0)], S12 bo co xs ys zs) := by cases bo <;> cases co <;> kernel_rfl
@[reducible] def lfE (bo co : Ar) (xs ys zs : List Int) (k x : Int) : Option (Ex × List SV × List (SO CT)) :=
  bro (k == x) (bro (sEq ys (arL bo)) (some (Ex.normal, [.raw (.bool (sEq zs xs))], OB bo co)) (some (Ex.normal, [.raw (.bool false)], OB bo co))) (some (Ex.normal, [.raw (.bool false)], OB bo co))
theorem q13b (xs ys zs : List Int) (k m : Int) : (bfO b13 ((regO b13).toList.drop 14) [0, 11, 16, 18, 117, 118, 120, 17] [6] ⟨[arV 0 bo, .h (nK bo co), .h (nK bo co + 1), .h (nK bo co + 2), .raw (.bool true), .raw (.int .i64 k), .raw (.int .i64 m), .raw (.int .u8 0)], nK bo co, S12 bo co xs ys zs⟩).get =
  bro (inR64 (m + (1 : Int))) (lfE bo co xs ys zs k (m + 1)) (lfE bo co xs ys zs k (IntKind.i64.wrap (m + (1 : Int)))) := by cases bo <;> cases co <;> kernel_rfl
end
end Bu
end
end Go.Proofs.YtfgbhgeppdffaaaGreat
namespace Go.Proofs.YtfgbhgeppdffaaaGreat
open Go Go.Sx Go.RowKit
set_option maxRecDepth 100000
set_option maxHeartbeats 2000000
set_option linter.unusedVariables false
noncomputable section
theorem memL_take (f : Nat → Int) (us : List Int) (a k : Nat) (h : k ≤ us.length) : memL (wrM f a us) a k = us.take k := by
  have h1 := memL_own f us a
  rw [show us.length = k + (us.length - k) by omega, memL_app] at h1
  have h2 := congrArg (List.take k) h1
  rw [List.take_append_of_le_length (by rw [memL_length]; exact Nat.le_refl _), List.take_of_length_le (by rw [memL_length]; exact Nat.le_refl _)] at h2
  exact h2
structure Lie (w : Bool) (A T : Int) (l : List Sg) : Prop where
  c : contig w A l T
  a0 : 0 ≤ A
  le : A + T ≤ 32768
  t1 : 1 ≤ T
  len : l.length ≤ 64
theorem contig.mem {w : Bool} : ∀ {l : List Sg} {A T : Int}, contig w A l T → ∀ x ∈ l, A ≤ x.1 ∧ 1 ≤ x.2.1 ∧ x.1 + x.2.1 ≤ A + T
  | [], _, _, _, x, hx => by cases hx
  | y :: r, A, T, ⟨h1, h2, h3, h4⟩, x, hx => by
    have := h4.sum.2
    rcases List.mem_cons.1 hx with e | e
    · subst e
      omega
    · have := h4.mem x e
      omega
namespace Lie
variable {w : Bool} {A T : Int} {l : List Sg}
theorem ne (h : Lie w A T l) : l ≠ [] := fun e => by
  have := h.c
  rw [e] at this
  have h1 : T = 0 := this
  have := h.t1
  omega
theorem len0 (h : Lie w A T l) : l.length ≠ 0 := fun e => h.ne (List.eq_nil_of_length_eq_zero e)
theorem wf (h : Lie w A T l) : wfS l = true := List.all_eq_true.2 fun x hx => by
  have h1 := h.c.mem x hx
  have h2 := h.a0
  have h3 := h.le
  exact sgW_iff.2 (by omega)
theorem mem (h : Lie w A T l) : memA 32768 l = true := List.all_eq_true.2 fun x hx => by
  have h1 := h.c.mem x hx
  have h3 := h.le
  exact decide_eq_true (show 1 ≤ x.2.1 ∧ x.1 + x.2.1 ≤ ((32768 : Nat) : Int) by omega)
theorem sg (h : Lie w A T l) : l.all (sgG 32768) = true := List.all_eq_true.2 fun x hx => by
  have h1 := h.c.mem x hx
  have h2 := h.a0
  have h3 := h.le
  unfold sgG
  rw [inR64_mk (show -9223372036854775808 ≤ x.2.1 ∧ x.2.1 ≤ 9223372036854775807 by omega), memG_iff.2 (show 1 ≤ 32768 ∧ 32768 ≤ 4294967296 ∧ (0 ≤ x.1 ∧ x.1 < 18446744073709551616) ∧ 0 ≤ x.2.1 ∧ x.2.1 < 4294967296 by omega)]
  exact decide_eq_true (show 1 ≤ x.2.1 ∧ x.1 + x.2.1 ≤ ((32768 : Nat) : Int) by omega)
theorem bs (h : Lie w A T l) : l.all sgB = true := h.c.bs (by have := h.le; omega)
theorem chk (h : Lie w A T l) : chL l = true := chL_mk h.c h.ne h.a0 (by have := h.le; omega)
theorem read (h : Lie w A T l) (f : Nat → Int) : readS f l = memL f A.toNat T.toNat := h.c.read f h.a0
theorem reads (h : Lie w A T l) : Lie false A T (l.map rdE) := by
  refine ⟨?_, h.a0, h.le, h.t1, by rw [List.length_map]; exact h.len⟩
  have : ∀ {l : List Sg} {A T : Int}, contig w A l T → contig false A (l.map rdE) T := by
    intro l
    induction l with
    | nil => intro A T h; exact h
    | cons x r ih => intro A T h; exact ⟨h.1, rfl, h.2.2.1, ih h.2.2.2⟩
  exact this h.c
theorem sum (h : Lie w A T l) : ∀ (l : List Sg) (A T : Int), contig w A l T → ((l.map fun x => x.2.1.toNat).sum : Nat) = T.toNat := by
  intro l
  induction l with
  | nil => intro A T h; have h : T = 0 := h; subst h; rfl
  | cons x r ih =>
    intro A T h
    have h1 := ih _ _ h.2.2.2
    have h2 := h.2.2.2.sum.2
    have h3 := h.2.2.1
    rw [List.map_cons, List.sum_cons, h1]
    omega
theorem of (h : Lie w A T l) : ofS l l.length = T.toNat := by
  unfold ofS
  rw [List.take_length]
  exact h.sum l A T h.c
end Lie
theorem sgOrd_app : ∀ {l l' : List Sg} {A T A' T' : Int}, contig false A l T → contig true A' l' T' → sgOrd false (l ++ l') = true
  | [], l', A, T, A', T', h, h' => h'.ord (p := false) (fun e => by cases e)
  | x :: r, l', A, T, A', T', ⟨h1, h2, h3, h4⟩, h' => by
    show ((!false || x.2.2) && sgOrd x.2.2 (r ++ l')) = true
    rw [h2]
    exact sgOrd_app h4 h'
structure Both (A R W : Int) (l1 l2 : List Sg) : Prop where
  r : Lie false A R l1
  w : Lie true (A + R) W l2
  len : (l1 ++ l2).length ≤ 64
namespace Both
variable {A R W : Int} {l1 l2 : List Sg}
theorem p1 (h : Both A R W l1 l2) : partS false (l1 ++ l2) = l1 := by
  rw [partS_app, h.r.c.part.1, show partS false l2 = [] from h.w.c.part.2, List.append_nil]
theorem p2 (h : Both A R W l1 l2) : partS true (l1 ++ l2) = l2 := by
  rw [partS_app, h.w.c.part.1, show partS true l1 = [] from h.r.c.part.2, List.nil_append]
theorem wf (h : Both A R W l1 l2) : wfS (l1 ++ l2) = true := by
  have h1 := h.r.wf
  have h2 := h.w.wf
  unfold wfS at *
  rw [List.all_append, h1, h2]; rfl
theorem mem (h : Both A R W l1 l2) : memA 32768 (l1 ++ l2) = true := by
  have h1 := h.r.mem
  have h2 := h.w.mem
  unfold memA at *
  rw [List.all_append, h1, h2]; rfl
theorem ok (h : Both A R W l1 l2) : okSg (l1 ++ l2) = true := by
  have h3 := h.r.le
  have h4 := h.w.le
  have h5 := h.r.t1
  have h6 := h.r.a0
  unfold okSg
  rw [decide_eq_true h.len, List.all_append, h.r.bs, h.w.bs, sgOrd_app h.r.c h.w.c, sgSum_app, h.r.c.sum.1, h.w.c.sum.1, decide_eq_true (show R + W < 4294967296 by omega)]; rfl
theorem ga (h : Both A R W l1 l2) (f : Nat → Int) : gaG (l1 ++ l2) 32768 f = true := by
  have h3 := h.r.le
  have h6 := h.r.a0
  unfold gaG
  rw [h.wf, h.ok, h.mem, h.p1, h.r.sg, decide_eq_true h.r.len0, h.r.read, memL_length, decide_eq_true (show R.toNat ≤ 4294967296 by omega)]
  rfl
end Both
theorem Lie.ga {A T : Int} {l : List Sg} (h : Lie false A T l) (f : Nat → Int) : gaG l 32768 f = true := by
  have h3 := h.le
  have h6 := h.a0
  have ho : okSg l = true := h.c.ok h.len (by omega) (by omega)
  unfold gaG
  rw [h.wf, ho, h.mem, h.c.part.1, h.sg, decide_eq_true h.len0, h.read, memL_length, decide_eq_true (show T.toNat ≤ 4294967296 by omega)]
  rfl
section
variable {b cs : List Int} {pl : Int}
theorem lie1 (h0 : 0 ≤ pl) (h1 : pl < 16000) (hb : b.length ≤ 6000) : Lie false pl (16 + (b.length : Int)) [(pl, 16 + (b.length : Int), false)] :=
  ⟨⟨rfl, rfl, by show 1 ≤ 16 + (b.length : Int); omega, by show 16 + (b.length : Int) - (16 + (b.length : Int)) = 0; omega⟩, h0, by omega, by omega, Nat.le_of_ble_eq_true rfl⟩
theorem lie2 (h0 : 0 ≤ pl) (h1 : pl < 16000) (hb : b.length ≤ 6000) : Lie true (pl + (16 + (b.length : Int))) ((b.length : Int) + 1) [(pl + (16 + (b.length : Int)), (b.length : Int) + 1, true)] :=
  ⟨⟨rfl, rfl, by show 1 ≤ (b.length : Int) + 1; omega, by show (b.length : Int) + 1 - ((b.length : Int) + 1) = 0; omega⟩, by omega, by omega, by omega, Nat.le_of_ble_eq_true rfl⟩
theorem both0 (h0 : 0 ≤ pl) (h1 : pl < 16000) (hb : b.length ≤ 6000) : Both pl (16 + (b.length : Int)) ((b.length : Int) + 1) [(pl, 16 + (b.length : Int), false)] [(pl + (16 + (b.length : Int)), (b.length : Int) + 1, true)] :=
  ⟨lie1 h0 h1 hb, lie2 h0 h1 hb, Nat.le_of_ble_eq_true rfl⟩
theorem spl_lie {w : Bool} {A T : Int} {l : List Sg} (h : Lie w A T l) {more : Int} (hm : 0 ≤ more) (hl : (l.length : Int) + more ≤ 64) (hs : sumS l = T) : Lie w A T (splitB l cs more) ∧ ((splitB l cs more).length : Int) ≤ l.length + more := by
  have h3 := h.le
  have h6 := h.a0
  unfold splitB
  rw [hs]
  obtain ⟨g1, g2⟩ := splitS_ok (w := w) (A := A) (T := T) (by omega) (by omega) (cs := cs) (more := more) (a := 0) h.c (Int.le_refl _) hm hl
  exact ⟨⟨g1, h.a0, h.le, h.t1, by omega⟩, g2⟩
theorem Lie.sumS {w : Bool} {A T : Int} {l : List Sg} (h : Lie w A T l) : Proofs.YtfgbhgeppdffaaaGreat.sumS l = T := by
  have h3 := h.le
  have h6 := h.a0
  unfold Proofs.YtfgbhgeppdffaaaGreat.sumS
  rw [h.c.ok h.len (by omega) (by omega), cond_true, h.c.sum.1]
theorem Lie.sp {w : Bool} {A T : Int} {l : List Sg} (h : Lie w A T l) {more : Int} (hm : 0 ≤ more) (hl : (l.length : Int) + more ≤ 64) (hc : cs.length ≤ 70) (hcs : cs.all i64B = true) : spG l cs more (sgSum l) = true := by
  have h3 := h.le
  have h6 := h.a0
  have h7 := h.t1
  rw [h.c.sum.1]
  exact spG_iff.2 ⟨⟨hm, hl, h7, by omega, by omega, h.c.sum.1.symm⟩, h.chk, hcs⟩
theorem lay_law (h0 : 0 ≤ pl) (h1 : pl < 16000) (hb : b.length ≤ 6000) (hc : cs.length ≤ 70) (hcs : cs.all i64B = true) :
    layG b cs 32768 pl b.length = true ∧ ∃ l1 l2, cutB (lySg b pl b.length) cs = l1 ++ l2 ∧ Both pl (16 + (b.length : Int)) ((b.length : Int) + 1) l1 l2 := by
  have B0 := both0 h0 h1 hb
  have e1 : partS false (lySg b pl b.length) = [(pl, 16 + (b.length : Int), false)] := B0.p1
  have e2 : partS true (lySg b pl b.length) = [(pl + (16 + (b.length : Int)), (b.length : Int) + 1, true)] := B0.p2
  have e3 : wfS (lySg b pl b.length) = true := B0.wf
  have e4 : okSg (lySg b pl b.length) = true := B0.ok
  have el : (lySg b pl b.length).length = 2 := rfl
  obtain ⟨g1, g2⟩ := spl_lie (cs := cs) B0.r (more := 64 - ((2 : Nat) : Int)) (by omega) (by show ((1 : Nat) : Int) + (64 - ((2 : Nat) : Int)) ≤ 64; omega) B0.r.sumS
  have g2 : ((splitB [(pl, 16 + (b.length : Int), false)] cs (64 - ((2 : Nat) : Int))).length : Int) ≤ 63 := Int.le_trans g2 (by show ((1 : Nat) : Int) + (64 - ((2 : Nat) : Int)) ≤ 63; omega)
  have hR : cbR (lySg b pl b.length) cs = splitB [(pl, 16 + (b.length : Int), false)] cs (64 - ((2 : Nat) : Int)) := by
    unfold cbR; rw [e1, el]
  have hl2 : ([(pl + (16 + (b.length : Int)), (b.length : Int) + 1, true)] : List Sg).length = 1 := rfl
  have m0 : 0 ≤ 64 - ((splitB [(pl, 16 + (b.length : Int), false)] cs (64 - ((2 : Nat) : Int))).length : Int) - ((1 : Nat) : Int) := by omega
  obtain ⟨k1, k2⟩ := spl_lie (cs := cs) B0.w (more := 64 - ((splitB [(pl, 16 + (b.length : Int), false)] cs (64 - ((2 : Nat) : Int))).length : Int) - ((1 : Nat) : Int)) m0 (by rw [hl2]; omega) B0.w.sumS
  rw [hl2] at k2
  constructor
  · unfold layG cbG
    rw [decide_eq_true (by omega), e3, e4, e1, e2, el, hR, hl2, B0.r.sp (by omega) (by show ((1 : Nat) : Int) + (64 - ((2 : Nat) : Int)) ≤ 64; omega) hc hcs, B0.w.sp m0 (by rw [hl2]; omega) hc hcs]
    rfl
  · refine ⟨_, _, ?_, ⟨g1, k1, ?_⟩⟩
    · unfold cutB
      rw [e4, cond_true, e1, e2, el, hl2]
    · rw [List.length_append]; omega
theorem buf_law (h0 : 0 ≤ pl) (h1 : pl < 16000) (hb : b.length ≤ 6000) {l1 l2 : List Sg} (B : Both pl (16 + (b.length : Int)) ((b.length : Int) + 1) l1 l2) {f f1 f2 : Nat → Int}
    (e1 : f1 = wrM f pl.toNat (lyB b b.length)) (e2 : f2 = writeS f1 (scE (l1 ++ l2) (b ++ [0])) (b ++ [0])) :
    readS f1 (partS false (l1 ++ l2)) = hdB b ∧ scG (l1 ++ l2) (b ++ [0]) 32768 = true ∧ ofS (scE (l1 ++ l2) (b ++ [0])) (scE (l1 ++ l2) (b ++ [0])).length = b.length + 1 ∧
    rsG (l1 ++ l2) 32768 f2 ((b.length : Int) + 1) = true ∧ (rsX f2 (partS true (l1 ++ l2))).take ((b.length : Int) + 1 - 1).toNat = b ∧ readS f2 (partS false (l1 ++ l2)) = hdB b := by
  have hl := hdB_len b
  have hb1 : (b ++ [0]).length = b.length + 1 := by rw [List.length_append]; rfl
  have hly : (lyB b b.length).length = 16 + b.length + ((b.length : Int) + 1).toNat := by
    show (hdB b ++ List.replicate ((b.length : Int) + 1).toNat 0).length = _
    rw [List.length_append, List.length_replicate, hl]
  have hsc : scE (l1 ++ l2) (b ++ [0]) = l2 := by
    unfold scE
    rw [B.p2, hb1]
    exact B.w.c.all (by omega)
  have hof : ofS l2 l2.length = b.length + 1 := by rw [B.w.of]; omega
  have hr1 : readS f1 (partS false (l1 ++ l2)) = hdB b := by
    rw [B.p1, B.r.read, e1, memL_take _ _ _ _ (by rw [hly]; omega)]
    show List.take _ (hdB b ++ _) = _
    rw [List.take_append_of_le_length (by rw [hl]; omega), List.take_of_length_le (by rw [hl]; omega)]
  have hf2 : f2 = wrM f1 (pl + (16 + (b.length : Int))).toNat (b ++ [0]) := by
    rw [e2, hsc]
    exact B.w.c.write B.w.a0 (by rw [hb1]; omega)
  have hx : rsX f2 (partS true (l1 ++ l2)) = b ++ [0] := by
    unfold rsX
    rw [B.p2, B.w.reads.c.part.1, B.w.reads.read, hf2]
    have := memL_own f1 (b ++ [0]) (pl + (16 + (b.length : Int))).toNat
    rw [hb1] at this
    rw [show ((b.length : Int) + 1).toNat = b.length + 1 by omega]
    exact this
  have hwr : wrI l2 = (b.length : Int) + 1 := by
    rw [wrI_eq, B.w.c.ok B.w.len (by omega) (by have := B.w.le; omega), cond_true]
    unfold wrS
    rw [B.w.c.part.1, B.w.c.sum.1]
  refine ⟨hr1, ?_, by rw [hsc]; exact hof, ?_, ?_, ?_⟩
  · unfold scG
    have hea : eaG l2 ((b.length + 1 : Nat) : Int) = true := by
      unfold eaG
      have := B.w.len
      rw [decide_eq_true (show l2.length ≤ 100000 ∧ 0 ≤ ((b.length + 1 : Nat) : Int) ∧ ((b.length + 1 : Nat) : Int) < 18446744073709551616 by omega), B.w.wf, B.w.bs]; rfl
    have := B.w.len
    have h4 := B.w.len0
    rw [hsc, B.wf, B.ok, B.mem, B.p2, hb1, hof, hea, B.w.sg, decide_eq_true (show l2.length ≠ 0 ∧ b.length + 1 ≤ 4294967296 ∧ l2.length ≠ 0 ∧ l2.length ≤ 1000 ∧ b.length + 1 ≤ b.length + 1 by omega)]
    rfl
  · unfold rsG
    rw [hx, B.p2, hwr, B.wf, B.ok, B.mem, B.w.wf, B.w.reads.ga f2, hb1]
    have hg : (b ++ [(0 : Int)]).getD ((b.length : Int) + 1 - 1).toNat 0 = 0 := by
      rw [show ((b.length : Int) + 1 - 1).toNat = b.length by omega, List.getD_eq_getElem?_getD, List.getElem?_append_right (Nat.le_refl _), Nat.sub_self]; rfl
    rw [decide_eq_true ⟨B.w.len0, by omega, by omega, Int.le_refl _, by omega, by omega, hg⟩]
    rfl
  · rw [hx, show ((b.length : Int) + 1 - 1).toNat = b.length by omega, List.take_append_of_le_length (Nat.le_refl _), List.take_of_length_le (Nat.le_refl _)]
  · rw [← hr1, B.p1, B.r.read, B.r.read, hf2]
    exact memL_apart (.inl (by omega))
end
end
end Go.Proofs.YtfgbhgeppdffaaaGreat
namespace Go.Proofs.YtfgbhgeppdffaaaGreat
open Go Go.Sx Go.RowKit
set_option maxRecDepth 1000000
set_option maxHeartbeats 8000000
set_option linter.unusedVariables false
noncomputable section
namespace Bu
theorem f4_ex : ∃ fn, Tryz.prog.funcs[(4 : Nat)]? = some fn ∧ fn.body = some c4 ∧ fn.ntmps = 142 ∧ fn.results = #[.tmp 6] := ⟨_, rfl, by kernel_rfl, by kernel_rfl, by kernel_rfl⟩
theorem lps_4 : ([b0, b1, b2, b3, b4, b5, b6, b7, b8, b9, b10, b12].all fun c => (lps 0 c).isEmpty) = true := by kernel_rfl
theorem lp4 : ∀ c ∈ [b0, b1, b2, b3, b4, b5, b6, b7, b8, b9, b10, b12], lps 0 c = [] := fun c hc => List.isEmpty_iff.1 (List.all_eq_true.1 lps_4 c hc)
section
variable {fz : Nat → Prop} {w0 : World} {ρ0 : Asg} {S0 : List (SO CT)} {bo co : Ar}
theorem step4 {c : Code} (hc : lps 0 c = []) {slots outs : List Nat} {vs vs' : List SV} {os os' : List (SO CT)} {x : Ex} (h : (bfL c slots outs ⟨vs, nK bo co, os⟩).get = some (x, vs', os')) (hle : nK bo co ≤ os.length) {a : Act} {w : World} (H : Pq (nK bo co) fz w0 ρ0 S0 142 slots vs os a w) :
    c.wp Tryz.prog (fun e a' w' => e = exitOf x ∧ Pq (nK bo co) fz w0 ρ0 S0 142 outs vs' os' a' w') a w := by
  obtain ⟨fn, h1, h2, h3, _⟩ := f4_ex
  exact Pq.step spF4_ok h1 h2 h3 hc h (Nat.le_refl _) hle H
theorem len_OB : (OB bo co).length = nK bo co := by cases bo <;> cases co <;> rfl
theorem le_app (l : List (SO CT)) : nK bo co ≤ (OB bo co ++ l).length := by rw [List.length_append, len_OB]; exact Nat.le_add_right _ _
theorem keep_OB : keepsB (OB bo co) (OB bo co) = true := by cases bo <;> cases co <;> rfl
theorem sEq_of {xs ys : List Int} (h : xs = ys) : sEq xs ys = true := by subst h; exact beq_self_eq_true _
theorem pick_in (pl : Int) : ∃ x : Int, 0 ≤ x ∧ x < 16000 ∧ ∀ (n : Int) (bs : List Int) (N : Nat) (f : Nat → Int), (bfL b6 [0, 1, 2, 7, 9] [0, 7, 8, 9, 10] ⟨vA bo co pl ++ [.h (nK bo co), .h (nK bo co + 1)], nK bo co, S5 bo co n bs N f⟩).get = lfB bo co bs n N f x := by
  have h1 := Int.tmod_lt_of_pos pl (show (0 : Int) < 16000 by decide)
  have h2 : -16000 < pl.tmod 16000 := by
    have := Int.lt_tmod_of_pos pl (show (0 : Int) < 16000 by decide)
    omega
  by_cases hneg : pl.tmod 16000 < 0
  · refine ⟨pl.tmod 16000 + 16000, by omega, by omega, fun n bs N f => (q6 bo co pl n bs N f).trans ?_⟩
    rw [decide_eq_true hneg, inR64_mk (show -9223372036854775808 ≤ pl.tmod 16000 + 16000 ∧ pl.tmod 16000 + 16000 ≤ 9223372036854775807 by omega)]
    rfl
  · refine ⟨pl.tmod 16000, by omega, by omega, fun n bs N f => (q6 bo co pl n bs N f).trans ?_⟩
    rw [decide_eq_false hneg]
    rfl
theorem f4_ok (pl : Int) (hcs : (arL co).all i64B = true) : FnB Tryz.prog 4 (vA bo co pl) (OB bo co) (.raw (.bool true), OB bo co) := by
  refine FnB.ofSelf (by kernel_rfl) keep_OB (fun i o hi hl => .inr ⟨o, (List.getElem?_eq_some_iff.1 hi).1, hi, hl⟩) fun fz ρ w vals S hd => ?_
  obtain ⟨u0, ul, d0, d1, rfl⟩ := denL_cons.1 hd
  obtain ⟨u1, ul2, d2, d3, rfl⟩ := denL_cons.1 d1
  obtain ⟨u2, ul3, d4, d5, rfl⟩ := denL_cons.1 d3
  rw [denL_nil] at d5
  subst d5
  cases d2
  obtain ⟨fn, h1, h2, h3, h4⟩ := f4_ex
  refine calls_of_wp h1 h2 ?_
  rw [h3]
  have l0 : nK bo co ≤ (OB bo co).length := by rw [len_OB]; exact Nat.le_refl _
  have H0 : Pq (nK bo co) fz w ρ (OB bo co) 142 [0, 1, 2] (vA bo co pl) (OB bo co) { tmps := #[u0, .int .i64 pl, u2] ++ Array.replicate (142 - (#[u0, .int .i64 pl, u2] : Array Value).size) undef, defers := [] } w :=
    ⟨by rw [Array.size_append, Array.size_replicate]; rfl, rfl, ρ, S, TmL.ok (ts := [0, 1, 2]) ⟨⟨u0, d0, arg_at rfl⟩, ⟨_, rfl, arg_at rfl⟩, ⟨u2, d4, arg_at rfl⟩, trivial⟩, fun _ _ => rfl, Bg.start⟩
  have done : ∀ a1 w1, Pq (nK bo co) fz w ρ (OB bo co) 142 [6] [.raw (.bool true)] (OB bo co) a1 w1 → bodyPost Tryz.prog fn (fun e w' => ∃ ρ' u, e = .returned u ∧ (∀ j, j < (OB bo co).length → ρ' j = ρ j) ∧ Self fz ρ' (OB bo co) w' ∧ Stood ρ (OB bo co) w w' ∧ (∀ g, Mine ρ' (OB bo co) g → w.heap.size ≤ g ∨ Mine ρ (OB bo co) g) ∧ den ρ' (.raw (.bool true)) = some u) .ret a1 w1 := by
    intro a1 w1 H
    have z6 := H.tm (t := 6) (v := .bool true) rfl
    obtain ⟨_, hd8, ρ', S8, T8, A8, B8⟩ := H
    refine bodyPost_ret (results_tmp h4 _ _ _) hd8 ⟨ρ', _, rfl, by rw [len_OB]; exact A8, S8, B8.st, B8.mn, ?_⟩
    have x6 : a1.tmps.getD 6 undef = .bool true := by rw [Array.getD_eq_getD_getElem?, z6]; rfl
    rw [x6]; rfl
  rw [c4_eq]
  refine wp_seq (wp_mono (step4 (lp4 _ (by simp)) (q0 bo co pl) l0 H0) fun e a1 w1 hq => ?_)
  obtain ⟨rfl, H1⟩ := hq
  refine wp_seq (wp_mono (step4 (lp4 _ (by simp)) (q1 bo co pl) l0 H1) fun e a2 w2 hq => ?_)
  obtain ⟨rfl, H2⟩ := hq
  by_cases c1 : (6000 : Int) < ((arL bo).length : Int)
  · have p2 : (bfL b2 [0, 1, 2] [6] ⟨vA bo co pl, nK bo co, OB bo co⟩).get = some (Ex.ret, [.raw (.bool true)], OB bo co) := (q2r bo co pl).trans (by rw [decide_eq_true c1]; rfl)
    refine wp_seq (wp_mono (step4 (lp4 _ (by simp)) p2 l0 H2) fun e a3 w3 hq => ?_)
    obtain ⟨rfl, H3⟩ := hq
    exact done _ _ H3
  by_cases c2 : (70 : Int) < ((arL co).length : Int)
  · have p2 : (bfL b2 [0, 1, 2] [6] ⟨vA bo co pl, nK bo co, OB bo co⟩).get = some (Ex.ret, [.raw (.bool true)], OB bo co) := (q2r bo co pl).trans (by rw [decide_eq_false c1, decide_eq_true c2]; rfl)
    refine wp_seq (wp_mono (step4 (lp4 _ (by simp)) p2 l0 H2) fun e a3 w3 hq => ?_)
    obtain ⟨rfl, H3⟩ := hq
    exact done _ _ H3
  have hb : (arL bo).length ≤ 6000 := by omega
  have hc : (arL co).length ≤ 70 := by omega
  have p2 : (bfL b2 [0, 1, 2] [0, 1, 2] ⟨vA bo co pl, nK bo co, OB bo co⟩).get = some (Ex.normal, vA bo co pl, OB bo co) := (q2 bo co pl).trans (by rw [decide_eq_false c1, decide_eq_false c2]; rfl)
  refine wp_seq (wp_mono (step4 (lp4 _ (by simp)) p2 l0 H2) fun e a3 w3 hq => ?_)
  obtain ⟨rfl, H3⟩ := hq
  refine wp_seq (wp_mono (step4 (lp4 _ (by simp)) (q3 bo co pl) l0 H3) fun e a4 w4 hq => ?_)
  obtain ⟨rfl, H4⟩ := hq
  refine wp_seq (wp_mono (step4 (lp4 _ (by simp)) (q4 bo co pl _ _) (le_app _) H4) fun e a5 w5 hq => ?_)
  obtain ⟨rfl, H5⟩ := hq
  have rm : roomB (([] : List Int).length + (arL bo).length) Tryz.prog.types[(5 : Nat)].bytes = true := rmB (by rw [List.length_nil]; omega)
  refine wp_seq (wp_mono (step4 (lp4 _ (by simp)) ((q5 bo co pl _ _).trans (by rw [rm]; rfl)) (le_app _) H5) fun e a6 w6 hq => ?_)
  obtain ⟨rfl, H6⟩ := hq
  obtain ⟨x, x0, x1, hx⟩ := pick_in (bo := bo) (co := co) pl
  obtain ⟨g1, l1, l2, g2, B⟩ := lay_law (cs := arL co) x0 x1 hb hc hcs
  have xm : x % 18446744073709551616 = x := Int.emod_eq_of_lt x0 (by omega)
  have eL : layL (arL bo) (arL co) x ((arL bo).length : Int) = l1 ++ l2 := (opq_eq _).trans g2
  have eG : layGI (arL bo) (arL co) 32768 x ((arL bo).length : Int) = true := (opq_eq _).trans g1
  obtain ⟨f1, e1⟩ : ∃ f1, layM (fun _ => 0) (arL bo) x ((arL bo).length : Int) = f1 := ⟨_, rfl⟩
  obtain ⟨f2, e2⟩ : ∃ f2, scM f1 (l1 ++ l2) (arL bo ++ [0]) = f2 := ⟨_, rfl⟩
  obtain ⟨k1, k2, k3, k4, k5, k6⟩ := buf_law x0 x1 hb B (f := fun _ => 0) (f1 := f1) (f2 := f2) (e1.symm.trans (opq_eq _)) (e2.symm.trans (opq_eq _))
  have p6 : (bfL b6 [0, 1, 2, 7, 9] [0, 7, 8, 9, 10] ⟨vA bo co pl ++ [.h (nK bo co), .h (nK bo co + 1)], nK bo co, S5 bo co ((arL bo).length : Int) (arL bo) 32768 fun _ => 0⟩).get = some (Ex.normal, [arV 0 bo, .h (nK bo co), ZZ, .h (nK bo co + 1), .h (nK bo co + 2)], S6 bo co ((arL bo).length : Int) (arL bo) (l1 ++ l2) 32768 f1) := by
    rw [hx]
    show bro _ _ _ = _
    rw [xm, rgB_self, eG, eL, e1]
    rfl
  refine wp_seq (wp_mono (step4 (lp4 _ (by simp)) p6 (le_app _) H6) fun e a7 w7 hq => ?_)
  obtain ⟨rfl, H7⟩ := hq
  have hbg : bytG (arL bo) ((arL bo).length : Int) = true := decide_eq_true ⟨by omega, by omega⟩
  refine wp_seq (wp_mono (step4 (lp4 _ (by simp)) ((q7 bo co _ _ _ _ _).trans (by rw [hbg]; rfl)) (le_app _) H7) fun e a8 w8 hq => ?_)
  obtain ⟨rfl, H8⟩ := hq
  have hg1 : gaGI (l1 ++ l2) 32768 f1 = true := (gaGI_eq _ _ _).trans (B.ga f1)
  have hg2 : gaGI (l1 ++ l2) 32768 f2 = true := (gaGI_eq _ _ _).trans (B.ga f2)
  refine wp_seq (wp_mono (step4 (lp4 _ (by simp)) ((q8 bo co _ _ _ _).trans (by rw [rgB_self, hg1]; rfl)) (le_app _) H8) fun e a9 w9 hq => ?_)
  obtain ⟨rfl, H9⟩ := hq
  have hs1 : sEq (readI f1 (l1 ++ l2)) (hdB (arL bo)) = true := sEq_of ((readI_eq _ _).trans k1)
  refine wp_seq (wp_mono (step4 (lp4 _ (by simp)) ((q9 bo co _ _ _ _ _).trans (by rw [hs1]; rfl)) (le_app _) H9) fun e a10 w10 hq => ?_)
  obtain ⟨rfl, H10⟩ := hq
  have rm2 : roomB ((([] : List Int) ++ arL bo).length + [(0 : Int)].length) Tryz.prog.types[(5 : Nat)].bytes = true := rmB (by rw [List.nil_append]; show (arL bo).length + 1 ≤ _; omega)
  have hsc : scGI (l1 ++ l2) (arL bo ++ [0]) 32768 = true := (opq_eq _).trans k2
  refine wp_seq (wp_mono (step4 (lp4 _ (by simp)) ((q10 bo co _ _ _ _).trans (by rw [rm, rm2, rgB_self, hsc, e2]; rfl)) (le_app _) H10) fun e a11 w11 hq => ?_)
  obtain ⟨rfl, H11⟩ := hq
  have hn : scN (l1 ++ l2) (arL bo ++ [0]) = ((arL bo).length : Int) + 1 := (opq_eq _).trans (by rw [k3]; omega)
  have i1 : inR64 (((arL bo).length : Int) + 1) = true := inR64_mk (by omega)
  have hm : (((arL bo).length : Int) + 1) % 4294967296 = ((arL bo).length : Int) + 1 := by omega
  have hrs : rsGI (l1 ++ l2) 32768 f2 (((arL bo).length : Int) + 1) = true := (opq_eq _).trans k4
  have hrb : rsB f2 (l1 ++ l2) (((arL bo).length : Int) + 1) = arL bo := (opq_eq _).trans k5
  have p11 : bro (inR64 (((arL bo).length : Int) + (1 : Int))) (lfR bo co (l1 ++ l2) (hdB (arL bo)) (scN (l1 ++ l2) (arL bo ++ [0])) 32768 f2 (((arL bo).length : Int) + 1)) (lfR bo co (l1 ++ l2) (hdB (arL bo)) (scN (l1 ++ l2) (arL bo ++ [0])) 32768 f2 (IntKind.i64.wrap (((arL bo).length : Int) + (1 : Int)))) = some (Ex.normal, [arV 0 bo, .h (nK bo co), .h (nK bo co + 1), .h (nK bo co + 2), .raw (.int .i64 (scN (l1 ++ l2) (arL bo ++ [0]))), ZZ, .h (nK bo co + 3), .raw (.int .u8 0), ZZ], S8 bo co (l1 ++ l2) (hdB (arL bo)) (arL bo) 32768 f2) := by
    unfold lfR
    rw [i1, rgB_self, hm, hrs, hrb]; rfl
  refine wp_seq (wp_mono (Pq.two spF4_ok b11_eq (q11a bo co (l1 ++ l2) (hdB (arL bo)) _ 32768 f2) ((q11b bo co (l1 ++ l2) (hdB (arL bo)) (scN (l1 ++ l2) (arL bo ++ [0])) ((arL bo).length : Int) 32768 f2).trans p11) (Nat.le_refl _) (le_app _) (le_app _) H11) fun e a12 w12 hq => ?_)
  obtain ⟨rfl, H12⟩ := hq
  refine wp_seq (wp_mono (step4 (lp4 _ (by simp)) ((q12 bo co _ _ _ _ _ _).trans (by rw [rgB_self, hg2]; rfl)) (le_app _) H12) fun e a13 w13 hq => ?_)
  obtain ⟨rfl, H13⟩ := hq
  have hs2 : sEq (readI f2 (l1 ++ l2)) (hdB (arL bo)) = true := sEq_of ((readI_eq _ _).trans k6)
  have p13 : bro (inR64 (((arL bo).length : Int) + (1 : Int))) (lfE bo co (hdB (arL bo)) (arL bo) (readI f2 (l1 ++ l2)) (scN (l1 ++ l2) (arL bo ++ [0])) (((arL bo).length : Int) + 1)) (lfE bo co (hdB (arL bo)) (arL bo) (readI f2 (l1 ++ l2)) (scN (l1 ++ l2) (arL bo ++ [0])) (IntKind.i64.wrap (((arL bo).length : Int) + (1 : Int)))) = some (Ex.normal, [.raw (.bool true)], OB bo co) := by
    unfold lfE
    rw [i1, hn, beq_self_eq_true, sEq_of (rfl : arL bo = arL bo), hs2]; rfl
  refine wp_seq (wp_mono (Pq.two spF4_ok b13_eq (q13a bo co (hdB (arL bo)) (arL bo) (readI f2 (l1 ++ l2)) _) ((q13b bo co (hdB (arL bo)) (arL bo) (readI f2 (l1 ++ l2)) (scN (l1 ++ l2) (arL bo ++ [0])) ((arL bo).length : Int)).trans p13) (Nat.le_refl _) (le_app _) (le_app _) H13) fun e a14 w14 hq => ?_)
  obtain ⟨rfl, H14⟩ := hq
  exact wp_ret (done _ _ H14)
end
end Bu
end
end Go.Proofs.YtfgbhgeppdffaaaGreat
