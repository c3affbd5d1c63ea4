/-
  Chapter 8: the functions of the free list. Own work; nothing here is trusted.
-/
import Derived.Test.YtkhlmlcjedbkcaaCh08Free4
namespace Go.Proofs.Ytkhlmlcjedbkcaa
open Go Go.Sx Go.RowKit
set_option maxRecDepth 1000000
set_option maxHeartbeats 8000000
set_option linter.unusedVariables false
set_option linter.unusedSimpArgs false
noncomputable section
abbrev catL (a b : List Int) : List Int := a ++ b
theorem bm_fn (full : Bool) (size : Int) (ts : List Int) : Tr.follow [false, false, false, false, false, false, false, false, false, false, true, false, true, true, true, true, true, true] (fB 17 [.agg [.raw (.int .i64 size), .h 0]] [.sl false full 3 ts]) = some ([decide (size < (1 : Int)), false, false, decide ((32768 : Int) < size), false, false, false, false, false, decide (size < (ts.length : Int)), inR64 (size + (63 : Int)), false, inR64 ((size + (63 : Int)).tdiv (64 : Int)), decide ((0 : Int) ≤ (size + (63 : Int)).tdiv (64 : Int)) && (decide ((size + (63 : Int)).tdiv (64 : Int) ≤ (size + (63 : Int)).tdiv (64 : Int)) && (decide ((Try.prog.types[(45 : Nat)].bytes : Int) * (size + (63 : Int)).tdiv (64 : Int) ≤ (281474976710656 : Int)) && decide ((size + (63 : Int)).tdiv (64 : Int) ≤ (9223372036854775807 : Int)))), decide ((size + (63 : Int)).tdiv (64 : Int) = (size + (63 : Int)).tdiv (64 : Int)), (ts.length : Int) == (ts.length : Int), fits size ts (noBits ((size + 63).tdiv 64).toNat), addOk size ts (noBits ((size + 63).tdiv 64).toNat)], (.tup [.h 1, .raw (.bool true)], [.sl true true 45 (bmL size ts)])) := by kernel_rfl
theorem chk_fn (full : Bool) (size : Int) (ts : List Int) : Tr.follow [true, false] (fC 15 [.agg [.raw (.int .i64 size), .h 0]] [.sl false full 3 ts]) = some ([okF size ts, false], (.raw (.int .i64 0), [])) := by kernel_rfl
theorem tk_fn (full : Bool) (size n : Int) (ts : List Int) : Tr.follow [true, false, false, false, false, true, false, true, true, false, true] (fT 9 [.agg [.raw (.int .i64 size), .h 0], .raw (.int .i64 n)] [.sl false full 3 ts]) = some ([okF size ts, false, false, decide (n < (1 : Int)), decide ((ts.length : Int) < n), bOk (intO (0 : Int) none) (intO ((ts.length : Int)) (some n)) (ts.length : Int), false, roomB (([] : List Int).length + (List.drop (intO (0 : Int) none).toNat (List.take (intO ((ts.length : Int)) (some n)).toNat ts)).length) Try.prog.types[(3 : Nat)].bytes, bOk (intO (0 : Int) (some n)) (intO ((ts.length : Int)) none) (ts.length : Int), false, roomB (([] : List Int).length + (List.drop (intO (0 : Int) (some n)).toNat (List.take (intO ((ts.length : Int)) none).toNat ts)).length) Try.prog.types[(3 : Nat)].bytes], (.tup [.h 1, .agg [.raw (.int .i64 size), .h 2], .raw (.int .i64 0)], [.sl true false 3 ((ts.take (intO (ts.length : Int) (some n)).toNat).drop (intO 0 none).toNat), .sl true false 3 ((ts.take (intO (ts.length : Int) none).toNat).drop (intO 0 (some n)).toNat)])) := by kernel_rfl
theorem gv_fn (full f2 : Bool) (size : Int) (ts us : List Int) : Tr.follow [true, false, true, true, true, true, true, false, true, true, true, false, true, true] (fC 10 [.agg [.raw (.int .i64 size), .h 0], .h 1] [.sl false full 3 ts, .sl false f2 3 us]) =
  some ([okF size ts,
  false,
  (↑us.length : Int) == (↑us.length : Int),
  inAll size us && small us,
  (↑us.length : Int) == (↑us.length : Int),
  fits size us (bmL size ts),
  addOk size us (bmL size ts),
  false,
  roomB (([] : List Int).length + us.length) Try.prog.types[(3 : Nat)].bytes,
  bOk (0 : Int) (↑(([] : List Int) ++ us).length : Int) (↑(([] : List Int) ++ us).length : Int) && decide ((↑(([] : List Int) ++ us).length : Int) ≤ roomV (0 : Nat) (([] : List Int) ++ us).length none),
  decide ((0 : Nat) + (↑(([] : List Int) ++ us).length : Int).toNat ≤ (([] : List Int) ++ us).length),
  decide ((↑(([] : List Int) ++ us).length : Int).toNat + ts.length ≤ (↑(([] : List Int) ++ us).length : Int).toNat),
  true,
  roomB ((↑(([] : List Int) ++ us).length : Int).toNat + ts.length) Try.prog.types[(3 : Nat)].bytes],
  (SV.tup [SV.agg [SV.raw (Value.int IntKind.i64 size), SV.h (2 : Nat)], SV.raw (Value.int IntKind.i64 (0 : Int))], [SO.sl true false (3 : Nat) (List.take (↑(([] : List Int) ++ us).length : Int).toNat (List.drop (0 : Nat) (([] : List Int) ++ us)) ++ ts)])) := by kernel_rfl
theorem ge_fn (full f2 : Bool) (size : Int) (ts us : List Int) : Tr.follow [true, false, true, true, true, true, true, false, true, true, true, true, true, true, true] (fC 10 [.agg [.raw (.int .i64 size), .h 0], .h 1] [.sl false full 3 ts, .sl false f2 3 us]) =
  some ([okF size ts,
  false,
  (↑us.length : Int) == (↑us.length : Int),
  inAll size us && small us,
  (↑us.length : Int) == (↑us.length : Int),
  fits size us (bmL size ts),
  addOk size us (bmL size ts),
  false,
  roomB (([] : List Int).length + us.length) Try.prog.types[(3 : Nat)].bytes,
  bOk (0 : Int) (↑(([] : List Int) ++ us).length : Int) (↑(([] : List Int) ++ us).length : Int) && decide ((↑(([] : List Int) ++ us).length : Int) ≤ roomV (0 : Nat) (([] : List Int) ++ us).length none),
  decide ((0 : Nat) + (↑(([] : List Int) ++ us).length : Int).toNat ≤ (([] : List Int) ++ us).length),
  decide ((↑(([] : List Int) ++ us).length : Int).toNat + ts.length ≤ (↑(([] : List Int) ++ us).length : Int).toNat),
  decide ((0 : Nat) + (↑(([] : List Int) ++ us).length : Int).toNat + ts.length ≤ (([] : List Int) ++ us).length),
  true,
  shutB ((↑(([] : List Int) ++ us).length : Int).toNat + ts.length) (overL (([] : List Int) ++ us) ((0 : Nat) + (↑(([] : List Int) ++ us).length : Int).toNat) ts).length (some (↑(([] : List Int) ++ us).length : Int).toNat)],
  (SV.tup [SV.agg [SV.raw (Value.int IntKind.i64 size), SV.h (2 : Nat)], SV.raw (Value.int IntKind.i64 (0 : Int))], [SO.sl true false (3 : Nat) (List.take ((↑(([] : List Int) ++ us).length : Int).toNat + ts.length) (overL (([] : List Int) ++ us) ((0 : Nat) + (↑(([] : List Int) ++ us).length : Int).toNat) ts))])) := by kernel_rfl
theorem nw_fn (size : Int) : Tr.follow [false, false, false, true] (fB 8 [.raw (.int .i64 size)] []) = some ([decide (size < (1 : Int)), false, decide ((32768 : Int) < size), size == size && decide ((1 : Int) ≤ size ∧ size ≤ (1000 : Int))], (.tup [.agg [.raw (.int .i64 size), .h 0], .raw (.int .i64 0)], [.sl true false 3 (upto size.toNat)])) := by kernel_rfl
theorem in_fn (full f2 : Bool) (ts us : List Int) : Tr.follow [false, true] (fB 11 [.h 0, .h 1] [.sl false full 3 ts, .sl false f2 3 us]) = some ([(ts.length : Int) != (us.length : Int), eqL ts us && small ts], (.raw (.bool true), [])) := by kernel_rfl
theorem sm_fn (full f2 : Bool) (s1 s2 : Int) (ts us : List Int) : Tr.follow [true, true, true, true, true, false, true, true] (fB 12 [.agg [.raw (.int .i64 s1), .h 0], .agg [.raw (.int .i64 s2), .h 1]] [.sl false full 3 ts, .sl false f2 3 us]) = some ([s1 == s2, true, true, true, true, (ts.length : Int) != (us.length : Int), (ts.length : Int) == (ts.length : Int), eqL ts us && small ts], (.raw (.bool true), [])) := by kernel_rfl
theorem bytes45 : Try.prog.types[(45 : Nat)].bytes = 8 := by kernel_rfl
theorem bytes3 : Try.prog.types[(3 : Nat)].bytes = 8 := by kernel_rfl
theorem wds {size : Int} (h : 1 ≤ size ∧ size ≤ 1000) : 0 ≤ (size + 63).tdiv 64 ∧ (size + 63).tdiv 64 ≤ 17 ∧ size ≤ 64 * (size + 63).tdiv 64 := by
  rw [Int.tdiv_eq_ediv_of_nonneg (by omega)]; omega
theorem noBits_len (n : Nat) : (noBits n).length = n := by unfold noBits; exact List.length_replicate
theorem bmT_ok : ∀ args os r, (bmT args os).get = some r → Fn0 Try.prog 17 args os r := fun args os r h => by
  unfold bmT at h
  split at h
  · rename_i size full ts
    obtain ⟨h1, h2⟩ := Tr.get_ask.1 h
    simp only [Tr.get, Option.some.injEq] at h2
    subst h2
    change List Int at ts
    obtain ⟨hs, hr, hd⟩ := okF_iff.1 h1
    obtain ⟨w1, w2, w3⟩ := wds (size := size) (by omega)
    refine fnC_ok (sp := noSp) (ls := l8) (unr := un8) (d := 10) plain mixed noSp_ok l8_ok ?_
    have hp := bm_fn full size ts
    have hf : fits size ts (noBits ((size + 63).tdiv 64).toNat) = true := decide_eq_true (by rw [noBits_len]; omega)
    have ha : addOk size ts (noBits ((size + 63).tdiv 64).toNat) = true := addOk_new (by omega) hr hd
    have e1 := decide_eq_false (show ¬ size < 1 by omega)
    have e2 := decide_eq_false (show ¬ 32768 < size by omega)
    have e3 := decide_eq_false (show ¬ size < (ts.length : Int) by omega)
    have e4 := inR64_mk (r := size + 63) (by omega)
    generalize (size + 63).tdiv 64 = W at *
    simp only [e1, e2, e3, e4, hf, ha, inR64_mk (r := W) (by omega), bytes45, decide_eq_true w1, decide_eq_true (Int.le_refl W), decide_eq_true (show ((8 : Nat) : Int) * W ≤ 281474976710656 by omega), decide_eq_true (show W ≤ 9223372036854775807 by omega), decide_true, Bool.and_self, beq_self_eq_true] at hp
    exact Tr.follow_get hp rfl
  · cases h
theorem sfB_ok : SpecTOk Try.prog sfB := addS_ok (viewS_ok bmT_ok) noSp_ok
theorem chkT_ok : ∀ args os r, (chkT args os).get = some r → Fn0 Try.prog 15 args os r := fun args os r h => by
  unfold chkT at h
  split at h
  · rename_i size full ts
    obtain ⟨h1, h2⟩ := Tr.get_ask.1 h
    simp only [Tr.get, Option.some.injEq] at h2
    subst h2
    refine fnC_ok (sp := sfB) (ls := l8) (unr := un8) (d := 10) plain mixed sfB_ok l8_ok ?_
    exact Tr.follow_get (chk_fn full size ts) (by rw [h1])
  · cases h
theorem sfC_ok : SpecTOk Try.prog sfC := addS_ok (viewS_ok chkT_ok) noSp_ok
theorem room3 {n : Nat} (h : n ≤ 1000) : roomB n Try.prog.types[(3 : Nat)].bytes = true := decide_eq_true (by rw [bytes3]; omega)
theorem takeT_ok : ∀ args os r, (takeT args os).get = some r → Fn0 Try.prog 9 args os r := fun args os r h => by
  unfold takeT at h
  split at h
  · rename_i size n full ts
    obtain ⟨h1, h⟩ := Tr.get_ask.1 h
    obtain ⟨hn, h2⟩ := Tr.get_ask.1 h
    simp only [Tr.get, Option.some.injEq] at h2
    subst h2
    change List Int at ts
    obtain ⟨hs, hr, hd⟩ := okF_iff.1 h1
    have hn : 1 ≤ n ∧ n ≤ (ts.length : Int) := of_decide_eq_true hn
    refine fnC_ok (sp := sfC) (ls := l8) (unr := un8) (d := 10) plain mixed sfC_ok l8_ok ?_
    have hp := tk_fn full size n ts
    simp only [intO] at hp
    have r1 : roomB (([] : List Int).length + (List.drop (Int.toNat 0) (List.take n.toNat ts)).length) Try.prog.types[(3 : Nat)].bytes = true := room3 (by simp [List.length_take]; omega)
    have r2 : roomB (([] : List Int).length + (List.drop n.toNat (List.take ((ts.length : Int)).toNat ts)).length) Try.prog.types[(3 : Nat)].bytes = true := room3 (by simp [List.length_drop]; omega)
    have t1 : List.drop (Int.toNat 0) (List.take n.toNat ts) = tkL ts n := rfl
    have t2 : List.drop n.toNat (List.take ((ts.length : Int)).toNat ts) = drL ts n := by rw [show ((ts.length : Int)).toNat = ts.length from rfl, List.take_length]; rfl
    simp only [h1, r1, r2, decide_eq_false (show ¬ n < 1 by omega), decide_eq_false (show ¬ (ts.length : Int) < n by omega), bOk_mk (l := 0) (h := n) (len := (ts.length : Int)) ⟨by omega, by omega, by omega⟩, bOk_mk (l := n) (h := (ts.length : Int)) (len := (ts.length : Int)) ⟨by omega, by omega, by omega⟩] at hp
    have tt : (List.drop (Int.toNat 0) (List.take n.toNat ts), List.drop n.toNat (List.take ((ts.length : Int)).toNat ts)) = (tkL ts n, drL ts n) := by rw [t1, t2]
    exact (Tr.follow_get hp rfl).trans (congrArg (fun p : List Int × List Int => some ((SV.tup [SV.h 1, .agg [.raw (.int .i64 size), .h 2], .raw (.int .i64 0)], [SO.sl true false 3 p.1, SO.sl true false 3 p.2]) : SV × List (SO C8))) tt)
  · cases h
def okG (size : Int) (ts us : List Int) : Bool := okF size (us ++ ts)
def giveT : FnF C8 := fun args os => match args, os with
  | [.agg [.raw (.int .i64 size), .h 0], .h 1], [.sl false full 3 ts, .sl false f2 3 us] => .br (okG size ts us) (.leaf (.tup [.agg [.raw (.int .i64 size), .h 2], .raw (.int .i64 0)], [.sl true false 3 (us ++ ts)])) .fail
  | _, _ => .fail
theorem okG_parts {size : Int} {ts us : List Int} (h : okG size ts us = true) : okF size ts = true ∧ inAll size us = true ∧ us.length ≤ 300 ∧ ts.length ≤ 300 ∧ size ≤ 300 ∧ fits size us (bmL size ts) = true ∧ addOk size us (bmL size ts) = true := by
  obtain ⟨hs, hr, hd⟩ := okF_iff.1 h
  rw [List.length_append] at hs
  have hdt := (List.nodup_append.1 hd)
  have okt : okF size ts = true := okF_iff.2 ⟨⟨by omega, by omega, by omega⟩, fun x hx => hr x (List.mem_append_right _ hx), hdt.2.1⟩
  obtain ⟨w1, w2, w3⟩ := wds (size := size) (by omega)
  have hperm : (ts ++ us).Nodup := (List.perm_append_comm.nodup_iff).1 hd
  have ha := addOk_new (size := size) (n := ((size + 63).tdiv 64).toNat) (l := ts ++ us) (by omega) (fun x hx => hr x (by rw [List.mem_append] at hx ⊢; exact hx.symm)) hperm
  rw [addOk_append, Bool.and_eq_true] at ha
  have hlen : ∀ (l m : List Int), (addL l m).length = m.length := fun l => by
    induction l with
    | nil => exact fun m => rfl
    | cons x r ih => exact fun m => (ih _).trans (set_len m x)
  refine ⟨okt, ?_, by omega, by omega, by omega, decide_eq_true ?_, ha.2⟩
  · unfold inAll inS
    rw [List.all_eq_true]
    exact fun x hx => decide_eq_true (hr x (List.mem_append_left _ hx))
  · unfold bmL
    rw [hlen, noBits_len]; omega
theorem give_nil (us : List Int) : List.take (((([] : List Int) ++ us).length : Int).toNat + ([] : List Int).length) (overL (([] : List Int) ++ us) (0 + ((([] : List Int) ++ us).length : Int).toNat) ([] : List Int)) = us ++ [] := by
  have e : (us.length : Int).toNat = us.length := rfl
  simp [overL, e]
theorem giveT_ok : ∀ args os r, (giveT args os).get = some r → Fn0 Try.prog 10 args os r := fun args os r h => by
  unfold giveT at h
  split at h
  · rename_i size full ts f2 us
    obtain ⟨h1, h⟩ := Tr.get_ask.1 h
    change List Int at ts us
    obtain ⟨k1, k2, k3, k4, k5, k6, k7⟩ := okG_parts h1
    simp only [Tr.get, Option.some.injEq] at h
    subst h
    refine fnC_ok (sp := sfB) (ls := l8) (unr := un8) (d := 10) plain mixed sfB_ok l8_ok ?_
    have hsm : small us = true := decide_eq_true (by omega)
    have hb : bOk 0 (us.length : Int) (us.length : Int) = true := bOk_mk ⟨by omega, by omega, by omega⟩
    by_cases he : ts.length = 0
    · have he2 : ts = [] := List.length_eq_zero_iff.1 he
      subst he2
      refine (Tr.follow_get (ge_fn full f2 size [] us) ?_).trans (congrArg (fun l : List Int => some ((SV.tup [.agg [.raw (.int .i64 size), .h 2], .raw (.int .i64 0)], [SO.sl true false 3 l]) : SV × List (SO C8))) (give_nil us))
      simp only [List.cons.injEq, and_true]
      and_intros <;> first
        | exact k1
        | exact k6
        | exact k7
        | exact room3 (show ([] : List Int).length + us.length ≤ 1000 by simp; omega)
        | rfl
        | (simp [k2, hsm]; done)
        | (simp [hb, roomV, shutB, overL]; done)
        | (simp [hb, roomV, shutB, overL]; omega)
    · have hp := gv_fn full f2 size ts us
      have he' : decide (us.length + ts.length ≤ us.length) = false := decide_eq_false (by omega)
      simp only [roomV, intO, List.nil_append, show ((us.length : Int)).toNat = us.length from rfl, List.take_length, show Int.toNat 0 = 0 from rfl, List.drop_zero, show ([] : List Int).length = 0 from rfl, Nat.zero_add] at hp
      simp only [k1, k2, hsm, k6, k7, he', hb, room3 (show us.length ≤ 1000 by omega), room3 (show us.length + ts.length ≤ 1000 by omega), decide_eq_true (Int.le_refl (us.length : Int)), decide_eq_true (Nat.le_refl us.length), show ((us.length : Int) - ((0 : Nat) : Int)) = (us.length : Int) from Int.sub_zero _, decide_true, Bool.and_self, beq_self_eq_true] at hp
      exact Tr.follow_get hp rfl
  · cases h
def newT : FnF C8 := fun args os => match args, os with
  | [.raw (.int .i64 size)], [] => .br (decide (1 ≤ size ∧ size ≤ 1000)) (.leaf (.tup [.agg [.raw (.int .i64 size), .h 0], .raw (.int .i64 0)], [.sl true false 3 (upto size.toNat)])) .fail
  | _, _ => .fail
theorem newT_ok : ∀ args os r, (newT args os).get = some r → Fn0 Try.prog 8 args os r := fun args os r h => by
  unfold newT at h
  split at h
  · rename_i size
    obtain ⟨h1, h2⟩ := Tr.get_ask.1 h
    simp only [Tr.get, Option.some.injEq] at h2
    subst h2
    have hs := of_decide_eq_true h1
    refine fnC_ok (sp := noSp) (ls := l8) (unr := un8) (d := 10) plain mixed noSp_ok l8_ok ?_
    exact Tr.follow_get (nw_fn size) (by rw [decide_eq_false (show ¬ size < 1 by omega), decide_eq_false (show ¬ 32768 < size by omega), h1, beq_self_eq_true]; rfl)
  · cases h
def intsT : FnF C8 := fun args os => match args, os with
  | [.h 0, .h 1], [.sl false full 3 ts, .sl false f2 3 us] => .br (eqL ts us && small ts) (.leaf (.raw (.bool true), [])) .fail
  | _, _ => .fail
theorem eqL_len {ts us : List Int} (h : (eqL ts us && small ts) = true) : ((ts.length : Int) != (us.length : Int)) = false := by
  rw [Bool.and_eq_true] at h
  obtain rfl : ts = us := eq_of_beq h.1
  exact bne_self_eq_false' _
theorem intsT_ok : ∀ args os r, (intsT args os).get = some r → Fn0 Try.prog 11 args os r := fun args os r h => by
  unfold intsT at h
  split at h
  · rename_i full ts f2 us
    obtain ⟨h1, h2⟩ := Tr.get_ask.1 h
    simp only [Tr.get, Option.some.injEq] at h2
    subst h2
    change List Int at ts us
    refine fnC_ok (sp := noSp) (ls := l8) (unr := un8) (d := 10) plain mixed noSp_ok l8_ok ?_
    exact Tr.follow_get (in_fn full f2 ts us) (by rw [eqL_len h1, h1])
  · cases h
def sameT : FnF C8 := fun args os => match args, os with
  | [.agg [.raw (.int .i64 s1), .h 0], .agg [.raw (.int .i64 s2), .h 1]], [.sl false full 3 ts, .sl false f2 3 us] => .br (s1 == s2) (.br (eqL ts us && small ts) (.leaf (.raw (.bool true), [])) .fail) .fail
  | _, _ => .fail
theorem sameT_ok : ∀ args os r, (sameT args os).get = some r → Fn0 Try.prog 12 args os r := fun args os r h => by
  unfold sameT at h
  split at h
  · rename_i s1 s2 full ts f2 us
    obtain ⟨h0, h⟩ := Tr.get_ask.1 h
    obtain ⟨h1, h2⟩ := Tr.get_ask.1 h
    simp only [Tr.get, Option.some.injEq] at h2
    subst h2
    change List Int at ts us
    refine fnC_ok (sp := noSp) (ls := l8) (unr := un8) (d := 10) plain mixed noSp_ok l8_ok ?_
    exact Tr.follow_get (sm_fn full f2 s1 s2 ts us) (by rw [h0, eqL_len h1, h1, beq_self_eq_true])
  · cases h
end
end Go.Proofs.Ytkhlmlcjedbkcaa
