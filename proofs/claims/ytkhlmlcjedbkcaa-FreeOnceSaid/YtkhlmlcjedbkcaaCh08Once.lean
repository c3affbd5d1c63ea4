/-
  Chapter 8: what FreeOnce asks for beyond FreeOrders: Is, Count, a Take of too many. Own work; nothing here is trusted.
-/
import Derived.Test.YtkhlmlcjedbkcaaCh08Free5
namespace Go.Proofs.Ytkhlmlcjedbkcaa
open Go Go.Sx Go.RowKit
set_option maxRecDepth 1000000
set_option maxHeartbeats 8000000
set_option linter.unusedVariables false
set_option linter.unusedSimpArgs false
noncomputable section
theorem bit_addL {size x : Int} (hx : 0 ≤ x) : ∀ (l m : List Int), rngL m → size ≤ 64 * (m.length : Int) → (∀ y ∈ l, 0 ≤ y ∧ y < size) → x ∉ l → bitOf (addL l m) x = bitOf m x
  | [], _, _, _, _, _ => rfl
  | y :: r, m, hm, hl, hr, hn => by
    have hy := hr y List.mem_cons_self
    show bitOf (addL r (setOf m y)) x = _
    rw [bit_addL hx r (setOf m y) (set_rng hm y) (by rw [set_len]; exact hl) (fun z hz => hr z (List.mem_cons_of_mem _ hz)) (fun h => hn (List.mem_cons_of_mem _ h)), bit_set hm hy.1 hx (by omega), decide_eq_false (fun e => hn (by rw [e]; exact List.mem_cons_self)), Bool.false_or]
theorem addL_len : ∀ (l m : List Int), (addL l m).length = m.length
  | [], _ => rfl
  | x :: r, m => (addL_len r _).trans (set_len m x)
theorem is_fn (full : Bool) (size n : Int) (ts : List Int) : Tr.follow [true, true, true, true, true, true, true, true, true, true, false, true, true, true, true, true, true, true, false, true, false, true, true] (fC 14 [.agg [.raw (.int .i64 size), .h 0], .raw (.int .i64 n)] [.sl false full 3 ts]) = some ([okF size ts, true, true, decide (0 ≤ n), true, true, true, decide (n < size), true, true, false, inR64 (Int.tdiv n 64), true, Sx.inB (Int.tdiv n 64) (bmL size ts).length, true, decide ((Int.tdiv n 64).toNat < (bmL size ts).length), true, true, false, true, decide (Int.tmod n 64 < 0), true, true],
  (.raw (.bool (bitOf (bmL size ts) n)), [])) := by kernel_rfl
def noIn (size n : Int) (ts : List Int) : Bool := inS size n && !ts.contains n
def isT : FnF C8 := fun args os => match args, os with
  | [.agg [.raw (.int .i64 size), .h 0], .raw (.int .i64 n)], [.sl false full 3 ts] => .br (okF size ts) (.br (noIn size n ts) (.leaf (.raw (.bool false), [])) .fail) .fail
  | _, _ => .fail
theorem isT_ok : ∀ args os r, (isT args os).get = some r → Fn0 Try.prog 14 args os r := fun args os r h => by
  unfold isT at h
  split at h
  · rename_i size n full ts
    obtain ⟨h1, h⟩ := Tr.get_ask.1 h
    obtain ⟨hn, h2⟩ := Tr.get_ask.1 h
    simp only [Tr.get, Option.some.injEq] at h2
    subst h2
    change List Int at ts
    obtain ⟨hs, hr, hd⟩ := okF_iff.1 h1
    unfold noIn inS at hn
    rw [Bool.and_eq_true, decide_eq_true_eq] at hn
    obtain ⟨hn, hc⟩ := hn
    obtain ⟨w1, w2, w3⟩ := wds (size := size) (by omega)
    have hlen : ((bmL size ts).length : Int) = (size + 63).tdiv 64 := by unfold bmL; rw [addL_len, noBits_len]; omega
    obtain ⟨i1, i2, i3, i4⟩ := word_in (m := bmL size ts) hn ⟨by omega, by omega⟩
    have hb : bitOf (bmL size ts) n = false := by
      unfold bmL
      rw [bit_addL (size := size) hn.1 ts _ (no_rng _) (by rw [noBits_len]; omega) hr (by simpa using hc)]
      exact no_bit _ hn.1
    refine fnC_ok (sp := sfB) (ls := l8) (unr := un8) (d := 10) plain mixed sfB_ok l8_ok ?_
    have hp := is_fn full size n ts
    rw [h1, i1, i2, i3, i4, hb, decide_eq_true hn.1, decide_eq_true hn.2] at hp
    exact Tr.follow_get hp rfl
  · cases h
theorem ct_fn (full : Bool) (size : Int) (ts : List Int) : Tr.follow [true, false] (fT 13 [.agg [.raw (.int .i64 size), .h 0]] [.sl false full 3 ts]) = some ([okF size ts, false], (.raw (.int .i64 (ts.length : Int)), [])) := by kernel_rfl
def ctT : FnF C8 := fun args os => match args, os with
  | [.agg [.raw (.int .i64 size), .h 0]], [.sl false full 3 ts] => .br (okF size ts) (.leaf (.raw (.int .i64 (ts.length : Int)), [])) .fail
  | _, _ => .fail
theorem ctT_ok : ∀ args os r, (ctT args os).get = some r → Fn0 Try.prog 13 args os r := fun args os r h => by
  unfold ctT at h
  split at h
  · rename_i size full ts
    obtain ⟨h1, h2⟩ := Tr.get_ask.1 h
    simp only [Tr.get, Option.some.injEq] at h2
    subst h2
    refine fnC_ok (sp := sfC) (ls := l8) (unr := un8) (d := 10) plain mixed sfC_ok l8_ok ?_
    exact Tr.follow_get (ct_fn full size ts) (by rw [h1])
  · cases h
theorem tf_fn (full : Bool) (size n : Int) (ts : List Int) : Tr.follow [true, false, false, false, true] (fT 9 [.agg [.raw (.int .i64 size), .h 0], .raw (.int .i64 n)] [.sl false full 3 ts]) = some ([okF size ts, false, false, decide (n < 1), decide ((ts.length : Int) < n)], (.tup [.raw (.slice none 0 0), .agg [.raw (.int .i64 0), .raw (.slice none 0 0)], .raw (.int .i64 7)], [])) := by kernel_rfl
/-- Take, of as many as there are or of too many. -/
def takeT2 : FnF C8 := fun args os => match args, os with
  | [.agg [.raw (.int .i64 size), .h 0], .raw (.int .i64 n)], [.sl false full 3 ts] => .br (okF size ts) (.br (decide (1 ≤ n)) (.br (decide (n ≤ (ts.length : Int))) (.leaf (.tup [.h 1, .agg [.raw (.int .i64 size), .h 2], .raw (.int .i64 0)], [.sl true false 3 (tkL ts n), .sl true false 3 (drL ts n)]))
      (.leaf (.tup [.raw (.slice none 0 0), .agg [.raw (.int .i64 0), .raw (.slice none 0 0)], .raw (.int .i64 7)], []))) .fail) .fail
  | _, _ => .fail
theorem takeT2_ok : ∀ args os r, (takeT2 args os).get = some r → Fn0 Try.prog 9 args os r := fun args os r h => by
  unfold takeT2 at h
  split at h
  · rename_i size n full ts
    obtain ⟨h1, h⟩ := Tr.get_ask.1 h
    obtain ⟨hn, h⟩ := Tr.get_ask.1 h
    change List Int at ts
    have hn := of_decide_eq_true hn
    by_cases hl : n ≤ (ts.length : Int)
    · refine takeT_ok _ _ _ ?_
      show (Tr.br (okF size ts) (Tr.br (decide (1 ≤ n ∧ n ≤ (ts.length : Int))) _ _) _).get = _
      rw [h1, decide_eq_true (show 1 ≤ n ∧ n ≤ (ts.length : Int) from ⟨hn, hl⟩)]
      rw [← h]
      show _ = (Tr.br (decide (n ≤ (ts.length : Int))) _ _).get
      rw [decide_eq_true hl]; rfl
    · have h : (Tr.br (decide (n ≤ (ts.length : Int))) _ _).get = some r := h
      rw [decide_eq_false hl] at h
      simp only [Tr.get, Option.some.injEq] at h
      subst h
      refine fnC_ok (sp := sfC) (ls := l8) (unr := un8) (d := 10) plain mixed sfC_ok l8_ok ?_
      exact Tr.follow_get (tf_fn full size n ts) (by rw [h1, decide_eq_false (show ¬ n < 1 by omega), decide_eq_true (show (ts.length : Int) < n by omega)])
  · cases h
end
end Go.Proofs.Ytkhlmlcjedbkcaa
