/-
  Chapter 7: StatusInits, what is reckoned. Own work; nothing here is trusted.
-/
import Derived.Test.YtknkemjbikbhgaaCh07RefLaw
namespace Go.Proofs.Ytknkemjbikbhgaa
open Go Go.Sx Go.RowKit
set_option maxRecDepth 1000000
set_option maxHeartbeats 8000000
set_option linter.unusedVariables false
set_option linter.unusedSimpArgs false
noncomputable section
def sf8 : SpecT C6 := addS 28 (viewS (lvT true)) (addS 29 (viewS ckT) (addS 30 (viewS wrT) (addS 31 (viewS inT) (addS 32 (viewS bestT) (addS 33 (viewS askT) (addS 34 (viewS brkT) (addS 35 (viewS rnT) noSp)))))))
theorem sf8_ok : SpecTOk Try.prog sf8 := addS_ok (viewS_ok lv7T_ok) (addS_ok (viewS_ok ckT_ok) (addS_ok (viewS_ok wrT_ok) (addS_ok (viewS_ok inT_ok) (addS_ok (viewS_ok rbT_ok) (addS_ok (viewS_ok askT_ok) (addS_ok (viewS_ok brkT_ok) (addS_ok (viewS_ok rnT_ok) noSp_ok)))))))
abbrev f9 := fnC C6 Try.prog sf8 noLs (fun _ _ => 20) 10
/-! Where a state is as it is known to be: what the functions answer there. -/
theorem wrI_lit {k o g : Int} {s w : Int} (h : ckB k o g s = true) (hw : w ≠ 0) : wrI k o g s w = stB (acI k o g) (hb w 1) (hb w 2) (hb w 8) (hb w 4) (hb w 128) s := by
  obtain ⟨h1, h2⟩ : knI k o = true ∧ hasI o 32 = true := by
    unfold ckB at h
    simp only [Bool.and_eq_true] at h
    exact ⟨h.1, h.2.1⟩
  rw [wrI_C h1 h2 hw]
  unfold wI
  rw [← ckB_C h1 h2, h]; rfl
def wrT2 : FnF C6 := fun args os => match args, os with
  | [.agg [.raw (.int .i64 k), .raw (.int .u64 o), .raw (.int .u64 g), .raw (.int .u8 s)], .raw (.int .u8 (.ofNat 0))], [] => .br (rng64 o && rng64 g && ckB k o g s) (.leaf (devV k o 0 0, [])) .fail
  | [.agg [.raw (.int .i64 k), .raw (.int .u64 o), .raw (.int .u64 g), .raw (.int .u8 (.ofNat 0))], .raw (.int .u8 (.ofNat 1))], [] => .br (rng64 o && rng64 g && ckB k o g 0) (.leaf (devV k o g 1, [])) .fail
  | [.agg [.raw (.int .i64 k), .raw (.int .u64 o), .raw (.int .u64 g), .raw (.int .u8 (.ofNat 1))], .raw (.int .u8 (.ofNat 3))], [] => .br (rng64 o && rng64 g && ckB k o g 1) (.leaf (devV k o g 3, [])) .fail
  | [.agg [.raw (.int .i64 k), .raw (.int .u64 o), .raw (.int .u64 g), .raw (.int .u8 (.ofNat 3))], .raw (.int .u8 (.ofNat 11))], [] => .br (rng64 o && rng64 g && (ckB k o g 3 && acI k o g)) (.leaf (devV k o g 11, [])) .fail
  | [.agg [.raw (.int .i64 k), .raw (.int .u64 o), .raw (.int .u64 g), .raw (.int .u8 (.ofNat 11))], .raw (.int .u8 (.ofNat 15))], [] => .br (rng64 o && rng64 g && ckB k o g 11) (.leaf (devV k o g 15, [])) .fail
  | [.agg [.raw (.int .i64 k), .raw (.int .u64 o), .raw (.int .u64 g), .raw (.int .u8 (.ofNat 79))], .raw (.int .u8 (.ofNat 15))], [] => .br (rng64 o && rng64 g && ckB k o g 79) (.leaf (devV k o g 79, [])) .fail
  | _, _ => .fail
theorem wr_fn {k o g s w : Int} (hr : (rng64 o && rng64 g) = true) : Fn0 (C := C6) Try.prog 30 [devV k o g s, .raw (.int .u8 w)] [] (devV k o (wrG k o g s w) (wrI k o g s w), []) :=
  wrT_ok _ _ _ (by show (Tr.br (rng64 o && rng64 g) _ _).get = _; rw [hr]; rfl)
theorem wr_fn2 {k o g s w x : Int} (hr : (rng64 o && rng64 g) = true) (h : ckB k o g s = true) (hw : w ≠ 0) (hx : stB (acI k o g) (hb w 1) (hb w 2) (hb w 8) (hb w 4) (hb w 128) s = x) : Fn0 (C := C6) Try.prog 30 [devV k o g s, .raw (.int .u8 w)] [] (devV k o g x, []) := by
  have := wr_fn (k := k) (s := s) (w := w) hr
  rw [wrG_C hw, wrI_lit h hw, hx] at this
  exact this
theorem wrT2_ok : ∀ args os r, (wrT2 args os).get = some r → Fn0 Try.prog 30 args os r := fun args os r h => by
  unfold wrT2 at h
  split at h
  · rename_i k o g s
    obtain ⟨h1, h2⟩ := Tr.get_ask.1 h
    simp only [Tr.get, Option.some.injEq] at h2
    subst h2
    rw [Bool.and_eq_true] at h1
    have := wr_fn (k := k) (s := s) (w := 0) h1.1
    unfold wrG wrI at this
    rw [h1.2] at this
    exact this
  · rename_i k o g
    obtain ⟨h1, h2⟩ := Tr.get_ask.1 h
    simp only [Tr.get, Option.some.injEq] at h2
    subst h2
    rw [Bool.and_eq_true] at h1
    exact wr_fn2 h1.1 h1.2 (by decide) (by cases acI k o g <;> decide)
  · rename_i k o g
    obtain ⟨h1, h2⟩ := Tr.get_ask.1 h
    simp only [Tr.get, Option.some.injEq] at h2
    subst h2
    rw [Bool.and_eq_true] at h1
    exact wr_fn2 h1.1 h1.2 (by decide) (by cases acI k o g <;> decide)
  · rename_i k o g
    obtain ⟨h1, h2⟩ := Tr.get_ask.1 h
    simp only [Tr.get, Option.some.injEq] at h2
    subst h2
    rw [Bool.and_eq_true] at h1
    obtain ⟨h1, h3⟩ := h1
    rw [Bool.and_eq_true] at h3
    exact wr_fn2 h1 h3.1 (by decide) (by rw [h3.2]; decide)
  · rename_i k o g
    obtain ⟨h1, h2⟩ := Tr.get_ask.1 h
    simp only [Tr.get, Option.some.injEq] at h2
    subst h2
    rw [Bool.and_eq_true] at h1
    exact wr_fn2 h1.1 h1.2 (by decide) (by cases acI k o g <;> decide)
  · rename_i k o g
    obtain ⟨h1, h2⟩ := Tr.get_ask.1 h
    simp only [Tr.get, Option.some.injEq] at h2
    subst h2
    rw [Bool.and_eq_true] at h1
    exact wr_fn2 h1.1 h1.2 (by decide) (by cases acI k o g <;> decide)
  · cases h
def askT2 : FnF C6 := fun args os => match args, os with
  | [.agg [.raw (.int .i64 k), .raw (.int .u64 o), .raw (.int .u64 g), .raw (.int .u8 (.ofNat 3))], .raw (.int .u64 set)], [] => .br (rng64 o && rng64 g && ckB k o g 3) (.leaf (devV k o set 3, [])) .fail
  | _, _ => .fail
theorem askT2_ok : ∀ args os r, (askT2 args os).get = some r → Fn0 Try.prog 33 args os r := fun args os r h => by
  unfold askT2 at h
  split at h
  · rename_i k o g set
    obtain ⟨h1, h2⟩ := Tr.get_ask.1 h
    simp only [Tr.get, Option.some.injEq] at h2
    subst h2
    rw [Bool.and_eq_true] at h1
    refine askT_ok _ _ _ ?_
    show (Tr.br (rng64 o && rng64 g) _ _).get = _
    rw [h1.1]
    show some (devV k o (asG k o g 3 set) 3, []) = _
    unfold asG
    rw [show ckB k o g 3 = true from h1.2]; rfl
  · cases h
def brkT2 : FnF C6 := fun args os => match args, os with
  | [.agg [.raw (.int .i64 k), .raw (.int .u64 o), .raw (.int .u64 g), .raw (.int .u8 (.ofNat 15))]], [] => .br (rng64 o && rng64 g && ckB k o g 15) (.leaf (.tup [devV k o g 79, .raw (.int .i64 0)], [])) .fail
  | _, _ => .fail
theorem brkT2_ok : ∀ args os r, (brkT2 args os).get = some r → Fn0 Try.prog 34 args os r := fun args os r h => by
  unfold brkT2 at h
  split at h
  · rename_i k o g
    obtain ⟨h1, h2⟩ := Tr.get_ask.1 h
    simp only [Tr.get, Option.some.injEq] at h2
    subst h2
    rw [Bool.and_eq_true] at h1
    refine brkT_ok _ _ _ ?_
    show (Tr.br (rng64 o && rng64 g) _ _).get = _
    rw [h1.1]
    show some (SV.tup [devS (brB k o g 15) k o g (bitsV .u8 .or 15 64), .raw (.int .i64 (brE k o g 15))], []) = _
    unfold brB brE
    rw [show ckB k o g 15 = true from h1.2]; rfl
  · cases h
def rnT2 : FnF C6 := fun args os => match args, os with
  | [.agg [.raw (.int .i64 k), .raw (.int .u64 o), .raw (.int .u64 g), .raw (.int .u8 (.ofNat 15))]], [] => .br (rng64 o && rng64 g && ckB k o g 15) (.leaf (.raw (.bool true), [])) .fail
  | [.agg [.raw (.int .i64 k), .raw (.int .u64 o), .raw (.int .u64 g), .raw (.int .u8 (.ofNat 79))]], [] => .br (rng64 o && rng64 g && ckB k o g 79) (.leaf (.raw (.bool false), [])) .fail
  | _, _ => .fail
theorem rnT2_ok : ∀ args os r, (rnT2 args os).get = some r → Fn0 Try.prog 35 args os r := fun args os r h => by
  unfold rnT2 at h
  split at h
  · rename_i k o g
    obtain ⟨h1, h2⟩ := Tr.get_ask.1 h
    simp only [Tr.get, Option.some.injEq] at h2
    subst h2
    rw [Bool.and_eq_true] at h1
    refine rnT_ok _ _ _ ?_
    show (Tr.br (rng64 o && rng64 g) _ _).get = _
    rw [h1.1]
    show some (SV.raw (.bool (rnB k o g 15)), []) = _
    unfold rnB
    rw [show ckB k o g 15 = true from h1.2]; rfl
  · rename_i k o g
    obtain ⟨h1, h2⟩ := Tr.get_ask.1 h
    simp only [Tr.get, Option.some.injEq] at h2
    subst h2
    rw [Bool.and_eq_true] at h1
    refine rnT_ok _ _ _ ?_
    show (Tr.br (rng64 o && rng64 g) _ _).get = _
    rw [h1.1]
    show some (SV.raw (.bool (rnB k o g 79)), []) = _
    unfold rnB
    rw [show ckB k o g 79 = true from h1.2]; rfl
  · cases h
/-- The best set is accepted. -/
theorem ac_best {k o : Int} (w : Int) (h : beB k o = true) : acI k o (bsI k o w) = true ∧ knI k (bsI k o w) = true := by
  unfold beB at h
  rw [Bool.and_eq_true] at h
  obtain ⟨j, hj, rfl⟩ := kdB_cases h.1
  have e : bsI (j : Int) o w = U (bsB j (both j o w)) := by
    unfold bsI beB; rw [h.1, h.2]; rfl
  have h32 := both_32 hj w h.2
  have hsub : Sub (bsB j (both j o w)) ((V o &&& (V w ||| BitVec.twoPow 64 32)) &&& V (allOf j)) := bs_sub j _
  have hc : Cl j (bsB j (both j o w)) := bs_cl h32
  have s1 := (sub_and.1 (sub_and.1 hsub).1).1
  have s2 := (sub_and.1 hsub).2
  have n1 : bitsV .u64 .andNot (U (bsB j (both j o w))) o = 0 := by rw [bNot, U_zero, VU]; exact sub_not s1
  have n2 : bitsV .u64 .andNot (U (bsB j (both j o w))) (allOf j) = 0 := by rw [bNot, U_zero, VU]; exact sub_not s2
  have kn : knI (j : Int) (U (bsB j (both j o w))) = true := by
    unfold knI
    rcases hj with rfl | rfl | rfl
    · rw [show bitsV .u64 .andNot (U (bsB 1 (both 1 o w))) 1156165107747 = 0 from n2]; rfl
    · rw [show bitsV .u64 .andNot (U (bsB 2 (both 2 o w))) 1156151538208 = 0 from n2]; rfl
    · rw [show bitsV .u64 .andNot (U (bsB 3 (both 3 o w))) 1156151508999 = 0 from n2]; rfl
  have nd : ndI (j : Int) (U (bsB j (both j o w))) = 0 := by
    unfold ndI
    rw [VU, show ((j : Int)).toNat = j from rfl, nd_zero hc]; rfl
  rw [e]
  refine ⟨?_, kn⟩
  unfold acI
  rw [kn, nd, n1]; rfl
theorem ck_lit {k o g : Int} (h : knI k o = true) (h2 : hasI o 32 = true) {s : Int} (hs : ckC (acI k o g) (g != 0) s = true) : ckB k o g s = true := by rw [ckB_C h h2]; exact hs
theorem kn_kd {k s : Int} (h : knI k s = true) : kdB k = true := by
  unfold knI at h
  unfold kdB
  cases h1 : (k == 1) <;> cases h2 : (k == 2) <;> cases h3 : (k == 3) <;> simp_all
/-- What Init leads to. -/
theorem chn_ok {k o g s : Int} (w : Int) (h : ckB k o g s = true) : chn k o (bsI k o w) (g, s) = (bsI k o w, 15) ∧ beB k o = true := by
  obtain ⟨h1, h2⟩ : knI k o = true ∧ hasI o 32 = true := by
    unfold ckB at h
    simp only [Bool.and_eq_true] at h
    exact ⟨h.1, h.2.1⟩
  have hbe : beB k o = true := by unfold beB; rw [kn_kd h1, h2]; rfl
  obtain ⟨ha, _⟩ := ac_best w hbe
  have c0 : ckB k o 0 0 = true := ck_lit h1 h2 (by cases acI k o 0 <;> decide)
  have c1 : ckB k o 0 1 = true := ck_lit h1 h2 (by cases acI k o 0 <;> decide)
  have c3 : ckB k o 0 3 = true := ck_lit h1 h2 (by cases acI k o 0 <;> decide)
  have b3 : ckB k o (bsI k o w) 3 = true := ck_lit h1 h2 (by rw [ha]; cases (bsI k o w != 0) <;> decide)
  have b11 : ckB k o (bsI k o w) 11 = true := ck_lit h1 h2 (by rw [ha]; cases (bsI k o w != 0) <;> decide)
  refine ⟨?_, hbe⟩
  have e0 : stepW k o 0 (g, s) = (0, 0) := by unfold stepW wrG wrI; rw [show ckB k o (g, s).1 (g, s).2 = true from h]; rfl
  have e1 : stepW k o 1 (0, 0) = (0, 1) := by
    unfold stepW; simp only
    rw [wrG_C (by decide), wrI_lit c0 (by decide)]
    cases acI k o 0 <;> decide
  have e2 : stepW k o 3 (0, 1) = (0, 3) := by
    unfold stepW; simp only
    rw [wrG_C (by decide), wrI_lit c1 (by decide)]
    cases acI k o 0 <;> decide
  have e3 : stepA k o (bsI k o w) (0, 3) = (bsI k o w, 3) := by
    unfold stepA asG; simp only
    rw [c3]; rfl
  have e4 : stepW k o 11 (bsI k o w, 3) = (bsI k o w, 11) := by
    unfold stepW; simp only
    rw [wrG_C (by decide), wrI_lit b3 (by decide), ha]
    have : stB true (hb 11 1) (hb 11 2) (hb 11 8) (hb 11 4) (hb 11 128) 3 = 11 := by decide
    rw [this]
  have e5 : stepW k o 15 (bsI k o w, 11) = (bsI k o w, 15) := by
    unfold stepW; simp only
    rw [wrG_C (by decide), wrI_lit b11 (by decide), ha]
    have : stB true (hb 15 1) (hb 15 2) (hb 15 8) (hb 15 4) (hb 15 128) 11 = 15 := by decide
    rw [this]
  unfold chn
  rw [e0, e1, e2, e3, e4, e5]
def inT2 : FnF C6 := fun args os => match args, os with
  | [.agg [.raw (.int .i64 k), .raw (.int .u64 o), .raw (.int .u64 g), .raw (.int .u8 s)], .raw (.int .u64 w)], [] => .br (rng64 o && rng64 g && ckB k o g s) (.leaf (.tup [devV k o (bsI k o w) 15, .raw (.int .i64 0)], [])) .fail
  | _, _ => .fail
theorem inT2_ok : ∀ args os r, (inT2 args os).get = some r → Fn0 Try.prog 31 args os r := fun args os r h => by
  unfold inT2 at h
  split at h
  · rename_i k o g s w
    obtain ⟨h1, h2⟩ := Tr.get_ask.1 h
    simp only [Tr.get, Option.some.injEq] at h2
    subst h2
    rw [Bool.and_eq_true] at h1
    obtain ⟨c1, c2⟩ := chn_ok w h1.2
    refine inT_ok _ _ _ ?_
    show (Tr.br (rng64 o && rng64 g) _ _).get = _
    rw [h1.1]
    show some (inV k o g s w, []) = _
    unfold inV inB
    rw [h1.2, c1, c2]; rfl
  · cases h
def sf9 : SpecT C6 := addS 28 (viewS (lvT true)) (addS 29 (viewS ckT) (addS 30 (viewS wrT2) (addS 31 (viewS inT2) (addS 32 (viewS bestT) (addS 33 (viewS askT2) (addS 34 (viewS brkT2) (addS 35 (viewS rnT2) noSp)))))))
theorem sf9_ok : SpecTOk Try.prog sf9 := addS_ok (viewS_ok lv7T_ok) (addS_ok (viewS_ok ckT_ok) (addS_ok (viewS_ok wrT2_ok) (addS_ok (viewS_ok inT2_ok) (addS_ok (viewS_ok rbT_ok) (addS_ok (viewS_ok askT2_ok) (addS_ok (viewS_ok brkT2_ok) (addS_ok (viewS_ok rnT2_ok) noSp_ok)))))))
abbrev f10 := fnC C6 Try.prog sf9 noLs (fun _ _ => 20) 10
end
end Go.Proofs.Ytknkemjbikbhgaa
