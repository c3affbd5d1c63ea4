/-
  Chapter 7: StatusGoes, its loop and the whole. Own work; nothing here is trusted.
-/
import Derived.Test.YtknkemjbikbhgaaCh07GoesR
namespace Go.Proofs.Ytknkemjbikbhgaa
open Go Go.Sx Go.RowKit
set_option maxRecDepth 1000000
set_option maxHeartbeats 8000000
set_option linter.unusedVariables false
set_option linter.unusedSimpArgs false
noncomputable section
theorem sf15_ok : SpecTOk Try.prog sf15 := addS_ok (viewS_ok pk6T_ok) (addS_ok (viewS_ok ckT4_ok) (addS_ok (viewS_ok wrT4_ok) (addS_ok (viewS_ok askT4_ok) (addS_ok (viewS_ok brkT4_ok) (addS_ok (viewS_ok rnT4_ok) (addS_ok (viewS_ok acT4_ok) noSp_ok))))))
def gF (k o : Int) : List (Int × Int × Int × Bool) → Int × Int → Int × Int
  | [], x => x
  | a :: r, x => gF k o r (stG k o a x)
def okAct (a : Int × Int × Int × Bool) : Bool := decide (0 ≤ a.2.1 ∧ a.2.1 < 256) && rng64 a.2.2.1
def okActs (ts : List (Int × Int × Int × Bool)) : Bool := decide (ts.length ≤ 60) && ts.all okAct
def v12 (s : Int) : Bool := valid12.contains s
theorem v12_iff {s : Int} : v12 s = true ↔ s ∈ valid12 := by unfold v12; exact List.contains_iff_mem
def gLoop (rk : Int → Int → Int → Int → Bool) : LoopFn C6 := fun li => match li with
  | ⟨[.h 0, .h 1, .raw (.int .i64 k), .raw (.int .u64 o), .raw (.int .i64 (.ofNat 0)), .raw (.bool false)], 2, [.sl own full 58 ts, .box [.raw (.int .i64 k2), .raw (.int .u64 o2), .raw (.int .u64 g), .raw (.int .u8 s)] 42]⟩ =>
    .br (k2 == k && o2 == o) (  .br (rk k o g s && v12 s) (.br (okActs ts) (.leaf (.exit 0, gSt own full ts k o (gF k o ts (g, s)).1 (gF k o ts (g, s)).2 (ts.length : Int))) .fail) .fail) .fail
  | _ => .fail
theorem g_loop : loopOf Try.prog 10 0 = some (248, (loopOf Try.prog 10 0).get!.2) := by kernel_rfl
theorem g_end (own full : Bool) (ts : List (Int × Int × Int × Bool)) (k o g s i : Int) : Tr.follow [false] (gRound own full ts k o g s i) = some ([decide (i < (ts.length : Int))], (.exit 0, gSt own full ts k o g s i)) := by kernel_rfl
theorem actAt_drop {ts : List (Int × Int × Int × Bool)} {n : Nat} (h : n < ts.length) : ts.drop n = actAt ts (n : Int) :: ts.drop (n + 1) := by
  rw [List.drop_eq_getElem_cons h]
  show _ = ts.getD n _ :: _
  rw [List.getD_eq_getElem?_getD, List.getElem?_eq_getElem h]; rfl
theorem okActs_at {ts : List (Int × Int × Int × Bool)} (h : okActs ts = true) : ts.length ≤ 60 ∧ ∀ n, n < ts.length → (0 ≤ (actAt ts (n : Int)).2.1 ∧ (actAt ts (n : Int)).2.1 < 256) ∧ rng64 (actAt ts (n : Int)).2.2.1 = true := by
  unfold okActs at h
  rw [Bool.and_eq_true, List.all_eq_true] at h
  refine ⟨of_decide_eq_true h.1, fun n hn => ?_⟩
  have hm : actAt ts (n : Int) ∈ ts := by
    show ts.getD n _ ∈ ts
    rw [List.getD_eq_getElem?_getD, List.getElem?_eq_getElem hn]; exact List.getElem_mem hn
  have := h.2 _ hm
  unfold okAct at this
  rw [Bool.and_eq_true] at this
  exact ⟨of_decide_eq_true this.1, this.2⟩
theorem gF_ok {k o : Int} {ts : List (Int × Int × Int × Bool)} (step : ∀ a ∈ ts, ∀ g s, rokB k o g s = true → s ∈ valid12 → rokB k o (stG k o a (g, s)).1 (stG k o a (g, s)).2 = true ∧ (stG k o a (g, s)).2 ∈ valid12) :
    ∀ x : Int × Int, rokB k o x.1 x.2 = true → x.2 ∈ valid12 → rokB k o (gF k o ts x).1 (gF k o ts x).2 = true ∧ (gF k o ts x).2 ∈ valid12 := by
  induction ts with
  | nil => exact fun x h1 h2 => ⟨h1, h2⟩
  | cons a r ih =>
    intro x h1 h2
    obtain ⟨h3, h4⟩ := step a List.mem_cons_self x.1 x.2 h1 h2
    exact ih (fun b hb => step b (List.mem_cons_of_mem _ hb)) _ h3 h4
theorem gF_rok {k o g s : Int} {ts : List (Int × Int × Int × Bool)} (ht : okActs ts = true) (h : rokB k o g s = true) (hv : s ∈ valid12) : rokB k o (gF k o ts (g, s)).1 (gF k o ts (g, s)).2 = true := by
  refine (gF_ok (fun a ha g s h hv => ?_) (g, s) h hv).1
  obtain ⟨n, hn, rfl⟩ := List.mem_iff_getElem.1 ha
  obtain ⟨hl, hat⟩ := okActs_at ht
  obtain ⟨w1, w2⟩ := hat n hn
  have := (g_round (own := false) (full := false) hn hl w1 w2 h hv).2
  have e : actAt ts (n : Int) = ts[n] := by
    show ts.getD n _ = _
    rw [List.getD_eq_getElem?_getD, List.getElem?_eq_getElem hn]; rfl
  rw [e] at this
  exact this
theorem gLoop_ok {rk : Int → Int → Int → Int → Bool} (hrk : rk = rokB) : ∀ tm hp n x, (loopS [2, 7, 0, 1, 9, 6] [] (gLoop rk) tm hp n).get = some x → InLoop Try.prog 248 (loopOf Try.prog 10 0).get!.2 tm hp n fun e tm hp n => (e, tm, hp, n) = x := loopS_of fun li r h => by
  subst hrk
  unfold gLoop at h
  split at h
  · rename_i k o own full ts k2 o2 g s
    obtain ⟨hk, h⟩ := Tr.get_ask.1 h
    obtain ⟨hr, h⟩ := Tr.get_ask.1 h
    obtain ⟨ht, h2⟩ := Tr.get_ask.1 h
    simp only [Tr.get, Option.some.injEq] at h2
    subst h2
    simp only [Bool.and_eq_true, beq_iff_eq] at hk hr
    obtain ⟨rfl, rfl⟩ := hk
    obtain ⟨hr, hv⟩ := hr
    have hv := v12_iff.1 hv
    change List (Int × Int × Int × Bool) at ts
    obtain ⟨hl, hat⟩ := okActs_at ht
    refine ⟨Keeps.of (Nat.le_refl 2) rfl (fun o ho => by cases ho), ?_⟩
    generalize hS : gF k2 o2 ts (g, s) = S
    refine loop_li (σ := Nat × Int × Int) (st := fun x => gSt own full ts k2 o2 x.2.1 x.2.2 (x.1 : Int)) (Inv := fun x => x.1 ≤ ts.length ∧ rokB k2 o2 x.2.1 x.2.2 = true ∧ x.2.2 ∈ valid12 ∧ gF k2 o2 (ts.drop x.1) x.2 = S) (μ := fun x => ts.length - x.1) (d := 10) (unr := fun _ _ => 20) (sp := sf15) (ls := noLs) plain mixed sf15_ok noLs_ok g_loop (fun x hx => ?_) (0, g, s) ⟨Nat.zero_le _, hr, hv, hS⟩
    obtain ⟨n, g', s'⟩ := x
    obtain ⟨hi, hr', hv', hf⟩ := hx
    simp only at hi hr' hv' hf
    by_cases h5 : n < ts.length
    · obtain ⟨w1, w2⟩ := hat n h5
      obtain ⟨q1, q2, q3⟩ := g_round (own := own) (full := full) h5 hl w1 w2 hr' hv'
      refine ⟨_, q1, fun _ => ⟨(n + 1, stG k2 o2 (actAt ts (n : Int)) (g', s')), ⟨by omega, q2, q3, ?_⟩, by simp only; omega, rfl⟩, nofun⟩
      rw [actAt_drop h5] at hf
      exact hf
    · have : n = ts.length := by omega
      subst this
      have hs' : (g', s') = S := by rw [List.drop_length] at hf; exact hf
      subst hs'
      exact ⟨_, Tr.follow_get (g_end own full ts k2 o2 g' s' _) (by rw [decide_eq_false (by omega)]), nofun, fun _ => ⟨rfl, rfl⟩⟩
  · cases h
def l10 (rk : Int → Int → Int → Int → Bool) : LoopT C6 := addL 10 0 (loopS [2, 7, 0, 1, 9, 6] [] (gLoop rk)) noLs
theorem l10_ok {rk : Int → Int → Int → Int → Bool} (hrk : rk = rokB) : LoopTOk Try.prog (l10 rk) := addL_ok g_loop (gLoop_ok hrk) noLs_ok
/-! 'rk' stands for rokB, 'rg' for rng64: as variables, so nothing reckons them. -/
def ckT5 (rk : Int → Int → Int → Int → Bool) : FnF C6 := fun args os => match args, os with
  | [.agg [.raw (.int .i64 k), .raw (.int .u64 o), .raw (.int .u64 g), .raw (.int .u8 s)]], [] => .br (rk k o g s) (.leaf (.raw (.int .i64 0), [])) .fail
  | _, _ => .fail
def rnT5 (rk : Int → Int → Int → Int → Bool) : FnF C6 := fun args os => match args, os with
  | [.agg [.raw (.int .i64 k), .raw (.int .u64 o), .raw (.int .u64 g), .raw (.int .u8 (.ofNat 15))]], [] => .br (rk k o g 15) (.leaf (.raw (.bool true), [])) .fail
  | _, _ => .fail
def inT5 (rk : Int → Int → Int → Int → Bool) : FnF C6 := fun args os => match args, os with
  | [.agg [.raw (.int .i64 k), .raw (.int .u64 o), .raw (.int .u64 g), .raw (.int .u8 s)], .raw (.int .u64 w)], [] => .br (rk k o g s) (.leaf (.tup [devV k o (bsI k o w) 15, .raw (.int .i64 0)], [])) .fail
  | _, _ => .fail
def bestT5 (rg : Int → Bool) : FnF C6 := fun args os => match args, os with
  | [.raw (.int .i64 k), .raw (.int .u64 o), .raw (.int .u64 w)], [] => .br (rg o) (.leaf (.tup [.raw (.int .u64 (bsI k o w)), .raw (.int .i64 (beI k o))], [])) .fail
  | _, _ => .fail
theorem ckT5_ok {rk : Int → Int → Int → Int → Bool} (hrk : rk = rokB) : ∀ args os r, (ckT5 rk args os).get = some r → Fn0 Try.prog 29 args os r := fun args os r h => by
  subst hrk; exact ckT4_ok args os r h
theorem rnT5_ok {rk : Int → Int → Int → Int → Bool} (hrk : rk = rokB) : ∀ args os r, (rnT5 rk args os).get = some r → Fn0 Try.prog 35 args os r := fun args os r h => by
  subst hrk
  unfold rnT5 at h
  split at h
  · rename_i k o g
    obtain ⟨h1, h2⟩ := Tr.get_ask.1 h
    simp only [Tr.get, Option.some.injEq] at h2
    subst h2
    refine rnT4_ok _ _ _ ?_
    show (Tr.br (rokB k o g 15) _ _).get = _
    rw [h1]
    show some (SV.raw (.bool (hb 15 4 && (!hb 15 64 && !hb 15 128))), []) = _
    rw [show (hb 15 4 && (!hb 15 64 && !hb 15 128)) = true by decide]
  · cases h
theorem inT5_ok {rk : Int → Int → Int → Int → Bool} (hrk : rk = rokB) : ∀ args os r, (inT5 rk args os).get = some r → Fn0 Try.prog 31 args os r := fun args os r h => by
  subst hrk
  unfold inT5 at h
  split at h
  · rename_i k o g s w
    obtain ⟨h1, h2⟩ := Tr.get_ask.1 h
    refine inT2_ok _ _ _ ?_
    show (Tr.br (rng64 o && rng64 g && ckB k o g s) _ _).get = _
    rw [rokB_r h1, (rokB_iff.1 h1).2.2]
    exact h2
  · cases h
theorem bestT5_ok {rg : Int → Bool} (hrg : rg = rng64) : ∀ args os r, (bestT5 rg args os).get = some r → Fn0 Try.prog 32 args os r := fun args os r h => by
  subst hrg; exact rbT_ok args os r h
def sf16 (rk : Int → Int → Int → Int → Bool) (rg : Int → Bool) : SpecT C6 := addS 17 (viewS pk6T) (addS 28 (viewS (lvT true)) (addS 29 (viewS (ckT5 rk)) (addS 31 (viewS (inT5 rk)) (addS 32 (viewS (bestT5 rg)) (addS 35 (viewS (rnT5 rk)) (addS 38 (viewS allT) noSp))))))
theorem sf16_ok {rk : Int → Int → Int → Int → Bool} (hrk : rk = rokB) {rg : Int → Bool} (hrg : rg = rng64) : SpecTOk Try.prog (sf16 rk rg) := addS_ok (viewS_ok pk6T_ok) (addS_ok (viewS_ok lv7T_ok) (addS_ok (viewS_ok (ckT5_ok hrk)) (addS_ok (viewS_ok (inT5_ok hrk)) (addS_ok (viewS_ok (bestT5_ok hrg)) (addS_ok (viewS_ok (rnT5_ok hrk)) (addS_ok (viewS_ok allRT_ok) noSp_ok))))))
abbrev f11 (rk : Int → Int → Int → Int → Bool) (rg : Int → Bool) := fnC C6 Try.prog (sf16 rk rg) (l10 rk) (fun g b => match g, b with | 10, 0 => 0 | _, _ => 20) 10
abbrev f11n (rk : Int → Int → Int → Int → Bool) (rg : Int → Bool) := fnC C6 Try.prog (sf16 rk rg) noLs (fun _ _ => 20) 10
end
end Go.Proofs.Ytknkemjbikbhgaa
