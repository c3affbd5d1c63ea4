/-
  Chapter 7: Init, Ask, Break, Runs as trees. Own work; nothing here is trusted.
-/
import Derived.Test.YtknkemjbikbhgaaCh07Law
namespace Go.Proofs.Ytknkemjbikbhgaa
open Go Go.Sx Go.RowKit
set_option maxRecDepth 1000000
set_option maxHeartbeats 8000000
set_option linter.unusedVariables false
set_option linter.unusedSimpArgs false
noncomputable section
def kdB (k : Int) : Bool := k == 1 || (k == 2 || k == 3)
def beB (k o : Int) : Bool := kdB k && hasI o 32
def beI (k o : Int) : Int := sel (beB k o) 0 2
def bsI (k o w : Int) : Int := sel (beB k o) (U (bsB k.toNat (both k.toNat o w))) 0
theorem kdB_cases {k : Int} (h : kdB k = true) : ∃ j : Nat, (j = 1 ∨ j = 2 ∨ j = 3) ∧ k = (j : Int) := by
  unfold kdB at h
  simp only [Bool.or_eq_true, beq_iff_eq] at h
  rcases h with rfl | rfl | rfl
  · exact ⟨1, .inl rfl, rfl⟩
  · exact ⟨2, .inr (.inl rfl), rfl⟩
  · exact ⟨3, .inr (.inr rfl), rfl⟩
def allI (k : Int) : Int := sel (k == 1) 1156165107747 (sel (k == 2) 1156151538208 (sel (k == 3) 1156151508999 0))
def allT : FnF C6 := fun args os => match args, os with
  | [.raw (.int .i64 k)], [] => .leaf (.raw (.int .u64 (allI k)), [])
  | _, _ => .fail
theorem all_form (k : Int) : (fnC C6 Try.prog noSp noLs (fun _ _ => 20) 10 18 [.raw (.int .i64 k)] []).get =
  bro (k == 1) (some (.raw (.int .u64 1156165107747), [])) (bro (k == 2) (some (.raw (.int .u64 1156151538208), [])) (bro (k == 3) (some (.raw (.int .u64 1156151508999), [])) (some (.raw (.int .u64 0), [])))) := by kernel_rfl
theorem allT_ok : ∀ args os r, (allT args os).get = some r → Fn0 Try.prog 18 args os r := fun args os r h => by
  unfold allT at h
  split at h
  · rename_i k
    refine fnC_ok (sp := noSp) (ls := noLs) (unr := fun _ _ => 20) (d := 10) plain mixed noSp_ok noLs_ok ?_
    rw [all_form, ← h]
    unfold allI
    cases (k == 1) <;> cases (k == 2) <;> cases (k == 3) <;> rfl
  · cases h
def sf5 : SpecT C6 := addS 18 (viewS allT) noSp
theorem sf5_ok : SpecTOk Try.prog sf5 := addS_ok (viewS_ok allT_ok) noSp_ok
theorem best_no (k o w : Int) : Tr.follow [true, true, true, true, true] (fnC C6 Try.prog sf5 noLs (fun _ _ => 20) 10 23 [.raw (.int .i64 k), .raw (.int .u64 o), .raw (.int .u64 w)] []) = some ([allI k == 0, true, true, true, true], (.tup [.raw (.int .u64 0), .raw (.int .i64 2)], [])) := by kernel_rfl
def bestT : FnF C6 := fun args os => match args, os with
  | [.raw (.int .i64 k), .raw (.int .u64 o), .raw (.int .u64 w)], [] => .br (rng64 o) (.leaf (.tup [.raw (.int .u64 (bsI k o w)), .raw (.int .i64 (beI k o))], [])) .fail
  | _, _ => .fail
theorem bestT_ok : ∀ args os r, (bestT args os).get = some r → Fn0 Try.prog 23 args os r := fun args os r h => by
  unfold bestT at h
  split at h
  · rename_i k o w
    obtain ⟨h1, h2⟩ := Tr.get_ask.1 h
    simp only [Tr.get, Option.some.injEq] at h2
    subst h2
    rw [rng64_iff] at h1
    cases hk : kdB k with
    | true =>
      obtain ⟨j, hj, rfl⟩ := kdB_cases hk
      refine Fn0.flat best_ok fun K hK => ⟨h1.1, h1.2, hj, fun e => ?_, fun e => ?_⟩
      · unfold bsI beI beB hasI at hK
        rw [hk, e] at hK
        exact hK
      · unfold bsI beI beB hasI at hK
        rw [hk, e] at hK
        exact hK
    | false =>
      have e1 : beB k o = false := by unfold beB; rw [hk]; rfl
      have e2 : (allI k == 0) = true := by
        unfold kdB at hk
        simp only [Bool.or_eq_false_iff] at hk
        unfold allI
        rw [hk.1, hk.2.1, hk.2.2]; rfl
      refine fnC_ok (sp := sf5) (ls := noLs) (unr := fun _ _ => 20) (d := 10) plain mixed sf5_ok noLs_ok ?_
      rw [Tr.follow_get (best_no k o w) (by rw [e2])]
      unfold bsI beI
      rw [e1]; rfl
  · cases h

def asG (k o g s set : Int) : Int := sel (ckB k o g s && (hb s 2 && !hb s 8)) set g
def rnB (k o g s : Int) : Bool := ckB k o g s && (hb s 4 && (!hb s 64 && !hb s 128))
def brB (k o g s : Int) : Bool := ckB k o g s && hb s 4
def brE (k o g s : Int) : Int := sel (ckB k o g s) (sel (hb s 4) 0 8) 2
abbrev devS (c : Bool) (k o g s : Int) : SV := devV (sel c k 0) (sel c o 0) (sel c g 0) (sel c s 0)
def askT : FnF C6 := fun args os => match args, os with
  | [.agg [.raw (.int .i64 k), .raw (.int .u64 o), .raw (.int .u64 g), .raw (.int .u8 s)], .raw (.int .u64 set)], [] => .br (rng64 o && rng64 g) (.leaf (devV k o (asG k o g s set) s, [])) .fail
  | _, _ => .fail
def brkT : FnF C6 := fun args os => match args, os with
  | [.agg [.raw (.int .i64 k), .raw (.int .u64 o), .raw (.int .u64 g), .raw (.int .u8 s)]], [] => .br (rng64 o && rng64 g) (.leaf (.tup [devS (brB k o g s) k o g (bitsV .u8 .or s 64), .raw (.int .i64 (brE k o g s))], [])) .fail
  | _, _ => .fail
def rnT : FnF C6 := fun args os => match args, os with
  | [.agg [.raw (.int .i64 k), .raw (.int .u64 o), .raw (.int .u64 g), .raw (.int .u8 s)]], [] => .br (rng64 o && rng64 g) (.leaf (.raw (.bool (rnB k o g s)), [])) .fail
  | _, _ => .fail
theorem ask_form (k o g s set : Int) : (f3 33 [devV k o g s, .raw (.int .u64 set)] []).get = bro (rng64 o && rng64 g) (bro (ckI k o g s == 0) (bro (hb s 2) (bro (!hb s 8) (some (devV k o set s, [])) (some (devV k o g s, []))) (some (devV k o g s, []))) (some (devV k o g s, []))) none := by kernel_rfl
theorem brk_form (k o g s : Int) : (f3 34 [devV k o g s] []).get = bro (rng64 o && rng64 g) (bro (ckI k o g s != 0) (some (.tup [devV 0 0 0 0, .raw (.int .i64 2)], [])) (bro (!hb s 4) (some (.tup [devV 0 0 0 0, .raw (.int .i64 8)], [])) (some (.tup [devV k o g (bitsV .u8 .or s 64), .raw (.int .i64 0)], [])))) none := by kernel_rfl
theorem rn_form (k o g s : Int) : (f3 35 [devV k o g s] []).get = bro (rng64 o && rng64 g) (bro (ckI k o g s == 0) (bro (hb s 4) (bro (!hb s 64) (some (.raw (.bool (!hb s 128)), [])) (some (.raw (.bool false), []))) (some (.raw (.bool false), []))) (some (.raw (.bool false), []))) none := by kernel_rfl
theorem ckI_eq (k o g s : Int) : (ckI k o g s == 0) = ckB k o g s ∧ (ckI k o g s != 0) = !ckB k o g s := by
  unfold ckI
  cases ckB k o g s <;> exact ⟨rfl, rfl⟩
theorem askT_ok : ∀ args os r, (askT args os).get = some r → Fn0 Try.prog 33 args os r := fun args os r h => by
  unfold askT at h
  split at h
  · rename_i k o g s set
    obtain ⟨h1, h2⟩ := Tr.get_ask.1 h
    refine fnC_ok (sp := sf3) (ls := noLs) (unr := fun _ _ => 20) (d := 10) plain mixed sf3_ok noLs_ok ?_
    refine (ask_form k o g s set).trans ?_
    rw [← h2, h1, (ckI_eq k o g s).1]
    unfold asG
    cases ckB k o g s <;> cases hb s 2 <;> cases hb s 8 <;> rfl
  · cases h
theorem brkT_ok : ∀ args os r, (brkT args os).get = some r → Fn0 Try.prog 34 args os r := fun args os r h => by
  unfold brkT at h
  split at h
  · rename_i k o g s
    obtain ⟨h1, h2⟩ := Tr.get_ask.1 h
    refine fnC_ok (sp := sf3) (ls := noLs) (unr := fun _ _ => 20) (d := 10) plain mixed sf3_ok noLs_ok ?_
    refine (brk_form k o g s).trans ?_
    rw [← h2, h1, (ckI_eq k o g s).2]
    unfold brB brE
    cases ckB k o g s <;> cases hb s 4 <;> rfl
  · cases h
theorem rnT_ok : ∀ args os r, (rnT args os).get = some r → Fn0 Try.prog 35 args os r := fun args os r h => by
  unfold rnT at h
  split at h
  · rename_i k o g s
    obtain ⟨h1, h2⟩ := Tr.get_ask.1 h
    refine fnC_ok (sp := sf3) (ls := noLs) (unr := fun _ _ => 20) (d := 10) plain mixed sf3_ok noLs_ok ?_
    refine (rn_form k o g s).trans ?_
    rw [← h2, h1, (ckI_eq k o g s).1]
    unfold rnB
    cases ckB k o g s <;> cases hb s 4 <;> cases hb s 64 <;> rfl
  · cases h
def sf6 : SpecT C6 := addS 23 (viewS bestT) (addS 33 (viewS askT) (addS 30 (viewS wrT) sf3))
theorem sf6_ok : SpecTOk Try.prog sf6 := addS_ok (viewS_ok bestT_ok) (addS_ok (viewS_ok askT_ok) (addS_ok (viewS_ok wrT_ok) sf3_ok))
abbrev f7 := fnC C6 Try.prog sf6 noLs (fun _ _ => 20) 10
/-- A driver's steps, on the Guest and the status. -/
def stepW (k o w : Int) (x : Int × Int) : Int × Int := (wrG k o x.1 x.2 w, wrI k o x.1 x.2 w)
def stepA (k o set : Int) (x : Int × Int) : Int × Int := (asG k o x.1 x.2 set, x.2)
def chn (k o set : Int) (x : Int × Int) : Int × Int := stepW k o 15 (stepW k o 11 (stepA k o set (stepW k o 3 (stepW k o 1 (stepW k o 0 x)))))
def inB (k o g s : Int) : Bool := ckB k o g s && beB k o
theorem rng_bsI (k o w : Int) : rng64 (bsI k o w) = true := by
  unfold bsI
  cases beB k o
  · rfl
  · exact rng64_iff.2 (U_range _)
theorem rng_asG {k o g s set : Int} (h : rng64 g = true) (h2 : rng64 set = true) : rng64 (asG k o g s set) = true := by
  unfold asG
  cases (ckB k o g s && (hb s 2 && !hb s 8))
  · exact h
  · exact h2
abbrev y1 (k o g s : Int) := stepW k o 0 (g, s)
abbrev y2 (k o g s : Int) := stepW k o 1 (y1 k o g s)
abbrev y3 (k o g s : Int) := stepW k o 3 (y2 k o g s)
abbrev y4 (k o g s w : Int) := stepA k o (bsI k o w) (y3 k o g s)
abbrev y5 (k o g s w : Int) := stepW k o 11 (y4 k o g s w)
abbrev errT : SV := .tup [devV 0 0 0 0, .raw (.int .i64 2)]
theorem in_form (k o g s w : Int) : (f7 31 [devV k o g s, .raw (.int .u64 w)] []).get = bro (rng64 o) (bro (rng64 o && rng64 g) (bro (ckI k o g s != 0) (some (errT, [])) (bro (beI k o != 0) (some (errT, []))
    (bro (rng64 o && rng64 g) (bro (rng64 o && rng64 (y1 k o g s).1) (bro (rng64 o && rng64 (y2 k o g s).1) (bro (rng64 o && rng64 (y3 k o g s).1) (bro (rng64 o && rng64 (y4 k o g s w).1) (bro (rng64 o && rng64 (y5 k o g s w).1)
      (some (.tup [devV k o (chn k o (bsI k o w) (g, s)).1 (chn k o (bsI k o w) (g, s)).2, .raw (.int .i64 0)], [])) none) none) none) none) none) none))) none) none := by kernel_rfl
abbrev inV (k o g s w : Int) : SV := .tup [devS (inB k o g s) k o (chn k o (bsI k o w) (g, s)).1 (chn k o (bsI k o w) (g, s)).2, .raw (.int .i64 (sel (inB k o g s) 0 2))]
def inT : FnF C6 := fun args os => match args, os with
  | [.agg [.raw (.int .i64 k), .raw (.int .u64 o), .raw (.int .u64 g), .raw (.int .u8 s)], .raw (.int .u64 w)], [] => .br (rng64 o && rng64 g) (.leaf (inV k o g s w, [])) .fail
  | _, _ => .fail
theorem inT_ok : ∀ args os r, (inT args os).get = some r → Fn0 Try.prog 31 args os r := fun args os r h => by
  unfold inT at h
  split at h
  · rename_i k o g s w
    obtain ⟨h1, h2⟩ := Tr.get_ask.1 h
    refine fnC_ok (sp := sf6) (ls := noLs) (unr := fun _ _ => 20) (d := 10) plain mixed sf6_ok noLs_ok ?_
    refine (in_form k o g s w).trans ?_
    rw [Bool.and_eq_true] at h1
    have r1 : rng64 (y1 k o g s).1 = true := rng_wrG h1.2
    have r2 : rng64 (y2 k o g s).1 = true := rng_wrG r1
    have r3 : rng64 (y3 k o g s).1 = true := rng_wrG r2
    have r4 : rng64 (y4 k o g s w).1 = true := rng_asG r3 (rng_bsI k o w)
    have r5 : rng64 (y5 k o g s w).1 = true := rng_wrG r4
    rw [← h2, h1.1, h1.2, r1, r2, r3, r4, r5, (ckI_eq k o g s).2]
    unfold inV inB beI
    cases ckB k o g s <;> cases beB k o <;> rfl
  · cases h
end
end Go.Proofs.Ytknkemjbikbhgaa
