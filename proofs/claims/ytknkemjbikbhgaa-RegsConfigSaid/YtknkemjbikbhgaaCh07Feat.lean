/-
  Chapter 7: what it takes of chapter 6, for every kind, as trees. Own work; nothing here is trusted.
-/
import Derived.Test.YtknkemjbikbhgaaCh06BestOk
import Derived.Test.YtknkemjbikbhgaaCh07
import Derived.Test.YtknkemjbikbhgaaSxC
namespace Go.Proofs.Ytknkemjbikbhgaa
open Go Go.Sx Go.RowKit
set_option maxRecDepth 1000000
set_option maxHeartbeats 8000000
set_option linter.unusedVariables false
set_option linter.unusedSimpArgs false
noncomputable section
def rng64 (x : Int) : Bool := decide (0 ≤ x ∧ x < 18446744073709551616)
theorem rng64_iff {x : Int} : rng64 x = true ↔ 0 ≤ x ∧ x < 18446744073709551616 := by unfold rng64; exact decide_eq_true_iff
/-- Is a set one of known features? -/
def knI (k s : Int) : Bool := (k == 1 && bitsV .u64 .andNot s 1156165107747 == 0) || ((k == 2 && bitsV .u64 .andNot s 1156151538208 == 0) || (k == 3 && bitsV .u64 .andNot s 1156151508999 == 0))
theorem knI_cases {k s : Int} (h : knI k s = true) : ∃ j : Nat, (j = 1 ∨ j = 2 ∨ j = 3) ∧ k = (j : Int) ∧ bitsV .u64 .andNot s (allOf j) = 0 := by
  unfold knI at h
  simp only [Bool.or_eq_true, Bool.and_eq_true, beq_iff_eq] at h
  rcases h with ⟨rfl, h⟩ | ⟨rfl, h⟩ | ⟨rfl, h⟩
  · exact ⟨1, .inl rfl, rfl, h⟩
  · exact ⟨2, .inr (.inl rfl), rfl, h⟩
  · exact ⟨3, .inr (.inr rfl), rfl, h⟩
def ndI (k s : Int) : Int := U (ndB k.toNat (V s))
def acI (k o g : Int) : Bool := knI k g && (ndI k g == 0 && bitsV .u64 .andNot g o == 0)
def hasI (x : Int) (b : Nat) : Bool := (V x).getLsbD b

def hasT : FnF C6 := fun args os => match args, os with
  | [.raw (.int .u64 x), .raw (.int .i64 (.ofNat b))], [] => .br (rng64 x && Nat.ble b 63) (.leaf (.raw (.bool (hasI x b)), [])) .fail
  | _, _ => .fail
theorem hasT_ok : ∀ args os r, (hasT args os).get = some r → Fn0 Try.prog 27 args os r := fun args os r h => by
  unfold hasT at h
  split at h
  · rename_i x b
    obtain ⟨h1, h2⟩ := Tr.get_ask.1 h
    simp only [Tr.get, Option.some.injEq] at h2
    subst h2
    simp only [Bool.and_eq_true, rng64_iff] at h1
    have hb := Nat.le_of_ble_eq_true h1.2
    refine Fn0.flat has_ok fun K hK => ?_
    exact ⟨h1.1.1, h1.1.2, hb, hK⟩
  · cases h
def knT : FnF C6 := fun args os => match args, os with
  | [.raw (.int .i64 k), .raw (.int .u64 s)], [] => .leaf (.raw (.bool (knI k s)), [])
  | _, _ => .fail
theorem kn_form (k s : Int) : (fnC C6 Try.prog noSp noLs (fun _ _ => 20) 10 20 [.raw (.int .i64 k), .raw (.int .u64 s)] []).get =
  bro (k == (1 : Int))
    (bro (k == (1 : Int))
      (some (SV.raw (Value.bool (bitsV IntKind.u64 BinOp.andNot s (1156165107747 : Int) == (0 : Int))), []))
      (bro (k == (2 : Int))
        (some (SV.raw (Value.bool (bitsV IntKind.u64 BinOp.andNot s (1156151538208 : Int) == (0 : Int))), []))
        (bro (k == (3 : Int))
          (some (SV.raw (Value.bool (bitsV IntKind.u64 BinOp.andNot s (1156151508999 : Int) == (0 : Int))), []))
          (some (SV.raw (Value.bool (bitsV IntKind.u64 BinOp.andNot s (0 : Int) == (0 : Int))), [])))))
    (bro (k == (2 : Int))
      (bro (k == (1 : Int))
        (some (SV.raw (Value.bool (bitsV IntKind.u64 BinOp.andNot s (1156165107747 : Int) == (0 : Int))), []))
        (bro (k == (2 : Int))
          (some (SV.raw (Value.bool (bitsV IntKind.u64 BinOp.andNot s (1156151538208 : Int) == (0 : Int))), []))
          (bro (k == (3 : Int))
            (some (SV.raw (Value.bool (bitsV IntKind.u64 BinOp.andNot s (1156151508999 : Int) == (0 : Int))), []))
            (some (SV.raw (Value.bool (bitsV IntKind.u64 BinOp.andNot s (0 : Int) == (0 : Int))), [])))))
      (bro (k == (3 : Int))
        (bro (k == (1 : Int))
          (some (SV.raw (Value.bool (bitsV IntKind.u64 BinOp.andNot s (1156165107747 : Int) == (0 : Int))), []))
          (bro (k == (2 : Int))
            (some (SV.raw (Value.bool (bitsV IntKind.u64 BinOp.andNot s (1156151538208 : Int) == (0 : Int))), []))
            (bro (k == (3 : Int))
              (some (SV.raw (Value.bool (bitsV IntKind.u64 BinOp.andNot s (1156151508999 : Int) == (0 : Int))), []))
              (some (SV.raw (Value.bool (bitsV IntKind.u64 BinOp.andNot s (0 : Int) == (0 : Int))), [])))))
        (some (SV.raw (Value.bool false), [])))) := by kernel_rfl
theorem knT_ok : ∀ args os r, (knT args os).get = some r → Fn0 Try.prog 20 args os r := fun args os r h => by
  unfold knT at h
  split at h
  · rename_i k s
    refine fnC_ok (sp := noSp) (ls := noLs) (unr := fun _ _ => 20) (d := 10) plain mixed noSp_ok noLs_ok ?_
    rw [kn_form, ← h]
    unfold knI
    by_cases h1 : k = 1
    · subst h1; simp [Tr.get]
    · by_cases h2 : k = 2
      · subst h2; simp [Tr.get]
      · by_cases h3 : k = 3
        · subst h3; simp [Tr.get]
        · rw [beq_eq_false_iff_ne.2 h1, beq_eq_false_iff_ne.2 h2, beq_eq_false_iff_ne.2 h3]; simp [Tr.get]
  · cases h
def ndT : FnF C6 := fun args os => match args, os with
  | [.raw (.int .i64 k), .raw (.int .u64 s)], [] => .br (knI k s && rng64 s) (.leaf (.raw (.int .u64 (ndI k s)), [])) .fail
  | _, _ => .fail
theorem ndT_ok : ∀ args os r, (ndT args os).get = some r → Fn0 Try.prog 19 args os r := fun args os r h => by
  unfold ndT at h
  split at h
  · rename_i k s
    obtain ⟨h1, h2⟩ := Tr.get_ask.1 h
    simp only [Tr.get, Option.some.injEq] at h2
    subst h2
    simp only [Bool.and_eq_true, rng64_iff] at h1
    obtain ⟨j, hj, rfl, ha⟩ := knI_cases h1.1
    exact Fn0.flat needs_ok fun K hK => ⟨h1.2.1, h1.2.2, hj, ha, hK⟩
  · cases h
def sf1 : SpecT C6 := addS 19 (viewS ndT) (addS 20 (viewS knT) (addS 27 (viewS hasT) noSp))
theorem sf1_ok : SpecTOk Try.prog sf1 := addS_ok (viewS_ok ndT_ok) (addS_ok (viewS_ok knT_ok) (addS_ok (viewS_ok hasT_ok) noSp_ok))
abbrev f1 := fnC C6 Try.prog sf1 noLs (fun _ _ => 20) 10
def acT : FnF C6 := fun args os => match args, os with
  | [.raw (.int .i64 k), .raw (.int .u64 o), .raw (.int .u64 g)], [] => .br (rng64 g) (.leaf (.raw (.bool (acI k o g)), [])) .fail
  | _, _ => .fail
theorem ac_form (k o g : Int) : (f1 24 [.raw (.int .i64 k), .raw (.int .u64 o), .raw (.int .u64 g)] []).get =
  bro (knI k g)
    (bro (knI k g && rng64 g)
      (bro (ndI k g == (0 : Int)) (some (SV.raw (Value.bool (bitsV IntKind.u64 BinOp.andNot g o == (0 : Int))), []))
        (some (SV.raw (Value.bool false), [])))
      none)
    (some (SV.raw (Value.bool false), [])) := by kernel_rfl
theorem acT_ok : ∀ args os r, (acT args os).get = some r → Fn0 Try.prog 24 args os r := fun args os r h => by
  unfold acT at h
  split at h
  · rename_i k o g
    obtain ⟨h1, h2⟩ := Tr.get_ask.1 h
    refine fnC_ok (sp := sf1) (ls := noLs) (unr := fun _ _ => 20) (d := 10) plain mixed sf1_ok noLs_ok ?_
    rw [ac_form, ← h2, h1]
    unfold acI
    cases knI k g <;> cases (ndI k g == 0) <;> rfl
  · cases h
def sf2 : SpecT C6 := addS 24 (viewS acT) (addS 20 (viewS knT) (addS 27 (viewS hasT) noSp))
theorem sf2_ok : SpecTOk Try.prog sf2 := addS_ok (viewS_ok acT_ok) (addS_ok (viewS_ok knT_ok) (addS_ok (viewS_ok hasT_ok) noSp_ok))
abbrev f2 := fnC C6 Try.prog sf2 noLs (fun _ _ => 20) 10
def hb (s b : Int) : Bool := bitsV .u8 .and s b != 0
def ckB (k o g s : Int) : Bool := knI k o && (hasI o 32 && (!(bitsV .u8 .andNot s 207 != 0) && (!(hb s 2 && !hb s 1) && (!(hb s 8 && !(hb s 2 && acI k o g)) && (!(hb s 4 && !hb s 8) && (!(hb s 64 && !hb s 4) && !(!hb s 2 && g != 0)))))))
def ckI (k o g s : Int) : Int := match ckB k o g s with
  | true => 0
  | false => 2
def ckT : FnF C6 := fun args os => match args, os with
  | [.agg [.raw (.int .i64 k), .raw (.int .u64 o), .raw (.int .u64 g), .raw (.int .u8 s)]], [] => .br (rng64 o && rng64 g) (.leaf (.raw (.int .i64 (ckI k o g s)), [])) .fail
  | _, _ => .fail
theorem ck_form (k o g s : Int) : (f2 29 [.agg [.raw (.int .i64 k), .raw (.int .u64 o), .raw (.int .u64 g), .raw (.int .u8 s)]] []).get =
  bro (!knI k o) (some (SV.raw (Value.int IntKind.i64 (2 : Int)), []))
    (bro (rng64 o && Nat.ble (32) (63 : Nat))
      (bro (!hasI o (32)) (some (SV.raw (Value.int IntKind.i64 (2 : Int)), []))
        (bro (bitsV IntKind.u8 BinOp.andNot s (207 : Int) != (0 : Int))
          (some (SV.raw (Value.int IntKind.i64 (2 : Int)), []))
          (bro (bitsV IntKind.u8 BinOp.and s (2 : Int) != (0 : Int))
            (bro (!bitsV IntKind.u8 BinOp.and s (1 : Int) != (0 : Int))
              (some (SV.raw (Value.int IntKind.i64 (2 : Int)), []))
              (bro (bitsV IntKind.u8 BinOp.and s (8 : Int) != (0 : Int))
                (bro (bitsV IntKind.u8 BinOp.and s (2 : Int) != (0 : Int))
                  (bro (rng64 g)
                    (bro (!acI k o g) (some (SV.raw (Value.int IntKind.i64 (2 : Int)), []))
                      (bro (bitsV IntKind.u8 BinOp.and s (4 : Int) != (0 : Int))
                        (bro (!bitsV IntKind.u8 BinOp.and s (8 : Int) != (0 : Int))
                          (some (SV.raw (Value.int IntKind.i64 (2 : Int)), []))
                          (bro (bitsV IntKind.u8 BinOp.and s (64 : Int) != (0 : Int))
                            (bro (!bitsV IntKind.u8 BinOp.and s (4 : Int) != (0 : Int))
                              (some (SV.raw (Value.int IntKind.i64 (2 : Int)), []))
                              (bro (!bitsV IntKind.u8 BinOp.and s (2 : Int) != (0 : Int))
                                (bro (g != (0 : Int)) (some (SV.raw (Value.int IntKind.i64 (2 : Int)), []))
                                  (some (SV.raw (Value.int IntKind.i64 (0 : Int)), [])))
                                (some (SV.raw (Value.int IntKind.i64 (0 : Int)), []))))
                            (bro (!bitsV IntKind.u8 BinOp.and s (2 : Int) != (0 : Int))
                              (bro (g != (0 : Int)) (some (SV.raw (Value.int IntKind.i64 (2 : Int)), []))
                                (some (SV.raw (Value.int IntKind.i64 (0 : Int)), [])))
                              (some (SV.raw (Value.int IntKind.i64 (0 : Int)), [])))))
                        (bro (bitsV IntKind.u8 BinOp.and s (64 : Int) != (0 : Int))
                          (bro (!bitsV IntKind.u8 BinOp.and s (4 : Int) != (0 : Int))
                            (some (SV.raw (Value.int IntKind.i64 (2 : Int)), []))
                            (bro (!bitsV IntKind.u8 BinOp.and s (2 : Int) != (0 : Int))
                              (bro (g != (0 : Int)) (some (SV.raw (Value.int IntKind.i64 (2 : Int)), []))
                                (some (SV.raw (Value.int IntKind.i64 (0 : Int)), [])))
                              (some (SV.raw (Value.int IntKind.i64 (0 : Int)), []))))
                          (bro (!bitsV IntKind.u8 BinOp.and s (2 : Int) != (0 : Int))
                            (bro (g != (0 : Int)) (some (SV.raw (Value.int IntKind.i64 (2 : Int)), []))
                              (some (SV.raw (Value.int IntKind.i64 (0 : Int)), [])))
                            (some (SV.raw (Value.int IntKind.i64 (0 : Int)), []))))))
                    none)
                  (some (SV.raw (Value.int IntKind.i64 (2 : Int)), [])))
                (bro (bitsV IntKind.u8 BinOp.and s (4 : Int) != (0 : Int))
                  (bro (!bitsV IntKind.u8 BinOp.and s (8 : Int) != (0 : Int))
                    (some (SV.raw (Value.int IntKind.i64 (2 : Int)), []))
                    (bro (bitsV IntKind.u8 BinOp.and s (64 : Int) != (0 : Int))
                      (bro (!bitsV IntKind.u8 BinOp.and s (4 : Int) != (0 : Int))
                        (some (SV.raw (Value.int IntKind.i64 (2 : Int)), []))
                        (bro (!bitsV IntKind.u8 BinOp.and s (2 : Int) != (0 : Int))
                          (bro (g != (0 : Int)) (some (SV.raw (Value.int IntKind.i64 (2 : Int)), []))
                            (some (SV.raw (Value.int IntKind.i64 (0 : Int)), [])))
                          (some (SV.raw (Value.int IntKind.i64 (0 : Int)), []))))
                      (bro (!bitsV IntKind.u8 BinOp.and s (2 : Int) != (0 : Int))
                        (bro (g != (0 : Int)) (some (SV.raw (Value.int IntKind.i64 (2 : Int)), []))
                          (some (SV.raw (Value.int IntKind.i64 (0 : Int)), [])))
                        (some (SV.raw (Value.int IntKind.i64 (0 : Int)), [])))))
                  (bro (bitsV IntKind.u8 BinOp.and s (64 : Int) != (0 : Int))
                    (bro (!bitsV IntKind.u8 BinOp.and s (4 : Int) != (0 : Int))
                      (some (SV.raw (Value.int IntKind.i64 (2 : Int)), []))
                      (bro (!bitsV IntKind.u8 BinOp.and s (2 : Int) != (0 : Int))
                        (bro (g != (0 : Int)) (some (SV.raw (Value.int IntKind.i64 (2 : Int)), []))
                          (some (SV.raw (Value.int IntKind.i64 (0 : Int)), [])))
                        (some (SV.raw (Value.int IntKind.i64 (0 : Int)), []))))
                    (bro (!bitsV IntKind.u8 BinOp.and s (2 : Int) != (0 : Int))
                      (bro (g != (0 : Int)) (some (SV.raw (Value.int IntKind.i64 (2 : Int)), []))
                        (some (SV.raw (Value.int IntKind.i64 (0 : Int)), [])))
                      (some (SV.raw (Value.int IntKind.i64 (0 : Int)), [])))))))
            (bro (bitsV IntKind.u8 BinOp.and s (8 : Int) != (0 : Int))
              (bro (bitsV IntKind.u8 BinOp.and s (2 : Int) != (0 : Int))
                (bro (rng64 g)
                  (bro (!acI k o g) (some (SV.raw (Value.int IntKind.i64 (2 : Int)), []))
                    (bro (bitsV IntKind.u8 BinOp.and s (4 : Int) != (0 : Int))
                      (bro (!bitsV IntKind.u8 BinOp.and s (8 : Int) != (0 : Int))
                        (some (SV.raw (Value.int IntKind.i64 (2 : Int)), []))
                        (bro (bitsV IntKind.u8 BinOp.and s (64 : Int) != (0 : Int))
                          (bro (!bitsV IntKind.u8 BinOp.and s (4 : Int) != (0 : Int))
                            (some (SV.raw (Value.int IntKind.i64 (2 : Int)), []))
                            (bro (!bitsV IntKind.u8 BinOp.and s (2 : Int) != (0 : Int))
                              (bro (g != (0 : Int)) (some (SV.raw (Value.int IntKind.i64 (2 : Int)), []))
                                (some (SV.raw (Value.int IntKind.i64 (0 : Int)), [])))
                              (some (SV.raw (Value.int IntKind.i64 (0 : Int)), []))))
                          (bro (!bitsV IntKind.u8 BinOp.and s (2 : Int) != (0 : Int))
                            (bro (g != (0 : Int)) (some (SV.raw (Value.int IntKind.i64 (2 : Int)), []))
                              (some (SV.raw (Value.int IntKind.i64 (0 : Int)), [])))
                            (some (SV.raw (Value.int IntKind.i64 (0 : Int)), [])))))
                      (bro (bitsV IntKind.u8 BinOp.and s (64 : Int) != (0 : Int))
                        (bro (!bitsV IntKind.u8 BinOp.and s (4 : Int) != (0 : Int))
                          (some (SV.raw (Value.int IntKind.i64 (2 : Int)), []))
                          (bro (!bitsV IntKind.u8 BinOp.and s (2 : Int) != (0 : Int))
                            (bro (g != (0 : Int)) (some (SV.raw (Value.int IntKind.i64 (2 : Int)), []))
                              (some (SV.raw (Value.int IntKind.i64 (0 : Int)), [])))
                            (some (SV.raw (Value.int IntKind.i64 (0 : Int)), []))))
                        (bro (!bitsV IntKind.u8 BinOp.and s (2 : Int) != (0 : Int))
                          (bro (g != (0 : Int)) (some (SV.raw (Value.int IntKind.i64 (2 : Int)), []))
                            (some (SV.raw (Value.int IntKind.i64 (0 : Int)), [])))
                          (some (SV.raw (Value.int IntKind.i64 (0 : Int)), []))))))
                  none)
                (some (SV.raw (Value.int IntKind.i64 (2 : Int)), [])))
              (bro (bitsV IntKind.u8 BinOp.and s (4 : Int) != (0 : Int))
                (bro (!bitsV IntKind.u8 BinOp.and s (8 : Int) != (0 : Int))
                  (some (SV.raw (Value.int IntKind.i64 (2 : Int)), []))
                  (bro (bitsV IntKind.u8 BinOp.and s (64 : Int) != (0 : Int))
                    (bro (!bitsV IntKind.u8 BinOp.and s (4 : Int) != (0 : Int))
                      (some (SV.raw (Value.int IntKind.i64 (2 : Int)), []))
                      (bro (!bitsV IntKind.u8 BinOp.and s (2 : Int) != (0 : Int))
                        (bro (g != (0 : Int)) (some (SV.raw (Value.int IntKind.i64 (2 : Int)), []))
                          (some (SV.raw (Value.int IntKind.i64 (0 : Int)), [])))
                        (some (SV.raw (Value.int IntKind.i64 (0 : Int)), []))))
                    (bro (!bitsV IntKind.u8 BinOp.and s (2 : Int) != (0 : Int))
                      (bro (g != (0 : Int)) (some (SV.raw (Value.int IntKind.i64 (2 : Int)), []))
                        (some (SV.raw (Value.int IntKind.i64 (0 : Int)), [])))
                      (some (SV.raw (Value.int IntKind.i64 (0 : Int)), [])))))
                (bro (bitsV IntKind.u8 BinOp.and s (64 : Int) != (0 : Int))
                  (bro (!bitsV IntKind.u8 BinOp.and s (4 : Int) != (0 : Int))
                    (some (SV.raw (Value.int IntKind.i64 (2 : Int)), []))
                    (bro (!bitsV IntKind.u8 BinOp.and s (2 : Int) != (0 : Int))
                      (bro (g != (0 : Int)) (some (SV.raw (Value.int IntKind.i64 (2 : Int)), []))
                        (some (SV.raw (Value.int IntKind.i64 (0 : Int)), [])))
                      (some (SV.raw (Value.int IntKind.i64 (0 : Int)), []))))
                  (bro (!bitsV IntKind.u8 BinOp.and s (2 : Int) != (0 : Int))
                    (bro (g != (0 : Int)) (some (SV.raw (Value.int IntKind.i64 (2 : Int)), []))
                      (some (SV.raw (Value.int IntKind.i64 (0 : Int)), [])))
                    (some (SV.raw (Value.int IntKind.i64 (0 : Int)), [])))))))))
      none) := by kernel_rfl
theorem ckT_ok : ∀ args os r, (ckT args os).get = some r → Fn0 Try.prog 29 args os r := fun args os r h => by
  unfold ckT at h
  split at h
  · rename_i k o g s
    obtain ⟨h1, h2⟩ := Tr.get_ask.1 h
    rw [Bool.and_eq_true] at h1
    refine fnC_ok (sp := sf2) (ls := noLs) (unr := fun _ _ => 20) (d := 10) plain mixed sf2_ok noLs_ok ?_
    rw [ck_form, ← h2, h1.1, h1.2]
    have e63 : Nat.ble 32 63 = true := by decide
    rw [e63]
    unfold ckI ckB hb
    generalize knI k o = b1
    generalize hasI o 32 = b2
    generalize (bitsV .u8 .andNot s 207 != 0) = b3
    generalize (bitsV .u8 .and s 2 != 0) = b4
    generalize (bitsV .u8 .and s 1 != 0) = b5
    generalize (bitsV .u8 .and s 8 != 0) = b6
    generalize acI k o g = b7
    generalize (bitsV .u8 .and s 4 != 0) = b8
    generalize (bitsV .u8 .and s 64 != 0) = b9
    generalize (g != 0) = b10
    clear h h1 h2
    cases b1
    · rfl
    cases b2
    · rfl
    cases b3
    · cases b4 <;> cases b5 <;> cases b6 <;> cases b7 <;> cases b8 <;> cases b9 <;> cases b10 <;> rfl
    · rfl
  · cases h
def sf3 : SpecT C6 := addS 29 (viewS ckT) sf2
theorem sf3_ok : SpecTOk Try.prog sf3 := addS_ok (viewS_ok ckT_ok) sf2_ok
abbrev f3 := fnC C6 Try.prog sf3 noLs (fun _ _ => 20) 10
def rules5 : List (C6 94).α := [((1 : Int), 72), ((2 : Int), 73), ((8 : Int), 74), ((4 : Int), 75), ((128 : Int), 76)]
abbrev wSlots : List Nat := [16, 17, 18, 1, 2, 4]
abbrev wSt (w k o g : Int) (own full : Bool) (i s : Int) : List SV × List (SO C6) := ([.h 0, .raw (.int .i64 5), .raw (.int .i64 i), .raw (.int .u8 w), .h 1, .h 2], [.sl own full 94 rules5, .box [.raw (.int .i64 k), .raw (.int .u64 o), .raw (.int .u64 g), .raw (.int .u8 s)] 42, .box [.raw (.int .i64 0), .raw (.int .u64 0), .raw (.int .u64 0), .raw (.int .u8 0)] 42])
abbrev wRound (w k o g : Int) (own full : Bool) (i s : Int) := roundG C6 Try.prog sf3 noLs (fun _ _ => 20) 10 30 0 wSlots ⟨(wSt w k o g own full i s).1, 3, (wSt w k o g own full i s).2⟩
/-- What one rule makes of a status. -/
def stW (acc : Bool) (w : Int) : Nat → Int → Int
  | 0, s => sel (hb w 1) (sel (!hb s 1) (bitsV .u8 .or s 1) s) s
  | 1, s => sel (hb w 2) (sel (!hb s 2) (sel (hb s 1) (bitsV .u8 .or s 2) s) s) s
  | 2, s => sel (hb w 8) (sel (!hb s 8) (sel (hb s 2) (sel acc (bitsV .u8 .or s 8) s) s) s) s
  | 3, s => sel (hb w 4) (sel (!hb s 4) (sel (hb s 8) (bitsV .u8 .or s 4) s) s) s
  | 4, s => sel (hb w 128) (sel (!hb s 128) (bitsV .u8 .or s 128) s) s
  | _, s => s
def fin7 (acc : Bool) (w : Int) : Nat → Nat → Int → Int
  | 0, _, s => s
  | f + 1, i, s => fin7 acc w f (i + 1) (stW acc w i s)
def wrS (acc : Bool) (w s : Int) : Int := fin7 acc w 5 0 s
theorem w_round (w k o g : Int) (own full : Bool) (hg : rng64 g = true) (i : Nat) (hi : i < 5) (s : Int) : (wRound w k o g own full (i : Int) s).get = some (.normal, wSt w k o g own full ((i + 1 : Nat) : Int) (stW (acI k o g) w i s)) := by
  have r0 : (wRound w k o g own full 0 s).get = bro (hb w 1) (bro (!hb s 1) (some (.normal, wSt w k o g own full 1 (bitsV .u8 .or s 1))) (some (.normal, wSt w k o g own full 1 s))) (some (.normal, wSt w k o g own full 1 s)) := by kernel_rfl
  have r1 : (wRound w k o g own full 1 s).get = bro (hb w 2) (bro (!hb s 2) (bro (hb s 1) (some (.normal, wSt w k o g own full 2 (bitsV .u8 .or s 2))) (some (.normal, wSt w k o g own full 2 s))) (some (.normal, wSt w k o g own full 2 s))) (some (.normal, wSt w k o g own full 2 s)) := by kernel_rfl
  have r2 : (wRound w k o g own full 2 s).get = bro (hb w 8) (bro (!hb s 8) (bro (hb s 2) (bro (rng64 g) (bro (acI k o g) (some (.normal, wSt w k o g own full 3 (bitsV .u8 .or s 8))) (some (.normal, wSt w k o g own full 3 s))) none) (some (.normal, wSt w k o g own full 3 s))) (some (.normal, wSt w k o g own full 3 s))) (some (.normal, wSt w k o g own full 3 s)) := by kernel_rfl
  have r3 : (wRound w k o g own full 3 s).get = bro (hb w 4) (bro (!hb s 4) (bro (hb s 8) (some (.normal, wSt w k o g own full 4 (bitsV .u8 .or s 4))) (some (.normal, wSt w k o g own full 4 s))) (some (.normal, wSt w k o g own full 4 s))) (some (.normal, wSt w k o g own full 4 s)) := by kernel_rfl
  have r4 : (wRound w k o g own full 4 s).get = bro (hb w 128) (bro (!hb s 128) (some (.normal, wSt w k o g own full 5 (bitsV .u8 .or s 128))) (some (.normal, wSt w k o g own full 5 s))) (some (.normal, wSt w k o g own full 5 s)) := by kernel_rfl
  have hc : i = 0 ∨ i = 1 ∨ i = 2 ∨ i = 3 ∨ i = 4 := by omega
  rcases hc with rfl | rfl | rfl | rfl | rfl
  · refine r0.trans ?_
    simp only [stW]
    cases hb w 1 <;> cases hb s 1 <;> rfl
  · refine r1.trans ?_
    simp only [stW]
    cases hb w 2 <;> cases hb s 2 <;> cases hb s 1 <;> rfl
  · refine r2.trans ?_
    simp only [stW]
    rw [hg]
    cases hb w 8 <;> cases hb s 8 <;> cases hb s 2 <;> cases acI k o g <;> rfl
  · refine r3.trans ?_
    simp only [stW]
    cases hb w 4 <;> cases hb s 4 <;> cases hb s 8 <;> rfl
  · refine r4.trans ?_
    simp only [stW]
    cases hb w 128 <;> cases hb s 128 <;> rfl
theorem w_end (w k o g : Int) (own full : Bool) (s : Int) : (wRound w k o g own full 5 s).get = some (.exit 0, wSt w k o g own full 5 s) := by kernel_rfl
def isRules (ts : List (Int × Nat)) : Bool := decide (ts = [(1, 72), (2, 73), (8, 74), (4, 75), (128, 76)])
theorem isRules_eq {ts : List (Int × Nat)} (h : isRules ts = true) : ts = [(1, 72), (2, 73), (8, 74), (4, 75), (128, 76)] := of_decide_eq_true h
def wLoop : LoopFn C6 := fun li => match li with
  | ⟨[.h 0, .raw (.int .i64 (.ofNat 5)), .raw (.int .i64 (.ofNat 0)), .raw (.int .u8 w), .h 1, .h 2], 3, [.sl own full 94 ts, .box [.raw (.int .i64 k), .raw (.int .u64 o), .raw (.int .u64 g), .raw (.int .u8 s)] 42, .box [.raw (.int .i64 (.ofNat 0)), .raw (.int .u64 (.ofNat 0)), .raw (.int .u64 (.ofNat 0)), .raw (.int .u8 (.ofNat 0))] 42]⟩ =>
    .br (isRules ts) (.br (rng64 g) (.leaf (.exit 0, wSt w k o g own full 5 (wrS (acI k o g) w s))) .fail) .fail
  | _ => .fail
theorem w_loop : loopOf Try.prog 30 0 = some (48, (loopOf Try.prog 30 0).get!.2) := by kernel_rfl
theorem wLoop_ok : ∀ tm hp n x, (loopS [16, 17, 18, 1, 2, 4] [] wLoop tm hp n).get = some x → InLoop Try.prog 48 (loopOf Try.prog 30 0).get!.2 tm hp n fun e tm hp n => (e, tm, hp, n) = x := loopS_of fun li r h => by
  unfold wLoop at h
  split at h
  · rename_i w own full ts k o g s
    obtain ⟨h1, h⟩ := Tr.get_ask.1 h
    obtain ⟨hg, h2⟩ := Tr.get_ask.1 h
    simp only [Tr.get, Option.some.injEq] at h2
    subst h2
    have h1 : ts = rules5 := isRules_eq h1
    subst h1
    refine ⟨Keeps.of (Nat.le_refl 3) rfl (fun o ho => by cases ho), ?_⟩
    refine loop_li (σ := Nat × Int) (st := fun x => wSt w k o g own full (x.1 : Int) x.2) (Inv := fun x => x.1 ≤ 5 ∧ fin7 (acI k o g) w (5 - x.1) x.1 x.2 = wrS (acI k o g) w s) (μ := fun x => 5 - x.1) (d := 10) (unr := fun _ _ => 20) (sp := sf3) (ls := noLs) plain mixed sf3_ok noLs_ok w_loop (fun x hx => ?_) (0, s) ⟨Nat.zero_le 5, rfl⟩
    obtain ⟨i, s'⟩ := x
    obtain ⟨hi, hf⟩ := hx
    by_cases h5 : i = 5
    · subst h5
      have : s' = wrS (acI k o g) w s := hf
      subst this
      exact ⟨_, w_end w k o g own full _, nofun, fun _ => ⟨rfl, rfl⟩⟩
    · refine ⟨_, w_round w k o g own full hg i (by omega) s', fun _ => ⟨(i + 1, stW (acI k o g) w i s'), ⟨by omega, ?_⟩, by simp only; omega, rfl⟩, nofun⟩
      rw [← hf, show 5 - i = (5 - (i + 1)) + 1 by omega]
      rfl
  · cases h
def lw : LoopT C6 := addL 30 0 (loopS [16, 17, 18, 1, 2, 4] [] wLoop) noLs
theorem lw_ok : LoopTOk Try.prog lw := addL_ok w_loop wLoop_ok noLs_ok
abbrev f4 := fnC C6 Try.prog sf3 lw (fun g b => match g with | 30 => 0 | _ => 20) 10
def wrI (k o g s w : Int) : Int := sel (ckB k o g s) (sel (w == 0) 0 (wrS (acI k o g) w s)) s
def wrG (k o g s w : Int) : Int := sel (ckB k o g s) (sel (w == 0) 0 g) g
def devV (k o g s : Int) : SV := .agg [.raw (.int .i64 k), .raw (.int .u64 o), .raw (.int .u64 g), .raw (.int .u8 s)]
def wrT : FnF C6 := fun args os => match args, os with
  | [.agg [.raw (.int .i64 k), .raw (.int .u64 o), .raw (.int .u64 g), .raw (.int .u8 s)], .raw (.int .u8 w)], [] => .br (rng64 o && rng64 g) (.leaf (devV k o (wrG k o g s w) (wrI k o g s w), [])) .fail
  | _, _ => .fail
theorem wr_form (k o g s w : Int) : (f4 30 [devV k o g s, .raw (.int .u8 w)] []).get =
  bro (rng64 o && rng64 g)
    (bro (ckI k o g s != (0 : Int)) (some (devV k o g s, []))
      (bro (w == (0 : Int)) (some (devV k o 0 0, []))
        (bro (rng64 g) (some (devV k o g (wrS (acI k o g) w s), [])) none)))
    none := by kernel_rfl
theorem wrT_ok : ∀ args os r, (wrT args os).get = some r → Fn0 Try.prog 30 args os r := fun args os r h => by
  unfold wrT at h
  split at h
  · rename_i k o g s w
    obtain ⟨h1, h2⟩ := Tr.get_ask.1 h
    refine fnC_ok (sp := sf3) (ls := lw) (unr := fun g b => match g with | 30 => 0 | _ => 20) (d := 10) plain mixed sf3_ok lw_ok ?_
    refine (wr_form k o g s w).trans ?_
    rw [← h2, h1]
    rw [Bool.and_eq_true] at h1
    rw [h1.2]
    unfold wrG wrI ckI
    cases ckB k o g s <;> cases (w == 0) <;> rfl
  · cases h
def lvT (v : Bool) : FnF C6 := fun args os => match args, os with
  | [], [] => .leaf (.raw (.bool v), [])
  | _, _ => .fail
theorem lv7T_ok : ∀ args os r, (lvT true args os).get = some r → Fn0 Try.prog 28 args os r := fun args os r h => by
  unfold lvT at h
  split at h
  · simp only [Tr.get, Option.some.injEq] at h
    subst h
    exact Fn0.const (vals0 := []) (by kernel_rfl) lives07_walk fun _ => rfl
  · cases h
def sf4 : SpecT C6 := addS 28 (viewS (lvT true)) (addS 30 (viewS wrT) sf3)
theorem sf4_ok : SpecTOk Try.prog sf4 := addS_ok (viewS_ok lv7T_ok) (addS_ok (viewS_ok wrT_ok) sf3_ok)
abbrev f5 := fnC C6 Try.prog sf4 noLs (fun _ _ => 20) 10
end
end Go.Proofs.Ytknkemjbikbhgaa
