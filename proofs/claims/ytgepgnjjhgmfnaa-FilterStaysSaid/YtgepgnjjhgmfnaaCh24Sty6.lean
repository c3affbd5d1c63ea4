/-
  Chapter 24: FilterStays, the whole function answers true. Own work; nothing here is trusted.
-/
import Derived.Test.YtgepgnjjhgmfnaaCh24Sty5
namespace Go.Proofs.Ytgepgnjjhgmfnaa
open Go Go.Sx Go.RowKit
set_option maxRecDepth 1000000
set_option maxHeartbeats 8000000
set_option linter.unusedVariables false
set_option linter.unusedSimpArgs false
noncomputable section

theorem fy_1 (m : Mac) (p q : Bool) (o g : Lo Mac) (v : Lo Int) (feats : Int) (l : Bs) : Tr.follow [false, true, true, true, true, true, true, true, true, true] (fY (m, p, q, o, g, v) feats l) =
  some ([false,
  !liF (m, p, q, (lo o), (lo g), (lo v)),
  true,
  true,
  true,
  true,
  true,
  true,
  true,
  true],
  (SV.raw (Value.bool true), [])) := by cases o <;> cases g <;> cases v <;> kernel_rfl
theorem fy_2 (m : Mac) (p q : Bool) (o g : Lo Mac) (v : Lo Int) (feats : Int) (l : Bs) : Tr.follow [false, false, false, false, true, true, true, true, true] (fY (m, p, q, o, g, v) feats l) =
  some ([false,
  !liF (m, p, q, (lo o), (lo g), (lo v)),
  false,
  false,
  decide ((60 : Int) < (↑(List.length l) : Int)),
  true,
  true,
  true,
  true],
  (SV.raw (Value.bool true), [])) := by cases o <;> cases g <;> cases v <;> kernel_rfl
theorem fy_3 (m : Mac) (p q : Bool) (o g : Lo Mac) (v : Lo Int) (feats : Int) (l : Bs) : Tr.follow [false, false, false, false, false, false, true, false, false, true] (fY (m, p, q, o, g, v) feats l) =
  some ([false,
  !liF (m, p, q, (lo o), (lo g), (lo v)),
  false,
  false,
  decide ((60 : Int) < (↑(List.length l) : Int)),
  false,
  smF (m, p, q, (lo o), (lo g), (lo v)),
  okF (m, p, q, (lo o), (lo g), (lo v)),
  false,
  true],
  (SV.raw (Value.bool true), [])) := by cases o <;> cases g <;> cases v <;> kernel_rfl
theorem fn_1 (m : Mac) (p q : Bool) (o g : Lo Mac) (v : Lo Int) (feats : Int) (l : Bs) : Tr.follow [false, true, true, true, true, true, true, true, true, true] (fYn (m, p, q, o, g, v) feats) =
  some ([false,
  !liF (m, p, q, (lo o), (lo g), (lo v)),
  true,
  true,
  true,
  true,
  true,
  true,
  true,
  true],
  (SV.raw (Value.bool true), [])) := by cases o <;> cases g <;> cases v <;> kernel_rfl
theorem fn_3 (m : Mac) (p q : Bool) (o g : Lo Mac) (v : Lo Int) (feats : Int) (l : Bs) : Tr.follow [false, false, false, false, false, false, true, false, false, true] (fYn (m, p, q, o, g, v) feats) =
  some ([false,
  !liF (m, p, q, (lo o), (lo g), (lo v)),
  false,
  false,
  false,
  false,
  smF (m, p, q, (lo o), (lo g), (lo v)),
  okF (m, p, q, (lo o), (lo g), (lo v)),
  false,
  true],
  (SV.raw (Value.bool true), [])) := by cases o <;> cases g <;> cases v <;> kernel_rfl
theorem fn_5 (m : Mac) (p q : Bool) (o g : Lo Mac) (v : Lo Int) (feats : Int) (l : Bs) : Tr.follow [false, false, false, false, false, false, true, true, false, false, false] (fYn (m, p, q, o, g, v) feats) =
  some ([false,
  !liF (m, p, q, (lo o), (lo g), (lo v)),
  false,
  false,
  false,
  false,
  smF (m, p, q, (lo o), (lo g), (lo v)),
  okF (m, p, q, (lo o), (lo g), (lo v)),
  false,
  false,
  false],
  (SV.raw (Value.bool true), [])) := by cases o <;> cases g <;> cases v <;> kernel_rfl
theorem fy_4tt (m : Mac) (p q : Bool) (o g : Lo Mac) (v : Lo Int) (feats : Int) (l : Bs) : Tr.follow [false, false, false, false, false, false, true, true, false, false, true, true, true, true, true, true, true] (fY (m, p, q, o, g, v) feats l) =
  some ([false,
  !liF (m, p, q, (lo o), (lo g), (lo v)),
  false,
  false,
  decide ((60 : Int) < (↑(List.length l) : Int)),
  false,
  smF (m, p, q, (lo o), (lo g), (lo v)),
  okF (m, p, q, (lo o), (lo g), (lo v)),
  false,
  false,
  okF (m, p, q, lo (o), lo (g), lo (v)),
  byA l,
  decide (List.length l ≤ (100000 : Nat)),
  decide (lgI l < List.length l),
  gIs (runY (m, p, q, o, g, v) feats l (lgI l)),
  gA2 (runY (m, p, q, o, g, v) feats l (lgI l)),
  gB2 (runY (m, p, q, o, g, v) feats l (lgI l))],
  (SV.raw (Value.bool true), [])) := by cases o <;> cases g <;> cases v <;> kernel_rfl
theorem fy_4tf (m : Mac) (p q : Bool) (o g : Lo Mac) (v : Lo Int) (feats : Int) (l : Bs) : Tr.follow [false, false, false, false, false, false, true, true, false, false, true, true, true, true, true, true, false] (fY (m, p, q, o, g, v) feats l) =
  some ([false,
  !liF (m, p, q, (lo o), (lo g), (lo v)),
  false,
  false,
  decide ((60 : Int) < (↑(List.length l) : Int)),
  false,
  smF (m, p, q, (lo o), (lo g), (lo v)),
  okF (m, p, q, (lo o), (lo g), (lo v)),
  false,
  false,
  okF (m, p, q, lo (o), lo (g), lo (v)),
  byA l,
  decide (List.length l ≤ (100000 : Nat)),
  decide (lgI l < List.length l),
  gIs (runY (m, p, q, o, g, v) feats l (lgI l)),
  gA2 (runY (m, p, q, o, g, v) feats l (lgI l)),
  gB2 (runY (m, p, q, o, g, v) feats l (lgI l))],
  (SV.raw (Value.bool true), [])) := by cases o <;> cases g <;> cases v <;> kernel_rfl
theorem fy_4ft (m : Mac) (p q : Bool) (o g : Lo Mac) (v : Lo Int) (feats : Int) (l : Bs) : Tr.follow [false, false, false, false, false, false, true, true, false, false, true, true, true, true, true, false, true] (fY (m, p, q, o, g, v) feats l) =
  some ([false,
  !liF (m, p, q, (lo o), (lo g), (lo v)),
  false,
  false,
  decide ((60 : Int) < (↑(List.length l) : Int)),
  false,
  smF (m, p, q, (lo o), (lo g), (lo v)),
  okF (m, p, q, (lo o), (lo g), (lo v)),
  false,
  false,
  okF (m, p, q, lo (o), lo (g), lo (v)),
  byA l,
  decide (List.length l ≤ (100000 : Nat)),
  decide (lgI l < List.length l),
  gIs (runY (m, p, q, o, g, v) feats l (lgI l)),
  gA2 (runY (m, p, q, o, g, v) feats l (lgI l)),
  gB2 (runY (m, p, q, o, g, v) feats l (lgI l))],
  (SV.raw (Value.bool true), [])) := by cases o <;> cases g <;> cases v <;> kernel_rfl
theorem fy_4ff (m : Mac) (p q : Bool) (o g : Lo Mac) (v : Lo Int) (feats : Int) (l : Bs) : Tr.follow [false, false, false, false, false, false, true, true, false, false, true, true, true, true, true, false, false] (fY (m, p, q, o, g, v) feats l) =
  some ([false,
  !liF (m, p, q, (lo o), (lo g), (lo v)),
  false,
  false,
  decide ((60 : Int) < (↑(List.length l) : Int)),
  false,
  smF (m, p, q, (lo o), (lo g), (lo v)),
  okF (m, p, q, (lo o), (lo g), (lo v)),
  false,
  false,
  okF (m, p, q, lo (o), lo (g), lo (v)),
  byA l,
  decide (List.length l ≤ (100000 : Nat)),
  decide (lgI l < List.length l),
  gIs (runY (m, p, q, o, g, v) feats l (lgI l)),
  gA2 (runY (m, p, q, o, g, v) feats l (lgI l)),
  gB2 (runY (m, p, q, o, g, v) feats l (lgI l))],
  (SV.raw (Value.bool true), [])) := by cases o <;> cases g <;> cases v <;> kernel_rfl
theorem fy_4n (m : Mac) (p q : Bool) (o g : Lo Mac) (v : Lo Int) (feats : Int) (l : Bs) : Tr.follow [false, false, false, false, false, false, true, true, false, false, true, true, true, true, false] (fY (m, p, q, o, g, v) feats l) =
  some ([false,
  !liF (m, p, q, (lo o), (lo g), (lo v)),
  false,
  false,
  decide ((60 : Int) < (↑(List.length l) : Int)),
  false,
  smF (m, p, q, (lo o), (lo g), (lo v)),
  okF (m, p, q, (lo o), (lo g), (lo v)),
  false,
  false,
  okF (m, p, q, lo (o), lo (g), lo (v)),
  byA l,
  decide (List.length l ≤ (100000 : Nat)),
  decide (lgI l < List.length l),
  gIs (runY (m, p, q, o, g, v) feats l (lgI l))],
  (SV.raw (Value.bool true), [])) := by cases o <;> cases g <;> cases v <;> kernel_rfl
theorem fy_5tt (m : Mac) (p q : Bool) (o g : Lo Mac) (v : Lo Int) (feats : Int) (l : Bs) : Tr.follow [false, false, false, false, false, false, true, true, false, false, true, true, true, false, true, true, true] (fY (m, p, q, o, g, v) feats l) =
  some ([false,
  !liF (m, p, q, (lo o), (lo g), (lo v)),
  false,
  false,
  decide ((60 : Int) < (↑(List.length l) : Int)),
  false,
  smF (m, p, q, (lo o), (lo g), (lo v)),
  okF (m, p, q, (lo o), (lo g), (lo v)),
  false,
  false,
  okF (m, p, q, lo (o), lo (g), lo (v)),
  byA l,
  decide (List.length l ≤ (100000 : Nat)),
  decide (lgI l < List.length l),
  gIs (runY (m, p, q, o, g, v) feats l (List.length l)),
  gA2 (runY (m, p, q, o, g, v) feats l (List.length l)),
  gB2 (runY (m, p, q, o, g, v) feats l (List.length l))],
  (SV.raw (Value.bool true), [])) := by cases o <;> cases g <;> cases v <;> kernel_rfl
theorem fy_5tf (m : Mac) (p q : Bool) (o g : Lo Mac) (v : Lo Int) (feats : Int) (l : Bs) : Tr.follow [false, false, false, false, false, false, true, true, false, false, true, true, true, false, true, true, false] (fY (m, p, q, o, g, v) feats l) =
  some ([false,
  !liF (m, p, q, (lo o), (lo g), (lo v)),
  false,
  false,
  decide ((60 : Int) < (↑(List.length l) : Int)),
  false,
  smF (m, p, q, (lo o), (lo g), (lo v)),
  okF (m, p, q, (lo o), (lo g), (lo v)),
  false,
  false,
  okF (m, p, q, lo (o), lo (g), lo (v)),
  byA l,
  decide (List.length l ≤ (100000 : Nat)),
  decide (lgI l < List.length l),
  gIs (runY (m, p, q, o, g, v) feats l (List.length l)),
  gA2 (runY (m, p, q, o, g, v) feats l (List.length l)),
  gB2 (runY (m, p, q, o, g, v) feats l (List.length l))],
  (SV.raw (Value.bool true), [])) := by cases o <;> cases g <;> cases v <;> kernel_rfl
theorem fy_5ft (m : Mac) (p q : Bool) (o g : Lo Mac) (v : Lo Int) (feats : Int) (l : Bs) : Tr.follow [false, false, false, false, false, false, true, true, false, false, true, true, true, false, true, false, true] (fY (m, p, q, o, g, v) feats l) =
  some ([false,
  !liF (m, p, q, (lo o), (lo g), (lo v)),
  false,
  false,
  decide ((60 : Int) < (↑(List.length l) : Int)),
  false,
  smF (m, p, q, (lo o), (lo g), (lo v)),
  okF (m, p, q, (lo o), (lo g), (lo v)),
  false,
  false,
  okF (m, p, q, lo (o), lo (g), lo (v)),
  byA l,
  decide (List.length l ≤ (100000 : Nat)),
  decide (lgI l < List.length l),
  gIs (runY (m, p, q, o, g, v) feats l (List.length l)),
  gA2 (runY (m, p, q, o, g, v) feats l (List.length l)),
  gB2 (runY (m, p, q, o, g, v) feats l (List.length l))],
  (SV.raw (Value.bool true), [])) := by cases o <;> cases g <;> cases v <;> kernel_rfl
theorem fy_5ff (m : Mac) (p q : Bool) (o g : Lo Mac) (v : Lo Int) (feats : Int) (l : Bs) : Tr.follow [false, false, false, false, false, false, true, true, false, false, true, true, true, false, true, false, false] (fY (m, p, q, o, g, v) feats l) =
  some ([false,
  !liF (m, p, q, (lo o), (lo g), (lo v)),
  false,
  false,
  decide ((60 : Int) < (↑(List.length l) : Int)),
  false,
  smF (m, p, q, (lo o), (lo g), (lo v)),
  okF (m, p, q, (lo o), (lo g), (lo v)),
  false,
  false,
  okF (m, p, q, lo (o), lo (g), lo (v)),
  byA l,
  decide (List.length l ≤ (100000 : Nat)),
  decide (lgI l < List.length l),
  gIs (runY (m, p, q, o, g, v) feats l (List.length l)),
  gA2 (runY (m, p, q, o, g, v) feats l (List.length l)),
  gB2 (runY (m, p, q, o, g, v) feats l (List.length l))],
  (SV.raw (Value.bool true), [])) := by cases o <;> cases g <;> cases v <;> kernel_rfl
theorem fy_5n (m : Mac) (p q : Bool) (o g : Lo Mac) (v : Lo Int) (feats : Int) (l : Bs) : Tr.follow [false, false, false, false, false, false, true, true, false, false, true, true, true, false, false] (fY (m, p, q, o, g, v) feats l) =
  some ([false,
  !liF (m, p, q, (lo o), (lo g), (lo v)),
  false,
  false,
  decide ((60 : Int) < (↑(List.length l) : Int)),
  false,
  smF (m, p, q, (lo o), (lo g), (lo v)),
  okF (m, p, q, (lo o), (lo g), (lo v)),
  false,
  false,
  okF (m, p, q, lo (o), lo (g), lo (v)),
  byA l,
  decide (List.length l ≤ (100000 : Nat)),
  decide (lgI l < List.length l),
  gIs (runY (m, p, q, o, g, v) feats l (List.length l))],
  (SV.raw (Value.bool true), [])) := by cases o <;> cases g <;> cases v <;> kernel_rfl

theorem stays_n (m : Mac) (p q : Bool) (o g : Lo Mac) (v : Lo Int) (feats : Int) : (fYn (m, p, q, o, g, v) feats).get = some (.raw (.bool true), []) := by
  cases h1 : liF (m, p, q, lo o, lo g, lo v) with
  | false => exact Tr.follow_get (fn_1 m p q o g v feats []) (by simp only [h1, Bool.not_false])
  | true =>
    have hs : smF (m, p, q, lo o, lo g, lo v) = true := by
      simp only [liF, Bool.and_eq_true, decide_eq_true_eq] at h1
      exact decide_eq_true (show (lo o).length ≤ 100000 ∧ (lo g).length ≤ 100000 ∧ (lo v).length ≤ 100000 from ⟨by omega, by omega, by omega⟩)
    cases h2 : okF (m, p, q, lo o, lo g, lo v) with
    | false => exact Tr.follow_get (fn_3 m p q o g v feats []) (by simp only [h1, h2, hs, Bool.not_true])
    | true => exact Tr.follow_get (fn_5 m p q o g v feats []) (by simp only [h1, h2, hs, Bool.not_true])
theorem stays_get (m : Mac) (p q : Bool) (o g : Lo Mac) (v : Lo Int) (feats : Int) (l : Bs) (hb : byA l = true) : (fY (m, p, q, o, g, v) feats l).get = some (.raw (.bool true), []) := by
  cases h1 : liF (m, p, q, lo o, lo g, lo v) with
  | false => exact Tr.follow_get (fy_1 m p q o g v feats l) (by simp only [h1, Bool.not_false])
  | true =>
    have hs : smF (m, p, q, lo o, lo g, lo v) = true := by
      simp only [liF, Bool.and_eq_true, decide_eq_true_eq] at h1
      exact decide_eq_true (show (lo o).length ≤ 100000 ∧ (lo g).length ≤ 100000 ∧ (lo v).length ≤ 100000 from ⟨by omega, by omega, by omega⟩)
    cases h0 : decide ((60 : Int) < (l.length : Int)) with
    | true => exact Tr.follow_get (fy_2 m p q o g v feats l) (by simp only [h1, h0, Bool.not_true])
    | false =>
      have hl : decide (l.length ≤ 100000) = true := decide_eq_true (by have := of_decide_eq_false h0; omega)
      cases h2 : okF (m, p, q, lo o, lo g, lo v) with
      | false => exact Tr.follow_get (fy_3 m p q o g v feats l) (by simp only [h1, h0, h2, hs, Bool.not_true])
      | true =>
        cases h3 : decide (lgI l < l.length) with
        | true =>
          cases h4 : gIs (runY (m, p, q, o, g, v) feats l (lgI l)) with
          | false => exact Tr.follow_get (fy_4n m p q o g v feats l) (by simp only [h1, h0, h2, hs, hb, hl, h3, h4, Bool.not_true])
          | true =>
            cases h5 : gA2 (runY (m, p, q, o, g, v) feats l (lgI l)) with
            | true =>
              cases h6 : gB2 (runY (m, p, q, o, g, v) feats l (lgI l)) with
              | true => exact Tr.follow_get (fy_4tt m p q o g v feats l) (by simp only [h1, h0, h2, hs, hb, hl, h3, h4, h5, h6, Bool.not_true])
              | false => exact Tr.follow_get (fy_4tf m p q o g v feats l) (by simp only [h1, h0, h2, hs, hb, hl, h3, h4, h5, h6, Bool.not_true])
            | false =>
              cases h6 : gB2 (runY (m, p, q, o, g, v) feats l (lgI l)) with
              | true => exact Tr.follow_get (fy_4ft m p q o g v feats l) (by simp only [h1, h0, h2, hs, hb, hl, h3, h4, h5, h6, Bool.not_true])
              | false => exact Tr.follow_get (fy_4ff m p q o g v feats l) (by simp only [h1, h0, h2, hs, hb, hl, h3, h4, h5, h6, Bool.not_true])
        | false =>
          cases h4 : gIs (runY (m, p, q, o, g, v) feats l l.length) with
          | false => exact Tr.follow_get (fy_5n m p q o g v feats l) (by simp only [h1, h0, h2, hs, hb, hl, h3, h4, Bool.not_true])
          | true =>
            cases h5 : gA2 (runY (m, p, q, o, g, v) feats l l.length) with
            | true =>
              cases h6 : gB2 (runY (m, p, q, o, g, v) feats l l.length) with
              | true => exact Tr.follow_get (fy_5tt m p q o g v feats l) (by simp only [h1, h0, h2, hs, hb, hl, h3, h4, h5, h6, Bool.not_true])
              | false => exact Tr.follow_get (fy_5tf m p q o g v feats l) (by simp only [h1, h0, h2, hs, hb, hl, h3, h4, h5, h6, Bool.not_true])
            | false =>
              cases h6 : gB2 (runY (m, p, q, o, g, v) feats l l.length) with
              | true => exact Tr.follow_get (fy_5ft m p q o g v feats l) (by simp only [h1, h0, h2, hs, hb, hl, h3, h4, h5, h6, Bool.not_true])
              | false => exact Tr.follow_get (fy_5ff m p q o g v feats l) (by simp only [h1, h0, h2, hs, hb, hl, h3, h4, h5, h6, Bool.not_true])
end
end Go.Proofs.Ytgepgnjjhgmfnaa
