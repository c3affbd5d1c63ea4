/-
  Chapter 24: Ctrl where a number is commanded: one answer. Own work; nothing here is trusted.
-/
import Derived.Test.YtgepgnjjhgmfnaaCh24PasL
namespace Go.Proofs.Ytgepgnjjhgmfnaa
open Go Go.Sx Go.RowKit
set_option maxRecDepth 1000000
set_option maxHeartbeats 8000000
set_option linter.unusedVariables false
set_option linter.unusedSimpArgs false
noncomputable section
/-- A number added, or taken away. -/
def addV (vl : List Int) (n : Int) : List Int := sel (bsF vl n) vl (insL vl (bsZ vl n).toNat [n])
def remV (vl : List Int) (n : Int) : List Int := sel (bsF vl n) (delL vl (bsZ vl n).toNat ((bsZ vl n).toNat + 1)) vl
/-- Bytes that command a number. -/
def isV (bs : List Int) : Bool := match bs with
  | [c, d, a, b] => (c == 2) && ((d == 0 || d == 1) && !decide ((4095 : Int) < nV [a, b]))
  | _ => false
def wV (vl bs : List Int) : List Int := match bs with
  | [_, d, a, b] => sel (d == 0) (addV vl (nV [a, b])) (remV vl (nV [a, b]))
  | _ => []
theorem ctO_v0 (feats : Int) (m : Mac) (p q : Bool) (ol gl : List Mac) (vl : List Int) (a b : Int) : ctO feats (m, p, q, ol, gl, vl) [2, 0, a, b] =
    bif okF (m, p, q, ol, gl, vl) then (bif !hasB feats 17 then Oc.err else (bif hasB feats 19 then (bif decide ((4095 : Int) < nV [a, b]) then Oc.err else bif bsF vl (nV [a, b]) then Oc.keep m p q else Oc.vl (insL vl (bsZ vl (nV [a, b])).toNat [nV [a, b]])) else Oc.err)) else Oc.err := by kernel_rfl
theorem ctO_v1 (feats : Int) (m : Mac) (p q : Bool) (ol gl : List Mac) (vl : List Int) (a b : Int) : ctO feats (m, p, q, ol, gl, vl) [2, 1, a, b] =
    bif okF (m, p, q, ol, gl, vl) then (bif !hasB feats 17 then Oc.err else (bif hasB feats 19 then (bif decide ((4095 : Int) < nV [a, b]) then Oc.err else bif bsF vl (nV [a, b]) then Oc.vl (delL vl (bsZ vl (nV [a, b])).toNat ((bsZ vl (nV [a, b])) + 1).toNat) else Oc.keep m p q) else Oc.err)) else Oc.err := by kernel_rfl
theorem isV_eq {bs : List Int} (h : isV bs = true) : ∃ d a b, bs = [2, d, a, b] ∧ (d = 0 ∨ d = 1) ∧ decide ((4095 : Int) < nV [a, b]) = false := by
  unfold isV at h
  split at h
  · rename_i c d a b
    simp only [Bool.and_eq_true, Bool.or_eq_true, beq_iff_eq, Bool.not_eq_true'] at h
    obtain ⟨rfl, h1, h2⟩ := h
    exact ⟨d, a, b, rfl, h1, h2⟩
  · cases h
/-- What a number that is commanded makes of a filter. -/
theorem ctO_w {feats : Int} {m : Mac} {p q : Bool} {ol gl : List Mac} {vl bs : List Int} (hok : okF (m, p, q, ol, gl, vl) = true) (h17 : hasB feats 17 = true) (h19 : hasB feats 19 = true) (hb : isV bs = true) :
    ctO feats (m, p, q, ol, gl, vl) bs = Oc.keep m p q ∧ wV vl bs = vl ∨ ctO feats (m, p, q, ol, gl, vl) bs = Oc.vl (wV vl bs) := by
  obtain ⟨d, a, b, rfl, hd, hn⟩ := isV_eq hb
  rcases hd with rfl | rfl
  · rw [ctO_v0, hok, h17, h19, hn, show wV vl [2, 0, a, b] = addV vl (nV [a, b]) from rfl]
    unfold addV
    generalize nV [a, b] = n
    cases hs : bsF vl n with
    | true => exact .inl ⟨rfl, rfl⟩
    | false => exact .inr rfl
  · rw [ctO_v1, hok, h17, h19, hn, show wV vl [2, 1, a, b] = remV vl (nV [a, b]) from rfl]
    unfold remV
    generalize nV [a, b] = n
    cases hs : bsF vl n with
    | true =>
      refine .inr ?_
      have h0 : 0 ≤ bsZ vl n := by rw [bsZ_eq]; omega
      have e : (bsZ vl n + 1).toNat = (bsZ vl n).toNat + 1 := by omega
      show Oc.vl (delL vl (bsZ vl n).toNat (bsZ vl n + 1).toNat) = Oc.vl (delL vl (bsZ vl n).toNat ((bsZ vl n).toNat + 1))
      rw [e]
    | false => exact .inl ⟨rfl, rfl⟩
def ctrlV : FnF C24 := fun args os => match args with
  | [.raw (.int .u64 feats), .agg cs, s] => match decF cs 0 os with
    | some (((x0, x1, x2, x3, x4, x5), p, q, o, g, some (a, b, vl)), os1) => match decB s (fltN ((x0, x1, x2, x3, x4, x5), p, q, o, g, some (a, b, vl)) 0) os1 with
      | some (some (false, f, bs), []) => withL o fun ol => withL g fun gl => .br (smX ol gl vl) (.br (byB bs) (.br (isV bs) (.br (okF ((x0, x1, x2, x3, x4, x5), p, q, ol, gl, vl)) (.br (hasB feats 17) (.br (hasB feats 19)
          (.leaf (.tup [clnS ((x0, x1, x2, x3, x4, x5), p, q, o, g, some (true, false, wV vl bs)) (fltN ((x0, x1, x2, x3, x4, x5), p, q, o, g, some (a, b, vl)) 0 + 1), .raw (.int .u8 0)], cpM o ++ (cpM g ++ [.sl true false 3 (wV vl bs)]))) .fail) .fail) .fail) .fail) .fail) .fail
      | _ => .fail
    | _ => .fail
  | _ => .fail
theorem ctrlV_ok : ∀ args os r, (ctrlV args os).get = some r → Fn0 Try.prog 12 args os r := fun args os r h => by
  refine ctrlT_ok args os r ?_
  unfold ctrlV at h
  unfold ctrlT
  split at h
  · rename_i feats cs s
    split at h
    · rename_i x0 x1 x2 x3 x4 x5 p q o g a b vl os1 hF
      split at h
      · rename_i f bs hB
        simp only [hF, hB]
        simp only [withL_eq] at h ⊢
        obtain ⟨hs, h2⟩ := Tr.get_ask.1 h
        obtain ⟨hb, h3⟩ := Tr.get_ask.1 h2
        obtain ⟨hv, h4⟩ := Tr.get_ask.1 h3
        obtain ⟨hok, h5⟩ := Tr.get_ask.1 h4
        obtain ⟨h17, h6⟩ := Tr.get_ask.1 h5
        obtain ⟨h19, h7⟩ := Tr.get_ask.1 h6
        clear h h2 h3 h4 h5 h6
        refine Tr.get_ask.2 ⟨hs, Tr.get_ask.2 ⟨hb, ?_⟩⟩
        show (ctT _ p q o g (some (a, b, vl)) _ ((x0, x1, x2, x3, x4, x5), p, q, lo o, lo g, vl) (ctO feats ((x0, x1, x2, x3, x4, x5), p, q, lo o, lo g, vl) bs)).get = some r
        rcases ctO_w hok h17 h19 hv with ⟨h8, h9⟩ | h8
        · rw [h8]; rw [h9] at h7; exact h7
        · rw [h8]; exact h7
      · cases h
    · cases h
  · cases h
end
end Go.Proofs.Ytgepgnjjhgmfnaa
