/-
  Chapter 24: Ctrl on a filter whose numbers are a list of its own: one answer for all commands but addresses. Own work; nothing here is trusted.
-/
import Derived.Test.YtgepgnjjhgmfnaaCh24Ctrl
namespace Go.Proofs.Ytgepgnjjhgmfnaa
open Go Go.Sx Go.RowKit
set_option maxRecDepth 1000000
set_option maxHeartbeats 8000000
set_option linter.unusedVariables false
set_option linter.unusedSimpArgs false
noncomputable section
def ocE : Oc → Int
  | .err => 1
  | _ => 0
def ocW (F : Fp) : Oc → List Int
  | .vl l => l
  | _ => F.2.2.2.2.2
def ctrlU : FnF C24 := fun args os => match args with
  | [.raw (.int .u64 feats), .agg cs, s] => match decF cs 0 os with
    | some (((x0, x1, x2, x3, x4, x5), p, q, o, g, some (a, b, vl)), os1) => match decB s (fltN ((x0, x1, x2, x3, x4, x5), p, q, o, g, some (a, b, vl)) 0) os1 with
      | some (some (false, f, bs), []) => withL o fun ol => withL g fun gl => .br (smX ol gl vl) (.br (byB bs) (.br (Nat.beq (ocK (ctO feats ((x0, x1, x2, x3, x4, x5), p, q, ol, gl, vl) bs)) 3) .fail
          (.leaf (.tup [clnS (ocM ((x0, x1, x2, x3, x4, x5), p, q, ol, gl, vl) (ctO feats ((x0, x1, x2, x3, x4, x5), p, q, ol, gl, vl) bs), ocP ((x0, x1, x2, x3, x4, x5), p, q, ol, gl, vl) (ctO feats ((x0, x1, x2, x3, x4, x5), p, q, ol, gl, vl) bs), ocQ ((x0, x1, x2, x3, x4, x5), p, q, ol, gl, vl) (ctO feats ((x0, x1, x2, x3, x4, x5), p, q, ol, gl, vl) bs), o, g, some (true, false, ocW ((x0, x1, x2, x3, x4, x5), p, q, ol, gl, vl) (ctO feats ((x0, x1, x2, x3, x4, x5), p, q, ol, gl, vl) bs))) (fltN ((x0, x1, x2, x3, x4, x5), p, q, o, g, some (a, b, vl)) 0 + 1), .raw (.int .u8 (ocE (ctO feats ((x0, x1, x2, x3, x4, x5), p, q, ol, gl, vl) bs)))],
            cpM o ++ (cpM g ++ [.sl true false 3 (ocW ((x0, x1, x2, x3, x4, x5), p, q, ol, gl, vl) (ctO feats ((x0, x1, x2, x3, x4, x5), p, q, ol, gl, vl) bs))])))) .fail) .fail
      | _ => .fail
    | _ => .fail
  | _ => .fail
theorem ctrlU_ok : ∀ args os r, (ctrlU args os).get = some r → Fn0 Try.prog 12 args os r := fun args os r h => by
  refine ctrlT_ok args os r ?_
  unfold ctrlU at h
  unfold ctrlT
  split at h
  · rename_i feats cs s
    split at h
    · rename_i x0 x1 x2 x3 x4 x5 p q o g a b vl os1 hF
      split at h
      · rename_i f bs hB
        simp only [hF, hB]
        simp only [withL_eq] at h ⊢
        obtain ⟨hs, h2⟩ := Tr.get_ask.1 h
        obtain ⟨hb, h3⟩ := Tr.get_ask.1 h2
        clear h h2
        show (Tr.br (smX (lo o) (lo g) vl) _ .fail).get = some r
        refine Tr.get_ask.2 ⟨hs, Tr.get_ask.2 ⟨hb, ?_⟩⟩
        show (ctT _ p q o g (some (a, b, vl)) _ ((x0, x1, x2, x3, x4, x5), p, q, lo o, lo g, vl) (ctO feats ((x0, x1, x2, x3, x4, x5), p, q, lo o, lo g, vl) bs)).get = some r
        generalize ctO feats ((x0, x1, x2, x3, x4, x5), p, q, lo o, lo g, vl) bs = x at h3 ⊢
        cases x with
        | err => exact h3
        | keep m p' q' => exact h3
        | vl l => exact h3
        | tab a b => cases h3
      · cases h
    · cases h
  · cases h
end
end Go.Proofs.Ytgepgnjjhgmfnaa
