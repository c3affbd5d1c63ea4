/-
  Chapter 24: FilterStays, names for what stands in the ways through a round. Own work; nothing here is trusted.
-/
import Derived.Test.YtgepgnjjhgmfnaaCh24Sty0
namespace Go.Proofs.Ytgepgnjjhgmfnaa
open Go Go.Sx Go.RowKit
set_option maxRecDepth 1000000
set_option maxHeartbeats 8000000
set_option linter.unusedVariables false
set_option linter.unusedSimpArgs false
noncomputable section
/-- The bytes at a place; whether they are none. -/
def eB (l : Bs) (K : Int) : List Int := (List.getD l K.toNat (ssD (C24 33))).2.2
def eN (l : Bs) (K : Int) : Bool := isNo (List.getD l K.toNat (ssD (C24 33))).2.1
/-- A filter after a command that leaves the lists of addresses. -/
def fU (P : Fp) (c : Oc) : Fp := (ocM P c, ocP P c, ocQ P c, P.2.2.2.1, P.2.2.2.2.1, ocW P c)
/-- A filter of one's own. -/
abbrev Gx := Mac × Bool × Bool × Option (List Mac) × Option (List Mac) × List Int
@[reducible] def gv (G : Gx) : Fv := (G.1, G.2.1, G.2.2.1, mkO G.2.2.2.1, mkO G.2.2.2.2.1, some (true, false, G.2.2.2.2.2))
end
end Go.Proofs.Ytgepgnjjhgmfnaa
