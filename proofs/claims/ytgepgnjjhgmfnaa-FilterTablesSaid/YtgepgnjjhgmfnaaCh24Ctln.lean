/-
  Chapter 24: ways through Ctrl. Own work; nothing here is trusted.
-/
import Derived.Test.YtgepgnjjhgmfnaaCh24Ctl0
namespace Go.Proofs.Ytgepgnjjhgmfnaa
open Go Go.Sx Go.RowKit
set_option maxRecDepth 1000000
set_option maxHeartbeats 8000000
set_option linter.unusedVariables false
set_option linter.unusedSimpArgs false
noncomputable section

theorem ct_n1 (feats : Int) (m : Mac) (p q : Bool) (o g : Lo Mac) (v : Lo Int) : Tr.follow [true, false, true, true, true, true, true, true] (f24T feats (m, p, q, o, g, v) none) =
  some ([smF (m, p, q, (lo o), (lo g), (lo v)),
  okF (m, p, q, (lo o), (lo g), (lo v)),
  true,
  true,
  true,
  true,
  true,
  smF (m, p, q, (lo o), (lo g), (lo v))],
  (.tup [clnS (m, p, q, o, g, v) (fltN (m, p, q, o, g, v) 0), .raw (.int .u8 1)], clnO (m, p, q, o, g, v))) := by cases o <;> cases g <;> cases v <;> kernel_rfl
theorem ct_n2 (feats : Int) (m : Mac) (p q : Bool) (o g : Lo Mac) (v : Lo Int) : Tr.follow [true, true, false, false, true, true, true, true, true, false, true, true, false, true, true] (f24T feats (m, p, q, o, g, v) none) =
  some ([smF (m, p, q, (lo o), (lo g), (lo v)),
  okF (m, p, q, (lo o), (lo g), (lo v)),
  false,
  false,
  true,
  true,
  true,
  true,
  true,
  false,
  true,
  true,
  false,
  !hasB feats 17,
  smF (m, p, q, (lo o), (lo g), (lo v))],
  (.tup [clnS (m, p, q, o, g, v) (fltN (m, p, q, o, g, v) 0), .raw (.int .u8 1)], clnO (m, p, q, o, g, v))) := by cases o <;> cases g <;> cases v <;> kernel_rfl
theorem ct_n3 (feats : Int) (m : Mac) (p q : Bool) (o g : Lo Mac) (v : Lo Int) : Tr.follow [true, true, false, false, true, true, true, true, true, false, true, true, false, false, false, false, false, false, false, false, false, true, true, true, true, true, true, true, true, true, true, true, true, true, true, true, true, true, true, true, true, true, true, true, true, true, true, true, true, true, true, true, true, true] (f24T feats (m, p, q, o, g, v) none) =
  some ([smF (m, p, q, (lo o), (lo g), (lo v)),
  okF (m, p, q, (lo o), (lo g), (lo v)),
  false,
  false,
  true,
  true,
  true,
  true,
  true,
  false,
  true,
  true,
  false,
  !hasB feats 17,
  false,
  false,
  false,
  false,
  false,
  false,
  false,
  true,
  true,
  true,
  smF (m, p, q, (lo o), (lo g), (lo v)),
  true,
  true,
  true,
  true,
  true,
  true,
  true,
  true,
  true,
  true,
  true,
  true,
  true,
  true,
  true,
  true,
  true,
  true,
  true,
  true,
  true,
  true,
  true,
  true,
  true,
  true,
  true,
  true,
  smF (m, p, q, (lo o), (lo g), (lo v))],
  (.tup [clnS (m, p, q, o, g, v) (fltN (m, p, q, o, g, v) 0), .raw (.int .u8 1)], clnO (m, p, q, o, g, v))) := by cases o <;> cases g <;> cases v <;> kernel_rfl

end
end Go.Proofs.Ytgepgnjjhgmfnaa
