/-
  Chapter 18: what is common to its statements. Own work; nothing here is trusted.
-/
import Derived.Test.YtknkemjbikbhgaaSxC
import Derived.Test.YtknkemjbikbhgaaCh06
namespace Go.Proofs.Ytknkemjbikbhgaa
open Go Go.Sx Go.RowKit
set_option maxRecDepth 100000
set_option maxHeartbeats 2000000
set_option linter.unusedVariables false
abbrev C18 : Tab := C6
end Go.Proofs.Ytknkemjbikbhgaa
