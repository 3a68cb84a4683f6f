/-
  awake of the Trace laws (function 6), reckoned.
  Conditions: none.
-/
import Derived.Test.YtpemlmhggiaflaaGreatDoorCodes
import Derived.Test.YtpemlmhggiaflaaGreatDoorKB
import Derived.KernelRfl
set_option maxRecDepth 100000
namespace Go.Proofs.YtpemlmhggiaflaaGreatDoor.Codes
open Go Go.Deepv
theorem aw0 : D env 6 [] [] = some (.val (.d (.bool true)) []) := D_reckon 60 (by kernel_rfl)
end Go.Proofs.YtpemlmhggiaflaaGreatDoor.Codes
