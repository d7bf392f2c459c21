/-
  Known calls: awake.
-/
import Derived.Test.YtfmicbbflpkdgaaGreatDoorA18
set_option linter.unusedVariables false
set_option linter.unusedSimpArgs false
namespace Go.Proofs.YtfmicbbflpkdgaaGreatDoor.D
set_option maxRecDepth 100000
theorem chk9 : chkCall known2 9 [] (.bool true) = true := by kernel_rfl
end Go.Proofs.YtfmicbbflpkdgaaGreatDoor.D
