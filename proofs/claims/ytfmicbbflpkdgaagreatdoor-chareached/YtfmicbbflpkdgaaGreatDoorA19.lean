/-
  Known calls: the tree.
-/
import Derived.Test.YtfmicbbflpkdgaaGreatDoorA18
set_option linter.unusedVariables false
set_option linter.unusedSimpArgs false
namespace Go.Proofs.YtfmicbbflpkdgaaGreatDoor.D
set_option maxRecDepth 100000
theorem chk28 : chkCall known1 28 [srcV] astV = true := by kernel_rfl
end Go.Proofs.YtfmicbbflpkdgaaGreatDoor.D
