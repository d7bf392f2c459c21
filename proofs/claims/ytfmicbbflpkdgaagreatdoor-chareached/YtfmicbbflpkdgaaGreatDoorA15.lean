/-
  The program's functions are the printed ones: those whose number leaves 2 at 4.
-/
import Derived.Test.YtfmicbbflpkdgaaGreatDoorA12
set_option linter.unusedVariables false
set_option linter.unusedSimpArgs false
namespace Go.Proofs.YtfmicbbflpkdgaaGreatDoor.D
set_option maxRecDepth 100000
theorem part2 : chkPart 2 = true := by kernel_rfl
end Go.Proofs.YtfmicbbflpkdgaaGreatDoor.D
