/-
  The program's functions are the printed ones.
-/
import Derived.Test.YtfmicbbflpkdgaaGreatDoorA13
import Derived.Test.YtfmicbbflpkdgaaGreatDoorA14
import Derived.Test.YtfmicbbflpkdgaaGreatDoorA15
import Derived.Test.YtfmicbbflpkdgaaGreatDoorA16
set_option linter.unusedVariables false
set_option linter.unusedSimpArgs false
namespace Go.Proofs.YtfmicbbflpkdgaaGreatDoor.D
theorem part_ok {k f : Nat} {df : DF} (hk : chkPart k = true) (hf : f % 4 = k) (h : tab.get f = some df) : chkF Tryz.prog gl (fun N => rdOk Tryz.prog gl N) f df = true := by
  have := Tr.allT_ok hk f df h
  simp only [Nat.zero_add, Nat.one_mul] at this
  have e : Nat.beq (Nat.mod f 4) k = true := by rw [beqN]; exact decide_eq_true hf
  rw [e] at this
  exact this
theorem tabOk : TabOk Tryz.prog gl tab.get :=
  ⟨by kernel_rfl, fun f df h => by
    have h4 : f % 4 = 0 ∨ f % 4 = 1 ∨ f % 4 = 2 ∨ f % 4 = 3 := by omega
    rcases h4 with h4 | h4 | h4 | h4
    · exact part_ok part0 h4 h
    · exact part_ok part1 h4 h
    · exact part_ok part2 h4 h
    · exact part_ok part3 h4 h⟩
end Go.Proofs.YtfmicbbflpkdgaaGreatDoor.D
