/-
  The D machine, part O: a check of every function of a table.
-/
import Derived.Test.YtfmicbbflpkdgaaGreatDoorChecked
import Derived.Test.YtfmicbbflpkdgaaGreatDoorA08z
import Derived.Test.YtfmicbbflpkdgaaGreatDoorA07
import Derived.Test.YtfmicbbflpkdgaaGreatDoorA06
import Derived.KernelRfl
set_option linter.unusedVariables false
set_option linter.unusedSimpArgs false
namespace Go.Proofs.YtfmicbbflpkdgaaGreatDoor.D
def Tr.allT {α : Type} (p : Nat → α → Bool) : Nat → Nat → Tr α → Bool
  | _, _, .lf => true
  | b, s, .nd l v r => (match v with | some x => p b x | none => true) && (Tr.allT p (Nat.add b s) (Nat.mul 2 s) l && Tr.allT p (Nat.add b (Nat.mul 2 s)) (Nat.mul 2 s) r)
theorem Tr.allT_ok {α : Type} {p : Nat → α → Bool} : ∀ {t : Tr α} {b s : Nat}, Tr.allT p b s t = true → ∀ i x, t.get i = some x → p (b + s * i) x = true
  | .lf, _, _, _, i, x, h => by rw [Tr.get_lf] at h; cases h
  | .nd l v r, b, s, h, i, x, hx => by
    simp only [Tr.allT, Bool.and_eq_true] at h
    obtain ⟨h1, h2, h3⟩ := h
    cases i with
    | zero =>
      simp only [Tr.get] at hx
      subst hx
      simpa using h1
    | succ j =>
      simp only [Tr.get, beq_mod] at hx
      by_cases hj : j % 2 = 0
      · simp only [hj, decide_true] at hx
        have := Tr.allT_ok h2 _ _ hx
        have e : Nat.add b s + Nat.mul 2 s * (Nat.div j 2) = b + s * (j + 1) := by
          show b + s + 2 * s * (j / 2) = b + s * (j + 1)
          have : j = 2 * (j / 2) := by omega
          rw [Nat.mul_add, Nat.mul_one]
          conv => rhs; rw [this]
          rw [Nat.mul_comm 2 s, Nat.mul_assoc]
          omega
        rwa [e] at this
      · simp only [hj, decide_false] at hx
        have := Tr.allT_ok h3 _ _ hx
        have e : Nat.add b (Nat.mul 2 s) + Nat.mul 2 s * (Nat.div j 2) = b + s * (j + 1) := by
          show b + 2 * s + 2 * s * (j / 2) = b + s * (j + 1)
          have : j = 2 * (j / 2) + 1 := by omega
          rw [Nat.mul_add, Nat.mul_one]
          conv => rhs; rw [this]
          rw [Nat.mul_comm 2 s, Nat.mul_assoc, Nat.mul_add, Nat.mul_one]
          omega
        rwa [e] at this
/-- The functions of the table whose number leaves k at 4. -/
noncomputable def chkPart (k : Nat) : Bool := Tr.allT (fun f df => match Nat.beq (Nat.mod f 4) k with | true => chkF Tryz.prog gl (fun N => rdOk Tryz.prog gl N) f df | false => true) 0 1 tab
end Go.Proofs.YtfmicbbflpkdgaaGreatDoor.D
