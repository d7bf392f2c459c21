/-
  The D machine, part I: deferred closures that find nothing to recover.
-/
import Derived.Test.YtfmicbbflpkdgaaGreatDoorChecked
import Derived.Test.YtfmicbbflpkdgaaGreatDoorA08z
import Derived.Test.YtfmicbbflpkdgaaGreatDoorA06
import Derived.KernelRfl
import Derived.Recover
set_option linter.unusedVariables false
set_option linter.unusedSimpArgs false
namespace Go.Proofs.YtfmicbbflpkdgaaGreatDoor.D
open Go.RowKit
theorem tmps_size (va : Array Value) (n : Nat) : n ≤ (va ++ Array.replicate (n - va.size) undef).size := by
  simp
  omega
theorem catch148 (va : Array Value) (w : World) : CallsD Tryz.prog 148 va .returning w fun e u' w' => e = .returned (.tuple #[]) ∧ u' = .returning ∧ w' = w := by
  have hnil : ∀ w : World, (binOp BinOp.neq 20 .nilIface .nilIface).run Tryz.prog w = .ok (.bool false) w := fun _ => by kernel_rfl
  refine callsD_of_wpS Tryz.func148 rfl fun c₀ cs hu => ?_
  have hT := tmps_size va Tryz.f148.ntmps
  generalize va ++ Array.replicate (Tryz.f148.ntmps - va.size) undef = T at hT
  have hT : 20 ≤ T.size := hT
  have a1 : 3 < T.size := by omega
  have a2 : 7 < T.size := by omega
  have a3 : 8 < T.size := by omega
  have a4 : 9 < T.size := by omega
  apply wpS_seq
  apply wpS_region
  simp [wpOpsS, go_sem, recoverD, hu, Exit.thenS]
  apply wpS_seq
  apply wpS_region
  simp [wpOpsS, go_sem, Exit.thenS, Act.put, Act.eval, Array.getElem?_setIfInBounds, a1, a2, a3, a4, hnil]
  refine wpS_cond (t := false) (by simp [Act.eval, Array.getElem?_setIfInBounds, a4]) ?_
  simp only [Bool.false_eq_true, if_false]
  refine wpS_of_wp (wp_skip ?_)
  cases c₀
  simp only at hu
  subst hu
  simp [bodyPostS, results, Tryz.f148, Exit.thenS, go_sem]
theorem idle148 (fa fb : List DV) (D : DS) : DIdle Tryz.prog gl (.func 148 fa fb) D := by
  refine ⟨148, fa, fb, rfl, ⟨_, _, Tryz.func148, by kernel_rfl, rfl⟩, fun φ ρ w va hs _ => ?_⟩
  refine CallsD.mono (catch148 va w) fun x u w' ⟨h1, h2, h3⟩ => ?_
  subst h3
  exact ⟨⟨_, h1⟩, h2, φ, ρ, hs, Trans.refl ..⟩
theorem catch159 (va : Array Value) (w : World) : CallsD Tryz.prog 159 va .returning w fun e u' w' => e = .returned (.tuple #[]) ∧ u' = .returning ∧ w' = w := by
  have hnil : ∀ w : World, (binOp BinOp.neq 20 .nilIface .nilIface).run Tryz.prog w = .ok (.bool false) w := fun _ => by kernel_rfl
  refine callsD_of_wpS Tryz.func159 rfl fun c₀ cs hu => ?_
  have hT := tmps_size va Tryz.f159.ntmps
  generalize va ++ Array.replicate (Tryz.f159.ntmps - va.size) undef = T at hT
  have hT : 20 ≤ T.size := hT
  have a1 : 2 < T.size := by omega
  have a2 : 5 < T.size := by omega
  have a3 : 6 < T.size := by omega
  have a4 : 7 < T.size := by omega
  apply wpS_seq
  apply wpS_region
  simp [wpOpsS, go_sem, recoverD, hu, Exit.thenS]
  apply wpS_seq
  apply wpS_region
  simp [wpOpsS, go_sem, Exit.thenS, Act.put, Act.eval, Array.getElem?_setIfInBounds, a1, a2, a3, a4, hnil]
  refine wpS_cond (t := false) (by simp [Act.eval, Array.getElem?_setIfInBounds, a4]) ?_
  simp only [Bool.false_eq_true, if_false]
  refine wpS_of_wp (wp_skip ?_)
  cases c₀
  simp only at hu
  subst hu
  simp [bodyPostS, results, Tryz.f159, Exit.thenS, go_sem]
theorem idle159 (fa fb : List DV) (D : DS) : DIdle Tryz.prog gl (.func 159 fa fb) D := by
  refine ⟨159, fa, fb, rfl, ⟨_, _, Tryz.func159, by kernel_rfl, rfl⟩, fun φ ρ w va hs _ => ?_⟩
  refine CallsD.mono (catch159 va w) fun x u w' ⟨h1, h2, h3⟩ => ?_
  subst h3
  exact ⟨⟨_, h1⟩, h2, φ, ρ, hs, Trans.refl ..⟩
end Go.Proofs.YtfmicbbflpkdgaaGreatDoor.D
