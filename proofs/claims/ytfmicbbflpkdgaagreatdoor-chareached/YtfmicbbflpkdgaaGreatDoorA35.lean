/-
  The library's sorting, at this program.
-/
import Derived.Shelf.Sort.Plain
import Derived.Shelf.Slices.In.SortNone
import Derived.Test.YtfmicbbflpkdgaaGreatDoorA21
import Derived.Test.YtfmicbbflpkdgaaGreatDoorA32
import Derived.Test.YtfmicbbflpkdgaaGreatDoorA09
import Derived.Test.YtfmicbbflpkdgaaGreatDoorA10
import Derived.Test.YtfmicbbflpkdgaaGreatDoorA11
import Derived.Test.YtfmicbbflpkdgaaGreatDoorA17
set_option linter.unusedVariables false
set_option linter.unusedSimpArgs false
namespace Go.Proofs.YtfmicbbflpkdgaaGreatDoor.D
open Go.Shelf Go.Sort Go.RowKit
variable {P : Program} {G : List (List DV)} {S : DS}
theorem DCalls.of_nil {f : Nat} (hb : HasBody P f) (hc : ∀ p cap w, Calls P f #[.slice p 0 cap] w fun e w' => e = .returned (.tuple #[]) ∧ w' = w) : DCalls P G f [.isl 1 (some true) [] .ex] S fun d D => d = .tup [] ∧ D = S := by
  refine ⟨hb, fun φ ρ w va hs ha => ?_⟩
  obtain ⟨hsz, hrep0⟩ := ha
  have h0 := hrep0 0 (by simp)
  have hva : va = #[va.getD 0 undef] := by
    apply Array.ext
    · simpa using hsz
    · intro i h1 h2
      have : i = 0 := by simp at h2; omega
      subst this
      simp [Array.getD, h1]
  rw [hva]
  simp only [List.getD_cons_zero] at h0
  generalize va.getD 0 undef = v at h0
  generalize hd : DV.isl 1 (some true) [] .ex = d at h0
  cases h0 with
  | isl a n C k nf rows tl c hn hC hk hnf hz hc' hr ht =>
    injection hd with h1 h2 h3 h4
    subst h3
    have hn : n = 0 := hn.symm
    subst hn
    refine (hc a C w).mono fun e w' ⟨he, hw⟩ => ?_
    subst he
    subst hw
    exact ⟨.tup [], φ, ρ, S, ⟨rfl, rfl⟩, .tup #[] [] rfl (by simp), hs, Trans.refl ..⟩
  | _ => cases hd
def encB (l : List UInt8) : DV := .str (l.map UInt8.toNat)
theorem toNat_inj : ∀ {a b : List UInt8}, a.map UInt8.toNat = b.map UInt8.toNat → a = b
  | [], [], _ => rfl
  | [], _ :: _, h => by simp at h
  | _ :: _, [], h => by simp at h
  | x :: a, y :: b, h => by
    simp only [List.map_cons, List.cons.injEq] at h
    rw [UInt8.toNat_inj.1 h.1, toNat_inj h.2]
theorem sortOk : SortOk Tryz.prog G where
  int S b zs c hS hpos hlt := DCalls.of_sort (enc := Value.int .i64) (encD := DV.int .i64) (fun x φ ρ => .int _ _) (fun v x φ ρ h => rep_int h) ⟨_, _, Tryz.func70, by kernel_rfl, rfl⟩ (sort := sortZ) (sortZ_length zs)
    (fun blk off cap w hH hb => Any.slices_Sort_int Tryz.laysSort blk off cap zs w hH hb hlt) hS hpos
  int0 S := DCalls.of_nil ⟨_, _, Tryz.func70, by kernel_rfl, rfl⟩ fun p cap w => Any.slices_Sort_int_none Tryz.laysSort p cap w
theorem world0 : World0 Tryz.prog := ⟨tabOk, sortOk, fun f fa fb D hf => by
  unfold idleB at hf
  split at hf
  · rename_i h1
    rw [beqN, decide_eq_true_eq] at h1
    subst h1
    exact idle148 fa fb D
  · rw [beqN, decide_eq_true_eq] at hf
    subst hf
    exact idle159 fa fb D⟩
end Go.Proofs.YtfmicbbflpkdgaaGreatDoor.D
