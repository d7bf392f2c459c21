/-
  Contracts: part 20: the hierarchy's targets (the reference's).
-/
import Derived.Test.YtfmicbbflpkdgaaGreatDoorA29
import Derived.Test.YtfmicbbflpkdgaaGreatDoorA09
set_option linter.unusedVariables false
set_option linter.unusedSimpArgs false
namespace Go.Proofs.YtfmicbbflpkdgaaGreatDoor.D
variable {P : Program}
/-- A class is below a class. -/
def subP (h : NHier) (c x : Str) : Prop := ∃ y, y ∈ h ∧ y.name = x ∧ isSub h x c = true
def tgtP (h : NHier) (c m t : Str) : Prop := ∃ s, subP h c s ∧ ∃ g, lookupN h s m = some (t, g)
end Go.Proofs.YtfmicbbflpkdgaaGreatDoor.D
/-
  Contracts: part 21: targets and call edges (the reference's).
-/
namespace Go.Proofs.YtfmicbbflpkdgaaGreatDoor.D
variable {P : Program}
/-- The function of a class and a name. -/
def funcN : List NFunc → Str → Str → Option Nat
  | [], _, _ => none
  | x :: l, c, m => if x.cls = c ∧ x.name = m then some 0 else (funcN l c m).map (· + 1)
theorem funcN_lt {c m : Str} : ∀ {l : List NFunc} {i : Nat}, funcN l c m = some i → i < l.length
  | [], i, h => by simp [funcN] at h
  | x :: l, i, hh => by
    simp only [funcN] at hh
    split at hh
    · cases hh; simp
    · cases hf : funcN l c m with
      | none => rw [hf] at hh; cases hh
      | some j =>
        rw [hf] at hh
        cases hh
        have := funcN_lt hf
        simp only [List.length_cons]
        omega
/-- What a call can execute. -/
def canP (u : NUnit) (x : NInstr) (g : Nat) : Prop := (x.op = 10 ∧ funcN u.funcs x.cls x.name = some g) ∨ (x.op ≠ 10 ∧ ∃ t, tgtP u.hier x.cls x.name t ∧ funcN u.funcs t x.name = some g)
def isCall (x : NInstr) : Prop := x.op = 9 ∨ x.op = 10
def callP (u : NUnit) (f i : Int) (g : Nat) : Prop := ∃ (k j : Nat) (fn : NFunc) (x : NInstr), f = k ∧ i = j ∧ u.funcs[k]? = some fn ∧ fn.code[j]? = some x ∧ isCall x ∧ canP u x g
def TarsOk (u : NUnit) (f i : Int) (l : List Nat) : Prop := l.Pairwise (· < ·) ∧ ∀ g, g ∈ l ↔ callP u f i g
theorem sorted_ext : ∀ {l m : List Nat}, l.Pairwise (· < ·) → m.Pairwise (· < ·) → (∀ x, x ∈ l ↔ x ∈ m) → l = m := by
  intro l m h1 h2 h
  have n1 : l.Nodup := h1.imp fun {a b} h => by omega
  have n2 : m.Nodup := h2.imp fun {a b} h => by omega
  have hp : l.Perm m := (List.perm_ext_iff_of_nodup n1 n2).2 h
  exact List.Perm.eq_of_pairwise (le := fun a b : Nat => a < b) (fun a b _ _ h1 h2 => by omega) h1 h2 hp
theorem TarsOk.eq {u : NUnit} {f i : Int} {l m : List Nat} (h : TarsOk u f i l) (g : TarsOk u f i m) : l = m := sorted_ext h.1 g.1 fun x => (h.2 x).trans (g.2 x).symm
theorem canP_lt {u : NUnit} {x : NInstr} {g : Nat} (h : canP u x g) : g < u.funcs.length := by
  rcases h with h | ⟨_, _, _, h⟩
  · exact funcN_lt h.2
  · exact funcN_lt h
theorem callP_lt {u : NUnit} {f i : Int} {g : Nat} (h : callP u f i g) : g < u.funcs.length := by
  obtain ⟨_, _, _, _, _, _, _, _, _, h⟩ := h
  exact canP_lt h
theorem TarsOk.len {u : NUnit} {f i : Int} {l : List Nat} (h : TarsOk u f i l) : l.length ≤ u.funcs.length := by
  have n1 : l.Nodup := h.1.imp fun {a b} h => by omega
  have := nodup_len (m := List.range u.funcs.length) n1 fun x hx => List.mem_range.2 (callP_lt ((h.2 x).1 hx))
  simpa using this
def rN (n : Nat) : List DV := [.int .i64 (n : Int)]
theorem cl_rN (z : Nat) : ∀ c, c ∈ rN z → Closed c := by
  simp only [rN, List.mem_singleton, forall_eq]
  exact .int _ _
end Go.Proofs.YtfmicbbflpkdgaaGreatDoor.D
/-
  Contracts: part 22: call edges (the reference's).
-/
namespace Go.Proofs.YtfmicbbflpkdgaaGreatDoor.D
variable {P : Program}
abbrev Edge := Nat × Nat × Nat
def cI (T : Nat → Nat → List Nat) (f i : Nat) : List Edge := (T f i).map fun g => (f, i, g)
def cF (u : NUnit) (T : Nat → Nat → List Nat) (f : Nat) : List Edge := (List.range ((u.funcs[f]?.map fun x => x.code.length).getD 0)).flatMap (cI T f)
theorem range_flat {α : Type} (F : Nat → List α) (n : Nat) : (List.range (n + 1)).flatMap F = (List.range n).flatMap F ++ F n := by
  rw [List.range_succ, List.flatMap_append]
  simp
structure CallsFit (u : NUnit) (T : Nat → Nat → List Nat) : Prop where
  n : u.funcs.length ≤ 20
  c : ∀ f, f ∈ u.funcs → f.code.length ≤ 150
  t : ∀ f i, (T f i).length ≤ 20
theorem len_flat {α : Type} {F : Nat → List α} {B : Nat} : ∀ (n : Nat), (∀ i, i < n → (F i).length ≤ B) → ((List.range n).flatMap F).length ≤ n * B
  | 0, _ => by simp
  | n + 1, h => by
    rw [range_flat, List.length_append, Nat.succ_mul]
    exact Nat.add_le_add (len_flat n fun i hi => h i (by omega)) (h n (by omega))
theorem CallsFit.cI_len {u : NUnit} {T : Nat → Nat → List Nat} (hc : CallsFit u T) (f i : Nat) : (cI T f i).length ≤ 20 := by
  rw [cI, List.length_map]
  exact hc.t f i
theorem CallsFit.cF_len {u : NUnit} {T : Nat → Nat → List Nat} (hc : CallsFit u T) (f : Nat) : (cF u T f).length ≤ 3000 := by
  refine Nat.le_trans (len_flat _ fun i _ => hc.cI_len f i) (Nat.mul_le_mul_right 20 (show _ ≤ 150 from ?_))
  cases h : u.funcs[f]? with
  | none => exact Nat.zero_le _
  | some x => exact hc.c x (List.mem_of_getElem? h)
theorem CallsFit.len {u : NUnit} {T : Nat → Nat → List Nat} (hc : CallsFit u T) {f i : Nat} (hf : f ≤ 20) (hi : i ≤ 150) : ((List.range f).flatMap (cF u T) ++ (List.range i).flatMap (cI T f)).length ≤ 70000 := by
  rw [List.length_append]
  have h1 := len_flat f fun i (_ : i < f) => hc.cF_len i
  have h2 := len_flat i fun j (_ : j < i) => hc.cI_len f j
  exact Nat.le_trans (Nat.add_le_add (Nat.le_trans h1 (Nat.mul_le_mul_right 3000 hf)) (Nat.le_trans h2 (Nat.mul_le_mul_right 20 hi))) (by decide)
end Go.Proofs.YtfmicbbflpkdgaaGreatDoor.D
