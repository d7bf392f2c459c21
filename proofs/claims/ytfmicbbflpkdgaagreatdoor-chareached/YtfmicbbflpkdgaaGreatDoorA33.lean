/-
  Contracts: part 28: the program's functions of a call.
-/
import Derived.Test.YtfmicbbflpkdgaaGreatDoorA32
import Derived.Test.YtfmicbbflpkdgaaGreatDoorA09
import Derived.Test.YtfmicbbflpkdgaaGreatDoorA19
import Derived.Test.YtfmicbbflpkdgaaGreatDoorA20
set_option linter.unusedVariables false
set_option linter.unusedSimpArgs false
namespace Go.Proofs.YtfmicbbflpkdgaaGreatDoor.D
variable {P : Program} {G : List (List DV)} {S : DS}
theorem sortZ_nat {ks T : List Nat} (hn : ks.Nodup) (hT : T.Pairwise (· < ·)) (h : ∀ x, x ∈ T ↔ x ∈ ks) : sortZ (ks.map fun k : Nat => (k : Int)) = T.map fun k : Nat => (k : Int) := by
  have tr : ∀ a b c : Int, decide (a ≤ b) = true → decide (b ≤ c) = true → decide (a ≤ c) = true := fun a b c h1 h2 => by simp at h1 h2 ⊢; omega
  have to : ∀ a b : Int, (decide (a ≤ b) || decide (b ≤ a)) = true := fun a b => by simp; omega
  have n1 : T.Nodup := hT.imp fun {a b} h => by omega
  have hp : ks.Perm T := (List.perm_ext_iff_of_nodup hn n1).2 fun x => (h x).symm
  refine List.Perm.eq_of_pairwise (le := fun a b : Int => a ≤ b) (fun a b _ _ h1 h2 => by omega) ?_ ?_ ?_
  · exact (List.pairwise_mergeSort tr to _).imp (by intro a b h; simpa using h)
  · exact List.pairwise_map.2 (hT.imp fun {a b} h => by omega)
  · exact (List.mergeSort_perm _ _).trans (hp.map _)
/-- A set of numbers, as a map. -/
def nE (k : Nat) : DV × DV := (.int .i64 (k : Int), .bool true)
theorem keq_int {a b : Int} : kEq 4 (.int .i64 a) (.int .i64 b) = some (decide (a = b)) := by simp [kEq, kq_eq, ieq_eq]
theorem nk_none {x : Nat} : ∀ {ks : List Nat} {i : Nat}, x ∉ ks → findK 4 (.int .i64 (x : Int)) (ks.map nE) i = some none
  | [], _, _ => rfl
  | k :: ks, i, h => by
    have h1 : ¬ (x : Int) = k := fun he => h (by rw [Int.ofNat_inj.1 he]; simp)
    simp only [List.map_cons, nE, findK, keq_int, h1, decide_false]
    exact nk_none fun hm => h (List.mem_cons_of_mem _ hm)
end Go.Proofs.YtfmicbbflpkdgaaGreatDoor.D
/-
  Contracts: part 29: the program's targets and call edges.
-/
namespace Go.Proofs.YtfmicbbflpkdgaaGreatDoor.D
variable {P : Program}
theorem AppS.al {S : DS} {k m : Nat} {v : DV} {rows : List (List DV)} {o o2 : Option DO} (h : AppS S v k rows) (hm : S.nx ≤ m) : AppS (DS.put (DS.put ⟨S.h, m⟩ S.nx o) S.nx o2) v k rows := by
  obtain ⟨nf, tl, h1, h2⟩ := h
  refine ⟨nf, tl, h1, ?_⟩
  rcases h2 with h2 | ⟨t, h3, h4, h5⟩
  · exact .inl h2
  · exact .inr ⟨t, h3, Nat.lt_of_lt_of_le h4 hm, ((put_ne _ _ (by omega)).trans (put_ne _ _ (by omega))).trans h5⟩
theorem f10 (ht : TabOk P gl tab.get) (T : List Nat) (hl : T.length < 4611686018427387904) : Val P gl 10 [.isl 1 none (T.map rN) .no, .isl 1 none (T.map rN) .no] fun d => d = .bool true := by
  refine Val.of_wp gl_ok ht (df := d10) rfl (cl_cons (cl_isl cl_rN ..) (cl_cons (cl_isl cl_rN ..) cl_nil)) (fun d hd => by rw [hd]; exact .bool _) ?_
  simp only [d10, go_sem, wp_sq, reduceIte, Nat.reduceEqDiff, Nat.reduceAdd, Nat.reduceBEq, reduceCtorEq]
  refine wp_lpE [4, 5, 13, 14, 15, 16, 17, 18, 19, 20, 21, 22, 23, 24, 25] (fun n e S => Idx T.length 13 n e) T.length (Idx.zero rfl) ?_
  rintro n e S ⟨i, hn, hi, hx⟩ hf
  have hs0 : e 0 = .isl 1 none (T.map rN) .no := hf 0 rfl
  have hs1 : e 1 = .isl 1 none (T.map rN) .no := hf 1 rfl
  have hs12 : e 12 = .int .i64 T.length := hf 12 rfl
  have hw := wrap_succ (i := i) (by omega)
  by_cases h1 : i < T.length
  · simp only [go_sem, wp_sq, reduceIte, Nat.reduceEqDiff, Nat.reduceAdd, Nat.reduceBEq, reduceCtorEq, hs0, hs1, hs12, hx, hw, h1]
    refine wp_rdH ?_
    simp only [go_sem, wp_sq, reduceIte, Nat.reduceEqDiff, Nat.reduceAdd, Nat.reduceBEq, reduceCtorEq, rN, hs0, hs1, hs12, hx, hw, h1]
    exact ⟨_, by omega, rfl, (by repeat' first | exact hf | exact rfl | exact Fr0.refl _ _ | apply Fr0.upd | exact hf2 | refine Fr0.sub hf2 rfl ?_ | refine Fr0.sub hf rfl ?_), i + 1, rfl, by omega, rfl⟩
  · simp only [go_sem, wp_sq, reduceIte, Nat.reduceEqDiff, Nat.reduceAdd, Nat.reduceBEq, reduceCtorEq, hs0, hs1, hs12, hx, hw, h1]
    exact ret_one (b := none) rfl rfl
end Go.Proofs.YtfmicbbflpkdgaaGreatDoor.D
/-
  The law ChaTargets, in the D machine's words.
-/
namespace Go.Proofs.YtfmicbbflpkdgaaGreatDoor.D
variable {P : Program}
theorem known0 : KnownOk P [] := fun _ _ _ h => by simp at h
theorem f85 (hw : World0 P) : Val P gl 85 [srcV] fun d => d = tokV := chkCall_ok hw known0 chk85
theorem known1_ok (hw : World0 P) : KnownOk P known1 := fun f args v h => by
  simp only [known1, List.mem_singleton, Prod.mk.injEq] at h
  obtain ⟨rfl, rfl, rfl⟩ := h
  exact f85 hw
theorem f28 (hw : World0 P) : Val P gl 28 [srcV] fun d => d = astV := chkCall_ok hw (known1_ok hw) chk28
theorem known2_ok (hw : World0 P) : KnownOk P known2 := fun f args v h => by
  simp only [known2, List.mem_singleton, Prod.mk.injEq] at h
  obtain ⟨rfl, rfl, rfl⟩ := h
  exact f28 hw
theorem f9 (hw : World0 P) : Val P gl 9 [] fun d => d = .bool true := chkCall_ok hw (known2_ok hw) chk9
end Go.Proofs.YtfmicbbflpkdgaaGreatDoor.D
