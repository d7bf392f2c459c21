/-
  Contracts: part 28: the program's functions of a call.
-/
import Derived.Test.YtfmicbbflpkdgaaGreatDoorA32
import Derived.Test.YtfmicbbflpkdgaaGreatDoorA09
import Derived.Test.YtfmicbbflpkdgaaGreatDoorA19
import Derived.Test.YtfmicbbflpkdgaaGreatDoorA20
set_option linter.unusedVariables false
set_option linter.unusedSimpArgs false
namespace Go.Proofs.YtfmicbbflpkdgaaGreatDoor.D
-- V2

variable {P : Program} {G : List (List DV)} {S : DS}

theorem f81 (ht : TabOk P gl tab.get) (f : NFunc) (c m : Str) : Val P gl 81 [.agg (eFn f), .iptr [.str c] 0, .iptr [.str m] 0] fun d => d = .bool (decide (f.cls = c ∧ f.name = m)) := by
  refine Val.of_wp gl_ok ht (df := d81) rfl (cl_cons (.agg _ (cl_eFn f)) (cl_cons (.iptr _ _ (cl_rS c)) (cl_cons (.iptr _ _ (cl_rS m)) cl_nil))) (fun d hd => by rw [hd]; exact .bool _) ?_
  by_cases hc : f.cls = c
  · by_cases hm : f.name = m
    · simp only [d81, go_sem, wp_sq, reduceIte, Nat.reduceEqDiff, Nat.reduceAdd, Nat.reduceBEq, reduceCtorEq, hc, hm]
      exact ret_one (b := none) rfl rfl
    · simp only [d81, go_sem, wp_sq, reduceIte, Nat.reduceEqDiff, Nat.reduceAdd, Nat.reduceBEq, reduceCtorEq, hc, hm]
      exact ret_one (b := none) rfl rfl
  · simp only [d81, go_sem, wp_sq, reduceIte, Nat.reduceEqDiff, Nat.reduceAdd, Nat.reduceBEq, reduceCtorEq, hc]
    exact ret_one (b := none) rfl rfl
theorem cl_fn81 (c m : Str) : Closed (.func 81 [] [.iptr [.str c] 0, .iptr [.str m] 0]) := .func _ _ _ cl_nil (cl_cons (.iptr _ _ (cl_rS c)) (cl_cons (.iptr _ _ (cl_rS m)) cl_nil))
theorem f80 (ht : TabOk P gl tab.get) (l : List NFunc) (c m : Str) (hl : l.length < 4611686018427387904) : Val P gl 80 [.isl 7 none (l.map eFn) .no, .func 81 [] [.iptr [.str c] 0, .iptr [.str m] 0]] fun d => d = .int .i64 (funcZ l c m) := by
  refine Val.of_wp gl_ok ht (df := d80) rfl (cl_cons (cl_isl cl_eFn ..) (cl_cons (cl_fn81 c m) cl_nil)) (fun d hd => by rw [hd]; exact .int _ _) ?_
  simp only [d80, go_sem, wp_sq, reduceIte, Nat.reduceEqDiff, Nat.reduceAdd, Nat.reduceBEq, reduceCtorEq]
  refine wp_lpE [4, 5, 8, 9, 10, 11, 12, 13, 14, 15, 16, 17, 18] (fun n e _ => ∃ i : Nat, n = l.length - i ∧ i ≤ l.length ∧ e 8 = .int .i64 i ∧ ∀ x, x ∈ l.take i → ¬ (x.cls = c ∧ x.name = m)) l.length ⟨0, rfl, Nat.zero_le _, rfl, by simp⟩ ?_
  rintro n e S ⟨i, hn, hi, hx, hI⟩ hf
  have hs0 : e 0 = .isl 7 none (l.map eFn) .no := hf 0 rfl
  have hs1 : e 1 = .func 81 [] [.iptr [.str c] 0, .iptr [.str m] 0] := hf 1 rfl
  have hs7 : e 7 = .int .i64 l.length := hf 7 rfl
  have hw := wrap_succ (i := i) (by omega)
  by_cases h1 : i < l.length
  · simp only [go_sem, wp_sq, reduceIte, Nat.reduceEqDiff, Nat.reduceAdd, Nat.reduceBEq, reduceCtorEq, hs0, hs1, hs7, hx, hw, h1]
    refine opx_callv (by simp only [go_sem, wp_sq, reduceIte, Nat.reduceEqDiff, Nat.reduceAdd, Nat.reduceBEq, reduceCtorEq, hs1]; exact rfl) ?_
    simp only [go_sem, wp_sq, reduceIte, Nat.reduceEqDiff, Nat.reduceAdd, Nat.reduceBEq, reduceCtorEq, hs0, hs1, hs7, hx, hw, h1]
    refine ex_call (f81 ht l[i] c m) ?_
    rintro _ rfl
    simp only [go_sem, wp_sq, reduceIte, Nat.reduceEqDiff, Nat.reduceAdd, Nat.reduceBEq, reduceCtorEq, hs0, hs1, hs7, hx, hw, h1]
    refine ifP_dc (fun hp => ?_) (fun hp => ?_)
    · simp only [go_sem, wp_sq, reduceIte, Nat.reduceEqDiff, Nat.reduceAdd, Nat.reduceBEq, reduceCtorEq, hs0, hs1, hs7, hx, hw, h1]
      refine ret_one (b := none) rfl ?_
      rw [funcZ, funcN_at h1 hI (of_decide_eq_true hp)]
      rfl
    · simp only [go_sem, wp_sq, reduceIte, Nat.reduceEqDiff, Nat.reduceAdd, Nat.reduceBEq, reduceCtorEq, hs0, hs1, hs7, hx, hw, h1]
      exact ⟨_, by omega, rfl, (by repeat' first | exact hf | exact rfl | exact Fr0.refl _ _ | apply Fr0.upd | exact hf2 | refine Fr0.sub hf2 rfl ?_ | refine Fr0.sub hf rfl ?_), i + 1, rfl, by omega, rfl, take_all hI h1 (of_decide_eq_false hp)⟩
  · simp only [go_sem, wp_sq, reduceIte, Nat.reduceEqDiff, Nat.reduceAdd, Nat.reduceBEq, reduceCtorEq, hs0, hs1, hs7, hx, hw, h1]
    refine ret_one (b := none) rfl ?_
    rw [funcZ, funcN_none (take_end hI h1)]
    rfl
theorem f55 (ht : TabOk P gl tab.get) (u : NUnit) (c m : Str) (hl : u.funcs.length < 4611686018427387904) : Val P gl 55 [.agg (eUn u), .str c, .str m] fun d => d = .int .i64 (funcZ u.funcs c m) := by
  refine Val.of_wp gl_ok ht (df := d55) rfl (cl_cons (.agg _ (cl_eUn u)) (cl_cons (.str _) (cl_cons (.str _) cl_nil))) (fun d hd => by rw [hd]; exact .int _ _) ?_
  simp only [d55, go_sem, wp_sq, reduceIte, Nat.reduceEqDiff, Nat.reduceAdd, Nat.reduceBEq, reduceCtorEq]
  refine ex_call (f80 ht u.funcs c m hl) ?_
  rintro _ rfl
  simp only [go_sem, wp_sq, reduceIte, Nat.reduceEqDiff, Nat.reduceAdd, Nat.reduceBEq, reduceCtorEq]
  exact ret_one (b := none) rfl rfl
theorem sortZ_nat {ks T : List Nat} (hn : ks.Nodup) (hT : T.Pairwise (· < ·)) (h : ∀ x, x ∈ T ↔ x ∈ ks) : sortZ (ks.map fun k : Nat => (k : Int)) = T.map fun k : Nat => (k : Int) := by
  have tr : ∀ a b c : Int, decide (a ≤ b) = true → decide (b ≤ c) = true → decide (a ≤ c) = true := fun a b c h1 h2 => by simp at h1 h2 ⊢; omega
  have to : ∀ a b : Int, (decide (a ≤ b) || decide (b ≤ a)) = true := fun a b => by simp; omega
  have n1 : T.Nodup := hT.imp fun {a b} h => by omega
  have hp : ks.Perm T := (List.perm_ext_iff_of_nodup hn n1).2 fun x => (h x).symm
  refine List.Perm.eq_of_pairwise (le := fun a b : Int => a ≤ b) (fun a b _ _ h1 h2 => by omega) ?_ ?_ ?_
  · exact (List.pairwise_mergeSort tr to _).imp (by intro a b h; simpa using h)
  · exact List.pairwise_map.2 (hT.imp fun {a b} h => by omega)
  · exact (List.mergeSort_perm _ _).trans (hp.map _)
/-- A set of numbers, as a map. -/
def nE (k : Nat) : DV × DV := (.int .i64 (k : Int), .bool true)
theorem keq_int {a b : Int} : kEq 4 (.int .i64 a) (.int .i64 b) = some (decide (a = b)) := by simp [kEq, kq_eq, ieq_eq]
theorem nk_none {x : Nat} : ∀ {ks : List Nat} {i : Nat}, x ∉ ks → findK 4 (.int .i64 (x : Int)) (ks.map nE) i = some none
  | [], _, _ => rfl
  | k :: ks, i, h => by
    have h1 : ¬ (x : Int) = k := fun he => h (by rw [Int.ofNat_inj.1 he]; simp)
    simp only [List.map_cons, nE, findK, keq_int, h1, decide_false]
    exact nk_none fun hm => h (List.mem_cons_of_mem _ hm)
theorem nk_some {x : Nat} : ∀ {ks : List Nat} {i : Nat}, x ∈ ks → ∃ j, findK 4 (.int .i64 (x : Int)) (ks.map nE) i = some (some (i + j)) ∧ setN (ks.map nE) j (nE x) = ks.map nE
  | [], _, h => by simp at h
  | k :: ks, i, h => by
    by_cases h1 : (x : Int) = k
    · refine ⟨0, ?_, ?_⟩
      · simp only [List.map_cons, nE, findK, keq_int, h1, decide_true]
        rfl
      · rw [show x = k from Int.ofNat_inj.1 h1]
        rfl
    · have h2 : x ∈ ks := by
        rcases List.mem_cons.1 h with rfl | h
        · exact absurd rfl h1
        · exact h
      obtain ⟨j, h3, h4⟩ := nk_some (i := Nat.succ i) h2
      refine ⟨j + 1, ?_, ?_⟩
      · simp only [List.map_cons, nE, findK, keq_int, h1, decide_false]
        rw [h3]
        congr 2
        omega
      · simp only [List.map_cons, setN]
        rw [h4]
theorem funcZ_cases (l : List NFunc) (c m : Str) : (funcN l c m = none ∧ funcZ l c m = -1) ∨ ∃ g, funcN l c m = some g ∧ funcZ l c m = (g : Int) := by
  unfold funcZ
  cases funcN l c m with
  | none => exact .inl ⟨rfl, rfl⟩
  | some g => exact .inr ⟨g, rfl, rfl⟩
theorem f32 (ht : TabOk P gl tab.get) (hs : SortOk P gl) (hss : SortSOk P gl) (u : NUnit) (x : NInstr) (hh : u.hier.length ≤ 900) (hml : ∀ x, x ∈ u.hier → x.methods.length < 4611686018427387904) (hpl : ∀ x, x ∈ u.hier → ∀ s, s ∈ x.methods → s.params.length ≤ 1048576) (hn0 : u.funcs.length ≤ 1000) (hic : isCall x) (T : List Nat) (hT : T.Pairwise (· < ·)) (hTm : ∀ g, g ∈ T ↔ canP u x g) : Val P gl 32 [.agg (eUn u), .agg (eIn x)] fun d => d = .isl 1 none (T.map rN) .no := by
  refine Val.of_wp gl_ok ht (df := d32) rfl (cl_cons (.agg _ (cl_eUn u)) (cl_cons (.agg _ (cl_eIn x)) cl_nil)) (fun d hd => by rw [hd]; exact cl_isl cl_rN ..) ?_
  simp only [d32, go_sem, reduceIte, Nat.reduceEqDiff, Nat.reduceAdd, Nat.reduceBEq, reduceCtorEq]
  rw [wp_sq]
  simp only [go_sem, reduceIte, Nat.reduceEqDiff, Nat.reduceAdd, Nat.reduceBEq, reduceCtorEq]
  rw [wp_sq]
  simp only [go_sem, reduceIte, Nat.reduceEqDiff, Nat.reduceAdd, Nat.reduceBEq, reduceCtorEq]
  refine wp_sqI [5, 13, 14, 15, 16, 17, 18, 19, 20, 21, 22] (fun e1 S1 => ∃ (cl : List Str) (nf : Option Bool) (tl : Tl), e1 5 = .isl 1 nf (cl.map rS) tl ∧ cl.length ≤ 901 ∧ (∀ g, (∃ t, t ∈ cl ∧ funcN u.funcs t x.name = some g) ↔ canP u x g) ∧ S1 = S0) ?_ ?_
  · by_cases h0 : x.op = 9
    · simp only [go_sem, wp_sq, reduceIte, Nat.reduceEqDiff, Nat.reduceAdd, Nat.reduceBEq, reduceCtorEq, h0]
      refine ex_call (f64 ht hss u.hier x.cls x.name hh hml hpl) ?_
      rintro _ ⟨l, rfl, hl, hll⟩
      simp only [go_sem, wp_sq, reduceIte, Nat.reduceEqDiff, Nat.reduceAdd, Nat.reduceBEq, reduceCtorEq]
      refine ⟨by repeat' first | exact hf | exact rfl | exact Fr0.refl _ _ | apply Fr0.upd | exact hf2 | refine Fr0.sub hf2 rfl ?_ | refine Fr0.sub hf rfl ?_, l, _, _, rfl, by omega, fun g => ⟨?_, ?_⟩⟩
      · rintro ⟨t, h1, h2⟩
        exact .inr ⟨by omega, t, (hl t).1 h1, h2⟩
      · rintro (⟨h1, _⟩ | ⟨_, t, h1, h2⟩)
        · omega
        · exact ⟨t, (hl t).2 h1, h2⟩
    · have h9 : x.op = 10 := hic.elim (fun h => absurd h h0) id
      simp only [go_sem, wp_sq, reduceIte, Nat.reduceEqDiff, Nat.reduceAdd, Nat.reduceBEq, reduceCtorEq, h0]
      refine ⟨by repeat' first | exact hf | exact rfl | exact Fr0.refl _ _ | apply Fr0.upd | exact hf2 | refine Fr0.sub hf2 rfl ?_ | refine Fr0.sub hf rfl ?_, [x.cls], _, _, rfl, by simp, fun g => ⟨?_, ?_⟩⟩
      · rintro ⟨t, h1, h2⟩
        rw [List.mem_singleton.1 h1] at h2
        exact .inl ⟨h9, h2⟩
      · rintro (⟨_, h1⟩ | ⟨h1, _⟩)
        · exact ⟨_, List.mem_singleton.2 rfl, h1⟩
        · exact absurd h9 h1
  rintro e1 S1 hf1 ⟨cl, nf, tl, h5, hcl, hcan, rfl⟩
  have h2 : e1 2 = .iptr (eUn u) 0 := hf1 2 rfl
  have h3 : e1 3 = .iptr (eIn x) 0 := hf1 3 rfl
  simp only [go_sem, wp_sq, reduceIte, Nat.reduceEqDiff, Nat.reduceAdd, Nat.reduceBEq, reduceCtorEq, h2, h3, h5, s0nx]
  refine wp_lpE [8, 9, 26, 27, 28, 29, 30, 31, 32, 33, 34, 35, 36, 37, 38, 39] (fun n e S => ∃ i : Nat, n = cl.length - i ∧ i ≤ cl.length ∧ e 26 = .int .i64 i ∧ ∃ ks : List Nat, ks.Nodup ∧ S.h 0 = some (.map (ks.map nE)) ∧ (∀ g, g ∈ ks ↔ ∃ t, t ∈ cl.take i ∧ funcN u.funcs t x.name = some g) ∧ ks.length ≤ i) cl.length ⟨0, rfl, Nat.zero_le _, rfl, [], List.nodup_nil, put_same S0.h 0 _, by simp, Nat.le_refl _⟩ ?_
  rintro n e S ⟨i, hn, hi, hx, ks, hnd, hS, hI, hkl⟩ hf
  have hs2 : e 2 = .iptr (eUn u) 0 := (hf 2 rfl).trans h2
  have hs3 : e 3 = .iptr (eIn x) 0 := (hf 3 rfl).trans h3
  have hs6 : e 6 = .map 0 := hf 6 rfl
  have hs24 : e 24 = .isl 1 nf (cl.map rS) tl := hf 24 rfl
  have hs25 : e 25 = .int .i64 cl.length := hf 25 rfl
  have hw := wrap_succ (i := i) (by omega)
  by_cases h1 : i < cl.length
  · have hst : ∀ g, (∃ t, t ∈ cl.take (i + 1) ∧ funcN u.funcs t x.name = some g) ↔ (∃ t, t ∈ cl.take i ∧ funcN u.funcs t x.name = some g) ∨ funcN u.funcs cl[i] x.name = some g := fun g => by
      rw [List.take_succ_eq_append_getElem h1]
      simp only [List.mem_append, List.mem_singleton]
      constructor
      · rintro ⟨t, g1 | rfl, g2⟩
        · exact .inl ⟨t, g1, g2⟩
        · exact .inr g2
      · rintro (⟨t, g1, g2⟩ | g2)
        · exact ⟨t, .inl g1, g2⟩
        · exact ⟨_, .inr rfl, g2⟩
    simp only [go_sem, wp_sq, reduceIte, Nat.reduceEqDiff, Nat.reduceAdd, Nat.reduceBEq, reduceCtorEq, hs2, hs3, hs6, hs24, hs25, hx, hw, h1]
    refine ex_call (f55 ht u cl[i] x.name (by omega)) ?_
    rintro _ rfl
    rcases funcZ_cases u.funcs cl[i] x.name with ⟨g1, g2⟩ | ⟨g, g1, g2⟩
    · rw [g2]
      have e0 : ¬ (0 : Int) ≤ -1 := by decide
      simp only [go_sem, wp_sq, reduceIte, Nat.reduceEqDiff, Nat.reduceAdd, Nat.reduceBEq, reduceCtorEq, hs2, hs3, hs6, hs24, hs25, hx, hw, h1, e0]
      refine ⟨_, by omega, rfl, (by repeat' first | exact hf | exact rfl | exact Fr0.refl _ _ | apply Fr0.upd | exact hf2 | refine Fr0.sub hf2 rfl ?_ | refine Fr0.sub hf rfl ?_), i + 1, rfl, by omega, rfl, ks, hnd, hS, fun y => ?_, by omega⟩
      rw [hst, hI, g1]
      simp
    · rw [g2]
      have e0 : (0 : Int) ≤ (g : Int) := Int.natCast_nonneg g
      have hst2 : ∀ y, (∃ t, t ∈ cl.take (i + 1) ∧ funcN u.funcs t x.name = some y) ↔ y ∈ ks ∨ y = g := fun y => by
        rw [hst, hI, g1]
        simp only [Option.some.injEq]
        exact ⟨fun h => h.elim .inl fun h => .inr h.symm, fun h => h.elim .inl fun h => .inr h.symm⟩
      by_cases hm : g ∈ ks
      · obtain ⟨j, hj1, hj2⟩ := nk_some (i := 0) hm
        rw [Nat.zero_add] at hj1
        have hj2 : setN (ks.map nE) j (.int .i64 (g : Int), .bool true) = ks.map nE := hj2
        simp only [go_sem, wp_sq, reduceIte, Nat.reduceEqDiff, Nat.reduceAdd, Nat.reduceBEq, reduceCtorEq, hs2, hs3, hs6, hs24, hs25, hx, hw, h1, e0, keq_int, hS, hj1, hj2]
        refine ⟨_, by omega, rfl, (by repeat' first | exact hf | exact rfl | exact Fr0.refl _ _ | apply Fr0.upd | exact hf2 | refine Fr0.sub hf2 rfl ?_ | refine Fr0.sub hf rfl ?_), i + 1, rfl, by omega, rfl, ks, hnd, put_same S.h 0 _, fun y => ?_, by omega⟩
        rw [hst2]
        exact ⟨.inl, fun h => h.elim id fun h => by rw [h]; exact hm⟩
      · have hj1 := nk_none (i := 0) hm
        simp only [go_sem, wp_sq, reduceIte, Nat.reduceEqDiff, Nat.reduceAdd, Nat.reduceBEq, reduceCtorEq, hs2, hs3, hs6, hs24, hs25, hx, hw, h1, e0, keq_int, hS, hj1]
        refine ⟨_, by omega, rfl, (by repeat' first | exact hf | exact rfl | exact Fr0.refl _ _ | apply Fr0.upd | exact hf2 | refine Fr0.sub hf2 rfl ?_ | refine Fr0.sub hf rfl ?_), i + 1, rfl, by omega, rfl, ks ++ [g], ?_, ?_, fun y => ?_, by simp; omega⟩
        · rw [List.nodup_append]
          refine ⟨hnd, by simp, fun a ha b hb => ?_⟩
          rw [List.mem_singleton.1 hb]
          intro he
          exact hm (he ▸ ha)
        · refine (put_same S.h 0 _).trans ?_
          rw [List.map_append]
          rfl
        · rw [hst2, List.mem_append, List.mem_singleton]
  · rw [List.take_of_length_le (by omega)] at hI
    have hks : sortZ (ks.map fun k : Nat => (k : Int)) = T.map fun k : Nat => (k : Int) := sortZ_nat hnd hT fun y => by rw [hTm, hI, hcan]
    simp only [go_sem, wp_sq, reduceIte, Nat.reduceEqDiff, Nat.reduceAdd, Nat.reduceBEq, reduceCtorEq, hs2, hs3, hs6, hs24, hs25, hx, hw, h1]
    refine ex_callD (numbers_ok (S := S) (es := ks.map nE) (ks := ks.map fun k : Nat => (k : Int)) ht hs hS (by rw [List.map_map, List.map_map]; rfl) (by rw [List.length_map]; omega)) ?_
    rintro _ D ⟨rfl, rfl⟩
    simp only [go_sem, wp_sq, reduceIte, Nat.reduceEqDiff, Nat.reduceAdd, Nat.reduceBEq, reduceCtorEq]
    refine ret_one (b := none) rfl ?_
    rw [hks, List.map_map]
    rfl
end Go.Proofs.YtfmicbbflpkdgaaGreatDoor.D
/-
  Contracts: part 29: the program's targets and call edges.
-/
namespace Go.Proofs.YtfmicbbflpkdgaaGreatDoor.D
-- V2

variable {P : Program}

theorem AppS.al {S : DS} {k m : Nat} {v : DV} {rows : List (List DV)} {o o2 : Option DO} (h : AppS S v k rows) (hm : S.nx ≤ m) : AppS (DS.put (DS.put ⟨S.h, m⟩ S.nx o) S.nx o2) v k rows := by
  obtain ⟨nf, tl, h1, h2⟩ := h
  refine ⟨nf, tl, h1, ?_⟩
  rcases h2 with h2 | ⟨t, h3, h4, h5⟩
  · exact .inl h2
  · exact .inr ⟨t, h3, Nat.lt_of_lt_of_le h4 hm, ((put_ne _ _ (by omega)).trans (put_ne _ _ (by omega))).trans h5⟩
theorem f11 (ht : TabOk P gl tab.get) (hs : SortOk P gl) (hss : SortSOk P gl) (u : NUnit) (hh : u.hier.length ≤ 900) (hml : ∀ x, x ∈ u.hier → x.methods.length < 4611686018427387904) (hpl : ∀ x, x ∈ u.hier → ∀ s, s ∈ x.methods → s.params.length ≤ 1048576) (hn : u.funcs.length ≤ 1000) (hcl : ∀ f, f ∈ u.funcs → f.code.length ≤ 1048576) (f i : Int) (T : List Nat) (hT : TarsOk u f i T) : Val P gl 11 [.agg (eUn u), .int .i64 f, .int .i64 i] fun d => d = .isl 1 none (T.map rN) .no := by
  refine Val.of_wp gl_ok ht (df := d11) rfl (cl_cons (.agg _ (cl_eUn u)) (cl_cons (.int _ _) (cl_cons (.int _ _) cl_nil))) (fun d hd => by rw [hd]; exact cl_isl cl_rN ..) ?_
  have hno : (∀ g, ¬ callP u f i g) → DV.isl 1 none [] .no = .isl 1 none (T.map rN) .no := fun h => by rw [hT.eq (tars_nil h)]; rfl
  simp only [d11, go_sem, wp_sq, reduceIte, Nat.reduceEqDiff, Nat.reduceAdd, Nat.reduceBEq, reduceCtorEq]
  refine ex_call (f30 ht u f) ?_
  rintro _ rfl
  by_cases e0 : 0 ≤ f ∧ f < u.funcs.length
  rotate_left
  · have e1 : decide (0 ≤ f ∧ f < u.funcs.length) = false := decide_eq_false e0
    rw [e1]
    simp only [go_sem, wp_sq, reduceIte, Nat.reduceEqDiff, Nat.reduceAdd, Nat.reduceBEq, reduceCtorEq]
    refine ret_one (b := none) rfl (hno ?_)
    rintro g ⟨k, j, fn, x, h, _, h2, _⟩
    obtain ⟨h3, _⟩ := List.getElem?_eq_some_iff.1 h2
    omega
  have e1 : decide (0 ≤ f ∧ f < u.funcs.length) = true := decide_eq_true e0
  rw [e1]
  clear e1
  obtain ⟨k, rfl⟩ := Int.eq_ofNat_of_zero_le e0.1
  have hk : k < u.funcs.length := by omega
  have hcl2 := hcl _ (List.getElem_mem hk)
  by_cases e5 : i < 0
  · simp only [go_sem, wp_sq, reduceIte, Nat.reduceEqDiff, Nat.reduceAdd, Nat.reduceBEq, reduceCtorEq, e5]
    refine ret_one (b := none) rfl (hno ?_)
    rintro g ⟨k, j, fn, x, _, h, _⟩
    omega
  by_cases e6 : (u.funcs[k].code.length : Int) ≤ i
  · simp only [go_sem, wp_sq, reduceIte, Nat.reduceEqDiff, Nat.reduceAdd, Nat.reduceBEq, reduceCtorEq, e5, e6, hk]
    refine ret_one (b := none) rfl (hno ?_)
    rintro g ⟨k2, j, fn, x, h1, h, h2, h3, _⟩
    have : k = k2 := by omega
    subst this
    rw [List.getElem?_eq_getElem hk] at h2
    cases h2
    obtain ⟨h3, _⟩ := List.getElem?_eq_some_iff.1 h3
    omega
  obtain ⟨j, rfl⟩ := Int.eq_ofNat_of_zero_le (show 0 ≤ i by omega)
  have hj : j < u.funcs[k].code.length := by omega
  have e7 : decide ((j : Int) < 0) = false := decide_eq_false (by omega)
  have e8 : ¬ u.funcs[k].code.length ≤ j := by omega
  have hcp : ∀ g, callP u k j g ↔ isCall u.funcs[k].code[j] ∧ canP u u.funcs[k].code[j] g := by
    intro g
    constructor
    · rintro ⟨k2, j2, fn, x, h1, h, h2, h3, h4⟩
      have : k = k2 := by omega
      subst this
      have : j = j2 := by omega
      subst this
      rw [List.getElem?_eq_getElem hk] at h2
      cases h2
      rw [List.getElem?_eq_getElem hj] at h3
      cases h3
      exact h4
    · intro h
      exact ⟨k, j, _, _, rfl, rfl, List.getElem?_eq_getElem hk, List.getElem?_eq_getElem hj, h⟩
  simp only [go_sem, wp_sq, reduceIte, Nat.reduceEqDiff, Nat.reduceAdd, Nat.reduceBEq, reduceCtorEq, e7, e8, hk, hj]
  refine ex_call (f31 ht u.funcs[k].code[j]) ?_
  rintro _ ⟨b, rfl, hb⟩
  simp only [go_sem, wp_sq, reduceIte, Nat.reduceEqDiff, Nat.reduceAdd, Nat.reduceBEq, reduceCtorEq, e7, e8, hk, hj]
  cases b with
  | false =>
    simp only [go_sem, wp_sq, reduceIte, Nat.reduceEqDiff, Nat.reduceAdd, Nat.reduceBEq, reduceCtorEq]
    refine ret_one (b := none) rfl (hno ?_)
    intro g hg
    have := hb.2 ((hcp g).1 hg).1
    cases this
  | true =>
    have hic := hb.1 rfl
    simp only [go_sem, wp_sq, reduceIte, Nat.reduceEqDiff, Nat.reduceAdd, Nat.reduceBEq, reduceCtorEq]
    refine wp_rdH ?_
    simp only [go_sem, wp_sq, reduceIte, Nat.reduceEqDiff, Nat.reduceAdd, Nat.reduceBEq, reduceCtorEq, hk, hj]
    refine ex_call (f32 ht hs hss u u.funcs[k].code[j] hh hml hpl hn hic T hT.1 fun g => ?_) ?_
    · rw [hT.2, hcp]
      exact ⟨fun h => h.2, fun h => ⟨hic, h⟩⟩
    rintro _ rfl
    simp only [go_sem, wp_sq, reduceIte, Nat.reduceEqDiff, Nat.reduceAdd, Nat.reduceBEq, reduceCtorEq]
    exact ret_one (b := none) rfl rfl
theorem f14 (ht : TabOk P gl tab.get) (hs : SortOk P gl) (hss : SortSOk P gl) (u : NUnit) (hh : u.hier.length ≤ 900) (hml : ∀ x, x ∈ u.hier → x.methods.length < 4611686018427387904) (hpl : ∀ x, x ∈ u.hier → ∀ s, s ∈ x.methods → s.params.length ≤ 1048576) (T : Nat → Nat → List Nat) (hc : CallsFit u T) (hT : ∀ f i : Nat, TarsOk u f i (T f i)) : Val P gl 14 [.agg (eUn u)] fun d => d = .isl 3 none ((callsL u T).map rC) .no := by
  have hn0 := hc.n
  refine Val.of_wp gl_ok ht (df := d14) rfl (cl_cons (.agg _ (cl_eUn u)) cl_nil) (fun d hd => by rw [hd]; exact cl_isl cl_rC ..) ?_
  simp only [d14, go_sem, wp_sq, reduceIte, Nat.reduceEqDiff, Nat.reduceAdd, Nat.reduceBEq, reduceCtorEq]
  refine wp_lpE [3, 4, 5, 6, 8, 12, 13, 14, 15, 16, 17, 18, 19, 20, 21, 22, 23, 24, 25, 26, 27, 28, 29, 30, 31, 32, 33, 34, 35, 36, 37, 38, 39, 40, 41] (fun n e S => ∃ f : Nat, n = u.funcs.length - f ∧ f ≤ u.funcs.length ∧ e 12 = .int .i64 f ∧ ∃ l : List Edge, AppS S (e 3) 3 (l.map rC) ∧ l = (List.range f).flatMap (cF u T)) u.funcs.length ⟨0, rfl, Nat.zero_le _, rfl, [], AppS.nil, rfl⟩ ?_
  rintro n e S ⟨f, hn, hf0, hx, l, hA, hl1⟩ hf
  have hs1 : e 1 = .iptr (eUn u) 0 := hf 1 rfl
  have hs10 : e 10 = .isl 7 none (u.funcs.map eFn) .no := hf 10 rfl
  have hs11 : e 11 = .int .i64 u.funcs.length := hf 11 rfl
  have hw := wrap_succ (i := f) (by omega)
  by_cases h1 : f < u.funcs.length
  · have hcl := hc.c _ (List.getElem_mem h1)
    have hcF : cF u T f = (List.range u.funcs[f].code.length).flatMap (cI T f) := by
      rw [cF, List.getElem?_eq_getElem h1]; rfl
    simp only [go_sem, wp_sq, reduceIte, Nat.reduceEqDiff, Nat.reduceAdd, Nat.reduceBEq, reduceCtorEq, hs1, hs10, hs11, hx, hw, h1]
    refine ⟨_, _, _, rfl, put_same _ _ _, rfl, rfl, rfl, ?_⟩
    simp only [go_sem, wp_sq, reduceIte, Nat.reduceEqDiff, Nat.reduceAdd, Nat.reduceBEq, reduceCtorEq, hs1, hs10, hs11, hx, hw, h1]
    refine wp_lpE [3, 6, 8, 20, 21, 22, 23, 24, 25, 26, 27, 28, 29, 30, 31, 32, 33, 34, 35, 36, 37, 38, 39, 40] (fun n e S => ∃ i : Nat, n = u.funcs[f].code.length - i ∧ i ≤ u.funcs[f].code.length ∧ e 20 = .int .i64 i ∧ ∃ l2 : List Edge, AppS S (e 3) 3 (l2.map rC) ∧ l2 = l ++ (List.range i).flatMap (cI T f)) u.funcs[f].code.length ⟨0, rfl, Nat.zero_le _, rfl, l, ?_, by simp⟩ ?_
    · exact hA.al (Nat.le_succ _)
    rintro n2 e2 S2 ⟨i, hn2, hi0, hy, l2, hA2, hl3⟩ hf2
    have ht1 := (show e2 1 = e 1 from hf2 1 rfl).trans hs1
    have ht12 := (show e2 12 = e 12 from hf2 12 rfl).trans hx
    have ht10 := (show e2 10 = e 10 from hf2 10 rfl).trans hs10
    have ht11 := (show e2 11 = e 11 from hf2 11 rfl).trans hs11
    have ht4 : e2 4 = .int .i64 f := hf2 4 rfl
    have ht19 : e2 19 = .int .i64 u.funcs[f].code.length := hf2 19 rfl
    have hw2 := wrap_succ (i := i) (by omega)
    have hl4 : l2.length ≤ 70000 := by
      rw [hl3, hl1]
      exact hc.len (by omega) (by omega)
    by_cases h2 : i < u.funcs[f].code.length
    · have htl := hc.t f i
      simp only [go_sem, wp_sq, reduceIte, Nat.reduceEqDiff, Nat.reduceAdd, Nat.reduceBEq, reduceCtorEq, ht1, ht4, ht12, ht19, hy, hw, hw2, h1, h2]
      refine ex_call (f11 ht hs hss u hh hml hpl (by omega) (fun f hf => by have := hc.c f hf; omega) f i (T f i) (hT f i)) ?_
      rintro _ rfl
      simp only [go_sem, wp_sq, reduceIte, Nat.reduceEqDiff, Nat.reduceAdd, Nat.reduceBEq, reduceCtorEq, ht1, ht4, ht12, ht19, hy, hw, hw2, h1, h2]
      refine wp_lpE [3, 8, 28, 29, 30, 31, 32, 33, 34, 35, 36, 37, 38, 39] (fun n e S => ∃ k : Nat, n = (T f i).length - k ∧ k ≤ (T f i).length ∧ e 28 = .int .i64 k ∧ ∃ l3 : List Edge, AppS S (e 3) 3 (l3.map rC) ∧ l3 = l2 ++ ((T f i).take k).map (fun g => (f, i, g))) (T f i).length ⟨0, rfl, Nat.zero_le _, rfl, l2, hA2, by simp⟩ ?_
      rintro n3 e3 S3 ⟨k, hn3, hk0, hz, l3, hA3, hl5⟩ hf3
      have hv4 : e3 4 = .int .i64 f := (show e3 4 = e2 4 from hf3 4 rfl).trans ht4
      have hv20 : e3 20 = .int .i64 i := (show e3 20 = e2 20 from hf3 20 rfl).trans hy
      have hv6 : e3 6 = .int .i64 i := hf3 6 rfl
      have hv26 : e3 26 = .isl 1 none ((T f i).map rN) .no := hf3 26 rfl
      have hv27 : e3 27 = .int .i64 (T f i).length := hf3 27 rfl
      have hw3 := wrap_succ (i := k) (by omega)
      have hl6 : l3.length ≤ 71000 := by
        rw [hl5, List.length_append, List.length_map, List.length_take]
        omega
      obtain ⟨nf, tl, h3, _⟩ := id hA3
      by_cases h4 : k < (T f i).length
      · simp only [go_sem, wp_sq, reduceIte, Nat.reduceEqDiff, Nat.reduceAdd, Nat.reduceBEq, reduceCtorEq, hv4, hv6, hv26, hv27, hz, hw3, h4, rN, dbuild3]
        refine ex_app hA3 rfl (by simp; omega) (by simp) (Nat.le_refl _) (fun v ps hB => ?_)
        try simp only [go_sem, wp_sq, reduceIte, Nat.reduceEqDiff, Nat.reduceAdd, Nat.reduceBEq, reduceCtorEq, hv4, hv6, hv26, hv27, hz, hw3, h4]
        refine ⟨_, by omega, rfl, (by repeat' first | exact hf3 | exact rfl | apply Fr0.upd), k + 1, rfl, by omega, rfl, l3 ++ [(f, i, (T f i)[k])], ?_, ?_⟩
        · have := hB _ (Nat.lt_succ_self _)
          rw [List.map_append]
          exact this
        · rw [hl5, map_take_succ h4, List.append_assoc]
      · simp only [go_sem, wp_sq, reduceIte, Nat.reduceEqDiff, Nat.reduceAdd, Nat.reduceBEq, reduceCtorEq, hv4, hv6, hv20, hv26, hv27, hz, hw2, hw3, h4]
        refine ⟨_, by omega, rfl, (by repeat' first | exact hf2 | exact rfl | apply Fr0.upd | refine Fr0.sub hf3 rfl ?_), i + 1, rfl, by omega, rfl, l3, hA3, ?_⟩
        · rw [hl5, hl3, range_flat, List.append_assoc, List.take_of_length_le (by omega)]
          rfl
    · simp only [go_sem, wp_sq, reduceIte, Nat.reduceEqDiff, Nat.reduceAdd, Nat.reduceBEq, reduceCtorEq, ht1, ht4, ht12, ht19, hy, hw, hw2, h1, h2]
      refine ⟨_, by omega, rfl, (by repeat' first | exact hf | exact rfl | exact Fr0.refl _ _ | apply Fr0.upd | exact hf2 | refine Fr0.sub hf2 rfl ?_ | refine Fr0.sub hf rfl ?_), f + 1, rfl, by omega, rfl, l2, hA2, ?_⟩
      rw [hl3, hl1, range_flat, hcF, show i = u.funcs[f].code.length by omega]
  · simp only [go_sem, wp_sq, reduceIte, Nat.reduceEqDiff, Nat.reduceAdd, Nat.reduceBEq, reduceCtorEq, hs1, hs10, hs11, hx, hw, h1]
    refine ret_one (b := none) hA.fz ?_
    rw [hl1, callsL, show f = u.funcs.length by omega]
theorem f10 (ht : TabOk P gl tab.get) (T : List Nat) (hl : T.length < 4611686018427387904) : Val P gl 10 [.isl 1 none (T.map rN) .no, .isl 1 none (T.map rN) .no] fun d => d = .bool true := by
  refine Val.of_wp gl_ok ht (df := d10) rfl (cl_cons (cl_isl cl_rN ..) (cl_cons (cl_isl cl_rN ..) cl_nil)) (fun d hd => by rw [hd]; exact .bool _) ?_
  simp only [d10, go_sem, wp_sq, reduceIte, Nat.reduceEqDiff, Nat.reduceAdd, Nat.reduceBEq, reduceCtorEq]
  refine wp_lpE [4, 5, 13, 14, 15, 16, 17, 18, 19, 20, 21, 22, 23, 24, 25] (fun n e S => Idx T.length 13 n e) T.length (Idx.zero rfl) ?_
  rintro n e S ⟨i, hn, hi, hx⟩ hf
  have hs0 : e 0 = .isl 1 none (T.map rN) .no := hf 0 rfl
  have hs1 : e 1 = .isl 1 none (T.map rN) .no := hf 1 rfl
  have hs12 : e 12 = .int .i64 T.length := hf 12 rfl
  have hw := wrap_succ (i := i) (by omega)
  by_cases h1 : i < T.length
  · simp only [go_sem, wp_sq, reduceIte, Nat.reduceEqDiff, Nat.reduceAdd, Nat.reduceBEq, reduceCtorEq, hs0, hs1, hs12, hx, hw, h1]
    refine wp_rdH ?_
    simp only [go_sem, wp_sq, reduceIte, Nat.reduceEqDiff, Nat.reduceAdd, Nat.reduceBEq, reduceCtorEq, rN, hs0, hs1, hs12, hx, hw, h1]
    exact ⟨_, by omega, rfl, (by repeat' first | exact hf | exact rfl | exact Fr0.refl _ _ | apply Fr0.upd | exact hf2 | refine Fr0.sub hf2 rfl ?_ | refine Fr0.sub hf rfl ?_), i + 1, rfl, by omega, rfl⟩
  · simp only [go_sem, wp_sq, reduceIte, Nat.reduceEqDiff, Nat.reduceAdd, Nat.reduceBEq, reduceCtorEq, hs0, hs1, hs12, hx, hw, h1]
    exact ret_one (b := none) rfl rfl
theorem keq_C {p : Edge} : kEq 13 (.agg (rC p)) (.agg (rC p)) = some true := by
  simp [kEq, rC, cellsEq, scalarEq, kq_eq, ieq_eq, lenN]
theorem f13 (ht : TabOk P gl tab.get) (T : List Edge) (hl : T.length < 4611686018427387904) : Val P gl 13 [.isl 3 none (T.map rC) .no, .isl 3 none (T.map rC) .no] fun d => d = .bool true := by
  refine Val.of_wp gl_ok ht (df := d13) rfl (cl_cons (cl_isl cl_rC ..) (cl_cons (cl_isl cl_rC ..) cl_nil)) (fun d hd => by rw [hd]; exact .bool _) ?_
  simp only [d13, go_sem, wp_sq, reduceIte, Nat.reduceEqDiff, Nat.reduceAdd, Nat.reduceBEq, reduceCtorEq]
  refine wp_lpE [4, 5, 13, 14, 15, 16, 17, 18, 19, 20, 21, 22, 23, 24, 25] (fun n e S => Idx T.length 13 n e) T.length (Idx.zero rfl) ?_
  rintro n e S ⟨i, hn, hi, hx⟩ hf
  have hs0 : e 0 = .isl 3 none (T.map rC) .no := hf 0 rfl
  have hs1 : e 1 = .isl 3 none (T.map rC) .no := hf 1 rfl
  have hs12 : e 12 = .int .i64 T.length := hf 12 rfl
  have hw := wrap_succ (i := i) (by omega)
  by_cases h1 : i < T.length
  · have hld : dPart (rC T[i]) 0 (some 3) = some (.agg (rC T[i])) := dpart_some3
    simp only [go_sem, wp_sq, reduceIte, Nat.reduceEqDiff, Nat.reduceAdd, Nat.reduceBEq, reduceCtorEq, hs0, hs1, hs12, hx, hw, h1]
    refine wp_rdH ?_
    simp only [go_sem, wp_sq, reduceIte, Nat.reduceEqDiff, Nat.reduceAdd, Nat.reduceBEq, reduceCtorEq, hs0, hs1, hs12, hx, hw, h1, hld, keq_C, ngB]
    exact ⟨_, by omega, rfl, (by repeat' first | exact hf | exact rfl | exact Fr0.refl _ _ | apply Fr0.upd | exact hf2 | refine Fr0.sub hf2 rfl ?_ | refine Fr0.sub hf rfl ?_), i + 1, rfl, by omega, rfl⟩
  · simp only [go_sem, wp_sq, reduceIte, Nat.reduceEqDiff, Nat.reduceAdd, Nat.reduceBEq, reduceCtorEq, hs0, hs1, hs12, hx, hw, h1]
    exact ret_one (b := none) rfl rfl
end Go.Proofs.YtfmicbbflpkdgaaGreatDoor.D
/-
  The law ChaTargets, in the D machine's words.
-/
namespace Go.Proofs.YtfmicbbflpkdgaaGreatDoor.D
-- V2

variable {P : Program}

theorem known0 : KnownOk P [] := fun _ _ _ h => by simp at h
theorem f85 (hw : World0 P) : Val P gl 85 [srcV] fun d => d = tokV := chkCall_ok hw known0 chk85
theorem known1_ok (hw : World0 P) : KnownOk P known1 := fun f args v h => by
  simp only [known1, List.mem_singleton, Prod.mk.injEq] at h
  obtain ⟨rfl, rfl, rfl⟩ := h
  exact f85 hw
theorem f28 (hw : World0 P) : Val P gl 28 [srcV] fun d => d = astV := chkCall_ok hw (known1_ok hw) chk28
theorem known2_ok (hw : World0 P) : KnownOk P known2 := fun f args v h => by
  simp only [known2, List.mem_singleton, Prod.mk.injEq] at h
  obtain ⟨rfl, rfl, rfl⟩ := h
  exact f28 hw
theorem f9 (hw : World0 P) : Val P gl 9 [] fun d => d = .bool true := chkCall_ok hw (known2_ok hw) chk9
theorem calls_len {u : NUnit} {T : Nat → Nat → List Nat} (hc : CallsFit u T) : (callsL u T).length ≤ 70000 := by
  have := hc.len (f := u.funcs.length) (i := 0) hc.n (Nat.zero_le _)
  simpa [callsL] using this
theorem f3 (hw : World0 P) (hss : SortSOk P gl) (u : NUnit) (hu : UW u) (f i : Int) : Val P gl 3 [.agg (eUn u), .int .i64 f, .int .i64 i] fun d => d = .bool true := by
  have ht := hw.tab
  refine Val.of_wp gl_ok ht (df := d3) rfl (cl_cons (.agg _ (cl_eUn u)) (cl_cons (.int _ _) (cl_cons (.int _ _) cl_nil))) (fun d hd => by rw [hd]; exact .bool _) ?_
  simp only [d3, go_sem, wp_sq, reduceIte, Nat.reduceEqDiff, Nat.reduceAdd, Nat.reduceBEq, reduceCtorEq]
  refine ex_call (f8 ht u hu 150 (by decide)) ?_
  rintro _ ⟨b, rfl, hb⟩
  simp only [go_sem, wp_sq, reduceIte, Nat.reduceEqDiff, Nat.reduceAdd, Nat.reduceBEq, reduceCtorEq]
  refine ifP_b (fun hb2 => ?_) (fun hb2 => ?_)
  rotate_left
  · simp only [go_sem, wp_sq, reduceIte, Nat.reduceEqDiff, Nat.reduceAdd, Nat.reduceBEq, reduceCtorEq]
    refine ex_call (f9 hw) ?_
    rintro _ rfl
    simp only [go_sem, wp_sq, reduceIte, Nat.reduceEqDiff, Nat.reduceAdd, Nat.reduceBEq, reduceCtorEq]
    exact ret_one (b := none) rfl rfl
  obtain ⟨hF, hM⟩ := hb hb2
  obtain ⟨T, hT⟩ := Classical.axiomOfChoice fun p : Int × Int => tars_ex u p.1 p.2
  have hh : u.hier.length ≤ 900 := Nat.le_trans hF.hl (by decide)
  have hml : ∀ x, x ∈ u.hier → x.methods.length < 4611686018427387904 := fun x hx => Nat.lt_of_le_of_lt (hF.cf x hx).m (by decide)
  have hpl : ∀ x, x ∈ u.hier → ∀ s, s ∈ x.methods → s.params.length ≤ 1048576 := fun x hx s hs => Nat.le_trans ((hF.cf x hx).p s hs) (by decide)
  have hn : u.funcs.length ≤ 1000 := Nat.le_trans hF.fl (by decide)
  have hcl : ∀ f, f ∈ u.funcs → f.code.length ≤ 1048576 := fun f hf => Nat.le_trans (hF.ff f hf).c (by decide)
  have hc : CallsFit u fun f i : Nat => T ((f : Int), (i : Int)) := ⟨hF.fl, fun f hf => (hF.ff f hf).c, fun f i => Nat.le_trans (hT ((f : Int), (i : Int))).len hF.fl⟩
  have hcT : ∀ f i : Nat, TarsOk u f i ((fun f i : Nat => T ((f : Int), (i : Int))) f i) := fun f i => hT ((f : Int), (i : Int))
  have hTl : (T (f, i)).length ≤ 20 := Nat.le_trans (hT (f, i)).len hF.fl
  have hCl := calls_len hc
  simp only [go_sem, wp_sq, reduceIte, Nat.reduceEqDiff, Nat.reduceAdd, Nat.reduceBEq, reduceCtorEq]
  refine wp_rdH ?_
  simp only [go_sem, wp_sq, reduceIte, Nat.reduceEqDiff, Nat.reduceAdd, Nat.reduceBEq, reduceCtorEq, rech_g, rechB]
  refine ex_call (f9 hw) ?_
  rintro _ rfl
  simp only [go_sem, wp_sq, reduceIte, Nat.reduceEqDiff, Nat.reduceAdd, Nat.reduceBEq, reduceCtorEq, rech_g, rechB]
  refine ex_call (f11 ht hw.sort hss u hh hml hpl hn hcl f i _ (hT (f, i))) ?_
  rintro _ rfl
  simp only [go_sem, wp_sq, reduceIte, Nat.reduceEqDiff, Nat.reduceAdd, Nat.reduceBEq, reduceCtorEq, rech_g, rechB]
  refine ex_call (f12 ht u hh hml hn hcl f i _ (hT (f, i))) ?_
  rintro _ rfl
  simp only [go_sem, wp_sq, reduceIte, Nat.reduceEqDiff, Nat.reduceAdd, Nat.reduceBEq, reduceCtorEq, rech_g, rechB]
  refine ex_call (f10 ht _ (by omega)) ?_
  rintro _ rfl
  simp only [go_sem, wp_sq, reduceIte, Nat.reduceEqDiff, Nat.reduceAdd, Nat.reduceBEq, reduceCtorEq, rech_g, rechB]
  refine ex_call (f14 ht hw.sort hss u hh hml hpl _ hc hcT) ?_
  rintro _ rfl
  simp only [go_sem, wp_sq, reduceIte, Nat.reduceEqDiff, Nat.reduceAdd, Nat.reduceBEq, reduceCtorEq, rech_g, rechB]
  refine ex_call (f15 ht u hh hml _ hc hcT) ?_
  rintro _ rfl
  simp only [go_sem, wp_sq, reduceIte, Nat.reduceEqDiff, Nat.reduceAdd, Nat.reduceBEq, reduceCtorEq, rech_g, rechB]
  refine ex_call (f13 ht _ (by omega)) ?_
  rintro _ rfl
  simp only [go_sem, wp_sq, reduceIte, Nat.reduceEqDiff, Nat.reduceAdd, Nat.reduceBEq, reduceCtorEq, rech_g, rechB]
  exact ret_one (b := none) rfl rfl
end Go.Proofs.YtfmicbbflpkdgaaGreatDoor.D
