/-
  Contracts: part 6: the check of a hierarchy (the reference's).
-/
import Derived.Test.YtfmicbbflpkdgaaGreatDoorA23
set_option linter.unusedVariables false
set_option linter.unusedSimpArgs false
namespace Go.Proofs.YtfmicbbflpkdgaaGreatDoor.D
variable {P : Program}
theorem f236 (ht : TabOk P gl tab.get) (h : NHier) (p : Nat) (hp : p < h.length) (ho : HOk h) : Val P gl 236 [.agg (eHr h), .int .i64 p] fun d => ∃ z, d = .int .i64 z := by
  have hl := ho.len
  have hl2 : h.length < 4611686018427387904 := by omega
  have hfl := ho.mlen _ (List.getElem_mem hp)
  have hfn := ho.mname _ (List.getElem_mem hp)
  have hpn := ho.plen _ (List.getElem_mem hp)
  refine Val.of_wp gl_ok ht (df := d236) rfl (cl_cons (.agg _ (cl_eHr h)) (cl_cons (.int _ _) cl_nil)) (fun d hd => by obtain ⟨b, rfl⟩ := hd; exact .int _ _) ?_
  simp only [d236, go_sem, wp_sq, reduceIte, Nat.reduceEqDiff, Nat.reduceAdd, Nat.reduceBEq, reduceCtorEq, hp]
  refine wp_lpE [4, 6, 7, 8, 15, 16, 17, 18, 19, 20, 21, 22, 23, 24, 25, 26, 27, 28, 29, 30, 31, 32, 33, 34, 35, 36, 37, 38, 39, 40, 41, 42, 43, 44, 45, 46, 47, 48, 49, 50, 51, 52, 53, 54, 55, 56, 57, 58, 59, 60, 61, 62, 63, 64, 65, 66, 67, 68, 69, 70, 71] (fun n e _ => Idx h[p].methods.length 6 n e) h[p].methods.length (Idx.zero rfl) ?_
  rintro n e S ⟨i, hn, hi, hx⟩ hf
  have hs1 : e 1 = .int .i64 p := hf 1 rfl
  have hs2 : e 2 = .iptr (eHr h) 0 := hf 2 rfl
  have hs5 : e 5 = .isl 4 none (h[p].methods.map eSg) .no := hf 5 rfl
  have hw := wrap_succ (i := i) (by omega)
  by_cases h1 : i < h[p].methods.length
  · have hnl := hfn _ (List.getElem_mem h1)
    have hpl := hpn _ (List.getElem_mem h1)
    simp only [go_sem, wp_sq, reduceIte, Nat.reduceEqDiff, Nat.reduceAdd, Nat.reduceBEq, reduceCtorEq, hx, hs1, hs2, hs5, hw, h1, hp]
    refine ex_call (f195 ht _ hnl) ?_
    rintro _ ⟨b1, rfl⟩
    simp only [go_sem, wp_sq, reduceIte, Nat.reduceEqDiff, Nat.reduceAdd, Nat.reduceBEq, reduceCtorEq]
    refine ifP_b (fun hb => ?_) (fun hb => ?_)
    rotate_left
    · simp only [go_sem, wp_sq, reduceIte, Nat.reduceEqDiff, Nat.reduceAdd, Nat.reduceBEq, reduceCtorEq]
      (refine ret_one (b := none) rfl ?_; exact ⟨_, rfl⟩)
    simp only [go_sem, wp_sq, reduceIte, Nat.reduceEqDiff, Nat.reduceAdd, Nat.reduceBEq, reduceCtorEq]
    refine wp_lpE [4, 7, 28, 29, 30, 31, 32, 33, 34, 35, 36, 37, 38, 39, 40, 41, 42, 43] (fun n e _ => Idx i 7 n e) i (Idx.zero rfl) ?_
    rintro n2 e2 S2 ⟨j, hn2, hj, hy⟩ hf2
    have ht1 := (show e2 1 = e 1 from hf2 1 rfl).trans hs1
    have ht2 := (show e2 2 = e 2 from hf2 2 rfl).trans hs2
    have ht5 := (show e2 5 = e 5 from hf2 5 rfl).trans hs5
    have ht6 := (show e2 6 = e 6 from hf2 6 rfl).trans hx
    have hw2 := wrap_succ (i := j) (by omega)
    by_cases h2 : j < i
    · have h3 : j < h[p].methods.length := by omega
      simp only [go_sem, wp_sq, reduceIte, Nat.reduceEqDiff, Nat.reduceAdd, Nat.reduceBEq, reduceCtorEq, hy, ht1, ht2, ht5, ht6, hw, hw2, h1, h2, h3, hp]
      refine wp_rdH ?_
      simp only [go_sem, wp_sq, reduceIte, Nat.reduceEqDiff, Nat.reduceAdd, Nat.reduceBEq, reduceCtorEq, hy, ht1, ht2, ht5, ht6, hw, hw2, h1, h2, h3, hp]
      refine ifP_dc (fun hc => ?_) (fun hc => ?_)
      · simp only [go_sem, wp_sq, reduceIte, Nat.reduceEqDiff, Nat.reduceAdd, Nat.reduceBEq, reduceCtorEq]
        (refine ret_one (b := none) rfl ?_; exact ⟨_, rfl⟩)
      · simp only [go_sem, wp_sq, reduceIte, Nat.reduceEqDiff, Nat.reduceAdd, Nat.reduceBEq, reduceCtorEq, hy, ht1, ht2, ht5, ht6, hw, hw2]
        exact ⟨_, by omega, rfl, (by repeat' first | exact hf | exact rfl | exact Fr0.refl _ _ | apply Fr0.upd | exact hf2 | refine Fr0.sub hf2 rfl ?_ | refine Fr0.sub hf rfl ?_), j + 1, rfl, by omega, rfl⟩
    · simp only [go_sem, wp_sq, reduceIte, Nat.reduceEqDiff, Nat.reduceAdd, Nat.reduceBEq, reduceCtorEq, hy, ht1, ht2, ht5, ht6, hw, hw2, h1, h2]
      refine ifP_dc (fun hc => ?_) (fun hc => ?_)
      · simp only [go_sem, wp_sq, reduceIte, Nat.reduceEqDiff, Nat.reduceAdd, Nat.reduceBEq, reduceCtorEq]
        (refine ret_one (b := none) rfl ?_; exact ⟨_, rfl⟩)
      simp only [go_sem, wp_sq, reduceIte, Nat.reduceEqDiff, Nat.reduceAdd, Nat.reduceBEq, reduceCtorEq]
      refine wp_rdH ?_
      simp only [go_sem, wp_sq, reduceIte, Nat.reduceEqDiff, Nat.reduceAdd, Nat.reduceBEq, reduceCtorEq, hy, ht1, ht2, ht5, ht6, hw, hw2, h1, h2, hp]
      refine ex_call (f270 ht h h[p].methods[i] hl2 hpl) ?_
      rintro _ ⟨z1, rfl⟩
      simp only [go_sem, wp_sq, reduceIte, Nat.reduceEqDiff, Nat.reduceAdd, Nat.reduceBEq, reduceCtorEq, hy, ht1, ht2, ht5, ht6, hw, hw2, h1, h2, hp]
      refine ifP_dc (fun hc => ?_) (fun hc => ?_)
      rotate_left
      · simp only [go_sem, wp_sq, reduceIte, Nat.reduceEqDiff, Nat.reduceAdd, Nat.reduceBEq, reduceCtorEq]
        (refine ret_one (b := none) rfl ?_; exact ⟨_, rfl⟩)
      simp only [go_sem, wp_sq, reduceIte, Nat.reduceEqDiff, Nat.reduceAdd, Nat.reduceBEq, reduceCtorEq]
      refine wp_rdH ?_
      simp only [go_sem, wp_sq, reduceIte, Nat.reduceEqDiff, Nat.reduceAdd, Nat.reduceBEq, reduceCtorEq, hy, ht1, ht2, ht5, ht6, hw, hw2, h1, h2, hp]
      refine ex_call (f271 ht h _ h[p].methods[i] ho) ?_
      rintro _ ⟨b2, rfl⟩
      simp only [go_sem, wp_sq, reduceIte, Nat.reduceEqDiff, Nat.reduceAdd, Nat.reduceBEq, reduceCtorEq, hy, ht1, ht2, ht5, ht6, hw, hw2, h1, h2, hp]
      refine ifP_b (fun hc => ?_) (fun hc => ?_)
      · simp only [go_sem, wp_sq, reduceIte, Nat.reduceEqDiff, Nat.reduceAdd, Nat.reduceBEq, reduceCtorEq]
        (refine ret_one (b := none) rfl ?_; exact ⟨_, rfl⟩)
      · simp only [go_sem, wp_sq, reduceIte, Nat.reduceEqDiff, Nat.reduceAdd, Nat.reduceBEq, reduceCtorEq, hy, ht1, ht2, ht5, ht6, hw, hw2]
        exact ⟨_, by omega, rfl, (by repeat' first | exact hf | exact rfl | exact Fr0.refl _ _ | apply Fr0.upd | exact hf2 | refine Fr0.sub hf2 rfl ?_ | refine Fr0.sub hf rfl ?_), i + 1, rfl, by omega, rfl⟩
  · simp only [go_sem, wp_sq, reduceIte, Nat.reduceEqDiff, Nat.reduceAdd, Nat.reduceBEq, reduceCtorEq, hx, hs1, hs2, hs5, hw, h1, hp]
    (refine ret_one (b := none) rfl ?_; exact ⟨_, rfl⟩)
theorem f194 (ht : TabOk P gl tab.get) (h : NHier) (p : Nat) (hp : p < h.length) (ho : HOk h) : Val P gl 194 [.agg (eHr h), .int .i64 p] fun d => ∃ z, d = .int .i64 z := by
  have hl := ho.len
  have hl2 : h.length < 4611686018427387904 := by omega
  have hcn := ho.cname _ (List.getElem_mem hp)
  refine Val.of_wp gl_ok ht (df := d194) rfl (cl_cons (.agg _ (cl_eHr h)) (cl_cons (.int _ _) cl_nil)) (fun d hd => by obtain ⟨b, rfl⟩ := hd; exact .int _ _) ?_
  simp only [d194, go_sem, wp_sq, reduceIte, Nat.reduceEqDiff, Nat.reduceAdd, Nat.reduceBEq, reduceCtorEq, hp]
  refine ⟨_, _, _, rfl, rfl, rfl, rfl, rfl, ?_⟩
  simp only [go_sem, wp_sq, reduceIte, Nat.reduceEqDiff, Nat.reduceAdd, Nat.reduceBEq, reduceCtorEq]
  refine ex_call (f195 ht _ hcn) ?_
  rintro _ ⟨b1, rfl⟩
  simp only [go_sem, wp_sq, reduceIte, Nat.reduceEqDiff, Nat.reduceAdd, Nat.reduceBEq, reduceCtorEq]
  refine ifP_b (fun hb => ?_) (fun hb => ?_)
  rotate_left
  · simp only [go_sem, wp_sq, reduceIte, Nat.reduceEqDiff, Nat.reduceAdd, Nat.reduceBEq, reduceCtorEq]
    (refine ret_one (b := none) rfl ?_; exact ⟨_, rfl⟩)
  try simp only [go_sem, wp_sq, reduceIte, Nat.reduceEqDiff, Nat.reduceAdd, Nat.reduceBEq, reduceCtorEq]
  repeat' (first | (refine ifP_dc (fun hc => ?_) (fun hc => ?_) <;> try simp only [go_sem, wp_sq, reduceIte, Nat.reduceEqDiff, Nat.reduceAdd, Nat.reduceBEq, reduceCtorEq, hp, hc]) | (refine ifP_b (fun hc => ?_) (fun hc => ?_) <;> try simp only [go_sem, wp_sq, reduceIte, Nat.reduceEqDiff, Nat.reduceAdd, Nat.reduceBEq, reduceCtorEq, hp, hc]) | (refine ex_call (f170 ht h _ hl2) ?_; rintro _ rfl; try simp only [go_sem, wp_sq, reduceIte, Nat.reduceEqDiff, Nat.reduceAdd, Nat.reduceBEq, reduceCtorEq, hp]) | (refine ex_call (f189 ht h _ hl) ?_; rintro _ rfl; try simp only [go_sem, wp_sq, reduceIte, Nat.reduceEqDiff, Nat.reduceAdd, Nat.reduceBEq, reduceCtorEq, hp]) | (refine ex_call (f235 ht h p hp ho) ?_; rintro _ ⟨z, rfl⟩; try simp only [go_sem, wp_sq, reduceIte, Nat.reduceEqDiff, Nat.reduceAdd, Nat.reduceBEq, reduceCtorEq, hp]) | (refine ex_call (f236 ht h p hp ho) ?_; rintro _ ⟨z, rfl⟩; try simp only [go_sem, wp_sq, reduceIte, Nat.reduceEqDiff, Nat.reduceAdd, Nat.reduceBEq, reduceCtorEq, hp]))
  all_goals (refine ret_one (b := none) rfl ?_; exact ⟨_, rfl⟩)
theorem f141 (ht : TabOk P gl tab.get) (h : NHier) (ho : HOk h) : Val P gl 141 [.agg (eHr h)] fun d => ∃ a b, d = .tup [.int .i64 a, .int .i64 b] := by
  have hl := ho.len
  refine Val.of_wp gl_ok ht (df := d141) rfl (cl_cons (.agg _ (cl_eHr h)) cl_nil) (fun d hd => by obtain ⟨a, b, rfl⟩ := hd; exact .tup _ (cl_cons (.int _ _) (cl_cons (.int _ _) cl_nil))) ?_
  simp only [d141, go_sem, wp_sq, reduceIte, Nat.reduceEqDiff, Nat.reduceAdd, Nat.reduceBEq, reduceCtorEq]
  refine ifP_dc (fun hc => ?_) (fun hc => ?_)
  · simp only [go_sem, wp_sq, reduceIte, Nat.reduceEqDiff, Nat.reduceAdd, Nat.reduceBEq, reduceCtorEq]
    exact ret_two rfl rfl ⟨_, _, rfl⟩
  simp only [go_sem, wp_sq, reduceIte, Nat.reduceEqDiff, Nat.reduceAdd, Nat.reduceBEq, reduceCtorEq]
  refine wp_lpE [2, 3, 4, 5, 10, 11, 12, 13, 14, 15, 16, 17, 18, 19, 20, 21, 22, 23] (fun n e _ => Idx h.length 4 n e) h.length (Idx.zero rfl) ?_
  rintro n e S ⟨i, hn, hi, hx⟩ hf
  have hs1 : e 1 = .iptr (eHr h) 0 := hf 1 rfl
  have hw := wrap_succ (i := i) (by omega)
  by_cases h1 : i < h.length
  · simp only [go_sem, wp_sq, reduceIte, Nat.reduceEqDiff, Nat.reduceAdd, Nat.reduceBEq, reduceCtorEq, hx, hs1, hw, h1]
    refine ex_call (f194 ht h i h1 ho) ?_
    rintro _ ⟨z, rfl⟩
    simp only [go_sem, wp_sq, reduceIte, Nat.reduceEqDiff, Nat.reduceAdd, Nat.reduceBEq, reduceCtorEq, hx, hs1, hw, h1]
    refine ifP_dc (fun hc => ?_) (fun hc => ?_)
    · simp only [go_sem, wp_sq, reduceIte, Nat.reduceEqDiff, Nat.reduceAdd, Nat.reduceBEq, reduceCtorEq, hx, hw]
      exact ⟨_, by omega, rfl, (by repeat' first | exact hf | exact rfl | exact Fr0.refl _ _ | apply Fr0.upd | exact hf2 | refine Fr0.sub hf2 rfl ?_ | refine Fr0.sub hf rfl ?_), i + 1, rfl, by omega, rfl⟩
    · simp only [go_sem, wp_sq, reduceIte, Nat.reduceEqDiff, Nat.reduceAdd, Nat.reduceBEq, reduceCtorEq, hx, hw]
      exact ret_two rfl rfl ⟨_, _, rfl⟩
  · simp only [go_sem, wp_sq, reduceIte, Nat.reduceEqDiff, Nat.reduceAdd, Nat.reduceBEq, reduceCtorEq, hx, hs1, hw, h1]
    exact ret_two rfl rfl ⟨_, _, rfl⟩
end Go.Proofs.YtfmicbbflpkdgaaGreatDoor.D
