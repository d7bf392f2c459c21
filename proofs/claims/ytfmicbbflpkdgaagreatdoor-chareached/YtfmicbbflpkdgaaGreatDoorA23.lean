/-
  Contracts: part 5: the check of a hierarchy (the reference's).
-/
import Derived.Test.YtfmicbbflpkdgaaGreatDoorA22
set_option linter.unusedVariables false
set_option linter.unusedSimpArgs false
namespace Go.Proofs.YtfmicbbflpkdgaaGreatDoor.D
variable {P : Program}
/-- The sizes that the proofs lean on. -/
structure HOk (h : NHier) : Prop where
  len : h.length ≤ 1048576
  cname : ∀ x, x ∈ h → x.name.length < 4611686018427387904
  flen : ∀ x, x ∈ h → x.fields.length < 4611686018427387904
  fname : ∀ x, x ∈ h → ∀ f, f ∈ x.fields → f.name.length < 4611686018427387904
  mlen : ∀ x, x ∈ h → x.methods.length < 4611686018427387904
  mname : ∀ x, x ∈ h → ∀ s, s ∈ x.methods → s.name.length < 4611686018427387904
  plen : ∀ x, x ∈ h → ∀ s, s ∈ x.methods → s.params.length < 4611686018427387904
theorem f271 (ht : TabOk P gl tab.get) (h : NHier) (c : Str) (s : NSig) (ho : HOk h) : Val P gl 271 [.agg (eHr h), .str c, .agg (eSg s)] fun d => ∃ b, d = .bool b := by
  have hl := ho.len
  have hl2 : h.length < 4611686018427387904 := by omega
  have hcl := (chain_ok (h := h) (c := c)).len
  refine Val.of_wp gl_ok ht (df := d271) rfl (cl_cons (.agg _ (cl_eHr h)) (cl_cons (.str _) (cl_cons (.agg _ (cl_eSg s)) cl_nil))) (fun d hd => by obtain ⟨b, rfl⟩ := hd; exact .bool _) ?_
  simp only [d271, go_sem, wp_sq, reduceIte, Nat.reduceEqDiff, Nat.reduceAdd, Nat.reduceBEq, reduceCtorEq]
  repeat' (first | (refine wp_rdH ?_; simp only [go_sem, wp_sq, reduceIte, Nat.reduceEqDiff, Nat.reduceAdd, Nat.reduceBEq, reduceCtorEq, *]) | (refine ⟨_, _, _, rfl, put_same _ _ _, rfl, rfl, rfl, ?_⟩; try simp only [go_sem, wp_sq, reduceIte, Nat.reduceEqDiff, Nat.reduceAdd, Nat.reduceBEq, reduceCtorEq, *]) | (refine ifP_dec (fun hp => ?_) (fun hp => ?_) <;> try simp only [go_sem, wp_sq, reduceIte, Nat.reduceEqDiff, Nat.reduceAdd, Nat.reduceBEq, reduceCtorEq, *]) | (refine ifP_b (fun hp => ?_) (fun hp => ?_) <;> try simp only [go_sem, wp_sq, reduceIte, Nat.reduceEqDiff, Nat.reduceAdd, Nat.reduceBEq, reduceCtorEq, *]) | (refine ex_call (f293 ht h _ hl) ?_; rintro _ rfl; try simp only [go_sem, wp_sq, reduceIte, Nat.reduceEqDiff, Nat.reduceAdd, Nat.reduceBEq, reduceCtorEq, *]))
  have hdl : ((chainF h c).1.drop 1).length ≤ h.length := by rw [List.length_drop]; omega
  have hmem : ∀ x, x ∈ (chainF h c).1.drop 1 → ∃ k, findN h x = some k := fun x hx => (chain_ok (h := h) (c := c)).2 x (List.mem_of_mem_drop hx)
  generalize (chainF h c).1.drop 1 = ch at hdl hmem
  refine wp_lpE [6, 8, 9, 10, 14, 15, 16, 17, 18, 19, 20, 21, 22, 23, 24, 25, 26, 27, 28, 29, 30, 31, 32, 33, 34, 35, 36, 37, 38, 39, 40, 41, 42, 43, 44, 45, 46, 47, 48, 49, 50, 51, 52, 53, 54, 55, 56, 57, 58, 59, 60, 61, 62, 63, 64, 65, 66, 67] (fun n e _ => Idx ch.length 8 n e) ch.length (Idx.zero rfl) ?_
  rintro n e S ⟨i, hn, hi, hx⟩ hf
  have hs5 : e 5 = .iptr (eSg s) 0 := hf 5 rfl
  have hs3 : e 3 = .iptr (eHr h) 0 := hf 3 rfl
  have hs7 : e 7 = .isl 1 none (ch.map rS) .no := hf 7 rfl
  have hw := wrap_succ (i := i) (by omega)
  by_cases h1 : i < ch.length
  · obtain ⟨k, hk⟩ := hmem _ (List.getElem_mem h1)
    have hz := findZ_some hk
    obtain ⟨hkl, -⟩ := findN_some hk
    have hmk := ho.mlen _ (List.getElem_mem hkl)
    simp only [go_sem, wp_sq, reduceIte, Nat.reduceEqDiff, Nat.reduceAdd, Nat.reduceBEq, reduceCtorEq, *]
    repeat' (first | (refine wp_rdH ?_; simp only [go_sem, wp_sq, reduceIte, Nat.reduceEqDiff, Nat.reduceAdd, Nat.reduceBEq, reduceCtorEq, *]) | (refine ⟨_, _, _, rfl, put_same _ _ _, rfl, rfl, rfl, ?_⟩; try simp only [go_sem, wp_sq, reduceIte, Nat.reduceEqDiff, Nat.reduceAdd, Nat.reduceBEq, reduceCtorEq, *]) | (refine ifP_dec (fun hp => ?_) (fun hp => ?_) <;> try simp only [go_sem, wp_sq, reduceIte, Nat.reduceEqDiff, Nat.reduceAdd, Nat.reduceBEq, reduceCtorEq, *]) | (refine ifP_b (fun hp => ?_) (fun hp => ?_) <;> try simp only [go_sem, wp_sq, reduceIte, Nat.reduceEqDiff, Nat.reduceAdd, Nat.reduceBEq, reduceCtorEq, *]) | (refine ex_call (f170 ht h _ hl2) ?_; rintro _ rfl; try simp only [go_sem, wp_sq, reduceIte, Nat.reduceEqDiff, Nat.reduceAdd, Nat.reduceBEq, reduceCtorEq, *]))
    refine wp_lpE [6, 10, 30, 31, 32, 33, 34, 35, 36, 37, 38, 39, 40, 41, 42, 43, 44, 45, 46, 47, 48, 49, 50, 51, 52, 53, 54, 55, 56, 57, 58, 59, 60, 61, 62, 63, 64, 65, 66, 67] (fun n e _ => Idx h[k].methods.length 10 n e) h[k].methods.length (Idx.zero rfl) ?_
    rintro n2 e2 S2 ⟨j, hn2, hj, hy⟩ hf2
    have ht8 := (show e2 8 = e 8 from hf2 8 rfl).trans hx
    have ht5 := (show e2 5 = e 5 from hf2 5 rfl).trans hs5
    have ht3 := (show e2 3 = e 3 from hf2 3 rfl).trans hs3
    have ht7 := (show e2 7 = e 7 from hf2 7 rfl).trans hs7
    have ht9 : e2 9 = .iptr (eCl h[k]) 0 := hf2 9 rfl
    have hw2 := wrap_succ (i := j) (by omega)
    by_cases h2 : j < h[k].methods.length
    · have hpl := ho.plen _ (List.getElem_mem hkl) _ (List.getElem_mem h2)
      have hix := didx_isl (enc := eSg) (k := 4) (nf := none) (l := h[k].methods) (tl := .no) (kd := .i64) h2
      generalize h[k].methods[j] = q at hix hpl
      obtain ⟨qn, qs, qp, qr⟩ := q
      simp only [go_sem, wp_sq, reduceIte, Nat.reduceEqDiff, Nat.reduceAdd, Nat.reduceBEq, reduceCtorEq, hx, hy, ht8, ht5, ht3, ht7, ht9, hw2, h2]
      refine wp_rdH ?_
      cases qs <;> cases s with | mk sn ss sp sr => cases ss <;> (
        simp only [go_sem, wp_sq, reduceIte, Nat.reduceEqDiff, Nat.reduceAdd, Nat.reduceBEq, reduceCtorEq, hx, hy, ht8, ht5, ht3, ht7, ht9, hw2, hix]
        repeat' (first | (refine ifP_dc (fun hp => ?_) (fun hp => ?_) <;> try simp only [go_sem, wp_sq, reduceIte, Nat.reduceEqDiff, Nat.reduceAdd, Nat.reduceBEq, reduceCtorEq, hx, hy, ht8, ht5, ht3, ht7, ht9, hw2, hix, hp]) | (refine ifP_b (fun hp => ?_) (fun hp => ?_) <;> try simp only [go_sem, wp_sq, reduceIte, Nat.reduceEqDiff, Nat.reduceAdd, Nat.reduceBEq, reduceCtorEq, hx, hy, ht8, ht5, ht3, ht7, ht9, hw2, hix, hp]) | (refine ex_call (f294 ht ⟨qn, _, qp, qr⟩ ⟨sn, _, sp, sr⟩ hpl) ?_; rintro _ ⟨b, rfl⟩; try simp only [go_sem, wp_sq, reduceIte, Nat.reduceEqDiff, Nat.reduceAdd, Nat.reduceBEq, reduceCtorEq, hx, hy, ht8, ht5, ht3, ht7, ht9, hw2, hix]))
        all_goals first | (refine ret_one (b := none) rfl ?_; exact ⟨_, rfl⟩) | exact ⟨_, by omega, rfl, (by repeat' first | exact hf | exact rfl | exact Fr0.refl _ _ | apply Fr0.upd | exact hf2 | refine Fr0.sub hf2 rfl ?_ | refine Fr0.sub hf rfl ?_), j + 1, rfl, by omega, rfl⟩ | trace_state)
    · simp only [go_sem, wp_sq, reduceIte, Nat.reduceEqDiff, Nat.reduceAdd, Nat.reduceBEq, reduceCtorEq, *]
      repeat' (first | (refine wp_rdH ?_; simp only [go_sem, wp_sq, reduceIte, Nat.reduceEqDiff, Nat.reduceAdd, Nat.reduceBEq, reduceCtorEq, *]) | (refine ⟨_, _, _, rfl, put_same _ _ _, rfl, rfl, rfl, ?_⟩; try simp only [go_sem, wp_sq, reduceIte, Nat.reduceEqDiff, Nat.reduceAdd, Nat.reduceBEq, reduceCtorEq, *]) | (refine ifP_dec (fun hp => ?_) (fun hp => ?_) <;> try simp only [go_sem, wp_sq, reduceIte, Nat.reduceEqDiff, Nat.reduceAdd, Nat.reduceBEq, reduceCtorEq, *]) | (refine ifP_b (fun hp => ?_) (fun hp => ?_) <;> try simp only [go_sem, wp_sq, reduceIte, Nat.reduceEqDiff, Nat.reduceAdd, Nat.reduceBEq, reduceCtorEq, *]))
      exact ⟨_, by omega, rfl, (by repeat' first | exact hf | exact rfl | exact Fr0.refl _ _ | apply Fr0.upd | exact hf2 | refine Fr0.sub hf2 rfl ?_ | refine Fr0.sub hf rfl ?_), i + 1, rfl, by omega, rfl⟩
  · simp only [go_sem, wp_sq, reduceIte, Nat.reduceEqDiff, Nat.reduceAdd, Nat.reduceBEq, reduceCtorEq, *]
    repeat' (first | (refine wp_rdH ?_; simp only [go_sem, wp_sq, reduceIte, Nat.reduceEqDiff, Nat.reduceAdd, Nat.reduceBEq, reduceCtorEq, *]) | (refine ⟨_, _, _, rfl, put_same _ _ _, rfl, rfl, rfl, ?_⟩; try simp only [go_sem, wp_sq, reduceIte, Nat.reduceEqDiff, Nat.reduceAdd, Nat.reduceBEq, reduceCtorEq, *]) | (refine ifP_dec (fun hp => ?_) (fun hp => ?_) <;> try simp only [go_sem, wp_sq, reduceIte, Nat.reduceEqDiff, Nat.reduceAdd, Nat.reduceBEq, reduceCtorEq, *]) | (refine ifP_b (fun hp => ?_) (fun hp => ?_) <;> try simp only [go_sem, wp_sq, reduceIte, Nat.reduceEqDiff, Nat.reduceAdd, Nat.reduceBEq, reduceCtorEq, *]))
    (refine ret_one (b := none) rfl ?_; exact ⟨_, rfl⟩)
theorem f235 (ht : TabOk P gl tab.get) (h : NHier) (p : Nat) (hp : p < h.length) (ho : HOk h) : Val P gl 235 [.agg (eHr h), .int .i64 p] fun d => ∃ z, d = .int .i64 z := by
  have hl := ho.len
  have hl2 : h.length < 4611686018427387904 := by omega
  have hfl := ho.flen _ (List.getElem_mem hp)
  have hfn := ho.fname _ (List.getElem_mem hp)
  refine Val.of_wp gl_ok ht (df := d235) rfl (cl_cons (.agg _ (cl_eHr h)) (cl_cons (.int _ _) cl_nil)) (fun d hd => by obtain ⟨b, rfl⟩ := hd; exact .int _ _) ?_
  simp only [d235, go_sem, wp_sq, reduceIte, Nat.reduceEqDiff, Nat.reduceAdd, Nat.reduceBEq, reduceCtorEq, hp]
  refine wp_lpE [4, 6, 7, 8, 9, 10, 17, 18, 19, 20, 21, 22, 23, 24, 25, 26, 27, 28, 29, 30, 31, 32, 33, 34, 35, 36, 37, 38, 39, 40, 41, 42, 43, 44, 45, 46, 47, 48, 49, 50, 51, 52, 53, 54, 55, 56, 57, 58, 59, 60, 61, 62, 63, 64, 65, 66, 67, 68, 69, 70, 71, 72, 73, 74, 75, 76, 77, 78, 79, 80] (fun n e _ => Idx h[p].fields.length 6 n e) h[p].fields.length (Idx.zero rfl) ?_
  rintro n e S ⟨i, hn, hi, hx⟩ hf
  have hs1 : e 1 = .int .i64 p := hf 1 rfl
  have hs2 : e 2 = .iptr (eHr h) 0 := hf 2 rfl
  have hs5 : e 5 = .isl 2 none (h[p].fields.map eF) .no := hf 5 rfl
  have hw := wrap_succ (i := i) (by omega)
  by_cases h1 : i < h[p].fields.length
  · have hnl := hfn _ (List.getElem_mem h1)
    simp only [go_sem, wp_sq, reduceIte, Nat.reduceEqDiff, Nat.reduceAdd, Nat.reduceBEq, reduceCtorEq, hx, hs1, hs2, hs5, hw, h1, hp]
    refine ex_call (f195 ht _ hnl) ?_
    rintro _ ⟨b1, rfl⟩
    simp only [go_sem, wp_sq, reduceIte, Nat.reduceEqDiff, Nat.reduceAdd, Nat.reduceBEq, reduceCtorEq]
    refine ifP_b (fun hb => ?_) (fun hb => ?_)
    rotate_left
    · simp only [go_sem, wp_sq, reduceIte, Nat.reduceEqDiff, Nat.reduceAdd, Nat.reduceBEq, reduceCtorEq]
      (refine ret_one (b := none) rfl ?_; exact ⟨_, rfl⟩)
    simp only [go_sem, wp_sq, reduceIte, Nat.reduceEqDiff, Nat.reduceAdd, Nat.reduceBEq, reduceCtorEq, hx, hs1, hs2, hs5, hw, h1, hp]
    refine wp_rdH ?_
    simp only [go_sem, wp_sq, reduceIte, Nat.reduceEqDiff, Nat.reduceAdd, Nat.reduceBEq, reduceCtorEq, hx, hs1, hs2, hs5, hw, h1, hp]
    refine ex_call (f197 ht h _ hl2) ?_
    rintro _ ⟨b2, rfl⟩
    simp only [go_sem, wp_sq, reduceIte, Nat.reduceEqDiff, Nat.reduceAdd, Nat.reduceBEq, reduceCtorEq]
    refine ifP_b (fun hb2 => ?_) (fun hb2 => ?_)
    rotate_left
    · simp only [go_sem, wp_sq, reduceIte, Nat.reduceEqDiff, Nat.reduceAdd, Nat.reduceBEq, reduceCtorEq]
      (refine ret_one (b := none) rfl ?_; exact ⟨_, rfl⟩)
    simp only [go_sem, wp_sq, reduceIte, Nat.reduceEqDiff, Nat.reduceAdd, Nat.reduceBEq, reduceCtorEq]
    refine wp_lpE [4, 7, 38, 39, 40, 41, 42, 43, 44, 45, 46, 47, 48, 49, 50, 51, 52, 53] (fun n e _ => Idx i 7 n e) i (Idx.zero rfl) ?_
    rintro n2 e2 S2 ⟨j, hn2, hj, hy⟩ hf2
    have ht1 := (show e2 1 = e 1 from hf2 1 rfl).trans hs1
    have ht2 := (show e2 2 = e 2 from hf2 2 rfl).trans hs2
    have ht5 := (show e2 5 = e 5 from hf2 5 rfl).trans hs5
    have ht6 := (show e2 6 = e 6 from hf2 6 rfl).trans hx
    have hw2 := wrap_succ (i := j) (by omega)
    by_cases h2 : j < i
    · have h3 : j < h[p].fields.length := by omega
      simp only [go_sem, wp_sq, reduceIte, Nat.reduceEqDiff, Nat.reduceAdd, Nat.reduceBEq, reduceCtorEq, hy, ht1, ht2, ht5, ht6, hw, hw2, h1, h2, h3, hp]
      refine wp_rdH ?_
      simp only [go_sem, wp_sq, reduceIte, Nat.reduceEqDiff, Nat.reduceAdd, Nat.reduceBEq, reduceCtorEq, hy, ht1, ht2, ht5, ht6, hw, hw2, h1, h2, h3, hp]
      refine ifP_dc (fun hc => ?_) (fun hc => ?_)
      · simp only [go_sem, wp_sq, reduceIte, Nat.reduceEqDiff, Nat.reduceAdd, Nat.reduceBEq, reduceCtorEq]
        (refine ret_one (b := none) rfl ?_; exact ⟨_, rfl⟩)
      · simp only [go_sem, wp_sq, reduceIte, Nat.reduceEqDiff, Nat.reduceAdd, Nat.reduceBEq, reduceCtorEq, hy, ht1, ht2, ht5, ht6, hw, hw2]
        exact ⟨_, by omega, rfl, (by repeat' first | exact hf | exact rfl | exact Fr0.refl _ _ | apply Fr0.upd | exact hf2 | refine Fr0.sub hf2 rfl ?_ | refine Fr0.sub hf rfl ?_), j + 1, rfl, by omega, rfl⟩
    · simp only [go_sem, wp_sq, reduceIte, Nat.reduceEqDiff, Nat.reduceAdd, Nat.reduceBEq, reduceCtorEq, hy, ht1, ht2, ht5, ht6, hw, hw2, h2]
      refine wp_rdH ?_
      simp only [go_sem, wp_sq, reduceIte, Nat.reduceEqDiff, Nat.reduceAdd, Nat.reduceBEq, reduceCtorEq, hy, ht1, ht2, ht5, ht6, hw, hw2, h1, h2, hp]
      refine ex_call (f269 ht h _ _ hl ho.flen) ?_
      rintro _ ⟨a1, a2, a3, rfl⟩
      simp only [go_sem, wp_sq, reduceIte, Nat.reduceEqDiff, Nat.reduceAdd, Nat.reduceBEq, reduceCtorEq, hy, ht1, ht2, ht5, ht6, hw, hw2, h1, h2, hp]
      repeat' (first | (refine ifP_dc (fun hc => ?_) (fun hc => ?_) <;> try simp only [go_sem, wp_sq, reduceIte, Nat.reduceEqDiff, Nat.reduceAdd, Nat.reduceBEq, reduceCtorEq, hy, ht1, ht2, ht5, ht6, hw, hw2, h1, h2, hp, hc]) | (refine ifP_b (fun hc => ?_) (fun hc => ?_) <;> try simp only [go_sem, wp_sq, reduceIte, Nat.reduceEqDiff, Nat.reduceAdd, Nat.reduceBEq, reduceCtorEq, hy, ht1, ht2, ht5, ht6, hw, hw2, h1, h2, hp, hc]))
      all_goals first | (refine ret_one (b := none) rfl ?_; exact ⟨_, rfl⟩) | exact ⟨_, by omega, rfl, (by repeat' first | exact hf | exact rfl | exact Fr0.refl _ _ | apply Fr0.upd | exact hf2 | refine Fr0.sub hf2 rfl ?_ | refine Fr0.sub hf rfl ?_), i + 1, rfl, by omega, rfl⟩
  · simp only [go_sem, wp_sq, reduceIte, Nat.reduceEqDiff, Nat.reduceAdd, Nat.reduceBEq, reduceCtorEq, hx, hs1, hs2, hs5, hw, h1, hp]
    (refine ret_one (b := none) rfl ?_; exact ⟨_, rfl⟩)
end Go.Proofs.YtfmicbbflpkdgaaGreatDoor.D
