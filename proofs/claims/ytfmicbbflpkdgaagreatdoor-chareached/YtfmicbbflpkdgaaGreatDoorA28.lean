/-
  Contracts: part 15: a function (the reference's): names, fits.
-/
import Derived.Test.YtfmicbbflpkdgaaGreatDoorA27
set_option linter.unusedVariables false
set_option linter.unusedSimpArgs false
namespace Go.Proofs.YtfmicbbflpkdgaaGreatDoor.D
variable {P : Program}
theorem dslices_1 {c : Nat} {s : Str} {kd : IntKind} : dSliceS (c :: s) (some (.int kd 1)) none = some (.str s) := by
  have e1 : Nat.ble (c :: s).length (c :: s).length = true := by rw [bleN]; simp
  have e2 : Nat.ble 1 (c :: s).length = true := by rw [bleN]; simp
  have e3 : takeN (Nat.sub (c :: s).length 1) (dropN 1 (c :: s)) = s := by
    rw [takeN_eq, dropN_eq]
    simp
  simp only [dSliceS, bound, lenN_eq, e1, e2, e3, dNat]
theorem didx_0 {α : Type} {enc : α → List DV} {k : Nat} {nf : Option Bool} {l : List α} {tl : Tl} {kd : IntKind} (h : 0 < l.length) : dIdx k (.isl k nf (l.map enc) tl) (.int kd 0) = some (.iptr (enc l[0]) 0) := didx_isl (i := 0) h
theorem f143 (ht : TabOk P gl tab.get) (h : NHier) (ho : HOk h) (f : NFunc) (hf0 : FOk f) : Val P gl 143 [.agg (eHr h), .agg (eFn f)] fun d => ∃ z, d = .int .i64 z := by
  have hl := ho.len
  have hl2 : h.length < 4611686018427387904 := by omega
  have hvl := hf0.vlen
  refine Val.of_wp gl_ok ht (df := d143) rfl (cl_cons (.agg _ (cl_eHr h)) (cl_cons (.agg _ (cl_eFn f)) cl_nil)) (fun d hd => by obtain ⟨b, rfl⟩ := hd; exact .int _ _) ?_
  simp only [d143, go_sem, wp_sq, reduceIte, Nat.reduceEqDiff, Nat.reduceAdd, Nat.reduceBEq, reduceCtorEq]
  refine wp_lpE [4, 5, 6, 7, 8, 9, 10, 11, 12, 13, 14, 15, 16, 17, 18, 19, 20, 21, 22, 23, 24, 25, 26, 27, 28, 29, 30, 31, 32, 33, 34, 35, 36, 37, 38, 39, 40, 41, 42, 43, 44, 45, 46, 47, 48, 49, 50, 51, 52, 53, 54, 55, 56, 57, 58, 59, 60, 61, 62, 63, 64, 65, 66, 67, 68, 69, 70, 71, 72, 73, 74] (fun n e _ => Idx f.vars.length 5 n e) f.vars.length (Idx.zero rfl) ?_
  rintro n e S ⟨i, hn, hi, hx⟩ hf
  have hs2 : e 2 = .iptr (eHr h) 0 := hf 2 rfl
  have hs3 : e 3 = .iptr (eFn f) 0 := hf 3 rfl
  have hw := wrap_succ (i := i) (by omega)
  by_cases h1 : i < f.vars.length
  · have hnl := hf0.vname _ (List.getElem_mem h1)
    have hix := didx_isl (enc := eF) (k := 2) (nf := none) (l := f.vars) (tl := .no) (kd := .i64) h1
    generalize f.vars[i] = v at hix hnl
    obtain ⟨nm, ty⟩ := v
    have e0 : decide (i < f.vars.length) = true := decide_eq_true h1
    simp only [go_sem, wp_sq, reduceIte, Nat.reduceEqDiff, Nat.reduceAdd, Nat.reduceBEq, reduceCtorEq, hs2, hs3, hx, hw, hix, e0]
    refine wp_rdH ?_
    simp only [go_sem, reduceIte, Nat.reduceEqDiff, Nat.reduceAdd, Nat.reduceBEq, reduceCtorEq, hs2, hs3, hx, hw, hix]
    have hnm : nm.length < 4611686018427387904 := hnl
    refine wp_sqI (8 :: [28, 29, 30, 31, 32, 33, 34, 35, 36, 37, 38]) (fun e _ => Keep (∃ b, e 8 = .bool b)) ?_ ?_
    · simp only [go_sem, wp_sq, reduceIte, Nat.reduceEqDiff, Nat.reduceAdd, Nat.reduceBEq, reduceCtorEq, hs3, hx]
      repeat' (first | (refine wp_rdH ?_; simp only [go_sem, wp_sq, reduceIte, Nat.reduceEqDiff, Nat.reduceAdd, Nat.reduceBEq, reduceCtorEq, hs3, hx]) | (refine ifP_dc (fun hp => ?_) (fun hp => ?_) <;> try simp only [go_sem, wp_sq, reduceIte, Nat.reduceEqDiff, Nat.reduceAdd, Nat.reduceBEq, reduceCtorEq, hs3, hx, hp]) | (refine ifP_b (fun hp => ?_) (fun hp => ?_) <;> try simp only [go_sem, wp_sq, reduceIte, Nat.reduceEqDiff, Nat.reduceAdd, Nat.reduceBEq, reduceCtorEq, hs3, hx, hp]))
      all_goals exact ⟨by repeat' first | exact hf | exact rfl | exact Fr0.refl _ _ | apply Fr0.upd | exact hf2 | refine Fr0.sub hf2 rfl ?_ | refine Fr0.sub hf rfl ?_, _, rfl⟩
    rintro e1 S1 hf1 ⟨b8, k8⟩
    have k2 : e1 2 = .iptr (eHr h) 0 := (show e1 2 = e 2 from hf1 2 rfl).trans hs2
    have k5 : e1 5 = .int .i64 i := (show e1 5 = e 5 from hf1 5 rfl).trans hx
    have k6 : e1 6 = .str nm := hf1 6 rfl
    have k7 : e1 7 = .str ty := hf1 7 rfl
    have kf := (show ∀ B, Fr0 [4, 5, 6, 7, 8, 9, 10, 11, 12, 13, 14, 15, 16, 17, 18, 19, 20, 21, 22, 23, 24, 25, 26, 27, 28, 29, 30, 31, 32, 33, 34, 35, 36, 37, 38, 39, 40, 41, 42, 43, 44, 45, 46, 47, 48, 49, 50, 51, 52, 53, 54, 55, 56, 57, 58, 59, 60, 61, 62, 63, 64, 65, 66, 67, 68, 69, 70, 71, 72, 73, 74] B e → Fr0 [4, 5, 6, 7, 8, 9, 10, 11, 12, 13, 14, 15, 16, 17, 18, 19, 20, 21, 22, 23, 24, 25, 26, 27, 28, 29, 30, 31, 32, 33, 34, 35, 36, 37, 38, 39, 40, 41, 42, 43, 44, 45, 46, 47, 48, 49, 50, 51, 52, 53, 54, 55, 56, 57, 58, 59, 60, 61, 62, 63, 64, 65, 66, 67, 68, 69, 70, 71, 72, 73, 74] B e1 from fun B hf => by
      refine Fr0.sub hf1 rfl ?_
      repeat' first | exact hf | apply Fr0.upd | exact rfl) _ hf
    clear hf hf1
    refine wp_sqI (4 :: [39, 40, 41, 42, 43, 44, 45, 46, 47, 48, 49, 50, 51, 52, 53, 54, 55, 56, 57, 58, 59, 60, 61, 62, 63, 64, 65, 66]) (fun _ _ => True) ?_ ?_
    · refine wp_sqI [39, 40, 41, 42, 43, 44, 45, 46, 47, 48, 49, 50, 51, 52, 53, 54, 55, 56, 57, 58, 59, 60, 61, 62, 63, 64, 65, 66] (fun e _ => Keep (∃ b, e 66 = .bool b)) ?_ ?_
      · cases nm with
        | nil =>
          simp only [go_sem, wp_sq, reduceIte, Nat.reduceEqDiff, Nat.reduceAdd, Nat.reduceBEq, reduceCtorEq, k6, k8]
          repeat' (first | (refine wp_rdH ?_; simp only [go_sem, wp_sq, reduceIte, Nat.reduceEqDiff, Nat.reduceAdd, Nat.reduceBEq, reduceCtorEq, k6, k8]) | (refine ifP_dc (fun hp => ?_) (fun hp => ?_) <;> try simp only [go_sem, wp_sq, reduceIte, Nat.reduceEqDiff, Nat.reduceAdd, Nat.reduceBEq, reduceCtorEq, k6, k8, hp]) | (refine ex_call (f195 ht _ hnm) ?_; rintro _ (⟨b, rfl⟩); try simp only [go_sem, wp_sq, reduceIte, Nat.reduceEqDiff, Nat.reduceAdd, Nat.reduceBEq, reduceCtorEq, k6, k8]) | (refine ifP_b (fun hp => ?_) (fun hp => ?_) <;> try simp only [go_sem, wp_sq, reduceIte, Nat.reduceEqDiff, Nat.reduceAdd, Nat.reduceBEq, reduceCtorEq, k6, k8, hp]))
          all_goals first | exact ⟨by repeat' first | exact hf | exact rfl | exact Fr0.refl _ _ | apply Fr0.upd | exact hf2 | refine Fr0.sub hf2 rfl ?_ | refine Fr0.sub hf rfl ?_, _, rfl⟩ | (exfalso; simp_all)
        | cons c nm =>
          have hnt : nm.length < 4611686018427387904 := by simp at hnm; omega
          simp only [go_sem, wp_sq, reduceIte, Nat.reduceEqDiff, Nat.reduceAdd, Nat.reduceBEq, reduceCtorEq, k6, k8]
          repeat' (first | (refine wp_rdH ?_; simp only [go_sem, wp_sq, reduceIte, Nat.reduceEqDiff, Nat.reduceAdd, Nat.reduceBEq, reduceCtorEq, k6, k8, dslices_1]) | (refine ifP_dc (fun hp => ?_) (fun hp => ?_) <;> try simp only [go_sem, wp_sq, reduceIte, Nat.reduceEqDiff, Nat.reduceAdd, Nat.reduceBEq, reduceCtorEq, k6, k8, dslices_1, hp]) | (refine ex_call (f195 ht _ hnm) ?_; rintro _ (⟨b, rfl⟩); try simp only [go_sem, wp_sq, reduceIte, Nat.reduceEqDiff, Nat.reduceAdd, Nat.reduceBEq, reduceCtorEq, k6, k8, dslices_1]) | (refine ex_call (f196 ht _ hnt) ?_; rintro _ (⟨b, rfl⟩); try simp only [go_sem, wp_sq, reduceIte, Nat.reduceEqDiff, Nat.reduceAdd, Nat.reduceBEq, reduceCtorEq, k6, k8, dslices_1]) | (refine ifP_b (fun hp => ?_) (fun hp => ?_) <;> try simp only [go_sem, wp_sq, reduceIte, Nat.reduceEqDiff, Nat.reduceAdd, Nat.reduceBEq, reduceCtorEq, k6, k8, dslices_1, hp]))
          all_goals exact ⟨by repeat' first | exact hf | exact rfl | exact Fr0.refl _ _ | apply Fr0.upd | exact hf2 | refine Fr0.sub hf2 rfl ?_ | refine Fr0.sub hf rfl ?_, _, rfl⟩
      rintro e2 S2 hf2 ⟨b66, k66⟩
      simp only [go_sem, wp_sq, reduceIte, Nat.reduceEqDiff, Nat.reduceAdd, Nat.reduceBEq, reduceCtorEq, k66]
      refine ifP_b (fun hp => ?_) (fun hp => ?_)
      · simp only [go_sem, wp_sq, reduceIte, Nat.reduceEqDiff, Nat.reduceAdd, Nat.reduceBEq, reduceCtorEq]
        (refine ret_one (b := none) rfl ?_; exact ⟨_, rfl⟩)
      · simp only [go_sem, wp_sq, reduceIte, Nat.reduceEqDiff, Nat.reduceAdd, Nat.reduceBEq, reduceCtorEq]
        exact Fr0.sub hf2 rfl (Fr0.refl _ _)
    rintro e2 S2 hf2 _
    have m2 : e2 2 = .iptr (eHr h) 0 := (hf2 2 rfl).trans k2
    have m5 : e2 5 = .int .i64 i := (hf2 5 rfl).trans k5
    have m7 : e2 7 = .str ty := (hf2 7 rfl).trans k7
    have hf := Fr0.sub hf2 rfl kf
    clear hf2
    simp only [go_sem, wp_sq, reduceIte, Nat.reduceEqDiff, Nat.reduceAdd, Nat.reduceBEq, reduceCtorEq, m2, m5, m7, hw]
    repeat' (first | (refine wp_rdH ?_; simp only [go_sem, wp_sq, reduceIte, Nat.reduceEqDiff, Nat.reduceAdd, Nat.reduceBEq, reduceCtorEq, m2, m5, m7, hw]) | (refine ifP_dc (fun hp => ?_) (fun hp => ?_) <;> try simp only [go_sem, wp_sq, reduceIte, Nat.reduceEqDiff, Nat.reduceAdd, Nat.reduceBEq, reduceCtorEq, m2, m5, m7, hw, hp]) | (refine ex_call (f197 ht h _ hl2) ?_; rintro _ (⟨b, rfl⟩); try simp only [go_sem, wp_sq, reduceIte, Nat.reduceEqDiff, Nat.reduceAdd, Nat.reduceBEq, reduceCtorEq, m2, m5, m7, hw]) | (refine ifP_b (fun hp => ?_) (fun hp => ?_) <;> try simp only [go_sem, wp_sq, reduceIte, Nat.reduceEqDiff, Nat.reduceAdd, Nat.reduceBEq, reduceCtorEq, m2, m5, m7, hw, hp]))
    all_goals first | (refine ret_one (b := none) rfl ?_; exact ⟨_, rfl⟩) | exact ⟨_, by omega, rfl, (by repeat' first | exact hf | exact rfl | exact Fr0.refl _ _ | apply Fr0.upd | exact hf2 | refine Fr0.sub hf2 rfl ?_ | refine Fr0.sub hf rfl ?_), i + 1, rfl, by omega, rfl⟩
  · simp only [go_sem, wp_sq, reduceIte, Nat.reduceEqDiff, Nat.reduceAdd, Nat.reduceBEq, reduceCtorEq, hs2, hs3, hx, hw, h1]
    (refine ret_one (b := none) rfl ?_; exact ⟨_, rfl⟩)
end Go.Proofs.YtfmicbbflpkdgaaGreatDoor.D
/-
  Contracts: part 16: a function (the reference's): fits, checkFunc.
-/
namespace Go.Proofs.YtfmicbbflpkdgaaGreatDoor.D
variable {P : Program}
theorem f142 (ht : TabOk P gl tab.get) (f : NFunc) (c : Str) (s : NSig) (hvl : f.vars.length ≤ 1048576) (hp0 : s.params.length < 4611686018427387904) : Val P gl 142 [.agg (eFn f), .str c, .agg (eSg s)] fun d => ∃ b, d = .bool b := by
  refine Val.of_wp gl_ok ht (df := d142) rfl (cl_cons (.agg _ (cl_eFn f)) (cl_cons (.str _) (cl_cons (.agg _ (cl_eSg s)) cl_nil))) (fun d hd => by obtain ⟨b, rfl⟩ := hd; exact .bool _) ?_
  obtain ⟨sn, ss, sp, sr⟩ := s
  have hp0 : sp.length < 4611686018427387904 := hp0
  have hwp := wrap_succ (i := sp.length) (by omega)
  simp only [d142, go_sem, reduceIte, Nat.reduceEqDiff, Nat.reduceAdd, Nat.reduceBEq, reduceCtorEq]
  rw [wp_sq]
  simp only [go_sem, reduceIte, Nat.reduceEqDiff, Nat.reduceAdd, Nat.reduceBEq, reduceCtorEq]
  refine wp_sqI ([6] ++ [9, 10, 11, 12, 13, 14, 15, 16, 17, 18, 19, 20, 21, 22, 23, 24, 25, 26, 27, 28, 29, 30, 31, 32, 33]) (fun _ _ => True) ?_ ?_
  · cases hfs : f.static <;> cases ss <;> (
      simp only [go_sem, wp_sq, reduceIte, Nat.reduceEqDiff, Nat.reduceAdd, Nat.reduceBEq, reduceCtorEq, keq0, ngB_t, hfs]
      repeat' (first | (refine wp_rdH ?_; simp only [go_sem, wp_sq, reduceIte, Nat.reduceEqDiff, Nat.reduceAdd, Nat.reduceBEq, reduceCtorEq, keq0, ngB_t, hfs]) | (refine ifP_dc (fun hp => ?_) (fun hp => ?_) <;> try simp only [go_sem, wp_sq, reduceIte, Nat.reduceEqDiff, Nat.reduceAdd, Nat.reduceBEq, reduceCtorEq, keq0, ngB_t, hfs, hp]) | (refine ifP_b (fun hp => ?_) (fun hp => ?_) <;> try simp only [go_sem, wp_sq, reduceIte, Nat.reduceEqDiff, Nat.reduceAdd, Nat.reduceBEq, reduceCtorEq, keq0, ngB_t, hfs, hp]))
      all_goals first | (refine ret_one (b := none) rfl ?_; exact ⟨_, rfl⟩) | repeat' first | exact hf | exact rfl | exact Fr0.refl _ _ | apply Fr0.upd | exact hf2 | refine Fr0.sub hf2 rfl ?_ | refine Fr0.sub hf rfl ?_)
  rintro e1 S1 hf1 _
  have k1 : e1 1 = .str c := hf1 1 rfl
  have k3 : e1 3 = .iptr (eFn f) 0 := hf1 3 rfl
  have k5 : e1 5 = .iptr (eSg ⟨sn, ss, sp, sr⟩) 0 := hf1 5 rfl
  clear hf1
  rw [wp_sq]
  simp only [go_sem, reduceIte, Nat.reduceEqDiff, Nat.reduceAdd, Nat.reduceBEq, reduceCtorEq, k1, k3, k5]
  refine wp_sqI (7 :: [37, 38, 39, 40, 41]) (fun e _ => Keep (e 7 = .int .i64 ((sp.length + (if ss = true then 0 else 1) : Nat) : Int))) ?_ ?_
  · cases ss <;> (
      simp only [go_sem, wp_sq, reduceIte, Nat.reduceEqDiff, Nat.reduceAdd, Nat.reduceBEq, reduceCtorEq, k3, k5, hwp]
      first | exact ⟨by repeat' first | exact hf | exact rfl | exact Fr0.refl _ _ | apply Fr0.upd | exact hf2 | refine Fr0.sub hf2 rfl ?_ | refine Fr0.sub hf rfl ?_, rfl⟩ | exact ⟨by repeat' first | exact hf | exact rfl | exact Fr0.refl _ _ | apply Fr0.upd | exact hf2 | refine Fr0.sub hf2 rfl ?_ | refine Fr0.sub hf rfl ?_, trivial⟩)
  rintro e2 S2 hf2 h7
  unfold Keep at h7
  have m1 : e2 1 = .str c := (show e2 1 = e1 1 from hf2 1 rfl).trans k1
  have m3 : e2 3 = .iptr (eFn f) 0 := (show e2 3 = e1 3 from hf2 3 rfl).trans k3
  have m5 : e2 5 = .iptr (eSg ⟨sn, ss, sp, sr⟩) 0 := (show e2 5 = e1 5 from hf2 5 rfl).trans k5
  clear hf2 k1 k3 k5
  cases ss with
  | true =>
    simp only [if_true, Nat.add_zero] at h7
    by_cases hn : f.vars.length < sp.length
    · simp only [go_sem, wp_sq, reduceIte, Nat.reduceEqDiff, Nat.reduceAdd, Nat.reduceBEq, reduceCtorEq, m1, m3, m5, h7, hn]
      repeat' (first | (refine wp_rdH ?_; simp only [go_sem, wp_sq, reduceIte, Nat.reduceEqDiff, Nat.reduceAdd, Nat.reduceBEq, reduceCtorEq, m1, m3, m5, h7, hn]) | (refine ifP_dc (fun hp => ?_) (fun hp => ?_) <;> try simp only [go_sem, wp_sq, reduceIte, Nat.reduceEqDiff, Nat.reduceAdd, Nat.reduceBEq, reduceCtorEq, m1, m3, m5, h7, hn, hp]) | (refine ifP_b (fun hp => ?_) (fun hp => ?_) <;> try simp only [go_sem, wp_sq, reduceIte, Nat.reduceEqDiff, Nat.reduceAdd, Nat.reduceBEq, reduceCtorEq, m1, m3, m5, h7, hn, hp]))
      all_goals (refine ret_one (b := none) rfl ?_; exact ⟨_, rfl⟩)
    simp only [go_sem, wp_sq, reduceIte, Nat.reduceEqDiff, Nat.reduceAdd, Nat.reduceBEq, reduceCtorEq, m1, m3, m5, h7, hn]
    repeat' (first | (refine wp_rdH ?_; simp only [go_sem, wp_sq, reduceIte, Nat.reduceEqDiff, Nat.reduceAdd, Nat.reduceBEq, reduceCtorEq, m1, m3, m5, h7, hn]) | (refine ifP_dc (fun hp => ?_) (fun hp => ?_) <;> try simp only [go_sem, wp_sq, reduceIte, Nat.reduceEqDiff, Nat.reduceAdd, Nat.reduceBEq, reduceCtorEq, m1, m3, m5, h7, hn, hp]) | (refine ifP_b (fun hp => ?_) (fun hp => ?_) <;> try simp only [go_sem, wp_sq, reduceIte, Nat.reduceEqDiff, Nat.reduceAdd, Nat.reduceBEq, reduceCtorEq, m1, m3, m5, h7, hn, hp]))
    all_goals first | (refine ret_one (b := none) rfl ?_; exact ⟨_, rfl⟩) | skip
    refine wp_lpE [6, 8, 73, 74, 75, 76, 77, 78, 79, 80, 81, 82, 83, 84, 85, 86, 87, 88, 89, 90, 91, 92, 93, 94, 95, 96, 97] (fun n e _ => Idx sp.length 8 n e) sp.length (Idx.zero rfl) ?_
    rintro n e S ⟨i, hn2, hi, hx⟩ hf
    have q3 : e 3 = .iptr (eFn f) 0 := (show e 3 = e2 3 from hf 3 rfl).trans m3
    have q5 : e 5 = .iptr (eSg ⟨sn, true, sp, sr⟩) 0 := (show e 5 = e2 5 from hf 5 rfl).trans m5
    have q7 := (show e 7 = e2 7 from hf 7 rfl).trans h7
    have hw := wrap_succ (i := i) (by omega)
    by_cases h1 : i < sp.length
    · have h2 : i < f.vars.length := by omega
      have hs : IntKind.wrap .i64 ((sp.length : Int) - (sp.length : Int)) = 0 := by rw [Int.sub_self]; rfl
      have ha : IntKind.wrap .i64 (0 + (i : Int)) = (i : Int) := by rw [Int.zero_add]; exact wrap_id (by omega)
      simp only [go_sem, wp_sq, reduceIte, Nat.reduceEqDiff, Nat.reduceAdd, Nat.reduceBEq, reduceCtorEq, q3, q5, q7, hx, hw, h1, hs, ha]
      refine wp_rdH ?_
      simp only [go_sem, wp_sq, reduceIte, Nat.reduceEqDiff, Nat.reduceAdd, Nat.reduceBEq, reduceCtorEq, q3, q5, q7, hx, hw, h1, h2, hs, ha]
      repeat' (first | (refine wp_rdH ?_; simp only [go_sem, wp_sq, reduceIte, Nat.reduceEqDiff, Nat.reduceAdd, Nat.reduceBEq, reduceCtorEq, q3, q5, q7, hx, hw, h1, h2, hs, ha]) | (refine ifP_dc (fun hp => ?_) (fun hp => ?_) <;> try simp only [go_sem, wp_sq, reduceIte, Nat.reduceEqDiff, Nat.reduceAdd, Nat.reduceBEq, reduceCtorEq, q3, q5, q7, hx, hw, h1, h2, hs, ha, hp]) | (refine ifP_b (fun hp => ?_) (fun hp => ?_) <;> try simp only [go_sem, wp_sq, reduceIte, Nat.reduceEqDiff, Nat.reduceAdd, Nat.reduceBEq, reduceCtorEq, q3, q5, q7, hx, hw, h1, h2, hs, ha, hp]))
      all_goals first | (refine ret_one (b := none) rfl ?_; exact ⟨_, rfl⟩) | exact ⟨_, by omega, rfl, (by repeat' first | exact hf | exact rfl | exact Fr0.refl _ _ | apply Fr0.upd | exact hf2 | refine Fr0.sub hf2 rfl ?_ | refine Fr0.sub hf rfl ?_), i + 1, rfl, by omega, rfl⟩
    · simp only [go_sem, wp_sq, reduceIte, Nat.reduceEqDiff, Nat.reduceAdd, Nat.reduceBEq, reduceCtorEq, q3, q5, q7, hx, hw, h1]
      (refine ret_one (b := none) rfl ?_; exact ⟨_, rfl⟩)
  | false =>
    simp only [Bool.false_eq_true, if_false] at h7
    by_cases hn : f.vars.length < sp.length + 1
    · simp only [go_sem, wp_sq, reduceIte, Nat.reduceEqDiff, Nat.reduceAdd, Nat.reduceBEq, reduceCtorEq, m1, m3, m5, h7, hn]
      repeat' (first | (refine wp_rdH ?_; simp only [go_sem, wp_sq, reduceIte, Nat.reduceEqDiff, Nat.reduceAdd, Nat.reduceBEq, reduceCtorEq, m1, m3, m5, h7, hn]) | (refine ifP_dc (fun hp => ?_) (fun hp => ?_) <;> try simp only [go_sem, wp_sq, reduceIte, Nat.reduceEqDiff, Nat.reduceAdd, Nat.reduceBEq, reduceCtorEq, m1, m3, m5, h7, hn, hp]) | (refine ifP_b (fun hp => ?_) (fun hp => ?_) <;> try simp only [go_sem, wp_sq, reduceIte, Nat.reduceEqDiff, Nat.reduceAdd, Nat.reduceBEq, reduceCtorEq, m1, m3, m5, h7, hn, hp]))
      all_goals (refine ret_one (b := none) rfl ?_; exact ⟨_, rfl⟩)
    have hv0 : 0 < f.vars.length := by omega
    have g0 := didx_0 (enc := eF) (k := 2) (nf := none) (l := f.vars) (tl := .no) (kd := .i64) hv0
    simp only [go_sem, wp_sq, reduceIte, Nat.reduceEqDiff, Nat.reduceAdd, Nat.reduceBEq, reduceCtorEq, m1, m3, m5, h7, hn, g0]
    repeat' (first | (refine wp_rdH ?_; simp only [go_sem, wp_sq, reduceIte, Nat.reduceEqDiff, Nat.reduceAdd, Nat.reduceBEq, reduceCtorEq, m1, m3, m5, h7, hn, g0]) | (refine ifP_dc (fun hp => ?_) (fun hp => ?_) <;> try simp only [go_sem, wp_sq, reduceIte, Nat.reduceEqDiff, Nat.reduceAdd, Nat.reduceBEq, reduceCtorEq, m1, m3, m5, h7, hn, g0, hp]) | (refine ifP_b (fun hp => ?_) (fun hp => ?_) <;> try simp only [go_sem, wp_sq, reduceIte, Nat.reduceEqDiff, Nat.reduceAdd, Nat.reduceBEq, reduceCtorEq, m1, m3, m5, h7, hn, g0, hp]))
    all_goals first | (refine ret_one (b := none) rfl ?_; exact ⟨_, rfl⟩) | skip
    refine wp_lpE [6, 8, 73, 74, 75, 76, 77, 78, 79, 80, 81, 82, 83, 84, 85, 86, 87, 88, 89, 90, 91, 92, 93, 94, 95, 96, 97] (fun n e _ => Idx sp.length 8 n e) sp.length (Idx.zero rfl) ?_
    rintro n e S ⟨i, hn2, hi, hx⟩ hf
    have q3 : e 3 = .iptr (eFn f) 0 := (show e 3 = e2 3 from hf 3 rfl).trans m3
    have q5 : e 5 = .iptr (eSg ⟨sn, false, sp, sr⟩) 0 := (show e 5 = e2 5 from hf 5 rfl).trans m5
    have q7 := (show e 7 = e2 7 from hf 7 rfl).trans h7
    have hw := wrap_succ (i := i) (by omega)
    by_cases h1 : i < sp.length
    · have h2 : 1 + i < f.vars.length := by omega
      have hs : IntKind.wrap .i64 (((sp.length + 1 : Nat) : Int) - (sp.length : Int)) = 1 := by rw [show ((sp.length + 1 : Nat) : Int) - (sp.length : Int) = 1 from by omega]; rfl
      have ha : IntKind.wrap .i64 (1 + (i : Int)) = ((1 + i : Nat) : Int) := by rw [wrap_id (by omega)]; omega
      simp only [go_sem, wp_sq, reduceIte, Nat.reduceEqDiff, Nat.reduceAdd, Nat.reduceBEq, reduceCtorEq, q3, q5, q7, hx, hw, h1, hs, ha]
      refine wp_rdH ?_
      simp only [go_sem, wp_sq, reduceIte, Nat.reduceEqDiff, Nat.reduceAdd, Nat.reduceBEq, reduceCtorEq, q3, q5, q7, hx, hw, h1, h2, hs, ha]
      repeat' (first | (refine wp_rdH ?_; simp only [go_sem, wp_sq, reduceIte, Nat.reduceEqDiff, Nat.reduceAdd, Nat.reduceBEq, reduceCtorEq, q3, q5, q7, hx, hw, h1, h2, hs, ha]) | (refine ifP_dc (fun hp => ?_) (fun hp => ?_) <;> try simp only [go_sem, wp_sq, reduceIte, Nat.reduceEqDiff, Nat.reduceAdd, Nat.reduceBEq, reduceCtorEq, q3, q5, q7, hx, hw, h1, h2, hs, ha, hp]) | (refine ifP_b (fun hp => ?_) (fun hp => ?_) <;> try simp only [go_sem, wp_sq, reduceIte, Nat.reduceEqDiff, Nat.reduceAdd, Nat.reduceBEq, reduceCtorEq, q3, q5, q7, hx, hw, h1, h2, hs, ha, hp]))
      all_goals first | (refine ret_one (b := none) rfl ?_; exact ⟨_, rfl⟩) | exact ⟨_, by omega, rfl, (by repeat' first | exact hf | exact rfl | exact Fr0.refl _ _ | apply Fr0.upd | exact hf2 | refine Fr0.sub hf2 rfl ?_ | refine Fr0.sub hf rfl ?_), i + 1, rfl, by omega, rfl⟩
    · simp only [go_sem, wp_sq, reduceIte, Nat.reduceEqDiff, Nat.reduceAdd, Nat.reduceBEq, reduceCtorEq, q3, q5, q7, hx, hw, h1]
      (refine ret_one (b := none) rfl ?_; exact ⟨_, rfl⟩)
end Go.Proofs.YtfmicbbflpkdgaaGreatDoor.D
/-
  Contracts: part 17: a function (the reference's): checkFunc, numbered.
-/
namespace Go.Proofs.YtfmicbbflpkdgaaGreatDoor.D
variable {P : Program}
theorem f84 (ht : TabOk P gl tab.get) (h : NHier) (ho : HOk h) (f : NFunc) (hf0 : FOk f) (c : Str) (s : NSig) (hp0 : s.params.length < 4611686018427387904) : Val P gl 84 [.agg (eHr h), .agg (eFn f), .str c, .agg (eSg s)] fun d => ∃ a b, d = .tup [.int .i64 a, .int .i64 b] := by
  have hvl := hf0.vlen
  have hcl := hf0.clen
  refine Val.of_wp gl_ok ht (df := d84) rfl (cl_cons (.agg _ (cl_eHr h)) (cl_cons (.agg _ (cl_eFn f)) (cl_cons (.str _) (cl_cons (.agg _ (cl_eSg s)) cl_nil)))) (fun d hd => by obtain ⟨a, b, rfl⟩ := hd; exact .tup _ (cl_cons (.int _ _) (cl_cons (.int _ _) cl_nil))) ?_
  have k : True := trivial
  by_cases h1 : f.vars.length ≤ 256
  · have e1 : decide ((256 : Int) < (f.vars.length : Int)) = false := decide_eq_false (by omega)
    simp only [d84, go_sem, wp_sq, reduceIte, Nat.reduceEqDiff, Nat.reduceAdd, Nat.reduceBEq, reduceCtorEq]
    refine ex_call (f142 ht f c s hvl hp0) ?_
    rintro _ ⟨b, rfl⟩
    simp only [go_sem, wp_sq, reduceIte, Nat.reduceEqDiff, Nat.reduceAdd, Nat.reduceBEq, reduceCtorEq]
    refine ifP_b (fun hb => ?_) (fun hb => ?_)
    rotate_left
    · simp only [go_sem, wp_sq, reduceIte, Nat.reduceEqDiff, Nat.reduceAdd, Nat.reduceBEq, reduceCtorEq]
      exact ret_two rfl rfl ⟨_, _, rfl⟩
    simp only [go_sem, wp_sq, reduceIte, Nat.reduceEqDiff, Nat.reduceAdd, Nat.reduceBEq, reduceCtorEq, e1]
    refine ifP_dc (fun hb => ?_) (fun hb => ?_)
    · simp only [go_sem, wp_sq, reduceIte, Nat.reduceEqDiff, Nat.reduceAdd, Nat.reduceBEq, reduceCtorEq]
      exact ret_two rfl rfl ⟨_, _, rfl⟩
    simp only [go_sem, wp_sq, reduceIte, Nat.reduceEqDiff, Nat.reduceAdd, Nat.reduceBEq, reduceCtorEq]
    refine ex_call (f143 ht h ho f hf0) ?_
    rintro _ ⟨z, rfl⟩
    simp only [go_sem, wp_sq, reduceIte, Nat.reduceEqDiff, Nat.reduceAdd, Nat.reduceBEq, reduceCtorEq]
    repeat' (first | (refine wp_rdH ?_; simp only [go_sem, wp_sq, reduceIte, Nat.reduceEqDiff, Nat.reduceAdd, Nat.reduceBEq, reduceCtorEq]) | (refine ifP_dc (fun hp => ?_) (fun hp => ?_) <;> try simp only [go_sem, wp_sq, reduceIte, Nat.reduceEqDiff, Nat.reduceAdd, Nat.reduceBEq, reduceCtorEq, hp]) | (refine ifP_b (fun hp => ?_) (fun hp => ?_) <;> try simp only [go_sem, wp_sq, reduceIte, Nat.reduceEqDiff, Nat.reduceAdd, Nat.reduceBEq, reduceCtorEq, hp]))
    all_goals first | exact ret_two rfl rfl ⟨_, _, rfl⟩ | skip
    refine wp_lpE [8, 9, 10, 11, 37, 38, 39, 40, 41, 42, 43, 44, 45, 46, 47, 48, 49, 50, 51] (fun n e _ => Idx f.code.length 11 n e) f.code.length (Idx.zero rfl) ?_
    rintro n e S ⟨i, hn, hi, hx⟩ hf
    have hs4 : e 4 = .iptr (eHr h) 0 := hf 4 rfl
    have hs5 : e 5 = .iptr (eFn f) 0 := hf 5 rfl
    have hw := wrap_succ (i := i) (by omega)
    by_cases h2 : i < f.code.length
    · simp only [go_sem, wp_sq, reduceIte, Nat.reduceEqDiff, Nat.reduceAdd, Nat.reduceBEq, reduceCtorEq, hs4, hs5, hx, hw, h2]
      refine ex_call (f144 ht h ho f hf0 i h2) ?_
      rintro _ ⟨z2, rfl⟩
      simp only [go_sem, wp_sq, reduceIte, Nat.reduceEqDiff, Nat.reduceAdd, Nat.reduceBEq, reduceCtorEq, hs4, hs5, hx, hw]
      repeat' (first | (refine wp_rdH ?_; simp only [go_sem, wp_sq, reduceIte, Nat.reduceEqDiff, Nat.reduceAdd, Nat.reduceBEq, reduceCtorEq, hs4, hs5, hx, hw]) | (refine ifP_dc (fun hp => ?_) (fun hp => ?_) <;> try simp only [go_sem, wp_sq, reduceIte, Nat.reduceEqDiff, Nat.reduceAdd, Nat.reduceBEq, reduceCtorEq, hs4, hs5, hx, hw, hp]) | (refine ifP_b (fun hp => ?_) (fun hp => ?_) <;> try simp only [go_sem, wp_sq, reduceIte, Nat.reduceEqDiff, Nat.reduceAdd, Nat.reduceBEq, reduceCtorEq, hs4, hs5, hx, hw, hp]))
      all_goals first | exact ret_two rfl rfl ⟨_, _, rfl⟩ | exact ⟨_, by omega, rfl, (by repeat' first | exact hf | exact rfl | exact Fr0.refl _ _ | apply Fr0.upd | exact hf2 | refine Fr0.sub hf2 rfl ?_ | refine Fr0.sub hf rfl ?_), i + 1, rfl, by omega, rfl⟩
    · simp only [go_sem, wp_sq, reduceIte, Nat.reduceEqDiff, Nat.reduceAdd, Nat.reduceBEq, reduceCtorEq, hs4, hs5, hx, hw, h2]
      exact ret_two rfl rfl ⟨_, _, rfl⟩
  · have e1 : decide ((256 : Int) < (f.vars.length : Int)) = true := decide_eq_true (by omega)
    simp only [d84, go_sem, wp_sq, reduceIte, Nat.reduceEqDiff, Nat.reduceAdd, Nat.reduceBEq, reduceCtorEq]
    refine ex_call (f142 ht f c s hvl hp0) ?_
    rintro _ ⟨b, rfl⟩
    simp only [go_sem, wp_sq, reduceIte, Nat.reduceEqDiff, Nat.reduceAdd, Nat.reduceBEq, reduceCtorEq]
    refine ifP_b (fun hb => ?_) (fun hb => ?_)
    · simp only [go_sem, wp_sq, reduceIte, Nat.reduceEqDiff, Nat.reduceAdd, Nat.reduceBEq, reduceCtorEq, e1]
      exact ret_two rfl rfl ⟨_, _, rfl⟩
    · simp only [go_sem, wp_sq, reduceIte, Nat.reduceEqDiff, Nat.reduceAdd, Nat.reduceBEq, reduceCtorEq]
      exact ret_two rfl rfl ⟨_, _, rfl⟩
theorem f83' (ht : TabOk P gl tab.get) (h : NHier) (ho : HOk h) (n : Nat) (hn0 : n < 4611686018427387904) : Val P gl 83 [.agg (eHr h), .int .i64 n] fun d => ∃ o : Option (Str × NSig), d = lookV o ∧ ∀ p, o = some p → p.2.params.length < 4611686018427387904 := by
  have hl := ho.len
  refine Val.of_wp gl_ok ht (df := d83) rfl (cl_cons (.agg _ (cl_eHr h)) (cl_cons (.int _ _) cl_nil)) (fun d hd => by obtain ⟨o, rfl, _⟩ := hd; exact cl_lookV _) ?_
  simp only [d83, go_sem, wp_sq, reduceIte, Nat.reduceEqDiff, Nat.reduceAdd, Nat.reduceBEq, reduceCtorEq]
  refine wp_lpE [1, 4, 6, 7, 8, 9, 10, 11, 12, 13, 14, 15, 16, 17, 18, 19, 20, 21, 22, 23, 24, 25, 26, 27, 28, 29, 30, 31, 32, 33, 34, 35, 36, 37, 38, 39] (fun k e S => ∃ i m : Nat, k = h.length - i ∧ i ≤ h.length ∧ e 7 = .int .i64 i ∧ e 1 = .int .i64 m ∧ m < 4611686018427387904 ∧ S.h 0 = some (.cells 4 [zSg])) h.length ?_ ?_
  · exact ⟨0, n, rfl, Nat.zero_le _, rfl, rfl, hn0, rfl⟩
  rintro k e S ⟨i, m, hk, hi, hx, hm, hml, hS⟩ hf
  have hs2 : e 2 = .iptr (eHr h) 0 := hf 2 rfl
  have hs5 : e 5 = .ptr 0 0 0 := hf 5 rfl
  have hw := wrap_succ (i := i) (by omega)
  by_cases h1 : i < h.length
  · have hmm := ho.mlen _ (List.getElem_mem h1)
    by_cases h2 : m < h[i].methods.length
    · have hpl := ho.plen _ (List.getElem_mem h1) _ (List.getElem_mem h2)
      simp only [go_sem, wp_sq, reduceIte, Nat.reduceEqDiff, Nat.reduceAdd, Nat.reduceBEq, reduceCtorEq, hs2, hs5, hx, hm, hw, h1, h2]
      refine wp_rdH ?_
      simp only [go_sem, wp_sq, reduceIte, Nat.reduceEqDiff, Nat.reduceAdd, Nat.reduceBEq, reduceCtorEq, hs2, hs5, hx, hm, hw, h1, h2, hS, zSg, setN, putN, allSc, bleN, Nat.le_refl]
      refine ret_cell (q := 0) (k := 4) (by simp only [upd_at, reduceIte, Nat.reduceEqDiff, Nat.add_eq, Nat.reduceAdd, Nat.add_zero, Nat.succ_eq_add_one, Nat.reduceBEq, Nat.beq_eq_true_eq, Exits.set_at, envA_at, nth, List.length_cons, List.length_nil, decide_true, Nat.zero_add, hs5]) rfl rfl rfl rfl ?_
      exact ⟨some (h[i].name, h[i].methods[m]), rfl, fun p hp => by cases hp; exact hpl⟩
    · have hsub : IntKind.wrap .i64 ((m : Int) - (h[i].methods.length : Int)) = ((m - h[i].methods.length : Nat) : Int) := by rw [wrap_id (by omega)]; omega
      simp only [go_sem, wp_sq, reduceIte, Nat.reduceEqDiff, Nat.reduceAdd, Nat.reduceBEq, reduceCtorEq, hs2, hs5, hx, hm, hw, h1, h2, hsub]
      exact ⟨_, by omega, rfl, (by repeat' first | exact hf | exact rfl | exact Fr0.refl _ _ | apply Fr0.upd | exact hf2 | refine Fr0.sub hf2 rfl ?_ | refine Fr0.sub hf rfl ?_), i + 1, m - h[i].methods.length, rfl, by omega, rfl, rfl, by omega, hS⟩
  · simp only [go_sem, wp_sq, reduceIte, Nat.reduceEqDiff, Nat.reduceAdd, Nat.reduceBEq, reduceCtorEq, hs2, hs5, hx, hm, hw, h1, dBuild, hS, zSg, setN, putN, allSc, bleN, Nat.le_refl]
    refine ret_cell (q := 0) (k := 4) (by simp only [upd_at, reduceIte, Nat.reduceEqDiff, Nat.add_eq, Nat.reduceAdd, Nat.add_zero, Nat.succ_eq_add_one, Nat.reduceBEq, Nat.beq_eq_true_eq, Exits.set_at, envA_at, nth, List.length_cons, List.length_nil, decide_true, Nat.zero_add, hs5]) rfl rfl rfl rfl ?_
    exact ⟨none, rfl, fun p hp => by cases hp⟩
theorem f83 (ht : TabOk P gl tab.get) (h : NHier) (ho : HOk h) (n : Nat) (hn0 : n < 4611686018427387904) : Val P gl 83 [.agg (eHr h), .int .i64 n] fun d => ∃ c s b, d = .tup [.str c, .agg (eSg s), .bool b] ∧ s.params.length < 4611686018427387904 := by
  refine (f83' ht h ho n hn0).weak 4 fun d hd => ?_
  obtain ⟨o, rfl, hp⟩ := hd
  cases o with
  | none => exact ⟨[], ⟨[], false, [], []⟩, false, rfl, by decide⟩
  | some p =>
    refine ⟨p.1, p.2, true, ?_, hp p rfl⟩
    have e1 : (p.2.params.map rS).map (fun r => r.map (weakN 1)) = p.2.params.map rS := by
      rw [List.map_map]
      apply List.map_congr_left
      intro a _
      rfl
    show DV.tup [.str p.1, .agg [.str p.2.name, .bool p.2.static, .isl 1 none ((p.2.params.map rS).map fun r => r.map (weakN 1)) .no, .str p.2.result], .bool true] = _
    rw [e1]
    rfl
end Go.Proofs.YtfmicbbflpkdgaaGreatDoor.D
