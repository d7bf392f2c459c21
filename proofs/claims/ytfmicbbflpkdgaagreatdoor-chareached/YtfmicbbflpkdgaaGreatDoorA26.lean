/-
  Contracts: part 11: an instruction (the reference's): leaves, declares.
-/
import Derived.Test.YtfmicbbflpkdgaaGreatDoorA25
set_option linter.unusedVariables false
set_option linter.unusedSimpArgs false
namespace Go.Proofs.YtfmicbbflpkdgaaGreatDoor.D
variable {P : Program}
theorem f201 (ht : TabOk P gl tab.get) (f : NFunc) (hf0 : FOk f) (i : Nat) (hi : i < f.code.length) (hr : RangeOk f f.code[i]) : Val P gl 201 [.agg (eFn f), .int .i64 i] fun d => ∃ b, d = .bool b := by
  have hcl := hf0.clen
  have hw := wrap_succ (i := i) (by omega)
  have hgo := hr.goto
  refine Val.of_wp gl_ok ht (df := d201) rfl (cl_cons (.agg _ (cl_eFn f)) (cl_cons (.int _ _) cl_nil)) (fun d hd => by obtain ⟨b, rfl⟩ := hd; exact .bool _) ?_
  simp only [d201, go_sem, wp_sq, reduceIte, Nat.reduceEqDiff, Nat.reduceAdd, Nat.reduceBEq, reduceCtorEq, hi]
  refine ⟨_, _, _, rfl, rfl, rfl, rfl, rfl, ?_⟩
  generalize hxx : f.code[i] = x at *
  simp only [go_sem, reduceIte, Nat.reduceEqDiff, Nat.reduceAdd, Nat.reduceBEq, reduceCtorEq]
  refine wp_sqI [6, 7, 8, 9, 10, 11, 12, 13, 14, 15, 16, 17, 18, 19, 20, 21, 22, 23, 24] (fun e _ => ∃ b, e 6 = .bool b) ?_ ?_
  · simp only [go_sem, wp_sq, reduceIte, Nat.reduceEqDiff, Nat.reduceAdd, Nat.reduceBEq, reduceCtorEq]
    repeat' (first | (refine wp_rdH ?_; simp only [go_sem, wp_sq, reduceIte, Nat.reduceEqDiff, Nat.reduceAdd, Nat.reduceBEq, reduceCtorEq]) | (refine ifP_dc (fun hp => ?_) (fun hp => ?_) <;> try simp only [go_sem, wp_sq, reduceIte, Nat.reduceEqDiff, Nat.reduceAdd, Nat.reduceBEq, reduceCtorEq, hp]) | (refine ifP_b (fun hp => ?_) (fun hp => ?_) <;> try simp only [go_sem, wp_sq, reduceIte, Nat.reduceEqDiff, Nat.reduceAdd, Nat.reduceBEq, reduceCtorEq, hp]))
    all_goals exact ⟨by repeat' first | exact hf | exact rfl | exact Fr0.refl _ _ | apply Fr0.upd | exact hf2 | refine Fr0.sub hf2 rfl ?_ | refine Fr0.sub hf rfl ?_, _, rfl⟩
  rintro e1 S1 hf1 ⟨b6, h6⟩
  have k1 : e1 1 = .int .i64 i := hf1 1 rfl
  have k2 : e1 2 = .iptr (eFn f) 0 := hf1 2 rfl
  have k5 : e1 5 = .iptr (eIn x) 0 := hf1 5 rfl
  clear hf1
  have hgl : hasZ x.op 103 = true → x.goto.toNat < f.code.length := fun h => by have := hgo h; omega
  have hg0 : hasZ x.op 103 = true → 0 ≤ x.goto := fun h => (hgo h).1
  cases hg : hasZ x.op 103 with
  | true =>
    have g1 := hgl hg
    have g2 := didx_int (enc := eIn) (k := 10) (nf := none) (l := f.code) (tl := .no) (kd := .i64) (hg0 hg) g1
    by_cases h1 : i + 1 = f.code.length
    · simp only [go_sem, wp_sq, reduceIte, Nat.reduceEqDiff, Nat.reduceAdd, Nat.reduceBEq, reduceCtorEq, k1, k2, k5, h6, hw, h1, g2]
      repeat' (first | (refine wp_rdH ?_; simp only [go_sem, wp_sq, reduceIte, Nat.reduceEqDiff, Nat.reduceAdd, Nat.reduceBEq, reduceCtorEq, k1, k2, k5, h6, hw, h1, g2, hg]) | (refine ifP_dc (fun hp => ?_) (fun hp => ?_) <;> try simp only [go_sem, wp_sq, reduceIte, Nat.reduceEqDiff, Nat.reduceAdd, Nat.reduceBEq, reduceCtorEq, k1, k2, k5, h6, hw, h1, g2, hg, hp]) | (refine ex_call (f240 ht _ _) ?_; rintro _ rfl; try simp only [go_sem, wp_sq, reduceIte, Nat.reduceEqDiff, Nat.reduceAdd, Nat.reduceBEq, reduceCtorEq, k1, k2, k5, h6, hw, h1, g2, hg]) | (refine ifP_b (fun hp => ?_) (fun hp => ?_) <;> try simp only [go_sem, wp_sq, reduceIte, Nat.reduceEqDiff, Nat.reduceAdd, Nat.reduceBEq, reduceCtorEq, k1, k2, k5, h6, hw, h1, g2, hg, hp]))
      all_goals (refine ret_one (b := none) rfl ?_; exact ⟨_, rfl⟩)
    · have h2 : i + 1 < f.code.length := by omega
      simp only [go_sem, wp_sq, reduceIte, Nat.reduceEqDiff, Nat.reduceAdd, Nat.reduceBEq, reduceCtorEq, k1, k2, k5, h6, hw, h1, h2, g2]
      repeat' (first | (refine wp_rdH ?_; simp only [go_sem, wp_sq, reduceIte, Nat.reduceEqDiff, Nat.reduceAdd, Nat.reduceBEq, reduceCtorEq, k1, k2, k5, h6, hw, h1, h2, g2, hg]) | (refine ifP_dc (fun hp => ?_) (fun hp => ?_) <;> try simp only [go_sem, wp_sq, reduceIte, Nat.reduceEqDiff, Nat.reduceAdd, Nat.reduceBEq, reduceCtorEq, k1, k2, k5, h6, hw, h1, h2, g2, hg, hp]) | (refine ex_call (f240 ht _ _) ?_; rintro _ rfl; try simp only [go_sem, wp_sq, reduceIte, Nat.reduceEqDiff, Nat.reduceAdd, Nat.reduceBEq, reduceCtorEq, k1, k2, k5, h6, hw, h1, h2, g2, hg]) | (refine ifP_b (fun hp => ?_) (fun hp => ?_) <;> try simp only [go_sem, wp_sq, reduceIte, Nat.reduceEqDiff, Nat.reduceAdd, Nat.reduceBEq, reduceCtorEq, k1, k2, k5, h6, hw, h1, h2, g2, hg, hp]))
      all_goals (refine ret_one (b := none) rfl ?_; exact ⟨_, rfl⟩)
  | false =>
    by_cases h1 : i + 1 = f.code.length
    · simp only [go_sem, wp_sq, reduceIte, Nat.reduceEqDiff, Nat.reduceAdd, Nat.reduceBEq, reduceCtorEq, k1, k2, k5, h6, hw, h1]
      repeat' (first | (refine wp_rdH ?_; simp only [go_sem, wp_sq, reduceIte, Nat.reduceEqDiff, Nat.reduceAdd, Nat.reduceBEq, reduceCtorEq, k1, k2, k5, h6, hw, h1, hg]) | (refine ifP_dc (fun hp => ?_) (fun hp => ?_) <;> try simp only [go_sem, wp_sq, reduceIte, Nat.reduceEqDiff, Nat.reduceAdd, Nat.reduceBEq, reduceCtorEq, k1, k2, k5, h6, hw, h1, hg, hp]) | (refine ex_call (f240 ht _ _) ?_; rintro _ rfl; try simp only [go_sem, wp_sq, reduceIte, Nat.reduceEqDiff, Nat.reduceAdd, Nat.reduceBEq, reduceCtorEq, k1, k2, k5, h6, hw, h1, hg]) | (refine ifP_b (fun hp => ?_) (fun hp => ?_) <;> try simp only [go_sem, wp_sq, reduceIte, Nat.reduceEqDiff, Nat.reduceAdd, Nat.reduceBEq, reduceCtorEq, k1, k2, k5, h6, hw, h1, hg, hp]))
      all_goals (refine ret_one (b := none) rfl ?_; exact ⟨_, rfl⟩)
    · have h2 : i + 1 < f.code.length := by omega
      simp only [go_sem, wp_sq, reduceIte, Nat.reduceEqDiff, Nat.reduceAdd, Nat.reduceBEq, reduceCtorEq, k1, k2, k5, h6, hw, h1, h2]
      repeat' (first | (refine wp_rdH ?_; simp only [go_sem, wp_sq, reduceIte, Nat.reduceEqDiff, Nat.reduceAdd, Nat.reduceBEq, reduceCtorEq, k1, k2, k5, h6, hw, h1, h2, hg]) | (refine ifP_dc (fun hp => ?_) (fun hp => ?_) <;> try simp only [go_sem, wp_sq, reduceIte, Nat.reduceEqDiff, Nat.reduceAdd, Nat.reduceBEq, reduceCtorEq, k1, k2, k5, h6, hw, h1, h2, hg, hp]) | (refine ex_call (f240 ht _ _) ?_; rintro _ rfl; try simp only [go_sem, wp_sq, reduceIte, Nat.reduceEqDiff, Nat.reduceAdd, Nat.reduceBEq, reduceCtorEq, k1, k2, k5, h6, hw, h1, h2, hg]) | (refine ifP_b (fun hp => ?_) (fun hp => ?_) <;> try simp only [go_sem, wp_sq, reduceIte, Nat.reduceEqDiff, Nat.reduceAdd, Nat.reduceBEq, reduceCtorEq, k1, k2, k5, h6, hw, h1, h2, hg, hp]))
      all_goals (refine ret_one (b := none) rfl ?_; exact ⟨_, rfl⟩)
theorem use_a {x : NInstr} (h : hasZ x.op 97 = true) (h2 : x.op ≠ 13 ∨ x.a ≠ -1) : x.a ∈ usesN x := by
  unfold usesN
  rw [if_pos ⟨h, h2⟩]
  simp
theorem use_b {x : NInstr} (h : hasZ x.op 98 = true) : x.b ∈ usesN x := by
  unfold usesN
  rw [if_pos h]
  simp
theorem f244 (ht : TabOk P gl tab.get) (h : NHier) (ho : HOk h) (f : NFunc) (x : NInstr) (hr : RangeOk f x) (hop : x.op = 7 ∨ x.op = 8) : Val P gl 244 [.agg (eHr h), .agg (eFn f), .agg (eIn x)] fun d => ∃ z, d = .int .i64 z := by
  have hl := ho.len
  have hl2 : h.length < 4611686018427387904 := by omega
  have ha : hasZ x.op 97 = true := by rcases hop with h | h <;> rw [h] <;> rfl
  have hau := hr.uses _ (use_a ha (.inl (by rcases hop with h | h <;> rw [h] <;> decide)))
  have gal : x.a.toNat < f.vars.length := by omega
  have ga := didx_int (enc := eF) (k := 2) (nf := none) (l := f.vars) (tl := .no) (kd := .i64) hau.1 gal
  refine Val.of_wp gl_ok ht (df := d244) rfl (cl_cons (.agg _ (cl_eHr h)) (cl_cons (.agg _ (cl_eFn f)) (cl_cons (.agg _ (cl_eIn x)) cl_nil))) (fun d hd => by obtain ⟨b, rfl⟩ := hd; exact .int _ _) ?_
  simp only [d244, go_sem, wp_sq, reduceIte, Nat.reduceEqDiff, Nat.reduceAdd, Nat.reduceBEq, reduceCtorEq, ga]
  refine ex_call (f242 ht h _ hl2) ?_
  rintro _ rfl
  simp only [go_sem, wp_sq, reduceIte, Nat.reduceEqDiff, Nat.reduceAdd, Nat.reduceBEq, reduceCtorEq]
  refine ifP_dc (fun hp => ?_) (fun hp => ?_)
  rotate_left
  · simp only [go_sem, wp_sq, reduceIte, Nat.reduceEqDiff, Nat.reduceAdd, Nat.reduceBEq, reduceCtorEq]
    (refine ret_one (b := none) rfl ?_; exact ⟨_, rfl⟩)
  simp only [go_sem, wp_sq, reduceIte, Nat.reduceEqDiff, Nat.reduceAdd, Nat.reduceBEq, reduceCtorEq]
  refine ex_call (f269 ht h _ _ hl ho.flen) ?_
  rintro _ ⟨a1, a2, a3, rfl⟩
  simp only [go_sem, wp_sq, reduceIte, Nat.reduceEqDiff, Nat.reduceAdd, Nat.reduceBEq, reduceCtorEq]
  rcases hop with h7 | h8
  · have hd : 0 ≤ x.dst ∧ x.dst < f.vars.length := by
      rcases hr.dst (by rw [h7]; rfl) with h | h
      · exact h
      · rcases h.1 with h | h <;> rw [h7] at h <;> exact absurd h (by decide)
    have gdl : x.dst.toNat < f.vars.length := by omega
    have gd := didx_int (enc := eF) (k := 2) (nf := none) (l := f.vars) (tl := .no) (kd := .i64) hd.1 gdl
    have e7 : decide (x.op = 7) = true := decide_eq_true h7
    have e8 : decide (x.op = 8) = false := decide_eq_false (by rw [h7]; decide)
    repeat' (first | (refine wp_rdH ?_; simp only [go_sem, wp_sq, reduceIte, Nat.reduceEqDiff, Nat.reduceAdd, Nat.reduceBEq, reduceCtorEq, gd, e7, e8]) | (refine ifP_dc (fun hp => ?_) (fun hp => ?_) <;> try simp only [go_sem, wp_sq, reduceIte, Nat.reduceEqDiff, Nat.reduceAdd, Nat.reduceBEq, reduceCtorEq, gd, e7, e8, hp]) | (refine ex_call (f243 ht h _ _ hl) ?_; rintro _ (⟨b, rfl⟩); try simp only [go_sem, wp_sq, reduceIte, Nat.reduceEqDiff, Nat.reduceAdd, Nat.reduceBEq, reduceCtorEq, gd, e7, e8]) | (refine ifP_b (fun hp => ?_) (fun hp => ?_) <;> try simp only [go_sem, wp_sq, reduceIte, Nat.reduceEqDiff, Nat.reduceAdd, Nat.reduceBEq, reduceCtorEq, gd, e7, e8, hp]))
    all_goals (refine ret_one (b := none) rfl ?_; exact ⟨_, rfl⟩)
  · have hb := hr.uses _ (use_b (by rw [h8]; rfl))
    have gbl : x.b.toNat < f.vars.length := by omega
    have gb := didx_int (enc := eF) (k := 2) (nf := none) (l := f.vars) (tl := .no) (kd := .i64) hb.1 gbl
    have e7 : decide (x.op = 7) = false := decide_eq_false (by rw [h8]; decide)
    have e8 : decide (x.op = 8) = true := decide_eq_true h8
    repeat' (first | (refine wp_rdH ?_; simp only [go_sem, wp_sq, reduceIte, Nat.reduceEqDiff, Nat.reduceAdd, Nat.reduceBEq, reduceCtorEq, gb, e7, e8]) | (refine ifP_dc (fun hp => ?_) (fun hp => ?_) <;> try simp only [go_sem, wp_sq, reduceIte, Nat.reduceEqDiff, Nat.reduceAdd, Nat.reduceBEq, reduceCtorEq, gb, e7, e8, hp]) | (refine ex_call (f243 ht h _ _ hl) ?_; rintro _ (⟨b, rfl⟩); try simp only [go_sem, wp_sq, reduceIte, Nat.reduceEqDiff, Nat.reduceAdd, Nat.reduceBEq, reduceCtorEq, gb, e7, e8]) | (refine ifP_b (fun hp => ?_) (fun hp => ?_) <;> try simp only [go_sem, wp_sq, reduceIte, Nat.reduceEqDiff, Nat.reduceAdd, Nat.reduceBEq, reduceCtorEq, gb, e7, e8, hp]))
    all_goals (refine ret_one (b := none) rfl ?_; exact ⟨_, rfl⟩)
end Go.Proofs.YtfmicbbflpkdgaaGreatDoor.D
/-
  Contracts: part 12: an instruction (the reference's): ints, declares.
-/
namespace Go.Proofs.YtfmicbbflpkdgaaGreatDoor.D
variable {P : Program}
theorem useA {x : NInstr} (h : hasZ x.op 97 = true) (h2 : x.op ≠ 13 ∨ x.a ≠ -1) : x.a ∈ usesN x := by
  unfold usesN
  rw [if_pos ⟨h, h2⟩]
  simp
theorem useB {x : NInstr} (h : hasZ x.op 98 = true) : x.b ∈ usesN x := by
  unfold usesN
  rw [if_pos h]
  simp
theorem useL {x : NInstr} (h : hasZ x.op 108 = true) {z : Int} (hz : z ∈ x.args) : z ∈ usesN x := by
  unfold usesN
  rw [if_pos h]
  simp [hz]
theorem f246 (ht : TabOk P gl tab.get) (h : NHier) (ho : HOk h) (f : NFunc) (x : NInstr) (hr : RangeOk f x) (h9 : x.op ≠ 9) (h10 : x.op ≠ 10) : Val P gl 246 [.agg (eHr h), .agg (eFn f), .agg (eIn x)] fun d => ∃ b, d = .bool b := by
  have hl := ho.len
  have hd : hasZ x.op 100 = true → 0 ≤ x.dst ∧ x.dst < f.vars.length := fun hh => by
    rcases hr.dst hh with h | h
    · exact h
    · rcases h.1 with h | h
      · exact absurd h h9
      · exact absurd h h10
  have ha : hasZ x.op 97 = true → 0 ≤ x.a → x.a < f.vars.length := fun hh h0 => (hr.uses _ (useA hh (.inr (by omega)))).2
  have hb : hasZ x.op 98 = true → 0 ≤ x.b ∧ x.b < f.vars.length := fun hh => hr.uses _ (useB hh)
  refine Val.of_wp gl_ok ht (df := d246) rfl (cl_cons (.agg _ (cl_eHr h)) (cl_cons (.agg _ (cl_eFn f)) (cl_cons (.agg _ (cl_eIn x)) cl_nil))) (fun d hd => by obtain ⟨b, rfl⟩ := hd; exact .bool _) ?_
  simp only [d246, go_sem, reduceIte, Nat.reduceEqDiff, Nat.reduceAdd, Nat.reduceBEq, reduceCtorEq]
  rw [wp_sq]
  simp only [go_sem, reduceIte, Nat.reduceEqDiff, Nat.reduceAdd, Nat.reduceBEq, reduceCtorEq]
  rw [wp_sq]
  simp only [go_sem, reduceIte, Nat.reduceEqDiff, Nat.reduceAdd, Nat.reduceBEq, reduceCtorEq]
  refine wp_sqI (7 :: [10, 11, 12, 13, 14, 15, 16, 17, 18, 19]) (fun e _ => Keep (∃ s, e 7 = .str s)) ?_ ?_
  · simp only [go_sem, wp_sq, reduceIte, Nat.reduceEqDiff, Nat.reduceAdd, Nat.reduceBEq, reduceCtorEq]
    refine ex_call (f240 ht _ _) ?_
    rintro _ rfl
    simp only [go_sem, wp_sq, reduceIte, Nat.reduceEqDiff, Nat.reduceAdd, Nat.reduceBEq, reduceCtorEq]
    refine ifP_b (fun hp => ?_) (fun hp => ?_)
    · have g0 := hd hp
      have gl1 : x.dst.toNat < f.vars.length := by omega
      have g := didx_int (enc := eF) (k := 2) (nf := none) (l := f.vars) (tl := .no) (kd := .i64) g0.1 gl1
      simp only [go_sem, wp_sq, reduceIte, Nat.reduceEqDiff, Nat.reduceAdd, Nat.reduceBEq, reduceCtorEq, g]
      exact ⟨by repeat' first | exact hf | exact rfl | exact Fr0.refl _ _ | apply Fr0.upd | exact hf2 | refine Fr0.sub hf2 rfl ?_ | refine Fr0.sub hf rfl ?_, _, rfl⟩
    · simp only [go_sem, wp_sq, reduceIte, Nat.reduceEqDiff, Nat.reduceAdd, Nat.reduceBEq, reduceCtorEq]
      exact ⟨by repeat' first | exact hf | exact rfl | exact Fr0.refl _ _ | apply Fr0.upd | exact hf2 | refine Fr0.sub hf2 rfl ?_ | refine Fr0.sub hf rfl ?_, _, rfl⟩
  rintro e1 S1 hf1 ⟨s7, h7⟩
  have k3 : e1 3 = .iptr (eHr h) 0 := hf1 3 rfl
  have k4 : e1 4 = .iptr (eFn f) 0 := hf1 4 rfl
  have k5 : e1 5 = .iptr (eIn x) 0 := hf1 5 rfl
  have k8 : e1 8 = .str [] := hf1 8 rfl
  have k9 : e1 9 = .str [] := hf1 9 rfl
  clear hf1
  refine wp_sqI (8 :: [20, 21, 22, 23, 24, 25, 26, 27, 28, 29, 30, 31, 32, 33, 34]) (fun e _ => Keep (∃ s, e 8 = .str s)) ?_ ?_
  · simp only [go_sem, wp_sq, reduceIte, Nat.reduceEqDiff, Nat.reduceAdd, Nat.reduceBEq, reduceCtorEq, k4, k5]
    refine ex_call (f240 ht _ _) ?_
    rintro _ rfl
    simp only [go_sem, wp_sq, reduceIte, Nat.reduceEqDiff, Nat.reduceAdd, Nat.reduceBEq, reduceCtorEq, k4, k5]
    by_cases h0 : 0 ≤ x.a
    · cases hh : hasZ x.op 97 with
      | true =>
        have g0 := ha hh h0
        have gl1 : x.a.toNat < f.vars.length := by omega
        have g := didx_int (enc := eF) (k := 2) (nf := none) (l := f.vars) (tl := .no) (kd := .i64) h0 gl1
        simp only [go_sem, wp_sq, reduceIte, Nat.reduceEqDiff, Nat.reduceAdd, Nat.reduceBEq, reduceCtorEq, k4, k5, h0, g]
        exact ⟨by repeat' first | exact hf | exact rfl | exact Fr0.refl _ _ | apply Fr0.upd | exact hf2 | refine Fr0.sub hf2 rfl ?_ | refine Fr0.sub hf rfl ?_, _, rfl⟩
      | false =>
        simp only [go_sem, wp_sq, reduceIte, Nat.reduceEqDiff, Nat.reduceAdd, Nat.reduceBEq, reduceCtorEq, k4, k5, h0]
        exact ⟨by repeat' first | exact hf | exact rfl | exact Fr0.refl _ _ | apply Fr0.upd | exact hf2 | refine Fr0.sub hf2 rfl ?_ | refine Fr0.sub hf rfl ?_, _, k8⟩
    · cases hh : hasZ x.op 97 with
      | true =>
        simp only [go_sem, wp_sq, reduceIte, Nat.reduceEqDiff, Nat.reduceAdd, Nat.reduceBEq, reduceCtorEq, k4, k5, h0]
        exact ⟨by repeat' first | exact hf | exact rfl | exact Fr0.refl _ _ | apply Fr0.upd | exact hf2 | refine Fr0.sub hf2 rfl ?_ | refine Fr0.sub hf rfl ?_, _, k8⟩
      | false =>
        simp only [go_sem, wp_sq, reduceIte, Nat.reduceEqDiff, Nat.reduceAdd, Nat.reduceBEq, reduceCtorEq, k4, k5, h0]
        exact ⟨by repeat' first | exact hf | exact rfl | exact Fr0.refl _ _ | apply Fr0.upd | exact hf2 | refine Fr0.sub hf2 rfl ?_ | refine Fr0.sub hf rfl ?_, _, k8⟩
  rintro e2 S2 hf2 ⟨s8, h8⟩
  have m3 : e2 3 = .iptr (eHr h) 0 := (hf2 3 rfl).trans k3
  have m4 : e2 4 = .iptr (eFn f) 0 := (hf2 4 rfl).trans k4
  have m5 : e2 5 = .iptr (eIn x) 0 := (hf2 5 rfl).trans k5
  have m7 : e2 7 = .str s7 := (hf2 7 rfl).trans h7
  have m9 : e2 9 = .str [] := (hf2 9 rfl).trans k9
  clear hf2 k3 k4 k5 h7 k8 k9
  refine wp_sqI (9 :: [35, 36, 37, 38, 39, 40, 41, 42, 43, 44]) (fun e _ => Keep (∃ s, e 9 = .str s)) ?_ ?_
  · simp only [go_sem, wp_sq, reduceIte, Nat.reduceEqDiff, Nat.reduceAdd, Nat.reduceBEq, reduceCtorEq, m4, m5]
    refine ex_call (f240 ht _ _) ?_
    rintro _ rfl
    simp only [go_sem, wp_sq, reduceIte, Nat.reduceEqDiff, Nat.reduceAdd, Nat.reduceBEq, reduceCtorEq, m4, m5]
    refine ifP_b (fun hp => ?_) (fun hp => ?_)
    · have g0 := hb hp
      have gl1 : x.b.toNat < f.vars.length := by omega
      have g := didx_int (enc := eF) (k := 2) (nf := none) (l := f.vars) (tl := .no) (kd := .i64) g0.1 gl1
      simp only [go_sem, wp_sq, reduceIte, Nat.reduceEqDiff, Nat.reduceAdd, Nat.reduceBEq, reduceCtorEq, m4, m5, g]
      exact ⟨by repeat' first | exact hf | exact rfl | exact Fr0.refl _ _ | apply Fr0.upd | exact hf2 | refine Fr0.sub hf2 rfl ?_ | refine Fr0.sub hf rfl ?_, _, rfl⟩
    · simp only [go_sem, wp_sq, reduceIte, Nat.reduceEqDiff, Nat.reduceAdd, Nat.reduceBEq, reduceCtorEq]
      exact ⟨by repeat' first | exact hf | exact rfl | exact Fr0.refl _ _ | apply Fr0.upd | exact hf2 | refine Fr0.sub hf2 rfl ?_ | refine Fr0.sub hf rfl ?_, _, m9⟩
  rintro e3 S3 hf3 ⟨s9, h9'⟩
  have n3 : e3 3 = .iptr (eHr h) 0 := (hf3 3 rfl).trans m3
  have n4 : e3 4 = .iptr (eFn f) 0 := (hf3 4 rfl).trans m4
  have n5 : e3 5 = .iptr (eIn x) 0 := (hf3 5 rfl).trans m5
  have n7 : e3 7 = .str s7 := (hf3 7 rfl).trans m7
  have n8 : e3 8 = .str s8 := (hf3 8 rfl).trans h8
  clear hf3 m3 m4 m5 m7 m9 h8
  simp only [go_sem, wp_sq, reduceIte, Nat.reduceEqDiff, Nat.reduceAdd, Nat.reduceBEq, reduceCtorEq, n3, n4, n5, n7, n8, h9']
  repeat' (first | (refine wp_rdH ?_; simp only [go_sem, wp_sq, reduceIte, Nat.reduceEqDiff, Nat.reduceAdd, Nat.reduceBEq, reduceCtorEq, n3, n4, n5, n7, n8, h9']) | (refine ifP_dc (fun hp => ?_) (fun hp => ?_) <;> try simp only [go_sem, wp_sq, reduceIte, Nat.reduceEqDiff, Nat.reduceAdd, Nat.reduceBEq, reduceCtorEq, n3, n4, n5, n7, n8, h9', hp]) | (refine ex_call (f243 ht h _ _ hl) ?_; rintro _ (⟨b, rfl⟩); try simp only [go_sem, wp_sq, reduceIte, Nat.reduceEqDiff, Nat.reduceAdd, Nat.reduceBEq, reduceCtorEq, n3, n4, n5, n7, n8, h9']) | (refine ifP_b (fun hp => ?_) (fun hp => ?_) <;> try simp only [go_sem, wp_sq, reduceIte, Nat.reduceEqDiff, Nat.reduceAdd, Nat.reduceBEq, reduceCtorEq, n3, n4, n5, n7, n8, h9', hp]))
  all_goals (refine ret_one (b := none) rfl ?_; exact ⟨_, rfl⟩)
end Go.Proofs.YtfmicbbflpkdgaaGreatDoor.D
