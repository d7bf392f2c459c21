/-
  Contracts: part 7: the fields of an operation (the reference's).
-/
import Derived.Test.YtfmicbbflpkdgaaGreatDoorA23
import Derived.Test.YtfmicbbflpkdgaaGreatDoorA09
set_option linter.unusedVariables false
set_option linter.unusedSimpArgs false
namespace Go.Proofs.YtfmicbbflpkdgaaGreatDoor.D
variable {P : Program}
def nameT : List Str := [[110, 111, 112], [99, 111, 110, 115, 116], [110, 117, 108, 108], [99, 111, 112, 121], [98, 105, 110], [105, 110, 112, 117, 116], [110, 101, 119], [108, 111, 97, 100], [115, 116, 111, 114, 101], [99, 97, 108, 108], [115, 116, 97, 116, 105, 99], [98, 114, 97, 110, 99, 104], [106, 117, 109, 112], [114, 101, 116, 117, 114, 110], [116, 104, 114, 111, 119], [99, 97, 116, 99, 104], [115, 104, 105, 102, 116]]
def formT : List Str := [[], [100, 110], [100], [100, 97], [100, 97, 111, 98], [100], [100, 99], [100, 97, 109], [97, 109, 98], [100, 97, 99, 109, 108], [100, 99, 109, 108], [97, 103], [103], [97], [97], [100, 99], [100, 97, 110]]
def nameZ (z : Int) : Str := if 0 ≤ z ∧ z < 17 then nameT.getD z.toNat [] else []
theorem f198 (ht : TabOk P gl tab.get) (z : Int) : Val P gl 198 [.int .i64 z] fun d => d = .str (nameZ z) := by
  refine Val.of_wp gl_ok ht (df := d198) rfl (cl_cons (.int _ _) cl_nil) (fun d hd => by rw [hd]; exact .str _) ?_
  have hl : (nameT.map rS).length = 17 := rfl
  by_cases h0 : 0 ≤ z ∧ z < 17
  · obtain ⟨n, rfl⟩ := Int.eq_ofNat_of_zero_le h0.1
    have hn : n < nameT.length := by have := h0.2; show n < 17; omega
    have hix := didx_isl (enc := rS) (k := 1) (nf := some false) (l := nameT) (tl := .ex) (kd := .i64) hn
    have e1 : decide ((n : Int) < 0) = false := decide_eq_false (by omega)
    have e2 : decide (17 ≤ n) = false := decide_eq_false (by omega)
    have e3 : nameT[n] = nameZ n := by
      rw [nameZ, if_pos h0, Int.toNat_natCast, List.getD_eq_getElem?_getD, List.getElem?_eq_getElem hn]
      rfl
    simp only [d198, go_sem, wp_sq, reduceIte, Nat.reduceEqDiff, Nat.reduceAdd, Nat.reduceBEq, reduceCtorEq, e1, e2]
    refine ⟨.iptr (rS nameT[n]) 0, [], congrArg some1 hix, ?_⟩
    simp only [go_sem, wp_sq, reduceIte, Nat.reduceEqDiff, Nat.reduceAdd, Nat.reduceBEq, reduceCtorEq]
    refine ret_one (b := none) rfl ?_
    rw [← e3]
    rfl
  · have e3 : nameZ z = [] := by rw [nameZ, if_neg h0]
    by_cases e1 : z < 0
    · simp only [d198, go_sem, wp_sq, reduceIte, Nat.reduceEqDiff, Nat.reduceAdd, Nat.reduceBEq, reduceCtorEq, e1]
      refine ret_one (b := none) rfl ?_
      rw [e3]
      rfl
    · have e2 : decide (((17 : Nat) : Int) ≤ z) = true := decide_eq_true (by omega)
      simp only [d198, go_sem, wp_sq, reduceIte, Nat.reduceEqDiff, Nat.reduceAdd, Nat.reduceBEq, reduceCtorEq, e1, e2]
      refine ret_one (b := none) rfl ?_
      rw [e3]
      rfl
theorem f273 (ht : TabOk P gl tab.get) (n : Nat) (hn : n < 17) : Val P gl 273 [.int .i64 n] fun d => d = .str (formT.getD n []) := by
  refine Val.of_wp gl_ok ht (df := d273) rfl (cl_cons (.int _ _) cl_nil) (fun d hd => by rw [hd]; exact .str _) ?_
  have hn2 : n < formT.length := hn
  have hix := didx_isl (enc := rS) (k := 1) (nf := some false) (l := formT) (tl := .ex) (kd := .i64) hn2
  have e3 : formT.getD n [] = formT[n] := by rw [List.getD_eq_getElem?_getD, List.getElem?_eq_getElem hn2]; rfl
  simp only [d273, go_sem, wp_sq, reduceIte, Nat.reduceEqDiff, Nat.reduceAdd, Nat.reduceBEq, reduceCtorEq]
  refine ⟨.iptr (rS formT[n]) 0, [], congrArg some1 hix, ?_⟩
  simp only [go_sem, wp_sq, reduceIte, Nat.reduceEqDiff, Nat.reduceAdd, Nat.reduceBEq, reduceCtorEq]
  refine ret_one (b := none) rfl ?_
  rw [e3]
  rfl
/-- Whether an operation uses a field. -/
def hasZ (op c : Int) : Bool := decide (0 ≤ op ∧ op < 17) && (formT.getD op.toNat []).any fun ch => decide ((ch : Int) = c) || decide (c = 110) && decide ((ch : Int) = 111)
theorem formT_len : ∀ s, s ∈ formT → s.length ≤ 5 := by decide
theorem nameT_ne : ∀ n, n < 17 → nameT.getD n [] ≠ [] := by decide
theorem f240 (ht : TabOk P gl tab.get) (op c : Int) : Val P gl 240 [.int .i64 op, .int .u8 c] fun d => d = .bool (hasZ op c) := by
  refine Val.of_wp gl_ok ht (df := d240) rfl (cl_cons (.int _ _) (cl_cons (.int _ _) cl_nil)) (fun d hd => by rw [hd]; exact .bool _) ?_
  simp only [d240, go_sem, wp_sq, reduceIte, Nat.reduceEqDiff, Nat.reduceAdd, Nat.reduceBEq, reduceCtorEq]
  refine ex_call (f198 ht op) ?_
  rintro _ rfl
  by_cases h0 : 0 ≤ op ∧ op < 17
  · obtain ⟨n, rfl⟩ := Int.eq_ofNat_of_zero_le h0.1
    have hn : n < 17 := by omega
    have hnm : nameZ n ≠ [] := by rw [nameZ, if_pos h0, Int.toNat_natCast]; exact nameT_ne n hn
    have hd0 : decide (nameZ n = []) = false := decide_eq_false hnm
    have hlen : (formT.getD n []).length ≤ 5 := by
      rw [List.getD_eq_getElem?_getD, List.getElem?_eq_getElem (show n < formT.length from hn)]
      exact formT_len _ (List.getElem_mem _)
    have hhas : hasZ n c = (formT.getD n []).any fun ch => decide ((ch : Int) = c) || decide (c = 110) && decide ((ch : Int) = 111) := by
      rw [hasZ, decide_eq_true h0, Bool.true_and, Int.toNat_natCast]
    simp only [go_sem, wp_sq, reduceIte, Nat.reduceEqDiff, Nat.reduceAdd, Nat.reduceBEq, reduceCtorEq, hd0]
    refine ex_call (f273 ht n hn) ?_
    rintro _ rfl
    generalize formT.getD n [] = s at hlen hhas
    simp only [go_sem, wp_sq, reduceIte, Nat.reduceEqDiff, Nat.reduceAdd, Nat.reduceBEq, reduceCtorEq]
    refine wp_lpE [4, 6, 12, 13, 14, 15, 16, 17, 18, 19, 20, 21, 22, 23, 24, 25, 26, 27, 28, 29, 30, 31, 32] (fun m e _ => ∃ i : Nat, m = s.length - i ∧ i ≤ s.length ∧ e 6 = .int .i64 i ∧ hasZ n c = (s.drop i).any fun ch => decide ((ch : Int) = c) || decide (c = 110) && decide ((ch : Int) = 111)) s.length ?_ ?_
    · exact ⟨0, rfl, Nat.zero_le _, rfl, hhas⟩
    rintro m e S ⟨i, hm, hi, hx, hI⟩ hf
    have hs1 : e 1 = .int .u8 c := hf 1 rfl
    have hs5 : e 5 = .str s := hf 5 rfl
    have hw := wrap_succ (i := i) (by omega)
    by_cases h1 : i < s.length
    · rw [List.drop_eq_getElem_cons h1, List.any_cons] at hI
      simp only [go_sem, wp_sq, reduceIte, Nat.reduceEqDiff, Nat.reduceAdd, Nat.reduceBEq, reduceCtorEq, hx, hs1, hs5, hw, h1]
      repeat' (refine ifP_dc (fun hp => ?_) (fun hp => ?_) <;> try simp only [go_sem, wp_sq, reduceIte, Nat.reduceEqDiff, Nat.reduceAdd, Nat.reduceBEq, reduceCtorEq, hx, hs1, hs5, hw, h1, hp])
      all_goals first
        | (refine ret_one (b := none) rfl ?_; rw [hI]; simp only [*, Bool.true_and, Bool.false_or, Bool.true_or, Bool.or_true]; rfl)
        | (refine ⟨_, by omega, rfl, (by repeat' first | exact hf | exact rfl | exact Fr0.refl _ _ | apply Fr0.upd | exact hf2 | refine Fr0.sub hf2 rfl ?_ | refine Fr0.sub hf rfl ?_), i + 1, rfl, by omega, rfl, ?_⟩; rw [hI]; simp only [*, Bool.true_and, Bool.false_and, Bool.false_or])
    · simp only [go_sem, wp_sq, reduceIte, Nat.reduceEqDiff, Nat.reduceAdd, Nat.reduceBEq, reduceCtorEq, hx, hs1, hs5, hw, h1]
      refine ret_one (b := none) rfl ?_
      rw [List.drop_of_length_le (by omega)] at hI
      rw [hI]
      rfl
  · have hnm : decide (nameZ op = []) = true := decide_eq_true (by rw [nameZ, if_neg h0])
    simp only [go_sem, wp_sq, reduceIte, Nat.reduceEqDiff, Nat.reduceAdd, Nat.reduceBEq, reduceCtorEq, hnm]
    refine ret_one (b := none) rfl ?_
    rw [hasZ, decide_eq_false h0]
    rfl
end Go.Proofs.YtfmicbbflpkdgaaGreatDoor.D
/-
  Contracts: part 8: an instruction (the reference's).
-/
namespace Go.Proofs.YtfmicbbflpkdgaaGreatDoor.D
variable {P : Program}
def usesN (x : NInstr) : List Int := (if hasZ x.op 97 = true ∧ (x.op ≠ 13 ∨ x.a ≠ -1) then [x.a] else []) ++ ((if hasZ x.op 98 = true then [x.b] else []) ++ (if hasZ x.op 108 = true then x.args else []))
theorem allScR_I (l : List Int) : allScR (l.map rI) = true := by
  induction l with
  | nil => rfl
  | cons z l ih => simp only [List.map_cons, rI, allScR, allSc]; exact ih
theorem f241 (ht : TabOk P gl tab.get) (x : NInstr) (hx : x.args.length ≤ 1048576) : Val P gl 241 [.agg (eIn x)] fun d => d = .isl 1 none ((usesN x).map rI) .no := by
  refine Val.of_wp gl_ok ht (df := d241) rfl (cl_cons (.agg _ (cl_eIn x)) cl_nil) (fun d hd => by rw [hd]; exact cl_isl cl_rI ..) ?_
  have hsc := allScR_I x.args
  simp only [d241, go_sem, reduceIte, Nat.reduceEqDiff, Nat.reduceAdd, Nat.reduceBEq, reduceCtorEq]
  rw [wp_sq]
  simp only [go_sem, reduceIte, Nat.reduceEqDiff, Nat.reduceAdd, Nat.reduceBEq, reduceCtorEq]
  rw [wp_sq]
  simp only [go_sem, reduceIte, Nat.reduceEqDiff, Nat.reduceAdd, Nat.reduceBEq, reduceCtorEq]
  refine wp_sqI [4, 3, 4, 5, 6, 7, 8, 9, 10, 11, 12, 13, 14, 15, 16, 17, 18, 19, 20, 21] (fun e S => ∃ l : List Int, l.length ≤ 1 ∧ AppS S (e 3) 1 (l.map rI) ∧ l = if hasZ x.op 97 = true ∧ (x.op ≠ 13 ∨ x.a ≠ -1) then [x.a] else []) ?_ ?_
  · simp only [go_sem, wp_sq, reduceIte, Nat.reduceEqDiff, Nat.reduceAdd, Nat.reduceBEq, reduceCtorEq]
    refine ex_call (f240 ht _ _) ?_
    rintro _ rfl
    simp only [go_sem, wp_sq, reduceIte, Nat.reduceEqDiff, Nat.reduceAdd, Nat.reduceBEq, reduceCtorEq]
    repeat' (first | (refine ifP_dc (fun hp => ?_) (fun hp => ?_) <;> try simp only [go_sem, wp_sq, reduceIte, Nat.reduceEqDiff, Nat.reduceAdd, Nat.reduceBEq, reduceCtorEq, hp]) | (refine ifP_b (fun hp => ?_) (fun hp => ?_) <;> try simp only [go_sem, wp_sq, reduceIte, Nat.reduceEqDiff, Nat.reduceAdd, Nat.reduceBEq, reduceCtorEq, hp]))
    all_goals first
      | exact ⟨by repeat' first | exact hf | exact rfl | exact Fr0.refl _ _ | apply Fr0.upd | exact hf2 | refine Fr0.sub hf2 rfl ?_ | refine Fr0.sub hf rfl ?_, [], by simp, AppS.nil, by simp_all⟩
      | (refine ex_app AppS.nil rfl (by simp) (by simp) (Nat.le_refl _) (fun v ps hA => ?_); (try simp only [go_sem, wp_sq, reduceIte, Nat.reduceEqDiff, Nat.reduceAdd, Nat.reduceBEq, reduceCtorEq]); exact ⟨by repeat' first | exact hf | exact rfl | exact Fr0.refl _ _ | apply Fr0.upd | exact hf2 | refine Fr0.sub hf2 rfl ?_ | refine Fr0.sub hf rfl ?_, [x.a], by simp, hA _ (Nat.lt_succ_self _), by simp_all⟩)
  intro e S hf ⟨l1, hl1, hA1, he1⟩
  have hs1 : e 1 = .iptr (eIn x) 0 := hf 1 rfl
  refine wp_sqI [4, 3, 4, 5, 6, 7, 8, 9, 10, 11, 12, 13, 14, 15, 16, 17, 18, 19, 20, 21, 22, 23, 24, 25, 26, 27, 28, 29] (fun e S => ∃ l : List Int, l.length ≤ 2 ∧ AppS S (e 3) 1 (l.map rI) ∧ l = l1 ++ if hasZ x.op 98 = true then [x.b] else []) ?_ ?_
  · simp only [go_sem, wp_sq, reduceIte, Nat.reduceEqDiff, Nat.reduceAdd, Nat.reduceBEq, reduceCtorEq, hs1]
    refine ex_call (f240 ht _ _) ?_
    rintro _ rfl
    simp only [go_sem, wp_sq, reduceIte, Nat.reduceEqDiff, Nat.reduceAdd, Nat.reduceBEq, reduceCtorEq, hs1]
    refine ifP_b (fun hp => ?_) (fun hp => ?_)
    · simp only [go_sem, wp_sq, reduceIte, Nat.reduceEqDiff, Nat.reduceAdd, Nat.reduceBEq, reduceCtorEq, hs1]
      refine ex_app hA1 rfl (by simp; omega) (by simp) (Nat.le_refl _) (fun v ps hA => ?_)
      try simp only [go_sem, wp_sq, reduceIte, Nat.reduceEqDiff, Nat.reduceAdd, Nat.reduceBEq, reduceCtorEq]
      refine ⟨by repeat' first | exact hf | exact rfl | exact Fr0.refl _ _ | apply Fr0.upd | exact hf2 | refine Fr0.sub hf2 rfl ?_ | refine Fr0.sub hf rfl ?_, l1 ++ [x.b], by simp; omega, ?_, by simp [hp]⟩
      have := hA _ (Nat.lt_succ_self _)
      rwa [show l1.map rI ++ [[DV.int .i64 x.b]] = (l1 ++ [x.b]).map rI from by simp [rI]] at this
    · simp only [go_sem, wp_sq, reduceIte, Nat.reduceEqDiff, Nat.reduceAdd, Nat.reduceBEq, reduceCtorEq, hs1]
      exact ⟨by repeat' first | exact hf | exact rfl | exact Fr0.refl _ _ | apply Fr0.upd | exact hf2 | refine Fr0.sub hf2 rfl ?_ | refine Fr0.sub hf rfl ?_, l1, by omega, hA1, by simp [hp]⟩
  intro e2 S2 hf2 ⟨l2, hl2, hA2, he2⟩
  have ht1 : e2 1 = .iptr (eIn x) 0 := (hf2 1 rfl).trans hs1
  refine wp_sqI [4, 3, 4, 5, 6, 7, 8, 9, 10, 11, 12, 13, 14, 15, 16, 17, 18, 19, 20, 21, 22, 23, 24, 25, 26, 27, 28, 29, 30, 31, 32, 33, 34, 35, 36] (fun e S => ∃ l : List Int, AppS S (e 3) 1 (l.map rI) ∧ l = l2 ++ if hasZ x.op 108 = true then x.args else []) ?_ ?_
  · simp only [go_sem, wp_sq, reduceIte, Nat.reduceEqDiff, Nat.reduceAdd, Nat.reduceBEq, reduceCtorEq, ht1]
    refine ex_call (f240 ht _ _) ?_
    rintro _ rfl
    simp only [go_sem, wp_sq, reduceIte, Nat.reduceEqDiff, Nat.reduceAdd, Nat.reduceBEq, reduceCtorEq, ht1]
    refine ifP_b (fun hp => ?_) (fun hp => ?_)
    · simp only [go_sem, wp_sq, reduceIte, Nat.reduceEqDiff, Nat.reduceAdd, Nat.reduceBEq, reduceCtorEq, ht1]
      refine ex_app hA2 hsc (by simp; omega) (by simpa using hx) (Nat.le_refl _) (fun v ps hA => ?_)
      try simp only [go_sem, wp_sq, reduceIte, Nat.reduceEqDiff, Nat.reduceAdd, Nat.reduceBEq, reduceCtorEq]
      refine ⟨by repeat' first | exact hf | exact rfl | exact Fr0.refl _ _ | apply Fr0.upd | exact hf2 | refine Fr0.sub hf2 rfl ?_ | refine Fr0.sub hf rfl ?_, l2 ++ x.args, ?_, by simp [hp]⟩
      have := hA _ (Nat.lt_succ_self _)
      rwa [← List.map_append] at this
    · simp only [go_sem, wp_sq, reduceIte, Nat.reduceEqDiff, Nat.reduceAdd, Nat.reduceBEq, reduceCtorEq, ht1]
      exact ⟨by repeat' first | exact hf | exact rfl | exact Fr0.refl _ _ | apply Fr0.upd | exact hf2 | refine Fr0.sub hf2 rfl ?_ | refine Fr0.sub hf rfl ?_, l2, hA2, by simp [hp]⟩
  intro e3 S3 hf3 ⟨l3, hA3, he3⟩
  simp only [go_sem, wp_sq, reduceIte, Nat.reduceEqDiff, Nat.reduceAdd, Nat.reduceBEq, reduceCtorEq]
  refine ret_one (b := none) hA3.fz ?_
  show DV.isl 1 none _ .no = _
  rw [he3, he2, he1, usesN, List.append_assoc]
end Go.Proofs.YtfmicbbflpkdgaaGreatDoor.D
/-
  Contracts: part 9: an instruction (the reference's).
-/
namespace Go.Proofs.YtfmicbbflpkdgaaGreatDoor.D
variable {P : Program}
theorem f199 (ht : TabOk P gl tab.get) (x : NInstr) : Val P gl 199 [.agg (eIn x)] fun d => ∃ b, d = .bool b := by
  refine Val.of_wp gl_ok ht (df := d199) rfl (cl_cons (.agg _ (cl_eIn x)) cl_nil) (fun d hd => by obtain ⟨b, rfl⟩ := hd; exact .bool _) ?_
  simp only [d199, go_sem, reduceIte, Nat.reduceEqDiff, Nat.reduceAdd, Nat.reduceBEq, reduceCtorEq]
  rw [wp_sq]
  simp only [go_sem, reduceIte, Nat.reduceEqDiff, Nat.reduceAdd, Nat.reduceBEq, reduceCtorEq]
  rw [wp_sq]
  simp only [go_sem, reduceIte, Nat.reduceEqDiff, Nat.reduceAdd, Nat.reduceBEq, reduceCtorEq]
  rw [wp_sq]
  refine wp_rgC ?_
  refine cutN 8 [6, 7, 8, 9, 10, 11, 12, 13] (fun e _ => ∃ b, e 13 = .bool b) ?_ ?_
  · simp only [go_sem, wp_sq, reduceIte, Nat.reduceEqDiff, Nat.reduceAdd, Nat.reduceBEq, reduceCtorEq, List.take_succ_cons, List.take_zero, List.drop_succ_cons, List.drop_zero]
    repeat' (first | (refine ifP_dc (fun hp => ?_) (fun hp => ?_) <;> try simp only [go_sem, wp_sq, reduceIte, Nat.reduceEqDiff, Nat.reduceAdd, Nat.reduceBEq, reduceCtorEq, hp]) | (refine ex_call (f240 ht _ _) ?_; rintro _ rfl; try simp only [go_sem, wp_sq, reduceIte, Nat.reduceEqDiff, Nat.reduceAdd, Nat.reduceBEq, reduceCtorEq]) | (refine ifP_b (fun hp => ?_) (fun hp => ?_) <;> try simp only [go_sem, wp_sq, reduceIte, Nat.reduceEqDiff, Nat.reduceAdd, Nat.reduceBEq, reduceCtorEq, hp]))
    all_goals exact ⟨by repeat' first | exact hf | exact rfl | exact Fr0.refl _ _ | apply Fr0.upd | exact hf2 | refine Fr0.sub hf2 rfl ?_ | refine Fr0.sub hf rfl ?_, _, rfl⟩
  rintro e0 T0 hf0 ⟨b0, hb0⟩
  have h1_0 : e0 1 = .iptr (eIn x) 0 := hf0 1 rfl
  have h3_0 : e0 3 = .int .i64 x.op := hf0 3 rfl
  simp only [List.take_succ_cons, List.take_zero, List.drop_succ_cons, List.drop_zero]
  refine cutN 9 [14, 15, 16, 17, 18, 19, 20, 21, 22] (fun e _ => ∃ b, e 22 = .bool b) ?_ ?_
  · simp only [go_sem, wp_sq, reduceIte, Nat.reduceEqDiff, Nat.reduceAdd, Nat.reduceBEq, reduceCtorEq, List.take_succ_cons, List.take_zero, List.drop_succ_cons, List.drop_zero, hb0, h1_0, h3_0]
    repeat' (first | (refine ifP_dc (fun hp => ?_) (fun hp => ?_) <;> try simp only [go_sem, wp_sq, reduceIte, Nat.reduceEqDiff, Nat.reduceAdd, Nat.reduceBEq, reduceCtorEq, hp, hb0, h1_0, h3_0]) | (refine ex_call (f240 ht _ _) ?_; rintro _ rfl; try simp only [go_sem, wp_sq, reduceIte, Nat.reduceEqDiff, Nat.reduceAdd, Nat.reduceBEq, reduceCtorEq, hb0, h1_0, h3_0]) | (refine ifP_b (fun hp => ?_) (fun hp => ?_) <;> try simp only [go_sem, wp_sq, reduceIte, Nat.reduceEqDiff, Nat.reduceAdd, Nat.reduceBEq, reduceCtorEq, hp, hb0, h1_0, h3_0]))
    all_goals exact ⟨by repeat' first | exact hf | exact rfl | exact Fr0.refl _ _ | apply Fr0.upd | exact hf2 | refine Fr0.sub hf2 rfl ?_ | refine Fr0.sub hf rfl ?_, _, rfl⟩
  rintro e1 T1 hf1 ⟨b1, hb1⟩
  have h1_1 : e1 1 = .iptr (eIn x) 0 := (hf1 1 rfl).trans h1_0
  have h3_1 : e1 3 = .int .i64 x.op := (hf1 3 rfl).trans h3_0
  simp only [List.take_succ_cons, List.take_zero, List.drop_succ_cons, List.drop_zero]
  refine cutN 9 [23, 24, 25, 26, 27, 28, 29, 30, 31] (fun e _ => ∃ b, e 31 = .bool b) ?_ ?_
  · simp only [go_sem, wp_sq, reduceIte, Nat.reduceEqDiff, Nat.reduceAdd, Nat.reduceBEq, reduceCtorEq, List.take_succ_cons, List.take_zero, List.drop_succ_cons, List.drop_zero, hb1, h1_1, h3_1]
    repeat' (first | (refine ifP_dc (fun hp => ?_) (fun hp => ?_) <;> try simp only [go_sem, wp_sq, reduceIte, Nat.reduceEqDiff, Nat.reduceAdd, Nat.reduceBEq, reduceCtorEq, hp, hb1, h1_1, h3_1]) | (refine ex_call (f240 ht _ _) ?_; rintro _ rfl; try simp only [go_sem, wp_sq, reduceIte, Nat.reduceEqDiff, Nat.reduceAdd, Nat.reduceBEq, reduceCtorEq, hb1, h1_1, h3_1]) | (refine ifP_b (fun hp => ?_) (fun hp => ?_) <;> try simp only [go_sem, wp_sq, reduceIte, Nat.reduceEqDiff, Nat.reduceAdd, Nat.reduceBEq, reduceCtorEq, hp, hb1, h1_1, h3_1]))
    all_goals exact ⟨by repeat' first | exact hf | exact rfl | exact Fr0.refl _ _ | apply Fr0.upd | exact hf2 | refine Fr0.sub hf2 rfl ?_ | refine Fr0.sub hf rfl ?_, _, rfl⟩
  rintro e2 T2 hf2 ⟨b2, hb2⟩
  have h1_2 : e2 1 = .iptr (eIn x) 0 := (hf2 1 rfl).trans h1_1
  have h3_2 : e2 3 = .int .i64 x.op := (hf2 3 rfl).trans h3_1
  simp only [List.take_succ_cons, List.take_zero, List.drop_succ_cons, List.drop_zero]
  refine cutN 9 [32, 33, 34, 35, 36, 37, 38, 39, 40] (fun e _ => ∃ b, e 40 = .bool b) ?_ ?_
  · simp only [go_sem, wp_sq, reduceIte, Nat.reduceEqDiff, Nat.reduceAdd, Nat.reduceBEq, reduceCtorEq, List.take_succ_cons, List.take_zero, List.drop_succ_cons, List.drop_zero, hb2, h1_2, h3_2]
    repeat' (first | (refine ifP_dc (fun hp => ?_) (fun hp => ?_) <;> try simp only [go_sem, wp_sq, reduceIte, Nat.reduceEqDiff, Nat.reduceAdd, Nat.reduceBEq, reduceCtorEq, hp, hb2, h1_2, h3_2]) | (refine ex_call (f240 ht _ _) ?_; rintro _ rfl; try simp only [go_sem, wp_sq, reduceIte, Nat.reduceEqDiff, Nat.reduceAdd, Nat.reduceBEq, reduceCtorEq, hb2, h1_2, h3_2]) | (refine ifP_b (fun hp => ?_) (fun hp => ?_) <;> try simp only [go_sem, wp_sq, reduceIte, Nat.reduceEqDiff, Nat.reduceAdd, Nat.reduceBEq, reduceCtorEq, hp, hb2, h1_2, h3_2]))
    all_goals exact ⟨by repeat' first | exact hf | exact rfl | exact Fr0.refl _ _ | apply Fr0.upd | exact hf2 | refine Fr0.sub hf2 rfl ?_ | refine Fr0.sub hf rfl ?_, _, rfl⟩
  rintro e3 T3 hf3 ⟨b3, hb3⟩
  have h1_3 : e3 1 = .iptr (eIn x) 0 := (hf3 1 rfl).trans h1_2
  have h3_3 : e3 3 = .int .i64 x.op := (hf3 3 rfl).trans h3_2
  simp only [List.take_succ_cons, List.take_zero, List.drop_succ_cons, List.drop_zero]
  refine cutN 9 [41, 42, 43, 44, 45, 46, 47, 48, 49] (fun e _ => ∃ b, e 49 = .bool b) ?_ ?_
  · simp only [go_sem, wp_sq, reduceIte, Nat.reduceEqDiff, Nat.reduceAdd, Nat.reduceBEq, reduceCtorEq, List.take_succ_cons, List.take_zero, List.drop_succ_cons, List.drop_zero, hb3, h1_3, h3_3]
    repeat' (first | (refine ifP_dc (fun hp => ?_) (fun hp => ?_) <;> try simp only [go_sem, wp_sq, reduceIte, Nat.reduceEqDiff, Nat.reduceAdd, Nat.reduceBEq, reduceCtorEq, hp, hb3, h1_3, h3_3]) | (refine ex_call (f240 ht _ _) ?_; rintro _ rfl; try simp only [go_sem, wp_sq, reduceIte, Nat.reduceEqDiff, Nat.reduceAdd, Nat.reduceBEq, reduceCtorEq, hb3, h1_3, h3_3]) | (refine ifP_b (fun hp => ?_) (fun hp => ?_) <;> try simp only [go_sem, wp_sq, reduceIte, Nat.reduceEqDiff, Nat.reduceAdd, Nat.reduceBEq, reduceCtorEq, hp, hb3, h1_3, h3_3]))
    all_goals exact ⟨by repeat' first | exact hf | exact rfl | exact Fr0.refl _ _ | apply Fr0.upd | exact hf2 | refine Fr0.sub hf2 rfl ?_ | refine Fr0.sub hf rfl ?_, _, rfl⟩
  rintro e4 T4 hf4 ⟨b4, hb4⟩
  have h1_4 : e4 1 = .iptr (eIn x) 0 := (hf4 1 rfl).trans h1_3
  have h3_4 : e4 3 = .int .i64 x.op := (hf4 3 rfl).trans h3_3
  simp only [List.take_succ_cons, List.take_zero, List.drop_succ_cons, List.drop_zero]
  refine cutN 9 [50, 51, 52, 53, 54, 55, 56, 57, 58] (fun e _ => ∃ b, e 58 = .bool b) ?_ ?_
  · simp only [go_sem, wp_sq, reduceIte, Nat.reduceEqDiff, Nat.reduceAdd, Nat.reduceBEq, reduceCtorEq, List.take_succ_cons, List.take_zero, List.drop_succ_cons, List.drop_zero, hb4, h1_4, h3_4]
    repeat' (first | (refine ifP_dc (fun hp => ?_) (fun hp => ?_) <;> try simp only [go_sem, wp_sq, reduceIte, Nat.reduceEqDiff, Nat.reduceAdd, Nat.reduceBEq, reduceCtorEq, hp, hb4, h1_4, h3_4]) | (refine ex_call (f240 ht _ _) ?_; rintro _ rfl; try simp only [go_sem, wp_sq, reduceIte, Nat.reduceEqDiff, Nat.reduceAdd, Nat.reduceBEq, reduceCtorEq, hb4, h1_4, h3_4]) | (refine ifP_b (fun hp => ?_) (fun hp => ?_) <;> try simp only [go_sem, wp_sq, reduceIte, Nat.reduceEqDiff, Nat.reduceAdd, Nat.reduceBEq, reduceCtorEq, hp, hb4, h1_4, h3_4]))
    all_goals exact ⟨by repeat' first | exact hf | exact rfl | exact Fr0.refl _ _ | apply Fr0.upd | exact hf2 | refine Fr0.sub hf2 rfl ?_ | refine Fr0.sub hf rfl ?_, _, rfl⟩
  rintro e5 T5 hf5 ⟨b5, hb5⟩
  have h1_5 : e5 1 = .iptr (eIn x) 0 := (hf5 1 rfl).trans h1_4
  have h3_5 : e5 3 = .int .i64 x.op := (hf5 3 rfl).trans h3_4
  simp only [List.take_succ_cons, List.take_zero, List.drop_succ_cons, List.drop_zero]
  refine cutN 10 [59, 60, 61, 62, 63, 64, 65, 66, 67, 68] (fun e _ => ∃ b, e 68 = .bool b) ?_ ?_
  · simp only [go_sem, wp_sq, reduceIte, Nat.reduceEqDiff, Nat.reduceAdd, Nat.reduceBEq, reduceCtorEq, List.take_succ_cons, List.take_zero, List.drop_succ_cons, List.drop_zero, hb5, h1_5, h3_5]
    repeat' (first | (refine ifP_dc (fun hp => ?_) (fun hp => ?_) <;> try simp only [go_sem, wp_sq, reduceIte, Nat.reduceEqDiff, Nat.reduceAdd, Nat.reduceBEq, reduceCtorEq, hp, hb5, h1_5, h3_5]) | (refine ex_call (f240 ht _ _) ?_; rintro _ rfl; try simp only [go_sem, wp_sq, reduceIte, Nat.reduceEqDiff, Nat.reduceAdd, Nat.reduceBEq, reduceCtorEq, hb5, h1_5, h3_5]) | (refine ifP_b (fun hp => ?_) (fun hp => ?_) <;> try simp only [go_sem, wp_sq, reduceIte, Nat.reduceEqDiff, Nat.reduceAdd, Nat.reduceBEq, reduceCtorEq, hp, hb5, h1_5, h3_5]))
    all_goals exact ⟨by repeat' first | exact hf | exact rfl | exact Fr0.refl _ _ | apply Fr0.upd | exact hf2 | refine Fr0.sub hf2 rfl ?_ | refine Fr0.sub hf rfl ?_, _, rfl⟩
  rintro e6 T6 hf6 ⟨b6, hb6⟩
  have h1_6 : e6 1 = .iptr (eIn x) 0 := (hf6 1 rfl).trans h1_5
  have h3_6 : e6 3 = .int .i64 x.op := (hf6 3 rfl).trans h3_5
  simp only [List.take_succ_cons, List.take_zero, List.drop_succ_cons, List.drop_zero]
  simp only [go_sem, wp_sq, reduceIte, Nat.reduceEqDiff, Nat.reduceAdd, Nat.reduceBEq, reduceCtorEq, hb6, h1_6, h3_6]
  repeat' (first | (refine ifP_dc (fun hp => ?_) (fun hp => ?_) <;> try simp only [go_sem, wp_sq, reduceIte, Nat.reduceEqDiff, Nat.reduceAdd, Nat.reduceBEq, reduceCtorEq, hp, hb6, h1_6, h3_6]) | (refine ex_call (f240 ht _ _) ?_; rintro _ rfl; try simp only [go_sem, wp_sq, reduceIte, Nat.reduceEqDiff, Nat.reduceAdd, Nat.reduceBEq, reduceCtorEq, hb6, h1_6, h3_6]) | (refine ifP_b (fun hp => ?_) (fun hp => ?_) <;> try simp only [go_sem, wp_sq, reduceIte, Nat.reduceEqDiff, Nat.reduceAdd, Nat.reduceBEq, reduceCtorEq, hp, hb6, h1_6, h3_6]))
  all_goals (refine ret_one (b := none) rfl ?_; exact ⟨_, rfl⟩)
end Go.Proofs.YtfmicbbflpkdgaaGreatDoor.D
/-
  Contracts: part 10: an instruction (the reference's): ranges.
-/
namespace Go.Proofs.YtfmicbbflpkdgaaGreatDoor.D
variable {P : Program}
/-- What an instruction that passes names of a function is there. -/
structure RangeOk (f : NFunc) (x : NInstr) : Prop where
  dst : hasZ x.op 100 = true → (0 ≤ x.dst ∧ x.dst < f.vars.length) ∨ ((x.op = 9 ∨ x.op = 10) ∧ x.dst = -1)
  uses : ∀ u, u ∈ usesN x → 0 ≤ u ∧ u < f.vars.length
  goto : hasZ x.op 103 = true → 0 ≤ x.goto ∧ x.goto < f.code.length
structure FOk (f : NFunc) : Prop where
  vlen : f.vars.length ≤ 1048576
  vname : ∀ v, v ∈ f.vars → v.name.length < 4611686018427387904
  clen : f.code.length ≤ 1048576
  alen : ∀ x, x ∈ f.code → x.args.length ≤ 1048576
theorem usesN_len (x : NInstr) (hx : x.args.length ≤ 1048576) : (usesN x).length ≤ 1048578 := by
  unfold usesN
  simp only [List.length_append]
  repeat' split
  all_goals simp
  all_goals omega
theorem f200 (ht : TabOk P gl tab.get) (f : NFunc) (x : NInstr) (hf0 : FOk f) (hx : x.args.length ≤ 1048576) : Val P gl 200 [.agg (eFn f), .agg (eIn x)] fun d => ∃ b, d = .bool b ∧ (b = true → RangeOk f x) := by
  have hvl := hf0.vlen
  have hcl := hf0.clen
  have hul := usesN_len x hx
  refine Val.of_wp gl_ok ht (df := d200) rfl (cl_cons (.agg _ (cl_eFn f)) (cl_cons (.agg _ (cl_eIn x)) cl_nil)) (fun d hd => by obtain ⟨b, rfl, _⟩ := hd; exact .bool _) ?_
  simp only [d200, go_sem, reduceIte, Nat.reduceEqDiff, Nat.reduceAdd, Nat.reduceBEq, reduceCtorEq]
  rw [wp_sq]
  simp only [go_sem, reduceIte, Nat.reduceEqDiff, Nat.reduceAdd, Nat.reduceBEq, reduceCtorEq]
  rw [wp_sq]
  simp only [go_sem, reduceIte, Nat.reduceEqDiff, Nat.reduceAdd, Nat.reduceBEq, reduceCtorEq]
  refine wp_sqI [6, 7, 8, 9, 10, 11, 12, 13, 14, 15, 16, 17, 18, 19] (fun e _ => ∃ b, e 6 = .bool b ∧ Keep (b = true ↔ (x.op = 9 ∨ x.op = 10))) ?_ ?_
  · simp only [go_sem, wp_sq, reduceIte, Nat.reduceEqDiff, Nat.reduceAdd, Nat.reduceBEq, reduceCtorEq]
    repeat' (refine ifP_dc (fun hp => ?_) (fun hp => ?_) <;> try simp only [go_sem, wp_sq, reduceIte, Nat.reduceEqDiff, Nat.reduceAdd, Nat.reduceBEq, reduceCtorEq, hp])
    all_goals (refine ⟨by repeat' first | exact hf | exact rfl | exact Fr0.refl _ _ | apply Fr0.upd | exact hf2 | refine Fr0.sub hf2 rfl ?_ | refine Fr0.sub hf rfl ?_, ?_⟩; unfold Keep; simp only [decide_eq_true_eq, decide_eq_false_iff_not] at *; simp_all)
  rintro e1 S1 hf1 ⟨bc, h6, hbc⟩
  have k2 : e1 2 = .iptr (eFn f) 0 := hf1 2 rfl
  have k3 : e1 3 = .iptr (eIn x) 0 := hf1 3 rfl
  have k5 : e1 5 = .int .i64 f.vars.length := hf1 5 rfl
  clear hf1
  unfold Keep at hbc
  refine wp_sqI [4, 20, 21, 22, 23, 24, 25, 26, 27, 28, 29, 30, 31, 32, 33, 34, 35, 36, 37, 38, 39, 40, 41, 42] (fun e _ => Keep (hasZ x.op 100 = true → (0 ≤ x.dst ∧ x.dst < f.vars.length) ∨ ((x.op = 9 ∨ x.op = 10) ∧ x.dst = -1))) ?_ ?_
  · simp only [go_sem, wp_sq, reduceIte, Nat.reduceEqDiff, Nat.reduceAdd, Nat.reduceBEq, reduceCtorEq, k2, k3, k5, h6]
    refine ex_call (f240 ht _ _) ?_
    rintro _ rfl
    simp only [go_sem, wp_sq, reduceIte, Nat.reduceEqDiff, Nat.reduceAdd, Nat.reduceBEq, reduceCtorEq, k2, k3, k5, h6]
    cases bc <;> (
      simp only [Bool.false_eq_true, false_iff, true_iff] at hbc
      repeat' (first | (refine ifP_dc (fun hp => ?_) (fun hp => ?_) <;> try simp only [go_sem, wp_sq, reduceIte, Nat.reduceEqDiff, Nat.reduceAdd, Nat.reduceBEq, reduceCtorEq, k2, k3, k5, h6, hp]) | (refine ifP_b (fun hp => ?_) (fun hp => ?_) <;> try simp only [go_sem, wp_sq, reduceIte, Nat.reduceEqDiff, Nat.reduceAdd, Nat.reduceBEq, reduceCtorEq, k2, k3, k5, h6, hp]))
      all_goals first
        | (refine ret_one (b := none) rfl ?_; exact ⟨false, rfl, fun h => by cases h⟩)
        | (refine ⟨by repeat' first | exact hf | exact rfl | exact Fr0.refl _ _ | apply Fr0.upd | exact hf2 | refine Fr0.sub hf2 rfl ?_ | refine Fr0.sub hf rfl ?_, ?_⟩; unfold Keep; (try simp only [decide_eq_true_eq, decide_eq_false_iff_not] at *) <;> first | trivial | omega))
  rintro e2 S2 hf2 hdst
  unfold Keep at hdst
  have m2 : e2 2 = .iptr (eFn f) 0 := (hf2 2 rfl).trans k2
  have m3 : e2 3 = .iptr (eIn x) 0 := (hf2 3 rfl).trans k3
  have m5 : e2 5 = .int .i64 f.vars.length := (hf2 5 rfl).trans k5
  clear hf2 k2 k3 k5 h6
  rw [wp_sq]
  simp only [go_sem, reduceIte, Nat.reduceEqDiff, Nat.reduceAdd, Nat.reduceBEq, reduceCtorEq, m2, m3, m5]
  refine ex_call (f241 ht x hx) ?_
  rintro _ rfl
  simp only [go_sem, reduceIte, Nat.reduceEqDiff, Nat.reduceAdd, Nat.reduceBEq, reduceCtorEq, m2, m3, m5]
  refine wp_sqI [4, 8, 9, 10, 11, 12, 13, 14, 15, 16, 17, 18, 19, 20, 21, 22, 23, 24, 25, 26, 27, 28, 29, 30, 31, 32, 33, 34, 35, 36, 37, 38, 39, 40, 41, 42, 43, 44, 45, 46, 47, 48, 49, 50, 51, 52, 53, 54, 55, 56, 57, 58, 59, 60, 61, 62, 63] (fun _ _ => Keep (∀ u, u ∈ usesN x → 0 ≤ u ∧ u < f.vars.length)) ?_ ?_
  · simp only [go_sem, wp_sq, reduceIte, Nat.reduceEqDiff, Nat.reduceAdd, Nat.reduceBEq, reduceCtorEq, m2, m3, m5]
    refine wp_lpE [4, 8, 45, 46, 47, 48, 49, 50, 51, 52, 53, 54, 55, 56, 57, 58, 59, 60, 61, 62, 63] (fun n e _ => ∃ i : Nat, n = (usesN x).length - i ∧ i ≤ (usesN x).length ∧ e 8 = .int .i64 i ∧ ∀ u, u ∈ (usesN x).take i → 0 ≤ u ∧ u < f.vars.length) (usesN x).length ?_ ?_
    · exact ⟨0, rfl, Nat.zero_le _, rfl, by simp⟩
    rintro n e S ⟨i, hn, hi, hx8, hI⟩ hf
    have q5 : e 5 = .int .i64 f.vars.length := (show e 5 = e2 5 from hf 5 rfl).trans m5
    have q7 : e 7 = .isl 1 none ((usesN x).map rI) .no := hf 7 rfl
    have hw := wrap_succ (i := i) (by omega)
    by_cases h1 : i < (usesN x).length
    · simp only [go_sem, wp_sq, reduceIte, Nat.reduceEqDiff, Nat.reduceAdd, Nat.reduceBEq, reduceCtorEq, q5, q7, hx8, hw, h1]
      repeat' (first | (refine ifP_dc (fun hp => ?_) (fun hp => ?_) <;> try simp only [go_sem, wp_sq, reduceIte, Nat.reduceEqDiff, Nat.reduceAdd, Nat.reduceBEq, reduceCtorEq, q5, q7, hx8, hw, h1, hp]))
      all_goals first
        | (refine ret_one (b := none) rfl ?_; exact ⟨false, rfl, fun h => by cases h⟩)
        | skip
      refine ⟨_, by omega, rfl, (by repeat' first | exact hf | exact rfl | exact Fr0.refl _ _ | apply Fr0.upd | exact hf2 | refine Fr0.sub hf2 rfl ?_ | refine Fr0.sub hf rfl ?_), i + 1, rfl, by omega, rfl, ?_⟩
      rw [List.take_succ_eq_append_getElem h1]
      intro u hu
      rcases List.mem_append.1 hu with hu | hu
      · exact hI u hu
      · rw [List.mem_singleton.1 hu]
        simp only [decide_eq_true_eq, decide_eq_false_iff_not] at *
        omega
    · simp only [go_sem, wp_sq, reduceIte, Nat.reduceEqDiff, Nat.reduceAdd, Nat.reduceBEq, reduceCtorEq, q5, q7, hx8, hw, h1]
      rw [List.take_of_length_le (by omega)] at hI
      exact ⟨by repeat' first | exact hf | exact rfl | exact Fr0.refl _ _ | apply Fr0.upd | exact hf2 | refine Fr0.sub hf2 rfl ?_ | refine Fr0.sub hf rfl ?_, hI⟩
  rintro e3 S3 hf3 hus
  unfold Keep at hus
  have n2 : e3 2 = .iptr (eFn f) 0 := (hf3 2 rfl).trans m2
  have n3 : e3 3 = .iptr (eIn x) 0 := (hf3 3 rfl).trans m3
  clear hf3 m2 m3 m5
  refine wp_sqI [4, 64, 65, 66, 67, 68, 69, 70, 71, 72, 73, 74, 75, 76, 77, 78, 79] (fun _ _ => Keep (hasZ x.op 103 = true → 0 ≤ x.goto ∧ x.goto < f.code.length)) ?_ ?_
  · simp only [go_sem, wp_sq, reduceIte, Nat.reduceEqDiff, Nat.reduceAdd, Nat.reduceBEq, reduceCtorEq, n2, n3]
    refine ex_call (f240 ht _ _) ?_
    rintro _ rfl
    simp only [go_sem, wp_sq, reduceIte, Nat.reduceEqDiff, Nat.reduceAdd, Nat.reduceBEq, reduceCtorEq, n2, n3]
    repeat' (first | (refine ifP_dc (fun hp => ?_) (fun hp => ?_) <;> try simp only [go_sem, wp_sq, reduceIte, Nat.reduceEqDiff, Nat.reduceAdd, Nat.reduceBEq, reduceCtorEq, n2, n3, hp]) | (refine ifP_b (fun hp => ?_) (fun hp => ?_) <;> try simp only [go_sem, wp_sq, reduceIte, Nat.reduceEqDiff, Nat.reduceAdd, Nat.reduceBEq, reduceCtorEq, n2, n3, hp]))
    all_goals first
      | (refine ret_one (b := none) rfl ?_; exact ⟨false, rfl, fun h => by cases h⟩)
      | (refine ⟨by repeat' first | exact hf | exact rfl | exact Fr0.refl _ _ | apply Fr0.upd | exact hf2 | refine Fr0.sub hf2 rfl ?_ | refine Fr0.sub hf rfl ?_, ?_⟩; unfold Keep; (try simp only [decide_eq_true_eq, decide_eq_false_iff_not] at *) <;> first | trivial | omega)
  rintro e4 S4 hf4 hgo
  unfold Keep at hgo
  have o2 : e4 2 = .iptr (eFn f) 0 := (hf4 2 rfl).trans n2
  have o3 : e4 3 = .iptr (eIn x) 0 := (hf4 3 rfl).trans n3
  clear hf4 n2 n3
  have hok : RangeOk f x := ⟨hdst, hus, hgo⟩
  by_cases hc : 0 ≤ x.catch_ ∧ x.catch_ < f.code.length
  · obtain ⟨c, hcc⟩ := Int.eq_ofNat_of_zero_le hc.1
    have hcl : c < f.code.length := by omega
    simp only [go_sem, wp_sq, reduceIte, Nat.reduceEqDiff, Nat.reduceAdd, Nat.reduceBEq, reduceCtorEq, o2, o3, hcc, hcl]
    repeat' (refine ifP_dc (fun hp => ?_) (fun hp => ?_) <;> try simp only [go_sem, wp_sq, reduceIte, Nat.reduceEqDiff, Nat.reduceAdd, Nat.reduceBEq, reduceCtorEq, o2, o3, hcc, hcl, hp])
    all_goals (refine ret_one (b := none) rfl ?_; exact ⟨_, rfl, fun _ => hok⟩)
  · simp only [go_sem, wp_sq, reduceIte, Nat.reduceEqDiff, Nat.reduceAdd, Nat.reduceBEq, reduceCtorEq, o2, o3]
    repeat' (refine ifP_dc (fun hp => ?_) (fun hp => ?_) <;> try simp only [go_sem, wp_sq, reduceIte, Nat.reduceEqDiff, Nat.reduceAdd, Nat.reduceBEq, reduceCtorEq, o2, o3, hp])
    all_goals first
      | (refine ret_one (b := none) rfl ?_; exact ⟨_, rfl, fun _ => hok⟩)
      | (exfalso; simp only [decide_eq_true_eq, decide_eq_false_iff_not] at *; omega)
end Go.Proofs.YtfmicbbflpkdgaaGreatDoor.D
