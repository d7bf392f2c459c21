/-
  Contracts: part 20: the hierarchy's targets (the reference's).
-/
import Derived.Test.YtfmicbbflpkdgaaGreatDoorA29
import Derived.Test.YtfmicbbflpkdgaaGreatDoorA09
set_option linter.unusedVariables false
set_option linter.unusedSimpArgs false
namespace Go.Proofs.YtfmicbbflpkdgaaGreatDoor.D
-- V2

variable {P : Program}

theorem dslice_hi {k n : Nat} {nf : Option Bool} {rows : List (List DV)} {tl : Tl} {kd : IntKind} (h : n ≤ rows.length) : dSlice (.isl k nf rows tl) none (some (.int kd (n : Int))) = some (.isl k nf (rows.take n) (tl.shift 0 (Nat.beq n rows.length))) := by
  have e1 : Nat.ble n rows.length = true := by rw [bleN]; simpa using h
  have e2 : Nat.ble 0 n = true := by rw [bleN]; simp
  have e3 : takeN (Nat.sub n 0) (dropN 0 rows) = rows.take n := by
    rw [takeN_eq, dropN_eq]
    rfl
  simp only [dSlice, bound, dnat_cast, lenN_eq, e1, e2, e3]
theorem dslice_lo {k n : Nat} {nf : Option Bool} {rows : List (List DV)} {tl : Tl} {kd : IntKind} (h : n ≤ rows.length) : dSlice (.isl k nf rows tl) (some (.int kd (n : Int))) none = some (.isl k nf (rows.drop n) (tl.shift n (Nat.beq rows.length rows.length))) := by
  have e1 : Nat.ble rows.length rows.length = true := by rw [bleN]; simp
  have e2 : Nat.ble n rows.length = true := by rw [bleN]; simpa using h
  have e3 : takeN (Nat.sub rows.length n) (dropN n rows) = rows.drop n := by
    rw [takeN_eq, dropN_eq]
    apply List.take_of_length_le
    rw [List.length_drop]
    exact Nat.le_refl _
  simp only [dSlice, bound, dnat_cast, lenN_eq, e1, e2, e3]
theorem allScR_rS (l : List Str) : allScR (l.map rS) = true := by
  induction l with
  | nil => rfl
  | cons a l ih => exact ih
theorem f106 (ht : TabOk P gl tab.get) (l : List Str) (s : Str) (hl : l.length ≤ 1000) : Val P gl 106 [.isl 1 none (l.map rS) .no, .str s] fun d => ∃ l' : List Str, d = .isl 1 none (l'.map rS) .no ∧ (∀ x, x ∈ l' ↔ x ∈ l ∨ x = s) ∧ l'.length ≤ l.length + 1 := by
  refine Val.of_wp gl_ok ht (df := d106) rfl (cl_cons (cl_isl cl_rS ..) (cl_cons (.str _) cl_nil)) (fun d hd => by obtain ⟨l', rfl, _⟩ := hd; exact cl_isl cl_rS ..) ?_
  simp only [d106, go_sem, wp_sq, reduceIte, Nat.reduceEqDiff, Nat.reduceAdd, Nat.reduceBEq, reduceCtorEq]
  refine wp_lpE [5, 6, 7, 8, 9, 10, 11, 12, 13, 14, 15, 16, 17, 18, 19] (fun n e _ => Idx l.length 5 n e) l.length (Idx.zero rfl) ?_
  rintro n e S ⟨i, hn, hi, hx⟩ hf
  have hs0 : e 0 = .isl 1 none (l.map rS) .no := hf 0 rfl
  have hs1 : e 1 = .str s := hf 1 rfl
  have hw := wrap_succ (i := i) (by omega)
  have hd1 := dslice_hi (k := 1) (nf := none) (rows := l.map rS) (tl := .no) (kd := .i64) (n := i) (by simpa using hi)
  have hd2 := dslice_lo (k := 1) (nf := none) (rows := l.map rS) (tl := .no) (kd := .i64) (n := i) (by simpa using hi)
  have hAx : ∀ S1 : DS, AppS S1 (.isl 1 (some false) [] .ex) 1 [] := fun _ => ⟨_, _, rfl, .inl rfl⟩
  have htl : (l.take i).map rS = (l.map rS).take i := by simp [List.map_take]
  have hdl : (l.drop i).map rS = (l.map rS).drop i := by simp [List.map_drop]
  have hsc1 : allScR ((l.map rS).take i) = true := by rw [← htl]; exact allScR_rS _
  have hsc2 : allScR ((l.map rS).drop i) = true := by rw [← hdl]; exact allScR_rS _
  have hmem : ∀ x, x ∈ l.take i ++ ([s] ++ l.drop i) ↔ x ∈ l ∨ x = s := by
    intro x
    conv => rhs; rw [← List.take_append_drop i l]
    simp only [List.mem_append, List.mem_singleton]
    constructor
    · rintro (h | h | h) <;> simp [h]
    · rintro ((h | h) | h) <;> simp [h]
  have hlen : (l.take i ++ ([s] ++ l.drop i)).length ≤ l.length + 1 := by simp; omega
  have hrow : ((l.map rS).take i ++ [[DV.str s]]) ++ (l.map rS).drop i = (l.take i ++ ([s] ++ l.drop i)).map rS := by
    rw [← htl, ← hdl]
    simp [rS]
  by_cases h1 : i < l.length
  · simp only [go_sem, wp_sq, reduceIte, Nat.reduceEqDiff, Nat.reduceAdd, Nat.reduceBEq, reduceCtorEq, hs0, hs1, hx, hw, h1]
    refine ifP_b (fun hp => ?_) (fun hp => ?_)
    · simp only [go_sem, wp_sq, reduceIte, Nat.reduceEqDiff, Nat.reduceAdd, Nat.reduceBEq, reduceCtorEq, hs0, hs1, hx, hw, h1]
      exact ⟨_, by omega, rfl, (by repeat' first | exact hf | exact rfl | exact Fr0.refl _ _ | apply Fr0.upd | exact hf2 | refine Fr0.sub hf2 rfl ?_ | refine Fr0.sub hf rfl ?_), i + 1, rfl, by omega, rfl⟩
    · simp only [go_sem, wp_sq, reduceIte, Nat.reduceEqDiff, Nat.reduceAdd, Nat.reduceBEq, reduceCtorEq, hs0, hs1, hx, hw, h1]
      refine ifP_dc (fun hc => ?_) (fun hc => ?_)
      · simp only [go_sem, wp_sq, reduceIte, Nat.reduceEqDiff, Nat.reduceAdd, Nat.reduceBEq, reduceCtorEq, hs0, hs1, hx, hw, h1]
        refine ret_one (b := none) rfl ?_
        have hc := of_decide_eq_true hc
        exact ⟨l, rfl, fun x => ⟨.inl, fun h => h.elim id fun h => by rw [h, ← hc]; exact List.getElem_mem h1⟩, Nat.le_succ _⟩
      · simp only [go_sem, wp_sq, reduceIte, Nat.reduceEqDiff, Nat.reduceAdd, Nat.reduceBEq, reduceCtorEq, hs0, hs1, hx, hw, h1]
        refine wp_rdH ?_
        simp only [go_sem, wp_sq, reduceIte, Nat.reduceEqDiff, Nat.reduceAdd, Nat.reduceBEq, reduceCtorEq, hs0, hs1, hx, hw, h1, hd1, hd2, Tl.shift]
        refine ex_app (hAx S) hsc1 (by simp) (by simp; omega) (Nat.le_refl _) (fun v ps hA => ?_)
        have hA1 := hA (S.nx + 1) (by omega)
        refine ex_app (S := DS.puts ⟨S.h, S.nx + 1⟩ ps) hA1 rfl (by simp; omega) (by simp) (Nat.le_refl _) (fun v2 ps2 hB => ?_)
        have hB1 := hB (S.nx + 2) (Nat.lt_succ_self _)
        refine ex_app (S := DS.puts ⟨(DS.puts ⟨S.h, S.nx + 1⟩ ps).h, S.nx + 2⟩ ps2) hB1 hsc2 (by simp; omega) (by simp; omega) (Nat.le_refl _) (fun v3 ps3 hC => ?_)
        have hC1 := hC (S.nx + 3) (Nat.lt_succ_self _)
        refine ret_one (b := none) hC1.fz ?_
        exact ⟨_, by rw [List.nil_append, hrow], hmem, hlen⟩
  · simp only [go_sem, wp_sq, reduceIte, Nat.reduceEqDiff, Nat.reduceAdd, Nat.reduceBEq, reduceCtorEq, hs0, hs1, hx, hw, h1]
    refine wp_rdH ?_
    simp only [go_sem, wp_sq, reduceIte, Nat.reduceEqDiff, Nat.reduceAdd, Nat.reduceBEq, reduceCtorEq, hs0, hs1, hx, hw, h1, hd1, hd2, Tl.shift]
    refine ex_app (hAx S) hsc1 (by simp) (by simp; omega) (Nat.le_refl _) (fun v ps hA => ?_)
    have hA1 := hA (S.nx + 1) (by omega)
    refine ex_app (S := DS.puts ⟨S.h, S.nx + 1⟩ ps) hA1 rfl (by simp; omega) (by simp) (Nat.le_refl _) (fun v2 ps2 hB => ?_)
    have hB1 := hB (S.nx + 2) (Nat.lt_succ_self _)
    refine ex_app (S := DS.puts ⟨(DS.puts ⟨S.h, S.nx + 1⟩ ps).h, S.nx + 2⟩ ps2) hB1 hsc2 (by simp; omega) (by simp; omega) (Nat.le_refl _) (fun v3 ps3 hC => ?_)
    have hC1 := hC (S.nx + 3) (Nat.lt_succ_self _)
    refine ret_one (b := none) hC1.fz ?_
    exact ⟨_, by rw [List.nil_append, hrow], hmem, hlen⟩
/-- A class is below a class. -/
def subP (h : NHier) (c x : Str) : Prop := ∃ y, y ∈ h ∧ y.name = x ∧ isSub h x c = true
def tgtP (h : NHier) (c m t : Str) : Prop := ∃ s, subP h c s ∧ ∃ g, lookupN h s m = some (t, g)
theorem f104 (ht : TabOk P gl tab.get) (h : NHier) (c : Str) (hl : h.length ≤ 900) : Val P gl 104 [.agg (eHr h), .str c] fun d => ∃ l : List Str, d = .isl 1 none (l.map rS) .no ∧ (∀ x, x ∈ l ↔ subP h c x) ∧ l.length ≤ h.length := by
  refine Val.of_wp gl_ok ht (df := d104) rfl (cl_cons (.agg _ (cl_eHr h)) (cl_cons (.str _) cl_nil)) (fun d hd => by obtain ⟨l', rfl, _⟩ := hd; exact cl_isl cl_rS ..) ?_
  simp only [d104, go_sem, wp_sq, reduceIte, Nat.reduceEqDiff, Nat.reduceAdd, Nat.reduceBEq, reduceCtorEq]
  refine wp_lpE [5, 6, 7, 8, 9, 10, 11, 12, 13, 14, 15, 16, 17, 18, 19, 20, 21, 22, 23, 24, 25, 26, 27, 28, 29, 30] (fun n e _ => ∃ i : Nat, n = h.length - i ∧ i ≤ h.length ∧ e 6 = .int .i64 i ∧ ∃ l nf tl, e 5 = .isl 1 nf (l.map rS) tl ∧ (∀ x, x ∈ l ↔ ∃ y, y ∈ h.take i ∧ y.name = x ∧ isSub h x c = true) ∧ l.length ≤ i) h.length ⟨0, rfl, Nat.zero_le _, rfl, [], _, _, rfl, by simp, Nat.le_refl _⟩ ?_
  rintro n e S ⟨i, hn, hi, hx, l, nf, tl, h5, hI, hll⟩ hf
  have hs2 : e 2 = .iptr (eHr h) 0 := hf 2 rfl
  have hs1 : e 1 = .str c := hf 1 rfl
  have hw := wrap_succ (i := i) (by omega)
  by_cases h1 : i < h.length
  · simp only [go_sem, wp_sq, reduceIte, Nat.reduceEqDiff, Nat.reduceAdd, Nat.reduceBEq, reduceCtorEq, hs1, hs2, hx, h5, hw, h1]
    refine wp_rdH ?_
    simp only [go_sem, wp_sq, reduceIte, Nat.reduceEqDiff, Nat.reduceAdd, Nat.reduceBEq, reduceCtorEq, hs1, hs2, hx, h5, hw, h1]
    refine ex_call (f74 ht h h[i].name c (by omega)) ?_
    rintro _ rfl
    simp only [go_sem, wp_sq, reduceIte, Nat.reduceEqDiff, Nat.reduceAdd, Nat.reduceBEq, reduceCtorEq, hs1, hs2, hx, h5, hw, h1]
    refine ifP_b (fun hb => ?_) (fun hb => ?_)
    · simp only [go_sem, wp_sq, reduceIte, Nat.reduceEqDiff, Nat.reduceAdd, Nat.reduceBEq, reduceCtorEq, hs1, hs2, hx, h5, hw, h1]
      refine ex_call (Val.w0 (f106 ht l h[i].name (by omega))) ?_
      rintro _ ⟨l', rfl, hm, hl'⟩
      simp only [go_sem, wp_sq, reduceIte, Nat.reduceEqDiff, Nat.reduceAdd, Nat.reduceBEq, reduceCtorEq, hs1, hs2, hx, h5, hw, h1]
      refine ⟨_, by omega, rfl, (by repeat' first | exact hf | exact rfl | exact Fr0.refl _ _ | apply Fr0.upd | exact hf2 | refine Fr0.sub hf2 rfl ?_ | refine Fr0.sub hf rfl ?_), i + 1, rfl, by omega, rfl, l', _, _, rfl, fun x => ?_, by omega⟩
      rw [hm, hI, List.take_succ_eq_append_getElem h1]
      simp only [List.mem_append, List.mem_singleton]
      constructor
      · rintro (⟨y, g1, g2, g3⟩ | rfl)
        · exact ⟨y, .inl g1, g2, g3⟩
        · exact ⟨_, .inr rfl, rfl, hb⟩
      · rintro ⟨y, g1 | rfl, g2, g3⟩
        · exact .inl ⟨y, g1, g2, g3⟩
        · exact .inr g2.symm
    · simp only [go_sem, wp_sq, reduceIte, Nat.reduceEqDiff, Nat.reduceAdd, Nat.reduceBEq, reduceCtorEq, hs1, hs2, hx, h5, hw, h1]
      refine ⟨_, by omega, rfl, (by repeat' first | exact hf | exact rfl | exact Fr0.refl _ _ | apply Fr0.upd | exact hf2 | refine Fr0.sub hf2 rfl ?_ | refine Fr0.sub hf rfl ?_), i + 1, rfl, by omega, rfl, l, _, _, h5, fun x => ?_, by omega⟩
      rw [hI, List.take_succ_eq_append_getElem h1]
      simp only [List.mem_append, List.mem_singleton]
      constructor
      · rintro ⟨y, g1, g2, g3⟩
        exact ⟨y, .inl g1, g2, g3⟩
      · rintro ⟨y, g1 | rfl, g2, g3⟩
        · exact ⟨y, g1, g2, g3⟩
        · rw [← g2, hb] at g3
          cases g3
  · simp only [go_sem, wp_sq, reduceIte, Nat.reduceEqDiff, Nat.reduceAdd, Nat.reduceBEq, reduceCtorEq, hs1, hs2, hx, h5, hw, h1]
    refine ret_one (b := none) rfl ?_
    rw [List.take_of_length_le (by omega)] at hI
    exact ⟨l, rfl, hI, by omega⟩
theorem f66 (ht : TabOk P gl tab.get) (h : NHier) (c m : Str) (hl : h.length ≤ 900) (hml : ∀ x, x ∈ h → x.methods.length < 4611686018427387904) : Val P gl 66 [.agg (eHr h), .str c, .str m] fun d => ∃ l : List Str, d = .isl 1 none (l.map rS) .no ∧ (∀ x, x ∈ l ↔ tgtP h c m x) ∧ l.length ≤ h.length := by
  refine Val.of_wp gl_ok ht (df := d66) rfl (cl_cons (.agg _ (cl_eHr h)) (cl_cons (.str _) (cl_cons (.str _) cl_nil))) (fun d hd => by obtain ⟨l', rfl, _⟩ := hd; exact cl_isl cl_rS ..) ?_
  simp only [d66, go_sem, wp_sq, reduceIte, Nat.reduceEqDiff, Nat.reduceAdd, Nat.reduceBEq, reduceCtorEq]
  refine ex_call (f104 ht h c hl) ?_
  rintro _ ⟨sl, rfl, hsl, hsll⟩
  simp only [go_sem, wp_sq, reduceIte, Nat.reduceEqDiff, Nat.reduceAdd, Nat.reduceBEq, reduceCtorEq]
  refine wp_lpE [7, 9, 10, 11, 12, 16, 17, 18, 19, 20, 21, 22, 23, 24, 25, 26, 27, 28, 29, 30, 31, 32, 33, 34, 35, 36] (fun n e _ => ∃ i : Nat, n = sl.length - i ∧ i ≤ sl.length ∧ e 9 = .int .i64 i ∧ ∃ l nf tl, e 7 = .isl 1 nf (l.map rS) tl ∧ (∀ x, x ∈ l ↔ ∃ s, s ∈ sl.take i ∧ ∃ g, lookupN h s m = some (x, g)) ∧ l.length ≤ i) sl.length ⟨0, rfl, Nat.zero_le _, rfl, [], _, _, rfl, by simp, Nat.le_refl _⟩ ?_
  rintro n e S ⟨i, hn, hi, hx, l, nf, tl, h7, hI, hll⟩ hf
  have hs3 : e 3 = .iptr (eHr h) 0 := hf 3 rfl
  have hs2 : e 2 = .str m := hf 2 rfl
  have hs8 : e 8 = .isl 1 none (sl.map rS) .no := hf 8 rfl
  have hw := wrap_succ (i := i) (by omega)
  by_cases h1 : i < sl.length
  · simp only [go_sem, wp_sq, reduceIte, Nat.reduceEqDiff, Nat.reduceAdd, Nat.reduceBEq, reduceCtorEq, hs3, hs2, hs8, hx, h7, hw, h1]
    refine wp_rdH ?_
    simp only [go_sem, wp_sq, reduceIte, Nat.reduceEqDiff, Nat.reduceAdd, Nat.reduceBEq, reduceCtorEq, hs3, hs2, hs8, hx, h7, hw, h1]
    refine ex_call (f105 ht h sl[i] m (by omega) hml) ?_
    rintro _ rfl
    have hst : ∀ o, lookupN h sl[i] m = o → (∀ x, x ∈ sl.take (i + 1) ↔ x ∈ sl.take i ∨ x = sl[i]) := fun _ _ x => by
      rw [List.take_succ_eq_append_getElem h1, List.mem_append, List.mem_singleton]
    cases ho : lookupN h sl[i] m with
    | none =>
      simp only [go_sem, wp_sq, reduceIte, Nat.reduceEqDiff, Nat.reduceAdd, Nat.reduceBEq, reduceCtorEq, lookV, zSg, hs3, hs2, hs8, hx, h7, hw, h1]
      refine ⟨_, _, _, rfl, put_same _ _ _, rfl, rfl, rfl, ?_⟩
      simp only [go_sem, wp_sq, reduceIte, Nat.reduceEqDiff, Nat.reduceAdd, Nat.reduceBEq, reduceCtorEq, lookV, zSg, hs3, hs2, hs8, hx, h7, hw, h1]
      refine ⟨_, by omega, rfl, (by repeat' first | exact hf | exact rfl | exact Fr0.refl _ _ | apply Fr0.upd | exact hf2 | refine Fr0.sub hf2 rfl ?_ | refine Fr0.sub hf rfl ?_), i + 1, rfl, by omega, rfl, l, _, _, h7, fun x => ?_, by omega⟩
      rw [hI]
      constructor
      · rintro ⟨s, g1, g2⟩
        exact ⟨s, (hst _ rfl _).2 (.inl g1), g2⟩
      · rintro ⟨s, g1, g, g2⟩
        rcases (hst _ rfl _).1 g1 with g1 | rfl
        · exact ⟨s, g1, g, g2⟩
        · rw [ho] at g2; cases g2
    | some p =>
      simp only [go_sem, wp_sq, reduceIte, Nat.reduceEqDiff, Nat.reduceAdd, Nat.reduceBEq, reduceCtorEq, lookV, hs3, hs2, hs8, hx, h7, hw, h1]
      refine ⟨_, _, _, rfl, put_same _ _ _, rfl, rfl, rfl, ?_⟩
      simp only [go_sem, wp_sq, reduceIte, Nat.reduceEqDiff, Nat.reduceAdd, Nat.reduceBEq, reduceCtorEq, lookV, hs3, hs2, hs8, hx, h7, hw, h1]
      refine ex_call (Val.w0 (f106 ht l p.1 (by omega))) ?_
      rintro _ ⟨l', rfl, hm, hl'⟩
      simp only [go_sem, wp_sq, reduceIte, Nat.reduceEqDiff, Nat.reduceAdd, Nat.reduceBEq, reduceCtorEq, lookV, hs3, hs2, hs8, hx, h7, hw, h1]
      refine ⟨_, by omega, rfl, (by repeat' first | exact hf | exact rfl | exact Fr0.refl _ _ | apply Fr0.upd | exact hf2 | refine Fr0.sub hf2 rfl ?_ | refine Fr0.sub hf rfl ?_), i + 1, rfl, by omega, rfl, l', _, _, rfl, fun x => ?_, by omega⟩
      rw [hm, hI]
      constructor
      · rintro (⟨s, g1, g2⟩ | rfl)
        · exact ⟨s, (hst _ rfl _).2 (.inl g1), g2⟩
        · exact ⟨sl[i], (hst _ rfl _).2 (.inr rfl), p.2, ho⟩
      · rintro ⟨s, g1, g, g2⟩
        rcases (hst _ rfl _).1 g1 with g1 | rfl
        · exact .inl ⟨s, g1, g, g2⟩
        · rw [ho] at g2; cases g2; exact .inr rfl
  · simp only [go_sem, wp_sq, reduceIte, Nat.reduceEqDiff, Nat.reduceAdd, Nat.reduceBEq, reduceCtorEq, hs3, hs2, hs8, hx, h7, hw, h1]
    refine ret_one (b := none) rfl ?_
    rw [List.take_of_length_le (by omega)] at hI
    exact ⟨l, rfl, fun x => by rw [hI]; exact ⟨fun ⟨s, g1, g2⟩ => ⟨s, (hsl s).1 g1, g2⟩, fun ⟨s, g1, g2⟩ => ⟨s, (hsl s).2 g1, g2⟩⟩, by omega⟩
end Go.Proofs.YtfmicbbflpkdgaaGreatDoor.D
/-
  Contracts: part 21: targets and call edges (the reference's).
-/
namespace Go.Proofs.YtfmicbbflpkdgaaGreatDoor.D
-- V2

variable {P : Program}

/-- The function of a class and a name. -/
def funcN : List NFunc → Str → Str → Option Nat
  | [], _, _ => none
  | x :: l, c, m => if x.cls = c ∧ x.name = m then some 0 else (funcN l c m).map (· + 1)
def funcZ (l : List NFunc) (c m : Str) : Int := match funcN l c m with | some i => (i : Int) | none => -1
theorem funcN_none {c m : Str} : ∀ {l : List NFunc}, (∀ x, x ∈ l → ¬ (x.cls = c ∧ x.name = m)) → funcN l c m = none
  | [], _ => rfl
  | x :: l, hh => by
    simp only [funcN, if_neg (hh x (by simp)), funcN_none (l := l) fun y hy => hh y (by simp [hy]), Option.map_none]
theorem funcN_at {c m : Str} : ∀ {l : List NFunc} {i : Nat} (hi : i < l.length), (∀ x, x ∈ l.take i → ¬ (x.cls = c ∧ x.name = m)) → (l[i].cls = c ∧ l[i].name = m) → funcN l c m = some i
  | [], i, hi, _, _ => by simp at hi
  | x :: l, 0, _, _, h2 => by exact if_pos h2
  | x :: l, i + 1, hi, h1, h2 => by
    simp only [funcN, if_neg (h1 x (by simp)), funcN_at (l := l) (i := i) (by simpa using hi) (fun y hy => h1 y (by simp [hy])) h2, Option.map_some]
theorem funcN_lt {c m : Str} : ∀ {l : List NFunc} {i : Nat}, funcN l c m = some i → i < l.length
  | [], i, h => by simp [funcN] at h
  | x :: l, i, hh => by
    simp only [funcN] at hh
    split at hh
    · cases hh; simp
    · cases hf : funcN l c m with
      | none => rw [hf] at hh; cases hh
      | some j =>
        rw [hf] at hh
        cases hh
        have := funcN_lt hf
        simp only [List.length_cons]
        omega
theorem funcZ_eq {l : List NFunc} {c m : Str} {g : Nat} : funcZ l c m = (g : Int) ↔ funcN l c m = some g := by
  unfold funcZ
  cases funcN l c m with
  | none => simp
  | some i => simp; omega
theorem f103 (ht : TabOk P gl tab.get) (u : NUnit) (c m : Str) (hl : u.funcs.length < 4611686018427387904) : Val P gl 103 [.agg (eUn u), .str c, .str m] fun d => d = .int .i64 (funcZ u.funcs c m) := by
  refine Val.of_wp gl_ok ht (df := d103) rfl (cl_cons (.agg _ (cl_eUn u)) (cl_cons (.str _) (cl_cons (.str _) cl_nil))) (fun d hd => by rw [hd]; exact .int _ _) ?_
  simp only [d103, go_sem, wp_sq, reduceIte, Nat.reduceEqDiff, Nat.reduceAdd, Nat.reduceBEq, reduceCtorEq]
  refine wp_lpE [6, 7, 8, 9, 10, 11, 12, 13, 14, 15, 16, 17, 18, 19, 20, 21, 22, 23, 24, 25, 26, 27, 28, 29, 30, 31, 32, 33] (fun n e _ => ∃ i : Nat, n = u.funcs.length - i ∧ i ≤ u.funcs.length ∧ e 7 = .int .i64 i ∧ ∀ x, x ∈ u.funcs.take i → ¬ (x.cls = c ∧ x.name = m)) u.funcs.length ⟨0, rfl, Nat.zero_le _, rfl, by simp⟩ ?_
  rintro n e S ⟨i, hn, hi, hx, hI⟩ hf
  have hs3 : e 3 = .iptr (eUn u) 0 := hf 3 rfl
  have hs1 : e 1 = .str c := hf 1 rfl
  have hs2 : e 2 = .str m := hf 2 rfl
  have hw := wrap_succ (i := i) (by omega)
  by_cases h1 : i < u.funcs.length
  · by_cases hc : u.funcs[i].cls = c
    · by_cases hm : u.funcs[i].name = m
      · simp only [go_sem, wp_sq, reduceIte, Nat.reduceEqDiff, Nat.reduceAdd, Nat.reduceBEq, reduceCtorEq, hs3, hs1, hs2, hx, hw, h1, hc, hm]
        refine ret_one (b := none) rfl ?_
        rw [funcZ, funcN_at h1 hI ⟨hc, hm⟩]
        rfl
      · simp only [go_sem, wp_sq, reduceIte, Nat.reduceEqDiff, Nat.reduceAdd, Nat.reduceBEq, reduceCtorEq, hs3, hs1, hs2, hx, hw, h1, hc, hm]
        exact ⟨_, by omega, rfl, (by repeat' first | exact hf | exact rfl | exact Fr0.refl _ _ | apply Fr0.upd | exact hf2 | refine Fr0.sub hf2 rfl ?_ | refine Fr0.sub hf rfl ?_), i + 1, rfl, by omega, rfl, take_all hI h1 fun h => hm h.2⟩
    · simp only [go_sem, wp_sq, reduceIte, Nat.reduceEqDiff, Nat.reduceAdd, Nat.reduceBEq, reduceCtorEq, hs3, hs1, hs2, hx, hw, h1, hc]
      exact ⟨_, by omega, rfl, (by repeat' first | exact hf | exact rfl | exact Fr0.refl _ _ | apply Fr0.upd | exact hf2 | refine Fr0.sub hf2 rfl ?_ | refine Fr0.sub hf rfl ?_), i + 1, rfl, by omega, rfl, take_all hI h1 fun h => hc h.1⟩
  · simp only [go_sem, wp_sq, reduceIte, Nat.reduceEqDiff, Nat.reduceAdd, Nat.reduceBEq, reduceCtorEq, hs3, hs1, hs2, hx, hw, h1]
    refine ret_one (b := none) rfl ?_
    rw [funcZ, funcN_none (take_end hI h1)]
    rfl
theorem f65 (ht : TabOk P gl tab.get) (u : NUnit) (c m : Str) (hl : u.funcs.length < 4611686018427387904) : Val P gl 65 [.agg (eUn u), .str c, .str m] fun d => d = .int .i64 (funcZ u.funcs c m) := by
  refine Val.of_wp gl_ok ht (df := d65) rfl (cl_cons (.agg _ (cl_eUn u)) (cl_cons (.str _) (cl_cons (.str _) cl_nil))) (fun d hd => by rw [hd]; exact .int _ _) ?_
  simp only [d65, go_sem, wp_sq, reduceIte, Nat.reduceEqDiff, Nat.reduceAdd, Nat.reduceBEq, reduceCtorEq]
  refine ex_call (f103 ht u c m hl) ?_
  rintro _ rfl
  simp only [go_sem, wp_sq, reduceIte, Nat.reduceEqDiff, Nat.reduceAdd, Nat.reduceBEq, reduceCtorEq]
  exact ret_one (b := none) rfl rfl
/-- What a call can execute. -/
def canP (u : NUnit) (x : NInstr) (g : Nat) : Prop := (x.op = 10 ∧ funcN u.funcs x.cls x.name = some g) ∨ (x.op ≠ 10 ∧ ∃ t, tgtP u.hier x.cls x.name t ∧ funcN u.funcs t x.name = some g)
theorem f34 (ht : TabOk P gl tab.get) (u : NUnit) (x : NInstr) (g : Nat) (hl : u.funcs.length < 4611686018427387904) (hh : u.hier.length ≤ 900) (hml : ∀ x, x ∈ u.hier → x.methods.length < 4611686018427387904) : Val P gl 34 [.agg (eUn u), .agg (eIn x), .int .i64 g] fun d => ∃ b, d = .bool b ∧ (b = true ↔ canP u x g) := by
  refine Val.of_wp gl_ok ht (df := d34) rfl (cl_cons (.agg _ (cl_eUn u)) (cl_cons (.agg _ (cl_eIn x)) (cl_cons (.int _ _) cl_nil))) (fun d hd => by obtain ⟨b, rfl, _⟩ := hd; exact .bool _) ?_
  by_cases h0 : x.op = 10
  · have e1 : decide (x.op = 10) = true := decide_eq_true h0
    simp only [d34, go_sem, wp_sq, reduceIte, Nat.reduceEqDiff, Nat.reduceAdd, Nat.reduceBEq, reduceCtorEq, e1]
    refine ex_call (f65 ht u x.cls x.name hl) ?_
    rintro _ rfl
    simp only [go_sem, wp_sq, reduceIte, Nat.reduceEqDiff, Nat.reduceAdd, Nat.reduceBEq, reduceCtorEq]
    refine ret_one (b := none) rfl ?_
    refine ⟨_, rfl, ?_⟩
    rw [decide_eq_true_iff, funcZ_eq]
    exact ⟨fun h => .inl ⟨h0, h⟩, fun h => h.elim (fun h => h.2) fun h => absurd h0 h.1⟩
  · have e1 : decide (x.op = 10) = false := decide_eq_false h0
    simp only [d34, go_sem, wp_sq, reduceIte, Nat.reduceEqDiff, Nat.reduceAdd, Nat.reduceBEq, reduceCtorEq, e1]
    refine ex_call (f66 ht u.hier x.cls x.name hh hml) ?_
    rintro _ ⟨l, rfl, hlm, hll⟩
    simp only [go_sem, wp_sq, reduceIte, Nat.reduceEqDiff, Nat.reduceAdd, Nat.reduceBEq, reduceCtorEq]
    refine wp_lpE [6, 8, 27, 28, 29, 30, 31, 32, 33, 34, 35, 36, 37, 38, 39, 40, 41, 42] (fun n e _ => ∃ i : Nat, n = l.length - i ∧ i ≤ l.length ∧ e 8 = .int .i64 i ∧ ∀ t, t ∈ l.take i → funcN u.funcs t x.name ≠ some g) l.length ⟨0, rfl, Nat.zero_le _, rfl, by simp⟩ ?_
    rintro n e S ⟨i, hn, hi, hx, hI⟩ hf
    have hs3 : e 3 = .iptr (eUn u) 0 := hf 3 rfl
    have hs4 : e 4 = .iptr (eIn x) 0 := hf 4 rfl
    have hs2 : e 2 = .int .i64 g := hf 2 rfl
    have hs7 : e 7 = .isl 1 none (l.map rS) .no := hf 7 rfl
    have hw := wrap_succ (i := i) (by omega)
    by_cases h1 : i < l.length
    · simp only [go_sem, wp_sq, reduceIte, Nat.reduceEqDiff, Nat.reduceAdd, Nat.reduceBEq, reduceCtorEq, hs3, hs4, hs2, hs7, hx, hw, h1]
      refine wp_rdH ?_
      simp only [go_sem, wp_sq, reduceIte, Nat.reduceEqDiff, Nat.reduceAdd, Nat.reduceBEq, reduceCtorEq, hs3, hs4, hs2, hs7, hx, hw, h1]
      refine ex_call (f65 ht u l[i] x.name hl) ?_
      rintro _ rfl
      simp only [go_sem, wp_sq, reduceIte, Nat.reduceEqDiff, Nat.reduceAdd, Nat.reduceBEq, reduceCtorEq, hs3, hs4, hs2, hs7, hx, hw, h1]
      refine ifP_dec (fun hc => ?_) (fun hc => ?_)
      · simp only [go_sem, wp_sq, reduceIte, Nat.reduceEqDiff, Nat.reduceAdd, Nat.reduceBEq, reduceCtorEq]
        refine ret_one (b := none) rfl ?_
        exact ⟨_, rfl, fun _ => .inr ⟨h0, l[i], (hlm _).1 (List.getElem_mem h1), funcZ_eq.1 hc⟩, fun _ => rfl⟩
      · simp only [go_sem, wp_sq, reduceIte, Nat.reduceEqDiff, Nat.reduceAdd, Nat.reduceBEq, reduceCtorEq, hs3, hs4, hs2, hs7, hx, hw, h1]
        exact ⟨_, by omega, rfl, (by repeat' first | exact hf | exact rfl | exact Fr0.refl _ _ | apply Fr0.upd | exact hf2 | refine Fr0.sub hf2 rfl ?_ | refine Fr0.sub hf rfl ?_), i + 1, rfl, by omega, rfl, take_all hI h1 fun h => hc (funcZ_eq.2 h)⟩
    · simp only [go_sem, wp_sq, reduceIte, Nat.reduceEqDiff, Nat.reduceAdd, Nat.reduceBEq, reduceCtorEq, hs3, hs4, hs2, hs7, hx, hw, h1]
      refine ret_one (b := none) rfl ?_
      refine ⟨_, rfl, fun h => (by cases h), fun h => ?_⟩
      rcases h with h | ⟨_, t, h2, h3⟩
      · exact absurd h.1 h0
      · exact absurd h3 (take_end hI h1 t ((hlm t).2 h2))
def isCall (x : NInstr) : Prop := x.op = 9 ∨ x.op = 10
theorem f33 (ht : TabOk P gl tab.get) (x : NInstr) : Val P gl 33 [.agg (eIn x)] fun d => ∃ b, d = .bool b ∧ (b = true ↔ isCall x) := by
  refine Val.of_wp gl_ok ht (df := d33) rfl (cl_cons (.agg _ (cl_eIn x)) cl_nil) (fun d hd => by obtain ⟨b, rfl, _⟩ := hd; exact .bool _) ?_
  by_cases h0 : x.op = 9
  · have e1 : decide (x.op = 9) = true := decide_eq_true h0
    simp only [d33, go_sem, wp_sq, reduceIte, Nat.reduceEqDiff, Nat.reduceAdd, Nat.reduceBEq, reduceCtorEq, e1]
    refine ret_one (b := none) rfl ?_
    exact ⟨_, rfl, fun _ => .inl h0, fun _ => rfl⟩
  · have e1 : decide (x.op = 9) = false := decide_eq_false h0
    simp only [d33, go_sem, wp_sq, reduceIte, Nat.reduceEqDiff, Nat.reduceAdd, Nat.reduceBEq, reduceCtorEq, e1]
    refine ret_one (b := none) rfl ?_
    exact ⟨_, rfl, fun h => .inr (of_decide_eq_true h), fun h => h.elim (fun h => absurd h h0) fun h => decide_eq_true h⟩
theorem f31 (ht : TabOk P gl tab.get) (x : NInstr) : Val P gl 31 [.agg (eIn x)] fun d => ∃ b, d = .bool b ∧ (b = true ↔ isCall x) := by
  refine Val.of_wp gl_ok ht (df := d31) rfl (cl_cons (.agg _ (cl_eIn x)) cl_nil) (fun d hd => by obtain ⟨b, rfl, _⟩ := hd; exact .bool _) ?_
  by_cases h0 : x.op = 9
  · have e1 : decide (x.op = 9) = true := decide_eq_true h0
    simp only [d31, go_sem, wp_sq, reduceIte, Nat.reduceEqDiff, Nat.reduceAdd, Nat.reduceBEq, reduceCtorEq, e1]
    refine ret_one (b := none) rfl ?_
    exact ⟨_, rfl, fun _ => .inl h0, fun _ => rfl⟩
  · have e1 : decide (x.op = 9) = false := decide_eq_false h0
    simp only [d31, go_sem, wp_sq, reduceIte, Nat.reduceEqDiff, Nat.reduceAdd, Nat.reduceBEq, reduceCtorEq, e1]
    refine ret_one (b := none) rfl ?_
    exact ⟨_, rfl, fun h => .inr (of_decide_eq_true h), fun h => h.elim (fun h => absurd h h0) fun h => decide_eq_true h⟩
def callP (u : NUnit) (f i : Int) (g : Nat) : Prop := ∃ (k j : Nat) (fn : NFunc) (x : NInstr), f = k ∧ i = j ∧ u.funcs[k]? = some fn ∧ fn.code[j]? = some x ∧ isCall x ∧ canP u x g
def TarsOk (u : NUnit) (f i : Int) (l : List Nat) : Prop := l.Pairwise (· < ·) ∧ ∀ g, g ∈ l ↔ callP u f i g
theorem sorted_ext : ∀ {l m : List Nat}, l.Pairwise (· < ·) → m.Pairwise (· < ·) → (∀ x, x ∈ l ↔ x ∈ m) → l = m := by
  intro l m h1 h2 h
  have n1 : l.Nodup := h1.imp fun {a b} h => by omega
  have n2 : m.Nodup := h2.imp fun {a b} h => by omega
  have hp : l.Perm m := (List.perm_ext_iff_of_nodup n1 n2).2 h
  exact List.Perm.eq_of_pairwise (le := fun a b : Nat => a < b) (fun a b _ _ h1 h2 => by omega) h1 h2 hp
theorem TarsOk.eq {u : NUnit} {f i : Int} {l m : List Nat} (h : TarsOk u f i l) (g : TarsOk u f i m) : l = m := sorted_ext h.1 g.1 fun x => (h.2 x).trans (g.2 x).symm
theorem canP_lt {u : NUnit} {x : NInstr} {g : Nat} (h : canP u x g) : g < u.funcs.length := by
  rcases h with h | ⟨_, _, _, h⟩
  · exact funcN_lt h.2
  · exact funcN_lt h
theorem callP_lt {u : NUnit} {f i : Int} {g : Nat} (h : callP u f i g) : g < u.funcs.length := by
  obtain ⟨_, _, _, _, _, _, _, _, _, h⟩ := h
  exact canP_lt h
theorem tars_ex (u : NUnit) (f i : Int) : ∃ l, TarsOk u f i l := by
  classical
  refine ⟨(List.range u.funcs.length).filter fun g => decide (callP u f i g), (List.pairwise_lt_range).filter _, fun g => ?_⟩
  rw [List.mem_filter, List.mem_range, decide_eq_true_iff]
  exact ⟨fun h => h.2, fun h => ⟨callP_lt h, h⟩⟩
theorem TarsOk.len {u : NUnit} {f i : Int} {l : List Nat} (h : TarsOk u f i l) : l.length ≤ u.funcs.length := by
  have n1 : l.Nodup := h.1.imp fun {a b} h => by omega
  have := nodup_len (m := List.range u.funcs.length) n1 fun x hx => List.mem_range.2 (callP_lt ((h.2 x).1 hx))
  simpa using this
theorem tars_nil {u : NUnit} {f i : Int} (h : ∀ g, ¬ callP u f i g) : TarsOk u f i [] := ⟨List.Pairwise.nil, fun g => ⟨fun hg => by simp at hg, fun hg => absurd hg (h g)⟩⟩
def rN (n : Nat) : List DV := [.int .i64 (n : Int)]
theorem cl_rN (z : Nat) : ∀ c, c ∈ rN z → Closed c := by
  simp only [rN, List.mem_singleton, forall_eq]
  exact .int _ _
theorem f12 (ht : TabOk P gl tab.get) (u : NUnit) (hh : u.hier.length ≤ 900) (hml : ∀ x, x ∈ u.hier → x.methods.length < 4611686018427387904) (hn : u.funcs.length ≤ 1000) (hcl : ∀ f, f ∈ u.funcs → f.code.length ≤ 1048576) (f i : Int) (T : List Nat) (hT : TarsOk u f i T) : Val P gl 12 [.agg (eUn u), .int .i64 f, .int .i64 i] fun d => d = .isl 1 none (T.map rN) .no := by
  refine Val.of_wp gl_ok ht (df := d12) rfl (cl_cons (.agg _ (cl_eUn u)) (cl_cons (.int _ _) (cl_cons (.int _ _) cl_nil))) (fun d hd => by rw [hd]; exact cl_isl cl_rN ..) ?_
  have hno : (∀ g, ¬ callP u f i g) → DV.isl 1 none [] .no = .isl 1 none (T.map rN) .no := fun h => by rw [hT.eq (tars_nil h)]; rfl
  by_cases e1 : f < 0
  · simp only [d12, go_sem, wp_sq, reduceIte, Nat.reduceEqDiff, Nat.reduceAdd, Nat.reduceBEq, reduceCtorEq, e1]
    refine ret_one (b := none) rfl (hno ?_)
    rintro g ⟨k, j, fn, x, h, _⟩
    omega
  by_cases e2 : (u.funcs.length : Int) ≤ f
  · simp only [d12, go_sem, wp_sq, reduceIte, Nat.reduceEqDiff, Nat.reduceAdd, Nat.reduceBEq, reduceCtorEq, e1, e2]
    refine ret_one (b := none) rfl (hno ?_)
    rintro g ⟨k, j, fn, x, h, _, h2, _⟩
    obtain ⟨h3, _⟩ := List.getElem?_eq_some_iff.1 h2
    omega
  obtain ⟨k, rfl⟩ := Int.eq_ofNat_of_zero_le (show 0 ≤ f by omega)
  have hk : k < u.funcs.length := by omega
  have e3 : decide ((k : Int) < 0) = false := decide_eq_false (by omega)
  have e4 : ¬ u.funcs.length ≤ k := by omega
  have hcl2 := hcl _ (List.getElem_mem hk)
  by_cases e5 : i < 0
  · simp only [d12, go_sem, wp_sq, reduceIte, Nat.reduceEqDiff, Nat.reduceAdd, Nat.reduceBEq, reduceCtorEq, e3, e4, e5]
    refine ret_one (b := none) rfl (hno ?_)
    rintro g ⟨k, j, fn, x, _, h, _⟩
    omega
  by_cases e6 : (u.funcs[k].code.length : Int) ≤ i
  · simp only [d12, go_sem, wp_sq, reduceIte, Nat.reduceEqDiff, Nat.reduceAdd, Nat.reduceBEq, reduceCtorEq, e3, e4, e5, e6, hk]
    refine ret_one (b := none) rfl (hno ?_)
    rintro g ⟨k2, j, fn, x, h1, h, h2, h3, _⟩
    have : k = k2 := by omega
    subst this
    rw [List.getElem?_eq_getElem hk] at h2
    cases h2
    obtain ⟨h3, _⟩ := List.getElem?_eq_some_iff.1 h3
    omega
  obtain ⟨j, rfl⟩ := Int.eq_ofNat_of_zero_le (show 0 ≤ i by omega)
  have hj : j < u.funcs[k].code.length := by omega
  have e7 : decide ((j : Int) < 0) = false := decide_eq_false (by omega)
  have e8 : ¬ u.funcs[k].code.length ≤ j := by omega
  simp only [d12, go_sem, wp_sq, reduceIte, Nat.reduceEqDiff, Nat.reduceAdd, Nat.reduceBEq, reduceCtorEq, e3, e4, e7, e8, hk, hj]
  have hcp : ∀ g, callP u k j g ↔ isCall u.funcs[k].code[j] ∧ canP u u.funcs[k].code[j] g := by
    intro g
    constructor
    · rintro ⟨k2, j2, fn, x, h1, h, h2, h3, h4⟩
      have : k = k2 := by omega
      subst this
      have : j = j2 := by omega
      subst this
      rw [List.getElem?_eq_getElem hk] at h2
      cases h2
      rw [List.getElem?_eq_getElem hj] at h3
      cases h3
      exact h4
    · intro h
      exact ⟨k, j, _, _, rfl, rfl, List.getElem?_eq_getElem hk, List.getElem?_eq_getElem hj, h⟩
  refine ex_call (f33 ht u.funcs[k].code[j]) ?_
  rintro _ ⟨b, rfl, hb⟩
  simp only [go_sem, wp_sq, reduceIte, Nat.reduceEqDiff, Nat.reduceAdd, Nat.reduceBEq, reduceCtorEq, e3, e4, e7, e8, hk, hj]
  cases b with
  | false =>
    simp only [go_sem, wp_sq, reduceIte, Nat.reduceEqDiff, Nat.reduceAdd, Nat.reduceBEq, reduceCtorEq]
    refine ret_one (b := none) rfl (hno ?_)
    intro g hg
    have := hb.2 ((hcp g).1 hg).1
    cases this
  | true =>
    have hic := hb.1 rfl
    simp only [go_sem, wp_sq, reduceIte, Nat.reduceEqDiff, Nat.reduceAdd, Nat.reduceBEq, reduceCtorEq]
    refine wp_lpE [7, 8, 46, 47, 48, 49, 50, 51, 52, 53, 54, 55, 56, 57, 58, 59, 60, 61, 62, 63, 64, 65, 66, 67, 68] (fun n e S => ∃ g : Nat, n = u.funcs.length - g ∧ g ≤ u.funcs.length ∧ e 8 = .int .i64 g ∧ ∃ l : List Nat, AppS S (e 7) 1 (l.map rN) ∧ l.Pairwise (· < ·) ∧ (∀ y, y ∈ l ↔ y < g ∧ callP u k j y) ∧ l.length ≤ g) u.funcs.length ⟨0, rfl, Nat.zero_le _, rfl, [], AppS.nil, List.Pairwise.nil, fun y => ⟨fun h => by simp at h, fun h => by omega⟩, Nat.le_refl _⟩ ?_
    rintro n e S ⟨g, hn, hg, hx, l, hA, hl1, hl2, hl3⟩ hf
    have hs3 : e 3 = .iptr (eUn u) 0 := hf 3 rfl
    have hs1 : e 1 = .int .i64 k := hf 1 rfl
    have hs2 : e 2 = .int .i64 j := hf 2 rfl
    have hw := wrap_succ (i := g) (by omega)
    obtain ⟨nf, tl, h7, _⟩ := id hA
    by_cases h1 : g < u.funcs.length
    · simp only [go_sem, wp_sq, reduceIte, Nat.reduceEqDiff, Nat.reduceAdd, Nat.reduceBEq, reduceCtorEq, hs3, hs1, hs2, hx, hw, h1, hk, hj]
      refine wp_rdH ?_
      simp only [go_sem, wp_sq, reduceIte, Nat.reduceEqDiff, Nat.reduceAdd, Nat.reduceBEq, reduceCtorEq, hs3, hs1, hs2, hx, hw, h1, hk, hj]
      refine ex_call (f34 ht u u.funcs[k].code[j] g (by omega) hh hml) ?_
      rintro _ ⟨b, rfl, hb2⟩
      simp only [go_sem, wp_sq, reduceIte, Nat.reduceEqDiff, Nat.reduceAdd, Nat.reduceBEq, reduceCtorEq, hs3, hs1, hs2, hx, hw, h1, hk, hj]
      refine ifP_b (fun hp => ?_) (fun hp => ?_)
      · simp only [go_sem, wp_sq, reduceIte, Nat.reduceEqDiff, Nat.reduceAdd, Nat.reduceBEq, reduceCtorEq, hs3, hs1, hs2, hx, hw, h1]
        refine ex_app hA rfl (by simp; omega) (by simp) (Nat.le_refl _) (fun v ps hB => ?_)
        try simp only [go_sem, wp_sq, reduceIte, Nat.reduceEqDiff, Nat.reduceAdd, Nat.reduceBEq, reduceCtorEq, hs3, hs1, hs2, hx, hw, h1]
        refine ⟨_, by omega, rfl, (by repeat' first | exact hf | exact rfl | exact Fr0.refl _ _ | apply Fr0.upd | exact hf2 | refine Fr0.sub hf2 rfl ?_ | refine Fr0.sub hf rfl ?_), g + 1, rfl, by omega, rfl, l ++ [g], ?_, ?_, fun y => ?_, by simp; omega⟩
        · have := hB _ (Nat.lt_succ_self _)
          rwa [show l.map rN ++ [[DV.int .i64 g]] = (l ++ [g]).map rN from by simp [rN]] at this
        · refine List.pairwise_append.2 ⟨hl1, List.pairwise_singleton .., fun a ha b hb => ?_⟩
          rw [List.mem_singleton.1 hb]
          exact ((hl2 a).1 ha).1
        · rw [List.mem_append, List.mem_singleton, hl2]
          constructor
          · rintro (⟨h, h'⟩ | rfl)
            · exact ⟨by omega, h'⟩
            · exact ⟨by omega, (hcp _).2 ⟨hic, hb2.1 hp⟩⟩
          · rintro ⟨h, h'⟩
            by_cases hy : y = g
            · exact .inr hy
            · exact .inl ⟨by omega, h'⟩
      · simp only [go_sem, wp_sq, reduceIte, Nat.reduceEqDiff, Nat.reduceAdd, Nat.reduceBEq, reduceCtorEq, hs3, hs1, hs2, hx, hw, h1]
        refine ⟨_, by omega, rfl, (by repeat' first | exact hf | exact rfl | exact Fr0.refl _ _ | apply Fr0.upd | exact hf2 | refine Fr0.sub hf2 rfl ?_ | refine Fr0.sub hf rfl ?_), g + 1, rfl, by omega, rfl, l, hA, hl1, fun y => ?_, by omega⟩
        rw [hl2]
        constructor
        · rintro ⟨h, h'⟩
          exact ⟨by omega, h'⟩
        · rintro ⟨h, h'⟩
          by_cases hy : y = g
          · subst hy
            rw [hb2.2 ((hcp _).1 h').2] at hp
            cases hp
          · exact ⟨by omega, h'⟩
    · simp only [go_sem, wp_sq, reduceIte, Nat.reduceEqDiff, Nat.reduceAdd, Nat.reduceBEq, reduceCtorEq, hs3, hs1, hs2, hx, hw, h1]
      refine ret_one (b := none) hA.fz ?_
      rw [hT.eq (m := l) ⟨hl1, fun y => by rw [hl2]; exact ⟨fun h => h.2, fun h => ⟨by have := callP_lt h; omega, h⟩⟩⟩]
end Go.Proofs.YtfmicbbflpkdgaaGreatDoor.D
/-
  Contracts: part 22: call edges (the reference's).
-/
namespace Go.Proofs.YtfmicbbflpkdgaaGreatDoor.D
-- V2

variable {P : Program}

abbrev Edge := Nat × Nat × Nat
def rC (p : Edge) : List DV := [.int .i64 (p.1 : Int), .int .i64 (p.2.1 : Int), .int .i64 (p.2.2 : Int)]
theorem cl_rC (p : Edge) : ∀ c, c ∈ rC p → Closed c := by
  intro c hc
  simp only [rC, List.mem_cons, List.not_mem_nil, or_false] at hc
  rcases hc with rfl | rfl | rfl <;> exact .int _ _
theorem dbuild3 {a b c : Int} : dBuild [.int .i64 0, .int .i64 0, .int .i64 0] [(0, 1, .int .i64 a), (1, 1, .int .i64 b), (2, 1, .int .i64 c)] = some [.int .i64 a, .int .i64 b, .int .i64 c] := rfl
def cI (T : Nat → Nat → List Nat) (f i : Nat) : List Edge := (T f i).map fun g => (f, i, g)
def cF (u : NUnit) (T : Nat → Nat → List Nat) (f : Nat) : List Edge := (List.range ((u.funcs[f]?.map fun x => x.code.length).getD 0)).flatMap (cI T f)
def callsL (u : NUnit) (T : Nat → Nat → List Nat) : List Edge := (List.range u.funcs.length).flatMap (cF u T)
theorem range_flat {α : Type} (F : Nat → List α) (n : Nat) : (List.range (n + 1)).flatMap F = (List.range n).flatMap F ++ F n := by
  rw [List.range_succ, List.flatMap_append]
  simp
theorem map_take_succ {α β : Type} {F : α → β} {l : List α} {k : Nat} (h : k < l.length) : (l.take (k + 1)).map F = (l.take k).map F ++ [F l[k]] := by
  rw [List.take_succ_eq_append_getElem h, List.map_append]
  rfl
structure CallsFit (u : NUnit) (T : Nat → Nat → List Nat) : Prop where
  n : u.funcs.length ≤ 20
  c : ∀ f, f ∈ u.funcs → f.code.length ≤ 150
  t : ∀ f i, (T f i).length ≤ 20
theorem len_flat {α : Type} {F : Nat → List α} {B : Nat} : ∀ (n : Nat), (∀ i, i < n → (F i).length ≤ B) → ((List.range n).flatMap F).length ≤ n * B
  | 0, _ => by simp
  | n + 1, h => by
    rw [range_flat, List.length_append, Nat.succ_mul]
    exact Nat.add_le_add (len_flat n fun i hi => h i (by omega)) (h n (by omega))
theorem CallsFit.cI_len {u : NUnit} {T : Nat → Nat → List Nat} (hc : CallsFit u T) (f i : Nat) : (cI T f i).length ≤ 20 := by
  rw [cI, List.length_map]
  exact hc.t f i
theorem CallsFit.cF_len {u : NUnit} {T : Nat → Nat → List Nat} (hc : CallsFit u T) (f : Nat) : (cF u T f).length ≤ 3000 := by
  refine Nat.le_trans (len_flat _ fun i _ => hc.cI_len f i) (Nat.mul_le_mul_right 20 (show _ ≤ 150 from ?_))
  cases h : u.funcs[f]? with
  | none => exact Nat.zero_le _
  | some x => exact hc.c x (List.mem_of_getElem? h)
theorem CallsFit.len {u : NUnit} {T : Nat → Nat → List Nat} (hc : CallsFit u T) {f i : Nat} (hf : f ≤ 20) (hi : i ≤ 150) : ((List.range f).flatMap (cF u T) ++ (List.range i).flatMap (cI T f)).length ≤ 70000 := by
  rw [List.length_append]
  have h1 := len_flat f fun i (_ : i < f) => hc.cF_len i
  have h2 := len_flat i fun j (_ : j < i) => hc.cI_len f j
  exact Nat.le_trans (Nat.add_le_add (Nat.le_trans h1 (Nat.mul_le_mul_right 3000 hf)) (Nat.le_trans h2 (Nat.mul_le_mul_right 20 hi))) (by decide)
theorem f15 (ht : TabOk P gl tab.get) (u : NUnit) (hh : u.hier.length ≤ 900) (hml : ∀ x, x ∈ u.hier → x.methods.length < 4611686018427387904) (T : Nat → Nat → List Nat) (hc : CallsFit u T) (hT : ∀ f i : Nat, TarsOk u f i (T f i)) : Val P gl 15 [.agg (eUn u)] fun d => d = .isl 3 none ((callsL u T).map rC) .no := by
  have hn0 := hc.n
  refine Val.of_wp gl_ok ht (df := d15) rfl (cl_cons (.agg _ (cl_eUn u)) cl_nil) (fun d hd => by rw [hd]; exact cl_isl cl_rC ..) ?_
  simp only [d15, go_sem, wp_sq, reduceIte, Nat.reduceEqDiff, Nat.reduceAdd, Nat.reduceBEq, reduceCtorEq]
  refine wp_lpE [3, 4, 5, 6, 7, 8, 9, 10, 11, 12, 13, 14, 15, 16, 17, 18, 19, 20, 21, 22, 23, 24, 25, 26, 27, 28, 29, 30, 31, 32, 33, 34, 35, 36, 37, 38, 39, 40, 41, 42, 43, 44, 45] (fun n e S => ∃ f : Nat, n = u.funcs.length - f ∧ f ≤ u.funcs.length ∧ e 4 = .int .i64 f ∧ ∃ l : List Edge, AppS S (e 3) 3 (l.map rC) ∧ l = (List.range f).flatMap (cF u T)) u.funcs.length ⟨0, rfl, Nat.zero_le _, rfl, [], AppS.nil, rfl⟩ ?_
  rintro n e S ⟨f, hn, hf0, hx, l, hA, hl1⟩ hf
  have hs1 : e 1 = .iptr (eUn u) 0 := hf 1 rfl
  have hw := wrap_succ (i := f) (by omega)
  by_cases h1 : f < u.funcs.length
  · have hcl := hc.c _ (List.getElem_mem h1)
    have hcF : cF u T f = (List.range u.funcs[f].code.length).flatMap (cI T f) := by
      rw [cF, List.getElem?_eq_getElem h1]; rfl
    simp only [go_sem, wp_sq, reduceIte, Nat.reduceEqDiff, Nat.reduceAdd, Nat.reduceBEq, reduceCtorEq, hs1, hx, hw, h1]
    refine wp_lpE [3, 5, 6, 7, 15, 16, 17, 18, 19, 20, 21, 22, 23, 24, 25, 26, 27, 28, 29, 30, 31, 32, 33, 34, 35, 36, 37, 38, 39, 40, 41, 42, 43, 44, 45] (fun n e S => ∃ i : Nat, n = u.funcs[f].code.length - i ∧ i ≤ u.funcs[f].code.length ∧ e 5 = .int .i64 i ∧ ∃ l2 : List Edge, AppS S (e 3) 3 (l2.map rC) ∧ l2 = l ++ (List.range i).flatMap (cI T f)) u.funcs[f].code.length ⟨0, rfl, Nat.zero_le _, rfl, l, hA, by simp⟩ ?_
    rintro n2 e2 S2 ⟨i, hn2, hi0, hy, l2, hA2, hl3⟩ hf2
    have ht1 := (show e2 1 = e 1 from hf2 1 rfl).trans hs1
    have ht4 := (show e2 4 = e 4 from hf2 4 rfl).trans hx
    have hw2 := wrap_succ (i := i) (by omega)
    have hl4 : l2.length ≤ 70000 := by
      rw [hl3, hl1]
      exact hc.len (by omega) (by omega)
    by_cases h2 : i < u.funcs[f].code.length
    · have htl := hc.t f i
      simp only [go_sem, wp_sq, reduceIte, Nat.reduceEqDiff, Nat.reduceAdd, Nat.reduceBEq, reduceCtorEq, ht1, ht4, hy, hw, hw2, h1, h2]
      refine ex_call (f12 ht u hh hml (by omega) (fun f hf => by have := hc.c f hf; omega) f i (T f i) (hT f i)) ?_
      rintro _ rfl
      simp only [go_sem, wp_sq, reduceIte, Nat.reduceEqDiff, Nat.reduceAdd, Nat.reduceBEq, reduceCtorEq, ht1, ht4, hy, hw, hw2, h1, h2]
      refine wp_lpE [3, 7, 30, 31, 32, 33, 34, 35, 36, 37, 38, 39, 40, 41, 42, 43, 44, 45] (fun n e S => ∃ k : Nat, n = (T f i).length - k ∧ k ≤ (T f i).length ∧ e 7 = .int .i64 k ∧ ∃ l3 : List Edge, AppS S (e 3) 3 (l3.map rC) ∧ l3 = l2 ++ ((T f i).take k).map (fun g => (f, i, g))) (T f i).length ⟨0, rfl, Nat.zero_le _, rfl, l2, hA2, by simp⟩ ?_
      rintro n3 e3 S3 ⟨k, hn3, hk0, hz, l3, hA3, hl5⟩ hf3
      have hv1 : e3 1 = .iptr (eUn u) 0 := (show e3 1 = e2 1 from hf3 1 rfl).trans ht1
      have hv4 : e3 4 = .int .i64 f := (show e3 4 = e2 4 from hf3 4 rfl).trans ht4
      have hv5 : e3 5 = .int .i64 i := (show e3 5 = e2 5 from hf3 5 rfl).trans hy
      have hv6 : e3 6 = .isl 1 none ((T f i).map rN) .no := hf3 6 rfl
      have hw3 := wrap_succ (i := k) (by omega)
      have hl6 : l3.length ≤ 71000 := by
        rw [hl5, List.length_append, List.length_map, List.length_take]
        omega
      obtain ⟨nf, tl, h3, _⟩ := id hA3
      by_cases h4 : k < (T f i).length
      · simp only [go_sem, wp_sq, reduceIte, Nat.reduceEqDiff, Nat.reduceAdd, Nat.reduceBEq, reduceCtorEq, hv1, hv4, hv5, hv6, hz, hw3, h4, rN, dbuild3]
        refine ex_app hA3 rfl (by simp; omega) (by simp) (Nat.le_refl _) (fun v ps hB => ?_)
        try simp only [go_sem, wp_sq, reduceIte, Nat.reduceEqDiff, Nat.reduceAdd, Nat.reduceBEq, reduceCtorEq, hv1, hv4, hv5, hv6, hz, hw3, h4]
        refine ⟨_, by omega, rfl, (by repeat' first | exact hf3 | exact rfl | apply Fr0.upd), k + 1, rfl, by omega, rfl, l3 ++ [(f, i, (T f i)[k])], ?_, ?_⟩
        · have := hB _ (Nat.lt_succ_self _)
          rw [List.map_append]
          exact this
        · rw [hl5, map_take_succ h4, List.append_assoc]
      · simp only [go_sem, wp_sq, reduceIte, Nat.reduceEqDiff, Nat.reduceAdd, Nat.reduceBEq, reduceCtorEq, hv1, hv4, hv5, hv6, hz, hw2, hw3, h4]
        refine ⟨_, by omega, rfl, (by repeat' first | exact hf2 | exact rfl | apply Fr0.upd | refine Fr0.sub hf3 rfl ?_), i + 1, rfl, by omega, rfl, l3, hA3, ?_⟩
        · rw [hl5, hl3, range_flat, List.append_assoc, List.take_of_length_le (by omega)]
          rfl
    · simp only [go_sem, wp_sq, reduceIte, Nat.reduceEqDiff, Nat.reduceAdd, Nat.reduceBEq, reduceCtorEq, ht1, ht4, hy, hw, hw2, h1, h2]
      refine ⟨_, by omega, rfl, (by repeat' first | exact hf | exact rfl | exact Fr0.refl _ _ | apply Fr0.upd | exact hf2 | refine Fr0.sub hf2 rfl ?_ | refine Fr0.sub hf rfl ?_), f + 1, rfl, by omega, rfl, l2, hA2, ?_⟩
      rw [hl3, hl1, range_flat, hcF, show i = u.funcs[f].code.length by omega]
  · simp only [go_sem, wp_sq, reduceIte, Nat.reduceEqDiff, Nat.reduceAdd, Nat.reduceBEq, reduceCtorEq, hs1, hx, hw, h1]
    refine ret_one (b := none) hA.fz ?_
    rw [hl1, callsL, show f = u.funcs.length by omega]
end Go.Proofs.YtfmicbbflpkdgaaGreatDoor.D
