/-
  Contracts: part 32: sorting edges, leaving out what stands twice.
-/
import Derived.Test.YtfmicbbflpkdgaaGreatDoorA37
set_option linter.unusedVariables false
set_option linter.unusedSimpArgs false
namespace Go.Proofs.YtfmicbbflpkdgaaGreatDoor.D
variable {P : Program} {G : List (List DV)} {S : DS}
abbrev NEd := Nat × Nat
def rE (p : NEd) : List DV := [.int .i64 (p.1 : Int), .int .i64 (p.2 : Int)]
theorem cl_rE (p : NEd) : ∀ c, c ∈ rE p → Closed c := by
  intro c hc
  simp only [rE, List.mem_cons, List.not_mem_nil, or_false] at hc
  rcases hc with rfl | rfl <;> exact .int _ _
def ltE (x y : NEd) : Prop := x.1 < y.1 ∨ (x.1 = y.1 ∧ x.2 < y.2)
instance (x y : NEd) : Decidable (ltE x y) := by unfold ltE; infer_instance
def cmpI (a b : Int) : Int := if a < b then -1 else if b < a then 1 else 0
def orL : List Int → Int
  | [] => 0
  | a :: l => if a = 0 then orL l else a
def cfE (x y : NEd) : Int := orL [cmpI x.1 y.1, cmpI x.2 y.2]
theorem cfE_lt {x y : NEd} : cfE x y < 0 ↔ ltE x y := by
  simp only [cfE, orL, cmpI, ltE]
  by_cases h1 : x.1 < y.1
  · simp [h1]
  · by_cases h2 : y.1 < x.1
    · simp [h1, h2]
      omega
    · have : x.1 = y.1 := by omega
      by_cases h3 : x.2 < y.2
      · simp [h1, h2, h3, this]
      · by_cases h4 : y.2 < x.2
        · simp [h1, h2, h3, h4, this]
        · simp [h1, h2, h3, h4, this]
theorem f69 (ht : TabOk P gl tab.get) (a : Int) : Val P gl 69 [.int .i64 a] fun d => d = .bool false := by
  refine Val.of_wp gl_ok ht (df := d69) rfl (cl_cons (.int _ _) cl_nil) (fun d hd => by rw [hd]; exact .bool _) ?_
  simp only [d69, go_sem, wp_sq, reduceIte, Nat.reduceEqDiff, Nat.reduceAdd, Nat.reduceBEq, reduceCtorEq]
  exact ret_one (b := none) rfl rfl
theorem f38 (ht : TabOk P gl tab.get) (a b : Int) : Val P gl 38 [.int .i64 a, .int .i64 b] fun d => d = .int .i64 (cmpI a b) := by
  refine Val.of_wp gl_ok ht (df := d38) rfl (cl_cons (.int _ _) (cl_cons (.int _ _) cl_nil)) (fun d hd => by rw [hd]; exact .int _ _) ?_
  simp only [d38, go_sem, wp_sq, reduceIte, Nat.reduceEqDiff, Nat.reduceAdd, Nat.reduceBEq, reduceCtorEq]
  refine ex_call (f69 ht a) ?_
  rintro _ rfl
  simp only [go_sem, wp_sq, reduceIte, Nat.reduceEqDiff, Nat.reduceAdd, Nat.reduceBEq, reduceCtorEq]
  refine ex_call (f69 ht b) ?_
  rintro _ rfl
  by_cases h1 : a < b
  · simp only [go_sem, wp_sq, reduceIte, Nat.reduceEqDiff, Nat.reduceAdd, Nat.reduceBEq, reduceCtorEq, h1]
    refine ret_one (b := none) rfl ?_
    rw [cmpI, if_pos h1]
    rfl
  · by_cases h2 : b < a
    · simp only [go_sem, wp_sq, reduceIte, Nat.reduceEqDiff, Nat.reduceAdd, Nat.reduceBEq, reduceCtorEq, h1, h2]
      refine ret_one (b := none) rfl ?_
      rw [cmpI, if_neg h1, if_pos h2]
      rfl
    · simp only [go_sem, wp_sq, reduceIte, Nat.reduceEqDiff, Nat.reduceAdd, Nat.reduceBEq, reduceCtorEq, h1, h2]
      refine ret_one (b := none) rfl ?_
      rw [cmpI, if_neg h1, if_neg h2]
      rfl
theorem orL_drop {l : List Int} {i : Nat} (h : ∀ x, x ∈ l.take i → x = 0) : orL l = orL (l.drop i) := by
  induction i generalizing l with
  | zero => rfl
  | succ i ih =>
    cases l with
    | nil => rfl
    | cons a l =>
      have h0 := h a (by simp)
      simp only [orL, h0, if_true, List.drop_succ_cons]
      exact ih fun x hx => h x (by simp [hx])
theorem f37 (ht : TabOk P gl tab.get) (l : List Int) (hl : l.length < 4611686018427387904) : Val P gl 37 [.isl 1 none (l.map rI) .no] fun d => d = .int .i64 (orL l) := by
  refine Val.of_wp gl_ok ht (df := d37) rfl (cl_cons (cl_isl cl_rI ..) cl_nil) (fun d hd => by rw [hd]; exact .int _ _) ?_
  simp only [d37, go_sem, wp_sq, reduceIte, Nat.reduceEqDiff, Nat.reduceAdd, Nat.reduceBEq, reduceCtorEq]
  refine wp_lpE [2, 5, 8, 9, 10, 11, 12, 13, 14, 15, 16] (fun n e _ => ∃ i : Nat, n = l.length - i ∧ i ≤ l.length ∧ e 8 = .int .i64 i ∧ ∀ x, x ∈ l.take i → x = 0) l.length ⟨0, rfl, Nat.zero_le _, rfl, by simp⟩ ?_
  rintro n e S ⟨i, hn, hi, hx, hI⟩ hf
  have hs3 : e 3 = .int .i64 0 := hf 3 rfl
  have hs6 : e 6 = .isl 1 none (l.map rI) .no := hf 6 rfl
  have hs7 : e 7 = .int .i64 l.length := hf 7 rfl
  have hw := wrap_succ (i := i) (by omega)
  have hor := orL_drop hI
  by_cases h1 : i < l.length
  · rw [List.drop_eq_getElem_cons h1] at hor
    by_cases hc : l[i] = 0
    · simp only [go_sem, wp_sq, reduceIte, Nat.reduceEqDiff, Nat.reduceAdd, Nat.reduceBEq, reduceCtorEq, hs3, hs6, hs7, hx, hw, h1, hc]
      exact ⟨_, by omega, rfl, (by repeat' first | exact hf | exact rfl | exact Fr0.refl _ _ | apply Fr0.upd | exact hf2 | refine Fr0.sub hf2 rfl ?_ | refine Fr0.sub hf rfl ?_), i + 1, rfl, by omega, rfl, take_all hI h1 hc⟩
    · simp only [go_sem, wp_sq, reduceIte, Nat.reduceEqDiff, Nat.reduceAdd, Nat.reduceBEq, reduceCtorEq, hs3, hs6, hs7, hx, hw, h1, hc]
      refine ret_one (b := none) rfl ?_
      rw [hor, orL, if_neg hc]
      rfl
  · simp only [go_sem, wp_sq, reduceIte, Nat.reduceEqDiff, Nat.reduceAdd, Nat.reduceBEq, reduceCtorEq, hs3, hs6, hs7, hx, hw, h1]
    refine ret_one (b := none) rfl ?_
    rw [hor, List.drop_of_length_le (by omega)]
    rfl
theorem f36 (ht : TabOk P gl tab.get) (x y : NEd) : Val P gl 36 [.agg (rE x), .agg (rE y)] fun d => d = .int .i64 (cfE x y) := by
  refine Val.of_wp gl_ok ht (df := d36) rfl (cl_cons (.agg _ (cl_rE x)) (cl_cons (.agg _ (cl_rE y)) cl_nil)) (fun d hd => by rw [hd]; exact .int _ _) ?_
  simp only [d36, rE, go_sem, wp_sq, reduceIte, Nat.reduceEqDiff, Nat.reduceAdd, Nat.reduceBEq, reduceCtorEq]
  refine wp_rdH ?_
  simp only [go_sem, wp_sq, reduceIte, Nat.reduceEqDiff, Nat.reduceAdd, Nat.reduceBEq, reduceCtorEq]
  refine ex_call (f38 ht x.1 y.1) ?_
  rintro _ rfl
  simp only [go_sem, wp_sq, reduceIte, Nat.reduceEqDiff, Nat.reduceAdd, Nat.reduceBEq, reduceCtorEq]
  refine ex_call (f38 ht x.2 y.2) ?_
  rintro _ rfl
  simp only [go_sem, wp_sq, reduceIte, Nat.reduceEqDiff, Nat.reduceAdd, Nat.reduceBEq, reduceCtorEq]
  refine ex_call (Val.w0 (f37 ht [cmpI x.1 y.1, cmpI x.2 y.2] (by simp))) ?_
  rintro _ rfl
  simp only [go_sem, wp_sq, reduceIte, Nat.reduceEqDiff, Nat.reduceAdd, Nat.reduceBEq, reduceCtorEq]
  exact ret_one (b := none) rfl rfl
/-- The library's sorting of edges by the program's function. -/
structure SortEOk (P : Program) (G : List (List DV)) : Prop where
  edge : ∀ (S : DS) (b : Nat) (es : List NEd) (c : Option Nat), S.h b = some (.cells 2 (es.map rE)) → 0 < es.length → es.length < 4611686018427387904 → DCalls P G 35 [.sl b 0 es.length c, .func 36 [] []] S fun d D => d = .tup [] ∧ ∃ ts : List NEd, ts.Perm es ∧ ts.Pairwise (fun x y => ¬ ltE y x) ∧ D = S.put b (some (.cells 2 (ts.map rE)))
  edge0 : ∀ (S : DS), DCalls P G 35 [.isl 2 (some true) [] .ex, .func 36 [] []] S fun d D => d = .tup [] ∧ D = S
/-- A list of edges in memory. -/
def MemE (lo : Nat) (S : DS) (v : DV) (es : List NEd) : Prop := (es = [] ∧ v = .isl 2 (some true) [] .ex) ∨ (es ≠ [] ∧ ∃ b, lo ≤ b ∧ b < S.nx ∧ v = .sl b 0 es.length none ∧ S.h b = some (.cells 2 (es.map rE)))
theorem MemE.nil {lo : Nat} : MemE lo S (.isl 2 (some true) [] .ex) [] := .inl ⟨rfl, rfl⟩
theorem MemE.keep {lo : Nat} {S S' : DS} {v : DV} {es : List NEd} (h : MemE lo S v es) (hn : S.nx ≤ S'.nx) (hh : ∀ b, lo ≤ b → b < S.nx → S'.h b = S.h b) : MemE lo S' v es := by
  rcases h with h | ⟨h1, b, h2, h3, h4, h5⟩
  · exact .inl h
  · exact .inr ⟨h1, b, h2, Nat.lt_of_lt_of_le h3 hn, h4, by rw [hh _ h2 h3]; exact h5⟩
theorem ex_memE {lo j : Nat} {v : DV} {es : List NEd} {x y : Int} {p : NEd} {K : DV → Puts → Prop} (h : MemE lo S v es) (hlo : lo ≤ j) (hj : S.nx ≤ j) (h1 : es.length ≤ 1048576) (hx : x = (p.1 : Int)) (hy : y = (p.2 : Int))
    (hk : ∀ v' ps, (∀ m, j < m → MemE lo (DS.puts ⟨S.h, m⟩ ps) v' (es ++ [p])) → (∀ b, b < lo → Heap.puts S.h ps b = S.h b) → K v' ps) : ∃ d ps, capM j 2 S.h v [[.int .i64 x, .int .i64 y]] = some (d, ps) ∧ K d ps := by
  subst hx hy
  have g0 : Nat.ble (lenN [rE p]) 1048576 = true := rfl
  show ∃ d ps, capM j 2 S.h v [rE p] = some (d, ps) ∧ K d ps
  rcases h with ⟨rfl, rfl⟩ | ⟨hne, b, hb, hb2, rfl, hS⟩
  · refine ⟨.sl j 0 1 none, [(j, some (.cells 2 [rE p]))], rfl, hk _ _ (fun m hm => .inr ⟨by simp, j, hlo, hm, rfl, ?_⟩) fun b hb => ?_⟩
    · exact put_same _ _ _
    · exact put_ne _ _ (by omega)
  · have g1 : Nat.ble es.length 1048576 = true := by rw [bleN]; simpa using h1
    have g2 : Nat.ble (Nat.add 0 es.length) (lenN (es.map rE)) = true := by rw [bleN, lenN_eq]; simp
    have g3 : Nat.ble (Nat.add (Nat.add 0 es.length) (lenN [rE p])) (lenN (es.map rE)) = false := by rw [bleN]; simp [lenN_eq]
    have g4 : takeN es.length (es.map rE) = es.map rE := by rw [takeN_eq, List.take_of_length_le]; simp
    have g5 : allScR [rE p] = true := rfl
    have g6 : Nat.beq 2 2 = true := rfl
    have g7 : dropN 0 (es.map rE) = es.map rE := by rw [dropN_eq]; rfl
    refine ⟨.sl j 0 (Nat.add es.length (lenN [rE p])) none, [(b, none), (j, some (.cells 2 (es.map rE ++ [rE p])))], by simp only [capM, hS, g0, g1, g2, g3, g4, g5, g6, g7], hk _ _ (fun m hm => .inr ⟨by simp, j, hlo, hm, by simp [lenN], ?_⟩) fun c hc => ?_⟩
    · refine (put_same _ _ _).trans ?_
      simp
    · exact (put_ne _ _ (by omega)).trans (put_ne _ _ (by omega))
theorem pw_one {l : List NEd} (h : l.length ≤ 1) : l.Pairwise ltE := by
  match l, h with
  | [], _ => exact List.Pairwise.nil
  | [a], _ => exact List.pairwise_singleton ..
theorem pw_snoc {l : List NEd} {y : NEd} (h : l.Pairwise ltE) (hy : ∀ x, x ∈ l → ltE x y) : (l ++ [y]).Pairwise ltE :=
  List.pairwise_append.2 ⟨h, List.pairwise_singleton .., fun a ha b hb => by rw [List.mem_singleton.1 hb]; exact hy a ha⟩
theorem lt_new {ss : List NEd} (hs : ss.Pairwise (fun x y => ¬ ltE y x)) {j : Nat} (hj : j + 1 < ss.length) (hne : ss[j + 1] ≠ ss[j]) : ∀ x, x ∈ ss.take (j + 1) → ltE x ss[j + 1] := by
  intro x hx
  obtain ⟨i, hi, rfl⟩ := List.getElem_of_mem hx
  have hi2 : i < j + 1 := by rw [List.length_take] at hi; omega
  rw [List.getElem_take]
  have h1 := List.pairwise_iff_getElem.1 hs j (j + 1) (by omega) hj (by omega)
  have h2 : i = j ∨ ¬ ltE ss[j] ss[i] := by
    by_cases h : i = j
    · exact .inl h
    · exact .inr (List.pairwise_iff_getElem.1 hs i j (by omega) (by omega) (by omega))
  have h3 : ss[j + 1].1 ≠ ss[j].1 ∨ ss[j + 1].2 ≠ ss[j].2 := by
    by_cases h : ss[j + 1].1 = ss[j].1
    · exact .inr fun h' => hne (Prod.ext h h')
    · exact .inl h
  simp only [ltE] at *
  rcases h2 with rfl | h2
  · omega
  · omega
theorem nth_E {i : Nat} {l : List NEd} {s : NEd} (hi : l[i]? = some s) : nth (l.map rE) i = some (rE s) := by
  rw [nth_map, nth_eq, hi]
  rfl
theorem dpart_E {p : NEd} : dPart (rE p) 0 (some 2) = some (.agg (rE p)) := dpart_some2
theorem len_E {p : NEd} : lenN (rE p) = 2 := rfl
theorem put_E {p q : NEd} : putN (rE p) 0 (rE q) = rE q := rfl
theorem sc_E {p : NEd} : allSc (rE p) = true := rfl
theorem keq_E {p q : NEd} : kEq 12 (.agg (rE p)) (.agg (rE q)) = some (decide (p = q)) := by
  have key : ∀ a b : Int, scalarEq (.int .i64 a) (.int .i64 b) = some (decide (a = b)) := fun a b => by simp [scalarEq, kq_eq, ieq_eq]
  have hg : kEq 12 (.agg (rE p)) (.agg (rE q)) = cellsEq (rE p) (rE q) := rfl
  rw [hg]
  simp only [rE, cellsEq, key]
  by_cases h1 : p.1 = q.1
  · have e1 : decide (((p.1 : Nat) : Int) = (q.1 : Int)) = true := decide_eq_true (by omega)
    by_cases h2 : p.2 = q.2
    · have e2 : decide (((p.2 : Nat) : Int) = (q.2 : Int)) = true := decide_eq_true (by omega)
      rw [e1, e2, decide_eq_true (show p = q from Prod.ext h1 h2)]
    · have e2 : decide (((p.2 : Nat) : Int) = (q.2 : Int)) = false := decide_eq_false (by omega)
      rw [e1, e2, decide_eq_false (show ¬ p = q from fun h => h2 (by rw [h]))]
  · have e1 : decide (((p.1 : Nat) : Int) = (q.1 : Int)) = false := decide_eq_false (by omega)
    rw [e1, decide_eq_false (show ¬ p = q from fun h => h1 (by rw [h]))]
    by_cases h2 : p.2 = q.2
    · rw [decide_eq_true (show ((p.2 : Nat) : Int) = (q.2 : Int) by omega)]
    · rw [decide_eq_false (show ¬ ((p.2 : Nat) : Int) = (q.2 : Int) by omega)]
theorem f39n (ht : TabOk P gl tab.get) : Val P gl 39 [.isl 2 (some true) [] .ex] fun d => d = .isl 2 none [] .no := by
  refine Val.of_wp gl_ok ht (df := d39) rfl (cl_cons (.isl_ex fun _ h => by simp at h) cl_nil) (fun d hd => by rw [hd]; exact .isl_no fun _ h => by simp at h) ?_
  have e0 : ((0 : Nat) : Int) < 2 := by decide
  simp only [d39, go_sem, wp_sq, reduceIte, Nat.reduceEqDiff, Nat.reduceAdd, Nat.reduceBEq, reduceCtorEq, e0]
  exact ret_one (b := none) rfl rfl
theorem f39 (ht : TabOk P gl tab.get) (S : DS) (b : Nat) (ss : List NEd) (hS : S.h b = some (.cells 2 (ss.map rE))) (hpos : 0 < ss.length) (hlt : ss.length < 4611686018427387904) : DCalls P gl 39 [.sl b 0 ss.length none] S fun d D => ∃ (ts : List NEd) (rows : List (List DV)), d = .sl b 0 ts.length none ∧ D.h b = some (.cells 2 rows) ∧ ts.length ≤ rows.length ∧ rows.take ts.length = ts.map rE ∧ (∀ x, x ∈ ts ↔ x ∈ ss) ∧ ts.length ≤ ss.length ∧ (ss.Pairwise (fun x y => ¬ ltE y x) → ts.Pairwise ltE) ∧ (S.nx ≤ D.nx ∧ ∀ x, x ≠ b → D.h x = S.h x) := by
  refine DCalls.of_wp ht.mixed (ht.tab 39 d39 rfl) ?_
  have hall : ∀ S1 : DS, (ss.Pairwise (fun x y => ¬ ltE y x) → ss.Pairwise ltE) → (S.nx ≤ S1.nx ∧ ∀ x, x ≠ b → S1.h x = S.h x) → S1.h b = some (.cells 2 (ss.map rE)) → ∃ (ts : List NEd) (rows : List (List DV)), DV.sl b 0 ss.length none = .sl b 0 ts.length none ∧ S1.h b = some (.cells 2 rows) ∧ ts.length ≤ rows.length ∧ rows.take ts.length = ts.map rE ∧ (∀ x, x ∈ ts ↔ x ∈ ss) ∧ ts.length ≤ ss.length ∧ (ss.Pairwise (fun x y => ¬ ltE y x) → ts.Pairwise ltE) ∧ (S.nx ≤ S1.nx ∧ ∀ x, x ≠ b → S1.h x = S.h x) := fun S1 h2 h3 h1 =>
    ⟨ss, _, rfl, h1, by simp, by rw [List.take_of_length_le]; simp, fun _ => Iff.rfl, Nat.le_refl _, h2, h3⟩
  by_cases h2 : (ss.length : Int) < 2
  · simp only [d39, go_sem, wp_sq, reduceIte, Nat.reduceEqDiff, Nat.reduceAdd, Nat.reduceBEq, reduceCtorEq, dlen_sl, h2]
    exact ret_one (b := none) rfl (hall _ (fun _ => pw_one (by omega)) ⟨Nat.le_refl _, fun _ _ => rfl⟩ hS)
  · simp only [d39, go_sem, wp_sq, reduceIte, Nat.reduceEqDiff, Nat.reduceAdd, Nat.reduceBEq, reduceCtorEq, dlen_sl, h2]
    refine wp_lpE [2, 3, 4, 5, 10, 11, 12, 13, 14, 15, 16, 17, 18, 19, 20, 21, 22, 23, 24, 25, 26, 27, 28, 29, 30, 31, 32, 33, 34, 35, 36, 37, 38, 39, 40, 41, 42, 43, 44, 45, 46, 47, 48, 49, 50, 51, 52, 53, 54, 55, 56, 57, 58, 59] (fun n e S1 => ∃ k : Nat, n = ss.length - k ∧ k < ss.length ∧ e 3 = .int .i64 ((k + 1 : Nat) : Int) ∧ S1.h b = some (.cells 2 (ss.map rE)) ∧ (ss.Pairwise (fun x y => ¬ ltE y x) → (ss.take (k + 1)).Pairwise ltE) ∧ (S.nx ≤ S1.nx ∧ ∀ x, x ≠ b → S1.h x = S.h x)) ss.length ⟨0, rfl, hpos, rfl, hS, fun _ => pw_one (by simp; omega), Nat.le_refl _, fun _ _ => rfl⟩ ?_
    rintro n e S1 ⟨k, hn, hk, hx, hS1, hpw, hfr⟩ hf
    have hs0 : e 0 = .sl b 0 ss.length none := hf 0 rfl
    have hw := wrap_succ (i := k + 1) (by omega)
    have hwp := wrap_pred (i := k) (by omega)
    have hck := slck_sl (i := 0) (n := ss.length) (c := none) hS1
    by_cases h1 : k + 1 < ss.length
    · have hk2 : k < ss.length := hk
      have hc1 := nth_E (List.getElem?_eq_getElem h1)
      have hc2 := nth_E (List.getElem?_eq_getElem hk)
      have hi1 := didx_sl (b := b) (j := 0) (k := 2) (c := none) (kd := .i64) h1
      have hi2 := didx_sl (b := b) (j := 0) (k := 2) (c := none) (kd := .i64) hk
      simp only [go_sem, wp_sq, reduceIte, Nat.reduceEqDiff, Nat.reduceAdd, Nat.reduceBEq, reduceCtorEq, hs0, hx, hw, h1, dlen_sl]
      refine wp_rdH ?_
      simp only [go_sem, wp_sq, reduceIte, Nat.reduceEqDiff, Nat.reduceAdd, Nat.reduceBEq, reduceCtorEq, hs0, hx, hw, hwp, h1, hck, hi1, hi2, hS1, hc1, hc2, dpart_E, keq_E, ngB]
      refine ifP_dec (fun hp => ?_) (fun hp => ?_)
      · have hsl := dslice_sl_lo (b := b) (i := 0) (kd := .i64) (n := ss.length) (l := k + 1) (by omega)
        simp only [go_sem, wp_sq, reduceIte, Nat.reduceEqDiff, Nat.reduceAdd, Nat.reduceBEq, reduceCtorEq, hs0, hx, hw, h1, hck, hsl]
        refine wp_lpE [3, 5, 29, 30, 31, 32, 33, 34, 35, 36, 37, 38, 39, 40, 41, 42, 43, 44, 45, 46, 47, 48, 49, 50, 51, 52, 53] (fun n e2 S2 => ∃ (k2 : Nat) (a : List NEd), n = ss.length - (k + 1 + (k2 + 1)) ∧ k + 1 + (k2 + 1) ≤ ss.length ∧ e2 5 = .int .i64 ((k2 + 1 : Nat) : Int) ∧ e2 3 = .int .i64 (a.length : Int) ∧ a.length ≤ k + 1 + k2 ∧ (∀ x, x ∈ a ↔ x ∈ ss.take (k + 1 + (k2 + 1))) ∧ (ss.Pairwise (fun x y => ¬ ltE y x) → a.Pairwise ltE) ∧ S2.h b = some (.cells 2 ((a ++ ss.drop a.length).map rE)) ∧ (S.nx ≤ S2.nx ∧ ∀ x, x ≠ b → S2.h x = S.h x)) (ss.length - (k + 1 + 1)) ?_ ?_
        · refine ⟨0, ss.take (k + 1), rfl, by omega, rfl, ?_, ?_, fun x => ?_, hpw, ?_, hfr⟩
          · simp only [go_sem, wp_sq, reduceIte, Nat.reduceEqDiff, Nat.reduceAdd, Nat.reduceBEq, reduceCtorEq, hx, List.length_take, Nat.min_eq_left (Nat.le_of_lt h1)]
          · simp; omega
          · exact (mem_same h1 hp x).symm
          · rw [show (ss.take (k + 1)).length = k + 1 by simp; omega, List.take_append_drop]
            exact hS1
        rintro n2 e2 S2 ⟨k2, a, hn2, hk2', hy, hz, hal, hmem, hpa, hS2, hfr2⟩ hf2
        have ht0 : e2 0 = .sl b 0 ss.length none := (show e2 0 = e 0 from hf2 0 rfl).trans hs0
        have ht4 : e2 4 = .sl b (k + 1) (ss.length - (k + 1)) none := hf2 4 rfl
        have hw2 := wrap_succ (i := k2 + 1) (by omega)
        have hw3 := wrap_succ (i := a.length) (by omega)
        have hwp2 := wrap_pred (i := k2) (by omega)
        have hlen2 : (a ++ ss.drop a.length).length = ss.length := by simp; omega
        have hck0 := slck_sl (i := 0) (n := ss.length) (c := none) hS2
        have hck4 := slck_sl (i := k + 1) (n := ss.length - (k + 1)) (c := none) hS2
        by_cases h3 : k2 + 1 < ss.length - (k + 1)
        · have hj1 : k + 1 + (k2 + 1) < ss.length := by omega
          have hj2 : k + 1 + k2 < ss.length := by omega
          have hc3 := nth_E (get_mid (a := a) (by omega) hj1)
          have hc4 := nth_E (get_mid (a := a) (by omega) hj2)
          have hi3 := didx_sl (b := b) (j := k + 1) (k := 2) (c := none) (kd := .i64) h3
          have hi4 := didx_sl (b := b) (j := k + 1) (k := 2) (c := none) (kd := .i64) (show k2 < ss.length - (k + 1) by omega)
          simp only [go_sem, wp_sq, reduceIte, Nat.reduceEqDiff, Nat.reduceAdd, Nat.reduceBEq, reduceCtorEq, ht0, ht4, hy, hz, hw2, hw3, h3, dlen_sl]
          refine wp_rdH ?_
          simp only [go_sem, wp_sq, reduceIte, Nat.reduceEqDiff, Nat.reduceAdd, Nat.reduceBEq, reduceCtorEq, ht0, ht4, hy, hz, hw2, hw3, hwp2, h3, hck0, hck4, hi3, hi4, hS2, hc3, hc4, dpart_E, keq_E, ngB]
          refine ifP_dec (fun hp2 => ?_) (fun hp2 => ?_)
          · simp only [go_sem, wp_sq, reduceIte, Nat.reduceEqDiff, Nat.reduceAdd, Nat.reduceBEq, reduceCtorEq, ht0, ht4, hy, hz, hw2, hw3, h3]
            refine ⟨_, ?_, rfl, (by repeat' first | exact hf | exact rfl | exact Fr0.refl _ _ | apply Fr0.upd | exact hf2 | refine Fr0.sub hf2 rfl ?_ | refine Fr0.sub hf rfl ?_), k2 + 1, a, rfl, by omega, rfl, hz, by omega, fun x => ?_, hpa, hS2, hfr2⟩
            · omega
            · rw [hmem]
              exact (mem_same (i := k + 1 + k2) (by omega) hp2 x).symm
          · have hi5 := didx_sl (b := b) (j := 0) (k := 2) (c := none) (kd := .i64) (show a.length < ss.length by omega)
            have hset : setN ((a ++ ss.drop a.length).map rE) a.length (rE ss[k + 1 + (k2 + 1)]) = ((a ++ [ss[k + 1 + (k2 + 1)]]) ++ ss.drop (a ++ [ss[k + 1 + (k2 + 1)]]).length).map rE := by
              rw [setN_eq, show (a ++ [ss[k + 1 + (k2 + 1)]]).length = a.length + 1 by simp, ← set_mid (by omega), List.map_set]
            have hnth := nth_E (get_mid (a := a) (l := ss) (j := a.length) (Nat.le_refl _) (by omega))
            simp only [go_sem, wp_sq, reduceIte, Nat.reduceEqDiff, Nat.reduceAdd, Nat.reduceBEq, reduceCtorEq, ht0, ht4, hy, hz, hw2, hw3, h3, hck0, hck4, hi3, hi5, hc3, hS2, hnth, dpart_E, len_E, put_E, sc_E, bleN, beqN, hset, Nat.le_refl]
            refine ⟨_, ?_, rfl, (by repeat' first | exact hf | exact rfl | exact Fr0.refl _ _ | apply Fr0.upd | exact hf2 | refine Fr0.sub hf2 rfl ?_ | refine Fr0.sub hf rfl ?_), k2 + 1, a ++ [ss[k + 1 + (k2 + 1)]], rfl, by omega, rfl, ?_, ?_, fun x => ?_, fun hso => ?_, put_same _ _ _, hfr2.1, fun x hx => (put_ne _ _ hx).trans (hfr2.2 x hx)⟩
            · omega
            · show DV.int .i64 ((a.length + 1 : Nat) : Int) = _
              rw [List.length_append]
              rfl
            · simp; omega
            · rw [List.mem_append, List.mem_singleton, hmem, show k + 1 + (k2 + 1 + 1) = k + 1 + (k2 + 1) + 1 by omega, List.take_succ_eq_append_getElem hj1, List.mem_append, List.mem_singleton]
            · exact pw_snoc (hpa hso) fun x hx => lt_new hso (j := k + 1 + k2) (by omega) hp2 x ((hmem x).1 hx)
        · have hsl1 := dslice_sl_lo (b := b) (i := 0) (kd := .i64) (n := ss.length) (l := a.length) (by omega)
          have hsl2 := dslice_sl_hi (b := b) (i := 0) (kd := .i64) (n := ss.length) (l := a.length) (by omega)
          have hbl : Nat.ble (a.length + (ss.length - a.length)) (lenN ((a ++ ss.drop a.length).map rE)) = true := by
            rw [bleN, lenN_eq, List.length_map, hlen2, decide_eq_true_eq]
            omega
          have hckp : ∀ o : List (List DV), slcKH 2 (Heap.put S2.h b (some (.cells 2 o))) (.sl b 0 ss.length none) = true := fun o => slck_sl (put_same _ _ _)
          simp only [go_sem, wp_sq, reduceIte, Nat.reduceEqDiff, Nat.reduceAdd, Nat.reduceBEq, reduceCtorEq, ht0, ht4, hy, hz, hw2, hw3, h3, dlen_sl, hck0, hsl1, hsl2, hS2, hbl, hckp, ds_put, allSc]
          refine ret_one (b := none) rfl ?_
          refine ⟨a, _, rfl, put_same _ _ _, ?_, ?_, fun x => ?_, by omega, hpa, hfr2.1, fun x hx => (put_ne _ _ hx).trans (hfr2.2 x hx)⟩
          · rw [putRows_length, List.length_map, hlen2]
            omega
          · rw [putRows_take _ _ _ (Nat.le_refl _), ← List.map_take, List.take_left]
          · rw [hmem, List.take_of_length_le (by omega)]
      · simp only [go_sem, wp_sq, reduceIte, Nat.reduceEqDiff, Nat.reduceAdd, Nat.reduceBEq, reduceCtorEq, hs0, hx, hw, h1]
        refine ⟨_, by omega, rfl, (by repeat' first | exact hf | exact rfl | exact Fr0.refl _ _ | apply Fr0.upd | exact hf2 | refine Fr0.sub hf2 rfl ?_ | refine Fr0.sub hf rfl ?_), k + 1, rfl, by omega, rfl, hS1, fun hso => ?_, hfr⟩
        rw [List.take_succ_eq_append_getElem h1]
        exact pw_snoc (hpw hso) fun x hx => lt_new hso (j := k) h1 hp x hx
    · simp only [go_sem, wp_sq, reduceIte, Nat.reduceEqDiff, Nat.reduceAdd, Nat.reduceBEq, reduceCtorEq, hs0, hx, hw, h1, dlen_sl]
      exact ret_one (b := none) rfl (hall _ (fun hso => by have := hpw hso; rwa [List.take_of_length_le (by omega)] at this) hfr hS1)
end Go.Proofs.YtfmicbbflpkdgaaGreatDoor.D
/-
  Contracts: part 33: the graph of the functions (the program's).
-/
namespace Go.Proofs.YtfmicbbflpkdgaaGreatDoor.D
variable {P : Program} {G : List (List DV)} {S : DS}
/-- The edges between functions. -/
def EOk (n : Nat) (cs : List NCall) (l : List NEd) : Prop := l.Pairwise ltE ∧ ∀ a b, (a, b) ∈ l ↔ edgeOf n cs a b
theorem EOk.eq {n : Nat} {cs : List NCall} {l m : List NEd} (h : EOk n cs l) (g : EOk n cs m) : l = m := by
  have n1 : l.Nodup := h.1.imp fun {a b} h he => by subst he; simp only [ltE] at h; omega
  have n2 : m.Nodup := g.1.imp fun {a b} h he => by subst he; simp only [ltE] at h; omega
  have hp : l.Perm m := (List.perm_ext_iff_of_nodup n1 n2).2 fun x => (h.2 x.1 x.2).trans (g.2 x.1 x.2).symm
  exact List.Perm.eq_of_pairwise (le := ltE) (fun a b _ _ h1 h2 => by simp only [ltE] at h1 h2; omega) h.1 g.1 hp
/-- A list of edges that a function gives back. -/
def ListE (lo : Nat) (D : DS) (v : DV) (E : List NEd) : Prop := (E = [] ∧ v = .isl 2 none [] .no) ∨ ∃ b rows, lo ≤ b ∧ b < D.nx ∧ v = .sl b 0 E.length none ∧ D.h b = some (.cells 2 rows) ∧ E.length ≤ rows.length ∧ rows.take E.length = E.map rE
theorem dbuild2 {a b : Int} : dBuild [.int .i64 0, .int .i64 0] [(0, 1, .int .i64 a), (1, 1, .int .i64 b)] = some [.int .i64 a, .int .i64 b] := rfl
theorem dbuildG {a : Int} {v : DV} : dBuild [.int .i64 0, v] [(0, 1, .int .i64 a)] = some [.int .i64 a, v] := rfl
theorem f16 (ht : TabOk P gl tab.get) (hse : SortEOk P gl) (u : NUnit) (cs : List NCall) (hcs : cs.length ≤ 1000) (S : DS) : DCalls P gl 16 [.agg (eUn u), .isl 3 none (cs.map eC) .no] S fun d D => ∃ v E, d = .agg [.int .i64 (u.funcs.length : Nat), v] ∧ ListE S.nx D v E ∧ EOk u.funcs.length cs E := by
  refine DCalls.of_wp ht.mixed (ht.tab 16 d16 rfl) ?_
  have hne : S.nx ≠ S.nx + 1 := by omega
  have hne' : S.nx + 1 ≠ S.nx := by omega
  simp only [d16, go_sem, wp_sq, reduceIte, Nat.reduceEqDiff, Nat.reduceAdd, Nat.reduceBEq, reduceCtorEq, dbuildG, ds_put, put_same, bleN, Nat.le_refl, allSc, setN, putN]
  refine wp_lpE [7, 14, 15, 16, 17, 18, 19, 20, 21, 22, 23, 24, 25, 26, 27, 28, 29, 30, 31, 32, 33, 34, 35, 36, 37, 38] (fun n e S1 => ∃ i : Nat, n = cs.length - i ∧ i ≤ cs.length ∧ e 14 = .int .i64 i ∧ S.nx + 2 ≤ S1.nx ∧ S1.h S.nx = some (.cells 2 [[.int .i64 0, .isl 2 (some true) [] .ex]]) ∧ ∃ (v : DV) (es : List NEd), S1.h (S.nx + 1) = some (.cells 2 [[.int .i64 (u.funcs.length : Nat), v]]) ∧ MemE (S.nx + 2) S1 v es ∧ (∀ a b, (a, b) ∈ es ↔ edgeOf u.funcs.length (cs.take i) a b) ∧ es.length ≤ i) cs.length ?_ ?_
  · exact ⟨0, rfl, Nat.zero_le _, rfl, Nat.le_refl _, ((put_ne _ _ hne).trans (put_ne _ _ hne)).trans (put_same _ _ _), _, [], put_same _ _ _, MemE.nil, fun a b => ⟨fun h => by simp at h, fun ⟨c, h, _⟩ => by simp at h⟩, Nat.le_refl _⟩
  rintro n e S1 ⟨i, hn, hi, hx, hnx, hS0, v, es, hS1, hM, hI, hel⟩ hf
  have hs2 : e 2 = .iptr (eUn u) 0 := hf 2 rfl
  have hs4 : e 4 = .ptr S.nx 0 0 := hf 4 rfl
  have hs5 : e 5 = .ptr (S.nx + 1) 0 0 := hf 5 rfl
  have hs12 : e 12 = .isl 3 none (cs.map eC) .no := hf 12 rfl
  have hs13 : e 13 = .int .i64 cs.length := hf 13 rfl
  have hw := wrap_succ (i := i) (by omega)
  by_cases h1 : i < cs.length
  · have htake : cs.take (i + 1) = cs.take i ++ [cs[i]] := List.take_succ_eq_append_getElem h1
    have ha1 : S.nx ≠ S1.nx := by omega
    have ha2 : S.nx + 1 ≠ S1.nx := by omega
    simp only [go_sem, wp_sq, reduceIte, Nat.reduceEqDiff, Nat.reduceAdd, Nat.reduceBEq, reduceCtorEq, hs2, hs4, hs5, hs12, hs13, hx, hw, h1]
    refine ⟨_, _, _, rfl, put_same _ _ _, rfl, rfl, rfl, ?_⟩
    simp only [go_sem, wp_sq, reduceIte, Nat.reduceEqDiff, Nat.reduceAdd, Nat.reduceBEq, reduceCtorEq, hs2, hs4, hs5, hs12, hs13, hx, hw, h1]
    have hM1 : ∀ o, MemE (S.nx + 2) (DS.put (DS.put ⟨S1.h, S1.nx + 1⟩ S1.nx o) S1.nx none) v es := fun o => hM.keep (Nat.le_succ _) fun b h2 h3 => (put_ne _ _ (by omega)).trans (put_ne _ _ (by omega))
    have hA : ∀ o, (DS.put (DS.put ⟨S1.h, S1.nx + 1⟩ S1.nx o) S1.nx none).h S.nx = some (.cells 2 [[.int .i64 0, .isl 2 (some true) [] .ex]]) := fun o => ((put_ne _ _ ha1).trans (put_ne _ _ ha1)).trans hS0
    have hB : ∀ o, (DS.put (DS.put ⟨S1.h, S1.nx + 1⟩ S1.nx o) S1.nx none).h (S.nx + 1) = some (.cells 2 [[.int .i64 (u.funcs.length : Nat), v]]) := fun o => ((put_ne _ _ ha2).trans (put_ne _ _ ha2)).trans hS1
    refine ex_call (f30 ht u cs[i].func) ?_
    rintro _ rfl
    cases hr : rightB u.funcs.length cs[i] with
    | false =>
      have hI2 : ∀ a b, (a, b) ∈ es ↔ edgeOf u.funcs.length (cs.take (i + 1)) a b := fun a b => by
        rw [htake, edge_snoc, hI]
        refine ⟨.inl, fun g => g.elim id fun ⟨h1, h2, h3, h4⟩ => ?_⟩
        rw [right_iff.2 ⟨a, b, h1, h2, h3, h4⟩] at hr
        cases hr
      by_cases ha : 0 ≤ cs[i].func ∧ cs[i].func < u.funcs.length
      · rw [decide_eq_true ha]
        simp only [go_sem, wp_sq, reduceIte, Nat.reduceEqDiff, Nat.reduceAdd, Nat.reduceBEq, reduceCtorEq, hs2, hs4, hs5, hs12, hs13, hx, hw, h1]
        refine ex_call (f30 ht u cs[i].callee) ?_
        rintro _ rfl
        have hb : ¬ (0 ≤ cs[i].callee ∧ cs[i].callee < u.funcs.length) := fun hb => by
          have : rightB u.funcs.length cs[i] = true := by simp [rightB, ha, hb]
          rw [hr] at this
          cases this
        rw [decide_eq_false hb]
        simp only [go_sem, wp_sq, reduceIte, Nat.reduceEqDiff, Nat.reduceAdd, Nat.reduceBEq, reduceCtorEq, hs2, hs4, hs5, hs12, hs13, hx, hw, h1]
        exact ⟨_, by omega, rfl, (by repeat' first | exact hf | exact rfl | exact Fr0.refl _ _ | apply Fr0.upd | exact hf2 | refine Fr0.sub hf2 rfl ?_ | refine Fr0.sub hf rfl ?_), i + 1, rfl, by omega, rfl, Nat.le_succ_of_le hnx, hA _, v, es, hB _, hM1 _, hI2, by omega⟩
      · rw [decide_eq_false ha]
        simp only [go_sem, wp_sq, reduceIte, Nat.reduceEqDiff, Nat.reduceAdd, Nat.reduceBEq, reduceCtorEq, hs2, hs4, hs5, hs12, hs13, hx, hw, h1]
        exact ⟨_, by omega, rfl, (by repeat' first | exact hf | exact rfl | exact Fr0.refl _ _ | apply Fr0.upd | exact hf2 | refine Fr0.sub hf2 rfl ?_ | refine Fr0.sub hf rfl ?_), i + 1, rfl, by omega, rfl, Nat.le_succ_of_le hnx, hA _, v, es, hB _, hM1 _, hI2, by omega⟩
    | true =>
      obtain ⟨a, b, ha, hb, hla, hlb⟩ := right_iff.1 hr
      have ha2' : 0 ≤ cs[i].func ∧ cs[i].func < u.funcs.length := by omega
      have hb2' : 0 ≤ cs[i].callee ∧ cs[i].callee < u.funcs.length := by omega
      rw [decide_eq_true ha2']
      simp only [go_sem, wp_sq, reduceIte, Nat.reduceEqDiff, Nat.reduceAdd, Nat.reduceBEq, reduceCtorEq, hs2, hs4, hs5, hs12, hs13, hx, hw, h1]
      refine ex_call (f30 ht u cs[i].callee) ?_
      rintro _ rfl
      rw [decide_eq_true hb2']
      simp only [go_sem, wp_sq, reduceIte, Nat.reduceEqDiff, Nat.reduceAdd, Nat.reduceBEq, reduceCtorEq, hs2, hs4, hs5, hs12, hs13, hx, hw, h1, ds_put, put_ne _ _ ha2, hS1, dbuild2]
      refine ex_memE (p := (a, b)) (hM1 _) (Nat.le_succ_of_le hnx) (Nat.le_refl _) (by omega) ha hb (fun v2 ps hB3 hB4 => ?_)
      have hB5 := hB3 _ (Nat.lt_succ_self _)
      have hfr : ∀ m, (DS.puts ⟨Heap.put (Heap.put S1.h S1.nx (some (.cells 3 [[.int .i64 0, .int .i64 0, .int .i64 0]]))) S1.nx none, m⟩ ps).h (S.nx + 1) = some (.cells 2 [[.int .i64 (u.funcs.length : Nat), v]]) := fun m => (hB4 (S.nx + 1) (Nat.lt_succ_self _)).trans (hB _)
      have hfr0 := (hB4 S.nx (by omega)).trans (hA _)
      have hv2 : cellsOf v2 = [v2] ∧ allSc [v2] = true := by
        rcases hB5 with ⟨h, _⟩ | ⟨_, b', _, _, h, _⟩
        · exact absurd h (by simp)
        · rw [h]
          exact ⟨rfl, rfl⟩
      simp only [cellsOf] at hv2
      have bb : Nat.ble 2 (Nat.succ (Nat.succ 0)) = true := rfl
      simp only [go_sem, wp_sq, reduceIte, Nat.reduceEqDiff, Nat.reduceAdd, Nat.reduceBEq, reduceCtorEq, hs2, hs4, hs5, hs12, hs13, hx, hw, h1, hv2.1, hv2.2, hfr, bleN, Nat.le_refl, setN, putN]
      have hq2 : S.nx ≠ S.nx + 1 := by omega
      refine ⟨cs.length - (i + 1), by omega, rfl, (by repeat' first | exact hf | exact rfl | exact Fr0.refl _ _ | apply Fr0.upd | exact hf2 | refine Fr0.sub hf2 rfl ?_ | refine Fr0.sub hf rfl ?_), i + 1, rfl, by omega, rfl, Nat.le_succ_of_le (Nat.le_succ_of_le hnx), ?_, v2, es ++ [(a, b)], put_same _ _ _, ?_, ?_, ?_⟩
      · exact (put_ne _ _ hq2).trans hfr0
      · exact hB5.keep (Nat.le_refl _) fun c h2 h3 => put_ne _ _ (by omega)
      · intro x y
        rw [htake, edge_snoc, List.mem_append, hI]
        simp only [List.mem_singleton, Prod.mk.injEq]
        refine or_congr Iff.rfl ⟨?_, ?_⟩
        · rintro ⟨rfl, rfl⟩
          exact ⟨ha, hb, hla, hlb⟩
        · rintro ⟨h1, h2, _, _⟩
          rw [ha] at h1
          rw [hb] at h2
          exact ⟨by omega, by omega⟩
      · rw [List.length_append]
        exact Nat.succ_le_succ hel
  · rw [List.take_of_length_le (by omega)] at hI
    simp only [go_sem, wp_sq, reduceIte, Nat.reduceEqDiff, Nat.reduceAdd, Nat.reduceBEq, reduceCtorEq, hs2, hs4, hs5, hs12, hs13, hx, hw, h1, hS1]
    have hz1 : S.nx ≠ S.nx + 1 := by omega
    rcases hM with ⟨rfl, rfl⟩ | ⟨hne2, b, hb1, hb2, rfl, hb3⟩
    · refine ex_callD (hse.edge0 _) ?_
      rintro _ D ⟨rfl, rfl⟩
      simp only [go_sem, wp_sq, reduceIte, Nat.reduceEqDiff, Nat.reduceAdd, Nat.reduceBEq, reduceCtorEq, hs2, hs4, hs5, hs12, hs13, hS1]
      refine ex_call (f39n ht) ?_
      rintro _ rfl
      simp only [go_sem, wp_sq, reduceIte, Nat.reduceEqDiff, Nat.reduceAdd, Nat.reduceBEq, reduceCtorEq, hs2, hs4, hs5, hs12, hs13, hS1, bleN, Nat.le_refl, allSc, setN, putN, ds_put, put_same, put_ne _ _ hz1, hS0]
      refine ret_c (b := S.nx) (k := 2) (by simp only [upd_at, reduceIte, Nat.reduceEqDiff, Nat.add_eq, Nat.reduceAdd, Nat.add_zero, Nat.succ_eq_add_one, Nat.reduceBEq, Nat.beq_eq_true_eq, Exits.set_at, envA_at, nth, List.length_cons, List.length_nil, decide_true, Nat.zero_add, hs4]) (put_same _ _ _) rfl rfl ?_
      exact ⟨_, [], rfl, .inl ⟨rfl, rfl⟩, List.Pairwise.nil, hI⟩
    · have hpos : 0 < es.length := by cases es with | nil => exact absurd rfl hne2 | cons a l => exact Nat.succ_pos _
      refine ex_callD (hse.edge _ b es none hb3 hpos (by omega)) ?_
      rintro _ D ⟨rfl, ts, hts, htp, rfl⟩
      have hz2 : S.nx + 1 ≠ b := by omega
      have hz3 : S.nx ≠ b := by omega
      have hlen := hts.length_eq
      simp only [go_sem, wp_sq, reduceIte, Nat.reduceEqDiff, Nat.reduceAdd, Nat.reduceBEq, reduceCtorEq, hs2, hs4, hs5, hs12, hs13, ds_put, put_ne _ _ hz2, hS1]
      rw [← hlen]
      refine ex_callD (f39 ht _ b ts (put_same _ _ _) (by omega) (by omega)) ?_
      rintro _ D ⟨rs, rows, rfl, hr1, hr2, hr3, hr4, hr5, hr6, hr7, hr8⟩
      have hg1 := (hr8 _ hz2).trans ((put_ne _ _ hz2).trans hS1)
      have hg0 := (hr8 _ hz3).trans ((put_ne _ _ hz3).trans hS0)
      simp only [go_sem, wp_sq, reduceIte, Nat.reduceEqDiff, Nat.reduceAdd, Nat.reduceBEq, reduceCtorEq, hs2, hs4, hs5, hs12, hs13, hg1, bleN, Nat.le_refl, allSc, setN, putN, ds_put, put_same, put_ne _ _ hz1, hg0]
      refine ret_c (b := S.nx) (k := 2) (by simp only [upd_at, reduceIte, Nat.reduceEqDiff, Nat.add_eq, Nat.reduceAdd, Nat.add_zero, Nat.succ_eq_add_one, Nat.reduceBEq, Nat.beq_eq_true_eq, Exits.set_at, envA_at, nth, List.length_cons, List.length_nil, decide_true, Nat.zero_add, hs4]) (put_same _ _ _) rfl rfl ?_
      have hg7 : S1.nx ≤ D.nx := hr7
      refine ⟨_, rs, rfl, .inr ⟨b, rows, Nat.le_trans (Nat.le_add_right _ 2) hb1, Nat.lt_of_lt_of_le hb2 hg7, rfl, ((put_ne _ _ hz3.symm).trans (put_ne _ _ hz2.symm)).trans hr1, hr2, hr3⟩, hr6 htp, fun x y => ?_⟩
      rw [hr4, hts.mem_iff, hI]
end Go.Proofs.YtfmicbbflpkdgaaGreatDoor.D
