/-
  Contracts: part 30: marks and their closure (the reference's).
-/
import Derived.Test.YtfmicbbflpkdgaaGreatDoorA33
set_option linter.unusedVariables false
set_option linter.unusedSimpArgs false
namespace Go.Proofs.YtfmicbbflpkdgaaGreatDoor.D
variable {P : Program} {G : List (List DV)} {S : DS}
structure NCall where
  func : Int
  instr : Int
  callee : Int
def eC (c : NCall) : List DV := [.int .i64 c.func, .int .i64 c.instr, .int .i64 c.callee]
attribute [go_sem] eC
theorem cl_eC (s : NCall) : ∀ c, c ∈ eC s → Closed c := by
  intro c hc
  simp only [eC, List.mem_cons, List.not_mem_nil, or_false] at hc
  rcases hc with rfl | rfl | rfl <;> exact .int _ _
/-- A call edge whose ends are functions. -/
def rightB (n : Nat) (c : NCall) : Bool := decide (0 ≤ c.func) && (decide (c.func < n) && (decide (0 ≤ c.callee) && decide (c.callee < n)))
theorem right_iff {n : Nat} {c : NCall} : rightB n c = true ↔ ∃ a b : Nat, c.func = a ∧ c.callee = b ∧ a < n ∧ b < n := by
  simp only [rightB, Bool.and_eq_true, decide_eq_true_iff]
  constructor
  · rintro ⟨h1, h2, h3, h4⟩
    obtain ⟨a, ha⟩ := Int.eq_ofNat_of_zero_le h1
    obtain ⟨b, hb⟩ := Int.eq_ofNat_of_zero_le h3
    exact ⟨a, b, ha, hb, by omega, by omega⟩
  · rintro ⟨a, b, h1, h2, h3, h4⟩
    omega
theorem f40 (ht : TabOk P gl tab.get) (u : NUnit) (c : NCall) : Val P gl 40 [.agg (eUn u), .agg (eC c)] fun d => d = .bool (rightB u.funcs.length c) := by
  refine Val.of_wp gl_ok ht (df := d40) rfl (cl_cons (.agg _ (cl_eUn u)) (cl_cons (.agg _ (cl_eC c)) cl_nil)) (fun d hd => by rw [hd]; exact .bool _) ?_
  by_cases h1 : 0 ≤ c.func
  · by_cases h2 : c.func < u.funcs.length
    · by_cases h3 : 0 ≤ c.callee
      · by_cases h4 : c.callee < u.funcs.length
        · simp only [d40, go_sem, wp_sq, reduceIte, Nat.reduceEqDiff, Nat.reduceAdd, Nat.reduceBEq, reduceCtorEq, h1, h2, h3, h4]
          refine ret_one (b := none) rfl ?_
          show DV.bool true = _
          rw [show rightB u.funcs.length c = true by simp [rightB, h1, h2, h3, h4]]
        · simp only [d40, go_sem, wp_sq, reduceIte, Nat.reduceEqDiff, Nat.reduceAdd, Nat.reduceBEq, reduceCtorEq, h1, h2, h3, h4]
          refine ret_one (b := none) rfl ?_
          show DV.bool false = _
          rw [show rightB u.funcs.length c = false by simp [rightB, h1, h2, h3, h4]]
      · simp only [d40, go_sem, wp_sq, reduceIte, Nat.reduceEqDiff, Nat.reduceAdd, Nat.reduceBEq, reduceCtorEq, h1, h2, h3]
        refine ret_one (b := none) rfl ?_
        show DV.bool false = _
        rw [show rightB u.funcs.length c = false by simp [rightB, h1, h2, h3]]
    · simp only [d40, go_sem, wp_sq, reduceIte, Nat.reduceEqDiff, Nat.reduceAdd, Nat.reduceBEq, reduceCtorEq, h1, h2]
      refine ret_one (b := none) rfl ?_
      show DV.bool false = _
      rw [show rightB u.funcs.length c = false by simp [rightB, h1, h2]]
  · simp only [d40, go_sem, wp_sq, reduceIte, Nat.reduceEqDiff, Nat.reduceAdd, Nat.reduceBEq, reduceCtorEq, h1]
    refine ret_one (b := none) rfl ?_
    show DV.bool false = _
    rw [show rightB u.funcs.length c = false by simp [rightB, h1]]
def rB (b : Bool) : List DV := [.bool b]
/-- The places that are marked. -/
def markL (bs : List Bool) : List Nat := (List.range bs.length).filter fun i => bs.getD i false
theorem mark_mem {bs : List Bool} {g : Nat} : g ∈ markL bs ↔ bs[g]? = some true := by
  simp only [markL, List.mem_filter, List.mem_range, List.getD_eq_getElem?_getD]
  constructor
  · rintro ⟨h1, h2⟩
    rw [List.getElem?_eq_getElem h1] at h2 ⊢
    simpa using h2
  · intro h
    obtain ⟨h1, h2⟩ := List.getElem?_eq_some_iff.1 h
    exact ⟨h1, by rw [h]; rfl⟩
theorem mark_sorted {bs : List Bool} : (markL bs).Pairwise (· < ·) := List.pairwise_lt_range.filter _
theorem filter_range_succ (p : Nat → Bool) (n : Nat) : (List.range (n + 1)).filter p = (List.range n).filter p ++ (if p n then [n] else []) := by
  rw [List.range_succ, List.filter_append]
  congr 1
  by_cases h : p n <;> simp [h]
theorem nth_B {i : Nat} {l : List Bool} (hi : i < l.length) : nth (l.map rB) i = some [.bool l[i]] := by
  rw [nth_map, nth_lt hi]
  rfl
theorem f41 (ht : TabOk P gl tab.get) (S : DS) (b : Nat) (bs : List Bool) (c : Option Nat) (hb : b < S.nx) (hS : S.h b = some (.cells 1 (bs.map rB))) (hl : bs.length ≤ 1048576) : Pure P gl 41 [.sl b 0 bs.length c] S fun d => d = .isl 1 none ((markL bs).map rN) .no := by
  refine Pure.tab ht (df := d41) rfl ?_
  simp only [d41, go_sem, wp_sq, reduceIte, Nat.reduceEqDiff, Nat.reduceAdd, Nat.reduceBEq, reduceCtorEq]
  refine wp_lpE [3, 4, 5, 6, 7, 8, 9, 10, 11, 12, 13, 14, 15, 16, 17, 18] (fun n e S1 => ∃ i : Nat, n = bs.length - i ∧ i ≤ bs.length ∧ e 4 = .int .i64 i ∧ Old S S1 ∧ AppL S.nx S1 (e 3) 1 (((List.range i).filter fun i => bs.getD i false).map rN)) bs.length ⟨0, rfl, Nat.zero_le _, rfl, Old.refl S, AppL.nil⟩ ?_
  rintro n e S1 ⟨i, hn, hi, hx, hold, hA⟩ hf
  have hs0 : e 0 = .sl b 0 bs.length c := hf 0 rfl
  have hw := wrap_succ (i := i) (by omega)
  have hS1 : S1.h b = some (.cells 1 (bs.map rB)) := by rw [hold.2 b hb]; exact hS
  have hck := slck_sl (i := 0) (n := bs.length) (c := c) hS1
  obtain ⟨nf, tl, h3, _⟩ := id hA
  by_cases h1 : i < bs.length
  · have hn1 := nth_B h1
    have hi1 := didx_sl (b := b) (j := 0) (k := 1) (c := c) (kd := .i64) h1
    have hfl := filter_range_succ (fun i => bs.getD i false) i
    have hlen : ((List.range i).filter fun i => bs.getD i false).length ≤ i := by
      refine Nat.le_trans (List.length_filter_le _ _) ?_
      simp
    have hgd : bs.getD i false = bs[i] := by simp [List.getD_eq_getElem?_getD, h1]
    simp only [hgd] at hfl
    cases hbi : bs[i] with
    | true =>
      rw [hbi] at hn1 hfl
      simp only [go_sem, wp_sq, reduceIte, Nat.reduceEqDiff, Nat.reduceAdd, Nat.reduceBEq, reduceCtorEq, hs0, hx, hw, h1, dlen_sl, hck, hi1, hS1, hn1]
      rw [h3] at hA
      simp only [go_sem, wp_sq, reduceIte, Nat.reduceEqDiff, Nat.reduceAdd, Nat.reduceBEq, reduceCtorEq, hs0, hx, hw, h1, h3]
      refine ex_appL hA hold.1 rfl (by simp) (by rw [List.length_map]; omega) (by simp) (Nat.le_refl _) (fun v ps2 hB hB2 => ?_)
      try simp only [go_sem, wp_sq, reduceIte, Nat.reduceEqDiff, Nat.reduceAdd, Nat.reduceBEq, reduceCtorEq, hs0, hx, hw, h1]
      refine ⟨_, by omega, rfl, (by repeat' first | exact hf | exact rfl | exact Fr0.refl _ _ | apply Fr0.upd | exact hf2 | refine Fr0.sub hf2 rfl ?_ | refine Fr0.sub hf rfl ?_), i + 1, rfl, by omega, rfl, ⟨Nat.le_succ_of_le hold.1, fun b hb => (hB2 b hb).trans (hold.2 b hb)⟩, ?_⟩
      have := hB _ (Nat.lt_succ_self _)
      rw [hfl, if_pos rfl, List.map_append]
      exact this
    | false =>
      rw [hbi] at hn1 hfl
      simp only [go_sem, wp_sq, reduceIte, Nat.reduceEqDiff, Nat.reduceAdd, Nat.reduceBEq, reduceCtorEq, hs0, hx, hw, h1, dlen_sl, hck, hi1, hS1, hn1]
      refine ⟨_, by omega, rfl, (by repeat' first | exact hf | exact rfl | exact Fr0.refl _ _ | apply Fr0.upd | exact hf2 | refine Fr0.sub hf2 rfl ?_ | refine Fr0.sub hf rfl ?_), i + 1, rfl, by omega, rfl, hold, ?_⟩
      rw [hfl, if_neg (by decide), List.append_nil]
      exact hA
  · simp only [go_sem, wp_sq, reduceIte, Nat.reduceEqDiff, Nat.reduceAdd, Nat.reduceBEq, reduceCtorEq, hs0, hx, hw, h1, dlen_sl]
    refine ret_one (b := none) hA.fz ⟨?_, hold⟩
    rw [markL, show i = bs.length by omega]
/-- What is reached along edges. -/
inductive Rch (E : Nat → Nat → Prop) (s : Nat) : Nat → Prop
  | refl : Rch E s s
  | step {a b : Nat} (h : Rch E s a) (e : E a b) : Rch E s b
def edgeOf (n : Nat) (cs : List NCall) (a b : Nat) : Prop := ∃ c, c ∈ cs ∧ c.func = (a : Int) ∧ c.callee = (b : Int) ∧ a < n ∧ b < n
def cntF : List Bool → Nat
  | [] => 0
  | b :: l => (if b then 0 else 1) + cntF l
theorem cntF_set {l : List Bool} {i : Nat} (h : l[i]? = some false) : cntF (l.set i true) + 1 = cntF l := by
  induction l generalizing i with
  | nil => simp at h
  | cons a l ih =>
    cases i with
    | zero =>
      simp only [List.getElem?_cons_zero, Option.some.injEq] at h
      subst h
      simp [cntF]
      omega
    | succ i =>
      simp only [List.getElem?_cons_succ] at h
      have := ih h
      simp only [List.set_cons_succ, cntF]
      omega
/-- Marks that only grow, and only along edges. -/
structure Grow (E : Nat → Nat → Prop) (bs cur : List Bool) : Prop where
  len : cur.length = bs.length
  keep : ∀ g : Nat, bs[g]? = some true → cur[g]? = some true
  sound : ∀ g : Nat, cur[g]? = some true → ∃ s : Nat, bs[s]? = some true ∧ Rch E s g
theorem Grow.refl {E : Nat → Nat → Prop} {bs : List Bool} : Grow E bs bs := ⟨rfl, fun _ h => h, fun g h => ⟨g, h, .refl⟩⟩
theorem Grow.set {E : Nat → Nat → Prop} {bs cur : List Bool} {a b : Nat} (h : Grow E bs cur) (ha : cur[a]? = some true) (e : E a b) : Grow E bs (cur.set b true) := by
  refine ⟨by rw [List.length_set]; exact h.len, fun g hg => ?_, fun g hg => ?_⟩
  · rw [List.getElem?_set]
    have hk := h.keep g hg
    obtain ⟨hl, _⟩ := List.getElem?_eq_some_iff.1 hk
    by_cases hb : b = g
    · subst hb
      simp [hl]
    · simp [hb, hk]
  · rw [List.getElem?_set] at hg
    by_cases hb : b = g
    · subst hb
      obtain ⟨s, h1, h2⟩ := h.sound a ha
      exact ⟨s, h1, h2.step e⟩
    · simp only [hb, if_false] at hg
      exact h.sound g hg
def ClosedB (E : Nat → Nat → Prop) (cur : List Bool) : Prop := ∀ a b : Nat, E a b → cur[a]? = some true → cur[b]? = some true
theorem Grow.all {E : Nat → Nat → Prop} {bs cur : List Bool} (h : Grow E bs cur) (hc : ClosedB E cur) (g : Nat) : cur[g]? = some true ↔ ∃ s : Nat, bs[s]? = some true ∧ Rch E s g := by
  refine ⟨h.sound g, ?_⟩
  rintro ⟨s, h1, h2⟩
  induction h2 with
  | refl => exact h.keep _ h1
  | step h3 e ih => exact hc _ _ e ih
theorem setN_B {l : List Bool} {i : Nat} : setN (l.map rB) i [.bool true] = (l.set i true).map rB := by
  rw [setN_eq, List.map_set]
  rfl
theorem f43 (ht : TabOk P gl tab.get) (u : NUnit) (cs : List NCall) (hcs : cs.length < 4611686018427387904) (S : DS) (b : Nat) (bs : List Bool) (c : Option Nat) (hlen : bs.length = u.funcs.length) (hS : S.h b = some (.cells 1 (bs.map rB))) : DCalls P gl 43 [.agg (eUn u), .sl b 0 bs.length c, .isl 3 none (cs.map eC) .no] S fun d D => d = .sl b 0 bs.length c ∧ S.nx ≤ D.nx ∧ ∃ cur : List Bool, D.h b = some (.cells 1 (cur.map rB)) ∧ cur.length = bs.length ∧ ∀ g : Nat, cur[g]? = some true ↔ ∃ s : Nat, bs[s]? = some true ∧ Rch (edgeOf bs.length cs) s g := by
  refine DCalls.of_wp ht.mixed (ht.tab 43 d43 rfl) ?_
  simp only [d43, go_sem, wp_sq, reduceIte, Nat.reduceEqDiff, Nat.reduceAdd, Nat.reduceBEq, reduceCtorEq]
  refine wp_lpE [7, 8, 9, 10, 11, 12, 13, 14, 15, 16, 17, 18, 19, 20, 21, 22, 23, 24, 25, 26, 27, 28, 29, 30, 31, 32, 33, 34, 35, 36, 37, 38, 39, 40, 41, 42, 43, 44, 45, 46, 47, 48, 49] (fun n e S1 => ∃ (cur : List Bool) (mr : Bool), n = 2 * cntF cur + (if mr then 1 else 0) ∧ e 7 = .bool mr ∧ S1.h b = some (.cells 1 (cur.map rB)) ∧ Grow (edgeOf bs.length cs) bs cur ∧ (mr = false → ClosedB (edgeOf bs.length cs) cur) ∧ S.nx ≤ S1.nx) (2 * cntF bs + 1) ⟨bs, true, rfl, rfl, hS, Grow.refl, (fun h => by cases h), Nat.le_refl _⟩ ?_
  rintro n e S1 ⟨cur, mr, hn, h7, hS1, hg, hcl, hnx⟩ hf
  have hs1 : e 1 = .sl b 0 bs.length c := hf 1 rfl
  have hs2 : e 2 = .isl 3 none (cs.map eC) .no := hf 2 rfl
  have hs3 : e 3 = .iptr (eUn u) 0 := hf 3 rfl
  cases mr with
  | false =>
    simp only [go_sem, wp_sq, reduceIte, Nat.reduceEqDiff, Nat.reduceAdd, Nat.reduceBEq, reduceCtorEq, h7, hs1, hs2, hs3]
    refine ret_one (b := none) rfl ⟨rfl, hnx, cur, hS1, hg.len, hg.all (hcl rfl)⟩
  | true =>
    have hn : n = 2 * cntF cur + 1 := hn
    simp only [go_sem, wp_sq, reduceIte, Nat.reduceEqDiff, Nat.reduceAdd, Nat.reduceBEq, reduceCtorEq, h7, hs1, hs2, hs3]
    refine wp_lpE [7, 8, 10, 11, 12, 13, 14, 15, 16, 17, 18, 19, 20, 21, 22, 23, 24, 25, 26, 27, 28, 29, 30, 31, 32, 33, 34, 35, 36, 37, 38, 39, 40, 41, 42, 43, 44, 45, 46, 47, 48, 49] (fun n e S2 => ∃ (i : Nat) (cur2 : List Bool) (mr2 : Bool), n = cs.length - i ∧ i ≤ cs.length ∧ e 8 = .int .i64 i ∧ e 7 = .bool mr2 ∧ S2.h b = some (.cells 1 (cur2.map rB)) ∧ Grow (edgeOf bs.length cs) bs cur2 ∧ (mr2 = false → cur2 = cur ∧ ∀ x, x ∈ cs.take i → ∀ a g : Nat, x.func = a → x.callee = g → a < bs.length → g < bs.length → cur[a]? = some true → cur[g]? = some true) ∧ (mr2 = true → cntF cur2 + 1 ≤ cntF cur) ∧ S.nx ≤ S2.nx) cs.length ⟨0, cur, false, rfl, Nat.zero_le _, rfl, rfl, hS1, hg, fun _ => ⟨rfl, by simp⟩, (fun h => by cases h), hnx⟩ ?_
    rintro n2 e2 S2 ⟨i, cur2, mr2, hn2, hi, hy, h72, hS2, hg2, hfa, htr, hnx2⟩ hf2
    have ht1 := (show e2 1 = e 1 from hf2 1 rfl).trans hs1
    have ht2 := (show e2 2 = e 2 from hf2 2 rfl).trans hs2
    have ht3 := (show e2 3 = e 3 from hf2 3 rfl).trans hs3
    have hw := wrap_succ (i := i) (by omega)
    have hck := slck_sl (i := 0) (n := bs.length) (c := c) hS2
    by_cases h1 : i < cs.length
    · simp only [go_sem, wp_sq, reduceIte, Nat.reduceEqDiff, Nat.reduceAdd, Nat.reduceBEq, reduceCtorEq, ht1, ht2, ht3, hy, h72, hw, h1]
      refine wp_rdH ?_
      simp only [go_sem, wp_sq, reduceIte, Nat.reduceEqDiff, Nat.reduceAdd, Nat.reduceBEq, reduceCtorEq, ht1, ht2, ht3, hy, h72, hw, h1]
      refine ex_call (f40 ht u cs[i]) ?_
      rintro _ rfl
      cases hr : rightB u.funcs.length cs[i] with
      | false =>
        simp only [go_sem, wp_sq, reduceIte, Nat.reduceEqDiff, Nat.reduceAdd, Nat.reduceBEq, reduceCtorEq, ht1, ht2, ht3, hy, h72, hw, h1]
        refine ⟨_, by omega, rfl, (by repeat' first | exact hf | exact rfl | exact Fr0.refl _ _ | apply Fr0.upd | exact hf2 | refine Fr0.sub hf2 rfl ?_ | refine Fr0.sub hf rfl ?_), i + 1, cur2, mr2, rfl, by omega, rfl, h72, hS2, hg2, fun h => ⟨(hfa h).1, take_all (hfa h).2 h1 fun a g ha hb h3 h4 => ?_⟩, htr, hnx2⟩
        rw [right_iff.2 ⟨a, g, ha, hb, by omega, by omega⟩] at hr
        cases hr
      | true =>
        obtain ⟨a, g, ha, hgc, hla, hlg⟩ := right_iff.1 hr
        have hla2 : a < cur2.length := by rw [hg2.len]; omega
        have hlg2 : g < cur2.length := by rw [hg2.len]; omega
        have hna := nth_B hla2
        have hng := nth_B hlg2
        have hia := didx_sl (b := b) (j := 0) (k := 1) (n := bs.length) (c := c) (kd := .i64) (show a < bs.length by omega)
        have hig := didx_sl (b := b) (j := 0) (k := 1) (n := bs.length) (c := c) (kd := .i64) (show g < bs.length by omega)
        have hed : edgeOf bs.length cs a g := ⟨cs[i], List.getElem_mem h1, ha, hgc, by omega, by omega⟩
        have hone : ∀ a2 g2 : Nat, cs[i].func = a2 → cs[i].callee = g2 → a2 = a ∧ g2 = g := fun a2 g2 h3 h4 => by omega
        cases hca : cur2[a] with
        | false =>
          rw [hca] at hna
          simp only [go_sem, wp_sq, reduceIte, Nat.reduceEqDiff, Nat.reduceAdd, Nat.reduceBEq, reduceCtorEq, ht1, ht2, ht3, hy, h72, hw, h1, ha, hgc, hck, hia, hS2, hna]
          refine ⟨_, by omega, rfl, (by repeat' first | exact hf | exact rfl | exact Fr0.refl _ _ | apply Fr0.upd | exact hf2 | refine Fr0.sub hf2 rfl ?_ | refine Fr0.sub hf rfl ?_), i + 1, cur2, mr2, rfl, by omega, rfl, h72, hS2, hg2, fun h => ⟨(hfa h).1, take_all (hfa h).2 h1 fun a2 g2 h3 h4 h5 h6 h7 => ?_⟩, htr, hnx2⟩
          obtain ⟨rfl, rfl⟩ := hone a2 g2 h3 h4
          have hcc := (hfa h).1
          subst hcc
          rw [List.getElem?_eq_getElem hla2, hca] at h7
          cases h7
        | true =>
          rw [hca] at hna
          have hca2 : cur2[a]? = some true := by rw [List.getElem?_eq_getElem hla2, hca]
          cases hcg : cur2[g] with
          | true =>
            rw [hcg] at hng
            simp only [go_sem, wp_sq, reduceIte, Nat.reduceEqDiff, Nat.reduceAdd, Nat.reduceBEq, reduceCtorEq, ht1, ht2, ht3, hy, h72, hw, h1, ha, hgc, hck, hia, hig, hS2, hna, hng]
            refine ⟨_, by omega, rfl, (by repeat' first | exact hf | exact rfl | exact Fr0.refl _ _ | apply Fr0.upd | exact hf2 | refine Fr0.sub hf2 rfl ?_ | refine Fr0.sub hf rfl ?_), i + 1, cur2, mr2, rfl, by omega, rfl, h72, hS2, hg2, fun h => ⟨(hfa h).1, take_all (hfa h).2 h1 fun a2 g2 h3 h4 h5 h6 h7 => ?_⟩, htr, hnx2⟩
            obtain ⟨rfl, rfl⟩ := hone a2 g2 h3 h4
            have hcc := (hfa h).1
            subst hcc
            rw [List.getElem?_eq_getElem hlg2, hcg]
          | false =>
            rw [hcg] at hng
            have hset := setN_B (l := cur2) (i := g)
            have hcnt := cntF_set (l := cur2) (i := g) (by rw [List.getElem?_eq_getElem hlg2, hcg])
            simp only [go_sem, wp_sq, reduceIte, Nat.reduceEqDiff, Nat.reduceAdd, Nat.reduceBEq, reduceCtorEq, ht1, ht2, ht3, hy, h72, hw, h1, ha, hgc, hck, hia, hig, hS2, hna, hng, bleN, allSc, putN, setN, hset, Nat.le_refl]
            refine ⟨_, by omega, rfl, (by repeat' first | exact hf | exact rfl | exact Fr0.refl _ _ | apply Fr0.upd | exact hf2 | refine Fr0.sub hf2 rfl ?_ | refine Fr0.sub hf rfl ?_), i + 1, cur2.set g true, true, rfl, by omega, rfl, rfl, put_same _ _ _, hg2.set hca2 hed, (fun h => by cases h), fun _ => ?_, hnx2⟩
            cases mr2 with
            | true => have := htr rfl; omega
            | false => rw [(hfa rfl).1] at hcnt ⊢; omega
    · simp only [go_sem, wp_sq, reduceIte, Nat.reduceEqDiff, Nat.reduceAdd, Nat.reduceBEq, reduceCtorEq, ht1, ht2, ht3, hy, h72, hw, h1]
      rw [List.take_of_length_le (by omega)] at hfa
      refine ⟨2 * cntF cur2 + (if mr2 then 1 else 0), ?_, rfl, (by repeat' first | exact hf | exact rfl | exact Fr0.refl _ _ | apply Fr0.upd | exact hf2 | refine Fr0.sub hf2 rfl ?_ | refine Fr0.sub hf rfl ?_), cur2, mr2, rfl, h72, hS2, hg2, fun h a g ⟨x, hx, h3, h4, h5, h6⟩ h7 => ?_, hnx2⟩
      · cases mr2 with
        | true => have := htr rfl; simp only [if_true]; omega
        | false => rw [(hfa rfl).1]; simp; omega
      · have hcc := (hfa h).1
        subst hcc
        exact (hfa h).2 x hx a g h3 h4 h5 h6 h7
theorem rch_lt {n : Nat} {cs : List NCall} {s g : Nat} (hs : s < n) (h : Rch (edgeOf n cs) s g) : g < n := by
  induction h with
  | refl => exact hs
  | step h e ih =>
    obtain ⟨_, _, _, _, _, h2⟩ := e
    exact h2
/-- The functions that are reached from main. -/
def RchOk (u : NUnit) (cs : List NCall) (l : List Nat) : Prop := l.Pairwise (· < ·) ∧ ∀ g, g ∈ l ↔ ∃ m : Nat, u.main = m ∧ Rch (edgeOf u.funcs.length cs) m g
theorem RchOk.eq {u : NUnit} {cs : List NCall} {l m : List Nat} (h : RchOk u cs l) (g : RchOk u cs m) : l = m := sorted_ext h.1 g.1 fun x => (h.2 x).trans (g.2 x).symm
theorem rep_fl (n : Nat) : rep n [DV.bool false] = (List.replicate n false).map rB := by
  rw [rep_eq, List.map_replicate]
  rfl
theorem f19 (ht : TabOk P gl tab.get) (u : NUnit) (cs : List NCall) (hcs : cs.length < 4611686018427387904) (hn : u.funcs.length ≤ 1000) (hm : MainOk u) : Val P gl 19 [.agg (eUn u), .isl 3 none (cs.map eC) .no] fun d => ∃ l : List Nat, d = .isl 1 none (l.map rN) .no ∧ RchOk u cs l := by
  refine Val.of_wp gl_ok ht (df := d19) rfl (cl_cons (.agg _ (cl_eUn u)) (cl_cons (cl_isl cl_eC ..) cl_nil)) (fun d hd => by obtain ⟨l', rfl, _⟩ := hd; exact cl_isl cl_rN ..) ?_
  obtain ⟨m, hmm⟩ := Int.eq_ofNat_of_zero_le hm.1
  have hml : m < u.funcs.length := by have := hm.2; omega
  have e1 : Nat.ble u.funcs.length u.funcs.length = true := by rw [bleN]; simp
  have e2 : Nat.ble u.funcs.length 1048576 = true := by rw [bleN]; simp; omega
  have e3 : (0 : Int) ≤ (m : Int) := Int.natCast_nonneg m
  have hrl : (List.replicate u.funcs.length false).length = u.funcs.length := by simp
  have hn0 := nth_B (i := m) (l := List.replicate u.funcs.length false) (by simpa using hml)
  have hi0 := didx_sl (b := 0) (j := 0) (k := 1) (c := some u.funcs.length) (kd := .i64) hml
  have hset := setN_B (l := List.replicate u.funcs.length false) (i := m)
  have hck0 : slcKH 1 (Heap.put S0.h 0 (some (.cells 1 ((List.replicate u.funcs.length false).map rB)))) (.sl 0 0 u.funcs.length (some u.funcs.length)) = true := slck_sl (put_same _ _ _)
  have hn9 : u.funcs.length ≤ 1048576 := by omega
  have hbl : ((List.replicate u.funcs.length false).set m true).length = u.funcs.length := by simp
  simp only [List.getElem_replicate] at hn0
  simp only [d19, go_sem, wp_sq, reduceIte, Nat.reduceEqDiff, Nat.reduceAdd, Nat.reduceBEq, reduceCtorEq, hmm, dnat_cast, e1, e2, e3, rep_fl, s0nx, dlen_sl, hml, hn9, hck0, hi0, ds_put, put_same, hn0, bleN, allSc, putN, setN, hset, Nat.le_refl]
  have h43 := fun S hS => f43 ht u cs hcs S 0 ((List.replicate u.funcs.length false).set m true) (some u.funcs.length) hbl hS
  rw [hbl] at h43
  rw [← hmm]
  refine ex_callD (h43 _ ?_) ?_
  · exact rfl
  rintro _ D ⟨rfl, hnx, cur, hD, hcl, hcm⟩
  simp only [go_sem, wp_sq, reduceIte, Nat.reduceEqDiff, Nat.reduceAdd, Nat.reduceBEq, reduceCtorEq]
  have h41 := f41 ht D 0 cur (some u.funcs.length) (Nat.lt_of_lt_of_le Nat.zero_lt_one hnx) hD (by omega)
  rw [hcl] at h41
  refine ex_callP h41 ?_
  rintro _ mm rfl _
  simp only [go_sem, wp_sq, reduceIte, Nat.reduceEqDiff, Nat.reduceAdd, Nat.reduceBEq, reduceCtorEq]
  refine ret_one (b := none) rfl ⟨markL cur, rfl, mark_sorted, fun g => ?_⟩
  rw [mark_mem, hcm]
  constructor
  · rintro ⟨s, h1, h2⟩
    rw [List.getElem?_set] at h1
    by_cases hs : m = s
    · subst hs
      exact ⟨m, hmm, h2⟩
    · simp only [hs, if_false] at h1
      rw [List.getElem?_replicate] at h1
      split at h1 <;> simp at h1
  · rintro ⟨s, h1, h2⟩
    have : m = s := by omega
    subst this
    exact ⟨m, by rw [List.getElem?_set]; simp [hml], h2⟩
end Go.Proofs.YtfmicbbflpkdgaaGreatDoor.D
