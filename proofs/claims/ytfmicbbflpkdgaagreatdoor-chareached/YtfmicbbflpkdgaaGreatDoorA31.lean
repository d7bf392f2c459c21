/-
  Contracts: part 23: the program's chain of a class.
-/
import Derived.Test.YtfmicbbflpkdgaaGreatDoorA30
set_option linter.unusedVariables false
set_option linter.unusedSimpArgs false
namespace Go.Proofs.YtfmicbbflpkdgaaGreatDoor.D
variable {P : Program} {G : List (List DV)} {S : DS}
theorem f130 (ht : TabOk P gl tab.get) (l : List Nat) (x : Nat) (hl : l.length < 4611686018427387904) : Val P gl 130 [.isl 1 none (l.map rN) .no, .int .i64 x] fun d => ∃ z, d = .int .i64 z ∧ (0 ≤ z ↔ x ∈ l) := by
  refine Val.of_wp gl_ok ht (df := d130) rfl (cl_cons (cl_isl cl_rN ..) (cl_cons (.int _ _) cl_nil)) (fun d hd => by obtain ⟨z, rfl, _⟩ := hd; exact .int _ _) ?_
  simp only [d130, go_sem, wp_sq, reduceIte, Nat.reduceEqDiff, Nat.reduceAdd, Nat.reduceBEq, reduceCtorEq]
  refine wp_lpE [4, 5, 8, 9, 10, 11, 12, 13, 14, 15, 16, 17, 18] (fun n e _ => ∃ i : Nat, n = l.length - i ∧ i ≤ l.length ∧ e 8 = .int .i64 i ∧ ∀ y, y ∈ l.take i → x ≠ y) l.length ⟨0, rfl, Nat.zero_le _, rfl, by simp⟩ ?_
  rintro n e S ⟨i, hn, hi, hx, hI⟩ hf
  have hs0 : e 0 = .isl 1 none (l.map rN) .no := hf 0 rfl
  have hs1 : e 1 = .int .i64 x := hf 1 rfl
  have hs7 : e 7 = .int .i64 l.length := hf 7 rfl
  have hw := wrap_succ (i := i) (by omega)
  by_cases h1 : i < l.length
  · by_cases hc : x = l[i]
    · simp only [go_sem, wp_sq, reduceIte, Nat.reduceEqDiff, Nat.reduceAdd, Nat.reduceBEq, reduceCtorEq, rN, hs0, hs1, hs7, hx, hw, h1, hc]
      refine ret_one (b := none) rfl ?_
      exact ⟨_, rfl, fun _ => List.getElem_mem h1, fun _ => by omega⟩
    · simp only [go_sem, wp_sq, reduceIte, Nat.reduceEqDiff, Nat.reduceAdd, Nat.reduceBEq, reduceCtorEq, rN, hs0, hs1, hs7, hx, hw, h1, hc]
      exact ⟨_, by omega, rfl, (by repeat' first | exact hf | exact rfl | exact Fr0.refl _ _ | apply Fr0.upd | exact hf2 | refine Fr0.sub hf2 rfl ?_ | refine Fr0.sub hf rfl ?_), i + 1, rfl, by omega, rfl, take_all hI h1 hc⟩
  · simp only [go_sem, wp_sq, reduceIte, Nat.reduceEqDiff, Nat.reduceAdd, Nat.reduceBEq, reduceCtorEq, rN, hs0, hs1, hs7, hx, hw, h1]
    refine ret_one (b := none) rfl ?_
    exact ⟨_, rfl, fun h => by omega, fun h => absurd rfl (take_end hI h1 x h)⟩
theorem f76 (ht : TabOk P gl tab.get) (l : List Nat) (x : Nat) (hl : l.length < 4611686018427387904) : Val P gl 76 [.isl 1 none (l.map rN) .no, .int .i64 x] fun d => d = .bool (decide (x ∈ l)) := by
  refine Val.of_wp gl_ok ht (df := d76) rfl (cl_cons (cl_isl cl_rN ..) (cl_cons (.int _ _) cl_nil)) (fun d hd => by rw [hd]; exact .bool _) ?_
  simp only [d76, go_sem, wp_sq, reduceIte, Nat.reduceEqDiff, Nat.reduceAdd, Nat.reduceBEq, reduceCtorEq]
  refine ex_call (f130 ht l x hl) ?_
  rintro _ ⟨z, rfl, hz⟩
  simp only [go_sem, wp_sq, reduceIte, Nat.reduceEqDiff, Nat.reduceAdd, Nat.reduceBEq, reduceCtorEq]
  refine ret_one (b := none) rfl ?_
  show DV.bool (decide (0 ≤ z)) = _
  rw [show decide (0 ≤ z) = decide (x ∈ l) from decide_eq_decide.2 hz]
theorem f30 (ht : TabOk P gl tab.get) (u : NUnit) (f : Int) : Val P gl 30 [.agg (eUn u), .int .i64 f] fun d => d = .bool (decide (0 ≤ f ∧ f < u.funcs.length)) := by
  refine Val.of_wp gl_ok ht (df := d30) rfl (cl_cons (.agg _ (cl_eUn u)) (cl_cons (.int _ _) cl_nil)) (fun d hd => by rw [hd]; exact .bool _) ?_
  by_cases h1 : 0 ≤ f
  · by_cases h2 : f < u.funcs.length
    · simp only [d30, go_sem, wp_sq, reduceIte, Nat.reduceEqDiff, Nat.reduceAdd, Nat.reduceBEq, reduceCtorEq, h1, h2]
      refine ret_one (b := none) rfl ?_
      rfl
    · simp only [d30, go_sem, wp_sq, reduceIte, Nat.reduceEqDiff, Nat.reduceAdd, Nat.reduceBEq, reduceCtorEq, h1, h2]
      refine ret_one (b := none) rfl ?_
      rfl
  · simp only [d30, go_sem, wp_sq, reduceIte, Nat.reduceEqDiff, Nat.reduceAdd, Nat.reduceBEq, reduceCtorEq, h1]
    refine ret_one (b := none) rfl ?_
    rfl
theorem keq_str {a b : Str} : kEq 5 (.str a) (.str b) = some (decide (a = b)) := by simp [kEq, seq_eq]
theorem ret_c {n mode b k : Nat} {sz : Option Nat} {R : DV → DS → Prop} {cs : List DV} {e : Env} {v v' : DV} (hq : e n = .ptr b 0 0) (hS : S.h b = some (.cells k [cs])) (hp : dPart cs 0 sz = some v) (hm : fzH mode S.h v = some (v', none)) (hr : R v' S) : RetP P G [.c n sz] mode R e S [] := by
  rw [ret_nil]
  refine ⟨[v], [v'], S, ?_, by simp [fzL, hm, killO], hr⟩
  simp only [resH, hq, cload, hS, nth, hp]
theorem s0nx : S0.nx = 0 := rfl
end Go.Proofs.YtfmicbbflpkdgaaGreatDoor.D
/-
  Contracts: part 24: the program's chain of a class, by a map.
-/
namespace Go.Proofs.YtfmicbbflpkdgaaGreatDoor.D
variable {P : Program} {G : List (List DV)} {S : DS}
def encE (p : Str × Nat) : DV × DV := (.str p.1, .int .i64 (p.2 : Int))
def lookP : List (Str × Nat) → Str → Option Nat
  | [], _ => none
  | p :: l, s => if s = p.1 then some p.2 else lookP l s
theorem lk_none {s : Str} : ∀ {ps : List (Str × Nat)} {k : Nat}, lookP ps s = none → findK 5 (.str s) (ps.map encE) k = some none
  | [], _, _ => rfl
  | p :: l, k, h => by
    simp only [lookP] at h
    split at h
    · cases h
    · rename_i hn
      simp only [List.map_cons, encE, findK, keq_str, hn, decide_false]
      exact lk_none h
theorem lk_some {s : Str} {i : Nat} : ∀ {ps : List (Str × Nat)} {k : Nat}, lookP ps s = some i → ∃ j, findK 5 (.str s) (ps.map encE) k = some (some (k + j)) ∧ nth (ps.map encE) j = some (.str s, .int .i64 (i : Int))
  | [], _, h => by simp [lookP] at h
  | p :: l, k, h => by
    simp only [lookP] at h
    split at h
    · rename_i hn
      cases h
      refine ⟨0, ?_, ?_⟩
      · simp only [List.map_cons, encE, findK, keq_str, hn, decide_true]
        rfl
      · simp only [List.map_cons, encE, nth, hn]
    · rename_i hn
      obtain ⟨j, h1, h2⟩ := lk_some (k := Nat.succ k) h
      refine ⟨j + 1, ?_, h2⟩
      simp only [List.map_cons, encE, findK, keq_str, hn, decide_false]
      rw [h1]
      congr 2
      omega
theorem lookP_snoc {s t : Str} {i : Nat} : ∀ {ps : List (Str × Nat)}, lookP (ps ++ [(t, i)]) s = match lookP ps s with | some j => some j | none => if s = t then some i else none
  | [] => rfl
  | p :: l => by
    simp only [List.cons_append, lookP]
    split
    · rfl
    · exact lookP_snoc
def MapOk (h : NHier) (ps : List (Str × Nat)) : Prop := ∀ s, lookP ps s = findN h s
theorem findN_snoc {s : Str} {x : NClass} : ∀ {h : NHier}, findN (h ++ [x]) s = match findN h s with | some j => some j | none => if x.name = s then some h.length else none
  | [] => by
    simp only [List.nil_append, findN]
    split <;> rfl
  | y :: h => by
    simp only [List.cons_append, findN]
    split
    · rfl
    · rw [findN_snoc]
      cases findN h s with
      | some j => rfl
      | none =>
        simp only [Option.map_none]
        split <;> rfl
theorem MapOk.old {h : NHier} {ps : List (Str × Nat)} {x : NClass} (hm : MapOk h ps) {j : Nat} (hj : lookP ps x.name = some j) : MapOk (h ++ [x]) ps := fun s => by
  rw [findN_snoc, hm s]
  cases hf : findN h s with
  | some i => rfl
  | none =>
    by_cases hs : x.name = s
    · rw [← hs, ← hm, hj] at hf
      cases hf
    · simp only [if_neg hs]
theorem MapOk.new {h : NHier} {ps : List (Str × Nat)} {x : NClass} (hm : MapOk h ps) : MapOk (h ++ [x]) (ps ++ [(x.name, h.length)]) := fun s => by
  rw [findN_snoc, lookP_snoc, hm s]
  cases findN h s with
  | some i => rfl
  | none =>
    by_cases hs : x.name = s
    · simp only [hs]
    · simp only [if_neg hs, if_neg (Ne.symm hs)]
theorem f48 (ht : TabOk P gl tab.get) (h : NHier) (hl : h.length < 4611686018427387904) (S : DS) : DCalls P gl 48 [.agg (eHr h)] S fun d D => ∃ ps, d = .map S.nx ∧ MapOk h ps ∧ D.h S.nx = some (.map (ps.map encE)) ∧ Old S D ∧ S.nx < D.nx := by
  refine DCalls.of_wp ht.mixed (ht.tab 48 d48 rfl) ?_
  simp only [d48, go_sem, wp_sq, reduceIte, Nat.reduceEqDiff, Nat.reduceAdd, Nat.reduceBEq, reduceCtorEq]
  refine wp_lpE [4, 5, 6, 7, 12, 13, 14, 15, 16, 17, 18, 19, 20, 21, 22, 23, 24, 25, 26, 27, 28, 29, 30] (fun n e S1 => ∃ i : Nat, n = h.length - i ∧ i ≤ h.length ∧ e 12 = .int .i64 i ∧ ∃ ps, MapOk (h.take i) ps ∧ S1.h S.nx = some (.map (ps.map encE)) ∧ Old S S1 ∧ S.nx < S1.nx) h.length ⟨0, rfl, Nat.zero_le _, rfl, [], fun _ => rfl, put_same _ _ _, ?_, Nat.lt_succ_self _⟩ ?_
  · exact ((Old.refl S).bump 1).put (Nat.le_refl _) _
  rintro n e S1 ⟨i, hn, hi, hx, ps, hm, hS, ho, hlt⟩ hf
  have hs1 : e 1 = .iptr (eHr h) 0 := hf 1 rfl
  have hs3 : e 3 = .map S.nx := hf 3 rfl
  have hs10 : e 10 = .isl 4 none (h.map eCl) .no := hf 10 rfl
  have hs11 : e 11 = .int .i64 h.length := hf 11 rfl
  have hw := wrap_succ (i := i) (by omega)
  have hne : S.nx ≠ S1.nx := by omega
  by_cases h1 : i < h.length
  · simp only [go_sem, wp_sq, reduceIte, Nat.reduceEqDiff, Nat.reduceAdd, Nat.reduceBEq, reduceCtorEq, hs1, hs3, hs10, hs11, hx, hw, h1]
    refine ⟨_, _, _, rfl, put_same _ _ _, rfl, rfl, rfl, ?_⟩
    cases hlk : lookP ps h[i].name with
    | none =>
      have hfk := lk_none (k := 0) hlk
      simp only [go_sem, wp_sq, reduceIte, Nat.reduceEqDiff, Nat.reduceAdd, Nat.reduceBEq, reduceCtorEq, hs1, hs3, hs10, hs11, hx, hw, h1, keq_str, ds_put, put_ne _ _ hne, hS, hfk, cond_true]
      refine ⟨_, by omega, rfl, (by repeat' first | exact hf | exact rfl | exact Fr0.refl _ _ | apply Fr0.upd | exact hf2 | refine Fr0.sub hf2 rfl ?_ | refine Fr0.sub hf rfl ?_), i + 1, rfl, by omega, rfl, ps ++ [(h[i].name, i)], ?_, ?_, ?_, ?_⟩
      · have := hm.new (x := h[i])
        rw [List.length_take, Nat.min_eq_left hi, ← List.take_succ_eq_append_getElem h1] at this
        exact this
      · refine (put_same _ _ _).trans ?_
        simp [encE]
      · exact (((ho.bump 1).put (by show S.nx ≤ S1.nx; omega) _).put (by show S.nx ≤ S1.nx; omega) _).put (Nat.le_refl _) _
      · exact Nat.lt_succ_of_lt hlt
    | some j =>
      obtain ⟨j2, hfk, hnth⟩ := lk_some (k := 0) hlk
      rw [Nat.zero_add] at hfk
      simp only [go_sem, wp_sq, reduceIte, Nat.reduceEqDiff, Nat.reduceAdd, Nat.reduceBEq, reduceCtorEq, hs1, hs3, hs10, hs11, hx, hw, h1, keq_str, ds_put, put_ne _ _ hne, hS, hfk, hnth, cond_true]
      refine ⟨_, by omega, rfl, (by repeat' first | exact hf | exact rfl | exact Fr0.refl _ _ | apply Fr0.upd | exact hf2 | refine Fr0.sub hf2 rfl ?_ | refine Fr0.sub hf rfl ?_), i + 1, rfl, by omega, rfl, ps, ?_, ?_, ?_, ?_⟩
      · rw [List.take_succ_eq_append_getElem h1]
        exact hm.old hlk
      · exact ((put_ne _ _ hne).trans (put_ne _ _ hne)).trans hS
      · exact ((ho.bump 1).put (by show S.nx ≤ S1.nx; omega) _).put (by show S.nx ≤ S1.nx; omega) _
      · exact Nat.lt_succ_of_lt hlt
  · simp only [go_sem, wp_sq, reduceIte, Nat.reduceEqDiff, Nat.reduceAdd, Nat.reduceBEq, reduceCtorEq, hs1, hs3, hs10, hs11, hx, hw, h1]
    refine ret_one (b := none) rfl ?_
    rw [List.take_of_length_le (by omega)] at hm
    exact ⟨ps, rfl, hm, hS, ho, hlt⟩
/-- A list that may be appended to, whose token is not below lo. -/
def AppL (lo : Nat) (S : DS) (v : DV) (k : Nat) (rows : List (List DV)) : Prop := ∃ nf tl, v = .isl k nf rows tl ∧ (tl = .ex ∨ ∃ t, tl = .tk t 0 ∧ lo ≤ t ∧ t < S.nx ∧ S.h t = some (.tok rows.length))
theorem AppL.nil {lo k : Nat} : AppL lo S (.isl k (some true) [] .ex) k [] := ⟨_, _, rfl, .inl rfl⟩
theorem AppL.fz {lo : Nat} {v : DV} {k : Nat} {rows : List (List DV)} (h : AppL lo S v k rows) : fzH 2 S.h v = some (.isl k none rows .no, none) := by
  obtain ⟨nf, tl, rfl, _⟩ := h
  rfl
theorem AppL.up {lo : Nat} {v : DV} {k m : Nat} {rows : List (List DV)} (h : AppL lo S v k rows) (hm : S.nx ≤ m) : AppL lo ⟨S.h, m⟩ v k rows := by
  obtain ⟨nf, tl, h1, h2⟩ := h
  refine ⟨nf, tl, h1, ?_⟩
  rcases h2 with h2 | ⟨t, h3, h4, h5, h6⟩
  · exact .inl h2
  · exact .inr ⟨t, h3, h4, Nat.lt_of_lt_of_le h5 hm, h6⟩
theorem ex_appL {lo : Nat} {v : DV} {k j : Nat} {rows new : List (List DV)} {K : DV → Puts → Prop} (h : AppL lo S v k rows) (hlo : lo ≤ j) (hsc : allScR new = true) (hne : new ≠ []) (h1 : rows.length ≤ 1048576) (h2 : new.length ≤ 1048576) (hj : S.nx ≤ j)
    (hk : ∀ v' ps, (∀ m, j < m → AppL lo (DS.puts ⟨S.h, m⟩ ps) v' k (rows ++ new)) → (∀ b, b < lo → Heap.puts S.h ps b = S.h b) → K v' ps) : ∃ d ps, capA j k S.h v new = some (d, ps) ∧ K d ps := by
  obtain ⟨nf, tl, rfl, h3⟩ := h
  cases new with
  | nil => exact absurd rfl hne
  | cons r new =>
    have g1 : Nat.beq k k = true := by rw [beqN]; simp
    have g2 : Nat.ble (lenN rows) 1048576 = true := by rw [bleN, lenN_eq]; simpa using h1
    have g3 : Nat.ble (lenN (r :: new)) 1048576 = true := by rw [bleN, lenN_eq]; simpa using h2
    rcases h3 with rfl | ⟨t, rfl, h4, h5, h6⟩
    · refine ⟨.isl k (some false) (rows ++ r :: new) (.tk j 0), [(j, some (.tok (Nat.add (lenN rows) (lenN (r :: new)))))], by simp only [capA, g1, g2, g3, hsc], hk _ _ (fun m hm => ⟨_, _, rfl, .inr ⟨j, rfl, hlo, hm, ?_⟩⟩) fun b hb => ?_⟩
      · simp [DS.puts, Heap.puts, put_same, lenN_eq]
      · exact put_ne _ _ (by omega)
    · have g4 : Nat.beq rows.length (Nat.add 0 (lenN rows)) = true := by rw [beqN, lenN_eq]; simp
      refine ⟨.isl k (some false) (rows ++ r :: new) (.tk j 0), [(t, none), (j, some (.tok (Nat.add (lenN rows) (lenN (r :: new)))))], by simp only [capA, g1, g2, g3, hsc, h6, g4], hk _ _ (fun m hm => ⟨_, _, rfl, .inr ⟨j, rfl, hlo, hm, ?_⟩⟩) fun b hb => ?_⟩
      · simp [DS.puts, Heap.puts, put_same, lenN_eq]
      · exact (put_ne _ _ (by omega)).trans (put_ne _ _ (by omega))
def ixL (h : NHier) (l : List Str) : List Nat := l.map fun s => (findN h s).getD 0
theorem ix_mem {h : NHier} {out : List Str} {c : Str} {i : Nat} (hc : ChOk h out) (hi : findN h c = some i) : i ∈ ixL h out ↔ c ∈ out := by
  unfold ixL
  rw [List.mem_map]
  constructor
  · rintro ⟨s, hs, he⟩
    obtain ⟨j, hj⟩ := hc.2 s hs
    rw [hj] at he
    have he : j = i := he
    subst he
    obtain ⟨_, h1⟩ := findN_some hj
    obtain ⟨_, h2⟩ := findN_some hi
    rw [← h2, h1]
    exact hs
  · intro hs
    exact ⟨c, hs, by rw [hi]; rfl⟩
theorem f49 (ht : TabOk P gl tab.get) (h : NHier) (hl : h.length ≤ 1000) (c : Str) (S : DS) (m : Nat) (ps : List (Str × Nat)) (hmk : MapOk h ps) (hml : m < S.nx) (hmS : S.h m = some (.map (ps.map encE))) : Pure P gl 49 [.agg (eHr h), .map m, .str c] S fun d => d = .tup [.isl 1 none ((ixL h (chainF h c).1).map rN) .no, .bool (chainF h c).2] := by
  refine Pure.tab ht (df := d49) rfl ?_
  have hlk : ∀ s, (findN h s = none → findK 5 (.str s) (ps.map encE) 0 = some none) ∧ ∀ i, findN h s = some i → ∃ j, findK 5 (.str s) (ps.map encE) 0 = some (some j) ∧ nth (ps.map encE) j = some (.str s, .int .i64 (i : Int)) := fun s =>
    ⟨fun hn => lk_none ((hmk s).trans hn), fun i hi => by
      obtain ⟨j, h1, h2⟩ := lk_some (k := 0) ((hmk s).trans hi)
      rw [Nat.zero_add] at h1
      exact ⟨j, h1, h2⟩⟩
  have hb0 : ∀ b : Option Nat, b = none → (b.isSome = false) := fun b h => by rw [h]; rfl
  simp only [d49, go_sem, reduceIte, Nat.reduceEqDiff, Nat.reduceAdd, Nat.reduceBEq, reduceCtorEq]
  rw [wp_sq]
  simp only [go_sem, reduceIte, Nat.reduceEqDiff, Nat.reduceAdd, Nat.reduceBEq, reduceCtorEq]
  rw [wp_sq]
  refine wp_sqI [8, 9, 10, 11, 12, 13, 14, 15, 16] (fun e S1 => e 9 = .bool (findN h c).isSome ∧ (∀ i, findN h c = some i → e 8 = .int .i64 (i : Int)) ∧ S1 = S) ?_ ?_
  · cases hfc : findN h c with
    | none =>
      have hfk := (hlk c).1 hfc
      simp only [go_sem, wp_sq, reduceIte, Nat.reduceEqDiff, Nat.reduceAdd, Nat.reduceBEq, reduceCtorEq, keq_str, hmS, hfk, cond_true]
      exact ⟨by repeat' first | exact hf | exact rfl | exact Fr0.refl _ _ | apply Fr0.upd | exact hf2 | refine Fr0.sub hf2 rfl ?_ | refine Fr0.sub hf rfl ?_, rfl, fun i => trivial⟩
    | some i0 =>
      obtain ⟨j0, hfk, hnth⟩ := (hlk c).2 i0 hfc
      simp only [go_sem, wp_sq, reduceIte, Nat.reduceEqDiff, Nat.reduceAdd, Nat.reduceBEq, reduceCtorEq, keq_str, hmS, hfk, hnth, cond_true]
      exact ⟨by repeat' first | exact hf | exact rfl | exact Fr0.refl _ _ | apply Fr0.upd | exact hf2 | refine Fr0.sub hf2 rfl ?_ | refine Fr0.sub hf rfl ?_, rfl, fun i hi => by cases hi; rfl⟩
  rintro e1 S1 hf1 ⟨h9, h8, rfl⟩
  simp only [go_sem, wp_sq, reduceIte, Nat.reduceEqDiff, Nat.reduceAdd, Nat.reduceBEq, reduceCtorEq]
  refine wp_lpE [6, 7, 8, 9, 10, 17, 18, 19, 20, 21, 22, 23, 24, 25, 26, 27, 28, 29, 30, 31, 32, 33, 34, 35, 36, 37, 38, 39] (fun n e S2 => ∃ out c1, n = h.length + 1 - out.length ∧ ChOk h out ∧ e 9 = .bool (findN h c1).isSome ∧ (∀ i, findN h c1 = some i → e 8 = .int .i64 (i : Int)) ∧ AppL S1.nx S2 (e 6) 1 ((ixL h out).map rN) ∧ chainF h c = chainN h (h.length + 1 - out.length) out c1 ∧ Old S1 S2) (h.length + 1) ?_ ?_
  · exact ⟨[], c, rfl, chOk_nil, h9, h8, by rw [hf1 6 rfl]; exact AppL.nil, rfl, Old.refl _⟩
  rintro n e S2 ⟨out, c1, hn, hok, hx9, hx8, hA, hch, hold⟩ hf
  have hs3 : e 3 = .iptr (eHr h) 0 := (hf 3 rfl).trans (hf1 3 rfl)
  have hs1 : e 1 = .map m := (hf 1 rfl).trans (hf1 1 rfl)
  have hm2 : S2.h m = some (.map (ps.map encE)) := by rw [hold.2 m hml]; exact hmS
  have hol := hok.len
  obtain ⟨k, hk⟩ : ∃ k, h.length + 1 - out.length = k + 1 := ⟨h.length - out.length, by omega⟩
  rw [hk] at hch
  obtain ⟨nf, tl, h6, _⟩ := id hA
  have hil : (ixL h out).length = out.length := by simp [ixL]
  have hfin : ∀ i, findN h c1 = some i → i ∉ ixL h out → AppL S1.nx S2 (e 6) 1 ((ixL h out).map rN) := fun _ _ _ => hA
  cases hfc : findN h c1 with
  | none =>
    rw [hfc] at hx9
    simp only [go_sem, wp_sq, reduceIte, Nat.reduceEqDiff, Nat.reduceAdd, Nat.reduceBEq, reduceCtorEq, hs3, hs1, hx9, Option.isSome_none, h6]
    refine ret_two (u := .isl 1 none ((ixL h out).map rN) .no) (v := .bool false) rfl rfl ⟨?_, hold.bump 0⟩
    simp only [hch, chainN, hfc]
  | some i =>
    have h8i := hx8 i hfc
    obtain ⟨hih, hin⟩ := findN_some hfc
    rw [hfc] at hx9
    simp only [go_sem, wp_sq, reduceIte, Nat.reduceEqDiff, Nat.reduceAdd, Nat.reduceBEq, reduceCtorEq, hs3, hs1, hx9, h8i, Option.isSome_some, h6]
    refine ex_call (Val.w0 (f76 ht (ixL h out) i (by omega))) ?_
    rintro _ rfl
    simp only [go_sem, wp_sq, reduceIte, Nat.reduceEqDiff, Nat.reduceAdd, Nat.reduceBEq, reduceCtorEq, hs3, hs1, hx9, h8i, h6]
    by_cases hc : c1 ∈ out
    · have e1 : decide (i ∈ ixL h out) = true := decide_eq_true ((ix_mem hok hfc).2 hc)
      simp only [go_sem, wp_sq, reduceIte, Nat.reduceEqDiff, Nat.reduceAdd, Nat.reduceBEq, reduceCtorEq, e1, h6]
      refine ret_two (u := .isl 1 none ((ixL h out).map rN) .no) (v := .bool true) rfl rfl ⟨?_, hold.bump 0⟩
      simp only [hch, chainN, hfc, if_pos hc]
    · have e1 : decide (i ∈ ixL h out) = false := decide_eq_false fun h => hc ((ix_mem hok hfc).1 h)
      have hok2 := hok.snoc hc hfc
      have hrow : (ixL h out).map rN ++ [[DV.int .i64 i]] = (ixL h (out ++ [c1])).map rN := by simp [ixL, rN, hfc]
      have hsup : ((h[i]?).map NClass.super).getD [] = h[i].super := by simp [hih]
      rw [h6] at hA
      simp only [go_sem, wp_sq, reduceIte, Nat.reduceEqDiff, Nat.reduceAdd, Nat.reduceBEq, reduceCtorEq, e1, hs3, hs1, hx9, h8i, h6, hih]
      refine ex_appL hA hold.1 rfl (by simp) (by simp [ixL]; omega) (by simp) (Nat.le_refl _) (fun v ps2 hB hB2 => ?_)
      have hB1 := hB _ (Nat.lt_succ_self _)
      rw [hrow] at hB1
      have hold2 : Old S1 (DS.puts ⟨S2.h, S2.nx + 1⟩ ps2) := ⟨Nat.le_succ_of_le hold.1, fun b hb => (hB2 b hb).trans (hold.2 b hb)⟩
      have hm3 : Heap.puts S2.h ps2 m = some (.map (ps.map encE)) := (hB2 m hml).trans hm2
      have hm4 : (DS.puts ⟨S2.h, S2.nx + 1⟩ ps2).h m = some (.map (ps.map encE)) := hm3
      try simp only [go_sem, wp_sq, reduceIte, Nat.reduceEqDiff, Nat.reduceAdd, Nat.reduceBEq, reduceCtorEq, e1, hs3, hs1, hx9, h8i, h6, hih]
      refine ifP_dec (fun hp => ?_) (fun hp => ?_)
      · simp only [go_sem, wp_sq, reduceIte, Nat.reduceEqDiff, Nat.reduceAdd, Nat.reduceBEq, reduceCtorEq]
        refine ret_two (u := .isl 1 none ((ixL h (out ++ [c1])).map rN) .no) (v := .bool false) hB1.fz rfl ⟨?_, hold2.bump 0⟩
        simp only [hch, chainN, hfc, if_neg hc, hsup, if_pos hp]
      · cases hfs : findN h h[i].super with
        | none =>
          have hfk := (hlk h[i].super).1 hfs
          simp only [go_sem, wp_sq, reduceIte, Nat.reduceEqDiff, Nat.reduceAdd, Nat.reduceBEq, reduceCtorEq, e1, hs3, hs1, keq_str, hm4, hfk, cond_true]
          refine ⟨h.length + 1 - (out ++ [c1]).length, by simp; omega, rfl, (by repeat' first | exact hf | exact rfl | exact Fr0.refl _ _ | apply Fr0.upd | exact hf2 | refine Fr0.sub hf2 rfl ?_ | refine Fr0.sub hf rfl ?_), out ++ [c1], h[i].super, rfl, hok2, by rw [hfs]; rfl, fun i hi => (by rw [hfs] at hi; cases hi), hB1, ?_, hold2.bump 0⟩
          simp only [hch, chainN, hfc, if_neg hc, hsup, if_neg hp]
          congr 1
          simp
          omega
        | some i2 =>
          obtain ⟨j0, hfk, hnth⟩ := (hlk h[i].super).2 i2 hfs
          simp only [go_sem, wp_sq, reduceIte, Nat.reduceEqDiff, Nat.reduceAdd, Nat.reduceBEq, reduceCtorEq, e1, hs3, hs1, keq_str, hm4, hfk, hnth, cond_true]
          refine ⟨h.length + 1 - (out ++ [c1]).length, by simp; omega, rfl, (by repeat' first | exact hf | exact rfl | exact Fr0.refl _ _ | apply Fr0.upd | exact hf2 | refine Fr0.sub hf2 rfl ?_ | refine Fr0.sub hf rfl ?_), out ++ [c1], h[i].super, rfl, hok2, by rw [hfs]; rfl, fun i hi => (by rw [hfs] at hi; cases hi; rfl), hB1, ?_, hold2.bump 0⟩
          simp only [hch, chainN, hfc, if_neg hc, hsup, if_neg hp]
          congr 1
          simp
          omega
end Go.Proofs.YtfmicbbflpkdgaaGreatDoor.D
/-
  Contracts: part 25: the program's look-up of a method.
-/
namespace Go.Proofs.YtfmicbbflpkdgaaGreatDoor.D
variable {P : Program} {G : List (List DV)} {S : DS} {e : Env} {dd : Dd}
theorem ex_callD {f x : Nat} {args : List DV} {R : DV → DS → Prop} {K : Post} (h : DCalls P G f args S R) (hk : ∀ d D, R d D → K (upd e x d) D dd) : callW P G f args x K e S dd := ⟨R, h, hk⟩
theorem ex_callP {f x : Nat} {args : List DV} {V : DV → Prop} {K : Post} (h : Pure P G f args S V) (hk : ∀ d m, V d → S.nx ≤ m → K (upd e x d) ⟨S.h, m⟩ dd) : callW P G f args x K e S dd :=
  ⟨_, h, fun d D ⟨h1, h2, h3⟩ => by
    have : D = ⟨S.h, D.nx⟩ := by cases D; cases h2; rfl
    rw [this]
    exact hk d _ h1 h3⟩
end Go.Proofs.YtfmicbbflpkdgaaGreatDoor.D
