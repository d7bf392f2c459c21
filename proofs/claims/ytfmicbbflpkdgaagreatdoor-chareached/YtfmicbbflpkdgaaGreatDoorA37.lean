/-
  Contracts: part 31: the functions that are reached (the program's).
-/
import Derived.Test.YtfmicbbflpkdgaaGreatDoorA36
set_option linter.unusedVariables false
set_option linter.unusedSimpArgs false
namespace Go.Proofs.YtfmicbbflpkdgaaGreatDoor.D
variable {P : Program} {G : List (List DV)} {S : DS}
abbrev NTr := Nat × List Nat × Nat
def encT (p : NTr) : DV × DV := (.int .i64 (p.1 : Int), .isl 1 (some false) (p.2.1.map rN) (.tk p.2.2 0))
/-- The map from a function to the functions behind its call edges. -/
structure NextOk (n lo : Nat) (cs : List NCall) (S : DS) (ts : List NTr) : Prop where
  keys : ∀ (i j : Nat) (p q : NTr), ts[i]? = some p → ts[j]? = some q → p.1 = q.1 → i = j
  tok : ∀ (i : Nat) (p : NTr), ts[i]? = some p → lo ≤ p.2.2 ∧ p.2.2 < S.nx ∧ S.h p.2.2 = some (.tok p.2.1.length)
  apart : ∀ (i j : Nat) (p q : NTr), ts[i]? = some p → ts[j]? = some q → p.2.2 = q.2.2 → i = j
  edge : ∀ a b : Nat, (∃ (i : Nat) (p : NTr), ts[i]? = some p ∧ p.1 = a ∧ b ∈ p.2.1) ↔ edgeOf n cs a b
  len : ∀ (i : Nat) (p : NTr), ts[i]? = some p → p.2.1.length ≤ cs.length
theorem put_two {h : Heap} {a b : Nat} {o1 o2 : Option DO} (hab : a ≠ b) : Heap.put (Heap.put h a o1) b o2 a = o1 := (put_ne _ _ hab).trans (put_same _ _ _)
theorem NextOk.nil {n lo : Nat} : NextOk n lo [] S [] :=
  ⟨fun i j p q h => by simp at h, fun i p h => by simp at h, fun i j p q h => by simp at h, fun a b => ⟨fun ⟨i, p, h, _⟩ => by simp at h, fun ⟨c, h, _⟩ => by simp at h⟩, fun i p h => by simp at h⟩
theorem edge_snoc {n : Nat} {cs : List NCall} {c : NCall} {a b : Nat} : edgeOf n (cs ++ [c]) a b ↔ edgeOf n cs a b ∨ (c.func = (a : Int) ∧ c.callee = (b : Int) ∧ a < n ∧ b < n) := by
  simp only [edgeOf, List.mem_append, List.mem_singleton]
  constructor
  · rintro ⟨x, h | rfl, h2⟩
    · exact .inl ⟨x, h, h2⟩
    · exact .inr h2
  · rintro (⟨x, h, h2⟩ | h)
    · exact ⟨x, .inl h, h2⟩
    · exact ⟨c, .inr rfl, h⟩
theorem NextOk.skip {n lo : Nat} {cs : List NCall} {c : NCall} {ts : List NTr} (h : NextOk n lo cs S ts) (hr : rightB n c = false) : NextOk n lo (cs ++ [c]) S ts :=
  ⟨h.keys, h.tok, h.apart, (fun a b => by
    rw [h.edge, edge_snoc]
    refine ⟨.inl, fun g => g.elim id fun ⟨h1, h2, h3, h4⟩ => ?_⟩
    rw [right_iff.2 ⟨a, b, h1, h2, h3, h4⟩] at hr
    cases hr), fun i p hp => by simp only [List.length_append]; have := h.len i p hp; omega⟩
theorem NextOk.frame {n lo : Nat} {cs : List NCall} {S S' : DS} {ts : List NTr} (h : NextOk n lo cs S ts) (hn : S.nx ≤ S'.nx) (hh : ∀ b, lo ≤ b → b < S.nx → S'.h b = S.h b) : NextOk n lo cs S' ts :=
  ⟨h.keys, fun i p hp => by
    obtain ⟨h1, h2, h3⟩ := h.tok i p hp
    exact ⟨h1, Nat.lt_of_lt_of_le h2 hn, by rw [hh _ h1 h2]; exact h3⟩, h.apart, h.edge, h.len⟩
theorem NextOk.set {n lo : Nat} {cs : List NCall} {c : NCall} {S S' : DS} {ts : List NTr} (h : NextOk n lo cs S ts) {a b j t' : Nat} {l : List Nat} {t : Nat} (hj : ts[j]? = some (a, l, t)) (ha : c.func = (a : Int)) (hb : c.callee = (b : Int)) (hla : a < n) (hlb : b < n) (hn : S.nx ≤ S'.nx) (ht1 : S.nx ≤ t') (ht2 : t' < S'.nx) (ht3 : S'.h t' = some (.tok (l.length + 1))) (hlo : lo ≤ t')
    (hh : ∀ x, lo ≤ x → x < S.nx → x ≠ t → S'.h x = S.h x) : NextOk n lo (cs ++ [c]) S' (ts.set j (a, l ++ [b], t')) := by
  obtain ⟨hjl, _⟩ := List.getElem?_eq_some_iff.1 hj
  have get : ∀ (i : Nat) (p : NTr), (ts.set j (a, l ++ [b], t'))[i]? = some p → (i = j ∧ p = (a, l ++ [b], t')) ∨ (i ≠ j ∧ ts[i]? = some p) := fun i p hp => by
    rw [List.getElem?_set] at hp
    by_cases hi : j = i
    · subst hi
      simp only [if_true, hjl] at hp
      exact .inl ⟨rfl, (Option.some.inj hp).symm⟩
    · simp only [hi, if_false] at hp
      exact .inr ⟨fun h => hi h.symm, hp⟩
  have key : ∀ (i : Nat) (p : NTr), (ts.set j (a, l ++ [b], t'))[i]? = some p → ∃ q : NTr, ts[i]? = some q ∧ q.1 = p.1 := fun i p hp => by
    rcases get i p hp with ⟨rfl, rfl⟩ | ⟨_, h2⟩
    · exact ⟨_, hj, rfl⟩
    · exact ⟨p, h2, rfl⟩
  refine ⟨fun i i2 p q hp hq he => ?_, fun i p hp => ?_, fun i i2 p q hp hq he => ?_, fun x y => ?_, fun i p hp => ?_⟩
  · obtain ⟨p2, h1, h2⟩ := key i p hp
    obtain ⟨q2, h3, h4⟩ := key i2 q hq
    exact h.keys i i2 p2 q2 h1 h3 (by rw [h2, h4, he])
  · rcases get i p hp with ⟨rfl, rfl⟩ | ⟨h1, h2⟩
    · exact ⟨hlo, ht2, by rw [ht3]; simp⟩
    · obtain ⟨g1, g2, g3⟩ := h.tok i p h2
      refine ⟨g1, Nat.lt_of_lt_of_le g2 hn, ?_⟩
      rw [hh _ g1 g2 fun he => h1 (h.apart i j p _ h2 hj he)]
      exact g3
  · rcases get i p hp with ⟨rfl, rfl⟩ | ⟨h1, h2⟩
    · rcases get i2 q hq with ⟨rfl, rfl⟩ | ⟨h3, h4⟩
      · rfl
      · have := (h.tok i2 q h4).2.1
        have he : t' = q.2.2 := he
        omega
    · rcases get i2 q hq with ⟨rfl, rfl⟩ | ⟨h3, h4⟩
      · have := (h.tok i p h2).2.1
        have he : p.2.2 = t' := he
        omega
      · exact h.apart i i2 p q h2 h4 he
  · rw [edge_snoc, ← h.edge]
    constructor
    · rintro ⟨i, p, hp, h1, h2⟩
      rcases get i p hp with ⟨rfl, rfl⟩ | ⟨h3, h4⟩
      · rcases List.mem_append.1 h2 with h2 | h2
        · exact .inl ⟨i, _, hj, h1, h2⟩
        · rw [List.mem_singleton] at h2
          have h1 : a = x := h1
          subst h1 h2
          exact .inr ⟨ha, hb, hla, hlb⟩
      · exact .inl ⟨i, p, h4, h1, h2⟩
    · have hset : (ts.set j (a, l ++ [b], t'))[j]? = some (a, l ++ [b], t') := by rw [List.getElem?_set]; simp [hjl]
      rintro (⟨i, p, hp, h1, h2⟩ | ⟨h1, h2, h3, h4⟩)
      · by_cases hi : i = j
        · subst hi
          rw [hj] at hp
          cases hp
          exact ⟨i, _, hset, h1, List.mem_append_left _ h2⟩
        · exact ⟨i, p, by rw [List.getElem?_set_ne (fun h => hi h.symm)]; exact hp, h1, h2⟩
      · have : a = x := by omega
        have : b = y := by omega
        subst a b
        exact ⟨j, _, hset, rfl, by simp⟩
  · rcases get i p hp with ⟨rfl, rfl⟩ | ⟨h1, h2⟩
    · have := h.len i _ hj
      simp only [List.length_append, List.length_singleton] at *
      omega
    · have := h.len i p h2
      simp only [List.length_append]
      omega
theorem NextOk.snoc {n lo : Nat} {cs : List NCall} {c : NCall} {S S' : DS} {ts : List NTr} (h : NextOk n lo cs S ts) {a b t' : Nat} (hk : ∀ (i : Nat) (p : NTr), ts[i]? = some p → p.1 ≠ a) (ha : c.func = (a : Int)) (hb : c.callee = (b : Int)) (hla : a < n) (hlb : b < n) (hn : S.nx ≤ S'.nx) (ht1 : S.nx ≤ t') (ht2 : t' < S'.nx) (ht3 : S'.h t' = some (.tok 1)) (hlo : lo ≤ t')
    (hh : ∀ x, lo ≤ x → x < S.nx → S'.h x = S.h x) : NextOk n lo (cs ++ [c]) S' (ts ++ [(a, [b], t')]) := by
  have get : ∀ (i : Nat) (p : NTr), (ts ++ [(a, [b], t')])[i]? = some p → (i = ts.length ∧ p = (a, [b], t')) ∨ ts[i]? = some p := fun i p hp => by
    by_cases hi : i < ts.length
    · rw [List.getElem?_append_left hi] at hp
      exact .inr hp
    · rw [List.getElem?_append_right (by omega)] at hp
      cases hx : i - ts.length with
      | zero =>
        rw [hx] at hp
        exact .inl ⟨by omega, by simpa using hp.symm⟩
      | succ k =>
        rw [hx] at hp
        simp at hp
  have hold : ∀ (i : Nat) (p : NTr), ts[i]? = some p → (ts ++ [(a, [b], t')])[i]? = some p := fun i p hp => by
    obtain ⟨hi, _⟩ := List.getElem?_eq_some_iff.1 hp
    rw [List.getElem?_append_left hi]
    exact hp
  refine ⟨fun i i2 p q hp hq he => ?_, fun i p hp => ?_, fun i i2 p q hp hq he => ?_, fun x y => ?_, fun i p hp => ?_⟩
  · rcases get i p hp with ⟨rfl, rfl⟩ | h2
    · rcases get i2 q hq with ⟨rfl, rfl⟩ | h4
      · rfl
      · exact absurd he.symm (hk i2 q h4)
    · rcases get i2 q hq with ⟨rfl, rfl⟩ | h4
      · exact absurd he (hk i p h2)
      · exact h.keys i i2 p q h2 h4 he
  · rcases get i p hp with ⟨rfl, rfl⟩ | h2
    · exact ⟨hlo, ht2, ht3⟩
    · obtain ⟨g1, g2, g3⟩ := h.tok i p h2
      exact ⟨g1, Nat.lt_of_lt_of_le g2 hn, by rw [hh _ g1 g2]; exact g3⟩
  · rcases get i p hp with ⟨rfl, rfl⟩ | h2
    · rcases get i2 q hq with ⟨rfl, rfl⟩ | h4
      · rfl
      · have := (h.tok i2 q h4).2.1
        have he : t' = q.2.2 := he
        omega
    · rcases get i2 q hq with ⟨rfl, rfl⟩ | h4
      · have := (h.tok i p h2).2.1
        have he : p.2.2 = t' := he
        omega
      · exact h.apart i i2 p q h2 h4 he
  · rw [edge_snoc, ← h.edge]
    constructor
    · rintro ⟨i, p, hp, h1, h2⟩
      rcases get i p hp with ⟨rfl, rfl⟩ | h4
      · rw [List.mem_singleton] at h2
        have h1 : a = x := h1
        subst h1 h2
        exact .inr ⟨ha, hb, hla, hlb⟩
      · exact .inl ⟨i, p, h4, h1, h2⟩
    · rintro (⟨i, p, hp, h1, h2⟩ | ⟨h1, h2, h3, h4⟩)
      · exact ⟨i, p, hold i p hp, h1, h2⟩
      · have : a = x := by omega
        have : b = y := by omega
        subst a b
        exact ⟨ts.length, (x, [y], t'), by rw [List.getElem?_append_right (Nat.le_refl _)]; simp, rfl, by simp⟩
  · rcases get i p hp with ⟨rfl, rfl⟩ | h2
    · simp
    · have := h.len i p h2
      simp only [List.length_append]
      omega
/-- A key in the map. -/
theorem tk_none {x : Nat} : ∀ {ts : List NTr} {i : Nat}, (∀ (j : Nat) (p : NTr), ts[j]? = some p → p.1 ≠ x) → findK 4 (.int .i64 (x : Int)) (ts.map encT) i = some none
  | [], _, _ => rfl
  | k :: ts, i, h => by
    have h1 : ¬ (x : Int) = (k.1 : Int) := fun he => h 0 k rfl (Int.ofNat_inj.1 he).symm
    simp only [List.map_cons, encT, findK, keq_int, h1, decide_false]
    exact tk_none fun j p hp => h (j + 1) p hp
theorem tk_some {x : Nat} : ∀ {ts : List NTr} {i j : Nat} {p : NTr}, (∀ (a b : Nat) (p q : NTr), ts[a]? = some p → ts[b]? = some q → p.1 = q.1 → a = b) → ts[j]? = some p → p.1 = x → findK 4 (.int .i64 (x : Int)) (ts.map encT) i = some (some (i + j))
  | [], _, _, _, _, h, _ => by simp at h
  | k :: ts, i, 0, p, _, h, hx => by
    simp only [List.getElem?_cons_zero, Option.some.injEq] at h
    subst h
    simp only [List.map_cons, encT, findK, keq_int, hx, decide_true]
    rfl
  | k :: ts, i, j + 1, p, hk, h, hx => by
    have h1 : ¬ (x : Int) = (k.1 : Int) := fun he => by
      have := hk 0 (j + 1) k p rfl h (by rw [hx]; exact (Int.ofNat_inj.1 he).symm)
      omega
    have h2 : findK 4 (.int .i64 (x : Int)) (ts.map encT) (Nat.succ i) = some (some (Nat.succ i + j)) := tk_some (fun a b p q h3 h4 h5 => by have := hk (a + 1) (b + 1) p q h3 h4 h5; omega) h hx
    simp only [List.map_cons, encT, findK, keq_int, h1, decide_false]
    refine h2.trans ?_
    congr 2
    omega
theorem nth_T {ts : List NTr} {j : Nat} {p : NTr} (h : ts[j]? = some p) : nth (ts.map encT) j = some (encT p) := by
  rw [nth_map, nth_eq, h]
  rfl
theorem setN_T {ts : List NTr} {j : Nat} {p : NTr} : setN (ts.map encT) j (encT p) = (ts.set j p).map encT := by
  rw [setN_eq, List.map_set]
/-- A list that may be appended to, whose head may have gone. -/
def AppW (lo : Nat) (S : DS) (v : DV) (rows : List (List DV)) : Prop := ∃ nf tl, v = .isl 1 nf rows tl ∧ (tl = .ex ∨ ∃ t i, tl = .tk t i ∧ lo ≤ t ∧ t < S.nx ∧ S.h t = some (.tok (i + rows.length)))
theorem ex_appW {lo : Nat} {v : DV} {j : Nat} {rows : List (List DV)} {r : List DV} {K : DV → Puts → Prop} (h : AppW lo S v rows) (hlo : lo ≤ j) (hsc : allSc r = true) (h1 : rows.length ≤ 1048576) (hj : S.nx ≤ j)
    (hk : ∀ v' ps, (∀ m, j < m → AppW lo (DS.puts ⟨S.h, m⟩ ps) v' (rows ++ [r])) → (∀ b, b < lo → Heap.puts S.h ps b = S.h b) → K v' ps) : ∃ d ps, capA j 1 S.h v [r] = some (d, ps) ∧ K d ps := by
  obtain ⟨nf, tl, rfl, h3⟩ := h
  have g1 : Nat.beq 1 1 = true := rfl
  have g2 : Nat.ble (lenN rows) 1048576 = true := by rw [bleN, lenN_eq]; simpa using h1
  have g3 : Nat.ble (lenN [r]) 1048576 = true := rfl
  have g5 : allScR [r] = true := by simp only [allScR, hsc]
  rcases h3 with rfl | ⟨t, i, rfl, h4, h5, h6⟩
  · refine ⟨.isl 1 (some false) (rows ++ [r]) (.tk j 0), [(j, some (.tok (Nat.add (lenN rows) (lenN [r]))))], by simp only [capA, g1, g2, g3, g5], hk _ _ (fun m hm => ⟨_, _, rfl, .inr ⟨j, 0, rfl, hlo, hm, ?_⟩⟩) fun b hb => ?_⟩
    · simp [DS.puts, Heap.puts, put_same, lenN_eq]
    · exact put_ne _ _ (by omega)
  · have g4 : Nat.beq (i + rows.length) (Nat.add i (lenN rows)) = true := by rw [beqN, lenN_eq]; simp
    refine ⟨.isl 1 (some false) (rows ++ [r]) (.tk j 0), [(t, none), (j, some (.tok (Nat.add (lenN rows) (lenN [r]))))], by simp only [capA, g1, g2, g3, g5, h6, g4], hk _ _ (fun m hm => ⟨_, _, rfl, .inr ⟨j, 0, rfl, hlo, hm, ?_⟩⟩) fun b hb => ?_⟩
    · simp [DS.puts, Heap.puts, put_same, lenN_eq]
    · exact (put_ne _ _ (by omega)).trans (put_ne _ _ (by omega))
theorem AppW.tail {lo : Nat} {v : DV} {r : List DV} {rows : List (List DV)} (h : AppW lo S v (r :: rows)) : ∃ w, dSlice v (some (.int .i64 1)) none = some w ∧ AppW lo S w rows := by
  obtain ⟨nf, tl, rfl, h3⟩ := h
  refine ⟨_, dslice_1 (by simp), ?_⟩
  have e : Nat.beq (r :: rows).length (r :: rows).length = true := by rw [beqN]; simp
  rw [e]
  rcases h3 with rfl | ⟨t, i, rfl, h4, h5, h6⟩
  · exact ⟨nf, .ex, rfl, .inl rfl⟩
  · refine ⟨nf, .tk t (i + 1), rfl, .inr ⟨t, i + 1, rfl, h4, h5, ?_⟩⟩
    rw [h6]
    simp only [List.length_cons, List.drop_one, List.tail_cons]
    congr 2
    omega
theorem AppW.keep {lo : Nat} {S S' : DS} {v : DV} {rows : List (List DV)} (h : AppW lo S v rows) (hn : S.nx ≤ S'.nx) (hh : ∀ b, lo ≤ b → b < S.nx → S'.h b = S.h b) : AppW lo S' v rows := by
  obtain ⟨nf, tl, h1, h3⟩ := h
  refine ⟨nf, tl, h1, ?_⟩
  rcases h3 with h3 | ⟨t, i, g1, h4, h5, h6⟩
  · exact .inl h3
  · exact .inr ⟨t, i, g1, h4, Nat.lt_of_lt_of_le h5 hn, by rw [hh _ h4 h5]; exact h6⟩
theorem nk_mem {x : Nat} {ks : List Nat} (h : x ∈ ks) : ∃ j, findK 4 (.int .i64 (x : Int)) (ks.map nE) 0 = some (some j) ∧ nth (ks.map nE) j = some (nE x) := by
  have key : ∀ {ks : List Nat} {i : Nat}, x ∈ ks → ∃ j, findK 4 (.int .i64 (x : Int)) (ks.map nE) i = some (some (i + j)) ∧ nth (ks.map nE) j = some (nE x) := by
    intro ks
    induction ks with
    | nil => intro i h; simp at h
    | cons k ks ih =>
      intro i h
      by_cases h1 : (x : Int) = k
      · refine ⟨0, ?_, ?_⟩
        · simp only [List.map_cons, nE, findK, keq_int, h1, decide_true]
          rfl
        · rw [show x = k from Int.ofNat_inj.1 h1]
          rfl
      · have h2 : x ∈ ks := by
          rcases List.mem_cons.1 h with rfl | h
          · exact absurd rfl h1
          · exact h
        obtain ⟨j, h3, h4⟩ := ih (i := Nat.succ i) h2
        refine ⟨j + 1, ?_, h4⟩
        simp only [List.map_cons, nE, findK, keq_int, h1, decide_false]
        refine h3.trans ?_
        congr 2
        omega
  obtain ⟨j, h1, h2⟩ := key (i := 0) h
  rw [Nat.zero_add] at h1
  exact ⟨j, h1, h2⟩
theorem capA_tk {j t : Nat} {h : Heap} {l : List Nat} {b : Int} (hb : 0 ≤ b) (ht : h t = some (.tok l.length)) (hl : l.length ≤ 1048576) : capA j 1 h (.isl 1 (some false) (l.map rN) (.tk t 0)) [[.int .i64 b]] = some (.isl 1 (some false) ((l ++ [b.toNat]).map rN) (.tk j 0), [(t, none), (j, some (.tok (l.length + 1)))]) := by
  have g1 : Nat.beq 1 1 = true := rfl
  have g2 : Nat.ble (lenN (l.map rN)) 1048576 = true := by rw [bleN, lenN_eq]; simpa using hl
  have g3 : Nat.ble (lenN [[DV.int .i64 b]]) 1048576 = true := rfl
  have g4 : Nat.beq l.length (Nat.add 0 (lenN (l.map rN))) = true := by rw [beqN, lenN_eq]; simp
  have g5 : allScR [[DV.int .i64 b]] = true := rfl
  have g6 : ((b.toNat : Nat) : Int) = b := Int.toNat_of_nonneg hb
  simp only [capA, g1, g2, g3, g4, g5, ht]
  simp [lenN_eq, rN, g6]
theorem capA_nl {j : Nat} {h : Heap} {b : Int} (hb : 0 ≤ b) : capA j 1 h (.isl 1 (some true) [] .ex) [[.int .i64 b]] = some (.isl 1 (some false) ([b.toNat].map rN) (.tk j 0), [(j, some (.tok 1))]) := by
  have g6 : ((b.toNat : Nat) : Int) = b := Int.toNat_of_nonneg hb
  simp [capA, lenN, allScR, allSc, rN, g6]
/-- What is known while functions are being reached. -/
structure Bfs (E : Nat → Nat → Prop) (m : Nat) (ks wl : List Nat) (f : Option Nat) : Prop where
  nd : ks.Nodup
  sound : ∀ g, g ∈ ks → Rch E m g
  main : m ∈ ks
  sub : ∀ g, g ∈ wl → g ∈ ks
  closed : ∀ a, a ∈ ks → a ∉ wl → some a ≠ f → ∀ b, E a b → b ∈ ks
theorem Bfs.pop {E : Nat → Nat → Prop} {m f : Nat} {ks wl : List Nat} (h : Bfs E m ks (f :: wl) none) : Bfs E m ks wl (some f) :=
  ⟨h.nd, h.sound, h.main, fun g hg => h.sub g (by simp [hg]), fun a h1 h2 h3 => h.closed a h1 (by
    rw [List.mem_cons]
    rintro (rfl | h4)
    · exact h3 rfl
    · exact h2 h4) (by simp)⟩
theorem Bfs.add {E : Nat → Nat → Prop} {m f b : Nat} {ks wl : List Nat} (h : Bfs E m ks wl (some f)) (hf : f ∈ ks) (he : E f b) (hb : b ∉ ks) : Bfs E m (ks ++ [b]) (wl ++ [b]) (some f) := by
  refine ⟨?_, fun g hg => ?_, List.mem_append_left _ h.main, fun g hg => ?_, fun a h1 h2 h3 c h4 => ?_⟩
  · rw [List.nodup_append]
    refine ⟨h.nd, by simp, fun a ha c hc => ?_⟩
    rw [List.mem_singleton.1 hc]
    intro he
    exact hb (he ▸ ha)
  · rcases List.mem_append.1 hg with hg | hg
    · exact h.sound g hg
    · rw [List.mem_singleton.1 hg]
      exact (h.sound f hf).step he
  · rcases List.mem_append.1 hg with hg | hg
    · exact List.mem_append_left _ (h.sub g hg)
    · exact List.mem_append_right _ hg
  · rcases List.mem_append.1 h1 with h1 | h1
    · exact List.mem_append_left _ (h.closed a h1 (fun hw => h2 (List.mem_append_left _ hw)) h3 c h4)
    · exact absurd (List.mem_append_right _ h1) h2
theorem Bfs.done {E : Nat → Nat → Prop} {m f : Nat} {ks wl : List Nat} (h : Bfs E m ks wl (some f)) (hs : ∀ b, E f b → b ∈ ks) : Bfs E m ks wl none :=
  ⟨h.nd, h.sound, h.main, h.sub, fun a h1 h2 _ b h3 => by
    by_cases ha : a = f
    · subst ha
      exact hs b h3
    · exact h.closed a h1 h2 (fun hh => ha (Option.some.inj hh)) b h3⟩
theorem Bfs.all {E : Nat → Nat → Prop} {m : Nat} {ks : List Nat} (h : Bfs E m ks [] none) (g : Nat) : g ∈ ks ↔ Rch E m g := by
  refine ⟨h.sound g, fun hr => ?_⟩
  induction hr with
  | refl => exact h.main
  | step h1 e ih => exact h.closed _ ih (by simp) (by simp) _ e
theorem Bfs.len {n m : Nat} {cs : List NCall} {ks wl : List Nat} {f : Option Nat} (h : Bfs (edgeOf n cs) m ks wl f) (hm : m < n) : ks.length ≤ n := by
  have := nodup_len (m := List.range n) h.nd fun x hx => List.mem_range.2 (rch_lt hm (h.sound x hx))
  simpa using this
theorem f18 (ht : TabOk P gl tab.get) (hs : SortOk P gl) (u : NUnit) (cs : List NCall) (hcs : cs.length ≤ 1000) (hn0 : u.funcs.length ≤ 1000) (hm : MainOk u) : Val P gl 18 [.agg (eUn u), .isl 3 none (cs.map eC) .no] fun d => ∃ l : List Nat, d = .isl 1 none (l.map rN) .no ∧ RchOk u cs l := by
  refine Val.of_wp gl_ok ht (df := d18) rfl (cl_cons (.agg _ (cl_eUn u)) (cl_cons (cl_isl cl_eC ..) cl_nil)) (fun d hd => by obtain ⟨l', rfl, _⟩ := hd; exact cl_isl cl_rN ..) ?_
  obtain ⟨m, hmm⟩ := Int.eq_ofNat_of_zero_le hm.1
  have hml : m < u.funcs.length := by have := hm.2; omega
  simp only [d18, go_sem, wp_sq, reduceIte, Nat.reduceEqDiff, Nat.reduceAdd, Nat.reduceBEq, reduceCtorEq, s0nx]
  refine wp_lpE [7, 16, 17, 18, 19, 20, 21, 22, 23, 24, 25, 26, 27, 28, 29, 30, 31, 32, 33, 34, 35, 36, 37, 38, 39, 40, 41] (fun n e S => ∃ i : Nat, n = cs.length - i ∧ i ≤ cs.length ∧ e 16 = .int .i64 i ∧ 0 < S.nx ∧ ∃ ts : List NTr, S.h 0 = some (.map (ts.map encT)) ∧ NextOk u.funcs.length 1 (cs.take i) S ts) cs.length ⟨0, rfl, Nat.zero_le _, rfl, Nat.zero_lt_one, [], put_same S0.h 0 _, NextOk.nil⟩ ?_
  rintro n e S ⟨i, hn, hi, hx, hnx, ts, hS0, hT⟩ hf
  have hs2 : e 2 = .iptr (eUn u) 0 := hf 2 rfl
  have hs5 : e 5 = .map 0 := hf 5 rfl
  have hs14 : e 14 = .isl 3 none (cs.map eC) .no := hf 14 rfl
  have hs15 : e 15 = .int .i64 cs.length := hf 15 rfl
  have hw := wrap_succ (i := i) (by omega)
  have hne0 : (0 : Nat) ≠ S.nx := by omega
  by_cases h1 : i < cs.length
  · have htake : cs.take (i + 1) = cs.take i ++ [cs[i]] := List.take_succ_eq_append_getElem h1
    have hT1 : ∀ o, NextOk u.funcs.length 1 (cs.take i) (DS.put (DS.put ⟨S.h, S.nx + 1⟩ S.nx o) S.nx none) ts := fun o => hT.frame (Nat.le_succ _) fun b h2 h3 => (put_ne _ _ (by omega)).trans (put_ne _ _ (by omega))
    simp only [go_sem, wp_sq, reduceIte, Nat.reduceEqDiff, Nat.reduceAdd, Nat.reduceBEq, reduceCtorEq, hs2, hs5, hs14, hs15, hx, hw, h1]
    refine ⟨_, _, _, rfl, put_same _ _ _, rfl, rfl, rfl, ?_⟩
    simp only [go_sem, wp_sq, reduceIte, Nat.reduceEqDiff, Nat.reduceAdd, Nat.reduceBEq, reduceCtorEq, hs2, hs5, hs14, hs15, hx, hw, h1]
    refine ex_call (f30 ht u cs[i].func) ?_
    rintro _ rfl
    cases hr : rightB u.funcs.length cs[i] with
    | false =>
      have hfin : ∀ o, ∃ ts' : List NTr, (DS.put (DS.put ⟨S.h, S.nx + 1⟩ S.nx o) S.nx none).h 0 = some (.map (ts'.map encT)) ∧ NextOk u.funcs.length 1 (cs.take (i + 1)) (DS.put (DS.put ⟨S.h, S.nx + 1⟩ S.nx o) S.nx none) ts' := fun o => ⟨ts, ((put_ne _ _ hne0).trans (put_ne _ _ hne0)).trans hS0, by rw [htake]; exact (hT1 o).skip hr⟩
      by_cases ha : 0 ≤ cs[i].func ∧ cs[i].func < u.funcs.length
      · rw [decide_eq_true ha]
        simp only [go_sem, wp_sq, reduceIte, Nat.reduceEqDiff, Nat.reduceAdd, Nat.reduceBEq, reduceCtorEq, hs2, hs5, hs14, hs15, hx, hw, h1]
        refine ex_call (f30 ht u cs[i].callee) ?_
        rintro _ rfl
        have hb : ¬ (0 ≤ cs[i].callee ∧ cs[i].callee < u.funcs.length) := fun hb => by
          have : rightB u.funcs.length cs[i] = true := by simp [rightB, ha, hb]
          rw [hr] at this
          cases this
        rw [decide_eq_false hb]
        simp only [go_sem, wp_sq, reduceIte, Nat.reduceEqDiff, Nat.reduceAdd, Nat.reduceBEq, reduceCtorEq, hs2, hs5, hs14, hs15, hx, hw, h1]
        exact ⟨_, by omega, rfl, (by repeat' first | exact hf | exact rfl | exact Fr0.refl _ _ | apply Fr0.upd | exact hf2 | refine Fr0.sub hf2 rfl ?_ | refine Fr0.sub hf rfl ?_), i + 1, rfl, by omega, rfl, Nat.succ_pos _, hfin _⟩
      · rw [decide_eq_false ha]
        simp only [go_sem, wp_sq, reduceIte, Nat.reduceEqDiff, Nat.reduceAdd, Nat.reduceBEq, reduceCtorEq, hs2, hs5, hs14, hs15, hx, hw, h1]
        exact ⟨_, by omega, rfl, (by repeat' first | exact hf | exact rfl | exact Fr0.refl _ _ | apply Fr0.upd | exact hf2 | refine Fr0.sub hf2 rfl ?_ | refine Fr0.sub hf rfl ?_), i + 1, rfl, by omega, rfl, Nat.succ_pos _, hfin _⟩
    | true =>
      obtain ⟨a, b, ha, hb, hla, hlb⟩ := right_iff.1 hr
      have ha2 : 0 ≤ cs[i].func ∧ cs[i].func < u.funcs.length := by omega
      have hb2 : 0 ≤ cs[i].callee ∧ cs[i].callee < u.funcs.length := by omega
      rw [decide_eq_true ha2]
      simp only [go_sem, wp_sq, reduceIte, Nat.reduceEqDiff, Nat.reduceAdd, Nat.reduceBEq, reduceCtorEq, hs2, hs5, hs14, hs15, hx, hw, h1]
      refine ex_call (f30 ht u cs[i].callee) ?_
      rintro _ rfl
      rw [decide_eq_true hb2]
      simp only [go_sem, wp_sq, reduceIte, Nat.reduceEqDiff, Nat.reduceAdd, Nat.reduceBEq, reduceCtorEq, hs2, hs5, hs14, hs15, hx, hw, h1]
      have hbn : cs[i].callee.toNat = b := by omega
      by_cases hk : ∃ (j : Nat) (p : NTr), ts[j]? = some p ∧ p.1 = a
      · obtain ⟨j, ⟨k, l, t⟩, hj, hka⟩ := hk
        have hka : k = a := hka
        subst hka
        obtain ⟨ht1, ht2, ht3⟩ := hT.tok j _ hj
        have ht1 : 1 ≤ t := ht1
        have ht2 : t < S.nx := ht2
        have ht3 : S.h t = some (.tok l.length) := ht3
        have hll := hT.len j _ hj
        have hll : l.length ≤ (cs.take i).length := hll
        rw [List.length_take] at hll
        have hfk := tk_some (x := k) (i := 0) hT.keys hj rfl
        rw [Nat.zero_add] at hfk
        have hnt := nth_T hj
        simp only [encT] at hnt
        have hst := setN_T (ts := ts) (j := j) (p := (k, l ++ [b], S.nx + 1))
        simp only [encT] at hst
        have hcap := capA_tk (j := S.nx + 1) (t := t) (h := Heap.put (Heap.put S.h S.nx (some (.cells 3 [[.int .i64 0, .int .i64 0, .int .i64 0]]))) S.nx none) (l := l) (b := (b : Int)) (Int.natCast_nonneg b) (((put_ne _ _ (by omega)).trans (put_ne _ _ (by omega))).trans ht3) (by omega)
        rw [Int.toNat_natCast] at hcap
        have hnt0 : (0 : Nat) ≠ t := by omega
        have hnj0 : (0 : Nat) ≠ S.nx + 1 := by omega
        refine wp_rdH ?_
        simp only [go_sem, wp_sq, reduceIte, Nat.reduceEqDiff, Nat.reduceAdd, Nat.reduceBEq, reduceCtorEq, hs2, hs5, hs14, hs15, hx, hw, h1, ha, hb, keq_int, ds_put, put_ne _ _ hne0, hS0, hfk, hnt, cond_false, hcap, put_ne _ _ hnt0, put_ne _ _ hnj0, hst]
        refine ⟨_, by omega, rfl, (by repeat' first | exact hf | exact rfl | exact Fr0.refl _ _ | apply Fr0.upd | exact hf2 | refine Fr0.sub hf2 rfl ?_ | refine Fr0.sub hf rfl ?_), i + 1, rfl, by omega, rfl, Nat.succ_pos _, ts.set j (k, l ++ [b], S.nx + 1), rfl, ?_⟩
        rw [htake]
        exact (hT1 _).set (t' := S.nx + 1) hj ha hb hla hlb (Nat.le_succ _) (Nat.le_refl _) (Nat.lt_succ_self _) (by simp [Heap.put]) (by omega) fun x hx1 hx2 hx3 => (put_ne _ _ (by omega)).trans ((put_ne _ _ (Nat.ne_of_lt hx2)).trans (put_ne _ _ hx3))
      · have hk2 : ∀ (j : Nat) (p : NTr), ts[j]? = some p → p.1 ≠ a := fun j p hj he => hk ⟨j, p, hj, he⟩
        have hfk := tk_none (x := a) (i := 0) hk2
        have hcap := capA_nl (j := S.nx + 1) (h := Heap.put (Heap.put S.h S.nx (some (.cells 3 [[.int .i64 0, .int .i64 0, .int .i64 0]]))) S.nx none) (b := (b : Int)) (Int.natCast_nonneg b)
        rw [Int.toNat_natCast] at hcap
        have hnj0 : (0 : Nat) ≠ S.nx + 1 := by omega
        refine wp_rdH ?_
        simp only [go_sem, wp_sq, reduceIte, Nat.reduceEqDiff, Nat.reduceAdd, Nat.reduceBEq, reduceCtorEq, hs2, hs5, hs14, hs15, hx, hw, h1, ha, hb, keq_int, ds_put, put_ne _ _ hne0, hS0, hfk, cond_false, hcap, put_ne _ _ hnj0]
        refine ⟨_, by omega, rfl, (by repeat' first | exact hf | exact rfl | exact Fr0.refl _ _ | apply Fr0.upd | exact hf2 | refine Fr0.sub hf2 rfl ?_ | refine Fr0.sub hf rfl ?_), i + 1, rfl, by omega, rfl, Nat.succ_pos _, ts ++ [(a, [b], S.nx + 1)], ?_, ?_⟩
        · rw [List.map_append]
          rfl
        · rw [htake]
          exact (hT1 _).snoc (t' := S.nx + 1) hk2 ha hb hla hlb (Nat.le_succ _) (Nat.le_refl _) (Nat.lt_succ_self _) (by simp [Heap.put]) (by omega) fun x hx1 hx2 => (put_ne _ _ (by omega)).trans (put_ne _ _ (Nat.ne_of_lt hx2))
  · rw [List.take_of_length_le (by omega)] at hT
    have hlk : ∀ f : Nat, f < u.funcs.length → ∃ (L : List Nat) (nf : Option Bool) (tl : Tl), (∀ b, b ∈ L ↔ edgeOf u.funcs.length cs f b) ∧ L.length ≤ 1000 ∧ ((findK 4 (.int .i64 (f : Int)) (ts.map encT) 0 = some none ∧ DV.isl 1 nf (L.map rN) tl = .isl 1 (some true) [] .ex) ∨ ∃ j, findK 4 (.int .i64 (f : Int)) (ts.map encT) 0 = some (some j) ∧ nth (ts.map encT) j = some (.int .i64 (f : Int), .isl 1 nf (L.map rN) tl)) := by
      intro f hf
      by_cases hk : ∃ (j : Nat) (p : NTr), ts[j]? = some p ∧ p.1 = f
      · obtain ⟨j, ⟨k, l, t⟩, hj, hka⟩ := hk
        have hka : k = f := hka
        subst hka
        have hll : l.length ≤ cs.length := hT.len j _ hj
        have hfk := tk_some (x := k) (i := 0) hT.keys hj rfl
        rw [Nat.zero_add] at hfk
        refine ⟨l, some false, .tk t 0, fun b => ?_, by omega, .inr ⟨j, hfk, nth_T hj⟩⟩
        rw [← hT.edge]
        constructor
        · intro hb
          exact ⟨j, _, hj, rfl, hb⟩
        · rintro ⟨i2, p, hp, h3, h4⟩
          have := hT.keys i2 j p _ hp hj h3
          subst this
          rw [hj] at hp
          cases hp
          exact h4
      · refine ⟨[], some true, .ex, fun b => ?_, by simp, .inl ⟨tk_none fun j p hj he => hk ⟨j, p, hj, he⟩, rfl⟩⟩
        rw [← hT.edge]
        refine ⟨fun h => by simp at h, ?_⟩
        rintro ⟨i2, p, hp, h3, _⟩
        exact absurd ⟨i2, p, hp, h3⟩ hk
    simp only [go_sem, wp_sq, reduceIte, Nat.reduceEqDiff, Nat.reduceAdd, Nat.reduceBEq, reduceCtorEq, hs2, hs5, hs14, hs15, hx, hw, h1, hmm, keq_int, ds_put, put_same, findK]
    refine wp_lpE [9, 10, 12, 49, 50, 51, 52, 53, 54, 55, 56, 57, 58, 59, 60, 61, 62, 63, 64, 65, 66, 67, 68, 69, 70, 71, 72, 73, 74, 75] (fun n e S2 => ∃ (ks wl : List Nat), n = 2 * (u.funcs.length - ks.length) + wl.length ∧ n ≤ 2000 ∧ S2.h 0 = some (.map (ts.map encT)) ∧ S2.h S.nx = some (.map (ks.map nE)) ∧ S.nx < S2.nx ∧ AppW (S.nx + 1) S2 (e 9) (wl.map rN) ∧ Bfs (edgeOf u.funcs.length cs) m ks wl none) (2 * (u.funcs.length - 1) + 1) ?_ ?_
    · refine ⟨[m], [m], rfl, by omega, ((put_ne _ _ hne0).trans (put_ne _ _ hne0)).trans hS0, put_same _ _ _, Nat.lt_succ_self _, ⟨_, _, rfl, .inl rfl⟩, ⟨by simp, fun g hg => ?_, by simp, fun g hg => hg, fun a h1 h2 => absurd h1 h2⟩⟩
      rw [List.mem_singleton.1 hg]
      exact .refl
    rintro n2 e2 S2 ⟨ks, wl, hn2, hn3, hS0', hSM, hnx2, hA, hB⟩ hf2
    have ht2 : e2 2 = .iptr (eUn u) 0 := (show e2 2 = e 2 from hf2 2 rfl).trans hs2
    have ht5 : e2 5 = .map 0 := (show e2 5 = e 5 from hf2 5 rfl).trans hs5
    have ht8 : e2 8 = .map S.nx := hf2 8 rfl
    obtain ⟨nf, tl, h9, _⟩ := id hA
    cases wl with
    | nil =>
      have e0 : ¬ (0 : Int) < ((0 : Nat) : Int) := by decide
      simp only [go_sem, wp_sq, reduceIte, Nat.reduceEqDiff, Nat.reduceAdd, Nat.reduceBEq, reduceCtorEq, ht2, ht5, ht8, h9, List.map_nil, e0]
      have hkl := hB.len hml
      refine ex_callD (numbers_ok (S := ⟨S2.h, S2.nx⟩) (es := ks.map nE) (ks := ks.map fun k : Nat => (k : Int)) ht hs hSM (by rw [List.map_map, List.map_map]; rfl) (by rw [List.length_map]; omega)) ?_
      rintro _ D ⟨rfl, rfl⟩
      simp only [go_sem, wp_sq, reduceIte, Nat.reduceEqDiff, Nat.reduceAdd, Nat.reduceBEq, reduceCtorEq]
      have hTm : ∀ g, g ∈ ((List.range u.funcs.length).filter fun g => decide (g ∈ ks)) ↔ g ∈ ks := fun g => by
        rw [List.mem_filter, List.mem_range, decide_eq_true_iff]
        exact ⟨fun h => h.2, fun h => ⟨rch_lt hml (hB.sound g h), h⟩⟩
      have hks := sortZ_nat hB.nd (List.pairwise_lt_range.filter fun g => decide (g ∈ ks)) hTm
      refine ret_one (b := none) rfl ⟨(List.range u.funcs.length).filter fun g => decide (g ∈ ks), ?_, List.pairwise_lt_range.filter _, fun g => ?_⟩
      · rw [hks, List.map_map]
        rfl
      · rw [hTm, hB.all]
        refine ⟨fun h => ⟨m, hmm, h⟩, ?_⟩
        rintro ⟨m2, h3, h4⟩
        have : m2 = m := by omega
        rw [this] at h4
        exact h4
    | cons f wl =>
      have hfl : f < u.funcs.length := rch_lt hml (hB.sound f (hB.sub f (by simp)))
      obtain ⟨L, nfL, tlL, hL, hLl, hLk⟩ := hlk f hfl
      obtain ⟨w9, hsl, hA9⟩ := AppW.tail (by rw [h9] at hA; exact hA)
      rw [List.map_cons] at hsl
      have e0 : (0 : Int) < ((wl.length + 1 : Nat) : Int) := by omega
      have hi0 : dIdx 1 (.isl 1 nf (rN f :: wl.map rN) tl) (.int .i64 0) = some (.iptr (rN f) 0) := rfl
      have hnf : nth (rN f) 0 = some (.int .i64 (f : Int)) := rfl
      simp only [go_sem, wp_sq, reduceIte, Nat.reduceEqDiff, Nat.reduceAdd, Nat.reduceBEq, reduceCtorEq, ht2, ht5, ht8, h9, List.map_cons, e0, hi0, hnf, hsl, hS0', keq_int]
      refine ⟨.isl 1 nfL (L.map rN) tlL, [], ?_, ?_⟩
      · rcases hLk with ⟨h3, h4⟩ | ⟨j, h3, h4⟩
        · simp only [h3, h4, cond_false]
        · simp only [h3, h4, cond_false]
      simp only [go_sem, wp_sq, reduceIte, Nat.reduceEqDiff, Nat.reduceAdd, Nat.reduceBEq, reduceCtorEq, ht2, ht5, ht8]
      refine wp_lpE [9, 12, 61, 62, 63, 64, 65, 66, 67, 68, 69, 70, 71, 72, 73, 74, 75] (fun n e S3 => ∃ i : Nat, n = L.length - i ∧ i ≤ L.length ∧ e 61 = .int .i64 i ∧ S3.h 0 = some (.map (ts.map encT)) ∧ S.nx < S3.nx ∧ ∃ (ks3 wl3 : List Nat), S3.h S.nx = some (.map (ks3.map nE)) ∧ AppW (S.nx + 1) S3 (e 9) (wl3.map rN) ∧ Bfs (edgeOf u.funcs.length cs) m ks3 wl3 (some f) ∧ (∀ b, b ∈ L.take i → b ∈ ks3) ∧ f ∈ ks3 ∧ 2 * (u.funcs.length - ks3.length) + wl3.length ≤ 2 * (u.funcs.length - ks.length) + wl.length) L.length ?_ ?_
      · exact ⟨0, rfl, Nat.zero_le _, rfl, hS0', hnx2, ks, wl, hSM, hA9, hB.pop, by simp, hB.sub f (by simp), Nat.le_refl _⟩
      rintro n3 e3 S3 ⟨i3, hn4, hi3, hx3, hS03, hnx3, ks3, wl3, hSM3, hA3, hB3, hI3, hf3k, hme⟩ hf3
      have hv8 : e3 8 = .map S.nx := (show e3 8 = e2 8 from hf3 8 rfl).trans ht8
      have hv59 : e3 59 = .isl 1 nfL (L.map rN) tlL := hf3 59 rfl
      have hv60 : e3 60 = .int .i64 L.length := hf3 60 rfl
      have hw3 := wrap_succ (i := i3) (by omega)
      by_cases h4 : i3 < L.length
      · have hed := (hL _).1 (List.getElem_mem h4)
        have hstep : ∀ ks4 : List Nat, (∀ b, b ∈ ks3 → b ∈ ks4) → L[i3] ∈ ks4 → ∀ b, b ∈ L.take (i3 + 1) → b ∈ ks4 := fun ks4 h5 h6 => take_all (fun b hb => h5 b (hI3 b hb)) h4 h6
        by_cases hg : L[i3] ∈ ks3
        · obtain ⟨j, hj1, hj2⟩ := nk_mem hg
          simp only [go_sem, wp_sq, reduceIte, Nat.reduceEqDiff, Nat.reduceAdd, Nat.reduceBEq, reduceCtorEq, rN, hv8, hv59, hv60, hx3, hw3, h4, keq_int, hSM3, hj1, hj2, nE, cond_false]
          exact ⟨_, by omega, rfl, (by repeat' first | exact hf3 | exact rfl | apply Fr0.upd), i3 + 1, rfl, by omega, rfl, hS03, hnx3, ks3, wl3, hSM3, hA3, hB3, hstep ks3 (fun _ h => h) hg, hf3k, hme⟩
        · have hj1 := nk_none (i := 0) hg
          have hB4 := hB3.add hf3k hed hg
          have hkl4 := hB4.len hml
          rw [List.length_append, List.length_singleton] at hkl4
          simp only [go_sem, wp_sq, reduceIte, Nat.reduceEqDiff, Nat.reduceAdd, Nat.reduceBEq, reduceCtorEq, rN, hv8, hv59, hv60, hx3, hw3, h4, keq_int, hSM3, hj1, cond_false]
          have hA3' : AppW (S.nx + 1) (DS.put ⟨S3.h, S3.nx⟩ S.nx (some (.map (ks3.map nE ++ [(.int .i64 (L[i3] : Int), .bool true)])))) (e3 9) (wl3.map rN) := hA3.keep (Nat.le_refl _) fun b h5 h6 => put_ne _ _ (by omega)
          refine ex_appW hA3' hnx3 rfl (by rw [List.length_map]; rw [List.length_cons] at hn2; omega) (Nat.le_refl _) (fun v ps hA4 hA5 => ?_)
          try simp only [go_sem, wp_sq, reduceIte, Nat.reduceEqDiff, Nat.reduceAdd, Nat.reduceBEq, reduceCtorEq, hv8, hv59, hv60, hx3, hw3, h4]
          refine ⟨_, by omega, rfl, (by repeat' first | exact hf3 | exact rfl | apply Fr0.upd), i3 + 1, rfl, by omega, rfl, (hA5 0 (Nat.succ_pos _)).trans ((put_ne _ _ hne0).trans hS03), Nat.lt_succ_of_lt hnx3, ks3 ++ [L[i3]], wl3 ++ [L[i3]], (hA5 S.nx (Nat.lt_succ_self _)).trans ((put_same _ _ _).trans ?_), ?_, hB4, hstep _ (fun b hb => List.mem_append_left _ hb) (by simp), List.mem_append_left _ hf3k, ?_⟩
          · rw [List.map_append]
            rfl
          · have := hA4 _ (Nat.lt_succ_self _)
            rw [List.map_append]
            exact this
          · rw [List.length_append, List.length_append, List.length_singleton]
            omega
      · simp only [go_sem, wp_sq, reduceIte, Nat.reduceEqDiff, Nat.reduceAdd, Nat.reduceBEq, reduceCtorEq, hv8, hv59, hv60, hx3, hw3, h4]
        rw [List.take_of_length_le (by omega)] at hI3
        refine ⟨2 * (u.funcs.length - ks3.length) + wl3.length, ?_, rfl, (by repeat' first | exact hf2 | exact rfl | apply Fr0.upd | refine Fr0.sub hf3 rfl ?_), ks3, wl3, rfl, ?_, hS03, hSM3, hnx3, hA3, hB3.done fun b hb => hI3 b ((hL b).2 hb)⟩
        · rw [List.length_cons] at hn2
          omega
        · rw [List.length_cons] at hn2
          omega
end Go.Proofs.YtfmicbbflpkdgaaGreatDoor.D
