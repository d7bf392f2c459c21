/-
  Contracts: part 26: lists of strings in memory: appending, sorting, leaving out what stands twice.
-/
import Derived.Test.YtfmicbbflpkdgaaGreatDoorA31
set_option linter.unusedVariables false
set_option linter.unusedSimpArgs false
namespace Go.Proofs.YtfmicbbflpkdgaaGreatDoor.D
variable {P : Program} {G : List (List DV)} {S : DS}
/-- The library's sorting of strings. -/
structure SortSOk (P : Program) (G : List (List DV)) : Prop where
  str : ∀ (S : DS) (b : Nat) (ss : List Str) (c : Option Nat), S.h b = some (.cells 1 (ss.map rS)) → 0 < ss.length → ss.length < 4611686018427387904 → DCalls P G 52 [.sl b 0 ss.length c] S fun d D => d = .tup [] ∧ ∃ ts : List Str, ts.Perm ss ∧ D = S.put b (some (.cells 1 (ts.map rS)))
  str0 : ∀ (S : DS), DCalls P G 52 [.isl 1 (some true) [] .ex] S fun d D => d = .tup [] ∧ D = S
/-- A list of strings in memory whose block is not below lo. -/
def MemS (lo : Nat) (S : DS) (v : DV) (ss : List Str) : Prop := (ss = [] ∧ v = .isl 1 (some true) [] .ex) ∨ (ss ≠ [] ∧ ∃ b, lo ≤ b ∧ b < S.nx ∧ v = .sl b 0 ss.length none ∧ S.h b = some (.cells 1 (ss.map rS)))
theorem MemS.nil {lo : Nat} : MemS lo S (.isl 1 (some true) [] .ex) [] := .inl ⟨rfl, rfl⟩
theorem MemS.up {lo m : Nat} {v : DV} {ss : List Str} (h : MemS lo S v ss) (hm : S.nx ≤ m) : MemS lo ⟨S.h, m⟩ v ss := by
  rcases h with h | ⟨h1, b, h2, h3, h4, h5⟩
  · exact .inl h
  · exact .inr ⟨h1, b, h2, Nat.lt_of_lt_of_le h3 hm, h4, h5⟩
theorem MemS.al {lo m : Nat} {v : DV} {ss : List Str} {o o2 : Option DO} (h : MemS lo S v ss) (hm : S.nx ≤ m) : MemS lo (DS.put (DS.put ⟨S.h, m⟩ S.nx o) S.nx o2) v ss := by
  rcases h with h | ⟨h1, b, h2, h3, h4, h5⟩
  · exact .inl h
  · exact .inr ⟨h1, b, h2, Nat.lt_of_lt_of_le h3 hm, h4, ((put_ne _ _ (by omega)).trans (put_ne _ _ (by omega))).trans h5⟩
theorem ex_memS {lo j : Nat} {v : DV} {ss : List Str} {s : Str} {K : DV → Puts → Prop} (h : MemS lo S v ss) (hlo : lo ≤ j) (hj : S.nx ≤ j) (h1 : ss.length ≤ 1048576)
    (hk : ∀ v' ps, (∀ m, j < m → MemS lo (DS.puts ⟨S.h, m⟩ ps) v' (ss ++ [s])) → (∀ b, b < lo → Heap.puts S.h ps b = S.h b) → K v' ps) : ∃ d ps, capM j 1 S.h v [[.str s]] = some (d, ps) ∧ K d ps := by
  have g0 : Nat.ble (lenN [[DV.str s]]) 1048576 = true := rfl
  rcases h with ⟨rfl, rfl⟩ | ⟨hne, b, hb, hb2, rfl, hS⟩
  · refine ⟨.sl j 0 1 none, [(j, some (.cells 1 [[.str s]]))], rfl, hk _ _ (fun m hm => .inr ⟨by simp, j, hlo, hm, rfl, ?_⟩) fun b hb => ?_⟩
    · exact put_same _ _ _
    · exact put_ne _ _ (by omega)
  · have g1 : Nat.ble ss.length 1048576 = true := by rw [bleN]; simpa using h1
    have g2 : Nat.ble (Nat.add 0 ss.length) (lenN (ss.map rS)) = true := by rw [bleN, lenN_eq]; simp
    have g3 : Nat.ble (Nat.add (Nat.add 0 ss.length) (lenN [[DV.str s]])) (lenN (ss.map rS)) = false := by rw [bleN]; simp [lenN_eq]
    have g4 : takeN ss.length (ss.map rS) = ss.map rS := by rw [takeN_eq, List.take_of_length_le]; simp
    have g5 : allScR [[DV.str s]] = true := rfl
    have g6 : Nat.beq 1 1 = true := rfl
    have g7 : dropN 0 (ss.map rS) = ss.map rS := by rw [dropN_eq]; rfl
    refine ⟨.sl j 0 (Nat.add ss.length (lenN [[DV.str s]])) none, [(b, none), (j, some (.cells 1 (ss.map rS ++ [[.str s]])))], by simp only [capM, hS, g0, g1, g2, g3, g4, g5, g6, g7], hk _ _ (fun m hm => .inr ⟨by simp, j, hlo, hm, by simp [lenN], ?_⟩) fun c hc => ?_⟩
    · refine (put_same _ _ _).trans ?_
      simp [rS]
    · exact (put_ne _ _ (by omega)).trans (put_ne _ _ (by omega))
/-- The rest of a list, with what was written before it. -/
theorem set_mid {α : Type} {a l : List α} {y : α} (h : a.length < l.length) : (a ++ l.drop a.length).set a.length y = (a ++ [y]) ++ l.drop (a.length + 1) := by
  rw [List.set_append_right _ _ (Nat.le_refl _), Nat.sub_self, List.drop_eq_getElem_cons h, List.set_cons_zero, List.append_assoc]
  rfl
theorem get_mid {α : Type} {a l : List α} {j : Nat} (h : a.length ≤ j) (hj : j < l.length) : (a ++ l.drop a.length)[j]? = some l[j] := by
  rw [List.getElem?_append_right h, List.getElem?_drop, show a.length + (j - a.length) = j by omega, List.getElem?_eq_getElem hj]
theorem mem_same {α : Type} {l : List α} {i : Nat} (h : i + 1 < l.length) (he : l[i + 1] = l[i]) (x : α) : x ∈ l.take (i + 2) ↔ x ∈ l.take (i + 1) := by
  rw [List.take_succ_eq_append_getElem h, List.mem_append, List.mem_singleton, he]
  constructor
  · rintro (h2 | rfl)
    · exact h2
    · rw [List.take_succ_eq_append_getElem (by omega)]
      exact List.mem_append_right _ (List.mem_singleton.2 rfl)
  · exact .inl
theorem dlen_sl {b i n : Nat} {c : Option Nat} : dLenP 1 (.sl b i n c) = some n := rfl
theorem slck_sl {b i n k : Nat} {c : Option Nat} {rows : List (List DV)} {h : Heap} (hS : h b = some (.cells k rows)) : slcKH k h (.sl b i n c) = true := by
  simp [slcKH, hS]
theorem didx_sl {b j n k i : Nat} {c : Option Nat} {kd : IntKind} (h : i < n) : dIdx k (.sl b j n c) (.int kd (i : Int)) = some (.ptr b (Nat.add j i) 0) := by
  have e1 : Nat.blt i n = true := by rw [bltN]; simpa using h
  simp only [dIdx, dnat_cast, e1]
theorem nth_S {i : Nat} {l : List Str} {s : Str} (hi : l[i]? = some s) : nth (l.map rS) i = some [.str s] := by
  rw [nth_map, nth_eq, hi]
  rfl
theorem dslice_sl_lo {b i n l : Nat} {kd : IntKind} (h : l ≤ n) : dSlice (.sl b i n none) (some (.int kd (l : Int))) none = some (.sl b (i + l) (n - l) none) := by
  have e1 : Nat.ble n n = true := by rw [bleN]; simp
  have e2 : Nat.ble l n = true := by rw [bleN]; simpa using h
  simp only [dSlice, bound, dnat_cast, e1, e2]
  rfl
theorem dslice_sl_hi {b i n l : Nat} {kd : IntKind} (h : l ≤ n) : dSlice (.sl b i n none) none (some (.int kd (l : Int))) = some (.sl b i l none) := by
  have e1 : Nat.ble l n = true := by rw [bleN]; simpa using h
  have e2 : Nat.ble 0 l = true := by rw [bleN]; simp
  simp only [dSlice, bound, dnat_cast, e1, e2]
  rfl
theorem wrap_pred {i : Nat} (h : i + 1 < 9223372036854775807) : IntKind.wrap .i64 (((i + 1 : Nat) : Int) - 1) = (i : Int) := by
  rw [wrap_id (by omega)]
  omega
theorem f53n (ht : TabOk P gl tab.get) (S : DS) : DCalls P gl 53 [.isl 1 (some true) [] .ex] S fun d _ => d = .isl 1 none [] .no := by
  refine DCalls.of_wp ht.mixed (ht.tab 53 d53 rfl) ?_
  have e0 : ((0 : Nat) : Int) < 2 := by decide
  simp only [d53, go_sem, wp_sq, reduceIte, Nat.reduceEqDiff, Nat.reduceAdd, Nat.reduceBEq, reduceCtorEq, e0]
  refine ret_one (b := none) (v := .isl 1 none [] .no) rfl ?_
  rfl
theorem putRows_take {k : Nat} : ∀ (xs l : List (List DV)) (i : Nat), k ≤ i → (putRows l i xs).take k = l.take k
  | [], _, _, _ => rfl
  | x :: xs, l, i, h => by
    simp only [putRows]
    rw [putRows_take xs _ _ (Nat.le_succ_of_le h), setN_eq, List.take_set_of_le h]
theorem f53 (ht : TabOk P gl tab.get) (S : DS) (b : Nat) (ss : List Str) (hS : S.h b = some (.cells 1 (ss.map rS))) (hpos : 0 < ss.length) (hlt : ss.length < 4611686018427387904) : DCalls P gl 53 [.sl b 0 ss.length none] S fun d D => ∃ (ts : List Str) (rows : List (List DV)), d = .sl b 0 ts.length none ∧ D.h b = some (.cells 1 rows) ∧ ts.length ≤ rows.length ∧ rows.take ts.length = ts.map rS ∧ (∀ x, x ∈ ts ↔ x ∈ ss) ∧ ts.length ≤ ss.length := by
  refine DCalls.of_wp ht.mixed (ht.tab 53 d53 rfl) ?_
  have hall : ∀ S1 : DS, S1.h b = some (.cells 1 (ss.map rS)) → ∃ (ts : List Str) (rows : List (List DV)), DV.sl b 0 ss.length none = .sl b 0 ts.length none ∧ S1.h b = some (.cells 1 rows) ∧ ts.length ≤ rows.length ∧ rows.take ts.length = ts.map rS ∧ (∀ x, x ∈ ts ↔ x ∈ ss) ∧ ts.length ≤ ss.length := fun S1 h1 =>
    ⟨ss, _, rfl, h1, by simp, by rw [List.take_of_length_le]; simp, fun _ => Iff.rfl, Nat.le_refl _⟩
  by_cases h2 : (ss.length : Int) < 2
  · simp only [d53, go_sem, wp_sq, reduceIte, Nat.reduceEqDiff, Nat.reduceAdd, Nat.reduceBEq, reduceCtorEq, dlen_sl, h2]
    exact ret_one (b := none) rfl (hall _ hS)
  · simp only [d53, go_sem, wp_sq, reduceIte, Nat.reduceEqDiff, Nat.reduceAdd, Nat.reduceBEq, reduceCtorEq, dlen_sl, h2]
    refine wp_lpE [2, 3, 4, 5, 10, 11, 12, 13, 14, 15, 16, 17, 18, 19, 20, 21, 22, 23, 24, 25, 26, 27, 28, 29, 30, 31, 32, 33, 34, 35, 36, 37, 38, 39, 40, 41, 42, 43, 44, 45, 46, 47, 48, 49, 50, 51, 52, 53, 54, 55, 56, 57, 58, 59] (fun n e S1 => ∃ k : Nat, n = ss.length - k ∧ k < ss.length ∧ e 3 = .int .i64 ((k + 1 : Nat) : Int) ∧ S1.h b = some (.cells 1 (ss.map rS))) ss.length ⟨0, rfl, hpos, rfl, hS⟩ ?_
    rintro n e S1 ⟨k, hn, hk, hx, hS1⟩ hf
    have hs0 : e 0 = .sl b 0 ss.length none := hf 0 rfl
    have hw := wrap_succ (i := k + 1) (by omega)
    have hwp := wrap_pred (i := k) (by omega)
    have hck := slck_sl (i := 0) (n := ss.length) (c := none) hS1
    by_cases h1 : k + 1 < ss.length
    · have hk2 : k < ss.length := hk
      have hc1 := nth_S (List.getElem?_eq_getElem h1)
      have hc2 := nth_S (List.getElem?_eq_getElem hk)
      have hi1 := didx_sl (b := b) (j := 0) (k := 1) (c := none) (kd := .i64) h1
      have hi2 := didx_sl (b := b) (j := 0) (k := 1) (c := none) (kd := .i64) hk
      simp only [go_sem, wp_sq, reduceIte, Nat.reduceEqDiff, Nat.reduceAdd, Nat.reduceBEq, reduceCtorEq, hs0, hx, hw, h1, dlen_sl]
      refine wp_rdH ?_
      simp only [go_sem, wp_sq, reduceIte, Nat.reduceEqDiff, Nat.reduceAdd, Nat.reduceBEq, reduceCtorEq, hs0, hx, hw, hwp, h1, hck, hi1, hi2, hS1, hc1, hc2]
      refine ifP_dec (fun hp => ?_) (fun hp => ?_)
      · have hsl := dslice_sl_lo (b := b) (i := 0) (kd := .i64) (n := ss.length) (l := k + 1) (by omega)
        simp only [go_sem, wp_sq, reduceIte, Nat.reduceEqDiff, Nat.reduceAdd, Nat.reduceBEq, reduceCtorEq, hs0, hx, hw, h1, hck, hsl]
        refine wp_lpE [3, 5, 29, 30, 31, 32, 33, 34, 35, 36, 37, 38, 39, 40, 41, 42, 43, 44, 45, 46, 47, 48, 49, 50, 51, 52, 53] (fun n e2 S2 => ∃ (k2 : Nat) (a : List Str), n = ss.length - (k + 1 + (k2 + 1)) ∧ k + 1 + (k2 + 1) ≤ ss.length ∧ e2 5 = .int .i64 ((k2 + 1 : Nat) : Int) ∧ e2 3 = .int .i64 (a.length : Int) ∧ a.length ≤ k + 1 + k2 ∧ (∀ x, x ∈ a ↔ x ∈ ss.take (k + 1 + (k2 + 1))) ∧ S2.h b = some (.cells 1 ((a ++ ss.drop a.length).map rS))) (ss.length - (k + 1 + 1)) ?_ ?_
        · refine ⟨0, ss.take (k + 1), rfl, by omega, rfl, ?_, ?_, fun x => ?_, ?_⟩
          · simp only [go_sem, wp_sq, reduceIte, Nat.reduceEqDiff, Nat.reduceAdd, Nat.reduceBEq, reduceCtorEq, hx, List.length_take, Nat.min_eq_left (Nat.le_of_lt h1)]
          · simp; omega
          · exact (mem_same h1 hp x).symm
          · rw [show (ss.take (k + 1)).length = k + 1 by simp; omega, List.take_append_drop]
            exact hS1
        rintro n2 e2 S2 ⟨k2, a, hn2, hk2', hy, hz, hal, hmem, hS2⟩ hf2
        have ht0 : e2 0 = .sl b 0 ss.length none := (show e2 0 = e 0 from hf2 0 rfl).trans hs0
        have ht4 : e2 4 = .sl b (k + 1) (ss.length - (k + 1)) none := hf2 4 rfl
        have hw2 := wrap_succ (i := k2 + 1) (by omega)
        have hw3 := wrap_succ (i := a.length) (by omega)
        have hwp2 := wrap_pred (i := k2) (by omega)
        have hlen2 : (a ++ ss.drop a.length).length = ss.length := by simp; omega
        have hck0 := slck_sl (i := 0) (n := ss.length) (c := none) hS2
        have hck4 := slck_sl (i := k + 1) (n := ss.length - (k + 1)) (c := none) hS2
        by_cases h3 : k2 + 1 < ss.length - (k + 1)
        · have hj1 : k + 1 + (k2 + 1) < ss.length := by omega
          have hj2 : k + 1 + k2 < ss.length := by omega
          have hc3 := nth_S (get_mid (a := a) (by omega) hj1)
          have hc4 := nth_S (get_mid (a := a) (by omega) hj2)
          have hi3 := didx_sl (b := b) (j := k + 1) (k := 1) (c := none) (kd := .i64) h3
          have hi4 := didx_sl (b := b) (j := k + 1) (k := 1) (c := none) (kd := .i64) (show k2 < ss.length - (k + 1) by omega)
          simp only [go_sem, wp_sq, reduceIte, Nat.reduceEqDiff, Nat.reduceAdd, Nat.reduceBEq, reduceCtorEq, ht0, ht4, hy, hz, hw2, hw3, h3, dlen_sl]
          refine wp_rdH ?_
          simp only [go_sem, wp_sq, reduceIte, Nat.reduceEqDiff, Nat.reduceAdd, Nat.reduceBEq, reduceCtorEq, ht0, ht4, hy, hz, hw2, hw3, hwp2, h3, hck0, hck4, hi3, hi4, hS2, hc3, hc4]
          refine ifP_dec (fun hp2 => ?_) (fun hp2 => ?_)
          · simp only [go_sem, wp_sq, reduceIte, Nat.reduceEqDiff, Nat.reduceAdd, Nat.reduceBEq, reduceCtorEq, ht0, ht4, hy, hz, hw2, hw3, h3]
            refine ⟨_, ?_, rfl, (by repeat' first | exact hf | exact rfl | exact Fr0.refl _ _ | apply Fr0.upd | exact hf2 | refine Fr0.sub hf2 rfl ?_ | refine Fr0.sub hf rfl ?_), k2 + 1, a, rfl, by omega, rfl, hz, by omega, fun x => ?_, hS2⟩
            · omega
            · rw [hmem]
              exact (mem_same (i := k + 1 + k2) (by omega) hp2 x).symm
          · have hi5 := didx_sl (b := b) (j := 0) (k := 1) (c := none) (kd := .i64) (show a.length < ss.length by omega)
            have hset : setN ((a ++ ss.drop a.length).map rS) a.length [.str ss[k + 1 + (k2 + 1)]] = ((a ++ [ss[k + 1 + (k2 + 1)]]) ++ ss.drop (a ++ [ss[k + 1 + (k2 + 1)]]).length).map rS := by
              rw [setN_eq, show (a ++ [ss[k + 1 + (k2 + 1)]]).length = a.length + 1 by simp, ← set_mid (by omega), List.map_set]
              rfl
            have hnth := nth_S (get_mid (a := a) (l := ss) (j := a.length) (Nat.le_refl _) (by omega))
            simp only [go_sem, wp_sq, reduceIte, Nat.reduceEqDiff, Nat.reduceAdd, Nat.reduceBEq, reduceCtorEq, ht0, ht4, hy, hz, hw2, hw3, h3, hck0, hck4, hi3, hi5, hc3, hS2, hnth, bleN, beqN, allSc, putN, setN, hset, Nat.le_refl]
            refine ⟨_, ?_, rfl, (by repeat' first | exact hf | exact rfl | exact Fr0.refl _ _ | apply Fr0.upd | exact hf2 | refine Fr0.sub hf2 rfl ?_ | refine Fr0.sub hf rfl ?_), k2 + 1, a ++ [ss[k + 1 + (k2 + 1)]], rfl, by omega, rfl, ?_, ?_, fun x => ?_, put_same _ _ _⟩
            · omega
            · show DV.int .i64 ((a.length + 1 : Nat) : Int) = _
              rw [List.length_append]
              rfl
            · simp; omega
            · rw [List.mem_append, List.mem_singleton, hmem, show k + 1 + (k2 + 1 + 1) = k + 1 + (k2 + 1) + 1 by omega, List.take_succ_eq_append_getElem hj1, List.mem_append, List.mem_singleton]
        · have hsl1 := dslice_sl_lo (b := b) (i := 0) (kd := .i64) (n := ss.length) (l := a.length) (by omega)
          have hsl2 := dslice_sl_hi (b := b) (i := 0) (kd := .i64) (n := ss.length) (l := a.length) (by omega)
          have hbl : Nat.ble (a.length + (ss.length - a.length)) (lenN ((a ++ ss.drop a.length).map rS)) = true := by
            rw [bleN, lenN_eq, List.length_map, hlen2, decide_eq_true_eq]
            omega
          have hckp : ∀ o : List (List DV), slcKH 1 (Heap.put S2.h b (some (.cells 1 o))) (.sl b 0 ss.length none) = true := fun o => slck_sl (put_same _ _ _)
          simp only [go_sem, wp_sq, reduceIte, Nat.reduceEqDiff, Nat.reduceAdd, Nat.reduceBEq, reduceCtorEq, ht0, ht4, hy, hz, hw2, hw3, h3, dlen_sl, hck0, hsl1, hsl2, hS2, hbl, hckp, ds_put, allSc]
          refine ret_one (b := none) rfl ?_
          refine ⟨a, _, rfl, put_same _ _ _, ?_, ?_, fun x => ?_, by omega⟩
          · rw [putRows_length, List.length_map, hlen2]
            omega
          · rw [putRows_take _ _ _ (Nat.le_refl _), ← List.map_take, List.take_left]
          · rw [hmem, List.take_of_length_le (by omega)]
      · simp only [go_sem, wp_sq, reduceIte, Nat.reduceEqDiff, Nat.reduceAdd, Nat.reduceBEq, reduceCtorEq, hs0, hx, hw, h1]
        exact ⟨_, by omega, rfl, (by repeat' first | exact hf | exact rfl | exact Fr0.refl _ _ | apply Fr0.upd | exact hf2 | refine Fr0.sub hf2 rfl ?_ | refine Fr0.sub hf rfl ?_), k + 1, rfl, by omega, rfl, hS1⟩
    · simp only [go_sem, wp_sq, reduceIte, Nat.reduceEqDiff, Nat.reduceAdd, Nat.reduceBEq, reduceCtorEq, hs0, hx, hw, h1, dlen_sl]
      exact ret_one (b := none) rfl (hall _ hS1)
end Go.Proofs.YtfmicbbflpkdgaaGreatDoor.D
/-
  Contracts: part 27: the program's subclasses and targets in the hierarchy.
-/
namespace Go.Proofs.YtfmicbbflpkdgaaGreatDoor.D
variable {P : Program} {G : List (List DV)} {S : DS}
theorem f51 (ht : TabOk P gl tab.get) (h : NHier) (c : Str) (i : Nat) (hi : i < h.length) : Val P gl 51 [.int .i64 i, .iptr (eHr h) 0, .iptr [.str c] 0] fun d => d = .bool (decide (h[i].name = c)) := by
  refine Val.of_wp gl_ok ht (df := d51) rfl (cl_cons (.int _ _) (cl_cons (.iptr _ _ (cl_eHr h)) (cl_cons (.iptr _ _ (cl_rS c)) cl_nil))) (fun d hd => by rw [hd]; exact .bool _) ?_
  simp only [d51, go_sem, wp_sq, reduceIte, Nat.reduceEqDiff, Nat.reduceAdd, Nat.reduceBEq, reduceCtorEq]
  refine wp_rdH ?_
  simp only [go_sem, wp_sq, reduceIte, Nat.reduceEqDiff, Nat.reduceAdd, Nat.reduceBEq, reduceCtorEq, hi]
  exact ret_one (b := none) rfl rfl
theorem cl_fn51 (h : NHier) (c : Str) : Closed (.func 51 [] [.iptr (eHr h) 0, .iptr [.str c] 0]) := .func _ _ _ cl_nil (cl_cons (.iptr _ _ (cl_eHr h)) (cl_cons (.iptr _ _ (cl_rS c)) cl_nil))
theorem f77 (ht : TabOk P gl tab.get) (h : NHier) (c : Str) (l : List Nat) (hl : l.length < 4611686018427387904) (hh : ∀ i, i ∈ l → i < h.length) : Val P gl 77 [.isl 1 none (l.map rN) .no, .func 51 [] [.iptr (eHr h) 0, .iptr [.str c] 0]] fun d => ∃ z, d = .int .i64 z ∧ (0 ≤ z ↔ ∃ i, i ∈ l ∧ (h[i]?.map NClass.name) = some c) := by
  refine Val.of_wp gl_ok ht (df := d77) rfl (cl_cons (cl_isl cl_rN ..) (cl_cons (cl_fn51 h c) cl_nil)) (fun d hd => by obtain ⟨z, rfl, _⟩ := hd; exact .int _ _) ?_
  simp only [d77, go_sem, wp_sq, reduceIte, Nat.reduceEqDiff, Nat.reduceAdd, Nat.reduceBEq, reduceCtorEq]
  refine wp_lpE [4, 5, 8, 9, 10, 11, 12, 13, 14, 15, 16, 17, 18] (fun n e _ => ∃ i : Nat, n = l.length - i ∧ i ≤ l.length ∧ e 8 = .int .i64 i ∧ ∀ y, y ∈ l.take i → ¬ (h[y]?.map NClass.name) = some c) l.length ⟨0, rfl, Nat.zero_le _, rfl, by simp⟩ ?_
  rintro n e S ⟨i, hn, hi, hx, hI⟩ hf
  have hs0 : e 0 = .isl 1 none (l.map rN) .no := hf 0 rfl
  have hs1 : e 1 = .func 51 [] [.iptr (eHr h) 0, .iptr [.str c] 0] := hf 1 rfl
  have hs7 : e 7 = .int .i64 l.length := hf 7 rfl
  have hw := wrap_succ (i := i) (by omega)
  by_cases h1 : i < l.length
  · have hih := hh _ (List.getElem_mem h1)
    have hgi : (h[l[i]]?.map NClass.name) = some h[l[i]].name := by rw [List.getElem?_eq_getElem hih]; rfl
    simp only [go_sem, wp_sq, reduceIte, Nat.reduceEqDiff, Nat.reduceAdd, Nat.reduceBEq, reduceCtorEq, rN, hs0, hs1, hs7, hx, hw, h1]
    refine opx_callv (by simp only [go_sem, wp_sq, reduceIte, Nat.reduceEqDiff, Nat.reduceAdd, Nat.reduceBEq, reduceCtorEq, hs1]; exact rfl) ?_
    simp only [go_sem, wp_sq, reduceIte, Nat.reduceEqDiff, Nat.reduceAdd, Nat.reduceBEq, reduceCtorEq, rN, hs0, hs1, hs7, hx, hw, h1]
    refine ex_call (f51 ht h c l[i] hih) ?_
    rintro _ rfl
    simp only [go_sem, wp_sq, reduceIte, Nat.reduceEqDiff, Nat.reduceAdd, Nat.reduceBEq, reduceCtorEq, rN, hs0, hs1, hs7, hx, hw, h1]
    refine ifP_dec (fun hp => ?_) (fun hp => ?_)
    · simp only [go_sem, wp_sq, reduceIte, Nat.reduceEqDiff, Nat.reduceAdd, Nat.reduceBEq, reduceCtorEq, rN, hs0, hs1, hs7, hx, hw, h1]
      refine ret_one (b := none) rfl ?_
      exact ⟨_, rfl, fun _ => ⟨l[i], List.getElem_mem h1, by rw [hgi, hp]⟩, fun _ => by omega⟩
    · simp only [go_sem, wp_sq, reduceIte, Nat.reduceEqDiff, Nat.reduceAdd, Nat.reduceBEq, reduceCtorEq, rN, hs0, hs1, hs7, hx, hw, h1]
      exact ⟨_, by omega, rfl, (by repeat' first | exact hf | exact rfl | exact Fr0.refl _ _ | apply Fr0.upd | exact hf2 | refine Fr0.sub hf2 rfl ?_ | refine Fr0.sub hf rfl ?_), i + 1, rfl, by omega, rfl, take_all hI h1 (by rw [hgi]; simpa using hp)⟩
  · simp only [go_sem, wp_sq, reduceIte, Nat.reduceEqDiff, Nat.reduceAdd, Nat.reduceBEq, reduceCtorEq, rN, hs0, hs1, hs7, hx, hw, h1]
    refine ret_one (b := none) rfl ?_
    exact ⟨_, rfl, fun h => by omega, fun ⟨y, hy, he⟩ => absurd he (take_end hI h1 y hy)⟩
theorem f50 (ht : TabOk P gl tab.get) (h : NHier) (c : Str) (l : List Nat) (hl : l.length < 4611686018427387904) (hh : ∀ i, i ∈ l → i < h.length) : Val P gl 50 [.isl 1 none (l.map rN) .no, .func 51 [] [.iptr (eHr h) 0, .iptr [.str c] 0]] fun d => ∃ b, d = .bool b ∧ (b = true ↔ ∃ i, i ∈ l ∧ (h[i]?.map NClass.name) = some c) := by
  refine Val.of_wp gl_ok ht (df := d50) rfl (cl_cons (cl_isl cl_rN ..) (cl_cons (cl_fn51 h c) cl_nil)) (fun d hd => by obtain ⟨z, rfl, _⟩ := hd; exact .bool _) ?_
  simp only [d50, go_sem, wp_sq, reduceIte, Nat.reduceEqDiff, Nat.reduceAdd, Nat.reduceBEq, reduceCtorEq]
  refine ex_call (f77 ht h c l hl hh) ?_
  rintro _ ⟨z, rfl, hz⟩
  simp only [go_sem, wp_sq, reduceIte, Nat.reduceEqDiff, Nat.reduceAdd, Nat.reduceBEq, reduceCtorEq]
  refine ret_one (b := none) rfl ?_
  exact ⟨_, rfl, by rw [decide_eq_true_iff, hz]⟩
/-- A class is among the classes of a chain. -/
theorem ix_name {h : NHier} {x c : Str} : (∃ i, i ∈ ixL h (chainF h x).1 ∧ (h[i]?.map NClass.name) = some c) ↔ isSub h x c = true := by
  have hok := chain_ok (h := h) (c := x)
  rw [isSub, decide_eq_true_iff]
  constructor
  · rintro ⟨i, hi, hn⟩
    obtain ⟨s, hs, he⟩ := List.mem_map.1 hi
    obtain ⟨k, hk⟩ := hok.2 s hs
    obtain ⟨hkl, hkn⟩ := findN_some hk
    rw [hk] at he
    have he : k = i := he
    subst he
    rw [List.getElem?_eq_getElem hkl] at hn
    have hn : some h[k].name = some c := hn
    injection hn with hn
    rw [← hn, hkn]
    exact hs
  · intro hc
    obtain ⟨k, hk⟩ := hok.2 c hc
    obtain ⟨hkl, hkn⟩ := findN_some hk
    refine ⟨k, List.mem_map.2 ⟨c, hc, by rw [hk]; rfl⟩, ?_⟩
    rw [List.getElem?_eq_getElem hkl, ← hkn]
    rfl
theorem ix_lt {h : NHier} {x : Str} : ∀ i, i ∈ ixL h (chainF h x).1 → i < h.length := fun i hi => by
  obtain ⟨s, hs, he⟩ := List.mem_map.1 hi
  obtain ⟨k, hk⟩ := (chain_ok (h := h) (c := x)).2 s hs
  obtain ⟨hkl, _⟩ := findN_some hk
  rw [hk] at he
  have he : k = i := he
  subst he
  exact hkl
/-- A list of strings in memory that a function gives back. -/
theorem ret_mem {a b : Nat} {e : Env} {ts : List Str} {rows : List (List DV)} {R : DV → DS → Prop} (h1 : e a = .sl b 0 ts.length none) (h2 : S.h b = some (.cells 1 rows)) (h3 : ts.length ≤ rows.length) (h4 : rows.take ts.length = ts.map rS) (hr : ∀ D, R (.isl 1 none (ts.map rS) .no) D) : RetP P G [.t a] 3 R e S [] := by
  refine ret_one (b := some b) (v := .isl 1 none (ts.map rS) .no) ?_ (hr _)
  have e1 : Nat.ble (Nat.add 0 ts.length) (lenN rows) = true := by rw [bleN, lenN_eq, decide_eq_true_eq]; show 0 + ts.length ≤ _; omega
  have e2 : takeN ts.length (dropN 0 rows) = ts.map rS := by rw [takeN_eq, dropN_eq]; exact h4
  simp only [fzH, h1, h2, e1, e2]
theorem f24 (ht : TabOk P gl tab.get) (hs : SortSOk P gl) (h : NHier) (c : Str) (hl : h.length ≤ 900) : Val P gl 24 [.agg (eHr h), .str c] fun d => ∃ l : List Str, d = .isl 1 none (l.map rS) .no ∧ (∀ x, x ∈ l ↔ subP h c x) ∧ l.length ≤ h.length := by
  refine Val.of_wp gl_ok ht (df := d24) rfl (cl_cons (.agg _ (cl_eHr h)) (cl_cons (.str _) cl_nil)) (fun d hd => by obtain ⟨l', rfl, _⟩ := hd; exact cl_isl cl_rS ..) ?_
  simp only [d24, go_sem, wp_sq, reduceIte, Nat.reduceEqDiff, Nat.reduceAdd, Nat.reduceBEq, reduceCtorEq, s0nx]
  refine ex_callD (f48 ht h (by omega) _) ?_
  rintro _ D ⟨ps, rfl, hmk, hmS, ho, hlt⟩
  have hlt : 0 < D.nx := hlt
  have hmS : D.h 0 = some (.map (ps.map encE)) := hmS
  simp only [go_sem, wp_sq, reduceIte, Nat.reduceEqDiff, Nat.reduceAdd, Nat.reduceBEq, reduceCtorEq]
  refine wp_lpE [5, 8, 9, 10, 16, 17, 18, 19, 20, 21, 22, 23, 24, 25, 26, 27, 28, 29, 30, 31, 32, 33, 34, 35, 36] (fun n e S => ∃ i : Nat, n = h.length - i ∧ i ≤ h.length ∧ e 16 = .int .i64 i ∧ Old D S ∧ ∃ l : List Str, MemS D.nx S (e 5) l ∧ (∀ x, x ∈ l ↔ ∃ y, y ∈ h.take i ∧ y.name = x ∧ isSub h x c = true) ∧ l.length ≤ i) h.length ⟨0, rfl, Nat.zero_le _, rfl, Old.refl D, [], MemS.nil, by simp, Nat.le_refl _⟩ ?_
  rintro n e S ⟨i, hn, hi, hx, hold, l, hM, hI, hll⟩ hf
  have hs2 : e 2 = .iptr (eHr h) 0 := hf 2 rfl
  have hs3 : e 3 = .iptr [.str c] 0 := hf 3 rfl
  have hs6 : e 6 = .map 0 := hf 6 rfl
  have hs14 : e 14 = .isl 4 none (h.map eCl) .no := hf 14 rfl
  have hs15 : e 15 = .int .i64 h.length := hf 15 rfl
  have hw := wrap_succ (i := i) (by omega)
  by_cases h1 : i < h.length
  · have hcl := (chain_ok (h := h) (c := h[i].name)).len
    simp only [go_sem, wp_sq, reduceIte, Nat.reduceEqDiff, Nat.reduceAdd, Nat.reduceBEq, reduceCtorEq, hs2, hs3, hs6, hs14, hs15, hx, hw, h1]
    refine ⟨_, _, _, rfl, put_same _ _ _, rfl, rfl, rfl, ?_⟩
    simp only [go_sem, wp_sq, reduceIte, Nat.reduceEqDiff, Nat.reduceAdd, Nat.reduceBEq, reduceCtorEq, hs2, hs3, hs6, hs14, hs15, hx, hw, h1]
    have hold1 : Old D (DS.put (DS.put ⟨S.h, S.nx + 1⟩ S.nx (some (.cells 4 [[.str [], .str [], .isl 2 (some true) [] .ex, .isl 4 (some true) [] .ex]]))) S.nx none) := ((hold.bump 1).put hold.1 _).put hold.1 _
    have hM1 := hM.al (m := S.nx + 1) (o := some (.cells 4 [[.str [], .str [], .isl 2 (some true) [] .ex, .isl 4 (some true) [] .ex]])) (o2 := none) (Nat.le_succ _)
    refine ex_callP (f49 ht h (by omega) h[i].name _ 0 ps hmk (Nat.lt_of_lt_of_le hlt (hold1.up (Nat.le_refl _)).1) ((hold1.2 0 hlt).trans hmS)) ?_
    rintro _ mm rfl hmm
    simp only [go_sem, wp_sq, reduceIte, Nat.reduceEqDiff, Nat.reduceAdd, Nat.reduceBEq, reduceCtorEq, hs2, hs3, hs6, hs14, hs15, hx, hw, h1]
    refine ex_call (f50 ht h c (ixL h (chainF h h[i].name).1) (by simp [ixL]; omega) ix_lt) ?_
    rintro _ ⟨b, rfl, hb⟩
    rw [ix_name] at hb
    simp only [go_sem, wp_sq, reduceIte, Nat.reduceEqDiff, Nat.reduceAdd, Nat.reduceBEq, reduceCtorEq, hs2, hs3, hs6, hs14, hs15, hx, hw, h1]
    have hold2 := hold1.up (m := mm) hmm
    have hM2 := hM1.up (m := mm) hmm
    refine ifP_b (fun hb2 => ?_) (fun hb2 => ?_)
    · simp only [go_sem, wp_sq, reduceIte, Nat.reduceEqDiff, Nat.reduceAdd, Nat.reduceBEq, reduceCtorEq, hs2, hs3, hs6, hs14, hs15, hx, hw, h1]
      refine ex_memS (ss := l) hM1 hold2.1 hmm (by omega) (fun v ps2 hB hB2 => ?_)
      try simp only [go_sem, wp_sq, reduceIte, Nat.reduceEqDiff, Nat.reduceAdd, Nat.reduceBEq, reduceCtorEq, hs2, hs3, hs6, hs14, hs15, hx, hw, h1]
      refine ⟨_, by omega, rfl, (by repeat' first | exact hf | exact rfl | exact Fr0.refl _ _ | apply Fr0.upd | exact hf2 | refine Fr0.sub hf2 rfl ?_ | refine Fr0.sub hf rfl ?_), i + 1, rfl, by omega, rfl, ?_, l ++ [h[i].name], hB _ (Nat.lt_succ_self _), fun x => ?_, by simp; omega⟩
      · exact ⟨Nat.le_succ_of_le hold2.1, fun b hb => (hB2 b hb).trans (hold2.2 b hb)⟩
      · rw [List.mem_append, List.mem_singleton, hI, List.take_succ_eq_append_getElem h1]
        simp only [List.mem_append, List.mem_singleton]
        constructor
        · rintro (⟨y, g1, g2, g3⟩ | rfl)
          · exact ⟨y, .inl g1, g2, g3⟩
          · exact ⟨_, .inr rfl, rfl, hb.1 hb2⟩
        · rintro ⟨y, g1 | rfl, g2, g3⟩
          · exact .inl ⟨y, g1, g2, g3⟩
          · exact .inr g2.symm
    · simp only [go_sem, wp_sq, reduceIte, Nat.reduceEqDiff, Nat.reduceAdd, Nat.reduceBEq, reduceCtorEq, hs2, hs3, hs6, hs14, hs15, hx, hw, h1]
      refine ⟨_, by omega, rfl, (by repeat' first | exact hf | exact rfl | exact Fr0.refl _ _ | apply Fr0.upd | exact hf2 | refine Fr0.sub hf2 rfl ?_ | refine Fr0.sub hf rfl ?_), i + 1, rfl, by omega, rfl, hold2, l, hM2, fun x => ?_, by omega⟩
      rw [hI, List.take_succ_eq_append_getElem h1]
      simp only [List.mem_append, List.mem_singleton]
      constructor
      · rintro ⟨y, g1, g2, g3⟩
        exact ⟨y, .inl g1, g2, g3⟩
      · rintro ⟨y, g1 | rfl, g2, g3⟩
        · exact ⟨y, g1, g2, g3⟩
        · rw [← g2] at g3
          rw [hb.2 g3] at hb2
          cases hb2
  · rw [List.take_of_length_le (by omega)] at hI
    simp only [go_sem, wp_sq, reduceIte, Nat.reduceEqDiff, Nat.reduceAdd, Nat.reduceBEq, reduceCtorEq, hs2, hs3, hs6, hs14, hs15, hx, hw, h1]
    have hfin : ∀ (ts : List Str), (∀ x, x ∈ ts ↔ x ∈ l) → ts.length ≤ l.length → ∃ l' : List Str, DV.isl 1 none (ts.map rS) .no = .isl 1 none (l'.map rS) .no ∧ (∀ x, x ∈ l' ↔ subP h c x) ∧ l'.length ≤ h.length := fun ts h1 h2 => ⟨ts, rfl, fun x => by rw [h1, hI]; exact Iff.rfl, by omega⟩
    rcases hM with ⟨rfl, h5⟩ | ⟨hne, b, hb1, hb2, h5, hb3⟩
    · simp only [h5]
      refine ex_callD (hs.str0 _) ?_
      rintro _ D1 ⟨rfl, rfl⟩
      simp only [go_sem, wp_sq, reduceIte, Nat.reduceEqDiff, Nat.reduceAdd, Nat.reduceBEq, reduceCtorEq, h5]
      refine ex_callD (f53n ht _) ?_
      rintro _ D2 rfl
      simp only [go_sem, wp_sq, reduceIte, Nat.reduceEqDiff, Nat.reduceAdd, Nat.reduceBEq, reduceCtorEq]
      refine ret_one (b := none) (v := .isl 1 none [] .no) rfl ?_
      exact hfin [] (fun _ => Iff.rfl) (Nat.le_refl _)
    · have hpos : 0 < l.length := List.length_pos_iff.2 hne
      simp only [h5]
      refine ex_callD (hs.str _ b l none hb3 hpos (by omega)) ?_
      rintro _ D1 ⟨rfl, ts, hp, rfl⟩
      simp only [go_sem, wp_sq, reduceIte, Nat.reduceEqDiff, Nat.reduceAdd, Nat.reduceBEq, reduceCtorEq, h5]
      have hpl := hp.length_eq
      rw [← hpl]
      refine ex_callD (f53 ht _ b ts (put_same _ _ _) (by omega) (by omega)) ?_
      rintro _ D2 ⟨us, rows, rfl, g1, g2, g3, g4, g5⟩
      simp only [go_sem, wp_sq, reduceIte, Nat.reduceEqDiff, Nat.reduceAdd, Nat.reduceBEq, reduceCtorEq]
      exact ret_mem rfl g1 g2 g3 fun _ => hfin us (fun x => by rw [g4, hp.mem_iff]) (by omega)
end Go.Proofs.YtfmicbbflpkdgaaGreatDoor.D
