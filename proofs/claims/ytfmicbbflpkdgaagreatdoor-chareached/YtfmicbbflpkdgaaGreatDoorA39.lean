/-
  Contracts: part 34: the graph of the functions (the reference's).
-/
import Derived.Test.YtfmicbbflpkdgaaGreatDoorA38
import Derived.Test.YtfmicbbflpkdgaaGreatDoorA33
set_option linter.unusedVariables false
set_option linter.unusedSimpArgs false
namespace Go.Proofs.YtfmicbbflpkdgaaGreatDoor.D
variable {P : Program} {G : List (List DV)} {S : DS}
theorem AppL.keep {lo k : Nat} {S S' : DS} {v : DV} {rows : List (List DV)} (h : AppL lo S v k rows) (hn : S.nx ≤ S'.nx) (hh : ∀ b, lo ≤ b → b < S.nx → S'.h b = S.h b) : AppL lo S' v k rows := by
  obtain ⟨nf, tl, h1, h3⟩ := h
  refine ⟨nf, tl, h1, ?_⟩
  rcases h3 with h3 | ⟨t, g1, h4, h5, h6⟩
  · exact .inl h3
  · exact .inr ⟨t, g1, h4, Nat.lt_of_lt_of_le h5 hn, by rw [hh _ h4 h5]; exact h6⟩
theorem row_pw {a : Nat} {l : List Nat} (h : l.Pairwise (· < ·)) : (l.map fun g => (a, g)).Pairwise ltE :=
  List.pairwise_map.2 (h.imp fun {x y} h => .inr ⟨rfl, h⟩)
theorem mark_len {bs : List Bool} : (markL bs).length ≤ bs.length := by
  refine Nat.le_trans (List.length_filter_le _ _) ?_
  simp
theorem f17 (ht : TabOk P gl tab.get) (u : NUnit) (cs : List NCall) (hcs : cs.length ≤ 1000) (hn0 : u.funcs.length ≤ 20) (S : DS) : DCalls P gl 17 [.agg (eUn u), .isl 3 none (cs.map eC) .no] S fun d D => ∃ nf tl E, d = .agg [.int .i64 (u.funcs.length : Nat), .isl 2 nf (E.map rE) tl] ∧ EOk u.funcs.length cs E ∧ Old S D ∧ E.length ≤ 400 := by
  refine DCalls.of_wp ht.mixed (ht.tab 17 d17 rfl) ?_
  have hne : S.nx ≠ S.nx + 1 := by omega
  have hne' : S.nx + 1 ≠ S.nx := by omega
  simp only [d17, go_sem, wp_sq, reduceIte, Nat.reduceEqDiff, Nat.reduceAdd, Nat.reduceBEq, reduceCtorEq, dbuildG, ds_put, put_same, bleN, Nat.le_refl, allSc, setN, putN]
  refine wp_lpE [6, 7, 8, 9, 10, 15, 16, 17, 18, 19, 20, 21, 22, 23, 24, 25, 26, 27, 28, 29, 30, 31, 32, 33, 34, 35, 36, 37, 38, 39, 40, 41, 42, 43, 44, 45, 46, 47, 48, 49, 50, 51, 52, 53, 54, 55, 56, 57, 58, 59, 60, 61, 62, 63, 64, 65, 66, 67, 68, 69, 70] (fun n e S1 => ∃ a : Nat, n = u.funcs.length - a ∧ a ≤ u.funcs.length ∧ e 6 = .int .i64 a ∧ Old S S1 ∧ S.nx + 2 ≤ S1.nx ∧ S1.h S.nx = some (.cells 2 [[.int .i64 0, .isl 2 (some true) [] .ex]]) ∧ ∃ (v : DV) (es : List NEd), S1.h (S.nx + 1) = some (.cells 2 [[.int .i64 (u.funcs.length : Nat), v]]) ∧ AppL (S.nx + 2) S1 v 2 (es.map rE) ∧ es.Pairwise ltE ∧ (∀ x y, (x, y) ∈ es ↔ x < a ∧ edgeOf u.funcs.length cs x y) ∧ es.length ≤ a * 20) u.funcs.length ?_ ?_
  · exact ⟨0, rfl, Nat.zero_le _, rfl, ⟨Nat.le_add_right _ _, fun b hb => ((put_ne _ _ (by omega)).trans (put_ne _ _ (by omega))).trans (put_ne _ _ (by omega))⟩, Nat.le_refl _, ((put_ne _ _ hne).trans (put_ne _ _ hne)).trans (put_same _ _ _), _, [], put_same _ _ _, AppL.nil, List.Pairwise.nil, fun x y => ⟨fun h => by simp at h, fun ⟨h, _⟩ => absurd h (Nat.not_lt_zero _)⟩, Nat.zero_le _⟩
  rintro n e S1 ⟨a, hn, ha, hx, hold, hnx, hS0, v, es, hS1, hA, hpw, hI, hel⟩ hf
  have hs1 : e 1 = .isl 3 none (cs.map eC) .no := hf 1 rfl
  have hs2 : e 2 = .iptr (eUn u) 0 := hf 2 rfl
  have hs4 : e 4 = .ptr S.nx 0 0 := hf 4 rfl
  have hs5 : e 5 = .ptr (S.nx + 1) 0 0 := hf 5 rfl
  have hw := wrap_succ (i := a) (by omega)
  by_cases h1 : a < u.funcs.length
  · have e1 : Nat.ble u.funcs.length u.funcs.length = true := by rw [bleN]; simp
    have e2 : Nat.ble u.funcs.length 1048576 = true := by rw [bleN]; simp; omega
    have e3 : ∀ m, S.nx + 2 ≤ m → S.nx + 1 ≠ m ∧ S.nx ≠ m := fun m hm => ⟨by omega, by omega⟩
    simp only [go_sem, wp_sq, reduceIte, Nat.reduceEqDiff, Nat.reduceAdd, Nat.reduceBEq, reduceCtorEq, hs1, hs2, hs4, hs5, hx, hw, h1, hS1, dnat_cast, e1, e2, rep_fl]
    refine wp_lpE [8, 24, 25, 26, 27, 28, 29, 30, 31, 32, 33, 34, 35, 36, 37, 38, 39, 40, 41, 42, 43, 44, 45, 46, 47, 48, 49, 50, 51] (fun n e2 S2 => ∃ (i : Nat) (cur : List Bool), n = cs.length - i ∧ i ≤ cs.length ∧ e2 8 = .int .i64 i ∧ S2.h S1.nx = some (.cells 1 (cur.map rB)) ∧ cur.length = u.funcs.length ∧ (∀ g : Nat, cur[g]? = some true ↔ edgeOf u.funcs.length (cs.take i) a g) ∧ S1.nx + 1 ≤ S2.nx ∧ ∀ b, b < S1.nx → S2.h b = S1.h b) cs.length ?_ ?_
    · refine ⟨0, List.replicate u.funcs.length false, rfl, Nat.zero_le _, rfl, put_same _ _ _, List.length_replicate, fun g => ⟨fun h => ?_, fun ⟨c, h, _⟩ => by simp at h⟩, Nat.le_refl _, fun b hb => put_ne _ _ (by omega)⟩
      have := List.mem_of_getElem? h
      rw [List.mem_replicate] at this
      exact absurd this.2 (by simp)
    rintro n2 e2 S2 ⟨i, cur, hn2, hi, hy, hS2, hcl, hcur, hnx2, hfr⟩ hf2
    have hs7 : e2 7 = .sl S1.nx 0 u.funcs.length (some u.funcs.length) := hf2 7 rfl
    have hs6 : e2 6 = .int .i64 (a : Int) := (show e2 6 = e 6 from hf2 6 rfl).trans hx
    have ht1 := (show e2 1 = e 1 from hf2 1 rfl).trans hs1
    have ht2 := (show e2 2 = e 2 from hf2 2 rfl).trans hs2
    have ht4 := (show e2 4 = e 4 from hf2 4 rfl).trans hs4
    have ht5 := (show e2 5 = e 5 from hf2 5 rfl).trans hs5
    have hw2 := wrap_succ (i := i) (by omega)
    by_cases h2 : i < cs.length
    · have htake : cs.take (i + 1) = cs.take i ++ [cs[i]] := List.take_succ_eq_append_getElem h2
      simp only [go_sem, wp_sq, reduceIte, Nat.reduceEqDiff, Nat.reduceAdd, Nat.reduceBEq, reduceCtorEq, ht1, ht2, hy, hw2, h2]
      refine wp_rdH ?_
      simp only [go_sem, wp_sq, reduceIte, Nat.reduceEqDiff, Nat.reduceAdd, Nat.reduceBEq, reduceCtorEq, ht1, ht2, ht4, ht5, hs6, hs7, hy, hw2, h2]
      refine ex_call (f40 ht u cs[i]) ?_
      rintro _ rfl
      cases hr : rightB u.funcs.length cs[i] with
      | false =>
        simp only [go_sem, wp_sq, reduceIte, Nat.reduceEqDiff, Nat.reduceAdd, Nat.reduceBEq, reduceCtorEq, ht1, ht2, ht4, ht5, hs6, hs7, hy, hw2, h2]
        refine ⟨cs.length - (i + 1), by omega, rfl, (by repeat' first | exact hf | exact rfl | exact Fr0.refl _ _ | apply Fr0.upd | exact hf2 | refine Fr0.sub hf2 rfl ?_ | refine Fr0.sub hf rfl ?_), i + 1, cur, rfl, by omega, rfl, hS2, hcl, fun g => ?_, hnx2, hfr⟩
        rw [htake, edge_snoc, hcur]
        refine ⟨.inl, fun g => g.elim id fun ⟨h1, h2, h3, h4⟩ => ?_⟩
        rw [right_iff.2 ⟨_, _, h1, h2, h3, h4⟩] at hr
        cases hr
      | true =>
        obtain ⟨a', g, haf, hgc, hla, hlg⟩ := right_iff.1 hr
        have hia := didx_sl (b := S1.nx) (j := 0) (k := 1) (n := u.funcs.length) (c := some u.funcs.length) (kd := .i64) hlg
        have hck := slck_sl (i := 0) (n := u.funcs.length) (c := some u.funcs.length) hS2
        have hng := nth_B (l := cur) (i := g) (by omega)
        have hset := setN_B (l := cur) (i := g)
        by_cases haa : a' = a
        · subst haa
          simp only [go_sem, wp_sq, reduceIte, Nat.reduceEqDiff, Nat.reduceAdd, Nat.reduceBEq, reduceCtorEq, ht1, ht2, ht4, ht5, hs6, hs7, hy, hw2, h2, haf, hgc, hck, hia, hS2, hng, bleN, allSc, putN, setN, hset, Nat.le_refl]
          refine ⟨cs.length - (i + 1), by omega, rfl, (by repeat' first | exact hf | exact rfl | exact Fr0.refl _ _ | apply Fr0.upd | exact hf2 | refine Fr0.sub hf2 rfl ?_ | refine Fr0.sub hf rfl ?_), i + 1, cur.set g true, rfl, by omega, rfl, put_same _ _ _, (List.length_set ..).trans hcl, fun x => ?_, hnx2, fun b hb => (put_ne _ _ (by omega)).trans (hfr b hb)⟩
          rw [htake, edge_snoc, ← hcur, List.getElem?_set]
          by_cases hxg : g = x
          · subst hxg
            simp only [if_true, hcl, hlg]
            exact ⟨fun _ => .inr ⟨haf, hgc, hla, trivial⟩, fun _ => trivial⟩
          · rw [if_neg hxg]
            exact ⟨.inl, fun h => h.elim id fun ⟨_, h2, _⟩ => absurd (Int.ofNat_inj.1 (hgc.symm.trans h2)) hxg⟩
        · simp only [go_sem, wp_sq, reduceIte, Nat.reduceEqDiff, Nat.reduceAdd, Nat.reduceBEq, reduceCtorEq, ht1, ht2, ht4, ht5, hs6, hs7, hy, hw2, h2, haf, hgc, haa]
          refine ⟨cs.length - (i + 1), by omega, rfl, (by repeat' first | exact hf | exact rfl | exact Fr0.refl _ _ | apply Fr0.upd | exact hf2 | refine Fr0.sub hf2 rfl ?_ | refine Fr0.sub hf rfl ?_), i + 1, cur, rfl, by omega, rfl, hS2, hcl, fun g => ?_, hnx2, hfr⟩
          rw [htake, edge_snoc, hcur]
          exact ⟨.inl, fun g => g.elim id fun ⟨h1, h2, h3, h4⟩ => absurd (Int.ofNat_inj.1 (haf.symm.trans h1)) haa⟩
    · rw [List.take_of_length_le (by omega)] at hcur
      simp only [go_sem, wp_sq, reduceIte, Nat.reduceEqDiff, Nat.reduceAdd, Nat.reduceBEq, reduceCtorEq, ht1, ht2, hy, hw2, h2, hs7]
      have h41 := f41 (P := P) ht S2 S1.nx cur (some u.funcs.length) (by omega) hS2 (by omega)
      rw [hcl] at h41
      refine ex_callP h41 ?_
      rintro _ m rfl hm
      have hm : S2.nx ≤ m := hm
      have hm1 : S.nx ≤ m := by have := hold.1; omega
      have hm2 : S.nx + 2 ≤ m := by omega
      have hm3 : S1.nx ≤ m := by omega
      have hll : (markL cur).length ≤ u.funcs.length := hcl ▸ mark_len
      simp only [go_sem, wp_sq, reduceIte, Nat.reduceEqDiff, Nat.reduceAdd, Nat.reduceBEq, reduceCtorEq]
      refine wp_lpE [10, 54, 55, 56, 57, 58, 59, 60, 61, 62, 63, 64, 65, 66, 67, 68, 69, 70] (fun n e3 S3 => ∃ k : Nat, n = (markL cur).length - k ∧ k ≤ (markL cur).length ∧ e3 10 = .int .i64 k ∧ Old S S3 ∧ S.nx + 2 ≤ S3.nx ∧ S3.h S.nx = some (.cells 2 [[.int .i64 0, .isl 2 (some true) [] .ex]]) ∧ ∃ v : DV, S3.h (S.nx + 1) = some (.cells 2 [[.int .i64 (u.funcs.length : Nat), v]]) ∧ AppL (S.nx + 2) S3 v 2 ((es ++ ((markL cur).take k).map fun g => (a, g)).map rE)) (markL cur).length ?_ ?_
      · refine ⟨0, rfl, Nat.zero_le _, rfl, ⟨hm1, fun b hb => (hfr b (by omega)).trans (hold.2 b hb)⟩, hm2, (hfr _ (by omega)).trans hS0, v, (hfr _ (by omega)).trans hS1, ?_⟩
        simpa using hA.keep (S' := ⟨S2.h, m⟩) hm3 fun b _ hb => hfr b hb
      rintro n3 e3 S3 ⟨k, hn3, hk, hz, hold3, hnx3, hS30, v3, hS31, hA3⟩ hf3
      have hv6 : e3 6 = .int .i64 (a : Int) := (show e3 6 = e2 6 from hf3 6 rfl).trans hs6
      have hv9 : e3 9 = .isl 1 none ((markL cur).map rN) .no := hf3 9 rfl
      have hv1 := (show e3 1 = e2 1 from hf3 1 rfl).trans ht1
      have hv2 := (show e3 2 = e2 2 from hf3 2 rfl).trans ht2
      have hv4 := (show e3 4 = e2 4 from hf3 4 rfl).trans ht4
      have hv5 := (show e3 5 = e2 5 from hf3 5 rfl).trans ht5
      have hw3 := wrap_succ (i := k) (by omega)
      by_cases h3 : k < (markL cur).length
      · simp only [go_sem, wp_sq, reduceIte, Nat.reduceEqDiff, Nat.reduceAdd, Nat.reduceBEq, reduceCtorEq, hv6, hv9, hz, hw3, h3]
        refine wp_rdH ?_
        simp only [go_sem, wp_sq, reduceIte, Nat.reduceEqDiff, Nat.reduceAdd, Nat.reduceBEq, reduceCtorEq, hv5, hv6, hv9, hz, hw3, h3, hS31, rN, dbuild2]
        refine ex_appL hA3 hnx3 rfl (by simp) ?_ (Nat.le_of_ble_eq_true rfl) (Nat.le_refl _) (fun v4 ps hB hB2 => ?_)
        · rw [List.length_map, List.length_append, List.length_map]
          have := List.length_take_le k (markL cur)
          omega
        have hB1 := hB _ (Nat.lt_succ_self _)
        have hfr1 : ∀ m, (DS.puts ⟨S3.h, m⟩ ps).h (S.nx + 1) = some (.cells 2 [[.int .i64 (u.funcs.length : Nat), v3]]) := fun m => (hB2 _ (by omega)).trans hS31
        have hfr0 := (hB2 S.nx (by omega)).trans hS30
        have hv4' : cellsOf v4 = [v4] ∧ allSc [v4] = true := by
          obtain ⟨nf, tl, rfl, _⟩ := hB1
          exact ⟨rfl, rfl⟩
        simp only [cellsOf] at hv4'
        simp only [go_sem, wp_sq, reduceIte, Nat.reduceEqDiff, Nat.reduceAdd, Nat.reduceBEq, reduceCtorEq, hv5, hv6, hv9, hz, hw3, h3, hv4'.1, hv4'.2, hfr1, bleN, Nat.le_refl, setN, putN]
        have htk : (markL cur).take (k + 1) = (markL cur).take k ++ [(markL cur)[k]] := List.take_succ_eq_append_getElem h3
        refine ⟨(markL cur).length - (k + 1), by omega, rfl, (by repeat' first | exact hf3 | exact rfl | apply Fr0.upd), k + 1, rfl, by omega, rfl, ⟨by have := hold3.1; exact Nat.le_succ_of_le this, fun b hb => (put_ne _ _ (by omega)).trans ((hB2 _ (by omega)).trans (hold3.2 b hb))⟩, Nat.le_succ_of_le hnx3, (put_ne _ _ hne).trans hfr0, v4, put_same _ _ _, ?_⟩
        have hl : (es ++ ((markL cur).take (k + 1)).map fun g => (a, g)).map rE = ((es ++ ((markL cur).take k).map fun g => (a, g)).map rE) ++ [[.int .i64 (a : Int), .int .i64 ((markL cur)[k] : Nat)]] := by
          rw [htk]
          simp only [List.map_append, List.map_cons, List.map_nil, List.append_assoc, rE]
        rw [hl]
        exact hB1.keep (Nat.le_of_eq (puts_nx ..)) fun b hb1 hb2 => put_ne _ _ (by omega)
      · simp only [go_sem, wp_sq, reduceIte, Nat.reduceEqDiff, Nat.reduceAdd, Nat.reduceBEq, reduceCtorEq, hv6, hv9, hz, hw3, h3]
        rw [List.take_of_length_le (by omega)] at hA3
        refine ⟨u.funcs.length - (a + 1), by omega, rfl, (by repeat' first | exact hf | exact rfl | apply Fr0.upd | refine Fr0.sub hf3 rfl ?_ | refine Fr0.sub hf2 rfl ?_ | refine Fr0.sub hf rfl ?_), a + 1, rfl, by omega, (by simp only [upd_at, reduceIte, Nat.reduceEqDiff, Nat.add_eq, Nat.reduceAdd, Nat.add_zero, Nat.succ_eq_add_one, Nat.reduceBEq, Nat.beq_eq_true_eq, Exits.set_at, envA_at, nth, List.length_cons, List.length_nil, decide_true, Nat.zero_add, hw]), hold3, hnx3, hS30, v3, _, hS31, hA3, List.pairwise_append.2 ⟨hpw, row_pw mark_sorted, fun x hx y hy => ?_⟩, fun x y => ?_, ?_⟩
        · obtain ⟨g, _, rfl⟩ := List.mem_map.1 hy
          exact .inl ((hI x.1 x.2).1 hx).1
        · rw [List.mem_append, hI, List.mem_map]
          constructor
          · rintro (⟨h4, h5⟩ | ⟨g, h4, h5⟩)
            · exact ⟨by omega, h5⟩
            · cases h5
              exact ⟨by omega, (hcur y).1 (mark_mem.1 h4)⟩
          · rintro ⟨h4, h5⟩
            by_cases h6 : x = a
            · subst h6
              exact .inr ⟨y, mark_mem.2 ((hcur y).2 h5), rfl⟩
            · exact .inl ⟨by omega, h5⟩
        · rw [List.length_append, List.length_map]
          omega
  · obtain ⟨nf, tl, rfl, htl⟩ := hA
    simp only [go_sem, wp_sq, reduceIte, Nat.reduceEqDiff, Nat.reduceAdd, Nat.reduceBEq, reduceCtorEq, hs1, hs2, hs4, hs5, hx, hw, h1, hS1, hS0, bleN, Nat.le_refl, allSc, setN, putN, ds_put, put_same]
    refine ret_c (b := S.nx) (k := 2) (by simp only [upd_at, reduceIte, Nat.reduceEqDiff, Nat.add_eq, Nat.reduceAdd, Nat.add_zero, Nat.succ_eq_add_one, Nat.reduceBEq, Nat.beq_eq_true_eq, Exits.set_at, envA_at, nth, List.length_cons, List.length_nil, decide_true, Nat.zero_add, hs4]) (put_same _ _ _) rfl rfl ?_
    exact ⟨nf, tl, es, rfl, ⟨hpw, fun x y => (hI x y).trans ⟨fun h => h.2, fun h => ⟨by obtain ⟨_, _, _, _, h, _⟩ := h; omega, h⟩⟩⟩, hold.put (Nat.le_refl _) _, by omega⟩
end Go.Proofs.YtfmicbbflpkdgaaGreatDoor.D
/-
  The law ChaReached, in the D machine's words.
-/
namespace Go.Proofs.YtfmicbbflpkdgaaGreatDoor.D
variable {P : Program}
theorem f4 (hw : World0 P) (hse : SortEOk P gl) (u : NUnit) (hu : UW u) (cs : List NCall) (hcl0 : cs.length < 4611686018427387904) : Val P gl 4 [.agg (eUn u), .isl 3 none (cs.map eC) .no] fun d => d = .bool true := by
  have ht := hw.tab
  refine Val.of_wp gl_ok ht (df := d4) rfl (cl_cons (.agg _ (cl_eUn u)) (cl_cons (.isl_no fun r hr => ?_) cl_nil)) (fun d hd => by rw [hd]; exact .bool _) ?_
  · obtain ⟨c, _, rfl⟩ := List.mem_map.1 hr
    exact cl_eC c
  simp only [d4, go_sem, wp_sq, reduceIte, Nat.reduceEqDiff, Nat.reduceAdd, Nat.reduceBEq, reduceCtorEq]
  refine ex_call (f8 ht u hu 150 (by decide)) ?_
  rintro _ ⟨b, rfl, hb⟩
  cases b with
  | false =>
    simp only [go_sem, wp_sq, reduceIte, Nat.reduceEqDiff, Nat.reduceAdd, Nat.reduceBEq, reduceCtorEq]
    refine ex_call (f9 hw) ?_
    rintro _ rfl
    simp only [go_sem, wp_sq, reduceIte, Nat.reduceEqDiff, Nat.reduceAdd, Nat.reduceBEq, reduceCtorEq]
    exact ret_one (b := none) rfl rfl
  | true =>
  by_cases h60 : 60 < cs.length
  · have h60' : (60 : Int) < (cs.length : Int) := by omega
    simp only [go_sem, wp_sq, reduceIte, Nat.reduceEqDiff, Nat.reduceAdd, Nat.reduceBEq, reduceCtorEq, h60, h60']
    refine ex_call (f9 hw) ?_
    rintro _ rfl
    simp only [go_sem, wp_sq, reduceIte, Nat.reduceEqDiff, Nat.reduceAdd, Nat.reduceBEq, reduceCtorEq]
    exact ret_one (b := none) rfl rfl
  have h60' : ¬ (60 : Int) < (cs.length : Int) := by omega
  obtain ⟨hF, hM⟩ := hb rfl
  have hn : u.funcs.length ≤ 20 := hF.fl
  simp only [go_sem, wp_sq, reduceIte, Nat.reduceEqDiff, Nat.reduceAdd, Nat.reduceBEq, reduceCtorEq, h60, h60']
  refine wp_rdH ?_
  simp only [go_sem, wp_sq, reduceIte, Nat.reduceEqDiff, Nat.reduceAdd, Nat.reduceBEq, reduceCtorEq, rech_g, rechB]
  refine ex_callD (f16 ht hse u cs (by omega) _) ?_
  rintro _ D ⟨v, E, rfl, hE, hEO⟩
  simp only [go_sem, wp_sq, reduceIte, Nat.reduceEqDiff, Nat.reduceAdd, Nat.reduceBEq, reduceCtorEq, rech_g, rechB]
  refine ex_callD (f17 ht u cs (by omega) hn _) ?_
  rintro _ D2 ⟨nf, tl, E2, rfl, hEO2, hold, hEl⟩
  obtain rfl := hEO.eq hEO2
  simp only [go_sem, wp_sq, reduceIte, Nat.reduceEqDiff, Nat.reduceAdd, Nat.reduceBEq, reduceCtorEq, rech_g, rechB]
  have hv : cellsOf v = [v] ∧ allSc [v] = true := by
    rcases hE with ⟨_, rfl⟩ | ⟨b, rows, _, _, rfl, _⟩ <;> exact ⟨rfl, rfl⟩
  have hvs : allSc [DV.int .i64 (u.funcs.length : Nat), v] = true := by
    rcases hE with ⟨_, rfl⟩ | ⟨b, rows, _, _, rfl, _⟩ <;> rfl
  have hn1 : S0.nx ≠ S0.nx + 1 := by omega
  have hn2 : S0.nx + 1 ≠ S0.nx := by omega
  let o0 : Option DO := some (.cells 2 [[.int .i64 0, .isl 2 (some true) [] .ex]])
  have hq0 : Heap.put (Heap.put D2.h S0.nx o0) (S0.nx + 1) o0 S0.nx = o0 := put_two hn1
  have hq1 : Heap.put (Heap.put (Heap.put D2.h S0.nx o0) (S0.nx + 1) o0) S0.nx none (S0.nx + 1) = o0 := put_two hn2
  refine ⟨S0.nx, 2, _, rfl, hq0, rfl, rfl, hvs, ?_⟩
  simp only [go_sem, wp_sq, reduceIte, Nat.reduceEqDiff, Nat.reduceAdd, Nat.reduceBEq, reduceCtorEq, rech_g, rechB]
  refine ⟨S0.nx + 1, 2, _, rfl, hq1, rfl, rfl, rfl, ?_⟩
  simp only [go_sem, wp_sq, reduceIte, Nat.reduceEqDiff, Nat.reduceAdd, Nat.reduceBEq, reduceCtorEq, rech_g, rechB]
  have hL : dLenP 1 v = some E.length := by
    rcases hE with ⟨rfl, rfl⟩ | ⟨b, rows, _, _, rfl, _⟩ <;> rfl
  have hIx : ∀ (i : Nat) (hi : i < E.length), ∃ b rows, S0.nx + 2 ≤ b ∧ v = .sl b 0 E.length none ∧ D2.h b = some (.cells 2 rows) ∧ nth rows i = some (rE E[i]) := fun i hi => by
    rcases hE with ⟨rfl, _⟩ | ⟨b, rows, hb1, hb2, h1, h2, h3, h4⟩
    · simp at hi
    · refine ⟨b, rows, hb1, h1, (hold.2 b hb2).trans h2, ?_⟩
      rw [nth_eq, ← List.getElem?_take_of_lt hi, h4, List.getElem?_map, List.getElem?_eq_getElem hi]
      rfl
  simp only [go_sem, wp_sq, reduceIte, Nat.reduceEqDiff, Nat.reduceAdd, Nat.reduceBEq, reduceCtorEq, hL]
  refine wp_lpE [4, 7, 40, 41, 42, 43, 44, 45, 46, 47, 48, 49, 50, 51, 52, 53, 54] (fun n e S1 => ∃ i : Nat, n = E.length - i ∧ i ≤ E.length ∧ e 40 = .int .i64 i ∧ ∀ b, S0.nx + 2 ≤ b → S1.h b = D2.h b) E.length ?_ ?_
  · exact ⟨0, rfl, Nat.zero_le _, rfl, fun b hb => (((put_ne _ _ (by omega)).trans (put_ne _ _ (by omega))).trans (put_ne _ _ (by omega))).trans (put_ne _ _ (by omega))⟩
  rintro n e S1 ⟨i, hn, hi, hx, hfr⟩ hf
  have hs1 : e 1 = .isl 3 none (cs.map eC) .no := hf 1 rfl
  have hs2 : e 2 = .iptr (eUn u) 0 := hf 2 rfl
  have hs5 : e 5 = .iptr [.int .i64 (u.funcs.length : Nat), v] 0 := hf 5 rfl
  have hs6 : e 6 = .iptr [.int .i64 (u.funcs.length : Nat), .isl 2 nf (E.map rE) tl] 0 := hf 6 rfl
  have hs39 : e 39 = .int .i64 E.length := hf 39 rfl
  have hwr := wrap_succ (i := i) (by omega)
  by_cases h1 : i < E.length
  · obtain ⟨b, rows, hb1, rfl, hb2, hb3⟩ := hIx i h1
    have hS1 := (hfr b hb1).trans hb2
    have hck := slck_sl (i := 0) (n := E.length) (c := none) hS1
    have hia := didx_sl (b := b) (j := 0) (k := 2) (c := none) (kd := .i64) h1
    simp only [go_sem, wp_sq, reduceIte, Nat.reduceEqDiff, Nat.reduceAdd, Nat.reduceBEq, reduceCtorEq, hs39, hx, h1]
    refine wp_rdH ?_
    simp only [go_sem, wp_sq, reduceIte, Nat.reduceEqDiff, Nat.reduceAdd, Nat.reduceBEq, reduceCtorEq, hs1, hs2, hs5, hs6, hx, hwr, h1, hck, hia, hS1, hb3, dpart_E, keq_E]
    simp only [go_sem, wp_sq, reduceIte, Nat.reduceEqDiff, Nat.reduceAdd, Nat.reduceBEq, reduceCtorEq, ngB, hx, hwr]
    exact ⟨_, by omega, rfl, (by repeat' first | exact hf | exact rfl | exact Fr0.refl _ _ | apply Fr0.upd | exact hf2 | refine Fr0.sub hf2 rfl ?_ | refine Fr0.sub hf rfl ?_), i + 1, rfl, by omega, rfl, hfr⟩
  · simp only [go_sem, wp_sq, reduceIte, Nat.reduceEqDiff, Nat.reduceAdd, Nat.reduceBEq, reduceCtorEq, hs39, hx, h1]
    refine wp_rdH ?_
    simp only [go_sem, wp_sq, reduceIte, Nat.reduceEqDiff, Nat.reduceAdd, Nat.reduceBEq, reduceCtorEq, rech_g, rechB]
    refine ex_call (f9 hw) ?_
    rintro _ rfl
    simp only [go_sem, wp_sq, reduceIte, Nat.reduceEqDiff, Nat.reduceAdd, Nat.reduceBEq, reduceCtorEq, hs1, hs2, rech_g, rechB]
    refine ex_call (f18 ht hw.sort u cs (by omega) (by omega) hM) ?_
    rintro _ ⟨l, rfl, hl⟩
    simp only [go_sem, wp_sq, reduceIte, Nat.reduceEqDiff, Nat.reduceAdd, Nat.reduceBEq, reduceCtorEq, hs1, hs2, rech_g, rechB]
    refine ex_call (f19 ht u cs (by omega) (by omega) hM) ?_
    rintro _ ⟨l2, rfl, hl2⟩
    obtain rfl := hl.eq hl2
    simp only [go_sem, wp_sq, reduceIte, Nat.reduceEqDiff, Nat.reduceAdd, Nat.reduceBEq, reduceCtorEq, hs1, hs2, rech_g, rechB]
    refine ex_call (f10 ht _ ?_) ?_
    · obtain ⟨hp, hg⟩ := hl
      obtain ⟨h2, h3⟩ := hM
      have hnd : l.Nodup := hp.imp fun h => Nat.ne_of_lt h
      have := nodup_len (m := List.range u.funcs.length) hnd fun x hx => List.mem_range.2 (by
        obtain ⟨m, hm, hr⟩ := (hg x).1 hx
        exact rch_lt (by omega) hr)
      simp only [List.length_range] at this
      omega
    rintro _ rfl
    simp only [go_sem, wp_sq, reduceIte, Nat.reduceEqDiff, Nat.reduceAdd, Nat.reduceBEq, reduceCtorEq, rech_g, rechB]
    exact ret_one (b := none) rfl rfl
end Go.Proofs.YtfmicbbflpkdgaaGreatDoor.D
