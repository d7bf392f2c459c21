/-
  The D machine, part N: the keys of a map, ascending (cha.numbers).
-/
import Derived.Test.YtfmicbbflpkdgaaGreatDoorA08z
import Derived.Test.YtfmicbbflpkdgaaGreatDoorA07
set_option linter.unusedVariables false
set_option linter.unusedSimpArgs false
namespace Go.Proofs.YtfmicbbflpkdgaaGreatDoor.D
open Go.RowKit
variable {P : Program} {G : List (List DV)} {S S' : DS}
def rowI (z : Int) : List DV := [.int .i64 z]
def sortZ (zs : List Int) : List Int := zs.mergeSort fun x y => decide (x ≤ y)
structure SortOk (P : Program) (G : List (List DV)) : Prop where
  int : ∀ (S : DS) (b : Nat) (zs : List Int) (c : Option Nat), S.h b = some (.cells 1 (zs.map rowI)) → 0 < zs.length → zs.length < 4611686018427387904 → DCalls P G 70 [.sl b 0 zs.length c] S fun d D => d = .tup [] ∧ D = S.put b (some (.cells 1 ((sortZ zs).map rowI)))
  int0 : ∀ (S : DS), DCalls P G 70 [.isl 1 (some true) [] .ex] S fun d D => d = .tup [] ∧ D = S
theorem sortZ_length (zs : List Int) : (sortZ zs).length = zs.length := List.length_mergeSort _
theorem sortZ_perm {zs ks : List Int} (h : zs.Perm ks) : sortZ zs = sortZ ks := by
  have tr : ∀ a b c : Int, decide (a ≤ b) = true → decide (b ≤ c) = true → decide (a ≤ c) = true := fun a b c h1 h2 => by simp at h1 h2 ⊢; omega
  have to : ∀ a b : Int, (decide (a ≤ b) || decide (b ≤ a)) = true := fun a b => by simp; omega
  refine List.Perm.eq_of_pairwise (le := fun a b : Int => a ≤ b) (fun a b _ _ h1 h2 => by omega) ?_ ?_ ?_
  · exact (List.pairwise_mergeSort tr to zs).imp (by intro a b h; simpa using h)
  · exact (List.pairwise_mergeSort tr to ks).imp (by intro a b h; simpa using h)
  · exact ((List.mergeSort_perm zs _).trans h).trans (List.mergeSort_perm ks _).symm
def OutI (n0 it : Nat) (S : DS) (v : DV) (zs : List Int) : Prop := (zs = [] ∧ v = .isl 1 (some true) [] .ex) ∨ (∃ b, n0 ≤ b ∧ b ≠ it ∧ zs ≠ [] ∧ v = .sl b 0 zs.length none ∧ S.h b = some (.cells 1 (zs.map rowI)))
def InvN (S0 : DS) (m it : Nat) (es : List (DV × DV)) (ks : List Int) : Nat → Post := fun n e S dd => dd = [] ∧ ∃ left cur zs, n = left.length ∧ S0.nx ≤ it ∧ it < S.nx ∧ left.Nodup ∧ (∀ i, i ∈ left → i < es.length) ∧ e 6 = .it it ∧ S.h it = some (.mit m es.length left cur) ∧
  (zs ++ left.map fun i => ks.getD i 0).Perm ks ∧ OutI S0.nx it S (e 3) zs ∧ Old S0 S ∧ S.nx = S0.nx + 1 + zs.length
theorem numbers_ok (ht : TabOk P G tab.get) (hs : SortOk P G) {m : Nat} {es : List (DV × DV)} {ks : List Int} (hm : S.h m = some (.map es)) (hk : es.map Prod.fst = ks.map fun z => .int .i64 z) (hlen : es.length ≤ 1048576) :
    DCalls P G 42 [.map m] S fun d D => d = .isl 1 none ((sortZ ks).map rowI) .no ∧ D = ⟨S.h, S.nx + 1 + es.length⟩ := by
  have hc := ht.tab 42 d42 rfl
  have hkl : ks.length = es.length := by
    have := congrArg List.length hk
    simpa using this.symm
  refine DCalls.of_dom (chk_body hc) fun hd => DCalls.forget (R := fun d D => d = .isl 1 none ((sortZ ks).map rowI) .no ∧ Old S D ∧ D.nx = S.nx + 1 + es.length) (DCalls.of_wp ht.mixed hc ?_) fun d D ⟨h1, h2, h3⟩ => ⟨⟨S.h, S.nx + 1 + es.length⟩, ⟨h1, rfl⟩, fun id o ho => ?_, by rw [h3]; exact Nat.le_refl _⟩
  · have hmlt : m < S.nx := by
      by_cases h : m < S.nx
      · exact h
      · rw [hd m (by omega)] at hm; cases hm
    simp only [d42, wp_sq, wp_rg, wp_cd, wp_bk, wp_sk, wp_ex, wp_rt, wpO_cons, wpO_nil, opx_o, opx_n, opx_g, opx_h, gOn_eq, gOff_eq, want, bq_true, bq_false, Op1, dop, ev, evs, evo, evc, evp, ex_some, some1_some, upd_at, puts_nil, puts_cons, put_nx, ex_bool, cellsOf, glob, reduceIte, Nat.reduceEqDiff, Nat.add_eq, Nat.reduceAdd, Nat.add_zero, Nat.succ_eq_add_one, Nat.reduceBEq, Nat.beq_eq_true_eq, Exits.set_at, envA_at, nth, List.length_cons, List.length_nil, decide_true, Nat.zero_add, ifP_true, ifP_false, ifP_not, eq_self, decide_false, not_true_eq_false, not_false_eq_true, Bool.not_true, Bool.not_false, true_implies, reduceCtorEq, false_implies, and_true, true_and, hm]
    refine wp_lp (InvN S m S.nx es ks) es.length ?_ ?_
    · refine ⟨rfl, List.range' 0 es.length, none, [], by simp, Nat.le_refl _, Nat.lt_succ_self _, List.nodup_range', fun i hi => by simpa using hi, by simp [upd], by simp [ds_put, put_same, lenN_eq, upto_eq], ?_, .inl ⟨rfl, by simp [upd]⟩, ⟨Nat.le_succ _, fun b hb => ?_⟩, rfl⟩
      · have : (List.range' 0 es.length).map (fun i => ks.getD i 0) = ks := by
          rw [← hkl]
          apply List.ext_getElem
          · simp
          · intro i h1 h2
            simp [h2]
        rw [this]
        exact List.Perm.refl _
      · rw [ds_put, put_ne _ _ (by omega)]
    · intro n e S1 dd hI
      obtain ⟨rfl, left, cur, zs, hn, hit, hlt, hnd, hle, he6, hS1, hperm, hout, hold, hnx⟩ := hI
      have hm1 : S1.h m = some (.map es) := by rw [hold.2 m hmlt]; exact hm
      simp only [wp_sq, wp_rg, wp_cd, wp_bk, wp_sk, wp_ex, wp_rt, wpO_cons, wpO_nil, opx_o, opx_n, opx_g, opx_h, gOn_eq, gOff_eq, want, bq_true, bq_false, Op1, dop, ev, evs, evo, evc, evp, ex_some, some1_some, upd_at, puts_nil, puts_cons, put_nx, ex_bool, cellsOf, glob, reduceIte, Nat.reduceEqDiff, Nat.add_eq, Nat.reduceAdd, Nat.add_zero, Nat.succ_eq_add_one, Nat.reduceBEq, Nat.beq_eq_true_eq, Exits.set_at, envA_at, nth, List.length_cons, List.length_nil, decide_true, Nat.zero_add, ifP_true, ifP_false, ifP_not, eq_self, decide_false, not_true_eq_false, not_false_eq_true, Bool.not_true, Bool.not_false, true_implies, reduceCtorEq, false_implies, and_true, true_and, he6]
      refine ⟨S.nx, m, es.length, left, cur, es, rfl, hS1, hm1, rfl, fun hl => ?_, fun i hi hl => ?_⟩
      · subst hl
        have hp : zs.Perm ks := by simpa using hperm
        have hs2 : sortZ zs = sortZ ks := sortZ_perm hp
        rcases hout with ⟨hz, h3⟩ | ⟨b, hb1, hb2, hz, h3, h4⟩
        · subst hz
          refine ⟨fun d D => d = .tup [] ∧ D = ⟨S1.h, S1.nx⟩, by rw [h3]; exact hs.int0 _, fun d D ⟨h1, h2⟩ => ?_⟩
          subst h2
          refine ret_one (v := .isl 1 none ((sortZ ks).map rowI) .no) (b := none) ?_ ?_
          · simp only [reduceIte, Nat.reduceEqDiff, Nat.add_eq, Nat.reduceAdd, Nat.add_zero, Nat.succ_eq_add_one, Nat.reduceBEq, Nat.beq_eq_true_eq, Exits.set_at, envA_at, nth, List.length_cons, List.length_nil, decide_true, Nat.zero_add, upd_at, h3, fzH, ← hs2]
            simp [sortZ]
          · refine ⟨rfl, hold, ?_⟩
            show S1.nx = _
            have : ks.length = 0 := by rw [← hp.length_eq]; rfl
            simp at hnx
            omega
        · have hpos : 0 < zs.length := by
            cases zs with
            | nil => exact absurd rfl hz
            | cons => simp
          have hzl : zs.length = ks.length := hp.length_eq
          refine ⟨fun d D => d = .tup [] ∧ D = DS.put ⟨S1.h, S1.nx⟩ b (some (.cells 1 ((sortZ zs).map rowI))), by rw [h3]; exact hs.int _ b zs none h4 hpos (by omega), fun d D ⟨h1, h2⟩ => ?_⟩
          subst h2
          refine ret_one (v := .isl 1 none ((sortZ ks).map rowI) .no) (b := some b) ?_ ?_
          · simp only [reduceIte, Nat.reduceEqDiff, Nat.add_eq, Nat.reduceAdd, Nat.add_zero, Nat.succ_eq_add_one, Nat.reduceBEq, Nat.beq_eq_true_eq, Exits.set_at, envA_at, nth, List.length_cons, List.length_nil, decide_true, Nat.zero_add, upd_at, h3, fzH, ds_put, put_same, bleN, lenN_eq, List.length_map, hs2]
            have hle2 : Nat.ble zs.length (sortZ ks).length = true := by rw [bleN, sortZ_length, hzl]; simp
            have ht : takeN zs.length (dropN 0 ((sortZ ks).map rowI)) = (sortZ ks).map rowI := by
              rw [takeN_eq, dropN_eq, List.drop_zero, List.take_of_length_le]
              rw [List.length_map, sortZ_length, hzl]
              exact Nat.le_refl _
            rw [bleN] at hle2
            simp only [Nat.zero_add, hle2, ht]
          · refine ⟨rfl, (hold.put hb1 _).put hb1 _, ?_⟩
            show S1.nx = _
            omega
      · have hki : (es.getD i (.nilp, .nilp)).1 = .int .i64 (ks.getD i 0) := by
          have h1 : (es.map Prod.fst)[i]? = (ks.map fun z => DV.int .i64 z)[i]? := by rw [hk]
          have hl2 : i < ks.length := by omega
          simp only [List.getElem?_map, List.getElem?_eq_getElem hl, List.getElem?_eq_getElem hl2, Option.map_some, Option.some.injEq] at h1
          simpa [List.getD_eq_getElem?_getD, hl, hl2] using h1
        have hne : nth es i = some (es.getD i (.nilp, .nilp)) := by rw [nth_lt hl]; simp [List.getD_eq_getElem?_getD, hl]
        generalize es.getD i (.nilp, .nilp) = kv at hki hne ⊢
        obtain ⟨k, v⟩ := kv
        simp only at hki
        subst hki
        have hpi : m ≠ S.nx := by omega
        have hfe : left.filter (fun j => j != i) = left.erase i := (hnd.erase_eq_filter i).symm
        have hflen : left.length - 1 = (left.filter (fun j => j != i)).length := by rw [hfe, List.length_erase_of_mem hi]
        have hfperm : (zs ++ ([ks.getD i 0] ++ (left.filter (fun j => j != i)).map fun i => ks.getD i 0)).Perm ks := by
          refine List.Perm.trans (List.Perm.append_left zs ?_) hperm
          rw [hfe]
          exact ((List.perm_cons_erase hi).map (fun i => ks.getD i 0)).symm
        simp only [wp_sq, wp_rg, wp_cd, wp_bk, wp_sk, wp_ex, wp_rt, wpO_cons, wpO_nil, opx_o, opx_n, opx_g, opx_h, gOn_eq, gOff_eq, want, bq_true, bq_false, Op1, dop, ev, evs, evo, evc, evp, ex_some, some1_some, upd_at, puts_nil, puts_cons, put_nx, ex_bool, cellsOf, glob, reduceIte, Nat.reduceEqDiff, Nat.add_eq, Nat.reduceAdd, Nat.add_zero, Nat.succ_eq_add_one, Nat.reduceBEq, Nat.beq_eq_true_eq, Exits.set_at, envA_at, nth, List.length_cons, List.length_nil, decide_true, Nat.zero_add, ifP_true, ifP_false, ifP_not, eq_self, decide_false, not_true_eq_false, not_false_eq_true, Bool.not_true, Bool.not_false, true_implies, reduceCtorEq, false_implies, and_true, true_and, ds_put, put_same, put_ne _ _ hpi, hm1, beqN, lenN_eq, decide_true, hne, rowsK, rowsOf, List.length_cons, List.length_nil]
        rcases hout with ⟨hz, h3⟩ | ⟨b, hb1, hb2, hz, h3, h4⟩
        · subst hz
          simp only [wp_sq, wp_rg, wp_cd, wp_bk, wp_sk, wp_ex, wp_rt, wpO_cons, wpO_nil, opx_o, opx_n, opx_g, opx_h, gOn_eq, gOff_eq, want, bq_true, bq_false, Op1, dop, ev, evs, evo, evc, evp, ex_some, some1_some, upd_at, puts_nil, puts_cons, put_nx, ex_bool, cellsOf, glob, reduceIte, Nat.reduceEqDiff, Nat.add_eq, Nat.reduceAdd, Nat.add_zero, Nat.succ_eq_add_one, Nat.reduceBEq, Nat.beq_eq_true_eq, Exits.set_at, envA_at, nth, List.length_cons, List.length_nil, decide_true, Nat.zero_add, ifP_true, ifP_false, ifP_not, eq_self, decide_false, not_true_eq_false, not_false_eq_true, Bool.not_true, Bool.not_false, true_implies, reduceCtorEq, false_implies, and_true, true_and, h3, capM, lenN, allScR, allSc, show Nat.ble 1 1048576 = true from rfl]
          refine ⟨left.length - 1, by have := List.length_pos_of_mem hi; omega, rfl, left.filter (fun j => j != i), some i, [ks.getD i 0], hflen, Nat.le_refl _, ?_, hnd.filter _, fun j hj => hle j ((List.mem_filter.1 hj).1), ?_, ?_, ?_, .inr ⟨S1.nx, ?_, ?_, by simp, ?_, ?_⟩, (hold.put (Nat.le_refl _) _).bump 1 |>.put (by show S.nx ≤ S1.nx; omega) _, ?_⟩
          · show S.nx < S1.nx + 1
            omega
          · simp [upd, he6]
          · rw [ds_put, put_ne _ _ (by omega)]
            exact put_same ..
          · exact hfperm
          · omega
          · omega
          · simp [upd]
          · rw [ds_put, put_same]
            rfl
          · show S1.nx + 1 = _
            simp at hnx ⊢
            omega
        · have hzl : zs.length ≤ ks.length := by
            have := hperm.length_eq
            simp at this
            omega
          have g1 : Nat.ble zs.length 1048576 = true := by rw [bleN]; simp; omega
          have g2 : Nat.ble zs.length (zs.map rowI).length = true := by rw [bleN]; simp
          have g3 : Nat.ble (zs.length + 1) (zs.map rowI).length = false := by rw [bleN]; simp
          have g4 : takeN zs.length (zs.map rowI) = zs.map rowI := by rw [takeN_eq, List.take_of_length_le]; simp
          simp only [wp_sq, wp_rg, wp_cd, wp_bk, wp_sk, wp_ex, wp_rt, wpO_cons, wpO_nil, opx_o, opx_n, opx_g, opx_h, gOn_eq, gOff_eq, want, bq_true, bq_false, Op1, dop, ev, evs, evo, evc, evp, ex_some, some1_some, upd_at, puts_nil, puts_cons, put_nx, ex_bool, cellsOf, glob, reduceIte, Nat.reduceEqDiff, Nat.add_eq, Nat.reduceAdd, Nat.add_zero, Nat.succ_eq_add_one, Nat.reduceBEq, Nat.beq_eq_true_eq, Exits.set_at, envA_at, nth, List.length_cons, List.length_nil, decide_true, Nat.zero_add, ifP_true, ifP_false, ifP_not, eq_self, decide_false, not_true_eq_false, not_false_eq_true, Bool.not_true, Bool.not_false, true_implies, reduceCtorEq, false_implies, and_true, true_and, h3, capM, ds_put, put_ne _ _ hb2, h4, lenN_eq, allScR, allSc, g1, g2, g3, g4, show Nat.ble 1 1048576 = true from rfl, show Nat.beq 1 1 = true from rfl]
          refine ⟨left.length - 1, by have := List.length_pos_of_mem hi; omega, rfl, left.filter (fun j => j != i), some i, zs ++ [ks.getD i 0], hflen, Nat.le_refl _, ?_, hnd.filter _, fun j hj => hle j ((List.mem_filter.1 hj).1), ?_, ?_, ?_, .inr ⟨S1.nx, ?_, ?_, by simp, ?_, ?_⟩, ((hold.put (Nat.le_refl _) _).bump 1 |>.put hb1 _) |>.put (by show S.nx ≤ S1.nx; omega) _, ?_⟩
          · show S.nx < S1.nx + 1
            omega
          · simp [upd, he6]
          · rw [ds_put, put_ne _ _ (by omega), ds_put, put_ne _ _ (Ne.symm hb2)]
            exact put_same ..
          · rw [List.append_assoc]
            exact hfperm
          · omega
          · omega
          · simp [upd]
          · rw [ds_put, put_same]
            simp [rowI]
          · show S1.nx + 1 = _
            simp at hnx ⊢
            omega
  · by_cases hi : id < S.nx
    · rw [h2.2 id hi]; exact ho
    · have ho : S.h id = some o := ho
      rw [hd id (by omega)] at ho
      cases ho
end Go.Proofs.YtfmicbbflpkdgaaGreatDoor.D
/-
  The D machine, part K: the program's data as plain Lean data; laws for proofs by hand.
-/
namespace Go.Proofs.YtfmicbbflpkdgaaGreatDoor.D
open Go.RowKit
variable {P : Program} {G : List (List DV)} {S S' : DS} {base na : Nat} {e e' : Env} {dd : Dd}
/-! ### Data -/
abbrev Str := List Nat
structure NField where
  name : Str
  ty : Str
structure NSig where
  name : Str
  static : Bool
  params : List Str
  result : Str
structure NClass where
  name : Str
  super : Str
  fields : List NField
  methods : List NSig
abbrev NHier := List NClass
structure NInstr where
  op : Int
  dst : Int
  a : Int
  b : Int
  n : Int
  cls : Str
  name : Str
  args : List Int
  goto : Int
  catch_ : Int
structure NFunc where
  cls : Str
  name : Str
  static : Bool
  params : Int
  vars : List NField
  result : Str
  code : List NInstr
structure NUnit where
  hier : NHier
  funcs : List NFunc
  main : Int
def rI (z : Int) : List DV := [.int .i64 z]
def rS (s : Str) : List DV := [.str s]
def eF (f : NField) : List DV := [.str f.name, .str f.ty]
def eSg (s : NSig) : List DV := [.str s.name, .bool s.static, .isl 1 none (s.params.map rS) .no, .str s.result]
def eCl (c : NClass) : List DV := [.str c.name, .str c.super, .isl 2 none (c.fields.map eF) .no, .isl 4 none (c.methods.map eSg) .no]
def eHr (h : NHier) : List DV := [.isl 4 none (h.map eCl) .no]
def eIn (x : NInstr) : List DV := [.int .i64 x.op, .int .i64 x.dst, .int .i64 x.a, .int .i64 x.b, .int .i64 x.n, .str x.cls, .str x.name, .isl 1 none (x.args.map rI) .no, .int .i64 x.goto, .int .i64 x.catch_]
def eFn (f : NFunc) : List DV := [.str f.cls, .str f.name, .bool f.static, .int .i64 f.params, .isl 2 none (f.vars.map eF) .no, .str f.result, .isl 10 none (f.code.map eIn) .no]
def eUn (u : NUnit) : List DV := [.isl 4 none (u.hier.map eCl) .no, .isl 7 none (u.funcs.map eFn) .no, .int .i64 u.main]
theorem cl_rI (z : Int) : ∀ c, c ∈ rI z → Closed c := by
  simp only [rI, List.mem_singleton, forall_eq]
  exact .int _ _
theorem cl_rS (s : Str) : ∀ c, c ∈ rS s → Closed c := by
  simp only [rS, List.mem_singleton, forall_eq]
  exact .str _
theorem cl_isl {α : Type} {enc : α → List DV} (h : ∀ x, ∀ c, c ∈ enc x → Closed c) (k : Nat) (nf : Option Bool) (l : List α) : Closed (.isl k nf (l.map enc) .no) :=
  .isl_no fun r hr => by
    obtain ⟨x, _, rfl⟩ := List.mem_map.1 hr
    exact h x
theorem cl_eF (f : NField) : ∀ c, c ∈ eF f → Closed c := by
  intro c hc
  simp only [eF, List.mem_cons, List.not_mem_nil, or_false] at hc
  rcases hc with rfl | rfl <;> exact .str _
theorem cl_eSg (s : NSig) : ∀ c, c ∈ eSg s → Closed c := by
  intro c hc
  simp only [eSg, List.mem_cons, List.not_mem_nil, or_false] at hc
  rcases hc with rfl | rfl | rfl | rfl <;> first | exact .str _ | exact .bool _ | exact cl_isl cl_rS ..
theorem cl_eCl (s : NClass) : ∀ c, c ∈ eCl s → Closed c := by
  intro c hc
  simp only [eCl, List.mem_cons, List.not_mem_nil, or_false] at hc
  rcases hc with rfl | rfl | rfl | rfl <;> first | exact .str _ | exact cl_isl cl_eF .. | exact cl_isl cl_eSg ..
theorem cl_eHr (h : NHier) : ∀ c, c ∈ eHr h → Closed c := by
  intro c hc
  simp only [eHr, List.mem_cons, List.not_mem_nil, or_false] at hc
  subst hc
  exact cl_isl cl_eCl ..
theorem cl_eIn (s : NInstr) : ∀ c, c ∈ eIn s → Closed c := by
  intro c hc
  simp only [eIn, List.mem_cons, List.not_mem_nil, or_false] at hc
  rcases hc with rfl | rfl | rfl | rfl | rfl | rfl | rfl | rfl | rfl | rfl <;> first | exact .str _ | exact .int _ _ | exact cl_isl cl_rI ..
theorem cl_eFn (s : NFunc) : ∀ c, c ∈ eFn s → Closed c := by
  intro c hc
  simp only [eFn, List.mem_cons, List.not_mem_nil, or_false] at hc
  rcases hc with rfl | rfl | rfl | rfl | rfl | rfl | rfl <;> first | exact .str _ | exact .int _ _ | exact .bool _ | exact cl_isl cl_eF .. | exact cl_isl cl_eIn ..
theorem cl_eUn (s : NUnit) : ∀ c, c ∈ eUn s → Closed c := by
  intro c hc
  simp only [eUn, List.mem_cons, List.not_mem_nil, or_false] at hc
  rcases hc with rfl | rfl | rfl <;> first | exact .int _ _ | exact cl_isl cl_eCl .. | exact cl_isl cl_eFn ..
/-- Every value of a list of arguments is closed. -/
theorem cl_nil : ∀ c, c ∈ ([] : List DV) → Closed c := fun _ h => by simp at h
theorem cl_cons {d : DV} {l : List DV} (h : Closed d) (t : ∀ c, c ∈ l → Closed c) : ∀ c, c ∈ d :: l → Closed c := fun c hc => by
  rcases List.mem_cons.1 hc with rfl | hc
  · exact h
  · exact t c hc
theorem gl_ok : GOk gl := by
  intro r hr c hc
  have h : allB (allB (closedB 2)) gl = true := by decide
  exact closedB_ok 2 c (allB_iff (allB_iff h r hr) c hc)
/-! ### Values of operations -/
theorem ofNat_cast {n : Nat} : Int.ofNat n = (n : Int) := rfl
theorem dbin_lss {k : IntKind} {a b : Int} : dBin .lss (.int k a) (.int k b) = some (.bool (decide (a < b))) := by simp [dBin, kq_eq, dInt, ilt_eq]
theorem dbin_gtr {k : IntKind} {a b : Int} : dBin .gtr (.int k a) (.int k b) = some (.bool (decide (b < a))) := by simp [dBin, kq_eq, dInt, ilt_eq]
theorem dbin_leq {k : IntKind} {a b : Int} : dBin .leq (.int k a) (.int k b) = some (.bool (decide (a ≤ b))) := by
  have h : (!decide (b < a)) = decide (a ≤ b) := by by_cases h : a ≤ b <;> simp [h] <;> omega
  simp only [dBin, kq_eq, dInt, ilt_eq, decide_true, h]
theorem dbin_geq {k : IntKind} {a b : Int} : dBin .geq (.int k a) (.int k b) = some (.bool (decide (b ≤ a))) := by
  have h : (!decide (a < b)) = decide (b ≤ a) := by by_cases h : b ≤ a <;> simp [h] <;> omega
  simp only [dBin, kq_eq, dInt, ilt_eq, decide_true, h]
theorem dbin_eql {k : IntKind} {a b : Int} : dBin .eql (.int k a) (.int k b) = some (.bool (decide (a = b))) := by simp [dBin, kq_eq, dInt, ieq_eq]
theorem dbin_neq {k : IntKind} {a b : Int} : dBin .neq (.int k a) (.int k b) = some (.bool (decide (a ≠ b))) := by simp [dBin, kq_eq, dInt, ieq_eq]
theorem dbin_add {k : IntKind} {a b : Int} : dBin .add (.int k a) (.int k b) = some (.int k (k.wrap (a + b))) := by simp [dBin, kq_eq, dInt, wr_eq]
theorem dbin_sub {k : IntKind} {a b : Int} : dBin .sub (.int k a) (.int k b) = some (.int k (k.wrap (a - b))) := by simp [dBin, kq_eq, dInt, wr_eq]
theorem dbin_seq {a b : Str} : dBin .eql (.str a) (.str b) = some (.bool (decide (a = b))) := by simp [dBin, dStr, seq_eq]
theorem dbin_sne {a b : Str} : dBin .neq (.str a) (.str b) = some (.bool (decide (a ≠ b))) := by simp [dBin, dStr, seq_eq]
theorem dbin_slt {a b : Str} : dBin .lss (.str a) (.str b) = some (.bool (slt a b)) := rfl
theorem dun_not {b : Bool} : dUn .not (.bool b) = some (.bool (!b)) := rfl
theorem wrap_id {a : Int} (h : -9223372036854775808 ≤ a ∧ a < 9223372036854775808) : IntKind.wrap .i64 a = a := IntWalk.i64_in _ (by omega)
theorem wrap_succ {i : Nat} (h : i < 9223372036854775807) : IntKind.wrap .i64 ((i : Int) + 1) = ((i + 1 : Nat) : Int) := by rw [wrap_id (by omega)]; rfl
theorem dnat_cast {k : IntKind} {n : Nat} : dNat (.int k (n : Int)) = some n := rfl
theorem dpart_none {cs : List DV} {o : Nat} : dPart cs o none = nth cs o := rfl
theorem dpart_some {cs : List DV} {o n : Nat} (h : o + n ≤ cs.length) : dPart cs o (some n) = some (.agg ((cs.drop o).take n)) := by
  simp only [dPart]
  rw [show Nat.ble (Nat.add o n) (lenN cs) = true from by rw [bleN, lenN_eq, decide_eq_true_eq]; exact h, takeN_eq, dropN_eq]
theorem dpart_some1 {a : DV} : dPart [a] 0 (some 1) = some (.agg [a]) := rfl
theorem dpart_some2 {a b : DV} : dPart [a, b] 0 (some 2) = some (.agg [a, b]) := rfl
theorem dpart_some3 {a b c : DV} : dPart [a, b, c] 0 (some 3) = some (.agg [a, b, c]) := rfl
theorem dpart_some4 {a b c d : DV} : dPart [a, b, c, d] 0 (some 4) = some (.agg [a, b, c, d]) := rfl
theorem dpart_some7 {a b c d e f g : DV} : dPart [a, b, c, d, e, f, g] 0 (some 7) = some (.agg [a, b, c, d, e, f, g]) := rfl
theorem dpart_some10 {a b c d e f g h i j : DV} : dPart [a, b, c, d, e, f, g, h, i, j] 0 (some 10) = some (.agg [a, b, c, d, e, f, g, h, i, j]) := rfl
theorem dlen_str {s : Str} : dLenP 0 (.str s) = some s.length := by simp [dLenP, lenN_eq]
theorem dlen_isl {k : Nat} {nf : Option Bool} {rows : List (List DV)} {tl : Tl} : dLenP 1 (.isl k nf rows tl) = some rows.length := by simp [dLenP, lenN_eq]
theorem slck_isl {k : Nat} {h : Heap} {nf : Option Bool} {rows : List (List DV)} {tl : Tl} : slcKH k h (.isl k nf rows tl) = true := by simp [slcKH]
theorem didx_isl {α : Type} {enc : α → List DV} {k : Nat} {nf : Option Bool} {l : List α} {tl : Tl} {kd : IntKind} {i : Nat} (h : i < l.length) : dIdx k (.isl k nf (l.map enc) tl) (.int kd (i : Int)) = some (.iptr (enc l[i]) 0) := by
  simp [dIdx, dNat, nth_map, nth_lt h]
theorem didx_int {α : Type} {enc : α → List DV} {k : Nat} {nf : Option Bool} {l : List α} {tl : Tl} {kd : IntKind} {z : Int} (h0 : 0 ≤ z) (h : z.toNat < l.length) : dIdx k (.isl k nf (l.map enc) tl) (.int kd z) = some (.iptr (enc l[z.toNat]) 0) := by
  obtain ⟨n, rfl⟩ := Int.eq_ofNat_of_zero_le h0
  exact didx_isl (by simpa using h)
theorem didxs {s : Str} {kd : IntKind} {i : Nat} (h : i < s.length) : dIdxS s (.int kd (i : Int)) = some (.int .u8 ((s[i] : Nat) : Int)) := by
  simp [dIdxS, dNat, nth_lt h]
/-! ### Calls -/
def isP : DOp → Bool
  | .mv _ => true
  | .pk _ _ _ => true
  | .ibx _ => true
  | .mbx _ _ => true
  | .al _ _ => true
  | .bd _ _ => true
  | .ibs _ _ => true
  | .ld _ _ => true
  | .st _ _ _ => true
  | .nc _ => true
  | .bin _ _ _ => true
  | .un _ _ => true
  | .eq _ _ _ _ => true
  | .cv _ _ => true
  | .mki _ _ => true
  | .mkf _ _ _ => true
  | .mkm _ => true
  | .mks _ _ _ _ _ => true
  | .sls _ _ _ => true
  | .slc _ _ _ _ => true
  | .fa _ _ => true
  | .fd _ _ _ => true
  | .ia _ _ _ => true
  | .ixs _ _ => true
  | .ixa _ _ _ _ _ => true
  | .lk _ _ _ _ _ => true
  | .mu _ _ _ _ => true
  | .rgs _ _ => true
  | .rgm _ _ => true
  | .nxs _ => true
  | .en _ => true
  | .ex _ _ => true
  | .len _ _ => true
  | .apa _ _ _ _ => true
  | .apm _ _ _ _ => true
  | .clr _ _ _ => true
  | .mx _ _ => true
  | .bad => false
  | .stf _ _ _ => false
  | .nxm _ => false
  | .call _ _ => false
  | .callv _ _ => false
  | .df _ => false
def stuckO (P : Program) (G : List (List DV)) (base d : Nat) (p : DOp) (K : Post) : Post := fun e S dd => OpX P G base (.o d p) e S dd K
def stuckN (P : Program) (G : List (List DV)) (base : Nat) (p : DOp) (K : Post) : Post := fun e S dd => OpX P G base (.n p) e S dd K
def runO (P : Program) (G : List (List DV)) (base d : Nat) (p : DOp) (K : Post) : Bool → Post
  | true => fun e S dd => ∃ v ps, dop G base e S.h p = some (v, ps) ∧ K (upd e d v) (S.puts ps) dd
  | false => stuckO P G base d p K
def runN (P : Program) (G : List (List DV)) (base : Nat) (p : DOp) (K : Post) : Bool → Post
  | true => fun e S dd => ∃ v ps, dop G base e S.h p = some (v, ps) ∧ K e (S.puts ps) dd
  | false => stuckN P G base p K
theorem opx_oP {d : Nat} {p : DOp} {K : Post} : OpX P G base (.o d p) e S dd K = runO P G base d p K (isP p) e S dd := by
  cases p <;> rfl
theorem opx_nP {p : DOp} {K : Post} : OpX P G base (.n p) e S dd K = runN P G base p K (isP p) e S dd := by
  cases p <;> rfl
theorem runO_t {d : Nat} {p : DOp} {K : Post} : runO P G base d p K true e S dd = ∃ v ps, dop G base e S.h p = some (v, ps) ∧ K (upd e d v) (S.puts ps) dd := (rfl)
theorem runO_f {d : Nat} {p : DOp} {K : Post} : runO P G base d p K false e S dd = stuckO P G base d p K e S dd := (rfl)
theorem runN_t {p : DOp} {K : Post} : runN P G base p K true e S dd = ∃ v ps, dop G base e S.h p = some (v, ps) ∧ K e (S.puts ps) dd := (rfl)
theorem runN_f {p : DOp} {K : Post} : runN P G base p K false e S dd = stuckN P G base p K e S dd := (rfl)
def callW (P : Program) (G : List (List DV)) (f : Nat) (args : List DV) (x : Nat) (K : Post) : Post := fun e S dd => ∃ R, DCalls P G f args S R ∧ ∀ v S', R v S' → K (upd e x v) S' dd
def callN (P : Program) (G : List (List DV)) (f : Nat) (args : List DV) (K : Post) : Post := fun e S dd => ∃ R, DCalls P G f args S R ∧ ∀ v S', R v S' → K e S' dd
theorem opx_call {d f : Nat} {xs : List Opd} {K : Post} : stuckO P G base d (.call f xs) K e S dd = callW P G f (evs G e xs) d K e S dd := (rfl)
theorem opx_callN {f : Nat} {xs : List Opd} {K : Post} : stuckN P G base (.call f xs) K e S dd = callN P G f (evs G e xs) K e S dd := (rfl)
theorem opx_callv {d f : Nat} {x : Opd} {fa fb : List DV} {xs : List Opd} {K : Post} (hx : ev G e x = .func f fa fb) (h : callW P G f (fa ++ (evs G e xs ++ fb)) d K e S dd) : stuckO P G base d (.callv x xs) K e S dd := by
  obtain ⟨R, h1, h2⟩ := h
  exact ⟨f, fa, fb, R, hx, h1, h2⟩
abbrev stfW (n t : Nat) (p : DV) (cs : List DV) (K : Post) : Post := fun e S dd => ∃ b k row, p = .ptr b 0 0 ∧ S.h b = some (.cells k [row]) ∧ cs.length = n ∧ row.length = n ∧ allSc cs = true ∧ K (upd e t (.iptr cs 0)) (S.put b none) dd
theorem opx_stf {n t : Nat} {v : Opd} {K : Post} : stuckN P G base (.stf n t v) K e S dd = stfW n t (e t) (cellsOf (ev G e v)) K e S dd := (rfl)
theorem ex_call {f x : Nat} {args : List DV} {V : DV → Prop} {K : Post} (h : Val P G f args V) (hk : ∀ d, V d → K (upd e x d) S dd) : callW P G f args x K e S dd :=
  ⟨_, h S, fun d D ⟨h1, h2⟩ => by
    subst h2
    exact hk d h1⟩
theorem Val.args {f : Nat} {args args' : List DV} {V : DV → Prop} (hr : ∀ φ ρ va, RepL φ ρ va args → RepL φ ρ va args') (h : Val P G f args' V) : Val P G f args V := fun S => ⟨(h S).1, fun φ ρ w va hs ha => (h S).2 φ ρ w va hs (hr φ ρ va ha)⟩
theorem rep_weak {φ : Phi} {ρ : Rho} {v : Value} {k : Nat} {nf : Option Bool} {rows : List (List DV)} {tl : Tl} (h : Rep φ ρ v (.isl k nf rows tl)) : Rep φ ρ v (.isl k none rows .no) := by
  cases h with
  | isl a n C k nf rows tl c hn' hC hk hnf hz hc hr ht => exact .isl a n C k none rows .no c hn' hC hk (fun b hb => by cases hb) hz hc hr trivial
theorem Val.w0 {f k : Nat} {nf : Option Bool} {rows : List (List DV)} {tl : Tl} {l : List DV} {V : DV → Prop} (h : Val P G f (.isl k none rows .no :: l) V) : Val P G f (.isl k nf rows tl :: l) V :=
  Val.args (args' := .isl k none rows .no :: l) (fun φ ρ va ⟨h1, h2⟩ => ⟨h1, fun i hi => by
    cases i with
    | zero => exact rep_weak (h2 0 (by simp))
    | succ i => exact h2 (i + 1) hi⟩) h
theorem Val.w1 {f k : Nat} {nf : Option Bool} {rows : List (List DV)} {tl : Tl} {a : DV} {l : List DV} {V : DV → Prop} (h : Val P G f (a :: .isl k none rows .no :: l) V) : Val P G f (a :: .isl k nf rows tl :: l) V :=
  Val.args (args' := a :: .isl k none rows .no :: l) (fun φ ρ va ⟨h1, h2⟩ => ⟨h1, fun i hi => by
    match i with
    | 0 => exact h2 0 (by simp)
    | 1 => exact rep_weak (h2 1 (by simp))
    | i + 2 => exact h2 (i + 2) hi⟩) h
/-- A frame whose slots outside W are those of e0. -/
def Fr0 (W : List Nat) (e0 e : Env) : Prop := ∀ s, memN s W = false → e s = e0 s
theorem Fr0.refl (W : List Nat) (e : Env) : Fr0 W e e := fun _ _ => rfl
theorem Fr0.upd {W : List Nat} {e0 e : Env} {s : Nat} {v : DV} (h : Fr0 W e0 e) (hs : memN s W = true) : Fr0 W e0 (upd e s v) := fun t ht => by
  rw [upd_at, if_neg (fun he => by subst he; rw [hs] at ht; cases ht)]
  exact h t ht
theorem ifP_dc {p : Prop} [Decidable p] {A B : Post} (h1 : decide p = true → A e S dd) (h2 : decide p = false → B e S dd) : ifP (decide p) A B e S dd := ifP_b h1 h2
def subW : List Nat → List Nat → Bool
  | [], _ => true
  | s :: l, W => memN s W && subW l W
theorem subW_mem {W : List Nat} : ∀ {l : List Nat}, subW l W = true → ∀ s, memN s l = true → memN s W = true
  | [], _, s, h => by simp [memN] at h
  | t :: l, h, s, hs => by
    simp only [subW, Bool.and_eq_true] at h
    simp only [memN, beqN] at hs
    by_cases he : s = t
    · rw [he]; exact h.1
    · simp only [he, decide_false] at hs
      exact subW_mem h.2 s hs
theorem Fr0.sub {W W' : List Nat} {e0 e e1 : Env} (h2 : Fr0 W' e e1) (hs : subW W' W = true) (h1 : Fr0 W e0 e) : Fr0 W e0 e1 := fun s hm => by
  rw [h2 s, h1 s hm]
  cases hb : memN s W' with
  | false => rfl
  | true => rw [subW_mem hs s hb] at hm; cases hm
theorem wp_lpE {c : DC} {K R : Post} {X : Exits} (W : List Nat) (I : Nat → Env → DS → Prop) (n : Nat) (h0 : I n e S) (h : ∀ n e1 S1, I n e1 S1 → Fr0 W e e1 → wpC P G c (Smaller (fun n e1 S1 dd => dd = [] ∧ Fr0 W e e1 ∧ I n e1 S1) n) X R e1 S1 []) : wpC P G (.lp c) K X R e S [] :=
  wp_lp (fun n e1 S1 dd => dd = [] ∧ Fr0 W e e1 ∧ I n e1 S1) n ⟨rfl, Fr0.refl _ _, h0⟩ fun n e1 S1 dd ⟨hd, hf, hI⟩ => by
    subst hd
    exact h n e1 S1 hI hf
/-- A loop over the places of a list: what its counter holds. -/
def Idx (len sl n : Nat) (e : Env) : Prop := ∃ i : Nat, n = len - i ∧ i ≤ len ∧ e sl = .int .i64 i
theorem Idx.zero {len sl : Nat} {e : Env} (h : e sl = .int .i64 0) : Idx len sl len e := ⟨0, rfl, Nat.zero_le _, h⟩
/-! ### Regions that draw their order -/
def RechA (G : List (List DV)) (base : Nat) : List DOper → Env → DS → Prop
  | [], _, _ => True
  | r :: l, e, S => Rech G base r e S ∧ RechA G base l e S
theorem rechA_mem {rs : List DOper} (h : RechA G base rs e S) : ∀ r, r ∈ rs → Rech G base r e S := by
  induction rs with
  | nil => intro r hr; simp at hr
  | cons a l ih =>
    intro r hr
    rcases List.mem_cons.1 hr with rfl | hr
    · exact h.1
    · exact ih h.2 r hr
def pickR (sl : List Nat) : List DOper → List DOper
  | [] => []
  | r :: l => match inSl r sl with | true => r :: pickR sl l | false => pickR sl l
theorem pickR_mem {sl : List Nat} {r : DOper} (hi : inSl r sl = true) : ∀ {l : List DOper}, r ∈ l → r ∈ pickR sl l
  | a :: l, h => by
    simp only [pickR]
    rcases List.mem_cons.1 h with rfl | h
    · rw [hi]; simp
    · split
      · exact List.mem_cons_of_mem _ (pickR_mem hi h)
      · exact pickR_mem hi h
def afterH (G : List (List DV)) (base : Nat) (rs : List DOper) (K : Post) : Post := fun e S dd => RechA G base rs e S ∧ K e S dd
def wpH (P : Program) (G : List (List DV)) (base : Nat) (all : List DOper) : List RdI → Post → Post
  | [], K => K
  | ⟨_, x, [], _, _⟩ :: l, K => fun e S dd => OpX P G base x e S dd (wpH P G base all l K)
  | ⟨_, x, s :: sl, _, _⟩ :: l, K => fun e S dd => OpX P G base x e S dd (afterH G base (pickR (s :: sl) all) (wpH P G base all l K))
theorem wpH_nil {all : List DOper} {K : Post} : wpH P G base all [] K e S dd = K e S dd := (rfl)
theorem wpH_0 {all : List DOper} {K : Post} {i : Nat} {x : DOper} {a : List Nat} {f : Bool} {l : List RdI} : wpH P G base all (⟨i, x, [], a, f⟩ :: l) K e S dd = OpX P G base x e S dd (wpH P G base all l K) := (rfl)
theorem wpH_1 {all : List DOper} {K : Post} {i s : Nat} {x : DOper} {sl a : List Nat} {f : Bool} {l : List RdI} : wpH P G base all (⟨i, x, s :: sl, a, f⟩ :: l) K e S dd = OpX P G base x e S dd (afterH G base (pickR (s :: sl) all) (wpH P G base all l K)) := (rfl)
theorem afterH_eq {rs : List DOper} {K : Post} : afterH G base rs K e S dd = (RechA G base rs e S ∧ K e S dd) := (rfl)
theorem rechA_cons {r : DOper} {l : List DOper} : RechA G base (r :: l) e S = (Rech G base r e S ∧ RechA G base l e S) := (rfl)
theorem rechA_nil : RechA G base [] e S = True := (rfl)
theorem rech_o {d : Nat} {p : DOp} : Rech G base (.o d p) e S = ∃ v, dop G base e S.h p = some (v, []) ∧ e d = v := by
  simp [Rech, qe, wantX, opX, dstX]
theorem ex_somev {X : DV} {Q : DV → Prop} : (∃ v, (some (X, []) : Option (DV × Puts)) = some (v, []) ∧ Q v) = Q X := by
  apply propext
  constructor
  · rintro ⟨v, h, hq⟩
    cases h
    exact hq
  · exact fun h => ⟨X, rfl, h⟩
theorem wpH_ok {all : List DOper} {K : Post} : ∀ {l : List RdI} {e : Env} {S : DS} {dd : Dd}, wpH P G base all l K e S dd → Chain P G base na all (clOf l) e S dd K
  | [], _, _, _, h => h
  | ⟨_, x, [], _, _⟩ :: l, _, _, _, h => by
    refine opX_mono (K := wpH P G base all l K) h fun e' S' dd' h' _ => ⟨fun r _ hi => ?_, wpH_ok h'⟩
    unfold inSl at hi
    split at hi <;> simp [memN] at hi
  | ⟨_, x, s :: sl, _, _⟩ :: l, _, _, _, h => opX_mono (K := afterH G base (pickR (s :: sl) all) (wpH P G base all l K)) h fun _ _ _ h' _ => ⟨fun r hr hi => rechA_mem h'.1 r (pickR_mem hi hr), wpH_ok h'.2⟩
theorem wp_rdH {l : List RdI} {K R : Post} {X : Exits} (h : wpH P G S.nx (opsOf l) l K e ⟨S.h, S.nx + na⟩ dd) : wpC P G (.rd na l) K X R e S dd := wpH_ok h
theorem dslice_1 {k : Nat} {nf : Option Bool} {rows : List (List DV)} {tl : Tl} {kd : IntKind} (h : 1 ≤ rows.length) : dSlice (.isl k nf rows tl) (some (.int kd 1)) none = some (.isl k nf (rows.drop 1) (tl.shift 1 (Nat.beq rows.length rows.length))) := by
  have e1 : Nat.ble rows.length rows.length = true := by rw [bleN]; simp
  have e2 : Nat.ble 1 rows.length = true := by rw [bleN]; simpa using h
  have e3 : takeN (Nat.sub rows.length 1) (dropN 1 rows) = rows.drop 1 := by
    rw [takeN_eq, dropN_eq]
    apply List.take_of_length_le
    rw [List.length_drop]
    exact Nat.le_refl _
  have e4 : bound (some (.int kd 1)) 0 = some 1 := rfl
  simp only [dSlice, bound, lenN_eq, e1, e2, e3, dNat]
/-- A list that may be appended to. -/
def AppS (S : DS) (v : DV) (k : Nat) (rows : List (List DV)) : Prop := ∃ nf tl, v = .isl k nf rows tl ∧ (tl = .ex ∨ ∃ t, tl = .tk t 0 ∧ t < S.nx ∧ S.h t = some (.tok rows.length))
theorem AppS.nil {k : Nat} : AppS S (.isl k (some true) [] .ex) k [] := ⟨_, _, rfl, .inl rfl⟩
theorem AppS.up {v : DV} {k m : Nat} {rows : List (List DV)} (h : AppS S v k rows) (hm : S.nx ≤ m) : AppS ⟨S.h, m⟩ v k rows := by
  obtain ⟨nf, tl, h1, h2⟩ := h
  refine ⟨nf, tl, h1, ?_⟩
  rcases h2 with h2 | ⟨t, h3, h4, h5⟩
  · exact .inl h2
  · exact .inr ⟨t, h3, Nat.lt_of_lt_of_le h4 hm, h5⟩
theorem AppS.app {v : DV} {k j : Nat} {rows new : List (List DV)} (h : AppS S v k rows) (hne : new ≠ []) (hsc : allScR new = true) (h1 : rows.length ≤ 1048576) (h2 : new.length ≤ 1048576) (hj : S.nx ≤ j) :
    ∃ v' ps, capA j k S.h v new = some (v', ps) ∧ ∀ m, j < m → AppS (DS.puts ⟨S.h, m⟩ ps) v' k (rows ++ new) := by
  obtain ⟨nf, tl, rfl, h3⟩ := h
  cases new with
  | nil => exact absurd rfl hne
  | cons r new =>
    have g1 : Nat.beq k k = true := by rw [beqN]; simp
    have g2 : Nat.ble (lenN rows) 1048576 = true := by rw [bleN, lenN_eq]; simpa using h1
    have g3 : Nat.ble (lenN (r :: new)) 1048576 = true := by rw [bleN, lenN_eq]; simpa using h2
    rcases h3 with rfl | ⟨t, rfl, h4, h5⟩
    · refine ⟨.isl k (some false) (rows ++ r :: new) (.tk j 0), [(j, some (.tok (Nat.add (lenN rows) (lenN (r :: new)))))], by simp only [capA, g1, g2, g3, hsc], fun m hm => ⟨_, _, rfl, .inr ⟨j, rfl, hm, ?_⟩⟩⟩
      simp [DS.puts, Heap.puts, put_same, lenN_eq]
    · have g4 : Nat.beq rows.length (Nat.add 0 (lenN rows)) = true := by rw [beqN, lenN_eq]; simp
      refine ⟨.isl k (some false) (rows ++ r :: new) (.tk j 0), [(t, none), (j, some (.tok (Nat.add (lenN rows) (lenN (r :: new)))))], by simp only [capA, g1, g2, g3, hsc, h5, g4], fun m hm => ⟨_, _, rfl, .inr ⟨j, rfl, hm, ?_⟩⟩⟩
      simp [DS.puts, Heap.puts, put_same, lenN_eq]
theorem AppS.fz {v : DV} {k : Nat} {rows : List (List DV)} (h : AppS S v k rows) : fzH 2 S.h v = some (.isl k none rows .no, none) := by
  obtain ⟨nf, tl, rfl, _⟩ := h
  rfl
theorem rowsOf_isl {k : Nat} {h : Heap} {nf : Option Bool} {rows : List (List DV)} {tl : Tl} : rowsOf k h (.isl k nf rows tl) = some rows := by
  simp only [rowsOf, beqN, decide_true]
theorem puts_nx {ps : Puts} : (S.puts ps).nx = S.nx := rfl
theorem ret_two {a b mode : Nat} {R : DV → DS → Prop} {u v : DV} (hu : fzH mode S.h (e a) = some (u, none)) (hv : fzH mode S.h (e b) = some (v, none)) (hr : R (.tup [u, v]) S) : RetP P G [.t a, .t b] mode R e S [] := by
  rw [ret_nil]
  exact ⟨[e a, e b], [u, v], S, rfl, by simp [fzL, hu, hv, killO], hr⟩
theorem ret_three {a b c mode : Nat} {R : DV → DS → Prop} {u v w : DV} (hu : fzH mode S.h (e a) = some (u, none)) (hv : fzH mode S.h (e b) = some (v, none)) (hw : fzH mode S.h (e c) = some (w, none)) (hr : R (.tup [u, v, w]) S) : RetP P G [.t a, .t b, .t c] mode R e S [] := by
  rw [ret_nil]
  exact ⟨[e a, e b, e c], [u, v, w], S, rfl, by simp [fzL, hu, hv, hw, killO], hr⟩
theorem didx0s {c : Nat} {s : Str} {k : IntKind} : dIdxS (c :: s) (.int k 0) = some (.int .u8 (c : Int)) := rfl
end Go.Proofs.YtfmicbbflpkdgaaGreatDoor.D
/-
  Laws for contracts by hand, part 2.
-/
namespace Go.Proofs.YtfmicbbflpkdgaaGreatDoor.D
open Go.RowKit
variable {P : Program} {G : List (List DV)} {S S' : DS} {base na : Nat} {e e' : Env} {dd : Dd}
/-- A fact that is carried over. -/
def Keep (p : Prop) : Prop := p
theorem wpO_mono {K K' : Post} (hK : ∀ e S dd, K e S dd → K' e S dd) : ∀ (l : List DOper) (e : Env) (S : DS) (dd : Dd), wpO P G base l K e S dd → wpO P G base l K' e S dd
  | [], _, _, _, h => hK _ _ _ h
  | _ :: l, _, _, _, h => opX_mono h fun _ _ _ h' => wpO_mono hK l _ _ _ h'
theorem wpC_mono : ∀ (c : DC) (K K' : Post) (X X' : Exits) (R : Post), (∀ e S dd, K e S dd → K' e S dd) → (∀ i e S dd, X i e S dd → X' i e S dd) → ∀ e S dd, wpC P G c K X R e S dd → wpC P G c K' X' R e S dd
  | .sk, _, _, _, _, _, hK, _, _, _, _, h => hK _ _ _ h
  | .rg _ ops, _, _, _, _, _, hK, _, _, _, _, h => wpO_mono hK ops _ _ _ h
  | .rd _ _, _, _, _, _, _, hK, _, _, _, _, h => chain_mono hK _ _ _ _ h
  | .sq a b, _, _, _, _, _, hK, hX, _, _, _, h => wpC_mono a _ _ _ _ _ (fun _ _ _ h => wpC_mono b _ _ _ _ _ hK hX _ _ _ h) hX _ _ _ h
  | .cd _ a b, _, _, _, _, _, hK, hX, _, _, _, h => by
    obtain ⟨t, h1, h2⟩ := h
    refine ⟨t, h1, ?_⟩
    cases t with
    | true => exact wpC_mono a _ _ _ _ _ hK hX _ _ _ h2
    | false => exact wpC_mono b _ _ _ _ _ hK hX _ _ _ h2
  | .bk id c, _, _, _, _, _, hK, hX, _, _, _, h => wpC_mono c _ _ _ _ _ hK (fun i e S dd h => by
      rw [Exits.set_at] at h ⊢
      by_cases hi : i = id
      · rw [if_pos hi] at h ⊢; exact hK _ _ _ h
      · rw [if_neg hi] at h ⊢; exact hX _ _ _ _ h) _ _ _ h
  | .lp c, _, _, _, _, _, _, hX, _, _, _, h => by
    obtain ⟨I, n, h0, h1⟩ := h
    exact ⟨I, n, h0, fun n e S dd hi => wpC_mono c _ _ _ _ _ (fun _ _ _ h => h) hX _ _ _ (h1 n e S dd hi)⟩
  | .ex _, _, _, _, _, _, _, hX, _, _, _, h => hX _ _ _ _ h
  | .rt, _, _, _, _, _, _, _, _, _, _, h => h
theorem wp_sqI {a b : DC} {K R : Post} {X : Exits} (W : List Nat) (I : Env → DS → Prop) (h1 : wpC P G a (fun e1 S1 dd => dd = [] ∧ Fr0 W e e1 ∧ I e1 S1) X R e S []) (h2 : ∀ e1 S1, Fr0 W e e1 → I e1 S1 → wpC P G b K X R e1 S1 []) : wpC P G (.sq a b) K X R e S [] :=
  wpC_mono a _ _ _ _ _ (fun _ _ _ ⟨hd, hf, hI⟩ => by subst hd; exact h2 _ _ hf hI) (fun _ _ _ _ h => h) _ _ _ h1
theorem wpO_append {K : Post} : ∀ (l m : List DOper) (e : Env) (S : DS) (dd : Dd), wpO P G base l (wpO P G base m K) e S dd → wpO P G base (l ++ m) K e S dd
  | [], _, _, _, _, h => h
  | _ :: l, m, _, _, _, h => opX_mono h fun _ _ _ h' => wpO_append l m _ _ _ h'
/-- The first n operations of a region; then the others. -/
theorem cutN {l : List DOper} {K : Post} (n : Nat) (W : List Nat) (I : Env → DS → Prop) (h1 : wpO P G base (l.take n) (fun e1 S1 dd => dd = [] ∧ Fr0 W e e1 ∧ I e1 S1) e S []) (h2 : ∀ e1 S1, Fr0 W e e1 → I e1 S1 → wpO P G base (l.drop n) K e1 S1 []) : wpO P G base l K e S [] := by
  rw [← List.take_append_drop n l]
  exact wpO_append _ _ _ _ _ (wpO_mono (fun _ _ _ ⟨hd, hf, hI⟩ => by subst hd; exact h2 _ _ hf hI) _ _ _ _ h1)
theorem wp_rgC {l : List DOper} {K R : Post} {X : Exits} (h : wpO P G S.nx l K e ⟨S.h, S.nx + na⟩ dd) : wpC P G (.rg na l) K X R e S dd := h
theorem ex_app {v : DV} {k j : Nat} {rows new : List (List DV)} {K : DV → Puts → Prop} (h : AppS S v k rows) (hsc : allScR new = true) (h1 : rows.length ≤ 1048576) (h2 : new.length ≤ 1048576) (hj : S.nx ≤ j) (hk : ∀ v' ps, (∀ m, j < m → AppS (DS.puts ⟨S.h, m⟩ ps) v' k (rows ++ new)) → K v' ps) : ∃ d ps, capA j k S.h v new = some (d, ps) ∧ K d ps := by
  cases new with
  | nil =>
    have hc : capA j k S.h v [] = some (v, []) := by
      obtain ⟨nf, tl, rfl, _⟩ := h
      rfl
    exact ⟨v, [], hc, hk v [] fun m hm => by
      rw [List.append_nil]
      show AppS ⟨S.h, m⟩ v k rows
      exact h.up (by omega)⟩
  | cons r new =>
    obtain ⟨v', ps, g1, g2⟩ := h.app (new := r :: new) (by simp) hsc h1 h2 hj
    exact ⟨v', ps, g1, hk v' ps g2⟩
end Go.Proofs.YtfmicbbflpkdgaaGreatDoor.D
/-
  Laws for contracts by hand, all in one set.
-/
namespace Go.Proofs.YtfmicbbflpkdgaaGreatDoor.D
attribute [go_sem] wp_rg wp_cd wp_bk wp_sk wp_ex wp_rt wpO_cons wpO_nil opx_oP opx_nP isP runO_t runO_f runN_t runN_f opx_call opx_callN opx_stf opx_g opx_h gOn_eq gOff_eq want bq_true bq_false dop ev evs evo evc evp ex_some some1_some upd_at puts_nil puts_cons put_nx puts_nx ex_bool cellsOf glob Nat.add_eq Nat.add_zero Nat.succ_eq_add_one Nat.beq_eq_true_eq Exits.set_at envA_at nth List.length_cons List.length_nil decide_true Nat.zero_add ofNat_cast dbin_lss dbin_gtr dbin_leq dbin_geq dbin_eql dbin_neq dbin_add dbin_sub dbin_seq dbin_sne dbin_slt dun_not dlen_str dlen_isl slck_isl cload didx_isl didxs didx0s rowsOf_isl rowsK lenN Int.ofNat_lt Int.ofNat_le dpart_none dpart_some1 dpart_some2 dpart_some3 dpart_some4 dpart_some7 dpart_some10 List.length_map rI rS eF eSg eCl eHr eIn eFn eUn ne_eq decide_not Int.ofNat_inj ifP_true ifP_false ifP_not eq_self decide_false not_true_eq_false not_false_eq_true Bool.not_true Bool.not_false true_implies false_implies and_true true_and opsOf wpH_nil wpH_0 wpH_1 afterH_eq rechA_cons rechA_nil rech_o ex_somev pickR inSl dstX readsX reads rdO rdL rdOO memN Bool.false_and Bool.and_true Bool.and_false Bool.true_and List.append_nil List.nil_append List.cons_append beqN
end Go.Proofs.YtfmicbbflpkdgaaGreatDoor.D
