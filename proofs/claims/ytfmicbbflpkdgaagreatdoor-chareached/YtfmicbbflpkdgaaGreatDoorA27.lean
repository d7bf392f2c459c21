/-
  Contracts: part 13: an instruction (the reference's): declares, checkCall.
-/
import Derived.Test.YtfmicbbflpkdgaaGreatDoorA26
set_option linter.unusedVariables false
set_option linter.unusedSimpArgs false
namespace Go.Proofs.YtfmicbbflpkdgaaGreatDoor.D
variable {P : Program}
def rechB (G : List (List DV)) (base d : Nat) (p : DOp) (e : Env) (S : DS) : Bool → Prop
  | true => ∃ v, dop G base e S.h p = some (v, []) ∧ e d = v
  | false => e d = .tup []
theorem rech_g {G : List (List DV)} {base d t : Nat} {b : Bool} {p : DOp} {e : Env} {S : DS} : Rech G base (.g d t b p) e S = rechB G base d p e S (want e t b) := by
  cases hw : want e t b <;> simp [Rech, qe, wantX, hw, opX, dstX, rechB]
/-- What is known of lists, whether they are nil and whether they may be appended to, goes. -/
def weakN : Nat → DV → DV
  | 0, d => d
  | Nat.succ n, d => match d with
    | .isl k _ rows _ => .isl k none (rows.map fun r => r.map (weakN n)) .no
    | .agg cs => .agg (cs.map (weakN n))
    | .tup cs => .tup (cs.map (weakN n))
    | d => d
theorem getD_mapW {α β : Type} (f : α → β) {l : List α} {i : Nat} {a : α} {b : β} (h : i < l.length) : (l.map f).getD i b = f (l.getD i a) := by
  simp [List.getD_eq_getElem?_getD, h]
theorem Rep.weakN {φ : Phi} {ρ : Rho} : ∀ (n : Nat) {v : Value} {d : DV}, Rep φ ρ v d → Rep φ ρ v (weakN n d)
  | 0, _, _, h => h
  | n + 1, v, d, h => by
    have ih : ∀ {v : Value} {d : DV}, Rep φ ρ v d → Rep φ ρ v (D.weakN n d) := fun h => Rep.weakN n h
    cases h with
    | isl a m C k nf rows tl c hn hC hk hnf hz hc hr ht =>
      refine .isl a m C k none _ .no c (by simpa using hn) hC ?_ (fun b hb => by cases hb) hz hc ?_ trivial
      · intro r hr'
        obtain ⟨r0, h0, rfl⟩ := List.mem_map.1 hr'
        simpa using hk r0 h0
      · intro i j hi hj
        have hi' : i < rows.length := by omega
        have hm := mem_getD (l := rows) (d := []) hi'
        rw [getD_mapW (a := []) _ hi', getD_mapW (a := .nilp) _ (by rw [hk _ hm]; exact hj)]
        exact ih (hr i j hi hj)
    | agg A cs hA h =>
      refine .agg A _ (by simpa using hA) fun i hi => ?_
      have hi' : i < cs.length := by simpa using hi
      rw [getD_mapW (a := .nilp) _ hi']
      exact ih (h i hi')
    | tup A cs hA h =>
      refine .tup A _ (by simpa using hA) fun i hi => ?_
      have hi' : i < cs.length := by simpa using hi
      rw [getD_mapW (a := .nilp) _ hi']
      exact ih (h i hi')
    | bool b => exact .bool b
    | int k n => exact .int k n
    | str s l h => exact .str s l h
    | nilp => exact .nilp
    | ptr b i o p h => exact .ptr b i o p h
    | iptr a row o c h1 h2 => exact .iptr a row o c h1 h2
    | sl a b i n C cap p h hC h1 h2 ha => exact .sl a b i n C cap p h hC h1 h2 ha
    | nilm => exact .nilm
    | map m p h => exact .map m p h
    | it m p h => exact .it m p h
    | func f A B fa fb hA hB h1 h2 => exact .func f A B fa fb hA hB h1 h2
    | nilf => exact .nilf
    | iface t v d h => exact .iface t v d h
    | nili => exact .nili
theorem Val.weak {G : List (List DV)} {f : Nat} {args : List DV} {V V' : DV → Prop} (n : Nat) (h : Val P G f args V) (hr : ∀ d, V d → V' (weakN n d)) : Val P G f args V' :=
  fun S => ⟨(h S).1, fun φ ρ w va hs ha => ((h S).2 φ ρ w va hs ha).mono fun e w' h => by
    cases e with
    | returned v => obtain ⟨d, φ', ρ', S', ⟨h1, h1'⟩, h2, h3⟩ := h; exact ⟨D.weakN n d, φ', ρ', S', ⟨hr _ h1, h1'⟩, h2.weakN n, h3⟩
    | panicked c => exact h
    | outgrown => exact h⟩
theorem f105w (ht : TabOk P gl tab.get) (h : NHier) (ho : HOk h) (c m : Str) : Val P gl 105 [.agg (eHr h), .str c, .str m] fun d => ∃ k s b, d = .tup [.str k, .agg (eSg s), .bool b] := by
  refine (f105 ht h c m ho.len ho.mlen).weak 4 fun d hd => ?_
  rw [hd]
  cases lookupN h c m with
  | none => exact ⟨[], ⟨[], false, [], []⟩, false, rfl⟩
  | some p =>
    refine ⟨p.1, p.2, true, ?_⟩
    have e1 : (p.2.params.map rS).map (fun r => r.map (weakN 1)) = p.2.params.map rS := by
      rw [List.map_map]
      apply List.map_congr_left
      intro a _
      rfl
    show DV.tup [.str p.1, .agg [.str p.2.name, .bool p.2.static, .isl 1 none ((p.2.params.map rS).map fun r => r.map (weakN 1)) .no, .str p.2.result], .bool true] = _
    rw [e1]
    rfl
theorem ret_cell2 {G : List (List DV)} {S : DS} {e : Env} {b c q k mode : Nat} {R : DV → DS → Prop} {w : DV} {v1 v2 v3 v4 : DV} (hq : e b = .ptr q 0 0) (hS : S.h q = some (.cells k [[v1, v2, v3, v4]])) (hw : fzH mode S.h (e c) = some (w, none)) (hm : fzH mode S.h (.agg [v1, v2, v3, v4]) = some (.agg [v1, v2, v3, v4], none))
    (hr : R (.tup [.agg [v1, v2, v3, v4], w]) S) : RetP P G [.c b (some 4), .t c] mode R e S [] := by
  rw [ret_nil]
  refine ⟨[.agg [v1, v2, v3, v4], e c], [.agg [v1, v2, v3, v4], w], S, ?_, by simp [fzL, hw, hm, killO], hr⟩
  simp only [resH, hq, cload, hS, nth, dpart_some4]
theorem f274 (ht : TabOk P gl tab.get) (h : NHier) (ho : HOk h) (c m : Str) : Val P gl 274 [.agg (eHr h), .str c, .str m] fun d => ∃ s b, d = .tup [.agg (eSg s), .bool b] := by
  have hl := ho.len
  refine Val.of_wp gl_ok ht (df := d274) rfl (cl_cons (.agg _ (cl_eHr h)) (cl_cons (.str _) (cl_cons (.str _) cl_nil))) (fun d hd => by obtain ⟨s, b, rfl⟩ := hd; exact .tup _ (cl_cons (.agg _ (cl_eSg s)) (cl_cons (.bool _) cl_nil))) ?_
  simp only [d274, go_sem, wp_sq, reduceIte, Nat.reduceEqDiff, Nat.reduceAdd, Nat.reduceBEq, reduceCtorEq]
  refine ex_call (f105w ht h ho _ _) ?_
  rintro _ ⟨k, s, b, rfl⟩
  simp only [go_sem, wp_sq, reduceIte, Nat.reduceEqDiff, Nat.reduceAdd, Nat.reduceBEq, reduceCtorEq]
  refine ⟨_, _, _, rfl, rfl, rfl, rfl, rfl, ?_⟩
  simp only [go_sem, wp_sq, reduceIte, Nat.reduceEqDiff, Nat.reduceAdd, Nat.reduceBEq, reduceCtorEq]
  refine wp_rdH ?_
  have fin : ∀ {e : Env} {S : DS} {b : Bool}, e 6 = .ptr 0 0 0 → S.h 0 = some (.cells 4 [eSg s]) → e 7 = .bool b → RetP P gl [.c 6 (some 4), .t 7] 2 (fun d _ => ∃ s b, d = .tup [.agg (eSg s), .bool b]) e S [] := fun h1 h2 h3 => ret_cell2 h1 h2 (by rw [h3]; rfl) rfl ⟨s, _, rfl⟩
  cases b with
  | false =>
    simp only [go_sem, wp_sq, reduceIte, Nat.reduceEqDiff, Nat.reduceAdd, Nat.reduceBEq, reduceCtorEq, rech_g, rechB]
    exact ⟨.tup [], [(0, some (.cells 4 [eSg s]))], rfl, fin rfl rfl rfl⟩
  | true =>
    cases hst : s.static <;> (
      simp only [go_sem, wp_sq, reduceIte, Nat.reduceEqDiff, Nat.reduceAdd, Nat.reduceBEq, reduceCtorEq, rech_g, rechB]
      repeat' (first | (refine wp_rdH ?_; simp only [go_sem, wp_sq, reduceIte, Nat.reduceEqDiff, Nat.reduceAdd, Nat.reduceBEq, reduceCtorEq, rech_g, rechB]) | (refine ifP_dc (fun hp => ?_) (fun hp => ?_) <;> try simp only [go_sem, wp_sq, reduceIte, Nat.reduceEqDiff, Nat.reduceAdd, Nat.reduceBEq, reduceCtorEq, rech_g, rechB, hp]) | (refine ifP_b (fun hp => ?_) (fun hp => ?_) <;> try simp only [go_sem, wp_sq, reduceIte, Nat.reduceEqDiff, Nat.reduceAdd, Nat.reduceBEq, reduceCtorEq, rech_g, rechB, hp]))
      all_goals first | exact ⟨_, _, rfl, ret_cell2 (q := 0) (k := 4) (w := .bool _) rfl rfl rfl rfl ⟨⟨s.name, true, s.params, s.result⟩, _, rfl⟩⟩ | exact ⟨_, _, rfl, ret_cell2 (q := 0) (k := 4) (w := .bool _) rfl rfl rfl rfl ⟨⟨s.name, false, s.params, s.result⟩, _, rfl⟩⟩)
theorem f245 (ht : TabOk P gl tab.get) (h : NHier) (ho : HOk h) (f : NFunc) (hf0 : FOk f) (x : NInstr) (hx : x.args.length ≤ 1048576) (hr : RangeOk f x) (hop : x.op = 9 ∨ x.op = 10) : Val P gl 245 [.agg (eHr h), .agg (eFn f), .agg (eIn x)] fun d => ∃ z, d = .int .i64 z := by
  have hl := ho.len
  have hl2 : h.length < 4611686018427387904 := by omega
  have har : ∀ z, z ∈ x.args → 0 ≤ z ∧ z < f.vars.length := fun z hz => hr.uses _ (useL (by rcases hop with h | h <;> rw [h] <;> rfl) hz)
  have hdst : x.dst ≠ -1 → 0 ≤ x.dst ∧ x.dst < f.vars.length := fun hn => by
    rcases hr.dst (by rcases hop with h | h <;> rw [h] <;> rfl) with h | h
    · exact h
    · exact absurd h.2 hn
  refine Val.of_wp gl_ok ht (df := d245) rfl (cl_cons (.agg _ (cl_eHr h)) (cl_cons (.agg _ (cl_eFn f)) (cl_cons (.agg _ (cl_eIn x)) cl_nil))) (fun d hd => by obtain ⟨b, rfl⟩ := hd; exact .int _ _) ?_
  simp only [d245, go_sem, reduceIte, Nat.reduceEqDiff, Nat.reduceAdd, Nat.reduceBEq, reduceCtorEq]
  rw [wp_sq]
  simp only [go_sem, reduceIte, Nat.reduceEqDiff, Nat.reduceAdd, Nat.reduceBEq, reduceCtorEq]
  rw [wp_sq]
  simp only [go_sem, reduceIte, Nat.reduceEqDiff, Nat.reduceAdd, Nat.reduceBEq, reduceCtorEq, dBuild]
  refine ⟨.tup [], [(0, some (.cells 4 [zSg]))], rfl, ?_⟩
  refine wp_sqI [8] (fun e S => S.h 0 = some (.cells 4 [zSg])) ?_ ?_
  · simp only [go_sem, wp_sq, reduceIte, Nat.reduceEqDiff, Nat.reduceAdd, Nat.reduceBEq, reduceCtorEq]
    exact ⟨by repeat' first | exact hf | exact rfl | exact Fr0.refl _ _ | apply Fr0.upd | exact hf2 | refine Fr0.sub hf2 rfl ?_ | refine Fr0.sub hf rfl ?_, rfl⟩
  rintro e1 S1 hf1 hS1
  have k3 : e1 3 = .iptr (eHr h) 0 := hf1 3 rfl
  have k4 : e1 4 = .iptr (eFn f) 0 := hf1 4 rfl
  have k5 : e1 5 = .iptr (eIn x) 0 := hf1 5 rfl
  have k7 : e1 7 = .ptr 0 0 0 := hf1 7 rfl
  clear hf1
  refine wp_sqI ([6, 8, 9] ++ [12, 13, 14, 15, 16, 17, 18, 19, 20, 21, 22, 23, 24, 25, 26, 27, 28, 29, 30, 31, 32, 33, 34, 35, 36, 37, 38, 39, 40, 41, 42, 43, 44, 45, 46, 47, 48, 49, 50, 51, 52, 53, 54, 55]) (fun e S => Keep (∃ b, e 8 = .bool b ∧ (b = true → ∃ s, S.h 0 = some (.cells 4 [eSg s])))) ?_ ?_
  · simp only [go_sem, wp_sq, reduceIte, Nat.reduceEqDiff, Nat.reduceAdd, Nat.reduceBEq, reduceCtorEq, k3, k4, k5, k7]
    refine ifP_dc (fun hp => ?_) (fun hp => ?_)
    · have h9 : x.op = 9 := of_decide_eq_true hp
      have hau := hr.uses _ (useA (by rw [h9]; rfl) (.inl (by rw [h9]; decide)))
      have gal : x.a.toNat < f.vars.length := by omega
      have ga := didx_int (enc := eF) (k := 2) (nf := none) (l := f.vars) (tl := .no) (kd := .i64) hau.1 gal
      simp only [go_sem, wp_sq, reduceIte, Nat.reduceEqDiff, Nat.reduceAdd, Nat.reduceBEq, reduceCtorEq, k3, k4, k5, k7, ga]
      refine ex_call (f242 ht h _ hl2) ?_
      rintro _ rfl
      simp only [go_sem, wp_sq, reduceIte, Nat.reduceEqDiff, Nat.reduceAdd, Nat.reduceBEq, reduceCtorEq, k3, k4, k5, k7]
      repeat' (refine ifP_dc (fun hp => ?_) (fun hp => ?_) <;> try simp only [go_sem, wp_sq, reduceIte, Nat.reduceEqDiff, Nat.reduceAdd, Nat.reduceBEq, reduceCtorEq, k3, k4, k5, k7, hp])
      all_goals first | (refine ret_one (b := none) rfl ?_; exact ⟨_, rfl⟩) | skip
      refine ex_call (f105w ht h ho _ _) ?_
      rintro _ ⟨k, s, b, rfl⟩
      simp only [go_sem, wp_sq, reduceIte, Nat.reduceEqDiff, Nat.reduceAdd, Nat.reduceBEq, reduceCtorEq, k3, k4, k5, k7, hS1, zSg, setN, putN, allSc, bleN, Nat.le_refl, ds_put, put_same]
      cases b <;> cases hst : s.static <;> (
        simp only [go_sem, wp_sq, reduceIte, Nat.reduceEqDiff, Nat.reduceAdd, Nat.reduceBEq, reduceCtorEq, k3, k4, k5, k7, ds_put, put_same, hst]
        (refine ⟨by repeat' first | exact hf | exact rfl | exact Fr0.refl _ _ | apply Fr0.upd | exact hf2 | refine Fr0.sub hf2 rfl ?_ | refine Fr0.sub hf rfl ?_, ?_⟩; unfold Keep; first | trivial | exact ⟨⟨s.name, true, s.params, s.result⟩, rfl⟩ | exact ⟨⟨s.name, false, s.params, s.result⟩, rfl⟩ | exact ⟨s, rfl⟩ | exact fun _ => ⟨s, rfl⟩ | trace_state))
    · simp only [go_sem, wp_sq, reduceIte, Nat.reduceEqDiff, Nat.reduceAdd, Nat.reduceBEq, reduceCtorEq, k3, k4, k5, k7]
      refine ex_call (f274 ht h ho _ _) ?_
      rintro _ ⟨s, b, rfl⟩
      simp only [go_sem, wp_sq, reduceIte, Nat.reduceEqDiff, Nat.reduceAdd, Nat.reduceBEq, reduceCtorEq, k3, k4, k5, k7, hS1, zSg, setN, putN, allSc, bleN, Nat.le_refl, ds_put, put_same]
      (refine ⟨by repeat' first | exact hf | exact rfl | exact Fr0.refl _ _ | apply Fr0.upd | exact hf2 | refine Fr0.sub hf2 rfl ?_ | refine Fr0.sub hf rfl ?_, ?_⟩; unfold Keep; first | trivial | exact ⟨⟨s.name, true, s.params, s.result⟩, rfl⟩ | exact ⟨⟨s.name, false, s.params, s.result⟩, rfl⟩ | exact ⟨s, rfl⟩ | exact fun _ => ⟨s, rfl⟩ | trace_state)
  rintro e2 S2 hf2 hK
  unfold Keep at hK
  obtain ⟨b8, h8, hs8⟩ := hK
  have m3 : e2 3 = .iptr (eHr h) 0 := (hf2 3 rfl).trans k3
  have m4 : e2 4 = .iptr (eFn f) 0 := (hf2 4 rfl).trans k4
  have m5 : e2 5 = .iptr (eIn x) 0 := (hf2 5 rfl).trans k5
  have m7 : e2 7 = .ptr 0 0 0 := (hf2 7 rfl).trans k7
  clear hf2 k3 k4 k5 k7 hS1
  cases b8 with
  | false =>
    simp only [go_sem, wp_sq, reduceIte, Nat.reduceEqDiff, Nat.reduceAdd, Nat.reduceBEq, reduceCtorEq, h8]
    (refine ret_one (b := none) rfl ?_; exact ⟨_, rfl⟩)
  | true =>
    obtain ⟨s, hS2⟩ := hs8 rfl
    simp only [go_sem, wp_sq, reduceIte, Nat.reduceEqDiff, Nat.reduceAdd, Nat.reduceBEq, reduceCtorEq, h8, m3, m4, m5, m7, hS2]
    refine ifP_dc (fun hp => ?_) (fun hp => ?_)
    rotate_left
    · simp only [go_sem, wp_sq, reduceIte, Nat.reduceEqDiff, Nat.reduceAdd, Nat.reduceBEq, reduceCtorEq]
      (refine ret_one (b := none) rfl ?_; exact ⟨_, rfl⟩)
    have hpl : s.params.length = x.args.length := of_decide_eq_true hp
    simp only [go_sem, wp_sq, reduceIte, Nat.reduceEqDiff, Nat.reduceAdd, Nat.reduceBEq, reduceCtorEq]
    refine wp_lpE [6, 10, 65, 66, 67, 68, 69, 70, 71, 72, 73, 74, 75, 76, 77, 78, 79, 80, 81, 82, 83, 84, 85, 86, 87, 88, 89] (fun n e S => Idx x.args.length 10 n e ∧ S.h 0 = some (.cells 4 [eSg s])) x.args.length ?_ ?_
    · exact ⟨Idx.zero rfl, hS2⟩
    rintro n e S ⟨⟨i, hn, hi, hx10⟩, hS⟩ hf
    have q3 : e 3 = .iptr (eHr h) 0 := (show e 3 = e2 3 from hf 3 rfl).trans m3
    have q4 : e 4 = .iptr (eFn f) 0 := (show e 4 = e2 4 from hf 4 rfl).trans m4
    have q5 : e 5 = .iptr (eIn x) 0 := (show e 5 = e2 5 from hf 5 rfl).trans m5
    have q7 : e 7 = .ptr 0 0 0 := (show e 7 = e2 7 from hf 7 rfl).trans m7
    have hw := wrap_succ (i := i) (by omega)
    by_cases h1 : i < x.args.length
    · have h2 : i < s.params.length := by omega
      have hz := har _ (List.getElem_mem h1)
      have gzl : x.args[i].toNat < f.vars.length := by omega
      have gz := didx_int (enc := eF) (k := 2) (nf := none) (l := f.vars) (tl := .no) (kd := .i64) hz.1 gzl
      simp only [go_sem, wp_sq, reduceIte, Nat.reduceEqDiff, Nat.reduceAdd, Nat.reduceBEq, reduceCtorEq, q3, q4, q5, q7, hx10, hw, h1, h2, hS, gz]
      refine wp_rdH ?_
      simp only [go_sem, wp_sq, reduceIte, Nat.reduceEqDiff, Nat.reduceAdd, Nat.reduceBEq, reduceCtorEq, q3, q4, q5, q7, hx10, hw, h1, h2, hS, gz]
      refine ex_call (f243 ht h _ _ hl) ?_
      rintro _ ⟨b, rfl⟩
      simp only [go_sem, wp_sq, reduceIte, Nat.reduceEqDiff, Nat.reduceAdd, Nat.reduceBEq, reduceCtorEq, q3, q4, q5, q7, hx10, hw, h1, h2, hS]
      refine ifP_b (fun hb => ?_) (fun hb => ?_)
      · simp only [go_sem, wp_sq, reduceIte, Nat.reduceEqDiff, Nat.reduceAdd, Nat.reduceBEq, reduceCtorEq, hx10, hw]
        exact ⟨_, by omega, rfl, (by repeat' first | exact hf | exact rfl | exact Fr0.refl _ _ | apply Fr0.upd | exact hf2 | refine Fr0.sub hf2 rfl ?_ | refine Fr0.sub hf rfl ?_), ⟨i + 1, rfl, by omega, rfl⟩, hS⟩
      · simp only [go_sem, wp_sq, reduceIte, Nat.reduceEqDiff, Nat.reduceAdd, Nat.reduceBEq, reduceCtorEq]
        (refine ret_one (b := none) rfl ?_; exact ⟨_, rfl⟩)
    · simp only [go_sem, wp_sq, reduceIte, Nat.reduceEqDiff, Nat.reduceAdd, Nat.reduceBEq, reduceCtorEq, q3, q4, q5, q7, hx10, hw, h1, hS]
      refine wp_rdH ?_
      by_cases hd1 : x.dst = -1
      · have e1 : decide (x.dst = -1) = true := decide_eq_true hd1
        simp only [go_sem, wp_sq, reduceIte, Nat.reduceEqDiff, Nat.reduceAdd, Nat.reduceBEq, reduceCtorEq, q3, q4, q5, q7, hS, e1]
        (refine ret_one (b := none) rfl ?_; exact ⟨_, rfl⟩)
      · have e1 : decide (x.dst = -1) = false := decide_eq_false hd1
        have hdd := hdst hd1
        have gdl : x.dst.toNat < f.vars.length := by omega
        have gd := didx_int (enc := eF) (k := 2) (nf := none) (l := f.vars) (tl := .no) (kd := .i64) hdd.1 gdl
        simp only [go_sem, wp_sq, reduceIte, Nat.reduceEqDiff, Nat.reduceAdd, Nat.reduceBEq, reduceCtorEq, q3, q4, q5, q7, hS, e1, gd]
        repeat' (first | (refine wp_rdH ?_; simp only [go_sem, wp_sq, reduceIte, Nat.reduceEqDiff, Nat.reduceAdd, Nat.reduceBEq, reduceCtorEq, q3, q4, q5, q7, hS, e1, gd]) | (refine ifP_dc (fun hp => ?_) (fun hp => ?_) <;> try simp only [go_sem, wp_sq, reduceIte, Nat.reduceEqDiff, Nat.reduceAdd, Nat.reduceBEq, reduceCtorEq, q3, q4, q5, q7, hS, e1, gd, hp]) | (refine ex_call (f243 ht h _ _ hl) ?_; rintro _ (⟨b, rfl⟩); try simp only [go_sem, wp_sq, reduceIte, Nat.reduceEqDiff, Nat.reduceAdd, Nat.reduceBEq, reduceCtorEq, q3, q4, q5, q7, hS, e1, gd]) | (refine ifP_b (fun hp => ?_) (fun hp => ?_) <;> try simp only [go_sem, wp_sq, reduceIte, Nat.reduceEqDiff, Nat.reduceAdd, Nat.reduceBEq, reduceCtorEq, q3, q4, q5, q7, hS, e1, gd, hp]))
        all_goals (refine ret_one (b := none) rfl ?_; exact ⟨_, rfl⟩)
end Go.Proofs.YtfmicbbflpkdgaaGreatDoor.D
/-
  Contracts: part 14: an instruction (the reference's): types, instr.
-/
namespace Go.Proofs.YtfmicbbflpkdgaaGreatDoor.D
variable {P : Program}
theorem keq0 {a b : Bool} : kEq 0 (.bool a) (.bool b) = some (a == b) := by cases a <;> cases b <;> rfl
theorem ngB_t {b : Bool} : ngB true b = !b := rfl
theorem f202 (ht : TabOk P gl tab.get) (h : NHier) (ho : HOk h) (f : NFunc) (hf0 : FOk f) (x : NInstr) (hx : x.args.length ≤ 1048576) (hr : RangeOk f x) : Val P gl 202 [.agg (eHr h), .agg (eFn f), .agg (eIn x)] fun d => ∃ z, d = .int .i64 z := by
  have hl := ho.len
  have hl2 : h.length < 4611686018427387904 := by omega
  refine Val.of_wp gl_ok ht (df := d202) rfl (cl_cons (.agg _ (cl_eHr h)) (cl_cons (.agg _ (cl_eFn f)) (cl_cons (.agg _ (cl_eIn x)) cl_nil))) (fun d hd => by obtain ⟨b, rfl⟩ := hd; exact .int _ _) ?_
  by_cases hA : x.op = 6 ∨ x.op = 15
  · have hd : 0 ≤ x.dst ∧ x.dst < f.vars.length := by
      rcases hr.dst (by rcases hA with h | h <;> rw [h] <;> rfl) with h | h
      · exact h
      · rcases h.1 with h | h <;> rcases hA with h' | h' <;> rw [h'] at h <;> exact absurd h (by decide)
    have gdl : x.dst.toNat < f.vars.length := by omega
    have gd := didx_int (enc := eF) (k := 2) (nf := none) (l := f.vars) (tl := .no) (kd := .i64) hd.1 gdl
    have d6 : decide (x.op = 6) = true ∨ decide (x.op = 6) = false ∧ decide (x.op = 15) = true := by
      rcases hA with h | h
      · exact .inl (decide_eq_true h)
      · exact .inr ⟨decide_eq_false (by rw [h]; decide), decide_eq_true h⟩
    rcases d6 with d6 | ⟨d6, d15⟩
    · simp only [d202, go_sem, wp_sq, reduceIte, Nat.reduceEqDiff, Nat.reduceAdd, Nat.reduceBEq, reduceCtorEq, d6, gd]
      repeat' (first | (refine wp_rdH ?_; simp only [go_sem, wp_sq, reduceIte, Nat.reduceEqDiff, Nat.reduceAdd, Nat.reduceBEq, reduceCtorEq, d6, gd]) | (refine ifP_dc (fun hp => ?_) (fun hp => ?_) <;> try simp only [go_sem, wp_sq, reduceIte, Nat.reduceEqDiff, Nat.reduceAdd, Nat.reduceBEq, reduceCtorEq, d6, gd, hp]) | (refine ex_call (f242 ht h _ hl2) ?_; rintro _ rfl; try simp only [go_sem, wp_sq, reduceIte, Nat.reduceEqDiff, Nat.reduceAdd, Nat.reduceBEq, reduceCtorEq, d6, gd]) | (refine ex_call (f243 ht h _ _ hl) ?_; rintro _ (⟨b, rfl⟩); try simp only [go_sem, wp_sq, reduceIte, Nat.reduceEqDiff, Nat.reduceAdd, Nat.reduceBEq, reduceCtorEq, d6, gd]) | (refine ifP_b (fun hp => ?_) (fun hp => ?_) <;> try simp only [go_sem, wp_sq, reduceIte, Nat.reduceEqDiff, Nat.reduceAdd, Nat.reduceBEq, reduceCtorEq, d6, gd, hp]))
      all_goals (refine ret_one (b := none) rfl ?_; exact ⟨_, rfl⟩)
    · simp only [d202, go_sem, wp_sq, reduceIte, Nat.reduceEqDiff, Nat.reduceAdd, Nat.reduceBEq, reduceCtorEq, d6, d15, gd]
      repeat' (first | (refine wp_rdH ?_; simp only [go_sem, wp_sq, reduceIte, Nat.reduceEqDiff, Nat.reduceAdd, Nat.reduceBEq, reduceCtorEq, d6, d15, gd]) | (refine ifP_dc (fun hp => ?_) (fun hp => ?_) <;> try simp only [go_sem, wp_sq, reduceIte, Nat.reduceEqDiff, Nat.reduceAdd, Nat.reduceBEq, reduceCtorEq, d6, d15, gd, hp]) | (refine ex_call (f242 ht h _ hl2) ?_; rintro _ rfl; try simp only [go_sem, wp_sq, reduceIte, Nat.reduceEqDiff, Nat.reduceAdd, Nat.reduceBEq, reduceCtorEq, d6, d15, gd]) | (refine ex_call (f243 ht h _ _ hl) ?_; rintro _ (⟨b, rfl⟩); try simp only [go_sem, wp_sq, reduceIte, Nat.reduceEqDiff, Nat.reduceAdd, Nat.reduceBEq, reduceCtorEq, d6, d15, gd]) | (refine ifP_b (fun hp => ?_) (fun hp => ?_) <;> try simp only [go_sem, wp_sq, reduceIte, Nat.reduceEqDiff, Nat.reduceAdd, Nat.reduceBEq, reduceCtorEq, d6, d15, gd, hp]))
      all_goals (refine ret_one (b := none) rfl ?_; exact ⟨_, rfl⟩)
  have d6 : decide (x.op = 6) = false := decide_eq_false fun h => hA (.inl h)
  have d15 : decide (x.op = 15) = false := decide_eq_false fun h => hA (.inr h)
  by_cases hB : x.op = 7 ∨ x.op = 8
  · simp only [d202, go_sem, wp_sq, reduceIte, Nat.reduceEqDiff, Nat.reduceAdd, Nat.reduceBEq, reduceCtorEq, d6, d15]
    repeat' (first | (refine wp_rdH ?_; simp only [go_sem, wp_sq, reduceIte, Nat.reduceEqDiff, Nat.reduceAdd, Nat.reduceBEq, reduceCtorEq, d6, d15]) | (refine ifP_dc (fun hp => ?_) (fun hp => ?_) <;> try simp only [go_sem, wp_sq, reduceIte, Nat.reduceEqDiff, Nat.reduceAdd, Nat.reduceBEq, reduceCtorEq, d6, d15, hp]) | (refine ex_call (f244 ht h ho f x hr hB) ?_; rintro _ (⟨z, rfl⟩); try simp only [go_sem, wp_sq, reduceIte, Nat.reduceEqDiff, Nat.reduceAdd, Nat.reduceBEq, reduceCtorEq, d6, d15]) | (refine ifP_b (fun hp => ?_) (fun hp => ?_) <;> try simp only [go_sem, wp_sq, reduceIte, Nat.reduceEqDiff, Nat.reduceAdd, Nat.reduceBEq, reduceCtorEq, d6, d15, hp]))
    all_goals first | (refine ret_one (b := none) rfl ?_; exact ⟨_, rfl⟩) | (exfalso; rcases hB with h | h <;> simp_all)
  have d7 : decide (x.op = 7) = false := decide_eq_false fun h => hB (.inl h)
  have d8 : decide (x.op = 8) = false := decide_eq_false fun h => hB (.inr h)
  by_cases hC : x.op = 9 ∨ x.op = 10
  · simp only [d202, go_sem, wp_sq, reduceIte, Nat.reduceEqDiff, Nat.reduceAdd, Nat.reduceBEq, reduceCtorEq, d6, d15, d7, d8]
    repeat' (first | (refine wp_rdH ?_; simp only [go_sem, wp_sq, reduceIte, Nat.reduceEqDiff, Nat.reduceAdd, Nat.reduceBEq, reduceCtorEq, d6, d15, d7, d8]) | (refine ifP_dc (fun hp => ?_) (fun hp => ?_) <;> try simp only [go_sem, wp_sq, reduceIte, Nat.reduceEqDiff, Nat.reduceAdd, Nat.reduceBEq, reduceCtorEq, d6, d15, d7, d8, hp]) | (refine ex_call (f245 ht h ho f hf0 x hx hr hC) ?_; rintro _ (⟨z, rfl⟩); try simp only [go_sem, wp_sq, reduceIte, Nat.reduceEqDiff, Nat.reduceAdd, Nat.reduceBEq, reduceCtorEq, d6, d15, d7, d8]) | (refine ifP_b (fun hp => ?_) (fun hp => ?_) <;> try simp only [go_sem, wp_sq, reduceIte, Nat.reduceEqDiff, Nat.reduceAdd, Nat.reduceBEq, reduceCtorEq, d6, d15, d7, d8, hp]))
    all_goals first | (refine ret_one (b := none) rfl ?_; exact ⟨_, rfl⟩) | (exfalso; rcases hC with h | h <;> simp_all)
  have d9 : decide (x.op = 9) = false := decide_eq_false fun h => hC (.inl h)
  have d10 : decide (x.op = 10) = false := decide_eq_false fun h => hC (.inr h)
  simp only [d202, go_sem, wp_sq, reduceIte, Nat.reduceEqDiff, Nat.reduceAdd, Nat.reduceBEq, reduceCtorEq, d6, d15, d7, d8, d9, d10, keq0, ngB_t]
  repeat' (first | (refine wp_rdH ?_; simp only [go_sem, wp_sq, reduceIte, Nat.reduceEqDiff, Nat.reduceAdd, Nat.reduceBEq, reduceCtorEq, d6, d15, d7, d8, d9, d10, keq0, ngB_t]) | (refine ifP_dc (fun hp => ?_) (fun hp => ?_) <;> try simp only [go_sem, wp_sq, reduceIte, Nat.reduceEqDiff, Nat.reduceAdd, Nat.reduceBEq, reduceCtorEq, d6, d15, d7, d8, d9, d10, keq0, ngB_t, hp]) | (refine ex_call (f246 ht h ho f x hr (fun h => hC (.inl h)) (fun h => hC (.inr h))) ?_; rintro _ (⟨b, rfl⟩); try simp only [go_sem, wp_sq, reduceIte, Nat.reduceEqDiff, Nat.reduceAdd, Nat.reduceBEq, reduceCtorEq, d6, d15, d7, d8, d9, d10, keq0, ngB_t]) | (refine ifP_b (fun hp => ?_) (fun hp => ?_) <;> try simp only [go_sem, wp_sq, reduceIte, Nat.reduceEqDiff, Nat.reduceAdd, Nat.reduceBEq, reduceCtorEq, d6, d15, d7, d8, d9, d10, keq0, ngB_t, hp]))
  all_goals first | (refine ret_one (b := none) rfl ?_; exact ⟨_, rfl⟩) | trace_state
theorem f144 (ht : TabOk P gl tab.get) (h : NHier) (ho : HOk h) (f : NFunc) (hf0 : FOk f) (i : Nat) (hi : i < f.code.length) : Val P gl 144 [.agg (eHr h), .agg (eFn f), .int .i64 i] fun d => ∃ z, d = .int .i64 z := by
  have hx := hf0.alen _ (List.getElem_mem hi)
  refine Val.of_wp gl_ok ht (df := d144) rfl (cl_cons (.agg _ (cl_eHr h)) (cl_cons (.agg _ (cl_eFn f)) (cl_cons (.int _ _) cl_nil))) (fun d hd => by obtain ⟨b, rfl⟩ := hd; exact .int _ _) ?_
  simp only [d144, go_sem, wp_sq, reduceIte, Nat.reduceEqDiff, Nat.reduceAdd, Nat.reduceBEq, reduceCtorEq, hi]
  refine ⟨_, _, _, rfl, rfl, rfl, rfl, rfl, ?_⟩
  simp only [go_sem, wp_sq, reduceIte, Nat.reduceEqDiff, Nat.reduceAdd, Nat.reduceBEq, reduceCtorEq]
  repeat' (first | (refine wp_rdH ?_; simp only [go_sem, wp_sq, reduceIte, Nat.reduceEqDiff, Nat.reduceAdd, Nat.reduceBEq, reduceCtorEq]) | (refine ifP_dc (fun hp => ?_) (fun hp => ?_) <;> try simp only [go_sem, wp_sq, reduceIte, Nat.reduceEqDiff, Nat.reduceAdd, Nat.reduceBEq, reduceCtorEq, hp]) | (refine ex_call (f198 ht _) ?_; rintro _ rfl; try simp only [go_sem, wp_sq, reduceIte, Nat.reduceEqDiff, Nat.reduceAdd, Nat.reduceBEq, reduceCtorEq]) | (refine ex_call (f199 ht f.code[i]) ?_; rintro _ (⟨b, rfl⟩); try simp only [go_sem, wp_sq, reduceIte, Nat.reduceEqDiff, Nat.reduceAdd, Nat.reduceBEq, reduceCtorEq]) | (refine ifP_b (fun hp => ?_) (fun hp => ?_) <;> try simp only [go_sem, wp_sq, reduceIte, Nat.reduceEqDiff, Nat.reduceAdd, Nat.reduceBEq, reduceCtorEq, hp]))
  all_goals first | (refine ret_one (b := none) rfl ?_; exact ⟨_, rfl⟩) | skip
  all_goals (
    refine ex_call (f200 ht f f.code[i] hf0 hx) ?_
    rintro _ ⟨b, rfl, hb⟩
    simp only [go_sem, wp_sq, reduceIte, Nat.reduceEqDiff, Nat.reduceAdd, Nat.reduceBEq, reduceCtorEq]
    refine ifP_b (fun hp => ?_) (fun hp => ?_)
    rotate_left
    · simp only [go_sem, wp_sq, reduceIte, Nat.reduceEqDiff, Nat.reduceAdd, Nat.reduceBEq, reduceCtorEq]
      (refine ret_one (b := none) rfl ?_; exact ⟨_, rfl⟩)
    have hr := hb hp
    simp only [go_sem, wp_sq, reduceIte, Nat.reduceEqDiff, Nat.reduceAdd, Nat.reduceBEq, reduceCtorEq]
    repeat' (first | (refine wp_rdH ?_; simp only [go_sem, wp_sq, reduceIte, Nat.reduceEqDiff, Nat.reduceAdd, Nat.reduceBEq, reduceCtorEq]) | (refine ifP_dc (fun hp => ?_) (fun hp => ?_) <;> try simp only [go_sem, wp_sq, reduceIte, Nat.reduceEqDiff, Nat.reduceAdd, Nat.reduceBEq, reduceCtorEq, hp]) | (refine ex_call (f201 ht f hf0 i hi hr) ?_; rintro _ (⟨b, rfl⟩); try simp only [go_sem, wp_sq, reduceIte, Nat.reduceEqDiff, Nat.reduceAdd, Nat.reduceBEq, reduceCtorEq]) | (refine ex_call (f202 ht h ho f hf0 f.code[i] hx hr) ?_; rintro _ (⟨z, rfl⟩); try simp only [go_sem, wp_sq, reduceIte, Nat.reduceEqDiff, Nat.reduceAdd, Nat.reduceBEq, reduceCtorEq]) | (refine ifP_b (fun hp => ?_) (fun hp => ?_) <;> try simp only [go_sem, wp_sq, reduceIte, Nat.reduceEqDiff, Nat.reduceAdd, Nat.reduceBEq, reduceCtorEq, hp]))
    all_goals (refine ret_one (b := none) rfl ?_; exact ⟨_, rfl⟩))
theorem f196 (ht : TabOk P gl tab.get) (s : Str) (hs : s.length < 4611686018427387904) : Val P gl 196 [.str s] fun d => ∃ b, d = .bool b := by
  refine Val.of_wp gl_ok ht (df := d196) rfl (cl_cons (.str _) cl_nil) (fun d hd => by obtain ⟨b, rfl⟩ := hd; exact .bool _) ?_
  simp only [d196, go_sem, wp_sq, reduceIte, Nat.reduceEqDiff, Nat.reduceAdd, Nat.reduceBEq, reduceCtorEq]
  refine wp_lpE [2, 3, 4, 5, 6, 7, 8, 9, 10, 11, 12, 13, 14, 15, 16, 17, 18, 19] (fun n e _ => Idx s.length 3 n e) s.length (Idx.zero rfl) ?_
  rintro n e S ⟨i, hn, hi, hx⟩ hf
  have hs0 : e 0 = .str s := hf 0 rfl
  have hw := wrap_succ (i := i) (by omega)
  by_cases h1 : i < s.length
  · simp only [go_sem, wp_sq, reduceIte, Nat.reduceEqDiff, Nat.reduceAdd, Nat.reduceBEq, reduceCtorEq, hs0, hx, hw, h1]
    repeat' (first | (refine wp_rdH ?_; simp only [go_sem, wp_sq, reduceIte, Nat.reduceEqDiff, Nat.reduceAdd, Nat.reduceBEq, reduceCtorEq, hs0, hx, hw, h1]) | (refine ifP_dc (fun hp => ?_) (fun hp => ?_) <;> try simp only [go_sem, wp_sq, reduceIte, Nat.reduceEqDiff, Nat.reduceAdd, Nat.reduceBEq, reduceCtorEq, hs0, hx, hw, h1, hp]) | (refine ifP_b (fun hp => ?_) (fun hp => ?_) <;> try simp only [go_sem, wp_sq, reduceIte, Nat.reduceEqDiff, Nat.reduceAdd, Nat.reduceBEq, reduceCtorEq, hs0, hx, hw, h1, hp]))
    all_goals first | (refine ret_one (b := none) rfl ?_; exact ⟨_, rfl⟩) | exact ⟨_, by omega, rfl, (by repeat' first | exact hf | exact rfl | exact Fr0.refl _ _ | apply Fr0.upd | exact hf2 | refine Fr0.sub hf2 rfl ?_ | refine Fr0.sub hf rfl ?_), i + 1, rfl, by omega, rfl⟩
  · simp only [go_sem, wp_sq, reduceIte, Nat.reduceEqDiff, Nat.reduceAdd, Nat.reduceBEq, reduceCtorEq, hs0, hx, hw, h1]
    cases s with
    | nil =>
      repeat' (first | (refine wp_rdH ?_; simp only [go_sem, wp_sq, reduceIte, Nat.reduceEqDiff, Nat.reduceAdd, Nat.reduceBEq, reduceCtorEq, hs0, hx, hw, h1]) | (refine ifP_dc (fun hp => ?_) (fun hp => ?_) <;> try simp only [go_sem, wp_sq, reduceIte, Nat.reduceEqDiff, Nat.reduceAdd, Nat.reduceBEq, reduceCtorEq, hs0, hx, hw, h1, hp]) | (refine ifP_b (fun hp => ?_) (fun hp => ?_) <;> try simp only [go_sem, wp_sq, reduceIte, Nat.reduceEqDiff, Nat.reduceAdd, Nat.reduceBEq, reduceCtorEq, hs0, hx, hw, h1, hp]))
      all_goals first | (refine ret_one (b := none) rfl ?_; exact ⟨_, rfl⟩) | (exfalso; simp_all)
    | cons c s =>
      simp only [go_sem, wp_sq, reduceIte, Nat.reduceEqDiff, Nat.reduceAdd, Nat.reduceBEq, reduceCtorEq]
      repeat' (first | (refine wp_rdH ?_; simp only [go_sem, wp_sq, reduceIte, Nat.reduceEqDiff, Nat.reduceAdd, Nat.reduceBEq, reduceCtorEq, hs0, hx, hw, h1]) | (refine ifP_dc (fun hp => ?_) (fun hp => ?_) <;> try simp only [go_sem, wp_sq, reduceIte, Nat.reduceEqDiff, Nat.reduceAdd, Nat.reduceBEq, reduceCtorEq, hs0, hx, hw, h1, hp]) | (refine ifP_b (fun hp => ?_) (fun hp => ?_) <;> try simp only [go_sem, wp_sq, reduceIte, Nat.reduceEqDiff, Nat.reduceAdd, Nat.reduceBEq, reduceCtorEq, hs0, hx, hw, h1, hp]))
      all_goals first | (refine ret_one (b := none) rfl ?_; exact ⟨_, rfl⟩) | (exfalso; simp_all)
end Go.Proofs.YtfmicbbflpkdgaaGreatDoor.D
