/-
  Contracts: part 18: the check of a unit (the reference's).
-/
import Derived.Test.YtfmicbbflpkdgaaGreatDoorA28
import Derived.Test.YtfmicbbflpkdgaaGreatDoorA24
set_option linter.unusedVariables false
set_option linter.unusedSimpArgs false
namespace Go.Proofs.YtfmicbbflpkdgaaGreatDoor.D
variable {P : Program}
theorem dpart_a1 {a : DV} {l : List DV} : dPart (a :: l) 0 (some 1) = some (.agg [a]) := by
  rw [dpart_some (by simp)]
  rfl
attribute [go_sem] dpart_a1
structure UOk (u : NUnit) : Prop where
  hier : HOk u.hier
  flen : u.funcs.length ≤ 1048576
  func : ∀ f, f ∈ u.funcs → FOk f
def MainOk (u : NUnit) : Prop := 0 ≤ u.main ∧ u.main < u.funcs.length
theorem didx_z {α : Type} {enc : α → List DV} {k : Nat} {nf : Option Bool} {l : List α} {tl : Tl} {kd : IntKind} {z : Int} (h : 0 ≤ z ∧ z < l.length) : ∃ f, f ∈ l ∧ dIdx k (.isl k nf (l.map enc) tl) (.int kd z) = some (.iptr (enc f) 0) := by
  obtain ⟨n, rfl⟩ := Int.eq_ofNat_of_zero_le h.1
  have hn : n < l.length := by omega
  exact ⟨l[n], List.getElem_mem hn, didx_isl hn⟩
theorem f82 (ht : TabOk P gl tab.get) (u : NUnit) (ho : UOk u) : Val P gl 82 [.agg (eUn u)] fun d => ∃ z, d = .int .i64 z ∧ (z = 0 → MainOk u) := by
  have hl := ho.hier.len
  have hfl := ho.flen
  refine Val.of_wp gl_ok ht (df := d82) rfl (cl_cons (.agg _ (cl_eUn u)) cl_nil) (fun d hd => by obtain ⟨b, rfl, _⟩ := hd; exact .int _ _) ?_
  simp only [d82, go_sem, wp_sq, reduceIte, Nat.reduceEqDiff, Nat.reduceAdd, Nat.reduceBEq, reduceCtorEq]
  refine ex_call (f141 ht u.hier ho.hier) ?_
  rintro _ ⟨a, b, rfl⟩
  simp only [go_sem, wp_sq, reduceIte, Nat.reduceEqDiff, Nat.reduceAdd, Nat.reduceBEq, reduceCtorEq]
  refine ifP_dc (fun hb => ?_) (fun hb => ?_)
  rotate_left
  · simp only [go_sem, wp_sq, reduceIte, Nat.reduceEqDiff, Nat.reduceAdd, Nat.reduceBEq, reduceCtorEq]
    refine ret_one (b := none) rfl ?_
    exact ⟨_, rfl, fun h => absurd h (by simpa using hb)⟩
  simp only [go_sem, wp_sq, reduceIte, Nat.reduceEqDiff, Nat.reduceAdd, Nat.reduceBEq, reduceCtorEq]
  refine ifP_dc (fun hb => ?_) (fun hb => ?_)
  · simp only [go_sem, wp_sq, reduceIte, Nat.reduceEqDiff, Nat.reduceAdd, Nat.reduceBEq, reduceCtorEq]
    refine ret_one (b := none) rfl ?_
    exact ⟨_, rfl, fun h => absurd h (by decide)⟩
  simp only [go_sem, wp_sq, reduceIte, Nat.reduceEqDiff, Nat.reduceAdd, Nat.reduceBEq, reduceCtorEq]
  refine wp_lpE [5, 6, 21, 22, 23, 24, 25, 26, 27, 28, 29, 30, 31, 32, 33, 34, 35, 36, 37, 38] (fun n e _ => ∃ i : Nat, n = u.hier.length - i ∧ i ≤ u.hier.length ∧ e 6 = .int .i64 i ∧ ∃ z, e 5 = .int .i64 z) u.hier.length ⟨0, rfl, Nat.zero_le _, rfl, 0, rfl⟩ ?_
  rintro n e S ⟨i, hn, hi, hx, z, hz⟩ hf
  have hs1 : e 1 = .iptr (eUn u) 0 := hf 1 rfl
  have hw := wrap_succ (i := i) (by omega)
  by_cases h1 : i < u.hier.length
  · simp only [go_sem, wp_sq, reduceIte, Nat.reduceEqDiff, Nat.reduceAdd, Nat.reduceBEq, reduceCtorEq, hs1, hx, hz, hw, h1]
    exact ⟨_, by omega, rfl, (by repeat' first | exact hf | exact rfl | exact Fr0.refl _ _ | apply Fr0.upd | exact hf2 | refine Fr0.sub hf2 rfl ?_ | refine Fr0.sub hf rfl ?_), i + 1, rfl, by omega, rfl, _, rfl⟩
  · simp only [go_sem, wp_sq, reduceIte, Nat.reduceEqDiff, Nat.reduceAdd, Nat.reduceBEq, reduceCtorEq, hs1, hx, hz, hw, h1]
    have e14 : ∀ z : Int, z = 14 → (z = 0 → MainOk u) := fun z h g => by omega
    refine ifP_dc (fun hb => ?_) (fun hb => ?_)
    rotate_left
    · simp only [go_sem, wp_sq, reduceIte, Nat.reduceEqDiff, Nat.reduceAdd, Nat.reduceBEq, reduceCtorEq]
      refine ret_one (b := none) rfl ?_
      exact ⟨_, rfl, fun h => absurd h (by decide)⟩
    obtain rfl : z = u.funcs.length := of_decide_eq_true hb
    simp only [go_sem, wp_sq, reduceIte, Nat.reduceEqDiff, Nat.reduceAdd, Nat.reduceBEq, reduceCtorEq, hs1, hx, hz, hw, h1]
    by_cases hm0 : u.main < 0
    · simp only [go_sem, wp_sq, reduceIte, Nat.reduceEqDiff, Nat.reduceAdd, Nat.reduceBEq, reduceCtorEq, hs1, hz, hm0]
      refine ret_one (b := none) rfl ?_
      exact ⟨_, rfl, e14 _ rfl⟩
    by_cases hm1 : (u.funcs.length : Int) ≤ u.main
    · simp only [go_sem, wp_sq, reduceIte, Nat.reduceEqDiff, Nat.reduceAdd, Nat.reduceBEq, reduceCtorEq, hs1, hz, hm0, hm1]
      refine ret_one (b := none) rfl ?_
      exact ⟨_, rfl, e14 _ rfl⟩
    have hmo : MainOk u := ⟨by omega, by omega⟩
    obtain ⟨f, hfm, hix⟩ := didx_z (enc := eFn) (k := 7) (nf := none) (tl := .no) (kd := .i64) (l := u.funcs) hmo
    simp only [go_sem, wp_sq, reduceIte, Nat.reduceEqDiff, Nat.reduceAdd, Nat.reduceBEq, reduceCtorEq, hs1, hz, hm0, hm1]
    refine ⟨.iptr (eFn f) 0, [], congrArg some1 hix, ?_⟩
    simp only [go_sem, wp_sq, reduceIte, Nat.reduceEqDiff, Nat.reduceAdd, Nat.reduceBEq, reduceCtorEq, hs1, hz, hm0, hm1]
    refine ⟨_, _, _, rfl, put_same _ _ _, rfl, rfl, rfl, ?_⟩
    simp only [go_sem, wp_sq, reduceIte, Nat.reduceEqDiff, Nat.reduceAdd, Nat.reduceBEq, reduceCtorEq, hs1, hz, hm0, hm1]
    repeat' (first | (refine wp_rdH ?_; simp only [go_sem, wp_sq, reduceIte, Nat.reduceEqDiff, Nat.reduceAdd, Nat.reduceBEq, reduceCtorEq, hs1, hz, hm0, hm1]) | (refine ifP_dc (fun hp => ?_) (fun hp => ?_) <;> try simp only [go_sem, wp_sq, reduceIte, Nat.reduceEqDiff, Nat.reduceAdd, Nat.reduceBEq, reduceCtorEq, hs1, hz, hm0, hm1, hp]) | (refine ifP_b (fun hp => ?_) (fun hp => ?_) <;> try simp only [go_sem, wp_sq, reduceIte, Nat.reduceEqDiff, Nat.reduceAdd, Nat.reduceBEq, reduceCtorEq, hs1, hz, hm0, hm1, hp]))
    all_goals (refine ret_one (b := none) rfl ?_; exact ⟨_, rfl, fun _ => hmo⟩)
theorem f56 (ht : TabOk P gl tab.get) (u : NUnit) (ho : UOk u) : Val P gl 56 [.agg (eUn u)] fun d => ∃ a b z, d = .tup [.int .i64 a, .int .i64 b, .int .i64 z] ∧ (z = 0 → MainOk u) := by
  have hl := ho.hier.len
  have hfl := ho.flen
  refine Val.of_wp gl_ok ht (df := d56) rfl (cl_cons (.agg _ (cl_eUn u)) cl_nil) (fun d hd => by obtain ⟨a, b, z, rfl, _⟩ := hd; exact .tup _ (cl_cons (.int _ _) (cl_cons (.int _ _) (cl_cons (.int _ _) cl_nil)))) ?_
  simp only [d56, go_sem, wp_sq, reduceIte, Nat.reduceEqDiff, Nat.reduceAdd, Nat.reduceBEq, reduceCtorEq]
  refine ex_call (f82 ht u ho) ?_
  rintro _ ⟨z, rfl, hm⟩
  simp only [go_sem, wp_sq, reduceIte, Nat.reduceEqDiff, Nat.reduceAdd, Nat.reduceBEq, reduceCtorEq]
  refine ifP_dc (fun hb => ?_) (fun hb => ?_)
  rotate_left
  · simp only [go_sem, wp_sq, reduceIte, Nat.reduceEqDiff, Nat.reduceAdd, Nat.reduceBEq, reduceCtorEq]
    exact ret_three rfl rfl rfl ⟨_, _, _, rfl, hm⟩
  have hmo := hm (of_decide_eq_true hb)
  simp only [go_sem, wp_sq, reduceIte, Nat.reduceEqDiff, Nat.reduceAdd, Nat.reduceBEq, reduceCtorEq]
  refine wp_lpE [2, 3, 4, 6, 7, 8, 9, 10, 11, 12, 13, 19, 20, 21, 22, 23, 24, 25, 26, 27, 28, 29, 30, 31, 32, 33, 34, 35, 36, 37, 38, 39, 40, 41, 42, 43, 44, 45, 46, 47, 48, 49, 50, 51, 52, 53, 54, 55, 56, 57, 58, 59, 60, 61, 62, 63, 64, 65, 66, 67, 68, 69, 70, 71, 72, 73, 74, 75] (fun n e _ => ∃ i : Nat, n = u.funcs.length - i ∧ i ≤ u.funcs.length ∧ e 7 = .int .i64 i ∧ ∃ z, e 6 = .int .i64 z) u.funcs.length ⟨0, rfl, Nat.zero_le _, rfl, 0, rfl⟩ ?_
  rintro n e S ⟨i, hn, hi, hx, z, hz⟩ hf
  have hs1 : e 1 = .iptr (eUn u) 0 := hf 1 rfl
  have hw := wrap_succ (i := i) (by omega)
  by_cases h1 : i < u.funcs.length
  · have hfo := ho.func _ (List.getElem_mem h1)
    have hcl := hfo.clen
    simp only [go_sem, wp_sq, reduceIte, Nat.reduceEqDiff, Nat.reduceAdd, Nat.reduceBEq, reduceCtorEq, hs1, hx, hz, hw, h1]
    refine ex_call (f83 ht u.hier ho.hier i (by omega)) ?_
    rintro _ ⟨c, s, b, rfl, hpl⟩
    simp only [go_sem, wp_sq, reduceIte, Nat.reduceEqDiff, Nat.reduceAdd, Nat.reduceBEq, reduceCtorEq, hs1, hx, hz, hw, h1]
    refine ⟨_, _, _, rfl, put_same _ _ _, rfl, rfl, rfl, ?_⟩
    simp only [go_sem, wp_sq, reduceIte, Nat.reduceEqDiff, Nat.reduceAdd, Nat.reduceBEq, reduceCtorEq, hs1, hx, hz, hw, h1]
    refine wp_rdH ?_
    simp only [go_sem, wp_sq, reduceIte, Nat.reduceEqDiff, Nat.reduceAdd, Nat.reduceBEq, reduceCtorEq, hs1, hx, hz, hw, h1]
    refine ex_call (f84 ht u.hier ho.hier u.funcs[i] hfo c s hpl) ?_
    rintro _ ⟨a, b2, rfl⟩
    simp only [go_sem, wp_sq, reduceIte, Nat.reduceEqDiff, Nat.reduceAdd, Nat.reduceBEq, reduceCtorEq, hs1, hx, hz, hw, h1]
    refine ifP_dc (fun hb => ?_) (fun hb => ?_)
    rotate_left
    · simp only [go_sem, wp_sq, reduceIte, Nat.reduceEqDiff, Nat.reduceAdd, Nat.reduceBEq, reduceCtorEq, hs1, hx, hz, hw, h1]
      exact ret_three rfl rfl rfl ⟨_, _, _, rfl, fun _ => hmo⟩
    simp only [go_sem, wp_sq, reduceIte, Nat.reduceEqDiff, Nat.reduceAdd, Nat.reduceBEq, reduceCtorEq, hs1, hx, hz, hw, h1]
    refine wp_lpE [6, 13, 52, 53, 54, 55, 56, 57, 58, 59, 60, 61, 62, 63, 64, 65, 66, 67, 68, 69, 70, 71, 72, 73, 74, 75] (fun n e _ => ∃ j : Nat, n = u.funcs[i].code.length - j ∧ j ≤ u.funcs[i].code.length ∧ e 13 = .int .i64 j ∧ ∃ z, e 6 = .int .i64 z) u.funcs[i].code.length ⟨0, rfl, Nat.zero_le _, rfl, z, by simp only [upd_at, reduceIte, Nat.reduceEqDiff, Nat.add_eq, Nat.reduceAdd, Nat.add_zero, Nat.succ_eq_add_one, Nat.reduceBEq, Nat.beq_eq_true_eq, Exits.set_at, envA_at, nth, List.length_cons, List.length_nil, decide_true, Nat.zero_add, hz]⟩ ?_
    rintro n2 e2 S2 ⟨j, hn2, hj, hy, z2, hz2⟩ hf2
    have ht1 := (show e2 1 = e 1 from hf2 1 rfl).trans hs1
    have ht7 := (show e2 7 = e 7 from hf2 7 rfl).trans hx
    have hw2 := wrap_succ (i := j) (by omega)
    by_cases h2 : j < u.funcs[i].code.length
    · simp only [go_sem, wp_sq, reduceIte, Nat.reduceEqDiff, Nat.reduceAdd, Nat.reduceBEq, reduceCtorEq, ht1, ht7, hy, hz2, hw, hw2, h1, h2]
      refine ifP_dc (fun hb => ?_) (fun hb => ?_)
      · simp only [go_sem, wp_sq, reduceIte, Nat.reduceEqDiff, Nat.reduceAdd, Nat.reduceBEq, reduceCtorEq, ht1, ht7, hy, hz2, hw, hw2, h1, h2]
        exact ⟨_, by omega, rfl, (by repeat' first | exact hf | exact rfl | exact Fr0.refl _ _ | apply Fr0.upd | exact hf2 | refine Fr0.sub hf2 rfl ?_ | refine Fr0.sub hf rfl ?_), j + 1, rfl, by omega, rfl, _, rfl⟩
      · simp only [go_sem, wp_sq, reduceIte, Nat.reduceEqDiff, Nat.reduceAdd, Nat.reduceBEq, reduceCtorEq, ht1, ht7, hy, hz2, hw, hw2, h1, h2]
        exact ⟨_, by omega, rfl, (by repeat' first | exact hf | exact rfl | exact Fr0.refl _ _ | apply Fr0.upd | exact hf2 | refine Fr0.sub hf2 rfl ?_ | refine Fr0.sub hf rfl ?_), j + 1, rfl, by omega, rfl, _, hz2⟩
    · simp only [go_sem, wp_sq, reduceIte, Nat.reduceEqDiff, Nat.reduceAdd, Nat.reduceBEq, reduceCtorEq, ht1, ht7, hy, hz2, hw, hw2, h1, h2]
      exact ⟨_, by omega, rfl, (by repeat' first | exact hf | exact rfl | exact Fr0.refl _ _ | apply Fr0.upd | exact hf2 | refine Fr0.sub hf2 rfl ?_ | refine Fr0.sub hf rfl ?_), i + 1, rfl, by omega, rfl, _, hz2⟩
  · simp only [go_sem, wp_sq, reduceIte, Nat.reduceEqDiff, Nat.reduceAdd, Nat.reduceBEq, reduceCtorEq, hs1, hx, hz, hw, h1]
    refine ifP_dc (fun hb => ?_) (fun hb => ?_)
    · simp only [go_sem, wp_sq, reduceIte, Nat.reduceEqDiff, Nat.reduceAdd, Nat.reduceBEq, reduceCtorEq]
      exact ret_three rfl rfl rfl ⟨_, _, _, rfl, fun _ => hmo⟩
    · simp only [go_sem, wp_sq, reduceIte, Nat.reduceEqDiff, Nat.reduceAdd, Nat.reduceBEq, reduceCtorEq]
      exact ret_three rfl rfl rfl ⟨_, _, _, rfl, fun _ => hmo⟩
theorem f27 (ht : TabOk P gl tab.get) (u : NUnit) (ho : UOk u) : Val P gl 27 [.agg (eUn u)] fun d => ∃ a b z, d = .tup [.int .i64 a, .int .i64 b, .int .i64 z] ∧ (z = 0 → MainOk u) := by
  refine Val.of_wp gl_ok ht (df := d27) rfl (cl_cons (.agg _ (cl_eUn u)) cl_nil) (fun d hd => by obtain ⟨a, b, z, rfl, _⟩ := hd; exact .tup _ (cl_cons (.int _ _) (cl_cons (.int _ _) (cl_cons (.int _ _) cl_nil)))) ?_
  simp only [d27, go_sem, wp_sq, reduceIte, Nat.reduceEqDiff, Nat.reduceAdd, Nat.reduceBEq, reduceCtorEq]
  refine ex_call (f56 ht u ho) ?_
  rintro _ ⟨a, b, z, rfl, hm⟩
  simp only [go_sem, wp_sq, reduceIte, Nat.reduceEqDiff, Nat.reduceAdd, Nat.reduceBEq, reduceCtorEq]
  exact ret_three rfl rfl rfl ⟨_, _, _, rfl, hm⟩
end Go.Proofs.YtfmicbbflpkdgaaGreatDoor.D
/-
  Contracts: part 19: small units (the reference's).
-/
namespace Go.Proofs.YtfmicbbflpkdgaaGreatDoor.D
variable {P : Program}
/-- No length is beyond what an address can tell. -/
structure UW (u : NUnit) : Prop where
  hlen : u.hier.length < 4611686018427387904
  cname : ∀ x, x ∈ u.hier → x.name.length < 4611686018427387904
  flen : ∀ x, x ∈ u.hier → x.fields.length < 4611686018427387904
  fname : ∀ x, x ∈ u.hier → ∀ f, f ∈ x.fields → f.name.length < 4611686018427387904
  mlen : ∀ x, x ∈ u.hier → x.methods.length < 4611686018427387904
  mname : ∀ x, x ∈ u.hier → ∀ s, s ∈ x.methods → s.name.length < 4611686018427387904
  plen : ∀ x, x ∈ u.hier → ∀ s, s ∈ x.methods → s.params.length < 4611686018427387904
  nlen : u.funcs.length < 4611686018427387904
  vlen : ∀ f, f ∈ u.funcs → f.vars.length < 4611686018427387904
  vname : ∀ f, f ∈ u.funcs → ∀ v, v ∈ f.vars → v.name.length < 4611686018427387904
  clen : ∀ f, f ∈ u.funcs → f.code.length < 4611686018427387904
  alen : ∀ f, f ∈ u.funcs → ∀ x, x ∈ f.code → x.args.length < 4611686018427387904
structure ClassFit (x : NClass) : Prop where
  f : x.fields.length ≤ 20
  m : x.methods.length ≤ 20
  p : ∀ s, s ∈ x.methods → s.params.length ≤ 20
structure FuncFit (M : Nat) (f : NFunc) : Prop where
  c : f.code.length ≤ M
  v : f.vars.length ≤ M
  a : ∀ x, x ∈ f.code → x.args.length ≤ 20
structure Fit (M : Nat) (u : NUnit) : Prop where
  fl : u.funcs.length ≤ 20
  hl : u.hier.length ≤ 12
  cf : ∀ x, x ∈ u.hier → ClassFit x
  ff : ∀ f, f ∈ u.funcs → FuncFit M f
theorem take_all {α : Type} {p : α → Prop} {l : List α} {i : Nat} (h : ∀ x, x ∈ l.take i → p x) (hi : i < l.length) (hp : p l[i]) : ∀ x, x ∈ l.take (i + 1) → p x := by
  intro x hx
  rw [List.take_succ_eq_append_getElem hi] at hx
  rcases List.mem_append.1 hx with hx | hx
  · exact h x hx
  · rw [List.mem_singleton] at hx
    rw [hx]
    exact hp
theorem take_end {α : Type} {p : α → Prop} {l : List α} {i : Nat} (h : ∀ x, x ∈ l.take i → p x) (hi : ¬ i < l.length) : ∀ x, x ∈ l → p x := by
  rw [List.take_of_length_le (by omega)] at h
  exact h
theorem f26 (ht : TabOk P gl tab.get) (u : NUnit) (hu : UW u) (M : Nat) (hM : M ≤ 1048576) : Val P gl 26 [.agg (eUn u), .int .i64 M] fun d => ∃ b, d = .bool b ∧ (b = true → Fit M u) := by
  refine Val.of_wp gl_ok ht (df := d26) rfl (cl_cons (.agg _ (cl_eUn u)) (cl_cons (.int _ _) cl_nil)) (fun d hd => by obtain ⟨b, rfl, _⟩ := hd; exact .bool _) ?_
  have hno : ∀ b : Bool, b = false → (b = true → Fit M u) := fun b h g => by rw [h] at g; cases g
  by_cases hfl : u.funcs.length ≤ 20
  rotate_left
  · have e1 : decide ((20 : Int) < (u.funcs.length : Int)) = true := decide_eq_true (by omega)
    simp only [d26, go_sem, wp_sq, reduceIte, Nat.reduceEqDiff, Nat.reduceAdd, Nat.reduceBEq, reduceCtorEq, e1]
    refine ret_one (b := none) rfl ?_
    exact ⟨_, rfl, hno _ rfl⟩
  have e1 : decide ((20 : Int) < (u.funcs.length : Int)) = false := decide_eq_false (by omega)
  by_cases hhl : u.hier.length ≤ 12
  rotate_left
  · have e2 : decide ((12 : Int) < (u.hier.length : Int)) = true := decide_eq_true (by omega)
    simp only [d26, go_sem, wp_sq, reduceIte, Nat.reduceEqDiff, Nat.reduceAdd, Nat.reduceBEq, reduceCtorEq, e1, e2]
    refine ret_one (b := none) rfl ?_
    exact ⟨_, rfl, hno _ rfl⟩
  have e2 : decide ((12 : Int) < (u.hier.length : Int)) = false := decide_eq_false (by omega)
  simp only [d26, go_sem, wp_sq, reduceIte, Nat.reduceEqDiff, Nat.reduceAdd, Nat.reduceBEq, reduceCtorEq, e1, e2]
  refine wp_lpE [4, 5, 6, 7, 23, 24, 25, 26, 27, 28, 29, 30, 31, 32, 33, 34, 35, 36, 37, 38, 39, 40, 41, 42, 43, 44, 45, 46, 47, 48, 49, 50, 51, 52, 53, 54, 55, 56, 57, 58, 59, 60, 61] (fun n e _ => ∃ i : Nat, n = u.hier.length - i ∧ i ≤ u.hier.length ∧ e 5 = .int .i64 i ∧ ∀ x, x ∈ u.hier.take i → ClassFit x) u.hier.length ⟨0, rfl, Nat.zero_le _, rfl, fun x hx => by simp at hx⟩ ?_
  rintro n e S ⟨i, hn, hi, hx, hI⟩ hf
  have hs1 : e 1 = .int .i64 M := hf 1 rfl
  have hs2 : e 2 = .iptr (eUn u) 0 := hf 2 rfl
  have hw := wrap_succ (i := i) (by omega)
  by_cases h1 : i < u.hier.length
  · have hmb := hu.mlen _ (List.getElem_mem h1)
    simp only [go_sem, wp_sq, reduceIte, Nat.reduceEqDiff, Nat.reduceAdd, Nat.reduceBEq, reduceCtorEq, hs1, hs2, hx, hw, h1]
    refine ⟨_, _, _, rfl, put_same _ _ _, rfl, rfl, rfl, ?_⟩
    simp only [go_sem, wp_sq, reduceIte, Nat.reduceEqDiff, Nat.reduceAdd, Nat.reduceBEq, reduceCtorEq, hs1, hs2, hx, hw, h1]
    by_cases hcf : u.hier[i].fields.length ≤ 20
    rotate_left
    · have e3 : decide ((20 : Int) < (u.hier[i].fields.length : Int)) = true := decide_eq_true (by omega)
      simp only [go_sem, wp_sq, reduceIte, Nat.reduceEqDiff, Nat.reduceAdd, Nat.reduceBEq, reduceCtorEq, hs1, hs2, hx, hw, h1, e3]
      refine ret_one (b := none) rfl ?_
      exact ⟨_, rfl, hno _ rfl⟩
    have e3 : decide ((20 : Int) < (u.hier[i].fields.length : Int)) = false := decide_eq_false (by omega)
    by_cases hcm : u.hier[i].methods.length ≤ 20
    rotate_left
    · have e4 : decide ((20 : Int) < (u.hier[i].methods.length : Int)) = true := decide_eq_true (by omega)
      simp only [go_sem, wp_sq, reduceIte, Nat.reduceEqDiff, Nat.reduceAdd, Nat.reduceBEq, reduceCtorEq, hs1, hs2, hx, hw, h1, e3, e4]
      refine ret_one (b := none) rfl ?_
      exact ⟨_, rfl, hno _ rfl⟩
    have e4 : decide ((20 : Int) < (u.hier[i].methods.length : Int)) = false := decide_eq_false (by omega)
    simp only [go_sem, wp_sq, reduceIte, Nat.reduceEqDiff, Nat.reduceAdd, Nat.reduceBEq, reduceCtorEq, hs1, hs2, hx, hw, h1, e3, e4]
    refine wp_lpE [4, 7, 47, 48, 49, 50, 51, 52, 53, 54, 55, 56, 57, 58, 59, 60, 61] (fun n e _ => ∃ j : Nat, n = u.hier[i].methods.length - j ∧ j ≤ u.hier[i].methods.length ∧ e 7 = .int .i64 j ∧ ∀ s, s ∈ u.hier[i].methods.take j → s.params.length ≤ 20) u.hier[i].methods.length ⟨0, rfl, Nat.zero_le _, rfl, fun x hx => by simp at hx⟩ ?_
    rintro n2 e2' S2 ⟨j, hn2, hj, hy, hJ⟩ hf2
    have ht1 : e2' 1 = .int .i64 M := (show e2' 1 = e 1 from hf2 1 rfl).trans hs1
    have ht2 : e2' 2 = .iptr (eUn u) 0 := (show e2' 2 = e 2 from hf2 2 rfl).trans hs2
    have ht5 : e2' 5 = .int .i64 i := (show e2' 5 = e 5 from hf2 5 rfl).trans hx
    have ht6 : e2' 6 = .iptr (eCl u.hier[i]) 0 := hf2 6 rfl
    have hw2 := wrap_succ (i := j) (by omega)
    by_cases h2 : j < u.hier[i].methods.length
    · by_cases hp : u.hier[i].methods[j].params.length ≤ 20
      · have e5 : decide ((20 : Int) < (u.hier[i].methods[j].params.length : Int)) = false := decide_eq_false (by omega)
        simp only [go_sem, wp_sq, reduceIte, Nat.reduceEqDiff, Nat.reduceAdd, Nat.reduceBEq, reduceCtorEq, ht1, ht2, ht5, ht6, hy, hw, hw2, h1, h2, e5]
        exact ⟨_, by omega, rfl, (by repeat' first | exact hf | exact rfl | exact Fr0.refl _ _ | apply Fr0.upd | exact hf2 | refine Fr0.sub hf2 rfl ?_ | refine Fr0.sub hf rfl ?_), j + 1, rfl, by omega, rfl, take_all hJ h2 hp⟩
      · have e5 : decide ((20 : Int) < (u.hier[i].methods[j].params.length : Int)) = true := decide_eq_true (by omega)
        simp only [go_sem, wp_sq, reduceIte, Nat.reduceEqDiff, Nat.reduceAdd, Nat.reduceBEq, reduceCtorEq, ht1, ht2, ht5, ht6, hy, hw, hw2, h1, h2, e5]
        refine ret_one (b := none) rfl ?_
        exact ⟨_, rfl, hno _ rfl⟩
    · simp only [go_sem, wp_sq, reduceIte, Nat.reduceEqDiff, Nat.reduceAdd, Nat.reduceBEq, reduceCtorEq, ht1, ht2, ht5, ht6, hy, hw, hw2, h1, h2]
      exact ⟨_, by omega, rfl, (by repeat' first | exact hf | exact rfl | exact Fr0.refl _ _ | apply Fr0.upd | exact hf2 | refine Fr0.sub hf2 rfl ?_ | refine Fr0.sub hf rfl ?_), i + 1, rfl, by omega, rfl, take_all hI h1 ⟨hcf, hcm, take_end hJ h2⟩⟩
  simp only [go_sem, wp_sq, reduceIte, Nat.reduceEqDiff, Nat.reduceAdd, Nat.reduceBEq, reduceCtorEq, hs1, hs2, hx, hw, h1]
  have hcl := take_end hI h1
  refine wp_lpE [4, 8, 9, 10, 11, 62, 63, 64, 65, 66, 67, 68, 69, 70, 71, 72, 73, 74, 75, 76, 77, 78, 79, 80, 81, 82, 83, 84, 85, 86, 87, 88, 89, 90, 91, 92, 93, 94, 95, 96, 97, 98, 99, 100, 101, 102, 103, 104, 105, 106] (fun n e _ => ∃ i : Nat, n = u.funcs.length - i ∧ i ≤ u.funcs.length ∧ e 9 = .int .i64 i ∧ (∃ z, e 8 = .int .i64 z) ∧ ∀ x, x ∈ u.funcs.take i → FuncFit M x) u.funcs.length ⟨0, rfl, Nat.zero_le _, rfl, ⟨_, rfl⟩, fun x hx => by simp at hx⟩ ?_
  rintro n e2 S2 ⟨i2, hn2, hi2, hy, ⟨z, hz⟩, hJ⟩ hf2
  have ht1 := (show e2 1 = e 1 from hf2 1 rfl).trans hs1
  have ht2 := (show e2 2 = e 2 from hf2 2 rfl).trans hs2
  have hw2 := wrap_succ (i := i2) (by omega)
  by_cases h2 : i2 < u.funcs.length
  · have hcb := hu.clen _ (List.getElem_mem h2)
    by_cases hcc : u.funcs[i2].code.length ≤ M
    rotate_left
    · have e3 : M < u.funcs[i2].code.length := by omega
      simp only [go_sem, wp_sq, reduceIte, Nat.reduceEqDiff, Nat.reduceAdd, Nat.reduceBEq, reduceCtorEq, ht1, ht2, hy, hz, hw2, h2, e3]
      refine ret_one (b := none) rfl ?_
      exact ⟨_, rfl, hno _ rfl⟩
    have e3 : ¬ M < u.funcs[i2].code.length := by omega
    by_cases hvv : u.funcs[i2].vars.length ≤ M
    rotate_left
    · have e4 : M < u.funcs[i2].vars.length := by omega
      simp only [go_sem, wp_sq, reduceIte, Nat.reduceEqDiff, Nat.reduceAdd, Nat.reduceBEq, reduceCtorEq, ht1, ht2, hy, hz, hw2, h2, e3, e4]
      refine ret_one (b := none) rfl ?_
      exact ⟨_, rfl, hno _ rfl⟩
    have e4 : ¬ M < u.funcs[i2].vars.length := by omega
    simp only [go_sem, wp_sq, reduceIte, Nat.reduceEqDiff, Nat.reduceAdd, Nat.reduceBEq, reduceCtorEq, ht1, ht2, hy, hz, hw2, h2, e3, e4]
    refine wp_lpE [4, 11, 94, 95, 96, 97, 98, 99, 100, 101, 102, 103, 104, 105, 106] (fun n e _ => ∃ j : Nat, n = u.funcs[i2].code.length - j ∧ j ≤ u.funcs[i2].code.length ∧ e 11 = .int .i64 j ∧ ∀ s, s ∈ u.funcs[i2].code.take j → s.args.length ≤ 20) u.funcs[i2].code.length ⟨0, rfl, Nat.zero_le _, rfl, fun x hx => by simp at hx⟩ ?_
    rintro n3 e3' S3 ⟨j, hn3, hj, hq, hK⟩ hf3
    have hv1 : e3' 1 = .int .i64 M := (show e3' 1 = e2 1 from hf3 1 rfl).trans ht1
    have hv2 : e3' 2 = .iptr (eUn u) 0 := (show e3' 2 = e2 2 from hf3 2 rfl).trans ht2
    have hv9 : e3' 9 = .int .i64 i2 := (show e3' 9 = e2 9 from hf3 9 rfl).trans hy
    obtain ⟨z3, hv8⟩ : ∃ z, e3' 8 = .int .i64 z := ⟨_, hf3 8 rfl⟩
    have hv10 : e3' 10 = .isl 10 none (u.funcs[i2].code.map eIn) .no := hf3 10 rfl
    have hw3 := wrap_succ (i := j) (by omega)
    by_cases h3 : j < u.funcs[i2].code.length
    · by_cases hp : u.funcs[i2].code[j].args.length ≤ 20
      · have e5 : decide ((20 : Int) < (u.funcs[i2].code[j].args.length : Int)) = false := decide_eq_false (by omega)
        simp only [go_sem, wp_sq, reduceIte, Nat.reduceEqDiff, Nat.reduceAdd, Nat.reduceBEq, reduceCtorEq, hv1, hv2, hv8, hv9, hv10, hq, hw2, hw3, h2, h3, e5]
        exact ⟨_, by omega, rfl, (by repeat' first | exact hf3 | exact rfl | apply Fr0.upd), j + 1, rfl, by omega, rfl, take_all hK h3 hp⟩
      · have e5 : decide ((20 : Int) < (u.funcs[i2].code[j].args.length : Int)) = true := decide_eq_true (by omega)
        simp only [go_sem, wp_sq, reduceIte, Nat.reduceEqDiff, Nat.reduceAdd, Nat.reduceBEq, reduceCtorEq, hv1, hv2, hv8, hv9, hv10, hq, hw2, hw3, h2, h3, e5]
        refine ret_one (b := none) rfl ?_
        exact ⟨_, rfl, hno _ rfl⟩
    · simp only [go_sem, wp_sq, reduceIte, Nat.reduceEqDiff, Nat.reduceAdd, Nat.reduceBEq, reduceCtorEq, hv1, hv2, hv8, hv9, hv10, hq, hw2, hw3, h2, h3]
      exact ⟨_, by omega, rfl, (by repeat' first | exact hf2 | exact rfl | apply Fr0.upd | refine Fr0.sub hf3 rfl ?_), i2 + 1, rfl, by omega, rfl, ⟨_, hv8⟩, take_all hJ h2 ⟨hcc, hvv, take_end hK h3⟩⟩
  · simp only [go_sem, wp_sq, reduceIte, Nat.reduceEqDiff, Nat.reduceAdd, Nat.reduceBEq, reduceCtorEq, ht1, ht2, hy, hz, hw2, h2]
    refine ret_one (b := none) rfl ?_
    exact ⟨_, rfl, fun _ => ⟨hfl, hhl, hcl, take_end hJ h2⟩⟩
theorem Fit.ok {M : Nat} {u : NUnit} (h : Fit M u) (hM : M ≤ 1048576) (hu : UW u) : UOk u :=
  ⟨⟨by have := h.hl; omega, hu.cname, hu.flen, hu.fname, hu.mlen, hu.mname, hu.plen⟩, by have := h.fl; omega, fun f hf => ⟨by have := (h.ff f hf).v; omega, hu.vname f hf, by have := (h.ff f hf).c; omega, fun x hx => by have := (h.ff f hf).a x hx; omega⟩⟩
theorem f8 (ht : TabOk P gl tab.get) (u : NUnit) (hu : UW u) (M : Nat) (hM : M ≤ 1048576) : Val P gl 8 [.agg (eUn u), .int .i64 M] fun d => ∃ b, d = .bool b ∧ (b = true → Fit M u ∧ MainOk u) := by
  refine Val.of_wp gl_ok ht (df := d8) rfl (cl_cons (.agg _ (cl_eUn u)) (cl_cons (.int _ _) cl_nil)) (fun d hd => by obtain ⟨b, rfl, _⟩ := hd; exact .bool _) ?_
  simp only [d8, go_sem, wp_sq, reduceIte, Nat.reduceEqDiff, Nat.reduceAdd, Nat.reduceBEq, reduceCtorEq]
  refine ex_call (f26 ht u hu M hM) ?_
  rintro _ ⟨b, rfl, hb⟩
  cases b with
  | false =>
    simp only [go_sem, wp_sq, reduceIte, Nat.reduceEqDiff, Nat.reduceAdd, Nat.reduceBEq, reduceCtorEq]
    refine ret_one (b := none) rfl ?_
    exact ⟨_, rfl, fun h => by cases h⟩
  | true =>
    have hft := hb rfl
    simp only [go_sem, wp_sq, reduceIte, Nat.reduceEqDiff, Nat.reduceAdd, Nat.reduceBEq, reduceCtorEq]
    refine ex_call (f27 ht u (hft.ok hM hu)) ?_
    rintro _ ⟨a, b, z, rfl, hm⟩
    simp only [go_sem, wp_sq, reduceIte, Nat.reduceEqDiff, Nat.reduceAdd, Nat.reduceBEq, reduceCtorEq]
    refine ret_one (b := none) rfl ?_
    exact ⟨_, rfl, fun h => ⟨hft, hm (of_decide_eq_true h)⟩⟩
end Go.Proofs.YtfmicbbflpkdgaaGreatDoor.D
