/-
  The D machine, part h: more operations (numbers, strings, structs, slices that are read).
-/
import Derived.Test.YtfmicbbflpkdgaaGreatDoorA01
import Derived.Laws.StructEq
import Derived.Laws.Cover3
import Derived.MapKept
set_option linter.unusedVariables false
set_option linter.unusedSimpArgs false
namespace Go.Proofs.YtfmicbbflpkdgaaGreatDoor.D
open Go.RowKit
variable {P : Program} {G : List (List DV)} {φ φ' : Phi} {ρ ρ' : Rho} {S S' : DS} {w w' : World}
variable {n0 base : Nat} {al : List Nat} {o : Oper} {a : Act} {e : Env} {d : DV} {ps : Puts}
/-! ### nil checks, fields, tuples -/
def mNc (G : List (List DV)) (x : Opd) : Op → Bool
  | .nilCheck y => opOk G y x
  | _ => false
theorem sim_nc {x : Opd} (hs : SR G φ ρ S w) (he : ER φ ρ a.tmps e) (hm : mNc G x o.op = true) (hd : dop G base e S.h (.nc x) = some (d, ps)) : OpSim P G n0 base al o a φ ρ S w d ps := by
  unfold mNc at hm
  split at hm
  · rename_i y hop
    have h := opOk_rep hs he hm
    simp only [dop] at hd
    split at hd <;> first
      | (rename_i hx
         rw [hx] at h
         cases hd
         refine OpSim.pure (v := a.eval y) hs ?_ h
         simp only [execOp, hop]
         generalize a.eval y = v at h ⊢
         cases h <;> simp)
      | cases hd
  · cases hm
theorem arr_get {A : Array Value} {i : Nat} (h : i < A.size) : ∃ v, A[i]? = some v ∧ A.getD i undef = v := ⟨A[i], by simp [h], by simp [Array.getD_eq_getD_getElem?, h]⟩
def mEx (G : List (List DV)) (x : Opd) (i : Nat) : Op → Bool
  | .extract y j => opOk G y x && Nat.beq i j
  | _ => false
theorem sim_ex {x : Opd} {i : Nat} (hs : SR G φ ρ S w) (he : ER φ ρ a.tmps e) (hm : mEx G x i o.op = true) (hd : dop G base e S.h (.ex x i) = some (d, ps)) : OpSim P G n0 base al o a φ ρ S w d ps := by
  unfold mEx at hm
  split at hm
  · rename_i y j hop
    simp only [Bool.and_eq_true, beqN, decide_eq_true_eq] at hm
    obtain ⟨hm, rfl⟩ := hm
    have h := opOk_rep hs he hm
    simp only [dop] at hd
    split at hd
    · rename_i vs hx
      rw [hx] at h
      simp only [some1, nth_eq] at hd
      split at hd
      · rename_i v hv
        cases hd
        obtain ⟨hi, hvi⟩ := List.getElem?_eq_some_iff.1 hv
        generalize hev : a.eval y = val at h
        cases h with
        | tup A cs hA h =>
          obtain ⟨u, hu, hu'⟩ := arr_get (A := A) (i := i) (by omega)
          refine OpSim.pure (v := u) hs ?_ ?_
          · simp [execOp, hop, Instr.extract, hev, hu]
          · have := h i hi
            rwa [hu', show vs.getD i .nilp = d by simp [List.getD_eq_getElem?_getD, hv]] at this
      · cases hd
    · cases hd
  · cases hm
def mFd (P : Program) (G : List (List DV)) (off : Nat) (n : Option Nat) (x : Opd) : Op → Bool
  | .field t y f => opOk G y x && (match P.underlying t with
      | some (.struct fs) => (match fs[f]? with | some fl => Nat.beq fl.offset off && szOk P fl.type n | none => false)
      | _ => false)
  | _ => false
theorem run_part {t : TypeId} {n : Option Nat} (hsz : szOk P t n = true) {A : Array Value} {cs : List DV} (hA : RepL φ ρ A cs) {off : Nat} {d : DV} (hp : dPart cs off n = some d) (w : World) :
    ∃ v, (part t A off).run P w = .ok v w ∧ Rep φ ρ v d := by
  cases n with
  | none =>
    obtain ⟨h1, h2⟩ := part_get hp
    subst h2
    obtain ⟨u, hu, hu'⟩ := arr_get (A := A) (i := off) (by have := hA.1; omega)
    refine ⟨u, ?_, hu' ▸ hA.2 off h1⟩
    simp [part, (szOk_none hsz w).1, hu]
  | some n =>
    obtain ⟨h1, h2⟩ := part_agg hp
    subst h2
    have hsize := hA.1
    refine ⟨.agg (A.extract off (off + n)), by simp [part, (szOk_some hsz w).1, (szOk_some hsz w).2.1], .agg _ _ (by simp; omega) fun j hj => ?_⟩
    have hj' : j < n := by simp at hj; omega
    rw [getD_drop_take hj']
    have := hA.2 (off + j) (by omega)
    have e1 : (A.extract off (off + n)).getD j undef = A.getD (off + j) undef := by
      simp only [Array.getD_eq_getD_getElem?]
      congr 1
      rw [Array.getElem?_extract]
      simp [show j < min (off + n) A.size - off by omega]
    rwa [e1]
theorem sim_fd {off : Nat} {n : Option Nat} {x : Opd} (hs : SR G φ ρ S w) (he : ER φ ρ a.tmps e) (hm : mFd P G off n x o.op = true) (hd : dop G base e S.h (.fd off n x) = some (d, ps)) :
    OpSim P G n0 base al o a φ ρ S w d ps := by
  unfold mFd at hm
  split at hm
  · rename_i t y f hop
    simp only [Bool.and_eq_true] at hm
    obtain ⟨hm, hm2⟩ := hm
    split at hm2
    · rename_i fs hfs
      split at hm2
      · rename_i fl hfl
        simp only [Bool.and_eq_true, beqN, decide_eq_true_eq] at hm2
        obtain ⟨rfl, hsz⟩ := hm2
        have h := opOk_rep hs he hm
        simp only [dop] at hd
        split at hd
        · rename_i cs hx
          rw [hx] at h
          simp only [some1] at hd
          split at hd
          · rename_i v hv
            cases hd
            generalize hev : a.eval y = val at h
            cases h with
            | agg A cs hA h =>
              obtain ⟨v', h1, h2⟩ := run_part (P := P) hsz ⟨hA, h⟩ hv w
              exact OpSim.pure hs (by simp [execOp, hop, Instr.field, run_underlying hfs, hfl, asAgg, hev, h1]) h2
          · cases hd
        · cases hd
      · cases hm2
    · cases hm2
  · cases hm
def mFa (P : Program) (G : List (List DV)) (off : Nat) (x : Opd) : Op → Bool
  | .fieldAddr t y f => opOk G y x && (match P.underlying t with
      | some (.struct fs) => (match fs[f]? with | some fl => Nat.beq fl.offset off && (match P.info? fl.type with | some i => !Nat.beq i.size 0 | none => false) | none => false)
      | _ => false)
  | _ => false
theorem sim_fa {off : Nat} {x : Opd} (hs : SR G φ ρ S w) (he : ER φ ρ a.tmps e) (hm : mFa P G off x o.op = true) (hd : dop G base e S.h (.fa off x) = some (d, ps)) :
    OpSim P G n0 base al o a φ ρ S w d ps := by
  unfold mFa at hm
  split at hm
  · rename_i t y f hop
    simp only [Bool.and_eq_true] at hm
    obtain ⟨hm, hm2⟩ := hm
    split at hm2
    · rename_i fs hfs
      split at hm2
      · rename_i fl hfl
        simp only [Bool.and_eq_true, beqN, decide_eq_true_eq] at hm2
        obtain ⟨rfl, hsz⟩ := hm2
        split at hsz
        · rename_i i hi
          have h0 : i.size ≠ 0 := by simpa using hsz
          have h := opOk_rep hs he hm
          have hrun : ∀ ad : Addr, a.eval y = .pointer (some ad) → (execOp a.eval o).run P w = .ok (.value (.pointer (some (ad.add fl.offset)))) w := by
            intro ad had
            simp [execOp, hop, Instr.fieldAt, run_underlying hfs, hfl, Instr.sureAddr, had, fieldPlace, sizeOf, typeInfo, hi, h0]
          simp only [dop] at hd
          split at hd
          · rename_i b i' p hx
            rw [hx] at h
            cases hd
            generalize hev : a.eval y = val at h
            cases h with
            | ptr b i o q hp =>
              refine OpSim.pure hs (hrun _ hev) ?_
              have := Rep.ptr (φ := φ) b i' (Nat.add p fl.offset) _ hp
              rw [add_new]
              simpa [Nat.add_assoc] using this
          · rename_i r p hx
            rw [hx] at h
            cases hd
            generalize hev : a.eval y = val at h
            cases h with
            | iptr ad row o' c h1 h2 =>
              refine OpSim.pure hs (hrun _ hev) ?_
              rw [add_add]
              exact Rep.iptr ad _ _ c h1 h2
          · cases hd
        · cases hsz
      · cases hm2
    · cases hm2
  · cases hm
/-! ### numbers, strings, comparisons -/
theorem bytes_toList (s : ByteArray) : s.toList = s.data.toList := ByteArray.toList_eq s
theorem map_toNat_inj : ∀ {x y : List UInt8}, x.map UInt8.toNat = y.map UInt8.toNat → x = y
  | [], [], _ => rfl
  | [], _ :: _, h => by simp at h
  | _ :: _, [], h => by simp at h
  | a :: x, b :: y, h => by
    simp only [List.map_cons, List.cons.injEq] at h
    rw [UInt8.toNat_inj.1 h.1, map_toNat_inj h.2]
theorem str_eq (a b : ByteArray) : (a.toList == b.toList) = seq (bytesN a) (bytesN b) := by
  rw [seq_eq, bytes_toList, bytes_toList, Bool.eq_iff_iff, beq_iff_eq, decide_eq_true_iff]
  exact ⟨fun h => by simp [bytesN, h], map_toNat_inj⟩
theorem str_lt : ∀ (x y : List UInt8), Op.bytesLess x y = slt (x.map UInt8.toNat) (y.map UInt8.toNat)
  | _, [] => by cases ‹List UInt8› <;> simp [Op.bytesLess, slt]
  | [], _ :: _ => by simp [Op.bytesLess, slt]
  | a :: x, b :: y => by
    simp only [Op.bytesLess, List.map_cons, slt, str_lt x y]
    have e1 : Nat.blt a.toNat b.toNat = decide (a < b) := by rw [bltN]; exact decide_eq_decide.2 UInt8.lt_iff_toNat_lt.symm
    have e2 : Nat.beq a.toNat b.toNat = (a == b) := by
      rw [beqN, Bool.eq_iff_iff, decide_eq_true_iff, beq_iff_eq]; exact UInt8.toNat_inj
    rw [e1, e2]
    cases decide (a < b) <;> cases (a == b) <;> simp
theorem len_bytes (s : ByteArray) : (bytesN s).length = s.size := by simp [bytesN]
theorem bytes_append (a b : ByteArray) : bytesN (a ++ b) = bytesN a ++ bytesN b := by simp [bytesN]
theorem run_int {op : BinOp} {k : IntKind} {x y : Int} {d : DV} (hd : dInt op k x y = some d) (t : TypeId) (w : World) : ∃ v, (binOp op t (.int k x) (.int k y)).run P w = .ok v w ∧ Rep φ ρ v d := by
  unfold dInt at hd
  split at hd
  · cases hd; exact ⟨_, by simp [binOp, Op.intArith] <;> rfl, by rw [wr_eq]; exact .int _ _⟩
  · cases hd; exact ⟨_, by simp [binOp, Op.intArith] <;> rfl, by rw [wr_eq]; exact .int _ _⟩
  · cases hd; exact ⟨_, by simp [binOp, Op.intArith] <;> rfl, by rw [wr_eq]; exact .int _ _⟩
  · rw [ieq_eq] at hd
    split at hd
    · cases hd
    · rename_i h0
      cases hd
      have h0 : y ≠ 0 := by simpa using h0
      exact ⟨_, by simp [binOp, Op.intDiv, h0] <;> rfl, .int _ _⟩
  · rw [ieq_eq] at hd
    split at hd
    · cases hd
    · rename_i h0
      cases hd
      have h0 : y ≠ 0 := by simpa using h0
      exact ⟨_, by simp [binOp, Op.intDiv, h0] <;> rfl, .int _ _⟩
  · cases hd; exact ⟨_, by simp [binOp, Op.intCmp] <;> rfl, by rw [ieq_eq]; exact .bool _⟩
  · cases hd; exact ⟨_, by simp [binOp, Op.intCmp] <;> rfl, by rw [ieq_eq, show (x != y) = !decide (x = y) from rfl]; exact .bool _⟩
  · cases hd; exact ⟨_, by simp [binOp, Op.intCmp] <;> rfl, by rw [ilt_eq]; exact .bool _⟩
  · cases hd; exact ⟨_, by simp [binOp, Op.intCmp] <;> rfl, by rw [ilt_eq, show (!decide (y < x)) = decide (x ≤ y) by by_cases h : y < x <;> simp [h] <;> omega]; exact .bool _⟩
  · cases hd; exact ⟨_, by simp [binOp, Op.intCmp] <;> rfl, by rw [ilt_eq]; exact .bool _⟩
  · cases hd; exact ⟨_, by simp [binOp, Op.intCmp] <;> rfl, by rw [ilt_eq, show (!decide (x < y)) = decide (y ≤ x) by by_cases h : x < y <;> simp [h] <;> omega]; exact .bool _⟩
  · cases hd
theorem run_str {op : BinOp} {x y : ByteArray} {d : DV} (hd : dStr op (bytesN x) (bytesN y) = some d) (t : TypeId) (w : World) : ∃ v, (binOp op t (.string x) (.string y)).run P w = .ok v w ∧ Rep φ ρ v d := by
  have hlt : Op.bytesLess x.toList y.toList = slt (bytesN x) (bytesN y) := by rw [bytes_toList, bytes_toList, str_lt]; rfl
  unfold dStr at hd
  split at hd
  · rw [bleN] at hd
    split at hd
    · rename_i h0
      cases hd
      have h0 : lenN (bytesN x) + lenN (bytesN y) ≤ 1073741824 := by simpa using h0
      rw [lenN_eq, lenN_eq, len_bytes, len_bytes] at h0
      refine ⟨.string (x ++ y), ?_, .str _ _ (bytes_append x y)⟩
      have h1 : ¬ (((x.size + y.size : Nat) : Int) > IntKind.i64.max) := by
        have : IntKind.i64.max = 9223372036854775807 := by decide
        rw [this]; omega
      have h2 : ¬ (IntKind.i64.max < (x.size : Int) + (y.size : Int)) := by
        have : IntKind.i64.max = 9223372036854775807 := by decide
        rw [this]; omega
      have h3 : (x.size : Int) + (y.size : Int) ≤ 9223372036854775807 := by omega
      simp [binOp, Op.stringOp, h3]
    · cases hd
  · cases hd; exact ⟨_, by simp [binOp, Op.stringOp, str_eq] <;> rfl, .bool _⟩
  · cases hd; exact ⟨_, by simp [binOp, Op.stringOp, str_eq] <;> rfl, .bool _⟩
  · cases hd; exact ⟨_, by simp [binOp, Op.stringOp, hlt] <;> rfl, .bool _⟩
  · cases hd; exact ⟨_, by simp [binOp, Op.stringOp, hlt, str_eq] <;> rfl, .bool _⟩
  · cases hd; exact ⟨_, by simp [binOp, Op.stringOp, hlt, str_eq] <;> rfl, .bool _⟩
  · cases hd; exact ⟨_, by simp [binOp, Op.stringOp, hlt] <;> rfl, .bool _⟩
  · cases hd
/-! ### equality -/
def kindOf : TypeDesc → Nat
  | .bool => 0
  | .slice _ => 1
  | .interface _ => 2
  | .struct fs => 10 + fs.size
  | .int _ => 4
  | .string => 5
  | _ => 6
/-- The fields of a struct are integers and lie one behind the other. -/
def flatF (P : Program) : Nat → List Field → Bool
  | _, [] => true
  | i, f :: fs => f.name != "_" && Nat.beq f.offset i && (match P.underlying f.type with | some (.int _) => true | _ => false) && flatF P (i + 1) fs
def kdOk (P : Program) (t : TypeId) (kd : Nat) : Bool :=
  match P.underlying t with
  | some d => Nat.beq (kindOf d) kd && (match d with
    | .struct fs => flatF P 0 fs.toList && !P.stoodInHeld t && !P.eqGuardType P.depth t
    | .bool | .slice _ | .interface _ | .int _ | .string => true
    | _ => false)
  | none => false
theorem rep_intv {k : IntKind} {n : Int} {v : Value} (h : Rep φ ρ v (.int k n)) : v = .int k n := by cases h; rfl
theorem scalarEq_spec {x y : DV} {b : Bool} (h : scalarEq x y = some b) : ∃ k m n, x = .int k m ∧ y = .int k n ∧ b = (m == n) := by
  unfold scalarEq at h
  split at h
  · split at h
    · rename_i hk
      rw [kq_eq, decide_eq_true_eq] at hk
      subst hk
      cases h
      exact ⟨_, _, _, rfl, rfl, by rw [ieq_eq]; rfl⟩
    · cases h
  · cases h
theorem run_eqFields : ∀ (fs : List Field) (i n : Nat) (A B : Array Value) (cs ds : List DV) (b : Bool), flatF P i fs = true → RepL φ ρ A (cs) → RepL φ ρ B ds →
    fs.length + i = cs.length → fs.length + i = ds.length → cellsEq (cs.drop i) (ds.drop i) = some b → ∀ w, (Op.eqFields (n + 1) A B fs).run P w = .ok b w := by
  intro fs
  induction fs with
  | nil =>
    intro i n A B cs ds b _ _ _ h3 h4 h5 w
    rw [List.drop_of_length_le (by simp at h3; omega), List.drop_of_length_le (by simp at h4; omega)] at h5
    simp only [cellsEq, Option.some.injEq] at h5
    subst h5
    simp [Op.eqFields]
  | cons f fs ih =>
    intro i n A B cs ds b hf hA hB h3 h4 h5 w
    simp only [flatF, Bool.and_eq_true, beqN, decide_eq_true_eq] at hf
    obtain ⟨⟨⟨hnm, rfl⟩, hty⟩, hf⟩ := hf
    simp only [List.length_cons] at h3 h4
    have hi : f.offset < cs.length := by omega
    have hi' : f.offset < ds.length := by omega
    rw [List.drop_eq_getElem_cons hi, List.drop_eq_getElem_cons hi'] at h5
    have rA := hA.2 f.offset hi
    have rB := hB.2 f.offset hi'
    rw [show cs.getD f.offset .nilp = cs[f.offset] by simp [List.getD_eq_getElem?_getD, hi]] at rA
    rw [show ds.getD f.offset .nilp = ds[f.offset] by simp [List.getD_eq_getElem?_getD, hi']] at rB
    generalize cs[f.offset] = x at h5 rA
    generalize ds[f.offset] = y at h5 rB
    obtain ⟨u, hu, hu'⟩ := arr_get (A := A) (i := f.offset) (by have := hA.1; omega)
    obtain ⟨v, hv, hv'⟩ := arr_get (A := B) (i := f.offset) (by have := hB.1; omega)
    rw [hu'] at rA
    rw [hv'] at rB
    have hname : f.name ≠ "_" := by simpa using hnm
    split at hty
    · rename_i k hk
      have hsz : ∀ A : Array Value, ∀ z, A[f.offset]? = some z → ∀ w : World, (part f.type A f.offset).run P w = .ok z w := by
        intro A z hz w
        have : (isAgg f.type).run P w = .ok false w := by simp [isAgg, run_underlying hk]
        simp [part, this, hz]
      simp only [cellsEq] at h5
      cases hc : scalarEq x y with
      | none => rw [hc] at h5; cases h5
      | some c =>
        obtain ⟨k', m1, m2, rfl, rfl, hb⟩ := scalarEq_spec hc
        have eu := rep_intv rA
        have ev' := rep_intv rB
        subst eu ev'
        have hrun := run_equalIn_int (P := P) w n f.type k' k m1 m2 hk
        simp only [Op.eqFields, hname, ne_eq, not_false_eq_true, if_true, Sem.run_bind, hsz A _ hu, hsz B _ hv, Result.andThen_ok, hrun]
        rw [hc] at h5
        cases c with
        | true =>
          simp only [← hb, Bool.not_true, Bool.false_eq_true, if_false]
          exact ih (f.offset + 1) n A B cs ds b hf hA hB (by omega) (by omega) h5 w
        | false =>
          simp only [← hb, Bool.not_false, if_true]
          simp only at h5
          split at h5
          · cases h5; simp
          · cases h5
    · cases hty
theorem isl_nil {v : Value} {k : Nat} {tl : Tl} (h : Rep φ ρ v (.isl k (some true) [] tl)) : v = .slice none 0 0 := by
  cases h with
  | isl a n C k nf rows tl c hn hC hk hnf hz =>
    have h1 := hnf true rfl
    have h2 : a = none := by simpa using h1.symm
    subst h2
    have h3 := hz rfl
    subst h3
    simp at hn
    subst hn
    rfl
theorem run_kEq {t : TypeId} {kd : Nat} (hty : kdOk P t kd = true) {u v : Value} {x y : DV} {b : Bool} (hu : Rep φ ρ u x) (hv : Rep φ ρ v y) (hd : kEq kd x y = some b) (w : World) :
    (Op.equal t u v).run P w = .ok b w := by
  unfold kdOk at hty
  split at hty
  case h_2 => cases hty
  rename_i d hdd
  simp only [Bool.and_eq_true, beqN, decide_eq_true_eq] at hty
  obtain ⟨rfl, hty⟩ := hty
  show (Op.equalIn (9999 + 1) t u v).run P w = _
  cases d <;> simp only [kindOf] at hd hty <;> try (cases hty; done)
  case bool =>
    simp only [kEq] at hd
    split at hd
    · rw [rep_bool hu, rep_bool hv, run_equalIn_bool' w 9999 t _ _ hdd]; cases hd; cases b <;> rfl
    · rw [rep_bool hu, rep_bool hv, run_equalIn_bool' w 9999 t _ _ hdd]; cases hd; rename_i b; cases b <;> rfl
    · cases hd
  case int =>
    simp only [kEq] at hd
    split at hd
    · split at hd
      · rename_i hk
        rw [kq_eq, decide_eq_true_eq] at hk
        subst hk
        rw [rep_intv hu, rep_intv hv, run_equalIn_int w 9999 t _ _ _ _ hdd]; cases hd
        rw [ieq_eq]
        rfl
      · cases hd
    · cases hd
  case string =>
    simp only [kEq] at hd
    split at hd
    · cases hd
      obtain ⟨s1, rfl, rfl⟩ := rep_str hu
      obtain ⟨s2, rfl, rfl⟩ := rep_str hv
      rw [← str_eq]
      exact run_equalIn_string w 9999 t _ _ hdd
    · cases hd
  case slice =>
    simp only [kEq] at hd
    split at hd
    · cases hd
      rw [isl_nil hv]
      cases hu with
      | isl a n C k nf rows tl c hn hC hk hnf hz =>
        rw [hnf b rfl]
        exact run_equal_slice_nil w t _ a n C hdd
    · cases hd
      rw [isl_nil hv]
      cases hu with
      | isl a n C k nf rows tl c hn hC hk hnf hz =>
        have : a.isNone = false := by
          cases a with
          | none => have h3 := hz rfl; simp at hn; omega
          | some _ => rfl
        rw [← this]
        exact run_equal_slice_nil w t _ a n C hdd
    · cases hd
      rw [isl_nil hv]
      cases hu with
      | sl a => exact run_equal_slice_nil w t _ (some a) _ _ hdd
    · cases hd
  case interface =>
    simp only [kEq] at hd
    split at hd
    · cases hd
      cases hu; cases hv
      generalize 9999 = m
      simp only [Op.equalIn, Sem.run_bind, run_underlying hdd, Result.andThen_ok]
      rfl
    · cases hd
      cases hu; cases hv
      generalize 9999 = m
      simp only [Op.equalIn, Sem.run_bind, run_underlying hdd, Result.andThen_ok]
      rfl
    · cases hd
  case struct fs =>
    simp only [Bool.and_eq_true, Bool.not_eq_true'] at hty
    obtain ⟨⟨hf, hst⟩, _⟩ := hty
    have hS : P.underlying t = some (.struct (P.fieldsOf t)) := by simp [Program.fieldsOf, hdd]
    have hfs : P.fieldsOf t = fs := by simp [Program.fieldsOf, hdd]
    unfold kEq at hd
    split at hd <;> try omega
    split at hd
    · rename_i xs ys
      split at hd
      · rename_i h1 h2
        simp only [beqN, decide_eq_true_eq, lenN_eq] at h1 h2
        have h1' : xs.length = fs.size := by have : 10 + xs.length = 10 + fs.size := h1; omega
        have h2' : ys.length = fs.size := by have : 10 + ys.length = 10 + fs.size := h2; omega
        cases hu with
        | agg A _ hA hA' =>
          cases hv with
          | agg B _ hB hB' =>
            rw [run_equalIn_struct w 9999 t A B hS hst, hfs]
            exact run_eqFields fs.toList 0 9998 A B xs ys b hf ⟨hA, hA'⟩ ⟨hB, hB'⟩ (by simp [h1']) (by simp [h2']) (by simpa using hd) w
      · cases hd
    · cases hd
def mEq (P : Program) (G : List (List DV)) (kd : Nat) (ng : Bool) (x y : Opd) : Op → Bool
  | .binOp op t x' y' _ => opOk G x' x && opOk G y' y && kdOk P t kd && (match op, ng with | .eql, false => true | .neq, true => true | _, _ => false) &&
      (!Nat.beq kd 2 || (match y' with | .const _ => true | _ => false)) && !Nat.beq kd 4 && !Nat.beq kd 5
  | _ => false
theorem run_guard {op : BinOp} (hop : op = .eql ∨ op = .neq) {t : TypeId} {kd : Nat} (hty : kdOk P t kd = true) {x' y' : Operand} (hc : kd ≠ 2 ∨ ∃ v, y' = .const v) {u v : Value} {x y : DV} {b : Bool} (hu : Rep φ ρ u x) (hv : Rep φ ρ v y) (hd : kEq kd x y = some b) (w : World) :
    (eqGuard op t x' y' u v).run P w = .ok () w := by
  have hop' : (!(op matches .eql | .neq)) = false := by rcases hop with rfl | rfl <;> rfl
  unfold kdOk at hty
  split at hty
  case h_2 => cases hty
  rename_i d hdd
  simp only [Bool.and_eq_true, beqN, decide_eq_true_eq] at hty
  obtain ⟨rfl, hty⟩ := hty
  cases d <;> simp only [kindOf] at hd hty hc <;> try (cases hty; done)
  case interface =>
    obtain ⟨z, rfl⟩ : ∃ v, y' = .const v := by rcases hc with h | h; exact absurd rfl h; exact h
    simp only [kEq] at hd
    split at hd
    · cases hu; cases hv; simp [eqGuard]
    · cases hu; cases hv; simp [eqGuard]
    · cases hd
  case struct fs =>
    simp only [Bool.and_eq_true, Bool.not_eq_true'] at hty
    obtain ⟨_, hg⟩ := hty
    unfold kEq at hd
    split at hd <;> try omega
    split at hd
    · cases hu; cases hv; simp [eqGuard, hg]
    · cases hd
  all_goals
    simp only [kEq] at hd
    split at hd <;> first
      | (cases hu <;> cases hv <;> simp [eqGuard] ; done)
      | cases hd
theorem run_binEq {op : BinOp} {ng : Bool} (hop : (op = .eql ∧ ng = false) ∨ (op = .neq ∧ ng = true)) {t : TypeId} {kd : Nat} {u v : Value} {x y : DV} {b : Bool} (rx : Rep φ ρ u x) (ry : Rep φ ρ v y)
    (hb : kEq kd x y = some b) (h4 : kd ≠ 4) (h5 : kd ≠ 5) {w : World} (hr : (Op.equal t u v).run P w = .ok b w) : (binOp op t u v).run P w = .ok (.bool (ngB ng b)) w := by
  unfold kEq at hb
  split at hb <;> (repeat' split at hb) <;> first
    | (cases hb; done)
    | (exact absurd rfl h4)
    | (exact absurd rfl h5)
    | (rcases hop with ⟨rfl, rfl⟩ | ⟨rfl, rfl⟩ <;> cases rx <;> cases ry <;> simp [binOp, hr, ngB])
theorem sim_eq {kd : Nat} {ng : Bool} {x y : Opd} (hs : SR G φ ρ S w) (he : ER φ ρ a.tmps e) (hm : mEq P G kd ng x y o.op = true) (hd : dop G base e S.h (.eq kd ng x y) = some (d, ps)) :
    OpSim P G n0 base al o a φ ρ S w d ps := by
  unfold mEq at hm
  split at hm
  · rename_i op t x' y' yt hop
    simp only [Bool.and_eq_true, Bool.or_eq_true, Bool.not_eq_true', beqN, decide_eq_false_iff_not] at hm
    obtain ⟨⟨⟨⟨⟨⟨hx, hy⟩, hk⟩, hop2⟩, hc⟩, h4⟩, h5⟩ := hm
    have rx := opOk_rep hs he hx
    have ry := opOk_rep hs he hy
    simp only [dop] at hd
    split at hd
    · rename_i b hb
      cases hd
      have hc' : kd ≠ 2 ∨ ∃ v, y' = .const v := by
        rcases hc with h | h
        · exact .inl h
        · cases y' <;> first | (exact .inr ⟨_, rfl⟩) | cases h
      have hop3 : op = .eql ∨ op = .neq := by
        split at hop2
        · exact .inl rfl
        · exact .inr rfl
        · cases hop2
      have hg := run_guard (P := P) hop3 (x' := x') hk hc' rx ry hb w
      have hr := run_kEq (P := P) hk rx ry hb w
      refine OpSim.pure (v := .bool (ngB ng b)) hs ?_ (.bool _)
      have hb2 := run_binEq (P := P) (op := op) (ng := ng) (by
        split at hop2
        · exact .inl ⟨rfl, rfl⟩
        · exact .inr ⟨rfl, rfl⟩
        · cases hop2) rx ry hb h4 h5 hr
      simp [execOp, hop, hg, hb2]
    · cases hd
  · cases hm
end Go.Proofs.YtfmicbbflpkdgaaGreatDoor.D
/-
  The D machine, part i: arithmetic, conversions, strings, slices that are held as lists, structs that are built.
-/
namespace Go.Proofs.YtfmicbbflpkdgaaGreatDoor.D
open Go.RowKit
variable {P : Program} {G : List (List DV)} {φ φ' : Phi} {ρ ρ' : Rho} {S S' : DS} {w w' : World}
variable {n0 base : Nat} {al : List Nat} {o : Oper} {a : Act} {e : Env} {d : DV} {ps : Puts}
def mBin (G : List (List DV)) (op : BinOp) (x y : Opd) : Op → Bool
  | .binOp op' _ x' y' _ => decide (op = op') && opOk G x' x && opOk G y' y
  | _ => false
theorem eqGuard_int (op : BinOp) (t : TypeId) (x y : Operand) (k : IntKind) (n : Int) (v : Value) : eqGuard op t x y (.int k n) v = pure () := by cases op <;> rfl
theorem eqGuard_str (op : BinOp) (t : TypeId) (x y : Operand) (s : ByteArray) (v : Value) : eqGuard op t x y (.string s) v = pure () := by cases op <;> rfl
theorem sim_bin {op : BinOp} {x y : Opd} (hs : SR G φ ρ S w) (he : ER φ ρ a.tmps e) (hm : mBin G op x y o.op = true) (hd : dop G base e S.h (.bin op x y) = some (d, ps)) :
    OpSim P G n0 base al o a φ ρ S w d ps := by
  unfold mBin at hm
  split at hm
  · rename_i op' t x' y' yt hop
    simp only [Bool.and_eq_true, decide_eq_true_eq] at hm
    obtain ⟨⟨rfl, hx⟩, hy⟩ := hm
    have rx := opOk_rep hs he hx
    have ry := opOk_rep hs he hy
    simp only [dop, some1] at hd
    split at hd
    · rename_i v hv
      cases hd
      generalize ev G e x = dx at rx hv
      generalize ev G e y = dy at ry hv
      have hfin : ∃ u, (do eqGuard op t x' y' (a.eval x') (a.eval y'); binOp op t (a.eval x') (a.eval y') : Sem Value).run P w = .ok u w ∧ Rep φ ρ u d := by
        unfold dBin at hv
        split at hv
        · rename_i k m k' b
          cases hv
          rw [rep_intv rx, rep_intv ry, eqGuard_int]
          refine ⟨_, ?_, .int _ _⟩
          have h1 : ¬ ((b : Int) < 0) := by omega
          simp [binOp, Op.shift, h1]
        · rename_i k m k' n
          split at hv
          · rename_i hk
            rw [kq_eq, decide_eq_true_eq] at hk
            subst hk
            rw [rep_intv rx, rep_intv ry, eqGuard_int]
            obtain ⟨u, h1, h2⟩ := run_int (P := P) (φ := φ) (ρ := ρ) hv t w
            exact ⟨u, by simp [h1], h2⟩
          · cases hv
        · obtain ⟨s1, h1, rfl⟩ := rep_str rx
          obtain ⟨s2, h2, rfl⟩ := rep_str ry
          rw [h1, h2, eqGuard_str]
          obtain ⟨u, h1, h2⟩ := run_str (P := P) (φ := φ) (ρ := ρ) hv t w
          exact ⟨u, by simp [h1], h2⟩
        · cases hv
      obtain ⟨u, h1, h2⟩ := hfin
      refine OpSim.pure (v := u) hs ?_ h2
      have e1 : (execOp a.eval o).run P w = ((do eqGuard op t x' y' (a.eval x') (a.eval y'); binOp op t (a.eval x') (a.eval y') : Sem Value).run P w).andThen fun v w' => .ok (.value v) w' := by
        simp only [execOp, hop]
        exact Sem.run_map ..
      rw [e1, h1]; rfl
    · cases hd
  · cases hm
def mUn (G : List (List DV)) (op : UnOp) (x : Opd) : Op → Bool
  | .unOp op' _ x' => decide (op = op') && opOk G x' x
  | _ => false
theorem sim_un {op : UnOp} {x : Opd} (hs : SR G φ ρ S w) (he : ER φ ρ a.tmps e) (hm : mUn G op x o.op = true) (hd : dop G base e S.h (.un op x) = some (d, ps)) :
    OpSim P G n0 base al o a φ ρ S w d ps := by
  unfold mUn at hm
  split at hm
  · rename_i op' t x' hop
    simp only [Bool.and_eq_true, decide_eq_true_eq] at hm
    obtain ⟨rfl, hx⟩ := hm
    have rx := opOk_rep hs he hx
    simp only [dop, some1] at hd
    split at hd
    · rename_i v hv
      cases hd
      generalize ev G e x = dx at rx hv
      unfold dUn at hv
      split at hv
      · cases hv
        refine OpSim.pure hs (by simp [execOp, hop, rep_intv rx, Op.unary, Op.intArith] <;> rfl) ?_
        rw [wr_eq, Int.zero_sub]; exact .int _ _
      · cases hv
        exact OpSim.pure hs (by simp [execOp, hop, rep_bool rx, Op.unary] <;> rfl) (.bool _)
      · cases hv
    · cases hd
  · cases hm
def mCv (P : Program) (G : List (List DV)) (k : IntKind) (x : Opd) : Op → Bool
  | .convert s t x' => opOk G x' x && (P.underlying s).isSome && (match P.underlying t with | some (.int k') => kq k k' | _ => false)
  | _ => false
theorem sim_cv {k : IntKind} {x : Opd} (hs : SR G φ ρ S w) (he : ER φ ρ a.tmps e) (hm : mCv P G k x o.op = true) (hd : dop G base e S.h (.cv k x) = some (d, ps)) :
    OpSim P G n0 base al o a φ ρ S w d ps := by
  unfold mCv at hm
  split at hm
  · rename_i s t x' hop
    simp only [Bool.and_eq_true] at hm
    obtain ⟨⟨hx, hs'⟩, ht⟩ := hm
    obtain ⟨ds, hds⟩ := Option.isSome_iff_exists.1 hs'
    split at ht
    · rename_i k' hk'
      rw [kq_eq, decide_eq_true_eq] at ht
      subst ht
      have rx := opOk_rep hs he hx
      simp only [dop] at hd
      split at hd
      · rename_i k2 n hx2
        rw [hx2] at rx
        cases hd
        refine OpSim.pure (v := .int k (k.wrap n)) hs ?_ (by rw [wr_eq]; exact .int _ _)
        simp [execOp, hop, convert, run_underlying hds, run_underlying hk', rep_intv rx, Conv.intToInt]
      · cases hd
    · cases ht
  · cases hm
def mMki (P : Program) (G : List (List DV)) (t : Nat) (x : Opd) : Op → Bool
  | .makeInterface t' x' => Nat.beq t t' && opOk G x' x && (match P.underlying t' with | some (.interface _) => false | some _ => true | none => false)
  | _ => false
theorem sim_mki {t : Nat} {x : Opd} (hs : SR G φ ρ S w) (he : ER φ ρ a.tmps e) (hm : mMki P G t x o.op = true) :
    OpSim P G n0 base al o a φ ρ S w (.iface t (ev G e x)) [] := by
  unfold mMki at hm
  split at hm
  · rename_i t' x' hop
    simp only [Bool.and_eq_true, beqN, decide_eq_true_eq] at hm
    obtain ⟨⟨rfl, hx⟩, ht⟩ := hm
    refine OpSim.pure (v := .iface t (a.eval x')) hs ?_ (.iface _ _ _ (opOk_rep hs he hx))
    split at ht
    · cases ht
    · rename_i dd hne hdd
      have : (Instr.makeInterface t (a.eval x')).run P w = .ok (.iface t (a.eval x')) w := by
        simp only [Instr.makeInterface, Sem.run_bind, run_underlying hdd, Result.andThen_ok]
        cases dd <;> first | rfl | (exact (hne _ rfl).elim)
      simp [execOp, hop, this]
    · cases ht
  · cases hm
def mMkf (G : List (List DV)) (f : Nat) (xs ys : List Opd) : Op → Bool
  | .makeFunc (.func f') xs' ys' => Nat.beq f f' && opOkL G xs'.toList xs && opOkL G ys'.toList ys
  | _ => false
theorem sim_mkf {f : Nat} {xs ys : List Opd} (hs : SR G φ ρ S w) (he : ER φ ρ a.tmps e) (hm : mMkf G f xs ys o.op = true) :
    OpSim P G n0 base al o a φ ρ S w (.func f (evs G e xs) (evs G e ys)) [] := by
  unfold mMkf at hm
  split at hm
  · rename_i f' xs' ys' hop
    simp only [Bool.and_eq_true, beqN, decide_eq_true_eq] at hm
    obtain ⟨⟨rfl, h1⟩, h2⟩ := hm
    have r1 := opOkL_rep hs he h1
    have r2 := opOkL_rep hs he h2
    exact OpSim.pure (v := .func (.func f) (xs'.map a.eval) (ys'.map a.eval)) hs (by simp [execOp, hop, Instr.makeFunc])
      (.func _ _ _ _ _ (by simpa using r1.1) (by simpa using r2.1) (by simpa using r1.2) (by simpa using r2.2))
  · cases hm
def mMx (G : List (List DV)) (x y : Opd) : Op → Bool
  | .call { callee := .builtin .max, args, .. } => opOkL G args.toList [x, y]
  | _ => false
theorem two_args {A : Array Operand} {x y : Opd} (h : opOkL G A.toList [x, y] = true) : ∃ x' y', A = #[x', y'] ∧ opOk G x' x = true ∧ opOk G y' y = true := by
  obtain ⟨l⟩ := A
  match l, h with
  | [x', y'], h => simp only [opOkL, Bool.and_eq_true] at h; exact ⟨x', y', rfl, h.1, h.2.1⟩
  | [], h => simp [opOkL] at h
  | [_], h => simp [opOkL] at h
  | _ :: _ :: _ :: _, h => simp [opOkL] at h
theorem one_arg {A : Array Operand} {x : Opd} (h : opOkL G A.toList [x] = true) : ∃ x', A = #[x'] ∧ opOk G x' x = true := by
  obtain ⟨l⟩ := A
  match l, h with
  | [x'], h => simp only [opOkL, Bool.and_eq_true] at h; exact ⟨x', rfl, h.1⟩
  | [], h => simp [opOkL] at h
  | _ :: _ :: _, h => simp [opOkL] at h
theorem sim_mx {x y : Opd} (hs : SR G φ ρ S w) (he : ER φ ρ a.tmps e) (hm : mMx G x y o.op = true) (hd : dop G base e S.h (.mx x y) = some (d, ps)) :
    OpSim P G n0 base al o a φ ρ S w d ps := by
  unfold mMx at hm
  split at hm
  · rename_i args ts hop
    obtain ⟨x', y', rfl, hx, hy⟩ := two_args hm
    have rx := opOk_rep hs he hx
    have ry := opOk_rep hs he hy
    simp only [dop, some1] at hd
    split at hd
    · rename_i v hv
      cases hd
      generalize ev G e x = dx at rx hv
      generalize ev G e y = dy at ry hv
      unfold dMax at hv
      split at hv
      · rename_i k m k' n
        split at hv
        · rename_i hk
          rw [kq_eq, decide_eq_true_eq] at hk
          subst hk
          cases hv
          refine OpSim.pure (v := .int k (if m < n then n else m)) hs ?_ ?_
          · simp [execOp, hop, resolve, invoke, builtin, Builtin.max_, Builtin.max2, rep_intv rx, rep_intv ry]
          · rw [ilt_eq]
            by_cases hlt : m < n <;> simp [hlt] <;> exact .int _ _
        · cases hv
      · cases hv
    · cases hd
  · cases hm
/-! ### strings and slices that are cut and indexed -/
theorem rep_nat {v : Value} {d : DV} {n : Nat} (h : Rep φ ρ v d) (hd : dNat d = some n) : ∃ k, v = .int k (n : Int) := by
  unfold dNat at hd
  split at hd
  · cases hd; exact ⟨_, rep_intv h⟩
  · cases hd
def opOkO (G : List (List DV)) : Option Operand → Option Opd → Bool
  | none, none => true
  | some x, some y => opOk G x y
  | _, _ => false
theorem rep_bound (hs : SR G φ ρ S w) (he : ER φ ρ a.tmps e) {x : Option Operand} {y : Option Opd} (h : opOkO G x y = true) {dflt n : Nat} (hd : bound (evo G e y) dflt = some n) :
    (x = none ∧ y = none ∧ n = dflt) ∨ ∃ x' k, x = some x' ∧ a.eval x' = .int k (n : Int) := by
  unfold opOkO at h
  split at h
  · simp only [evo, bound, Option.some.injEq] at hd
    exact .inl ⟨rfl, rfl, hd.symm⟩
  · rename_i x' y'
    simp only [evo, bound] at hd
    obtain ⟨k, hk⟩ := rep_nat (opOk_rep hs he h) hd
    exact .inr ⟨x', k, rfl, hk⟩
  · cases h
theorem run_bounds (hs : SR G φ ρ S w) (he : ER φ ρ a.tmps e) {lo hi : Option Operand} {lo' hi' : Option Opd} (h1 : opOkO G lo lo' = true) (h2 : opOkO G hi hi' = true) {b : Bool} {len cap l h : Nat}
    (e2 : bound (evo G e hi') len = some h) (e1 : bound (evo G e lo') 0 = some l) (hl : l ≤ h) (hh : h ≤ cap) :
    (Instr.sliceBounds b len cap (lo.map a.eval) (hi.map a.eval) none).run P w = .ok (l, h, cap) w := by
  have hb : ∀ (k : IntKind) (n y : Nat) (c : BoundsCode), n ≤ y → (Instr.sliceBound (.int k (n : Int)) y c).run P w = .ok n w := by
    intro k n y c hn
    have : (0 ≤ (n : Int) ∧ (n : Int) ≤ (y : Int)) := by omega
    simp [Instr.sliceBound, asIntOf, this]
  rcases rep_bound hs he h2 e2 with ⟨rfl, _, rfl⟩ | ⟨x2, k2, rfl, v2⟩ <;> rcases rep_bound hs he h1 e1 with ⟨rfl, _, rfl⟩ | ⟨x1, k1, rfl, v1⟩
  · simp [Instr.sliceBounds]
  · simp [Instr.sliceBounds, v1, hb k1 l _ _ hl]
  · simp [Instr.sliceBounds, v2, hb k2 h _ _ hh]
  · simp [Instr.sliceBounds, v1, v2, hb k2 h _ _ hh, hb k1 l _ _ hl]
theorem bytes_extract (s : ByteArray) (l h : Nat) : bytesN (s.extract l h) = ((bytesN s).drop l).take (h - l) := by
  simp [bytesN, List.map_take, List.map_drop]
def mSls (P : Program) (G : List (List DV)) (x : Opd) (lo hi : Option Opd) : Op → Bool
  | .slice t x' lo' hi' none => opOk G x' x && opOkO G lo' lo && opOkO G hi' hi && (match P.underlying t with | some .string => true | _ => false)
  | _ => false
theorem sim_sls {x : Opd} {lo hi : Option Opd} (hs : SR G φ ρ S w) (he : ER φ ρ a.tmps e) (hm : mSls P G x lo hi o.op = true) (hd : dop G base e S.h (.sls x lo hi) = some (d, ps)) :
    OpSim P G n0 base al o a φ ρ S w d ps := by
  unfold mSls at hm
  split at hm
  · rename_i t x' lo' hi' hop
    simp only [Bool.and_eq_true] at hm
    obtain ⟨⟨⟨hx, hlo⟩, hhi⟩, ht⟩ := hm
    split at ht
    · rename_i hty
      have rx := opOk_rep hs he hx
      simp only [dop] at hd
      split at hd
      · rename_i l hl
        rw [hl] at rx
        obtain ⟨s, hsv, rfl⟩ := rep_str rx
        simp only [some1, dSliceS, lenN_eq, bleN, dropN_eq, takeN_eq, len_bytes] at hd
        split at hd
        · rename_i v hv
          cases hd
          split at hv
          · cases hv
          · rename_i h hh
            split at hv
            · cases hv
            · rename_i hle
              split at hv
              · cases hv
              · rename_i l hl2
                split at hv
                · rename_i hll
                  cases hv
                  have hle' : h ≤ s.size := by simpa using hle
                  have hll' : l ≤ h := by simpa using hll
                  have hb := run_bounds (P := P) hs he hlo hhi (b := false) hh hl2 hll' hle'
                  refine OpSim.pure (v := .string (s.extract l h)) hs ?_ (.str _ _ (bytes_extract s l h))
                  simp [execOp, hop, Instr.sliceAt, Instr.slice, run_underlying hty, hsv, hb]
                · cases hv
        · cases hd
      · cases hd
    · cases ht
  · cases hm
def mSlc (P : Program) (G : List (List DV)) (k : Nat) (x : Opd) (lo hi : Option Opd) : Op → Bool
  | .slice t x' lo' hi' none => opOk G x' x && opOkO G lo' lo && opOkO G hi' hi && (match P.underlying t with | some (.slice el) => elOk P el k | _ => false)
  | _ => false
theorem elOk_run {t : TypeId} {k : Nat} (h : elOk P t k = true) : (∃ i, P.info? t = some i ∧ i.size = k) ∧ ∀ w : World, (sizeOf t).run P w = .ok k w := by
  unfold elOk at h
  split at h
  · rename_i i hi
    rw [beqN, decide_eq_true_eq] at h
    exact ⟨⟨i, hi, h⟩, fun w => by simp [sizeOf, typeInfo, hi, h]⟩
  · cases h
theorem getD_drop (rows : List (List DV)) (l i n : Nat) (h : i < n) : ((rows.drop l).take n).getD i [] = rows.getD (l + i) [] := by
  simp [List.getD_eq_getElem?_getD, h, List.getElem?_drop]
theorem rep_slice_cut {v : Value} {k : Nat} {dx dv : DV} (rx : Rep φ ρ v dx) (hk : ∀ k' nf rows tl, dx = .isl k' nf rows tl → k' = k) (hk2 : ∀ b i n c p, dx = .sl b i n c → ρ b = some p → p.k = k)
    {l h : Nat} (hl : l ≤ h) (hx : (∃ k' nf rows tl, dx = .isl k' nf rows tl ∧ h ≤ rows.length ∧ dv = .isl k' nf ((rows.drop l).take (h - l)) (tl.shift l (Nat.beq h rows.length))) ∨
      (∃ b i n c, dx = .sl b i n c ∧ h ≤ n ∧ dv = .sl b (i + l) (h - l) (capSub c l))) :
    ∃ ad len C, v = .slice ad len C ∧ h ≤ len ∧ len ≤ C ∧ Rep φ ρ (.slice (if C = l then ad else ad.map (·.add (l * k))) (h - l) (C - l)) dv := by
  rcases hx with ⟨k', nf, rows, tl, rfl, hh, rfl⟩ | ⟨b, i, n, c, rfl, hh, rfl⟩
  · obtain rfl := hk _ _ _ _ rfl
    cases rx with
    | isl ad n C k nf rows tl c hn hC hkk hnf hz hc hr ht =>
      subst hn
      refine ⟨ad, _, C, rfl, hh, hC, ?_⟩
      have hlen : ((rows.drop l).take (h - l)).length = h - l := by simp; omega
      refine .isl _ (h - l) (C - l) k' nf _ _ (fun i j => c (l + i) j) hlen (by omega) (fun r hr' => hkk r (List.mem_of_mem_drop (List.mem_of_mem_take hr'))) ?_ ?_ ?_ ?_ ?_
      · intro b hb
        rw [hnf b hb]
        split
        · rfl
        · cases ad <;> rfl
      · intro hnone
        split at hnone
        · rename_i hCl; omega
        · cases ad with
          | none => have := hz rfl; omega
          | some _ => cases hnone
      · intro ad' had i j hi hj
        by_cases hCl : C = l
        · omega
        · rw [if_neg hCl] at had
          cases ad with
          | none => cases had
          | some a0 =>
            simp only [Option.map_some, Option.some.injEq] at had
            subst had
            have := hc a0 rfl (l + i) j (by omega) hj
            rw [add_add]
            rwa [show l * k' + (i * k' + j) = (l + i) * k' + j by rw [Nat.add_mul]; omega]
      · intro i j hi hj
        rw [getD_drop rows l i (h - l) hi]
        exact hr (l + i) j (by omega) hj
      · cases tl with
        | no => exact trivial
        | ex =>
          simp only [Tl.shift]
          have hC' : C = rows.length := ht
          cases hb : Nat.beq h rows.length with
          | true => rw [beqN, decide_eq_true_eq] at hb; show C - l = h - l; omega
          | false => exact trivial
        | tk t i0 =>
          obtain ⟨p, h1, h2, h3, h4, h5⟩ := ht
          refine ⟨p, h1, h2, ?_, ?_, ?_⟩
          · show i0 + l ≤ p.cap; omega
          · show C - l = p.cap - (i0 + l); omega
          · by_cases hCl : C = l
            · exact .inr (by omega)
            · rw [if_neg hCl]
              rcases h5 with h5 | h5
              · left
                rw [h5]
                show some (Addr.add _ _) = _
                rw [add_new]
                congr 2
                show (p.off + i0) * k' + l * k' = (p.off + (i0 + l)) * k'
                rw [← Nat.add_mul, Nat.add_assoc]
              · right; omega
  · cases rx with
    | sl ad b i n C cap p hp hC h1 h2 ha =>
      have hpk := hk2 _ _ _ _ p rfl hp
      refine ⟨some ad, n, C, rfl, hh, hC, ?_⟩
      have e1 : (if C = l then some ad else (some ad).map (·.add (l * k))) = some (if C = l then ad else ad.add (l * k)) := by split <;> rfl
      rw [e1]
      refine .sl _ b (i + l) (h - l) (C - l) _ p hp (by omega) ?_ ?_ ?_
      · intro c' hc'
        cases c with
        | none => simp [capSub] at hc'
        | some c0 =>
          simp only [capSub, Option.some.injEq] at hc'
          have := h1 c0 rfl
          subst hc'
          show C - l = c0 - l
          omega
      · intro hcn
        cases c with
        | none => obtain ⟨g1, g2⟩ := h2 rfl; exact ⟨by omega, by omega⟩
        | some c0 => simp [capSub] at hcn
      · by_cases hCl : C = l
        · right; omega
        · rw [if_neg hCl]
          rcases ha with ha | ha
          · left
            rw [ha, add_new, hpk, ← Nat.add_mul]
          · right; omega
theorem sim_slc {k : Nat} {x : Opd} {lo hi : Option Opd} (hs : SR G φ ρ S w) (he : ER φ ρ a.tmps e) (hm : mSlc P G k x lo hi o.op = true) (hd : dop G base e S.h (.slc k x lo hi) = some (d, ps)) :
    OpSim P G n0 base al o a φ ρ S w d ps := by
  unfold mSlc at hm
  split at hm
  · rename_i t x' lo' hi' hop
    simp only [Bool.and_eq_true] at hm
    obtain ⟨⟨⟨hx, hlo⟩, hhi⟩, ht⟩ := hm
    split at ht
    · rename_i el hty
      have rx := opOk_rep hs he hx
      simp only [dop] at hd
      split at hd
      · rename_i hkk
        simp only [some1] at hd
        split at hd
        · rename_i v hv
          cases hd
          generalize hdx : ev G e x = dx at rx hv hkk
          have main : ∃ l h len, bound (evo G e hi) len = some h ∧ bound (evo G e lo) 0 = some l ∧ l ≤ h ∧ ((∃ k' nf rows tl, dx = .isl k' nf rows tl ∧ len = rows.length ∧ h ≤ rows.length ∧ d = .isl k' nf ((rows.drop l).take (h - l)) (tl.shift l (Nat.beq h rows.length))) ∨
              (∃ b i n c, dx = .sl b i n c ∧ len = n ∧ h ≤ n ∧ d = .sl b (i + l) (h - l) (capSub c l))) := by
            unfold dSlice at hv
            split at hv
            · rename_i k' nf rows tl
              simp only [lenN_eq, bleN, dropN_eq, takeN_eq] at hv
              split at hv
              · cases hv
              · rename_i h hh
                split at hv
                · cases hv
                · rename_i hle
                  split at hv
                  · cases hv
                  · rename_i l hl2
                    split at hv
                    · rename_i hll
                      cases hv
                      exact ⟨l, h, _, hh, hl2, by simpa using hll, .inl ⟨_, _, _, _, rfl, rfl, by simpa using hle, rfl⟩⟩
                    · cases hv
            · rename_i b i n c
              simp only [bleN] at hv
              split at hv
              · cases hv
              · rename_i h hh
                split at hv
                · cases hv
                · rename_i hle
                  split at hv
                  · cases hv
                  · rename_i l hl2
                    split at hv
                    · rename_i hll
                      cases hv
                      exact ⟨l, h, _, hh, hl2, by simpa using hll, .inr ⟨_, _, _, _, rfl, rfl, by simpa using hle, rfl⟩⟩
                    · cases hv
            · cases hv
          obtain ⟨l, h, len, hh, hl, hle, hx'⟩ := main
          have hsz := (elOk_run ht).2 w
          obtain ⟨ad, len', C, hval, h1, h2, h3⟩ := rep_slice_cut (k := k) (l := l) (h := h) (dv := d) rx (by
              intro k' nf rows tl hdx'
              subst hdx'
              simpa [slcKH, beqN] using hkk) (by
              intro b i n c p hdx' hp
              subst hdx'
              simp only [slcKH] at hkk
              split at hkk
              · rename_i k' rows hb
                obtain ⟨q, g1, g2⟩ := hs.heap b _ hb
                rw [hp] at g1
                cases g1
                rw [g2.1]
                simpa [beqN] using hkk
              · cases hkk) hle (by
              rcases hx' with ⟨k', nf, rows, tl, g1, _, g3, g4⟩ | ⟨b, i, n, c, g1, _, g3, g4⟩
              · exact .inl ⟨_, _, _, _, g1, g3, g4⟩
              · exact .inr ⟨_, _, _, _, g1, g3, g4⟩)
          have hlen : len = len' := by
            rcases hx' with ⟨k', nf, rows, tl, g1, g2, _⟩ | ⟨b, i, n, c, g1, g2, _⟩
            · subst g1; subst g2; rw [hval] at rx; cases rx; assumption
            · subst g1; subst g2; rw [hval] at rx; cases rx; rfl
          subst hlen
          have hb := run_bounds (P := P) hs he hlo hhi (b := true) (cap := C) hh hl hle (by omega)
          refine OpSim.pure hs ?_ h3
          simp [execOp, hop, Instr.sliceAt, Instr.slice, run_underlying hty, hval, hb, hsz]
        · cases hd
      · cases hd
    · cases ht
  · cases hm
/-! ### indexing -/
def mIa (P : Program) (G : List (List DV)) (k : Nat) (x i : Opd) : Op → Bool
  | .indexAddr t x' i' => opOk G x' x && opOk G i' i && (match P.underlying t with | some (.slice el) => elOk P el k | _ => false)
  | _ => false
theorem sim_ia {k : Nat} {x i : Opd} (hs : SR G φ ρ S w) (he : ER φ ρ a.tmps e) (hm : mIa P G k x i o.op = true) (hd : dop G base e S.h (.ia k x i) = some (d, ps)) :
    OpSim P G n0 base al o a φ ρ S w d ps := by
  unfold mIa at hm
  split at hm
  · rename_i t x' i' hop
    simp only [Bool.and_eq_true] at hm
    obtain ⟨⟨hx, hi⟩, ht⟩ := hm
    split at ht
    · rename_i el hty
      have rx := opOk_rep hs he hx
      have ri := opOk_rep hs he hi
      have hsz := (elOk_run ht).2 w
      simp only [dop] at hd
      split at hd
      · rename_i hkk
        simp only [some1] at hd
        split at hd
        · rename_i v hv
          cases hd
          generalize hdx : ev G e x = dx at rx hv hkk
          generalize hdi : ev G e i = di at ri hv
          have run : ∀ (ad : Addr) (n C j : Nat) (kk : IntKind), a.eval x' = .slice (some ad) n C → a.eval i' = .int kk (j : Int) → j < n →
              (execOp a.eval o).run P w = .ok (.value (.pointer (some (ad.add (j * k))))) w := by
            intro ad n C j kk e1 e2 hj
            simp [execOp, hop, Instr.indexAt, asIntOf, e1, e2, run_underlying hty, hj, hsz]
          unfold dIdx at hv
          split at hv
          · rename_i k' nf rows tl j hdn
            obtain ⟨kk, hiv⟩ := rep_nat ri hdn
            simp only [beqN] at hv
            split at hv
            · rename_i hk
              obtain rfl : k' = k := by simpa using hk
              rw [nth_eq] at hv
              split at hv
              · rename_i r hr
                cases hv
                obtain ⟨hj, hrj⟩ := List.getElem?_eq_some_iff.1 hr
                generalize hxv : a.eval x' = xv at rx
                cases rx with
                | isl ad n C k nf rows tl c hn hC hkk' hnf hz hc hrep ht' =>
                  subst hn
                  cases ad with
                  | none => have := hz rfl; omega
                  | some ad =>
                    have hrl : r.length = k' := hkk' r (by rw [← hrj]; exact List.getElem_mem hj)
                    refine OpSim.pure hs (run ad _ C j kk hxv hiv hj) ?_
                    have := Rep.iptr (φ := φ) (ρ := ρ) (ad.add (j * k')) r 0 (fun q => c j q) (fun q hq => by rw [add_add]; exact hc ad rfl j q hj (by omega)) (fun q hq => by
                      have := hrep j q hj (by omega)
                      rwa [show rows.getD j [] = r by simp [List.getD_eq_getElem?_getD, hr]] at this)
                    rwa [add_add, Nat.add_zero] at this
              · cases hv
            · cases hv
          · rename_i b i0 n c j hdn
            obtain ⟨kk, hiv⟩ := rep_nat ri hdn
            simp only [bltN] at hv
            split at hv
            · rename_i hjn
              have hjn : j < n := by simpa using hjn
              cases hv
              generalize hxv : a.eval x' = xv at rx
              cases rx with
              | sl ad b i n C cap p hp hC h1 h2 ha =>
                have hpk : p.k = k := by
                  simp only [slcKH] at hkk
                  split at hkk
                  · rename_i k' rows hb
                    obtain ⟨q, g1, g2⟩ := hs.heap b _ hb
                    rw [hp] at g1
                    cases g1
                    rw [g2.1]
                    simpa [beqN] using hkk
                  · cases hkk
                rcases ha with ha | ha
                · refine OpSim.pure hs (run ad n C j kk hxv hiv hjn) ?_
                  have := Rep.ptr (φ := φ) b (i0 + j) 0 p hp
                  rw [ha, add_new, hpk, ← Nat.add_mul]
                  rw [hpk] at this
                  exact this
                · omega
            · cases hv
          · cases hv
        · cases hd
      · cases hd
    · cases ht
  · cases hm
theorem bytes_get (s : ByteArray) (j : Nat) : s[j]? = s.data.toList[j]? := by
  rw [getElem?_def]
  split
  · rename_i h
    have h' : j < s.data.toList.length := by simpa using h
    rw [List.getElem?_eq_getElem h']; rfl
  · rename_i h
    have h' : ¬ j < s.data.toList.length := by simpa using h
    rw [List.getElem?_eq_none (by omega)]
def mIxs (P : Program) (G : List (List DV)) (x i : Opd) : Op → Bool
  | .index t x' i' => opOk G x' x && opOk G i' i && (match P.underlying t with | some .string => true | _ => false)
  | _ => false
theorem sim_ixs {x i : Opd} (hs : SR G φ ρ S w) (he : ER φ ρ a.tmps e) (hm : mIxs P G x i o.op = true) (hd : dop G base e S.h (.ixs x i) = some (d, ps)) :
    OpSim P G n0 base al o a φ ρ S w d ps := by
  unfold mIxs at hm
  split at hm
  · rename_i t x' i' hop
    simp only [Bool.and_eq_true] at hm
    obtain ⟨⟨hx, hi⟩, ht⟩ := hm
    split at ht
    · rename_i hty
      have rx := opOk_rep hs he hx
      have ri := opOk_rep hs he hi
      simp only [dop] at hd
      split at hd
      · rename_i l hl
        rw [hl] at rx
        obtain ⟨s, hsv, rfl⟩ := rep_str rx
        simp only [some1, dIdxS] at hd
        split at hd
        · rename_i v hv
          cases hd
          split at hv
          · cases hv
          · rename_i j hj
            obtain ⟨kk, hiv⟩ := rep_nat ri hj
            rw [nth_eq] at hv
            split at hv
            · rename_i b hb
              cases hv
              simp only [bytesN, List.getElem?_map, Option.map_eq_some_iff] at hb
              obtain ⟨u, hu, rfl⟩ := hb
              refine OpSim.pure (v := .int .u8 (u.toNat : Int)) hs ?_ (.int _ _)
              have h2 : s[j]? = some u := (bytes_get s j).trans hu
              simp [execOp, hop, Instr.index, asIntOf, hsv, hiv, run_underlying hty, h2]
            · cases hv
        · cases hd
      · cases hd
    · cases ht
  · cases hm
def mIxa (P : Program) (G : List (List DV)) (k len : Nat) (n : Option Nat) (x i : Opd) : Op → Bool
  | .index t x' i' => opOk G x' x && opOk G i' i && (match P.underlying t with | some (.array len' el) => Nat.beq len' len && elOk P el k && szOk P el n | _ => false)
  | _ => false
theorem sim_ixa {k len : Nat} {n : Option Nat} {x i : Opd} (hs : SR G φ ρ S w) (he : ER φ ρ a.tmps e) (hm : mIxa P G k len n x i o.op = true) (hd : dop G base e S.h (.ixa k len n x i) = some (d, ps)) :
    OpSim P G n0 base al o a φ ρ S w d ps := by
  unfold mIxa at hm
  split at hm
  · rename_i t x' i' hop
    simp only [Bool.and_eq_true] at hm
    obtain ⟨⟨hx, hi⟩, ht⟩ := hm
    split at ht
    · rename_i len' el hty
      simp only [Bool.and_eq_true, beqN, decide_eq_true_eq] at ht
      obtain ⟨⟨rfl, hel⟩, hsz⟩ := ht
      have rx := opOk_rep hs he hx
      have ri := opOk_rep hs he hi
      simp only [dop, some1] at hd
      split at hd
      · rename_i v hv
        cases hd
        generalize ev G e x = dx at rx hv
        generalize ev G e i = di at ri hv
        unfold dIdxA at hv
        split at hv
        · rename_i cs j hdn
          obtain ⟨kk, hiv⟩ := rep_nat ri hdn
          simp only [bltN] at hv
          split at hv
          · rename_i hj
            have hj : j < len' := by simpa using hj
            generalize hxv : a.eval x' = xv at rx
            cases rx with
            | agg A cs hA hr =>
              obtain ⟨u, h1, h2⟩ := run_part (P := P) hsz ⟨hA, hr⟩ hv w
              refine OpSim.pure hs ?_ h2
              have h1' : (part el A (j * k)).run P w = .ok u w := h1
              simp [execOp, hop, Instr.index, asIntOf, hxv, hiv, run_underlying hty, hj, (elOk_run hel).2 w, h1']
          · cases hv
        · cases hv
      · cases hd
    · cases ht
  · cases hm
/-! ### len -/
def lenKd : TypeDesc → Option Nat
  | .string => some 0
  | .slice _ => some 1
  | .map .. => some 2
  | _ => none
def mLen (P : Program) (G : List (List DV)) (kd : Nat) (x : Opd) : Op → Bool
  | .call { callee := .builtin .len, args, argTypes } => opOkL G args.toList [x] && (match argTypes[0]? with
      | some t => (match P.underlying t with | some d => decide (lenKd d = some kd) | none => false)
      | none => false)
  | _ => false
theorem sim_len {kd : Nat} {x : Opd} (hs : SR G φ ρ S w) (he : ER φ ρ a.tmps e) (hm : mLen P G kd x o.op = true) (hd : dop G base e S.h (.len kd x) = some (d, ps)) :
    OpSim P G n0 base al o a φ ρ S w d ps := by
  unfold mLen at hm
  split at hm
  · rename_i args ts hop
    simp only [Bool.and_eq_true] at hm
    obtain ⟨hx, ht⟩ := hm
    split at ht
    · rename_i t hts
      split at ht
      · rename_i td htd
        rw [decide_eq_true_eq] at ht
        obtain ⟨x', rfl, hx'⟩ := one_arg hx
        have rx := opOk_rep hs he hx'
        have key : ∀ n : Nat, (Builtin.len_ ts 0 #[a.eval x']).run P w = .ok (.int .i64 (n : Int)) w → OpSim P G n0 base al o a φ ρ S w (.int .i64 (.ofNat n)) [] := by
          intro n hr
          refine OpSim.pure (v := .int .i64 (n : Int)) hs ?_ (.int _ _)
          have : ∀ ty, (Builtin.len_ ts ty #[a.eval x']).run P w = .ok (.int .i64 (n : Int)) w := fun ty => hr
          simp [execOp, hop, resolve, invoke, builtin, this]
        simp only [dop] at hd
        generalize hxd : ev G e x = dx at rx hd
        generalize hxv : a.eval x' = xv at rx key
        split at hd
        · rename_i n hn
          cases hd
          unfold dLenP at hn
          split at hn
          · cases hn
            obtain ⟨s, rfl, rfl⟩ := rep_str rx
            cases td <;> simp only [lenKd, reduceCtorEq, Option.some.injEq] at ht <;> try omega
            rw [lenN_eq, len_bytes]
            exact key _ (by simp [Builtin.len_, hts, run_underlying htd, goInt])
          · cases hn
            cases td <;> simp only [lenKd, reduceCtorEq, Option.some.injEq] at ht <;> try omega
            cases rx with
            | isl ad n C k nf rows tl c hn' =>
              rw [lenN_eq, hn']
              exact key _ (by simp [Builtin.len_, hts, run_underlying htd, goInt])
          · cases hn
            cases td <;> simp only [lenKd, reduceCtorEq, Option.some.injEq] at ht <;> try omega
            cases rx with
            | sl ad b i n C cap p =>
              exact key _ (by simp [Builtin.len_, hts, run_underlying htd, goInt])
          · cases hn
            cases td <;> simp only [lenKd, reduceCtorEq, Option.some.injEq] at ht <;> try omega
            cases rx
            exact key _ (by simp [Builtin.len_, hts, run_underlying htd, goInt])
          · cases hn
        · split at hd
          · rename_i m _
            split at hd
            · rename_i es hes
              cases hd
              cases td <;> simp only [lenKd, reduceCtorEq, Option.some.injEq] at ht <;> try omega
              cases rx with
              | map m p hp =>
                obtain ⟨q, h1, h2⟩ := hs.heap m _ hes
                rw [hp] at h1
                cases h1
                obtain ⟨ents, h3, h4, _⟩ := h2
                rw [lenN_eq, ← h4]
                exact key _ (by simp [Builtin.len_, hts, run_underlying htd, goInt, MapKept.run_getObj_map h3])
            · cases hd
          · cases hd
      · cases ht
    · cases ht
  · cases hm
/-! ### structs and short slices that are built -/
theorem cells_put : ∀ (l : List Value) (k off : Nat) (A : Array Value) (ds cs : List DV), RepL φ ρ A ds → l.length = cs.length → (∀ i, i < cs.length → Rep φ ρ (l.getD i undef) (cs.getD i .nilp)) → off + k + l.length ≤ ds.length →
    RepL φ ρ ((l.zipIdx k).foldl (fun B (c, j) => B.setIfInBounds (off + j) c) A) (putN ds (off + k) cs)
  | [], k, off, A, ds, cs, hA, hl, _, _ => by
    have : cs = [] := List.eq_nil_of_length_eq_zero (by simpa using hl.symm)
    subst this
    simpa [putN] using hA
  | v :: l, k, off, A, ds, cs, hA, hl, hr, hb => by
    match cs, hl with
    | c :: cs, hl =>
      simp only [List.length_cons, Nat.add_right_cancel_iff] at hl
      simp only [List.length_cons] at hb
      simp only [List.zipIdx_cons, List.foldl_cons, putN, setN_eq]
      have hA' : RepL φ ρ (A.setIfInBounds (off + k) v) (ds.set (off + k) c) := by
        refine ⟨by simpa using hA.1, fun i hi => ?_⟩
        have hi' : i < ds.length := by simpa using hi
        by_cases e : i = off + k
        · subst e
          have := hr 0 (by simp)
          simpa [Array.getD_eq_getD_getElem?, List.getD_eq_getElem?_getD, show off + k < A.size by have := hA.1; omega, hi'] using this
        · have := hA.2 i hi'
          simpa [Array.getD_eq_getD_getElem?, List.getD_eq_getElem?_getD, Array.getElem?_setIfInBounds, List.getElem?_set, Ne.symm e] using this
      have := cells_put l (k + 1) off _ _ cs hA' hl (fun i hi => by simpa using hr (i + 1) (by simpa using hi)) (by simp; omega)
      simpa [Nat.add_assoc] using this
theorem putN_length : ∀ (l : List DV) (i : Nat) (xs : List DV), (putN l i xs).length = l.length
  | l, i, [] => rfl
  | l, i, x :: xs => by simp [putN, putN_length, setN_eq]
theorem foldl_zipIdx (B A : Array Value) (off : Nat) : (B.zipIdx.foldl (fun cs (c, j) => cs.setIfInBounds (off + j) c) A) = ((B.toList.zipIdx 0).foldl (fun cs (c, j) => cs.setIfInBounds (off + j) c) A) := by
  rw [← Array.foldl_toList, Array.toList_zipIdx]
def plOk (G : List (List DV)) (place : Nat → Option (Nat × Nat)) : List (Nat × Operand) → List (Nat × Nat × Opd) → Bool
  | [], [] => true
  | (i, x) :: l, (o, n, y) :: m => (match place i with | some (o', n') => Nat.beq o' o && Nat.beq n' n | none => false) && opOk G x y && plOk G place l m
  | _, _ => false
theorem run_fill (hs : SR G φ ρ S w) (he : ER φ ρ a.tmps e) {place : Nat → Option (Nat × Nat)} : ∀ {l : List (Nat × Operand)} {m : List (Nat × Nat × Opd)} {A : Array Value} {ds cs : List DV}, plOk G place l m = true → RepL φ ρ A ds →
    dBuild ds (evp G e m) = some cs → ∃ B, Instr.fill place A (l.map fun p => (p.1, a.eval p.2)) = some B ∧ RepL φ ρ B cs := by
  intro l
  induction l with
  | nil =>
    intro m A ds cs hp hA hd
    cases m with
    | nil => simp only [evp, dBuild, Option.some.injEq] at hd; subst hd; exact ⟨A, rfl, hA⟩
    | cons => simp [plOk] at hp
  | cons p l ih =>
    intro m A ds cs hp hA hd
    obtain ⟨i, x⟩ := p
    cases m with
    | nil => simp [plOk] at hp
    | cons q m =>
      obtain ⟨o, n, y⟩ := q
      simp only [plOk, Bool.and_eq_true] at hp
      obtain ⟨⟨hp1, hp2⟩, hp3⟩ := hp
      split at hp1
      · rename_i o' n' hpl
        simp only [Bool.and_eq_true, beqN, decide_eq_true_eq] at hp1
        obtain ⟨rfl, rfl⟩ := hp1
        have rv := rep_cellsL (opOk_rep hs he hp2)
        simp only [evp, dBuild, beqN, bleN, lenN_eq] at hd
        split at hd
        · rename_i hn
          split at hd
          · rename_i hle
            have hn : (cellsOf (ev G e y)).length = n' := by simpa using hn
            have hle : o' + n' ≤ ds.length := by simpa using hle
            have h1 : (a.eval x).cells.size = n' := by rw [rv.1, hn]
            have h2 : ¬ (o' + (a.eval x).cells.size > A.size) := by rw [h1, hA.1]; omega
            have hput := cells_put (a.eval x).cells.toList 0 o' A ds (cellsOf (ev G e y)) hA (by simpa using rv.1) (fun i hi => by rw [getD_toList]; exact rv.2 i hi) (by simp [h1]; omega)
            rw [← foldl_zipIdx, Nat.add_zero] at hput
            obtain ⟨B, hB, hB'⟩ := ih hp3 hput hd
            refine ⟨B, ?_, hB'⟩
            simp only [List.map_cons, Instr.fill, hpl, h1, ne_eq, not_true_eq_false, decide_false, Bool.false_or, decide_eq_true_eq]
            rw [if_neg (by rw [hA.1]; omega)]
            exact hB
          · cases hd
        · cases hd
      · cases hp1
def fplace (P : Program) (fs : Array Field) (i : Nat) : Option (Nat × Nat) := match fs[i]? with | some f => (match P.info? f.type with | some ti => some (f.offset, ti.size) | none => none) | none => none
def mBd (P : Program) (G : List (List DV)) (z : List DV) (ps : List (Nat × Nat × Opd)) : Op → Bool
  | .build t parts => zOk P t z && (match P.underlying t with
      | some (.struct fs) => fs.toList.all (fun f => (P.info? f.type).isSome) && plOk G (fplace P fs) parts.toList ps
      | some (.array _ el) => (match P.info? el with | some ti => plOk G (fun i => some (i * ti.size, ti.size)) parts.toList ps | none => false)
      | _ => false)
  | _ => false
theorem run_mapM {α β : Type} (f : α → Sem β) (g : α → β) : ∀ (l : List α) (w : World), (∀ x, x ∈ l → (f x).run P w = .ok (g x) w) → (l.mapM f).run P w = .ok (l.map g) w
  | [], w, _ => by simp
  | x :: l, w, h => by
    have h1 := h x (by simp)
    have h2 := run_mapM f g l w (fun y hy => h y (by simp [hy]))
    simp [List.mapM_cons, h1, h2]
theorem sim_bd {z : List DV} {qs : List (Nat × Nat × Opd)} (hs : SR G φ ρ S w) (he : ER φ ρ a.tmps e) (hm : mBd P G z qs o.op = true) (hd : dop G base e S.h (.bd z qs) = some (d, ps)) :
    OpSim P G n0 base al o a φ ρ S w d ps := by
  unfold mBd at hm
  split at hm
  · rename_i t parts hop
    simp only [Bool.and_eq_true] at hm
    obtain ⟨hz, ht⟩ := hm
    obtain ⟨i, v, hi, hv, hsz, h1, h2⟩ := zOk_spec hz
    simp only [dop] at hd
    split at hd
    · rename_i cs hcs
      cases hd
      have hz' : RepL φ ρ v.cells z := ⟨h1, fun j hj => h2 φ ρ j hj⟩
      split at ht
      · rename_i fs hfs
        simp only [Bool.and_eq_true, List.all_eq_true] at ht
        obtain ⟨hall, hpl⟩ := ht
        obtain ⟨B, hB, hB'⟩ := run_fill hs he hpl hz' hcs
        refine OpSim.pure (v := .agg B) hs ?_ (.agg _ _ hB'.1 hB'.2)
        have hmap : (fs.mapM fun f => do pure (f.offset, ← sizeOf f.type) : Sem _).run P w = .ok (fs.map fun f => (f.offset, ((P.info? f.type).map (·.size)).getD 0)) w := by
          rw [Array.mapM_eq_mapM_toList]
          simp only [Sem.run_map]
          rw [run_mapM (P := P) _ (fun f => (f.offset, ((P.info? f.type).map (·.size)).getD 0)) fs.toList w ?_]
          · simp only [Result.andThen_ok]
            congr 1
            apply Array.ext'
            simp
          · intro f hf
            obtain ⟨ti, hti⟩ := Option.isSome_iff_exists.1 (hall f hf)
            simp [sizeOf, typeInfo, hti]
        have hpl' : ∀ j : Nat, (fs.map fun f => (f.offset, ((P.info? f.type).map (·.size)).getD 0))[j]? = fplace P fs j := by
          intro j
          simp only [fplace, Array.getElem?_map]
          cases hj : fs[j]? with
          | none => rfl
          | some f =>
            obtain ⟨ti, hti⟩ := Option.isSome_iff_exists.1 (hall f (by rw [Array.mem_toList_iff]; exact Array.mem_of_getElem? hj))
            simp [hti]
        have hB2 : Instr.fill (fun j => (fs.map fun f => (f.offset, ((P.info? f.type).map (·.size)).getD 0))[j]?) v.cells (parts.map fun (i, x) => (i, a.eval x)).toList = some B := by
          rw [← hB]
          congr 1
          · exact funext hpl'
          · simp
        have hrun : (Instr.build t (parts.map fun (i, x) => (i, a.eval x))).run P w = .ok (.agg B) w := by
          simp only [Instr.build, Sem.run_bind, run_zero hi hv, run_underlying hfs, hmap, Result.andThen_ok]
          rw [hB2]
          rfl
        simp [execOp, hop, hrun]
      · rename_i nn el hel
        split at ht
        · rename_i ti hti
          obtain ⟨B, hB, hB'⟩ := run_fill hs he ht hz' hcs
          refine OpSim.pure (v := .agg B) hs ?_ (.agg _ _ hB'.1 hB'.2)
          have hB2 : Instr.fill (fun i => some (i * ti.size, ti.size)) v.cells (parts.map fun (i, x) => (i, a.eval x)).toList = some B := by
            rw [← hB]
            congr 1
            simp
          have hrun : (Instr.build t (parts.map fun (i, x) => (i, a.eval x))).run P w = .ok (.agg B) w := by
            have hso : (sizeOf el).run P w = .ok ti.size w := by simp [sizeOf, typeInfo, hti]
            simp only [Instr.build, Sem.run_bind, run_zero hi hv, run_underlying hel, hso, Result.andThen_ok]
            rw [hB2]
            rfl
          simp [execOp, hop, hrun]
        · cases ht
      · cases ht
    · cases hd
  · cases hm
end Go.Proofs.YtfmicbbflpkdgaaGreatDoor.D
