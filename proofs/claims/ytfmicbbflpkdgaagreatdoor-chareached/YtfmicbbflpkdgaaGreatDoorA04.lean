/-
  The D machine, part n: append, clear.
-/
import Derived.Test.YtfmicbbflpkdgaaGreatDoorA03
set_option linter.unusedVariables false
set_option linter.unusedSimpArgs false
namespace Go.Proofs.YtfmicbbflpkdgaaGreatDoor.D
open Go.RowKit
variable {P : Program} {G : List (List DV)} {φ φ' : Phi} {ρ ρ' : Rho} {S S' : DS} {w w' : World}
variable {n0 base : Nat} {al : List Nat} {o : Oper} {a : Act} {e : Env} {d : DV} {ps : Puts}
/-- The cells of a slice's elements, as a list of values. -/
structure RowVals (φ : Phi) (ρ : Rho) (w : World) (a : Option Addr) (k : Nat) (rows : List (List DV)) (vs : List Value) : Prop where
  len : vs.length = rows.length * k
  cell : ∀ ad, a = some ad → ∀ j v, vs[j]? = some v → w.cell? (ad.add j) = some v
  kk : ∀ r, r ∈ rows → r.length = k
  rep : ∀ i j, i < rows.length → j < k → Rep φ ρ (vs.getD (i * k + j) undef) ((rows.getD i []).getD j .nilp)
  nil : a = none → rows = []
theorem RowVals.mk' {a : Option Addr} {k : Nat} {rows : List (List DV)} {c : Nat → Nat → Value} (hk : ∀ r, r ∈ rows → r.length = k) (hnil : a = none → rows = [])
    (hc : ∀ ad, a = some ad → ∀ i j, i < rows.length → j < k → w.cell? (ad.add (i * k + j)) = some (c i j)) (hr : ∀ i j, i < rows.length → j < k → Rep φ ρ (c i j) ((rows.getD i []).getD j .nilp)) :
    ∃ vs, RowVals φ ρ w a k rows vs := by
  refine ⟨(List.range (rows.length * k)).map fun q => c (q / k) (q % k), by simp, ?_, hk, ?_, hnil⟩
  · intro ad had j v hv
    simp only [List.getElem?_map, Option.map_eq_some_iff] at hv
    obtain ⟨q, hq, rfl⟩ := hv
    obtain ⟨hl, hq'⟩ := List.getElem?_eq_some_iff.1 hq
    rw [List.length_range] at hl
    rw [List.getElem_range] at hq'
    subst hq'
    have hk0 : 0 < k := by rcases Nat.eq_zero_or_pos k with h | h; · rw [h] at hl; simp at hl
                           · exact h
    have h1 : j / k < rows.length := Nat.div_lt_of_lt_mul (by rw [Nat.mul_comm]; exact hl)
    have := hc ad had (j / k) (j % k) h1 (Nat.mod_lt _ hk0)
    rwa [show j / k * k + j % k = j by rw [Nat.mul_comm]; exact Nat.div_add_mod j k] at this
  · intro i j hi hj
    have hlt : i * k + j < rows.length * k := by have := row_end (k := k) (n := j + 1) hi (by omega); omega
    have h1 : (i * k + j) / k = i := by rw [Nat.mul_comm, Nat.mul_add_div (by omega)]; simp [Nat.div_eq_of_lt hj]
    have h2 : (i * k + j) % k = j := by rw [Nat.mul_comm, Nat.mul_add_mod]; exact Nat.mod_eq_of_lt hj
    rw [List.getD_eq_getElem?_getD, List.getElem?_map, List.getElem?_range hlt]
    simp only [Option.map_some, Option.getD_some, h1, h2]
    exact hr i j hi hj
theorem RowVals.app {a b : Option Addr} {k : Nat} {r1 r2 : List (List DV)} {v1 v2 : List Value} (h1 : RowVals φ ρ w a k r1 v1) (h2 : RowVals φ ρ w b k r2 v2) :
    (v1 ++ v2).length = (r1 ++ r2).length * k ∧ (∀ r, r ∈ r1 ++ r2 → r.length = k) ∧ ∀ i j, i < (r1 ++ r2).length → j < k → Rep φ ρ ((v1 ++ v2).getD (i * k + j) undef) (((r1 ++ r2).getD i []).getD j .nilp) := by
  refine ⟨by simp [h1.len, h2.len, Nat.add_mul], ?_, ?_⟩
  · intro r hr
    rcases List.mem_append.1 hr with h | h
    · exact h1.kk r h
    · exact h2.kk r h
  · intro i j hi hj
    by_cases hlt : i < r1.length
    · have hq : i * k + j < v1.length := by rw [h1.len]; have := row_end (k := k) (n := j + 1) hlt (by omega); omega
      have := h1.rep i j hlt hj
      rw [List.getD_eq_getElem?_getD] at this ⊢
      rw [List.getElem?_append_left hq, List.getD_eq_getElem?_getD, List.getD_eq_getElem?_getD (l := r1 ++ r2), List.getElem?_append_left hlt]
      rwa [List.getD_eq_getElem?_getD, List.getD_eq_getElem?_getD (l := r1)] at this
    · rw [List.length_append] at hi
      have hq : ¬ i * k + j < v1.length := by rw [h1.len]; have := Nat.mul_le_mul_right k (Nat.not_lt.1 hlt); omega
      have := h2.rep (i - r1.length) j (by omega) hj
      have e1 : i * k + j - v1.length = (i - r1.length) * k + j := by
        rw [h1.len, Nat.sub_mul]
        have := Nat.mul_le_mul_right k (Nat.not_lt.1 hlt)
        omega
      rw [List.getD_eq_getElem?_getD] at this ⊢
      rw [List.getElem?_append_right (by omega), e1, List.getD_eq_getElem?_getD, List.getD_eq_getElem?_getD (l := r1 ++ r2), List.getElem?_append_right (by omega)]
      rwa [List.getD_eq_getElem?_getD, List.getD_eq_getElem?_getD (l := r2)] at this
theorem isl_vals (hs : SR G φ ρ S w) {a : Option Addr} {n C k : Nat} {nf : Option Bool} {rows : List (List DV)} {tl : Tl} (h : Rep φ ρ (.slice a n C) (.isl k nf rows tl)) :
    n = rows.length ∧ n ≤ C ∧ (a = none → C = 0) ∧ TlOk ρ a k C n tl ∧ ∃ vs, RowVals φ ρ w a k rows vs := by
  cases h with
  | isl a n C k nf rows tl c hn hC hk hnf hz hc hr ht =>
    subst hn
    exact ⟨rfl, hC, hz, ht, RowVals.mk' (c := c) hk (fun h => List.eq_nil_of_length_eq_zero (by have := hz h; omega)) (fun ad had i j hi hj => hs.phi _ _ (hc ad had i j hi hj)) hr⟩
theorem or_vals {p : PB} {k i n : Nat} {rows : List (List DV)} (h : OR φ ρ w p (.cells k rows)) (hle : i + n ≤ rows.length) : ∃ vs, RowVals φ ρ w (some ⟨p.blk, i * k, none⟩) k ((rows.drop i).take n) vs := by
  obtain ⟨hpk, hoff, hcap, hlen, hphi, arr, el, harr, hsz, hrep⟩ := h
  have hl : ((rows.drop i).take n).length = n := by simp; omega
  refine RowVals.mk' (c := fun x j => arr.getD ((i + x) * k + j) undef) (fun r hr => hlen r (List.mem_of_mem_drop (List.mem_of_mem_take hr))) (by simp) ?_ ?_
  · intro ad had x j hx hj
    cases had
    rw [hl] at hx
    have hlt : (i + x) * k + j < arr.size := by
      rw [hsz]
      have := row_end (k := k) (n := j + 1) (show i + x < p.cap by omega) (by omega)
      omega
    rw [add_new, show i * k + (x * k + j) = (i + x) * k + j by rw [Nat.add_mul]; omega, cell_arr harr]
    simp [Array.getD_eq_getD_getElem?, hlt]
  · intro x j hx hj
    rw [hl] at hx
    rw [getD_drop rows i x n hx]
    exact hrep (i + x) j (by omega) hj
/-- What is appended. -/
theorem rep_rows (hs : SR G φ ρ S w) {v : Value} {x : DV} {k : Nat} {rows : List (List DV)} (h : Rep φ ρ v x) (hr : rowsOf k S.h x = some rows) :
    ∃ ad n C vs, v = .slice ad n C ∧ n = rows.length ∧ n ≤ C ∧ RowVals φ ρ w ad k rows vs := by
  unfold rowsOf at hr
  split at hr
  · rename_i k' nf rows' tl
    simp only [beqN] at hr
    split at hr
    · rename_i hk
      rw [decide_eq_true_eq] at hk
      subst hk
      cases hr
      obtain ⟨ad, n, C, rfl⟩ : ∃ ad n C, v = .slice ad n C := by cases h; exact ⟨_, _, _, rfl⟩
      obtain ⟨h1, h2, _, _, vs, h3⟩ := isl_vals hs h
      exact ⟨ad, n, C, vs, rfl, h1, h2, h3⟩
    · cases hr
  · rename_i b i n c
    split at hr
    · rename_i k' rows' hb
      simp only [beqN, bleN, lenN_eq] at hr
      split at hr
      · rename_i h1 h2
        rw [decide_eq_true_eq] at h1 h2
        subst h1
        cases hr
        rw [takeN_eq, dropN_eq]
        cases h with
        | sl ad b i n C c p hp hC hc1 hc2 ha =>
          obtain ⟨q, g1, g2⟩ := hs.heap b _ hb
          rw [hp] at g1
          cases g1
          have hle : i + n ≤ rows'.length := h2
          have hl : ((rows'.drop i).take n).length = n := by simp; omega
          rcases ha with rfl | h0
          · rw [g2.1]
            obtain ⟨vs, hvs⟩ := or_vals g2 hle
            exact ⟨_, n, C, vs, rfl, hl.symm, hC, hvs⟩
          · obtain rfl : n = 0 := by omega
            rw [List.take_zero]
            exact ⟨_, 0, C, [], rfl, rfl, hC, ⟨by simp, by simp, by simp, by intro i j hi; simp at hi, by simp⟩⟩
      · cases hr
    · cases hr
  · cases hr
structure ElOk (P : Program) (t el : TypeId) (i : TypeInfo) (z : Value) (k : Nat) : Prop where
  ty : P.underlying t = some (.slice el)
  info : P.info? el = some i
  zero : i.zero = some z
  size : i.size = k
  zsize : z.cells.size = k
  bytes : i.bytes ≤ 1048576
def elFull (P : Program) (t : TypeId) (k : Nat) : Bool := match P.underlying t with
  | some (.slice el) => (match P.info? el with
    | some i => Nat.beq i.size k && Nat.ble i.bytes 1048576 && (match i.zero with | some z => Nat.beq z.cells.size k | none => false)
    | none => false)
  | _ => false
theorem elFull_spec {t : TypeId} {k : Nat} (h : elFull P t k = true) : ∃ el i z, ElOk P t el i z k := by
  unfold elFull at h
  split at h
  · rename_i el hel
    split at h
    · rename_i i hi
      simp only [Bool.and_eq_true, beqN, bleN, decide_eq_true_eq] at h
      obtain ⟨⟨h1, h2⟩, h3⟩ := h
      split at h3
      · rename_i z hz
        rw [decide_eq_true_eq] at h3
        exact ⟨el, i, z, hel, hi, hz, h1, h3, h2⟩
      · cases h3
    · cases h
  · cases h
/-- Appending nothing. -/
theorem run_app_none {t el : TypeId} {i : TypeInfo} {z : Value} {k : Nat} (E : ElOk P t el i z k) {b ad : Option Addr} {n C C' : Nat} (hC : n ≤ C) (ty : TypeId) (w : World) :
    (Builtin.append_ #[t, t] ty #[.slice b n C, .slice ad 0 C']).run P w = .ok (.slice b n C) w := by
  cases b <;> cases ad <;> simp [Builtin.append_, run_underlying E.ty, sizeOf, typeInfo, E.info, Builtin.lenOf, Builtin.firstCells, loadCells, loadCellsFrom, storeCells, hC]
/-- Appending where there is no room. -/
theorem run_app_grow {t el : TypeId} {i : TypeInfo} {z : Value} {k : Nat} (E : ElOk P t el i z k) {b ad : Option Addr} {n C m C' : Nat} {r1 r2 : List (List DV)} {v1 v2 : List Value} (h1 : RowVals φ ρ w b k r1 v1) (h2 : RowVals φ ρ w ad k r2 v2)
    (hn : n = r1.length) (hm : m = r2.length) (hz : b = none → C = 0) (hC : n ≤ C) (hg : C < n + m) (hn2 : n ≤ 1048576) (hm2 : m ≤ 1048576) (ty : TypeId) :
    ∃ arr cap, n + m ≤ cap ∧ (Builtin.append_ #[t, t] ty #[.slice b n C, .slice ad m C']).run P w = .ok (.slice (some ⟨w.heap.size, 0, none⟩) (n + m) cap) (w.drew.alloc (.cells arr el)) ∧ arr.size = cap * k ∧
      ∀ q, q < (v1 ++ v2).length → arr.getD q undef = (v1 ++ v2).getD q undef := by
  have hmpos : 0 < m := by omega
  obtain ⟨ad, rfl⟩ : ∃ x, ad = some x := by
    cases ad with
    | none => have := h2.nil rfl; rw [this] at hm; simp at hm; omega
    | some x => exact ⟨x, rfl⟩
  have hl1 : v1.length = n * i.size := by rw [h1.len, hn, E.size]
  have hl2 : v2.length = m * i.size := by rw [h2.len, hm, E.size]
  have hb : i.bytes ≤ 1048576 := E.bytes
  have hmul : (n + m) * i.bytes ≤ 2097152 * 1048576 := Nat.mul_le_mul (by omega) hb
  have hmul : (n + m) * i.bytes ≤ 2199023255552 := hmul
  cases b with
  | none =>
    obtain rfl := hz rfl
    obtain rfl : n = 0 := by omega
    have hr1 : v1 = [] := List.eq_nil_of_length_eq_zero (by rw [hl1]; simp)
    subst hr1
    have hrun := run_append_nil (P := P) w t ty el i z E.ty E.info E.zero ad m C' v2 hl2 (fun j v hj => h2.cell ad rfl j v hj) hmpos (by omega) (by simp only [Nat.zero_add] at hmul; omega)
    have hge := grownCap_ge w m 0 el
    refine ⟨_, _, by rw [Nat.zero_add]; exact hge, by rw [Nat.zero_add]; exact hrun, ?_, ?_⟩
    · simp only [Array.size_append, List.size_toArray, size_zeroCells, E.zsize, hl2, E.size, ← Nat.add_mul]
      congr 1
      omega
    · intro q hq
      simp only [List.nil_append] at hq ⊢
      simp [Array.getD_eq_getD_getElem?, List.getD_eq_getElem?_getD, Array.getElem?_append, hq]
  | some bd =>
    have hrun := run_append_grow (P := P) w t ty el i z E.ty E.info E.zero bd n C v1 hl1 (fun j v hj => h1.cell bd rfl j v hj) ad m C' v2 hl2 (fun j v hj => h2.cell ad rfl j v hj) hg (by omega) (growslice_fits hg (by omega))
    have hge := grownCap_ge w (n + m) C el
    refine ⟨_, _, hge, hrun, ?_, ?_⟩
    · simp only [Array.size_append, List.size_toArray, size_zeroCells, E.zsize, hl1, hl2, E.size, ← Nat.add_mul]
      congr 1
      omega
    · intro q hq
      have hsz : (v1.toArray ++ v2.toArray) = (v1 ++ v2).toArray := by simp
      rw [hsz]
      simp [Array.getD_eq_getD_getElem?, List.getD_eq_getElem?_getD, Array.getElem?_append, show q < v1.length + v2.length by simpa using hq]
/-- Appending where there is room. -/
theorem run_app_room {t el : TypeId} {i : TypeInfo} {z : Value} {k : Nat} (E : ElOk P t el i z k) {blk W : Nat} {ad : Option Addr} {n C m C' : Nat} {r2 : List (List DV)} {v2 : List Value} {arr : Array Value} {el' : TypeId} (h2 : RowVals φ ρ w ad k r2 v2) (hm : m = r2.length) (hm0 : 0 < m)
    (harr : w.heap[blk]? = some (.cells arr el' (0, 0))) (hroom : n + m ≤ C) (hfit : W + n * k + v2.length ≤ arr.size) (h1 : ∀ u, u ∈ v2 → u.oneCell' = true) (ty : TypeId) :
    (Builtin.append_ #[t, t] ty #[.slice (some ⟨blk, W, none⟩) n C, .slice ad m C']).run P w = .ok (.slice (some ⟨blk, W, none⟩) (n + m) C)
      (w.setRow blk (arr.toList.take (W + n * k) ++ v2 ++ arr.toList.drop (W + n * k + v2.length)).toArray) := by
  obtain ⟨ad, rfl⟩ : ∃ x, ad = some x := by
    cases ad with
    | none => have := h2.nil rfl; rw [this] at hm; simp at hm; omega
    | some x => exact ⟨x, rfl⟩
  have hl2 : v2.length = m * i.size := by rw [h2.len, hm, E.size]
  have hf := run_firstCells_some (P := P) w i.size m ad m C' v2 hl2 (fun j v hj => h2.cell ad rfl j v hj)
  have hst := run_storeCells_at P blk (W + n * k) el' v2 0 arr w harr (by simpa using hfit) h1
  simp only [Nat.add_zero] at hst
  rw [← E.size] at hst ⊢
  simp [Builtin.append_, run_underlying E.ty, sizeOf, typeInfo, E.info, Builtin.lenOf, hroom, hf, add_new, hst]
end Go.Proofs.YtfmicbbflpkdgaaGreatDoor.D
/-
  The D machine, part o: append and clear, on what a slice stands for.
-/
namespace Go.Proofs.YtfmicbbflpkdgaaGreatDoor.D
open Go.RowKit
variable {P : Program} {G : List (List DV)} {φ φ' : Phi} {ρ ρ' : Rho} {S S' : DS} {w w' : World}
variable {n0 base : Nat} {al : List Nat} {o : Oper} {a : Act} {e : Env} {d : DV} {ps : Puts}
theorem allScR_mem : ∀ {rows : List (List DV)}, allScR rows = true → ∀ r, r ∈ rows → allSc r = true
  | [], _, r, hr => by simp at hr
  | x :: rows, h, r, hr => by
    simp only [allScR] at h
    split at h
    · rename_i hx
      rcases List.mem_cons.1 hr with rfl | hr
      · exact hx
      · exact allScR_mem h r hr
    · cases h
theorem allSc_get : ∀ {cs : List DV}, allSc cs = true → ∀ i, i < cs.length → scB (cs.getD i .nilp) = true
  | [], _, i, hi => by simp at hi
  | c :: cs, hc, i, hi => by
    have h2 : allSc cs = true := by cases c <;> simp_all [allSc]
    cases i with
    | zero => cases c <;> simp_all [allSc, scB]
    | succ i => simpa using allSc_get h2 i (by simpa using hi)
theorem rep_one {v : Value} {x : DV} (h : Rep φ ρ v x) (hx : scB x = true) : v.oneCell' = true := by
  cases h <;> first | rfl | (simp [scB] at hx)
theorem vals_one {a : Option Addr} {k : Nat} {rows : List (List DV)} {vs : List Value} (h : RowVals φ ρ w a k rows vs) (hsc : allScR rows = true) : ∀ u, u ∈ vs → u.oneCell' = true := by
  intro u hu
  obtain ⟨q, hq, rfl⟩ := List.getElem_of_mem hu
  have hl := h.len
  have hk0 : 0 < k := by
    rcases Nat.eq_zero_or_pos k with h0 | h0
    · rw [h0, Nat.mul_zero] at hl; omega
    · exact h0
  have hi : q / k < rows.length := Nat.div_lt_of_lt_mul (by rw [Nat.mul_comm, ← hl]; exact hq)
  have hj := Nat.mod_lt q hk0
  have hr := h.rep (q / k) (q % k) hi hj
  rw [show q / k * k + q % k = q by rw [Nat.mul_comm]; exact Nat.div_add_mod q k] at hr
  rw [show vs.getD q undef = vs[q] by simp [List.getD_eq_getElem?_getD, hq]] at hr
  have hrow : rows.getD (q / k) [] ∈ rows := by rw [List.getD_eq_getElem?_getD, List.getElem?_eq_getElem hi]; exact List.getElem_mem hi
  exact rep_one hr (allSc_get (allScR_mem hsc _ hrow) _ (by rw [h.kk _ hrow]; exact hj))
def mApp (P : Program) (G : List (List DV)) (k : Nat) (s x : Opd) : Op → Bool
  | .call { callee := .builtin .append, args, argTypes } => opOkL G args.toList [s, x] && (match argTypes.toList with
      | [t, u] => Nat.beq t u && elFull P t k
      | _ => false)
  | _ => false
theorem mApp_spec {k : Nat} {s x : Opd} (h : mApp P G k s x o.op = true) : ∃ t el i z s' x', ElOk P t el i z k ∧ opOk G s' s = true ∧ opOk G x' x = true ∧
    ∀ (a : Act) (w w1 : World) v, (Builtin.append_ #[t, t] o.type #[a.eval s', a.eval x']).run P w = .ok v w1 → (execOp a.eval o).run P w = .ok (.value v) w1 := by
  unfold mApp at h
  split at h
  · rename_i args ts hop
    simp only [Bool.and_eq_true] at h
    obtain ⟨h1, h2⟩ := h
    obtain ⟨s', x', rfl, hs, hx⟩ := two_args h1
    obtain ⟨tl⟩ := ts
    split at h2
    · rename_i t u htu
      simp only at htu
      subst htu
      simp only [Bool.and_eq_true, beqN, decide_eq_true_eq] at h2
      obtain ⟨rfl, h2⟩ := h2
      obtain ⟨el, i, z, E⟩ := elFull_spec h2
      refine ⟨t, el, i, z, s', x', E, hs, hx, fun a w w1 v hr => ?_⟩
      simp [execOp, hop, resolve, invoke, builtin, hr]
    · cases h2
  · cases h
/-- A new block that holds rows: they stay. -/
theorem grown_isl (hs : SR G φ ρ S w) {x : Nat} (hn0 : n0 ≤ x) (hfresh : ρ x = none) (hlt : x < S.nx) {arr : Array Value} {el : TypeId} {cap k : Nat} {rows : List (List DV)} {vs : List Value} (hcap : rows.length ≤ cap) (hsz : arr.size = cap * k)
    (hvl : vs.length = rows.length * k) (hkk : ∀ r, r ∈ rows → r.length = k) (hrep : ∀ i j, i < rows.length → j < k → Rep φ ρ (vs.getD (i * k + j) undef) ((rows.getD i []).getD j .nilp)) (hget : ∀ q, q < vs.length → arr.getD q undef = vs.getD q undef) :
    ∃ φ' ρ', Rep φ' ρ' (.slice (some ⟨w.heap.size, 0, none⟩) rows.length cap) (.isl k (some false) rows (.tk x 0)) ∧ SR G φ' ρ' (S.put x (some (.tok rows.length))) (w.alloc (.cells arr el)) ∧
      Trans n0 φ ρ S w φ' ρ' (S.put x (some (.tok rows.length))) (w.alloc (.cells arr el)) ∧ ∀ id, id ≠ x → ρ' id = ρ id := by
  have hle2 : rows.length * k ≤ arr.size := by rw [hsz]; exact Nat.mul_le_mul_right k hcap
  obtain ⟨s1, t1⟩ := hs.allocPart arr el (rows.length * k) n0
  have hsz' : w.heap.size < (w.alloc (.cells arr el)).heap.size := by simp
  have hphiLe := t1.phi
  refine ⟨_, rhoAdd ρ x ⟨w.heap.size, k, cap, 0⟩, ?_, s1.give x hfresh hlt ⟨w.heap.size, k, cap, 0⟩ hsz' (not_own_new hs) (.tok rows.length) ?_, Trans.give n0 x hn0 hfresh ⟨w.heap.size, k, cap, 0⟩ _ t1 (.inl (Nat.le_refl _)), fun id hid => rhoAdd_ne hid⟩
  · refine .isl _ rows.length cap k (some false) rows (.tk x 0) (fun i j => arr.getD (i * k + j) undef) rfl hcap hkk (by simp) (by simp) ?_ ?_ ?_
    · intro ad had i j hi hj
      cases had
      have hq : i * k + j < rows.length * k := by have := row_end (k := k) (n := j + 1) hi (by omega); omega
      rw [add_new, Nat.zero_add, phiAdd_new hq]
      simp [Array.getD_eq_getD_getElem?, show i * k + j < arr.size by omega]
    · intro i j hi hj
      have hq : i * k + j < rows.length * k := by have := row_end (k := k) (n := j + 1) hi (by omega); omega
      rw [hget _ (by rw [hvl]; exact hq)]
      exact (hrep i j hi hj).mono hphiLe (rhoAdd_le hfresh)
    · refine ⟨⟨w.heap.size, k, cap, 0⟩, rhoAdd_same, rfl, Nat.zero_le _, rfl, .inl ?_⟩
      simp
  · refine ⟨hcap, ?_, arr, el, heap_alloc_new w _, by rw [hsz, Nat.zero_add]⟩
    intro ad v ha hb
    unfold phiAdd at ha
    split at ha
    · rename_i hc; simpa using hc.2.2
    · have := cell_lt (hs.phi ad v ha); simp only at hb; omega
theorem SR.drew (h : SR G φ ρ S w) : SR G φ ρ S w.drew := h.drewN _
theorem RowVals.drew {a : Option Addr} {k : Nat} {rows : List (List DV)} {vs : List Value} (h : RowVals φ ρ w a k rows vs) : RowVals φ ρ w.drew a k rows vs := ⟨h.len, h.cell, h.kk, h.rep, h.nil⟩
theorem put_put (S : DS) (x : Nat) (o o' : Option DO) : (S.put x o).put x o' = S.put x o' := by
  simp only [DS.put, DS.mk.injEq, and_true]
  funext i
  simp only [Heap.put]
  split <;> rfl
theorem capA_spec {j k : Nat} {h : Heap} {s : DV} {new : List (List DV)} (hd : capA j k h s new = some (d, ps)) :
    (new = [] ∧ d = s ∧ ps = [] ∧ ((∃ k nf rows tl, s = .isl k nf rows tl) ∨ ∃ b i n c, s = .sl b i n c)) ∨
    (new ≠ [] ∧ ∃ nf rows tl, s = .isl k nf rows tl ∧ rows.length ≤ 1048576 ∧ new.length ≤ 1048576 ∧ allScR new = true ∧ d = .isl k (some false) (rows ++ new) (.tk j 0) ∧
      ((tl = .ex ∧ ps = [(j, some (.tok (rows.length + new.length)))]) ∨ ∃ t i m, tl = .tk t i ∧ h t = some (.tok m) ∧ m = i + rows.length ∧ ps = [(t, none), (j, some (.tok (rows.length + new.length)))])) := by
  unfold capA at hd
  split at hd
  · split at hd
    · cases hd; exact .inl ⟨rfl, rfl, rfl, .inl ⟨_, _, _, _, rfl⟩⟩
    · cases hd; exact .inl ⟨rfl, rfl, rfl, .inr ⟨_, _, _, _, rfl⟩⟩
    · cases hd
  · right
    refine ⟨by simp, ?_⟩
    split at hd
    · rename_i k' nf rows tl
      simp only [beqN, bleN, lenN_eq] at hd
      split at hd
      · rename_i h1 h2 h3 h4
        simp only [decide_eq_true_eq] at h1 h2 h3
        subst h1
        split at hd
        · cases hd
        · cases hd
          exact ⟨nf, rows, .ex, rfl, h2, h3, h4, rfl, .inl ⟨rfl, rfl⟩⟩
        · rename_i t i
          split at hd
          · rename_i m hm
            split at hd
            · rename_i h5
              cases hd
              have h5 : m = i + rows.length := by simpa using h5
              exact ⟨nf, rows, _, rfl, h2, h3, h4, rfl, .inr ⟨t, i, m, rfl, hm, h5, rfl⟩⟩
            · cases hd
          · cases hd
      · cases hd
    · cases hd
theorem sim_apa {j k : Nat} {s x : Opd} (hs : SR G φ ρ S w) (he : ER φ ρ a.tmps e) (hm : mApp P G k s x o.op = true) (hn0 : n0 ≤ base) (hfresh : ρ (base + j) = none) (hlt : base + j < S.nx)
    (hd : dop G base e S.h (.apa j k s x) = some (d, ps)) : OpSim P G n0 base [j] o a φ ρ S w d ps := by
  obtain ⟨t, el, ti, z, s', x', E, hs', hx', hexec⟩ := mApp_spec hm
  have rs := opOk_rep hs he hs'
  have rx := opOk_rep hs he hx'
  have hexec := hexec a
  simp only [dop] at hd
  split at hd
  case h_2 => cases hd
  rename_i new hnew
  generalize hsv : a.eval s' = sv at rs hexec
  generalize hxv : a.eval x' = xv at rx hexec
  obtain ⟨ad, m, C', v2, rfl, hm2, hmC, R2⟩ := rep_rows hs rx hnew
  have hkeep : ∀ {ρ' : Rho}, (∀ id, id ≠ base + j → ρ' id = ρ id) → ∀ id, id < S.nx → (∀ j', j' ∈ [j] → id ≠ base + j') → ρ' id = ρ id := fun h id _ hne => h id (hne j (by simp))
  rcases capA_spec hd with ⟨rfl, rfl, rfl, hshape⟩ | ⟨hne, nf, rows, tl, hsd, hl1, hl2, hsc, rfl, hcase⟩
  · obtain rfl : m = 0 := hm2
    have : ∃ b n C, sv = .slice b n C ∧ n ≤ C := by
      rcases hshape with ⟨k', nf, rows, tl, h⟩ | ⟨b, i, n, c, h⟩
      · rw [h] at rs; cases rs; exact ⟨_, _, _, rfl, by assumption⟩
      · rw [h] at rs; cases rs; exact ⟨_, _, _, rfl, by assumption⟩
    obtain ⟨b, n, C, rfl, hC⟩ := this
    exact OpSim.pure hs (hexec w w _ (run_app_none E hC _ w)) rs
  · rw [hsd] at rs
    have hmpos : 0 < m := by
      rw [hm2]; exact List.length_pos_iff.2 hne
    obtain ⟨b, n, C, rfl⟩ : ∃ b n C, sv = .slice b n C := by cases rs; exact ⟨_, _, _, rfl⟩
    obtain ⟨hn, hC, hz, ht, v1, R1⟩ := isl_vals hs rs
    obtain ⟨g1, g2, g3⟩ := R1.app R2
    have hrl : (rows ++ new).length = n + m := by rw [List.length_append, hn, hm2]
    have hgrow : C < n + m → ∀ S0 : DS, SR G φ ρ S0 w → S0.nx = S.nx → ∃ v w' φ' ρ', (execOp a.eval o).run P w = .ok (.value v) w' ∧ Rep φ' ρ' v (.isl k (some false) (rows ++ new) (.tk (base + j) 0)) ∧
        SR G φ' ρ' (S0.put (base + j) (some (.tok (rows.length + new.length)))) w' ∧ Trans n0 φ ρ S0 w φ' ρ' (S0.put (base + j) (some (.tok (rows.length + new.length)))) w' ∧ ∀ id, id ≠ base + j → ρ' id = ρ id := by
      intro hg S0 hs0 hnx
      obtain ⟨arr, cap, hcap, hrun, hasz, hget⟩ := run_app_grow (C' := C') E R1 R2 hn hm2 hz hC hg (by omega) (by omega) o.type
      obtain ⟨φ', ρ', q1, q2, q3, q4⟩ := grown_isl (n0 := n0) hs0.drew (x := base + j) (by omega) hfresh (by rw [hnx]; exact hlt) (arr := arr) (el := el) (cap := cap) (k := k) (rows := rows ++ new) (vs := v1 ++ v2) (by omega) hasz g1 g2 g3 hget
      rw [List.length_append] at q1 q2 q3
      refine ⟨_, _, φ', ρ', hexec _ _ _ hrun, ?_, q2, (Trans.drewN n0 _ (Nat.le_add_right _ _)).trans q3, q4⟩
      rw [hn, hm2]
      exact q1
    rcases hcase with ⟨rfl, rfl⟩ | ⟨tk, i, m', rfl, htok, rfl, rfl⟩
    · have hCn : C = n := ht
      obtain ⟨v, w', φ', ρ', q0, q1, q2, q3, q4⟩ := hgrow (by omega) S hs rfl
      exact ⟨v, w', φ', ρ', .inl q0, q1, q2, q3, hkeep q4⟩
    · obtain ⟨p, hp, hpk, hicap, hCe, hba⟩ := ht
      have hput : S.puts [(tk, none), (base + j, some (.tok (rows.length + new.length)))] = (S.put tk none).put (base + j) (some (.tok (rows.length + new.length))) := rfl
      by_cases hroom : n + m ≤ C
      · rcases hba with rfl | h0
        case inr => omega
        obtain ⟨q, gq, hor⟩ := hs.heap tk _ htok
        rw [hp] at gq
        cases gq
        obtain ⟨hmc, hphi, arr, el', harr, hasz⟩ := hor
        rw [hpk] at hphi hasz
        have hvl2 : v2.length = m * k := by rw [R2.len, hm2]
        have hoffm : (p.off + (i + rows.length)) * k = (p.off + i) * k + n * k := by rw [← Nat.add_mul, hn, Nat.add_assoc]
        have hfit : (p.off + i) * k + n * k + v2.length ≤ arr.size := by
          rw [hvl2, hasz, ← Nat.add_mul, ← Nat.add_mul]
          exact Nat.mul_le_mul_right k (by omega)
        have hone := vals_one R2 hsc
        have hrun := run_app_room (C' := C') (C := C) E R2 hm2 hmpos harr (by omega) hfit hone o.type
        obtain ⟨arr', harr'⟩ : ∃ A, A = (arr.toList.take ((p.off + i) * k + n * k) ++ v2 ++ arr.toList.drop ((p.off + i) * k + n * k + v2.length)).toArray := ⟨_, rfl⟩
        rw [← harr'] at hrun
        have hasz' : arr'.size = arr.size := by rw [harr', seg_size _ _ _ hfit]
        have hget' : ∀ q, arr'.getD q undef = if (p.off + i) * k + n * k ≤ q ∧ q < (p.off + i) * k + n * k + v2.length then v2.getD (q - ((p.off + i) * k + n * k)) undef else arr.getD q undef := fun q => by rw [harr', seg_get _ _ _ _ hfit]
        have hheap' : (w.setRow p.blk arr').heap[p.blk]? = some (.cells arr' el' (0, 0)) := setRow_heap w p.blk arr arr' el' (0, 0) harr
        have hoth : ∀ c, c ≠ p.blk → (w.setRow p.blk arr').heap[c]? = w.heap[c]? := fun c hc => setRow_other w p.blk c arr' hc
        have hold : ∀ q, q < (p.off + i) * k + n * k → arr'[q]? = arr[q]? := by
          intro q hq
          have h1 := hget' q
          rw [if_neg (by omega)] at h1
          have hq1 : q < arr.size := by omega
          have hq2 : q < arr'.size := by omega
          simp only [Array.getD_eq_getD_getElem?, Array.getElem?_eq_getElem hq1, Array.getElem?_eq_getElem hq2, Option.getD_some] at h1
          rw [Array.getElem?_eq_getElem hq1, Array.getElem?_eq_getElem hq2, h1]
        have hcells : ∀ ad v, φ ad = some v → (w.setRow p.blk arr').cell? ad = some v := by
          intro ad v ha
          have hc := hs.phi ad v ha
          by_cases hb : ad.block = p.blk
          · have h1 := hphi ad v ha hb
            have hsp := cell_spot hc
            obtain ⟨bb, oo, sp⟩ := ad
            simp only at hb hsp h1
            subst hb hsp
            rw [cell_arr harr] at hc
            rw [cell_arr hheap', hold oo (by rw [hoffm] at h1; exact h1)]
            exact hc
          · rw [cell_same (hoth _ hb)]; exact hc
        have s1 : SR G φ ρ (S.put tk (some (.tok (i + rows.length)))) (w.setRow p.blk arr') :=
          hs.write tk _ p htok hp (size_setRow w p.blk arr') hoth hcells _ ⟨hmc, by rw [hpk]; exact hphi, arr', el', hheap', by rw [hasz', hpk]; exact hasz⟩
        have t1 : Trans n0 φ ρ S w φ ρ (S.put tk (some (.tok (i + rows.length)))) (w.setRow p.blk arr') := Trans.write n0 tk _ p htok hp (size_setRow w p.blk arr') rfl rfl rfl (Nat.le_refl _) hoth _
        have s2 := s1.kill tk
        have t2 := t1.trans (Trans.kill n0 tk)
        have hown : ¬ Own ρ ((S.put tk (some (.tok (i + rows.length)))).put tk none) p.blk := own_kill (o := .tok (i + rows.length)) s1 (by simp [ds_put, put_same]) hp
        rw [put_put] at s2 t2 hown
        have hfixold : ∀ ad v, φ ad = some v → ad.block = p.blk → ad.off < (p.off + i + (n + m)) * k → arr'[ad.off]? = some v := by
          intro ad v ha hb _
          have hc := hcells ad v ha
          have hsp := cell_spot (hs.phi ad v ha)
          obtain ⟨bb, oo, sp⟩ := ad
          simp only at hb hsp
          subst hb hsp
          rw [cell_arr hheap'] at hc
          exact hc
        have s3 := s2.fix p.blk arr' el' hheap' hown ((p.off + i + (n + m)) * k) hfixold
        have hownS : Own ρ S p.blk := ⟨tk, _, p, htok, hp, rfl⟩
        have t3 := t2.fix p.blk arr' ((p.off + i + (n + m)) * k) hfixold (.inr hownS)
        have hphiLe := t3.phi
        have hblt : p.blk < (w.setRow p.blk arr').heap.size := by rw [size_setRow]; exact heap_lt harr
        have hfin : (p.off + i + (n + m)) * k ≤ arr'.size := by rw [hasz', hasz]; exact Nat.mul_le_mul_right k (by omega)
        have s4 := s3.give (base + j) hfresh hlt ⟨p.blk, k, p.cap - i, p.off + i⟩ hblt hown (.tok (rows.length + new.length)) ⟨by simp only; omega, by
          intro ad v ha hb
          unfold phiAdd at ha
          split at ha
          · rename_i hc
            have := hc.2.2
            rw [hn, hm2] at this
            exact this
          · rename_i hc
            have h1 := hphi ad v ha hb
            rw [hoffm] at h1
            have h2 : (p.off + i) * k + n * k ≤ (p.off + i + (rows.length + new.length)) * k := by rw [← Nat.add_mul]; exact Nat.mul_le_mul_right k (by omega)
            exact Nat.lt_of_lt_of_le h1 h2, arr', el', hheap', by rw [hasz', hasz]; simp only; congr 1; omega⟩
        have t4 := Trans.give (p := ⟨p.blk, k, p.cap - i, p.off + i⟩) n0 (base + j) (by omega) hfresh (.tok (rows.length + new.length)) t3 (.inr hownS)
        refine ⟨_, _, _, _, .inl (hexec _ _ _ hrun), ?_, s4, t4, hkeep (fun id hid => rhoAdd_ne hid)⟩
        refine .isl _ (n + m) C k (some false) (rows ++ new) _ (fun i' j' => arr'.getD ((p.off + i) * k + (i' * k + j')) undef) hrl hroom g2 (by simp) (by simp) ?_ ?_ ?_
        · intro ad' had i' j' hi hj
          cases had
          have hq : i' * k + j' < (n + m) * k := by have := row_end (k := k) (n := j' + 1) hi (by omega); omega
          have hq2 : (p.off + i) * k + (i' * k + j') < (p.off + i + (n + m)) * k := by rw [Nat.add_mul (p.off + i)]; omega
          rw [add_new, phiAdd_new hq2]
          simp [Array.getD_eq_getD_getElem?, show (p.off + i) * k + (i' * k + j') < arr'.size by omega]
        · intro i' j' hi hj
          have hq : i' * k + j' < (n + m) * k := by have := row_end (k := k) (n := j' + 1) hi (by omega); omega
          have h5 := (g3 i' j' (by rw [hrl]; exact hi) hj).mono hphiLe (rhoAdd_le hfresh (p := ⟨p.blk, k, p.cap - i, p.off + i⟩))
          have hv1l : v1.length = n * k := by rw [R1.len, hn]
          have e1 : arr'.getD ((p.off + i) * k + (i' * k + j')) undef = (v1 ++ v2).getD (i' * k + j') undef := by
            rw [hget']
            by_cases hin : i' * k + j' < n * k
            · rw [if_neg (by omega), List.getD_eq_getElem?_getD, List.getElem?_append_left (by omega)]
              have hc := R1.cell _ rfl (i' * k + j') (v1[i' * k + j']'(by omega)) (List.getElem?_eq_getElem _)
              rw [add_new, cell_arr harr] at hc
              simp [Array.getD_eq_getD_getElem?, hc, show i' * k + j' < v1.length by omega]
            · rw [if_pos (by rw [hvl2]; rw [Nat.add_mul] at hq; omega), List.getD_eq_getElem?_getD, List.getD_eq_getElem?_getD, List.getElem?_append_right (by omega)]
              congr 2
              omega
          rw [e1]
          exact h5
        · refine ⟨⟨p.blk, k, p.cap - i, p.off + i⟩, rhoAdd_same, rfl, Nat.zero_le _, by simp only; omega, .inl ?_⟩
          rfl
      · obtain ⟨v, w', φ', ρ', q0, q1, q2, q3, q4⟩ := hgrow (by omega) (S.put tk none) (hs.kill tk) rfl
        exact ⟨v, w', φ', ρ', .inl q0, q1, q2, (Trans.kill n0 tk).trans q3, hkeep q4⟩
end Go.Proofs.YtfmicbbflpkdgaaGreatDoor.D
/-
  The D machine, part p: append and clear in memory of the state's; a store after which a variable stays as it is.
-/
namespace Go.Proofs.YtfmicbbflpkdgaaGreatDoor.D
open Go.RowKit
variable {P : Program} {G : List (List DV)} {φ φ' : Phi} {ρ ρ' : Rho} {S S' : DS} {w w' : World}
variable {n0 base : Nat} {al : List Nat} {o : Oper} {a : Act} {e : Env} {d : DV} {ps : Puts}
theorem putRows_length : ∀ (l : List (List DV)) (i : Nat) (xs : List (List DV)), (putRows l i xs).length = l.length
  | l, i, [] => rfl
  | l, i, x :: xs => by simp [putRows, putRows_length, setN_eq]
theorem putRows_get : ∀ (xs l : List (List DV)) (i q : Nat), i + xs.length ≤ l.length → (putRows l i xs).getD q [] = if i ≤ q ∧ q < i + xs.length then xs.getD (q - i) [] else l.getD q []
  | [], l, i, q, _ => by rw [if_neg (by simp)]; rfl
  | x :: xs, l, i, q, h => by
    simp only [List.length_cons] at h
    simp only [putRows, setN_eq]
    rw [putRows_get xs (l.set i x) (Nat.succ i) q (by simp; omega)]
    by_cases h1 : q = i
    · subst h1
      rw [if_neg (by omega), if_pos (by simp)]
      simp [List.getD_eq_getElem?_getD, show q < l.length by omega]
    · by_cases h2 : Nat.succ i ≤ q ∧ q < Nat.succ i + xs.length
      · rw [if_pos h2, if_pos (by simp; omega)]
        rw [show q - i = (q - Nat.succ i) + 1 by omega]
        simp
      · rw [if_neg h2, if_neg (by simp; omega)]
        simp [List.getD_eq_getElem?_getD, Ne.symm h1]
theorem putRows_mem (l : List (List DV)) (i : Nat) (xs : List (List DV)) (h : i + xs.length ≤ l.length) {k : Nat} (h1 : ∀ r, r ∈ l → r.length = k) (h2 : ∀ r, r ∈ xs → r.length = k) : ∀ r, r ∈ putRows l i xs → r.length = k := by
  intro r hr
  obtain ⟨q, hq, rfl⟩ := List.getElem_of_mem hr
  have hg := putRows_get xs l i q h
  rw [show (putRows l i xs).getD q [] = (putRows l i xs)[q] by simp [List.getD_eq_getElem?_getD, hq]] at hg
  rw [hg]
  rw [putRows_length] at hq
  split
  · rename_i hc
    have hx : q - i < xs.length := by omega
    rw [List.getD_eq_getElem?_getD, List.getElem?_eq_getElem hx]
    exact h2 _ (List.getElem_mem hx)
  · rw [List.getD_eq_getElem?_getD, List.getElem?_eq_getElem hq]
    exact h1 _ (List.getElem_mem hq)
/-- Rows written over old ones. -/
theorem seg_rows {arr : Array Value} {k cap i0 : Nat} {rows new R : List (List DV)} {vs : List Value} (hsz : arr.size = cap * k) (hr : ∀ i j, i < rows.length → j < k → Rep φ ρ (arr.getD (i * k + j) undef) ((rows.getD i []).getD j .nilp))
    (hvl : vs.length = new.length * k) (hv : ∀ i j, i < new.length → j < k → Rep φ ρ (vs.getD (i * k + j) undef) ((new.getD i []).getD j .nilp)) (hfit : i0 + new.length ≤ cap)
    (hR : ∀ q, q < R.length → R.getD q [] = if i0 ≤ q ∧ q < i0 + new.length then new.getD (q - i0) [] else rows.getD q []) (hRl : ∀ q, q < R.length → ¬ (i0 ≤ q ∧ q < i0 + new.length) → q < rows.length) :
    i0 * k + vs.length ≤ arr.size ∧ ∀ i j, i < R.length → j < k → Rep φ ρ (((arr.toList.take (i0 * k) ++ vs ++ arr.toList.drop (i0 * k + vs.length)).toArray).getD (i * k + j) undef) ((R.getD i []).getD j .nilp) := by
  have hf : i0 * k + vs.length ≤ arr.size := by rw [hvl, hsz, ← Nat.add_mul]; exact Nat.mul_le_mul_right k hfit
  refine ⟨hf, fun i j hi hj => ?_⟩
  rw [seg_get _ _ _ _ hf, hR i hi, hvl]
  by_cases hin : i0 ≤ i ∧ i < i0 + new.length
  · have h1 : i0 * k ≤ i * k := Nat.mul_le_mul_right k hin.1
    have h2 : i * k + j < i0 * k + new.length * k := by
      rw [← Nat.add_mul]
      have := row_end (k := k) (n := j + 1) hin.2 (by omega)
      omega
    rw [if_pos ⟨by omega, h2⟩, if_pos hin]
    rw [show i * k + j - i0 * k = (i - i0) * k + j by rw [Nat.sub_mul]; omega]
    exact hv (i - i0) j (by omega) hj
  · have hout : ¬ (i0 * k ≤ i * k + j ∧ i * k + j < i0 * k + new.length * k) := by
      intro h
      by_cases hlt : i < i0
      · have := row_end (k := k) (n := j + 1) hlt (by omega)
        omega
      · have h3 : (i0 + new.length) * k ≤ i * k := Nat.mul_le_mul_right k (by omega)
        rw [Nat.add_mul] at h3
        omega
    rw [if_neg hout, if_neg hin]
    exact hr i j (hRl i hi hin) hj
/-- A new block of the state's. -/
theorem grown_mem (hs : SR G φ ρ S w) {x : Nat} (hn0 : n0 ≤ x) (hfresh : ρ x = none) (hlt : x < S.nx) {arr : Array Value} {el : TypeId} {cap k : Nat} {rows : List (List DV)} {vs : List Value} (hcap : rows.length ≤ cap) (hsz : arr.size = cap * k)
    (hvl : vs.length = rows.length * k) (hkk : ∀ r, r ∈ rows → r.length = k) (hrep : ∀ i j, i < rows.length → j < k → Rep φ ρ (vs.getD (i * k + j) undef) ((rows.getD i []).getD j .nilp)) (hget : ∀ q, q < vs.length → arr.getD q undef = vs.getD q undef) :
    Rep φ (rhoAdd ρ x ⟨w.heap.size, k, cap, 0⟩) (.slice (some ⟨w.heap.size, 0, none⟩) rows.length cap) (.sl x 0 rows.length none) ∧ SR G φ (rhoAdd ρ x ⟨w.heap.size, k, cap, 0⟩) (S.put x (some (.cells k rows))) (w.alloc (.cells arr el)) ∧
      Trans n0 φ ρ S w φ (rhoAdd ρ x ⟨w.heap.size, k, cap, 0⟩) (S.put x (some (.cells k rows))) (w.alloc (.cells arr el)) := by
  refine ⟨.sl _ x 0 _ cap none ⟨w.heap.size, k, cap, 0⟩ rhoAdd_same hcap (by simp) (by simp) (by simp), (hs.allocObj _).give x hfresh hlt ⟨w.heap.size, k, cap, 0⟩ (by simp) (not_own_new hs) (.cells k rows) ?_,
    Trans.give n0 x hn0 hfresh ⟨w.heap.size, k, cap, 0⟩ _ (Trans.allocObj n0 _) (.inl (Nat.le_refl _))⟩
  refine or_cells_new hs el hfresh hkk hcap hsz (fun i j hi hj => ?_)
  have hq : i * k + j < rows.length * k := by have := row_end (k := k) (n := j + 1) hi (by omega); omega
  rw [hget _ (by rw [hvl]; exact hq)]
  exact hrep i j hi hj
inductive CapM (j k : Nat) (h : Heap) (s : DV) (new : List (List DV)) : DV → Puts → Prop
  | nil : ((∃ k nf rows tl, s = .isl k nf rows tl) ∨ ∃ b i n c, s = .sl b i n c) → new = [] → CapM j k h s new s []
  | ex (nf : Option Bool) : s = .isl k nf [] .ex → new ≠ [] → new.length ≤ 1048576 → allScR new = true → CapM j k h s new (.sl j 0 new.length none) [(j, some (.cells k new))]
  | room (b i n : Nat) (c : Option Nat) (rows : List (List DV)) : s = .sl b i n c → h b = some (.cells k rows) → new ≠ [] → new.length ≤ 1048576 → allScR new = true → n ≤ 1048576 → i + n + new.length ≤ rows.length → (∀ c0, c = some c0 → n + new.length ≤ c0) →
      CapM j k h s new (.sl b i (n + new.length) c) [(b, some (.cells k (putRows rows (i + n) new)))]
  | grow (b i n c : Nat) (rows : List (List DV)) : s = .sl b i n (some c) → h b = some (.cells k rows) → new ≠ [] → new.length ≤ 1048576 → allScR new = true → n ≤ 1048576 → i + n ≤ rows.length → c < n + new.length →
      CapM j k h s new (.sl j 0 (n + new.length) none) [(j, some (.cells k ((rows.drop i).take n ++ new)))]
  | any (b n : Nat) (rows : List (List DV)) : s = .sl b 0 n none → h b = some (.cells k rows) → new ≠ [] → new.length ≤ 1048576 → allScR new = true → n ≤ 1048576 → n ≤ rows.length →
      CapM j k h s new (.sl j 0 (n + new.length) none) [(b, none), (j, some (.cells k (rows.take n ++ new)))]
theorem capM_spec {j k : Nat} {h : Heap} {s : DV} {new : List (List DV)} (hd : capM j k h s new = some (d, ps)) : CapM j k h s new d ps := by
  unfold capM at hd
  split at hd
  · split at hd
    · cases hd; exact .nil (.inl ⟨_, _, _, _, rfl⟩) rfl
    · cases hd; exact .nil (.inr ⟨_, _, _, _, rfl⟩) rfl
    · cases hd
  · rename_i y ys
    have hne : y :: ys ≠ [] := by simp
    simp only [bleN, beqN, lenN_eq] at hd
    split at hd
    · rename_i h1 h2
      rw [decide_eq_true_eq] at h1
      split at hd
      · rename_i k' nf
        split at hd
        · rename_i h3
          rw [decide_eq_true_eq] at h3
          subst h3
          cases hd
          exact .ex nf rfl hne h1 h2
        · cases hd
      · rename_i b i n c
        split at hd
        · rename_i k' rows hb
          split at hd
          · rename_i h3 h4 h5
            rw [decide_eq_true_eq] at h3 h4 h5
            subst h3
            have h5 : i + n ≤ rows.length := h5
            split at hd
            · rename_i c0
              split at hd
              · rename_i h6
                have h6 : n + (y :: ys).length ≤ c0 := by simpa using h6
                split at hd
                · rename_i h7
                  have h7 : i + n + (y :: ys).length ≤ rows.length := by simpa using h7
                  cases hd
                  exact .room b i n (some c0) rows rfl hb hne h1 h2 h4 h7 (fun c1 hc => by cases hc; exact h6)
                · cases hd
              · rename_i h6
                have h6 : ¬ (n + (y :: ys).length ≤ c0) := by simpa using h6
                cases hd
                rw [takeN_eq, dropN_eq]
                exact .grow b i n c0 rows rfl hb hne h1 h2 h4 h5 (by omega)
            · split at hd
              · rename_i h7
                have h7 : i + n + (y :: ys).length ≤ rows.length := by simpa using h7
                cases hd
                exact .room b i n none rows rfl hb hne h1 h2 h4 h7 (by simp)
              · split at hd
                · cases hd
                  rw [takeN_eq]
                  exact .any b n rows rfl hb hne h1 h2 h4 (by omega)
                · cases hd
          · cases hd
        · cases hd
      · cases hd
    · cases hd
theorem rhoAdd_keep {j : Nat} {p : PB} : ∀ id, id < S.nx → (∀ j', j' ∈ [j] → id ≠ base + j') → rhoAdd ρ (base + j) p id = ρ id := fun _ _ hne => rhoAdd_ne (hne j (by simp))
theorem sim_apm {j k : Nat} {s x : Opd} (hs : SR G φ ρ S w) (he : ER φ ρ a.tmps e) (hm : mApp P G k s x o.op = true) (hn0 : n0 ≤ base) (hfresh : ρ (base + j) = none) (hlt : base + j < S.nx)
    (hd : dop G base e S.h (.apm j k s x) = some (d, ps)) : OpSim P G n0 base [j] o a φ ρ S w d ps := by
  obtain ⟨t, el, ti, z, s', x', E, hs', hx', hexec⟩ := mApp_spec hm
  have rs := opOk_rep hs he hs'
  have rx := opOk_rep hs he hx'
  have hexec := hexec a
  simp only [dop] at hd
  split at hd
  case h_2 => cases hd
  rename_i new hnew
  generalize hsv : a.eval s' = sv at rs hexec
  generalize hxv : a.eval x' = xv at rx hexec
  obtain ⟨ad, m, C', v2, rfl, hm2, hmC, R2⟩ := rep_rows hs rx hnew
  have hpos : new ≠ [] → 0 < m := fun hne => by rw [hm2]; exact List.length_pos_iff.2 hne
  have growM : ∀ {b : Option Addr} {n C : Nat} {R1 : List (List DV)} {v1 : List Value}, sv = .slice b n C → RowVals φ ρ w b k R1 v1 → n = R1.length → (b = none → C = 0) → n ≤ C → C < n + m → n ≤ 1048576 → new.length ≤ 1048576 → ∀ S0 : DS, SR G φ ρ S0 w → S0.nx = S.nx →
      ∃ v w' ρ', (execOp a.eval o).run P w = .ok (.value v) w' ∧ Rep φ ρ' v (.sl (base + j) 0 (n + new.length) none) ∧ SR G φ ρ' (S0.put (base + j) (some (.cells k (R1 ++ new)))) w' ∧
        Trans n0 φ ρ S0 w φ ρ' (S0.put (base + j) (some (.cells k (R1 ++ new)))) w' ∧ ∀ id, id < S.nx → (∀ j', j' ∈ [j] → id ≠ base + j') → ρ' id = ρ id := by
    intro b n C R1 v1 hsl R1v hn hz hC hg hn2 hnl S0 hs0 hnx
    subst hsl
    obtain ⟨g1, g2, g3⟩ := R1v.app R2
    have hrl : (R1 ++ new).length = n + m := by rw [List.length_append, hn, hm2]
    obtain ⟨arr, cap, hcap, hrun, hasz, hget⟩ := run_app_grow (C' := C') E R1v R2 hn hm2 hz hC hg hn2 (by omega) o.type
    obtain ⟨q1, q2, q3⟩ := grown_mem (n0 := n0) hs0.drew (x := base + j) (by omega) hfresh (by rw [hnx]; exact hlt) (arr := arr) (el := el) (cap := cap) (k := k) (rows := R1 ++ new) (vs := v1 ++ v2) (by omega) hasz g1 g2 g3 hget
    rw [hrl] at q1
    refine ⟨_, _, _, hexec _ _ _ hrun, ?_, q2, (Trans.drewN n0 _ (Nat.le_add_right _ _)).trans q3, rhoAdd_keep⟩
    rw [← hm2]
    exact q1
  have roomM : ∀ {b i n C : Nat} {c : Option Nat} {rows R : List (List DV)} {p : PB}, sv = .slice (some ⟨p.blk, i * k, none⟩) n C → ρ b = some p → S.h b = some (.cells k rows) → OR φ ρ w p (.cells k rows) → new ≠ [] → n + m ≤ C → i + n ≤ rows.length → i + n + new.length ≤ p.cap → allScR new = true →
      R.length ≤ p.cap → (∀ r, r ∈ R → r.length = k) → (∀ q, q < R.length → R.getD q [] = if i + n ≤ q ∧ q < i + n + new.length then new.getD (q - (i + n)) [] else rows.getD q []) → (∀ q, q < R.length → ¬ (i + n ≤ q ∧ q < i + n + new.length) → q < rows.length) →
      ∃ w', (execOp a.eval o).run P w = .ok (.value (.slice (some ⟨p.blk, i * k, none⟩) (n + m) C)) w' ∧ SR G φ ρ (S.put b (some (.cells k R))) w' ∧ Trans n0 φ ρ S w φ ρ (S.put b (some (.cells k R))) w' ∧ w'.heap.size = w.heap.size := by
    intro b i n C c rows R p hsl hp hb hor hne hroom hin hcap2 hsc hRcap hRk hR hRl
    subst hsl
    obtain ⟨hpk, hoff, hcap, hlen, hphi, arr, el', harr, hsz, hrep⟩ := hor
    obtain ⟨f1, f2⟩ := seg_rows (i0 := i + n) (R := R) hsz hrep R2.len R2.rep hcap2 hR hRl
    have hrun := run_app_room (C' := C') (C := C) (W := i * k) (n := n) E R2 hm2 (hpos hne) harr hroom (by rw [Nat.add_mul] at f1; exact f1) (vals_one R2 hsc) o.type
    rw [← Nat.add_mul] at hrun
    obtain ⟨s1, t1⟩ := hs.setRow (n0 := n0) hb hp harr hpk hoff hRcap hRk hphi (by rw [seg_size _ _ _ f1]; exact hsz) f2
    exact ⟨_, hexec _ _ _ hrun, s1, t1, size_setRow ..⟩
  cases capM_spec hd with
  | nil hshape hnil =>
    subst hnil
    obtain rfl : m = 0 := hm2
    have : ∃ b n C, sv = .slice b n C ∧ n ≤ C := by
      rcases hshape with ⟨k', nf, rows, tl, h⟩ | ⟨b, i, n, c, h⟩
      · rw [h] at rs; cases rs; exact ⟨_, _, _, rfl, by assumption⟩
      · rw [h] at rs; cases rs; exact ⟨_, _, _, rfl, by assumption⟩
    obtain ⟨b, n, C, rfl, hC⟩ := this
    exact OpSim.pure hs (hexec w w _ (run_app_none E hC _ w)) rs
  | ex nf hsd hne hnl hsc =>
    rw [hsd] at rs
    obtain ⟨b, n, C, hsl⟩ : ∃ b n C, sv = .slice b n C := by cases rs; exact ⟨_, _, _, rfl⟩
    rw [hsl] at rs
    obtain ⟨hn, hC, hz, ht, v1, R1⟩ := isl_vals hs rs
    have hCn : C = n := ht
    obtain rfl : n = 0 := hn
    obtain ⟨v, w', ρ', q0, q1, q2, q3, q4⟩ := growM hsl R1 rfl hz hC (by have := hpos hne; omega) (by omega) hnl S hs rfl
    rw [Nat.zero_add] at q1
    exact ⟨v, w', φ, ρ', .inl q0, q1, q2, q3, q4⟩
  | room b i n c rows hsd hb hne hnl hsc hn2 hin hc0 =>
    rw [hsd] at rs
    cases rs with
    | sl ad b i n C c p hp hC hc1 hc2 ha =>
      obtain ⟨q, g1, hor⟩ := hs.heap b _ hb
      rw [hp] at g1
      cases g1
      have hcap := hor.2.2.1
      have hpk := hor.1
      have hroom : n + m ≤ C := by
        cases c with
        | some c0 => rw [hc1 c0 rfl, hm2]; exact hc0 c0 rfl
        | none => have := hc2 rfl; omega
      rcases ha with rfl | h0
      case inr => have := hpos hne; omega
      obtain ⟨w', q0, q1, q2, _⟩ := roomM (b := b) (i := i) (c := c) (R := putRows rows (i + n) new) (by rw [hpk]) hp hb hor hne hroom (by omega) (by omega) hsc (by rw [putRows_length]; exact hcap) (putRows_mem _ _ _ (by omega) hor.2.2.2.1 R2.kk)
        (fun q hq => putRows_get _ _ _ _ (by omega)) (fun q hq _ => by rw [putRows_length] at hq; exact hq)
      refine ⟨_, w', φ, ρ, .inl q0, ?_, q1, q2, fun _ _ _ => rfl⟩
      rw [← hm2]
      exact .sl _ b i (n + m) C c p hp hroom hc1 hc2 (.inl (by rw [hpk]))
  | grow b i n c rows hsd hb hne hnl hsc hn2 hin hlt2 =>
    rw [hsd] at rs
    have hro : rowsOf k S.h (.sl b i n (some c)) = some ((rows.drop i).take n) := by
      simp only [rowsOf, hb, beqN, bleN, lenN_eq, takeN_eq, dropN_eq]
      rw [decide_eq_true trivial, decide_eq_true (show i.add n ≤ rows.length from hin)]
    obtain ⟨ad1, n1, C1, v1, hsl, hn1, hC1, R1⟩ := rep_rows hs rs hro
    have hl : ((rows.drop i).take n).length = n := by simp; omega
    rw [hl] at hn1
    subst hn1
    have hCc : C1 = c := by rw [hsl] at rs; cases rs with | sl ad b i n C c p hp hC hc1 => exact hc1 _ rfl
    have had : ad1 = none → C1 = 0 := by rw [hsl] at rs; cases rs; simp
    obtain ⟨v, w', ρ', q0, q1, q2, q3, q4⟩ := growM hsl R1 hl.symm had hC1 (by omega) hn2 hnl S hs rfl
    exact ⟨v, w', φ, ρ', .inl q0, q1, q2, q3, q4⟩
  | any b n rows hsd hb hne hnl hsc hn2 hin =>
    rw [hsd] at rs
    have hro : rowsOf k S.h (.sl b 0 n none) = some (rows.take n) := by
      simp only [rowsOf, hb, beqN, bleN, lenN_eq, takeN_eq, dropN_eq, List.drop_zero]
      rw [decide_eq_true trivial, decide_eq_true (show Nat.add 0 n ≤ rows.length by rw [show Nat.add 0 n = n from Nat.zero_add n]; exact hin)]
    obtain ⟨ad1, n1, C1, v1, hsl, hn1, hC1, R1⟩ := rep_rows hs rs hro
    have hl : (rows.take n).length = n := by simp; omega
    rw [hl] at hn1
    subst hn1
    have had : ad1 = none → C1 = 0 := by rw [hsl] at rs; cases rs; simp
    have hputs : S.puts [(b, none), (base + j, some (.cells k (rows.take n1 ++ new)))] = (S.put b none).put (base + j) (some (.cells k (rows.take n1 ++ new))) := rfl
    by_cases hroom : n1 + m ≤ C1
    · rw [hsl] at rs
      cases rs with
      | sl ad b i n C c p hp hC hc1 hc2 ha =>
        obtain ⟨q, g1, hor⟩ := hs.heap b _ hb
        rw [hp] at g1
        cases g1
        have hpk := hor.1
        have hCe := (hc2 rfl).2
        rcases ha with rfl | h0
        case inr => have := hpos hne; omega
        obtain ⟨w', q0, q1, q2, q3⟩ := roomM (b := b) (i := 0) (c := none) (R := rows.take n1 ++ new) (by rw [hsl, hpk]) hp hb hor hne hroom (by omega) (by omega) hsc (by rw [List.length_append, hl]; omega)
          (fun r hr => by
            rcases List.mem_append.1 hr with h | h
            · exact hor.2.2.2.1 r (List.mem_of_mem_take h)
            · exact R2.kk r h)
          (fun q hq => by
            rw [List.length_append, hl] at hq
            by_cases h1 : q < n1
            · rw [if_neg (by omega), List.getD_eq_getElem?_getD, List.getElem?_append_left (by omega), List.getElem?_take, if_pos h1, List.getD_eq_getElem?_getD]
            · rw [if_pos (by omega), List.getD_eq_getElem?_getD, List.getElem?_append_right (by omega), hl, List.getD_eq_getElem?_getD, Nat.zero_add])
          (fun q hq hq2 => by rw [List.length_append, hl] at hq; omega)
        have hor' : OR φ ρ w' p (.cells k (rows.take n1 ++ new)) := by
          obtain ⟨p', h1, h2⟩ := q1.heap b _ (by rw [ds_put, put_same])
          rw [hp] at h1
          cases h1
          exact h2
        have s2 := q1.kill b
        have t2 := q2.trans (Trans.kill n0 b)
        have hown := own_kill q1 (o := .cells k (rows.take n1 ++ new)) (by rw [ds_put, put_same]) hp
        rw [put_put] at s2 t2 hown
        have hblt : p.blk < w'.heap.size := by rw [q3]; exact (hs.dom b p hp).2
        have s3 := s2.give (base + j) hfresh hlt p hblt hown (.cells k (rows.take n1 ++ new)) (hor'.step rfl (PhiLe.refl _) (rhoAdd_le hfresh) fun _ _ h _ => h)
        have t3 := Trans.give (p := p) n0 (base + j) (by omega) hfresh (.cells k (rows.take n1 ++ new)) t2 (.inr ⟨b, _, p, hb, hp, rfl⟩)
        refine ⟨_, w', φ, _, .inl q0, ?_, s3, t3, rhoAdd_keep⟩
        rw [← hm2]
        exact .sl _ (base + j) 0 (n1 + m) C1 none p rhoAdd_same hroom (by simp) (fun _ => ⟨Nat.zero_le _, hCe⟩) (.inl (by simp))
    · obtain ⟨v, w', ρ', q0, q1, q2, q3, q4⟩ := growM hsl R1 hl.symm had hC1 (by omega) hn2 hnl (S.put b none) (hs.kill b) rfl
      exact ⟨v, w', φ, ρ', .inl q0, q1, q2, (Trans.kill n0 b).trans q3, q4⟩
/-! ### clear -/
def mClr (P : Program) (G : List (List DV)) (z : List DV) (x : Opd) : Op → Bool
  | .call { callee := .builtin .clear, args, argTypes } => opOkL G args.toList [x] && (match argTypes[0]? with
      | some t => (match P.underlying t with | some (.slice el) => zOk P el z | _ => false)
      | none => false)
  | _ => false
theorem sim_clr {k : Nat} {z : List DV} {x : Opd} (hs : SR G φ ρ S w) (he : ER φ ρ a.tmps e) (hm : mClr P G z x o.op = true) (hd : dop G base e S.h (.clr k z x) = some (d, ps)) :
    OpSim P G n0 base al o a φ ρ S w d ps := by
  unfold mClr at hm
  split at hm
  · rename_i args ts hop
    simp only [Bool.and_eq_true] at hm
    obtain ⟨hx, ht⟩ := hm
    split at ht
    · rename_i t hts
      split at ht
      · rename_i el hel
        obtain ⟨x', rfl, hx'⟩ := one_arg hx
        obtain ⟨ti, zv, hi, hzv, _, h1, h2⟩ := zOk_spec ht
        have rx := opOk_rep hs he hx'
        simp only [dop] at hd
        split at hd
        · rename_i b i n c hxd
          rw [hxd] at rx
          split at hd
          · rename_i k' rows hb
            simp only [beqN, bleN, lenN_eq] at hd
            split at hd
            · rename_i e1 e2
              rw [decide_eq_true_eq] at e1 e2
              subst e1
              have e2 : i + n ≤ rows.length := e2
              split at hd
              · rename_i e3 e4
                rw [decide_eq_true_eq] at e4
                cases hd
                generalize hxv : a.eval x' = xv at rx
                have hexec : ∀ w1, (Builtin.clear_ ts o.type #[xv]).run P w = .ok (.tuple #[]) w1 → (execOp a.eval o).run P w = .ok (.value (.tuple #[])) w1 := by
                  intro w1 h
                  simp [execOp, hop, resolve, invoke, builtin, hxv, h]
                cases rx with
                | sl ad b i n C c p hp hC hc1 hc2 ha =>
                  obtain ⟨q, g1, hor⟩ := hs.heap b _ hb
                  rw [hp] at g1
                  cases g1
                  obtain ⟨hpk, hoff, hcap, hlen, hphi, arr, el', harr, hsz, hrep⟩ := hor
                  by_cases hn0' : n = 0
                  · subst hn0'
                    refine OpSim.skipV (v := .tuple #[]) (w1 := w) (hexec w ?_) (.tup #[] [] rfl (by simp)) ?_ ?_
                    · simp [Builtin.clear_, hts, run_underlying hel]
                    · exact hs.write b _ p hb hp rfl (fun _ _ => rfl) hs.phi _ ⟨hpk, hoff, hcap, hlen, hphi, arr, el', harr, hsz, hrep⟩
                    · exact Trans.write n0 b _ p hb hp rfl rfl rfl rfl (Nat.le_refl _) (fun _ _ => rfl) _
                  · rcases ha with rfl | h0
                    case inr => omega
                    have hV : RepL φ ρ zv.cells z := ⟨h1, fun j hj => h2 φ ρ j hj⟩
                    have hvl : (Builtin.zeroCells zv.cells n).toList.length = (rep n z).length * k' := by
                      rw [rep_eq]; simp [Builtin.zeroCells, h1, e4]
                    have hv : ∀ x j, x < (rep n z).length → j < k' → Rep φ ρ ((Builtin.zeroCells zv.cells n).toList.getD (x * k' + j) undef) (((rep n z).getD x []).getD j .nilp) := by
                      intro x j hx hj
                      rw [rep_eq, List.length_replicate] at hx
                      rw [getD_toList, rep_eq, show (List.replicate n z).getD x [] = z by simp [List.getD_eq_getElem?_getD, hx]]
                      have := made_get hV (i := x) (j := j) (c := n) hx (by omega)
                      rw [e4] at this
                      have e5 : Builtin.zeroCells zv.cells n = madeCells zv.cells (n * k') := by
                        show madeCells zv.cells (n * zv.cells.size) = _
                        rw [h1, e4]
                      rw [e5]
                      exact this
                    have hzl : (rep n z).length = n := by rw [rep_eq]; simp
                    obtain ⟨f1, f2⟩ := seg_rows (i0 := i) (new := rep n z) (R := putRows rows i (rep n z)) hsz hrep hvl hv (by rw [hzl]; omega) (fun q _ => putRows_get _ _ _ _ (by rw [hzl]; exact e2)) (fun q hq _ => by rw [putRows_length] at hq; exact hq)
                    have hone : ∀ u, u ∈ (Builtin.zeroCells zv.cells n).toList → u.oneCell' = true := by
                      intro u hu
                      obtain ⟨q, hq, rfl⟩ := List.getElem_of_mem hu
                      have hq2 : q < n * zv.cells.size := by simpa [Builtin.zeroCells] using hq
                      have hpos : 0 < zv.cells.size := by
                        rcases Nat.eq_zero_or_pos zv.cells.size with h | h
                        · rw [h, Nat.mul_zero] at hq2; omega
                        · exact h
                      have hmod := Nat.mod_lt q hpos
                      have hr := h2 φ ρ (q % zv.cells.size) (by rw [← h1]; exact hmod)
                      have hone := rep_one hr (allSc_get e3 _ (by rw [← h1]; exact hmod))
                      have e6 : (Builtin.zeroCells zv.cells n).toList[q] = zv.cells.getD (q % zv.cells.size) undef := by
                        simp [Builtin.zeroCells, Array.getD_eq_getD_getElem?, hmod]
                      rw [e6]
                      exact hone
                    have hst := run_storeCells_at P p.blk (i * k') el' (Builtin.zeroCells zv.cells n).toList 0 arr w harr (by simpa using f1) hone
                    simp only [Nat.add_zero] at hst
                    obtain ⟨s1, t1⟩ := hs.setRow (n0 := n0) (rows := putRows rows i (rep n z)) hb hp harr hpk hoff (by rw [putRows_length]; exact hcap) (putRows_mem _ _ _ (by rw [hzl]; exact e2) hlen (fun r hr => by rw [rep_eq] at hr; rw [(List.mem_replicate.1 hr).2]; exact e4)) hphi (by rw [seg_size _ _ _ f1]; exact hsz) f2
                    refine OpSim.skipV (v := .tuple #[]) (hexec _ ?_) (.tup #[] [] rfl (by simp)) s1 t1
                    obtain ⟨n', rfl⟩ : ∃ n', n = n' + 1 := ⟨n - 1, by omega⟩
                    rw [hpk]
                    have e7 : ∀ v : Value, (#[v] : Array Value)[0]? = some v := fun v => rfl
                    simp only [Builtin.clear_, hts, e7, Sem.run_bind, run_underlying hel, Result.andThen_ok, run_zero hi hzv, hst, Sem.run_pure]
              · cases hd
            · cases hd
          · cases hd
        · cases hd
      · cases ht
    · cases ht
  · cases hm
end Go.Proofs.YtfmicbbflpkdgaaGreatDoor.D
/-
  The D machine, part q: every operation that calls nothing, in one; a store after which a variable stays as it is.
-/
namespace Go.Proofs.YtfmicbbflpkdgaaGreatDoor.D
open Go.RowKit
variable {P : Program} {G : List (List DV)} {φ φ' : Phi} {ρ ρ' : Rho} {S S' : DS} {w w' : World}
variable {n0 base : Nat} {al : List Nat} {o : Oper} {a : Act} {e : Env} {d : DV} {ps : Puts}
def mCall (G : List (List DV)) (f : Nat) (xs : List Opd) : Op → Bool
  | .call { callee := .value (.func g), args, .. } => Nat.beq f g && opOkL G args.toList xs
  | _ => false
def mCallv (G : List (List DV)) (x : Opd) (xs : List Opd) : Op → Bool
  | .call { callee := .value y, args, .. } => opOk G y x && opOkL G args.toList xs
  | _ => false
def mDf (G : List (List DV)) (x : Opd) : Op → Bool
  | .defer { callee := .value y, args, .. } => opOk G y x && args.isEmpty
  | _ => false
def mStf (P : Program) (G : List (List DV)) (n t : Nat) (v : Opd) : Op → Bool
  | .store ty (.tmp t') v' => Nat.beq t t' && elOk P ty n && opOk G v' v
  | _ => false
def match1 (P : Program) (G : List (List DV)) (p : DOp) (op : Op) : Bool :=
  match p with
  | .bad => true
  | .mv x => mMv G x op
  | .pk c x y => mPk G c x y op
  | .ibx x => mIbx G x op
  | .mbx _ x => mMbx G x op
  | .al _ z => mAl P z op
  | .bd z qs => mBd P G z qs op
  | .ibs k xs => mIbs P G k xs op
  | .ld n x => mLd P G n x op
  | .st n x v => mSt P G n x v op
  | .stf n t v => mStf P G n t v op
  | .nc x => mNc G x op
  | .bin b x y => mBin G b x y op
  | .un b x => mUn G b x op
  | .eq kd ng x y => mEq P G kd ng x y op
  | .cv k x => mCv P G k x op
  | .mki t x => mMki P G t x op
  | .mkf f xs ys => mMkf G f xs ys op
  | .mkm _ => mMkm op
  | .mks _ k z l c => mMks P G k z l c op
  | .sls x lo hi => mSls P G x lo hi op
  | .slc k x lo hi => mSlc P G k x lo hi op
  | .fa n x => mFa P G n x op
  | .fd off n x => mFd P G off n x op
  | .ia k x i => mIa P G k x i op
  | .ixs x i => mIxs P G x i op
  | .ixa k len n x i => mIxa P G k len n x i op
  | .lk kd z ok m x => mLk P G kd z ok m x op
  | .mu kd m x v => mMu P G kd m x v op
  | .rgs _ x => mRgs P G x op
  | .rgm _ x => mRgm P G x op
  | .nxs x => mNxs G x op
  | .nxm x => mNxm G x op
  | .en x => mEn G x op
  | .ex x i => mEx G x i op
  | .call f xs => mCall G f xs op
  | .callv x xs => mCallv G x xs op
  | .len kd x => mLen P G kd x op
  | .apa _ k s x => mApp P G k s x op
  | .apm _ k s x => mApp P G k s x op
  | .clr _ z x => mClr P G z x op
  | .mx x y => mMx G x y op
  | .df x => mDf G x op
def nameOf : DOp → Option Nat
  | .mbx j _ | .al j _ | .mkm j | .mks j _ _ _ _ | .rgs j _ | .rgm j _ | .apa j _ _ _ | .apm j _ _ _ => some j
  | _ => none
/-- An operation that dop does. -/
def plain : DOp → Bool
  | .bad | .call .. | .callv .. | .df _ | .stf .. | .nxm _ => false
  | _ => true
theorem sim_all {p : DOp} (hp : plain p = true) (hs : SR G φ ρ S w) (he : ER φ ρ a.tmps e) (hm : match1 P G p o.op = true) (hn0 : n0 ≤ base) (hfr : ∀ j, nameOf p = some j → ρ (base + j) = none ∧ base + j < S.nx)
    (hd : dop G base e S.h p = some (d, ps)) : OpSim P G n0 base (nameOf p).toList o a φ ρ S w d ps := by
  cases p <;> first | (cases hp; done) | skip
  case mv x => cases hd; exact sim_mv hs he hm
  case pk => exact sim_pk hs he hm hd
  case ibx => cases hd; exact sim_ibx hs he hm
  case mbx j x => cases hd; exact sim_mbx hs he hm hn0 (hfr j rfl).1 (hfr j rfl).2
  case al j z => cases hd; exact sim_al hs hm hn0 (hfr j rfl).1 (hfr j rfl).2
  case bd => exact sim_bd hs he hm hd
  case ibs => exact sim_ibs hs he hm hd
  case ld => exact sim_ld hs he hm hd
  case st => exact sim_st hs he hm hd
  case nc => exact sim_nc hs he hm hd
  case bin => exact sim_bin hs he hm hd
  case un => exact sim_un hs he hm hd
  case eq => exact sim_eq hs he hm hd
  case cv => exact sim_cv hs he hm hd
  case mki => cases hd; exact sim_mki hs he hm
  case mkf => cases hd; exact sim_mkf hs he hm
  case mkm j => cases hd; exact sim_mkm hs hm hn0 (hfr j rfl).1 (hfr j rfl).2
  case mks j k z l c => exact sim_mks hs he hm hn0 (hfr j rfl).1 (hfr j rfl).2 hd
  case sls => exact sim_sls hs he hm hd
  case slc => exact sim_slc hs he hm hd
  case fa => exact sim_fa hs he hm hd
  case fd => exact sim_fd hs he hm hd
  case ia => exact sim_ia hs he hm hd
  case ixs => exact sim_ixs hs he hm hd
  case ixa => exact sim_ixa hs he hm hd
  case lk => exact sim_lk hs he hm hd
  case mu => exact sim_mu hs he hm hd
  case rgs j x => exact sim_rgs hs he hm hn0 (hfr j rfl).1 (hfr j rfl).2 hd
  case rgm j x => exact sim_rgm hs he hm hn0 (hfr j rfl).1 (hfr j rfl).2 hd
  case nxs => exact sim_nxs hs he hm hd
  case en => exact sim_en hs he hm hd
  case ex => exact sim_ex hs he hm hd
  case len => exact sim_len hs he hm hd
  case apa j k s x => exact sim_apa hs he hm hn0 (hfr j rfl).1 (hfr j rfl).2 hd
  case apm j k s x => exact sim_apm hs he hm hn0 (hfr j rfl).1 (hfr j rfl).2 hd
  case clr => exact sim_clr hs he hm hd
  case mx => exact sim_mx hs he hm hd
/-! ### A store after which a variable stays as it is -/
theorem step_stf {n t b : Nat} {v : Opd} {row : List DV} {k : Nat} (hs : SR G φ ρ S w) (he : ER φ ρ a.tmps e) (hm : mStf P G n t v o.op = true) (ht : e t = .ptr b 0 0) (hb : S.h b = some (.cells k [row])) (hn : (cellsOf (ev G e v)).length = n) (hr : row.length = n)
    (hsc : allSc (cellsOf (ev G e v)) = true) :
    ∃ w' φ', (execOp a.eval o).run P w = .ok .skip w' ∧ SR G φ' ρ (S.put b none) w' ∧ Trans n0 φ ρ S w φ' ρ (S.put b none) w' ∧ Rep φ' ρ (a.tmps.getD t undef) (.iptr (cellsOf (ev G e v)) 0) := by
  unfold mStf at hm
  split at hm
  · rename_i ty t' v' hop
    simp only [Bool.and_eq_true, beqN, decide_eq_true_eq] at hm
    obtain ⟨⟨rfl, hel⟩, hv⟩ := hm
    have rv := rep_cellsL (opOk_rep hs he hv)
    have rt := he t
    rw [ht] at rt
    have hev : a.eval (.tmp t) = a.tmps.getD t undef := rfl
    generalize hxv : a.tmps.getD t undef = xv at rt
    cases rt with
    | ptr b i o' p hp =>
      obtain ⟨q, g1, g2⟩ := hs.heap b _ hb
      rw [hp] at g1
      cases g1
      obtain ⟨rfl, hoff, hcap, hlen, hphi, arr, el, harr, hsz, hrep⟩ := g2
      have hk : p.k = n := by rw [← hlen row (by simp), hr]
      have hrow : [row][0]? = some row := rfl
      obtain ⟨f1, f2, f3⟩ := store_rows (i := 0) (o := 0) hlen hcap hsz hrep hrow (by rw [hn, hr]; omega) rv
      simp only [Nat.zero_mul, Nat.zero_add] at f2 f3
      have hrun := run_storeAt (P := P) (W := 0) hel harr (by rw [rv.1, hn]) (by simpa using f2) (allSc_one rv hsc)
      have hfit : 0 + (a.eval v').cells.toList.length ≤ arr.size := by simpa using f2
      obtain ⟨arr', harr'⟩ : ∃ A, A = (arr.toList.take 0 ++ (a.eval v').cells.toList ++ arr.toList.drop (0 + (a.eval v').cells.toList.length)).toArray := ⟨_, rfl⟩
      rw [← harr'] at hrun
      have hasz : arr'.size = arr.size := by rw [harr', seg_size _ _ _ hfit]
      have hheap : (w.setRow p.blk arr').heap[p.blk]? = some (.cells arr' el (0, 0)) := setRow_heap w p.blk arr arr' el (0, 0) harr
      have hoth : ∀ c, c ≠ p.blk → (w.setRow p.blk arr').heap[c]? = w.heap[c]? := fun c hc => setRow_other w p.blk c arr' hc
      have hcells : ∀ ad u, φ ad = some u → (w.setRow p.blk arr').cell? ad = some u := fun ad u ha => by rw [cell_same (hoth _ (hphi ad u ha))]; exact hs.phi ad u ha
      have s1 : SR G φ ρ (S.put b (some (.tok 0))) (w.setRow p.blk arr') := hs.write b _ p hb hp (size_setRow w p.blk arr') hoth hcells _
        ⟨Nat.zero_le _, fun ad u ha hbk => absurd hbk (hphi ad u ha), arr', el, hheap, by rw [hasz, hsz, hoff, Nat.zero_add]⟩
      have t1 : Trans n0 φ ρ S w φ ρ (S.put b (some (.tok 0))) (w.setRow p.blk arr') := Trans.write n0 b _ p hb hp (size_setRow w p.blk arr') rfl rfl rfl (Nat.le_refl _) hoth _
      have s2 := s1.kill b
      have t2 := t1.trans (Trans.kill n0 b)
      have hown := own_kill (o := .tok 0) s1 (by rw [ds_put, put_same]) hp
      rw [put_put] at s2 t2 hown
      have hold : ∀ ad u, φ ad = some u → ad.block = p.blk → ad.off < n → arr'[ad.off]? = some u := fun ad u ha hbk => absurd hbk (hphi ad u ha)
      have hns : n ≤ arr'.size := by rw [hasz]; rw [← hn, ← rv.1]; simpa using f2
      have hphiLe := (t2.fix p.blk arr' n hold (.inr ⟨b, _, p, hb, hp, rfl⟩)).phi
      refine ⟨_, phiAdd φ p.blk arr' n, ?_, s2.fix p.blk arr' el hheap hown n hold, t2.fix p.blk arr' n hold (.inr ⟨b, _, p, hb, hp, rfl⟩), ?_⟩
      · rw [Nat.zero_mul, Nat.zero_add] at hxv
        simp only [execOp, hop, hev, hxv, Sem.run_bind, hrun, Result.andThen_ok, Sem.run_pure]
      · rw [Nat.zero_mul, Nat.zero_add]
        refine .iptr ⟨p.blk, 0, none⟩ _ 0 (fun j => arr'.getD j undef) (fun j hj => ?_) (fun j hj => ?_)
        · rw [hn] at hj
          rw [add_new, Nat.zero_add, phiAdd_new hj]
          simp [Array.getD_eq_getD_getElem?, show j < arr'.size by omega]
        · have hr0 : arr'.getD j undef = (a.eval v').cells.getD j undef := by
            rw [harr', seg_get _ _ _ _ hfit, if_pos (by have := rv.1; simp; omega), Nat.sub_zero, getD_toList]
          rw [hr0]
          exact (rv.2 j hj).mono hphiLe (RhoLe.refl _)
  · cases hm
end Go.Proofs.YtfmicbbflpkdgaaGreatDoor.D
