/-
  The D machine, part j: slices that are built, memory that is written.
-/
import Derived.Test.YtfmicbbflpkdgaaGreatDoorA02
import Derived.Laws.MakeOwn
import Derived.WideMake
import Derived.Maps.RangeRun
import Derived.Lib.OthersKept
set_option linter.unusedVariables false
set_option linter.unusedSimpArgs false
namespace Go.Proofs.YtfmicbbflpkdgaaGreatDoor.D
open Go.RowKit
variable {P : Program} {G : List (List DV)} {φ φ' : Phi} {ρ ρ' : Rho} {S S' : DS} {w w' : World}
variable {n0 base : Nat} {al : List Nat} {o : Oper} {a : Act} {e : Env} {d : DV} {ps : Puts}
/-! ### a short slice that is built -/
theorem blit_size : ∀ (l : List Value) (k off : Nat) (A : Array Value), ((l.zipIdx k).foldl (fun B (c, j) => B.setIfInBounds (off + j) c) A).size = A.size
  | [], _, _, _ => rfl
  | v :: l, k, off, A => by simp only [List.zipIdx_cons, List.foldl_cons]; rw [blit_size l (k + 1) off]; simp
theorem blit_get : ∀ (l : List Value) (k off : Nat) (A : Array Value) (x : Nat), off + k + l.length ≤ A.size →
    ((l.zipIdx k).foldl (fun B (c, j) => B.setIfInBounds (off + j) c) A).getD x undef = if off + k ≤ x ∧ x < off + k + l.length then l.getD (x - (off + k)) undef else A.getD x undef
  | [], k, off, A, x, h => by simp; omega
  | v :: l, k, off, A, x, h => by
    simp only [List.length_cons] at h
    simp only [List.zipIdx_cons, List.foldl_cons]
    rw [blit_get l (k + 1) off _ x (by simp; omega)]
    by_cases h1 : off + (k + 1) ≤ x ∧ x < off + (k + 1) + l.length
    · rw [if_pos h1, if_pos (by simp; omega)]
      rw [show x - (off + k) = (x - (off + (k + 1))) + 1 by omega]
      simp
    · rw [if_neg h1]
      by_cases h2 : x = off + k
      · subst h2
        rw [if_pos (by simp)]
        simp [Array.getD_eq_getD_getElem?, show off + k < A.size by omega]
      · rw [if_neg (by simp; omega)]
        simp [Array.getD_eq_getD_getElem?, Ne.symm h2]
theorem fill_seq {k : Nat} : ∀ (vs : List Value) (i : Nat) (A : Array Value), (∀ v, v ∈ vs → v.cells.size = k) → (i + vs.length) * k ≤ A.size →
    ∃ B, Instr.fill (fun i => some (i * k, k)) A ((vs.zipIdx i).map fun p => (p.2, p.1)) = some B ∧ B.size = A.size ∧
      (∀ x, x < i * k → B.getD x undef = A.getD x undef) ∧ ∀ q j, q < vs.length → j < k → B.getD ((i + q) * k + j) undef = (vs.getD q undef).cells.getD j undef
  | [], i, A, _, _ => ⟨A, rfl, rfl, fun _ _ => rfl, by simp⟩
  | v :: vs, i, A, h, hsz => by
    have hv : v.cells.size = k := h v (by simp)
    have e1 : (i + (vs.length + 1)) * k = i * k + k + vs.length * k := by rw [Nat.add_mul, Nat.add_mul]; omega
    simp only [List.length_cons] at hsz
    rw [e1] at hsz
    have hb := foldl_zipIdx v.cells A (i * k)
    have hs1 : (v.cells.zipIdx.foldl (fun cs (c, j) => cs.setIfInBounds (i * k + j) c) A).size = A.size := by rw [hb, blit_size]
    obtain ⟨B, g1, g2, g3, g4⟩ := fill_seq vs (i + 1) (v.cells.zipIdx.foldl (fun cs (c, j) => cs.setIfInBounds (i * k + j) c) A) (fun u hu => h u (by simp [hu])) (by
      rw [hs1, show i + 1 + vs.length = i + (vs.length + 1) by omega, e1]; exact hsz)
    have hold : ∀ x, x < (i + 1) * k → B.getD x undef = if i * k ≤ x then v.cells.getD (x - i * k) undef else A.getD x undef := by
      intro x hx
      rw [g3 x hx, hb, blit_get _ 0 (i * k) A x (by simp [hv]; omega)]
      simp only [Nat.add_zero, Array.length_toList, hv, getD_toList]
      have : (i + 1) * k = i * k + k := by rw [Nat.add_mul]; omega
      by_cases hx2 : i * k ≤ x
      · rw [if_pos ⟨hx2, by omega⟩, if_pos hx2]
      · rw [if_neg (by omega), if_neg hx2]
    refine ⟨B, ?_, g2.trans hs1, ?_, ?_⟩
    · simp only [List.zipIdx_cons, List.map_cons, Instr.fill, hv, ne_eq, not_true_eq_false, decide_false, Bool.false_or, decide_eq_true_eq]
      rw [if_neg (by omega)]
      exact g1
    · intro x hx
      rw [hold x (by rw [Nat.add_mul]; omega), if_neg (by omega)]
    · intro q j hq hj
      cases q with
      | zero =>
        rw [Nat.add_zero, hold _ (by rw [Nat.add_mul]; omega), if_pos (by omega)]
        simp
      | succ q =>
        have := g4 q j (by simpa using hq) hj
        rw [show i + (q + 1) = i + 1 + q by omega, this]
        simp
def ixOk (G : List (List DV)) : Nat → List (Nat × Operand) → List Opd → Bool
  | _, [], [] => true
  | i, (j, x) :: l, y :: m => Nat.beq i j && opOk G x y && ixOk G (i + 1) l m
  | _, _, _ => false
theorem ixOk_spec (hs : SR G φ ρ S w) (he : ER φ ρ a.tmps e) : ∀ {l : List (Nat × Operand)} {m : List Opd} {i : Nat}, ixOk G i l m = true →
    ∃ vs : List Value, l.map (fun p => (p.1, a.eval p.2)) = (vs.zipIdx i).map (fun p => (p.2, p.1)) ∧ vs.length = (evc G e m).length ∧
      ∀ q, q < vs.length → RepL φ ρ (vs.getD q undef).cells ((evc G e m).getD q []) := by
  intro l
  induction l with
  | nil =>
    intro m i h
    cases m with
    | nil => exact ⟨[], rfl, rfl, by simp⟩
    | cons => simp [ixOk] at h
  | cons p l ih =>
    intro m i h
    obtain ⟨j, x⟩ := p
    cases m with
    | nil => simp [ixOk] at h
    | cons y m =>
      simp only [ixOk, Bool.and_eq_true, beqN, decide_eq_true_eq] at h
      obtain ⟨⟨rfl, hx⟩, h2⟩ := h
      obtain ⟨vs, h3, h4, h5⟩ := ih h2
      refine ⟨a.eval x :: vs, by simp [h3], by simp [evc, h4], ?_⟩
      intro q hq
      cases q with
      | zero => simpa [evc] using rep_cellsL (opOk_rep hs he hx)
      | succ q => simpa [evc] using h5 q (by simpa using hq)
theorem rowsK_spec {k : Nat} : ∀ {rows : List (List DV)}, rowsK k rows = true → ∀ r, r ∈ rows → r.length = k
  | [], _, r, hr => by simp at hr
  | x :: rows, h, r, hr => by
    simp only [rowsK, beqN, lenN_eq] at h
    split at h
    · rename_i hx
      rcases List.mem_cons.1 hr with rfl | hr
      · simpa using hx
      · exact rowsK_spec h r hr
    · cases h
def mIbs (P : Program) (G : List (List DV)) (k : Nat) (xs : List Opd) : Op → Bool
  | .buildSlice t n parts => Nat.beq n (lenN xs) && ixOk G 0 parts.toList xs && Nat.ble (n * k) 16777216 && (match P.underlying t with
      | some (.slice el) => (match P.info? el with | some ti => Nat.beq ti.size k && ti.zero.isSome | none => false)
      | _ => false)
  | _ => false
theorem evc_length : ∀ (xs : List Opd), (evc G e xs).length = xs.length
  | [] => rfl
  | x :: xs => by simp [evc, evc_length xs]
theorem sim_ibs {k : Nat} {xs : List Opd} (hs : SR G φ ρ S w) (he : ER φ ρ a.tmps e) (hm : mIbs P G k xs o.op = true) (hd : dop G base e S.h (.ibs k xs) = some (d, ps)) :
    OpSim P G n0 base al o a φ ρ S w d ps := by
  unfold mIbs at hm
  split at hm
  · rename_i t n parts hop
    simp only [Bool.and_eq_true, beqN, bleN, lenN_eq, decide_eq_true_eq] at hm
    obtain ⟨⟨⟨rfl, hix⟩, hbig⟩, ht⟩ := hm
    split at ht
    · rename_i el hel
      split at ht
      · rename_i ti hti
        simp only [Bool.and_eq_true, decide_eq_true_eq] at ht
        obtain ⟨rfl, hz⟩ := ht
        obtain ⟨z, hz⟩ := Option.isSome_iff_exists.1 hz
        simp only [dop] at hd
        split at hd
        · rename_i hrk
          cases hd
          have hrows := rowsK_spec hrk
          obtain ⟨vs, h1, h2, h3⟩ := ixOk_spec hs he hix
          have hvl : vs.length = xs.length := by rw [h2, evc_length]
          obtain ⟨A, hA⟩ : ∃ A : Array Value, A = (Array.range (xs.length * ti.size)).map (fun j => (if xs.length * ti.size = 0 then #[] else z.cells)[j % (if xs.length * ti.size = 0 then #[] else z.cells).size]!) := ⟨_, rfl⟩
          have hAs : A.size = xs.length * ti.size := by rw [hA]; simp
          have hcells : ∀ v, v ∈ vs → v.cells.size = ti.size := by
            intro v hv
            obtain ⟨q, hq, rfl⟩ := List.getElem_of_mem hv
            have := (h3 q hq).1
            rw [show vs.getD q undef = vs[q] by simp [List.getD_eq_getElem?_getD, hq]] at this
            rw [this]
            have hq' : q < (evc G e xs).length := by omega
            exact hrows _ (by simp [List.getD_eq_getElem?_getD, hq'])
          obtain ⟨B, g1, g2, _, g4⟩ := fill_seq (k := ti.size) vs 0 A hcells (by rw [hAs, hvl]; simp)
          have hrun : (Instr.buildSlice t xs.length (parts.map fun (i, x) => (i, a.eval x))).run P w = .ok (.slice (some ⟨w.heap.size, 0, none⟩) xs.length xs.length) (w.alloc (.cells B el)) := by
            have hso : (sizeOf el).run P w = .ok ti.size w := by simp [sizeOf, typeInfo, hti]
            have hb : ¬ (xs.length * ti.size > 2 ^ 24) := by omega
            simp only [Instr.buildSlice, Sem.run_bind, run_underlying hel, hso, Result.andThen_ok]
            rw [if_neg hb]
            have hf : Instr.fill (fun i => some (i * ti.size, ti.size)) A (parts.map fun (i, x) => (i, a.eval x)).toList = some B := by
              rw [← g1, ← h1]; congr 1; simp
            by_cases h0 : xs.length * ti.size = 0
            · rw [if_pos h0] at hA ⊢
              simp only [Sem.run_bind, Sem.run_pure, Result.andThen_ok]
              rw [← hA, hf]
              simp [newRow]
            · rw [if_neg h0] at hA ⊢
              simp only [Sem.run_bind, Sem.run_pure, Result.andThen_ok, run_zero hti hz]
              rw [← hA, hf]
              simp [newRow]
          refine OpSim.imm (v := .slice (some ⟨w.heap.size, 0, none⟩) xs.length xs.length) hs B el (by simp [execOp, hop, hrun]) ?_
          have hle := (hs.allocPart B el B.size 0).2.phi
          refine .isl (some ⟨w.heap.size, 0, none⟩) xs.length xs.length ti.size (some false) _ .ex (fun i j => B.getD (i * ti.size + j) undef) (evc_length xs) (Nat.le_refl _) hrows (by simp) (by simp) ?_ ?_ rfl
          · intro ad had i j hi hj
            cases had
            have hlt : i * ti.size + j < B.size := by
              rw [g2, hAs]
              calc i * ti.size + j < i * ti.size + ti.size := by omega
                _ = (i + 1) * ti.size := by rw [Nat.add_mul]; omega
                _ ≤ xs.length * ti.size := Nat.mul_le_mul_right _ (by omega)
            rw [add_new, Nat.zero_add, phiAdd_new hlt]
            simp [Array.getD_eq_getD_getElem?, hlt]
          · intro i j hi hj
            have g := g4 i j (by omega) hj
            rw [Nat.zero_add] at g
            rw [g]
            have := (h3 i (by omega)).2 j (by
              have hi' : i < (evc G e xs).length := by rw [evc_length]; exact hi
              rw [hrows _ (by rw [List.getD_eq_getElem?_getD, List.getElem?_eq_getElem hi']; exact List.getElem_mem hi')]; exact hj)
            exact this.mono hle (RhoLe.refl _)
        · cases hd
      · cases ht
    · cases ht
  · cases hm
end Go.Proofs.YtfmicbbflpkdgaaGreatDoor.D
/-
  The D machine, part k: stores, memory that is made.
-/
namespace Go.Proofs.YtfmicbbflpkdgaaGreatDoor.D
open Go.RowKit
variable {P : Program} {G : List (List DV)} {φ φ' : Phi} {ρ ρ' : Rho} {S S' : DS} {w w' : World}
variable {n0 base : Nat} {al : List Nat} {o : Oper} {a : Act} {e : Env} {d : DV} {ps : Puts}
/-! ### Rows that are written -/
theorem putN_get : ∀ (cs r : List DV) (o j : Nat), o + cs.length ≤ r.length → (putN r o cs).getD j .nilp = if o ≤ j ∧ j < o + cs.length then cs.getD (j - o) .nilp else r.getD j .nilp
  | [], r, o, j, _ => by rw [if_neg (by simp)]; rfl
  | c :: cs, r, o, j, h => by
    simp only [List.length_cons] at h
    simp only [putN, setN_eq]
    rw [putN_get cs (r.set o c) (o + 1) j (by simp; omega)]
    by_cases h1 : j = o
    · subst h1
      rw [if_neg (by omega), if_pos (by simp)]
      simp [List.getD_eq_getElem?_getD, show j < r.length by omega]
    · by_cases h2 : o + 1 ≤ j ∧ j < o + 1 + cs.length
      · rw [if_pos h2, if_pos (by simp; omega)]
        rw [show j - o = (j - (o + 1)) + 1 by omega]
        simp
      · rw [if_neg h2, if_neg (by simp; omega)]
        simp [List.getD_eq_getElem?_getD, Ne.symm h1]
theorem seg_get (cur : Array Value) (W : Nat) (vs : List Value) (x : Nat) (h : W + vs.length ≤ cur.size) :
    ((cur.toList.take W ++ vs ++ cur.toList.drop (W + vs.length)).toArray).getD x undef = if W ≤ x ∧ x < W + vs.length then vs.getD (x - W) undef else cur.getD x undef := by
  have hl : (cur.toList.take W).length = W := by simp; omega
  simp only [Array.getD_eq_getD_getElem?, List.getD_eq_getElem?_getD, List.getElem?_toArray, List.append_assoc]
  split
  · rename_i hx
    rw [List.getElem?_append_right (by omega), hl, List.getElem?_append_left (by omega)]
  · rename_i hx
    by_cases h1 : x < W
    · rw [List.getElem?_append_left (by omega)]
      simp [h1]
    · rw [List.getElem?_append_right (by omega), hl, List.getElem?_append_right (by omega), List.getElem?_drop]
      rw [show W + vs.length + (x - W - vs.length) = x by omega]
      simp
theorem seg_size (cur : Array Value) (W : Nat) (vs : List Value) (h : W + vs.length ≤ cur.size) : ((cur.toList.take W ++ vs ++ cur.toList.drop (W + vs.length)).toArray).size = cur.size := by
  simp; omega
theorem allSc_one {A : Array Value} {cs : List DV} (h : RepL φ ρ A cs) (hc : allSc cs = true) : ∀ v, v ∈ A.toList → v.oneCell' = true := by
  have hd : ∀ (cs : List DV), allSc cs = true → ∀ i, i < cs.length → scB (cs.getD i .nilp) = true := by
    intro cs
    induction cs with
    | nil => intro _ i hi; simp at hi
    | cons c cs ih =>
      intro hc i hi
      have h2 : allSc cs = true := by cases c <;> simp_all [allSc]
      cases i with
      | zero => cases c <;> simp_all [allSc, scB]
      | succ i => simpa using ih h2 i (by simpa using hi)
  intro v hv
  obtain ⟨i, hi, rfl⟩ := List.getElem_of_mem hv
  have hi' : i < A.size := by simpa using hi
  have hr := h.2 i (by rw [← h.1]; exact hi')
  have hs := hd cs hc i (by rw [← h.1]; exact hi')
  rw [show A.getD i undef = A.toList[i] by simp [Array.getD_eq_getD_getElem?, hi']] at hr
  generalize A.toList[i] = v at hr
  generalize cs.getD i .nilp = dd at hr hs
  cases hr <;> first | rfl | (simp [scB] at hs)
theorem row_mul {i k j i' o n : Nat} (hj : j < k) (hon : o + n ≤ k) (h1 : i' * k + o ≤ i * k + j) (h2 : i * k + j < i' * k + o + n) : i = i' := by
  rcases Nat.lt_trichotomy i i' with h | h | h
  · have : (i + 1) * k ≤ i' * k := Nat.mul_le_mul_right k h
    rw [Nat.add_mul] at this
    omega
  · exact h
  · have : (i' + 1) * k ≤ i * k := Nat.mul_le_mul_right k h
    rw [Nat.add_mul] at this
    omega
theorem row_end {i k n N : Nat} (hi : i < N) (hn : n ≤ k) : i * k + n ≤ N * k := by
  have : (i + 1) * k ≤ N * k := Nat.mul_le_mul_right k hi
  rw [Nat.add_mul] at this
  omega
/-- The memory that a store leaves behind. -/
theorem store_rows {arr : Array Value} {k cap : Nat} {rows : List (List DV)} {r cs : List DV} {i o : Nat} {V : Array Value} (hk : ∀ r, r ∈ rows → r.length = k) (hcap : rows.length ≤ cap) (hsz : arr.size = cap * k)
    (hr : ∀ i j, i < rows.length → j < k → Rep φ ρ (arr.getD (i * k + j) undef) ((rows.getD i []).getD j .nilp)) (hi : rows[i]? = some r) (ho : o + cs.length ≤ r.length) (hV : RepL φ ρ V cs) :
    (∀ r', r' ∈ rows.set i (putN r o cs) → r'.length = k) ∧ i * k + o + V.toList.length ≤ arr.size ∧
    ∀ i' j, i' < (rows.set i (putN r o cs)).length → j < k →
      Rep φ ρ (((arr.toList.take (i * k + o) ++ V.toList ++ arr.toList.drop (i * k + o + V.toList.length)).toArray).getD (i' * k + j) undef) (((rows.set i (putN r o cs)).getD i' []).getD j .nilp) := by
  obtain ⟨hil, hri⟩ := List.getElem?_eq_some_iff.1 hi
  have hrl : r.length = k := hk r (by rw [← hri]; exact List.getElem_mem hil)
  have hvl : V.toList.length = cs.length := by simpa using hV.1
  have hfit : i * k + o + V.toList.length ≤ arr.size := by
    rw [hvl, hsz, Nat.add_assoc]
    exact row_end (by omega) (by omega)
  refine ⟨?_, hfit, ?_⟩
  · intro r' hr'
    rcases List.mem_or_eq_of_mem_set hr' with h | h
    · exact hk r' h
    · rw [h, putN_length, hrl]
  · intro i' j hi' hj
    rw [List.length_set] at hi'
    rw [seg_get arr (i * k + o) V.toList (i' * k + j) hfit, hvl]
    by_cases hin : i * k + o ≤ i' * k + j ∧ i' * k + j < i * k + o + cs.length
    · have : i' = i := row_mul hj (by omega) hin.1 hin.2
      subst this
      rw [if_pos hin, show ((rows.set i' (putN r o cs)).getD i' []) = putN r o cs by simp [List.getD_eq_getElem?_getD, hil], putN_get cs r o j ho, if_pos (by omega)]
      rw [show i' * k + j - (i' * k + o) = j - o by omega, getD_toList]
      exact hV.2 _ (by omega)
    · rw [if_neg hin]
      by_cases hii : i' = i
      · subst hii
        rw [show ((rows.set i' (putN r o cs)).getD i' []) = putN r o cs by simp [List.getD_eq_getElem?_getD, hil], putN_get cs r o j ho, if_neg (by omega)]
        have := hr i' j hi' hj
        rwa [show rows.getD i' [] = r by simp [List.getD_eq_getElem?_getD, hi]] at this
      · have := hr i' j hi' hj
        rwa [show ((rows.set i (putN r o cs)).getD i' []) = rows.getD i' [] by simp [List.getD_eq_getElem?_getD, Ne.symm hii]]
/-- Memory of the state's, its cells written. -/
theorem SR.setRow (hs : SR G φ ρ S w) {b k k0 : Nat} {rows0 rows : List (List DV)} {p : PB} {arr arr' : Array Value} {el : TypeId} (hb : S.h b = some (.cells k0 rows0)) (hp : ρ b = some p) (harr : w.heap[p.blk]? = some (.cells arr el (0, 0)))
    (hpk : p.k = k) (hoff : p.off = 0) (hcap : rows.length ≤ p.cap) (hk : ∀ r, r ∈ rows → r.length = k) (hphi : ∀ a v, φ a = some v → a.block ≠ p.blk) (hsz : arr'.size = p.cap * k)
    (hr : ∀ i j, i < rows.length → j < k → Rep φ ρ (arr'.getD (i * k + j) undef) ((rows.getD i []).getD j .nilp)) :
    SR G φ ρ (S.put b (some (.cells k rows))) (w.setRow p.blk arr') ∧ Trans n0 φ ρ S w φ ρ (S.put b (some (.cells k rows))) (w.setRow p.blk arr') := by
  have hsize : (w.setRow p.blk arr').heap.size = w.heap.size := size_setRow w p.blk arr'
  have hoth : ∀ c, c ≠ p.blk → (w.setRow p.blk arr').heap[c]? = w.heap[c]? := fun c hc => setRow_other w p.blk c arr' hc
  refine ⟨hs.write b _ p hb hp hsize hoth (fun ad v ha => by rw [cell_same (hoth _ (hphi ad v ha))]; exact hs.phi ad v ha) _ ?_, Trans.write n0 b _ p hb hp hsize rfl rfl rfl (Nat.le_refl _) hoth _⟩
  exact ⟨hpk, hoff, hcap, hk, hphi, arr', el, setRow_heap w p.blk arr arr' el (0, 0) harr, hsz, hr⟩
def mSt (P : Program) (G : List (List DV)) (n : Nat) (x v : Opd) : Op → Bool
  | .store t x' v' => elOk P t n && opOk G x' x && opOk G v' v
  | _ => false
theorem run_storeAt {t : TypeId} {n W : Nat} (hel : elOk P t n = true) {blk : Nat} {arr : Array Value} {el : TypeId} {v : Value} (harr : w.heap[blk]? = some (.cells arr el (0, 0))) (hn : v.cells.size = n) (hfit : W + v.cells.toList.length ≤ arr.size)
    (h1 : ∀ u, u ∈ v.cells.toList → u.oneCell' = true) :
    (Instr.storeAt t (.pointer (some ⟨blk, W, none⟩)) v).run P w = .ok () (w.setRow blk (arr.toList.take W ++ v.cells.toList ++ arr.toList.drop (W + v.cells.toList.length)).toArray) := by
  have hst := run_storeCells_at P blk W el v.cells.toList 0 arr w harr (by simpa using hfit) h1
  simp only [Nat.add_zero] at hst
  simp only [Instr.storeAt, Instr.sureAddr, storeVar, Sem.run_bind, Sem.run_pure, Result.andThen_ok, (elOk_run hel).2 w, hn]
  simpa using hst
theorem sim_st {n : Nat} {x v : Opd} (hs : SR G φ ρ S w) (he : ER φ ρ a.tmps e) (hm : mSt P G n x v o.op = true) (hd : dop G base e S.h (.st n x v) = some (d, ps)) :
    OpSim P G n0 base al o a φ ρ S w d ps := by
  unfold mSt at hm
  split at hm
  · rename_i t x' v' hop
    simp only [Bool.and_eq_true] at hm
    obtain ⟨⟨hel, hx⟩, hv⟩ := hm
    have rx := opOk_rep hs he hx
    have rv := rep_cellsL (opOk_rep hs he hv)
    simp only [dop] at hd
    split at hd
    · rename_i b i o' hxe
      rw [hxe] at rx
      split at hd
      · rename_i k rows hb
        split at hd
        · rename_i r hr
          simp only [beqN, bleN, lenN_eq] at hd
          split at hd
          · rename_i e1 e2 e3
            cases hd
            rw [decide_eq_true_eq] at e1 e2
            generalize hxv : a.eval x' = xv at rx
            cases rx with
            | ptr b i o' p hp =>
              obtain ⟨q, g1, g2⟩ := hs.heap b _ hb
              rw [hp] at g1
              cases g1
              obtain ⟨rfl, hoff, hcap, hlen, hphi, arr, el, harr, hsz, hrep⟩ := g2
              rw [nth_eq] at hr
              obtain ⟨f1, f2, f3⟩ := store_rows hlen hcap hsz hrep hr (by rw [e1]; exact e2) rv
              have hrun := run_storeAt (P := P) hel harr (by rw [rv.1, e1]) f2 (allSc_one rv e3)
              rw [setN_eq]
              obtain ⟨s1, s2⟩ := hs.setRow (n0 := n0) hb hp harr rfl hoff (by simpa using hcap) f1 hphi (by rw [seg_size _ _ _ f2]; exact hsz) f3
              refine ⟨undef, _, φ, ρ, .inr ⟨?_, rfl⟩, ?_, s1, s2, fun _ _ _ => rfl⟩
              · simp only [execOp, hop, hxv, Sem.run_bind, hrun, Result.andThen_ok, Sem.run_pure]
              · exact .tup #[] [] rfl (by simp)
          · cases hd
        · cases hd
      · cases hd
    · cases hd
  · cases hm
/-! ### Maps and slices that are made -/
def mMkm : Op → Bool
  | .makeMap _ none => true
  | _ => false
theorem sim_mkm {j : Nat} (hs : SR G φ ρ S w) (hm : mMkm o.op = true) (hn0 : n0 ≤ base) (hfresh : ρ (base + j) = none) (hlt : base + j < S.nx) :
    OpSim P G n0 base [j] o a φ ρ S w (.map (base + j)) [(base + j, some (.map []))] := by
  unfold mMkm at hm
  split at hm
  · rename_i t hop
    refine OpSim.alloc (v := .map (some w.heap.size)) hs hn0 hfresh hlt (.map #[] 0) 0 0 _ (by simp [execOp, hop, run_makeMap_plain]) ?_ (.map _ _ rhoAdd_same)
    exact ⟨#[], heap_alloc_new w _, rfl, by simp⟩
  · cases hm
def mMks (P : Program) (G : List (List DV)) (k : Nat) (z : List DV) (l c : Opd) : Op → Bool
  | .makeSlice t l' c' => opOk G l' l && opOk G c' c && (match P.underlying t with | some (.slice el) => zOk P el z && elOk P el k && (match P.info? el with | some i => Nat.ble i.bytes 1048576 | none => false) | _ => false)
  | _ => false
theorem made_get {V : Array Value} {z : List DV} (h : RepL φ ρ V z) {i j c : Nat} (hi : i < c) (hj : j < z.length) : Rep φ ρ ((madeCells V (c * z.length)).getD (i * z.length + j) undef) (z.getD j .nilp) := by
  have hlt : i * z.length + j < c * z.length := by
    have := row_end (k := z.length) (n := j + 1) hi (by omega)
    omega
  have e1 : (i * z.length + j) % V.size = j := by
    rw [h.1, Nat.mul_comm, Nat.mul_add_mod]
    exact Nat.mod_eq_of_lt hj
  have hj' : j < V.size := by rw [h.1]; exact hj
  have := h.2 j hj
  simp only [madeCells, Array.getD_eq_getD_getElem?, Array.getElem?_map, Array.getElem?_range, hlt, if_true, Option.map_some, Option.getD_some, e1]
  simpa [Array.getD_eq_getD_getElem?, hj'] using this
theorem sim_mks {j k : Nat} {z : List DV} {l c : Opd} (hs : SR G φ ρ S w) (he : ER φ ρ a.tmps e) (hm : mMks P G k z l c o.op = true) (hn0 : n0 ≤ base) (hfresh : ρ (base + j) = none) (hlt : base + j < S.nx)
    (hd : dop G base e S.h (.mks j k z l c) = some (d, ps)) : OpSim P G n0 base [j] o a φ ρ S w d ps := by
  unfold mMks at hm
  split at hm
  · rename_i t l' c' hop
    simp only [Bool.and_eq_true] at hm
    obtain ⟨⟨hl, hc⟩, ht⟩ := hm
    split at ht
    · rename_i el htel
      simp only [Bool.and_eq_true] at ht
      obtain ⟨⟨hz, hel⟩, hby⟩ := ht
      obtain ⟨ti, zv, hi, hzv, hsz, h1, h2⟩ := zOk_spec hz
      rw [hi] at hby
      simp only [bleN, decide_eq_true_eq] at hby
      obtain ⟨⟨ti', hi', hk⟩, _⟩ := elOk_run hel
      rw [hi] at hi'
      cases hi'
      have rl := opOk_rep hs he hl
      have rc := opOk_rep hs he hc
      simp only [dop] at hd
      split at hd
      · rename_i ln cn hln hcn
        simp only [bleN, beqN, lenN_eq] at hd
        split at hd
        · rename_i q1 q2
          rw [decide_eq_true_eq] at q1 q2
          split at hd
          · rename_i q3
            rw [decide_eq_true_eq] at q3
            cases hd
            obtain ⟨kl, el1⟩ := rep_nat rl hln
            obtain ⟨kc, ec1⟩ := rep_nat rc hcn
            have hmul : ti.bytes * cn ≤ 1099511627776 := Nat.mul_le_mul hby q2
            have hrun := run_make (P := P) w t el ti zv htel hi hzv kl kc (ln : Int) (cn : Int) (by omega) (by omega) (by rw [← Int.natCast_mul]; omega) (by omega)
            simp only [Int.toNat_natCast, hsz] at hrun
            have hV : RepL φ ρ zv.cells z := ⟨h1, fun j hj => h2 φ ρ j hj⟩
            refine OpSim.alloc (v := .slice (some ⟨w.heap.size, 0, none⟩) ln cn) hs hn0 hfresh hlt (.cells (madeCells zv.cells (cn * z.length)) el) k cn _ (by simp only [execOp, hop, el1, ec1, Sem.run_bind, hrun, Result.andThen_ok, Sem.run_pure]) ?_ ?_
            · rw [rep_eq]
              refine or_cells_new hs el hfresh (fun r hr => by rw [(List.mem_replicate.1 hr).2, q3]) (by simp) (by rw [size_madeCells, q3]) ?_
              intro i j hi hj
              rw [List.length_replicate] at hi
              rw [show (List.replicate cn z).getD i [] = z by simp [List.getD_eq_getElem?_getD, hi], ← q3]
              exact made_get hV hi (by omega)
            · have := Rep.sl (φ := φ) (ρ := rhoAdd ρ (base + j) ⟨w.heap.size, k, cn, 0⟩) ⟨w.heap.size, 0, none⟩ (base + j) 0 ln cn (some cn) ⟨w.heap.size, k, cn, 0⟩ rhoAdd_same q1 (by simp) (by simp) (by simp)
              exact this
          · cases hd
        · cases hd
      · cases hd
    · cases ht
  · cases hm
end Go.Proofs.YtfmicbbflpkdgaaGreatDoor.D
/-
  The D machine, part l: maps.
-/
namespace Go.Proofs.YtfmicbbflpkdgaaGreatDoor.D
open Go.RowKit
variable {P : Program} {G : List (List DV)} {φ φ' : Phi} {ρ ρ' : Rho} {S S' : DS} {w w' : World}
variable {n0 base : Nat} {al : List Nat} {o : Oper} {a : Act} {e : Env} {d : DV} {ps : Puts}
/-! ### keys -/
def keyKd (P : Program) (t : TypeId) (kd : Nat) : Bool := kdOk P t kd && (Nat.beq kd 4 || (Nat.beq kd 5 || Nat.ble 10 kd))
theorem str_beq (x y : ByteArray) : (x == y) = seq (bytesN x) (bytesN y) := by
  rw [← str_eq, bytes_toList, bytes_toList]
  show (x.data == y.data) = _
  rw [Bool.eq_iff_iff, beq_iff_eq, beq_iff_eq]
  exact ⟨fun h => by rw [h], fun h => Array.ext' h⟩
theorem str_inj {x y : ByteArray} (h : bytesN x = bytesN y) : x = y := by
  cases x; cases y
  congr 1
  exact Array.ext' (map_toNat_inj h)
theorem kEq_agg {k : Nat} {x y : DV} {b : Bool} (h : kEq (10 + k) x y = some b) : ∃ a c, x = .agg a ∧ y = .agg c ∧ a.length = k ∧ c.length = k ∧ cellsEq a c = some b := by
  unfold kEq at h
  split at h <;> try omega
  split at h
  · rename_i xs ys
    split at h
    · rename_i h1 h2
      simp only [beqN, decide_eq_true_eq, lenN_eq] at h1 h2
      have h1' : xs.length = k := by have : 10 + xs.length = 10 + k := h1; omega
      have h2' : ys.length = k := by have : 10 + ys.length = 10 + k := h2; omega
      exact ⟨xs, ys, rfl, rfl, h1', h2', h⟩
    · cases h
  · cases h
theorem kEq_int {x y : DV} {b : Bool} (h : kEq 4 x y = some b) : ∃ k m n, x = .int k m ∧ y = .int k n ∧ b = (m == n) := by
  simp only [kEq] at h
  exact scalarEq_spec h
theorem kEq_str {x y : DV} {b : Bool} (h : kEq 5 x y = some b) : ∃ m n, x = .str m ∧ y = .str n ∧ b = seq m n := by
  simp only [kEq] at h
  split at h
  · cases h; exact ⟨_, _, rfl, rfl, rfl⟩
  · cases h
inductive KeyShape (P : Program) (t : TypeId) : Nat → DV → Prop
  | int (k : IntKind) (k' : IntKind) (n : Int) (h : P.underlying t = some (.int k)) : KeyShape P t 4 (.int k' n)
  | str (l : List Nat) (h : P.underlying t = some .string) : KeyShape P t 5 (.str l)
  | agg (fs : Array Field) (cs : List DV) (h : P.underlying t = some (.struct fs)) (hf : flatF P 0 fs.toList = true) (hl : cs.length = fs.size) : KeyShape P t (10 + fs.size) (.agg cs)
theorem keyShape {t : TypeId} {kd : Nat} {x : DV} (hk : keyKd P t kd = true) (hx : kEq kd x x = some true) : KeyShape P t kd x := by
  simp only [keyKd, kdOk, Bool.and_eq_true, Bool.or_eq_true, beqN, bleN, decide_eq_true_eq] at hk
  obtain ⟨hk, h3⟩ := hk
  split at hk
  · rename_i dd hdd
    simp only [Bool.and_eq_true, decide_eq_true_eq] at hk
    obtain ⟨rfl, hk⟩ := hk
    cases dd <;> simp only [kindOf] at hx h3 hk ⊢ <;> try (omega)
    case int k =>
      obtain ⟨k', m, n, rfl, _⟩ := kEq_int hx
      exact .int _ _ _ hdd
    case string =>
      obtain ⟨m, n, rfl, _⟩ := kEq_str hx
      exact .str _ hdd
    case struct fs =>
      simp only [Bool.and_eq_true] at hk
      obtain ⟨a, c, rfl, _, h1, _⟩ := kEq_agg hx
      exact .agg fs a hdd hk.1.1 h1
  · cases hk
theorem run_forIn_unit {α : Type} (f : α → PUnit → Sem (ForInStep PUnit)) : ∀ (l : List α) (w : World), (∀ x, x ∈ l → (f x ⟨⟩).run P w = .ok (.yield ⟨⟩) w) → (forIn l PUnit.unit f).run P w = .ok ⟨⟩ w
  | [], w, _ => by simp
  | x :: l, w, h => by
    have h1 := h x (by simp)
    have h2 := run_forIn_unit f l w (fun y hy => h y (by simp [hy]))
    simp only [List.forIn_cons, Sem.run_bind, h1, Result.andThen_ok, h2]
theorem flatF_mem : ∀ (fs : List Field) (i : Nat), flatF P i fs = true → ∀ f, f ∈ fs → f.offset < i + fs.length ∧ ∃ k, P.underlying f.type = some (.int k)
  | [], _, _, f, hf => by simp at hf
  | g :: fs, i, h, f, hf => by
    simp only [flatF, Bool.and_eq_true, beqN, decide_eq_true_eq] at h
    obtain ⟨⟨⟨_, h1⟩, h2⟩, h3⟩ := h
    rcases List.mem_cons.1 hf with rfl | hf
    · refine ⟨by simp; omega, ?_⟩
      split at h2
      · exact ⟨_, by assumption⟩
      · cases h2
    · have := flatF_mem fs (i + 1) h3 f hf
      exact ⟨by simp; omega, this.2⟩
theorem run_checkKey {t : TypeId} {kd : Nat} {x : DV} (hk : KeyShape P t kd x) {u : Value} (hu : Rep φ ρ u x) (b : Bool) (w : World) : (Instr.checkKey b 10000 t u).run P w = .ok () w := by
  have key : ∀ n, (Instr.checkKey b (n + 2) t u).run P w = .ok () w := by
    intro n
    cases hk with
    | int k k' n h => rw [rep_intv hu]; simp [Instr.checkKey, run_underlying h]
    | str l h =>
      obtain ⟨s, rfl, _⟩ := rep_str hu
      simp [Instr.checkKey, run_underlying h]
    | agg fs cs h hf hl =>
      cases hu with
      | agg A cs hA hr =>
        rw [Instr.checkKey]
        simp only [Sem.run_bind, run_underlying h, Result.andThen_ok]
        rw [← Array.forIn_toList]
        rw [run_forIn_unit (P := P) _ fs.toList w ?_]
        · rfl
        intro f hfm
        obtain ⟨h1, k, h2⟩ := flatF_mem fs.toList 0 hf f hfm
        have h1 : f.offset < A.size := by simp at h1; omega
        have h3 : (isAgg f.type).run P w = .ok false w := by simp [isAgg, run_underlying h2]
        have h4 : ∀ v, (Instr.checkKey b (n + 1) f.type v).run P w = .ok () w := fun v => by
          simp [Instr.checkKey, run_underlying h2]
        split
        · simp [part, h3, h1, h4]
        · simp
  exact key 9998
theorem scalar_same {x y : DV} (h : scalarEq x y = some true) {u v : Value} (hu : Rep φ ρ u x) (hv : Rep φ ρ v y) : u = v ∧ ∃ k m, u = .int k m := by
  obtain ⟨k, m, n, rfl, rfl, h1⟩ := scalarEq_spec h
  have : m = n := by simpa using h1.symm
  subst this
  rw [rep_intv hu, rep_intv hv]
  exact ⟨rfl, k, m, rfl⟩
theorem cells_same : ∀ (la lb : List Value) (cs ds : List DV), la.length = cs.length → lb.length = ds.length → (∀ i, i < cs.length → Rep φ ρ (la.getD i undef) (cs.getD i .nilp)) →
    (∀ i, i < ds.length → Rep φ ρ (lb.getD i undef) (ds.getD i .nilp)) → cellsEq cs ds = some true → la = lb ∧ ∀ v, v ∈ la → ∃ k m, v = .int k m
  | [], [], cs, ds, _, _, _, _, _ => ⟨rfl, by simp⟩
  | [], v :: lb, cs, ds, h1, h2, _, _, h => by
    cases cs <;> cases ds <;> simp_all [cellsEq]
  | u :: la, [], cs, ds, h1, h2, _, _, h => by
    cases cs <;> cases ds <;> simp_all [cellsEq]
  | u :: la, v :: lb, c :: cs, d :: ds, h1, h2, hu, hv, h => by
    simp only [cellsEq] at h
    split at h
    · rename_i hc
      obtain ⟨h3, k, m, h4⟩ := scalar_same hc (by simpa using hu 0 (by simp)) (by simpa using hv 0 (by simp))
      obtain ⟨h5, h6⟩ := cells_same la lb cs ds (by simpa using h1) (by simpa using h2) (fun i hi => by simpa using hu (i + 1) (by simpa using hi)) (fun i hi => by simpa using hv (i + 1) (by simpa using hi)) h
      refine ⟨by rw [h3, h5], ?_⟩
      intro x hx
      rcases List.mem_cons.1 hx with rfl | hx
      · exact ⟨k, m, h4⟩
      · exact h6 x hx
    · split at h <;> cases h
    · cases h
theorem key_same {t : TypeId} {kd : Nat} {x y : DV} (hk : KeyShape P t kd x) {u v : Value} (hu : Rep φ ρ u x) (hv : Rep φ ρ v y) (h : kEq kd x y = some true) : v = u ∧ Instr.sameBits 10000 u u = true := by
  cases hk with
  | int k k' n hty =>
    obtain ⟨k1, m, n', h1, rfl, h2⟩ := kEq_int h
    cases h1
    have : n = n' := by simpa using h2.symm
    subst this
    rw [rep_intv hu, rep_intv hv]
    exact ⟨rfl, by simp [Instr.sameBits]⟩
  | str l hty =>
    obtain ⟨m, n, h1, rfl, h2⟩ := kEq_str h
    cases h1
    obtain ⟨s1, rfl, rfl⟩ := rep_str hu
    obtain ⟨s2, rfl, rfl⟩ := rep_str hv
    have h3 : (s1 == s1) = true := by rw [str_beq, seq_eq]; simp
    rw [seq_eq] at h2
    have : s1 = s2 := str_inj (by simpa using h2.symm)
    subst this
    exact ⟨rfl, by simp [Instr.sameBits, h3]⟩
  | agg fs cs hty hf hl =>
    obtain ⟨a, c, h1, rfl, _, _, h2⟩ := kEq_agg h
    cases h1
    cases hu with
    | agg A cs hA hr =>
      cases hv with
      | agg B c hB hr2 =>
        obtain ⟨h1, h2⟩ := cells_same A.toList B.toList cs c (by simpa using hA) (by simpa using hB) (fun i hi => by rw [getD_toList]; exact hr i hi) (fun i hi => by rw [getD_toList]; exact hr2 i hi) h2
        have h1 : A = B := Array.ext' h1
        subst h1
        refine ⟨rfl, ?_⟩
        have key : ∀ n, Instr.sameBits (n + 1) (.agg A) (.agg A) = true := by
          intro n
          simp only [Instr.sameBits, BEq.rfl, Bool.true_and, List.all_eq_true]
          intro p hp
          obtain ⟨q, hq, rfl⟩ := List.getElem_of_mem hp
          simp only [List.getElem_zip]
          obtain ⟨k, m, h3⟩ := h2 (A.toList[q]'(by simpa using hq)) (List.getElem_mem _)
          rw [h3]
          simp [Instr.sameBits]
        exact key 9999
/-- Entries of the model and of the D machine. -/
def EntR (φ : Phi) (ρ : Rho) (L : List MapEntry) (es : List (DV × DV)) : Prop := L.length = es.length ∧ ∀ i, i < es.length →
  Rep φ ρ (L.getD i default).key (es.getD i (.nilp, .nilp)).1 ∧ Rep φ ρ (L.getD i default).val (es.getD i (.nilp, .nilp)).2
def FindR (L : List MapEntry) (es : List (DV × DV)) (kd : Nat) (x : DV) (i0 : Nat) (r : Option Nat) (out : Option (Nat × Value)) : Prop :=
  (r = none ∧ out = none) ∨ ∃ q, q < es.length ∧ r = some (i0 + q) ∧ out = some (i0 + q, (L.getD q default).val) ∧ kEq kd x (es.getD q (.nilp, .nilp)).1 = some true
theorem FindR.step {L : List MapEntry} {es : List (DV × DV)} {kd i0 : Nat} {x : DV} {r : Option Nat} {out : Option (Nat × Value)} {m : MapEntry} {y : DV × DV} (h : FindR L es kd x (i0 + 1) r out) : FindR (m :: L) (y :: es) kd x i0 r out := by
  rcases h with ⟨rfl, rfl⟩ | ⟨q, h1, rfl, rfl, h4⟩
  · exact .inl ⟨rfl, rfl⟩
  · exact .inr ⟨q + 1, by simpa using h1, by simp; omega, by simp; omega, by simpa using h4⟩
theorem EntR.tail {L : List MapEntry} {es : List (DV × DV)} {m : MapEntry} {y : DV × DV} (h : EntR φ ρ (m :: L) (y :: es)) : EntR φ ρ L es :=
  ⟨by simpa using h.1, fun i hi => by simpa using h.2 (i + 1) (by simpa using hi)⟩
theorem find_asking {t : TypeId} {kd : Nat} {x : DV} (hty : kdOk P t kd = true) {u : Value} (hu : Rep φ ρ u x) (w : World) : ∀ (L : List MapEntry) (es : List (DV × DV)) (i0 : Nat) (r : Option Nat), EntR φ ρ L es → findK kd x es i0 = some r →
    ∃ out, (Instr.findAsking t u L i0).run P w = .ok out w ∧ FindR L es kd x i0 r out
  | [], [], i0, r, _, h => by simp only [findK, Option.some.injEq] at h; exact ⟨none, by simp [Instr.findAsking], .inl ⟨h.symm, rfl⟩⟩
  | [], _ :: _, _, _, h1, _ => by have := h1.1; simp at this
  | _ :: _, [], _, _, h1, _ => by have := h1.1; simp at this
  | m :: L, y :: es, i0, r, h1, h => by
    obtain ⟨yk, yv⟩ := y
    simp only [findK] at h
    have hr := (h1.2 0 (by simp)).1
    simp only [List.getD_cons_zero] at hr
    split at h
    · rename_i hk
      cases h
      refine ⟨some (i0, m.val), ?_, .inr ⟨0, by simp, by simp, by simp, by simpa using hk⟩⟩
      simp [Instr.findAsking, run_kEq hty hu hr hk]
    · rename_i hk
      obtain ⟨out, h2, h3⟩ := find_asking hty hu w L es (i0 + 1) r h1.tail h
      refine ⟨out, ?_, h3.step⟩
      simp [Instr.findAsking, run_kEq hty hu hr hk, h2]
    · cases h
theorem find_now {t : TypeId} {kd : Nat} {x : DV} {dd : TypeDesc} (hdd : P.underlying t = some dd) (hk : KeyShape P t kd x) (hkd : kd < 10) {u : Value} (hu : Rep φ ρ u x) : ∀ (L : List MapEntry) (es : List (DV × DV)) (i0 : Nat) (r : Option Nat), EntR φ ρ L es → findK kd x es i0 = some r →
    ∃ out, Instr.findNow dd u L i0 = some out ∧ FindR L es kd x i0 r out
  | [], [], i0, r, _, h => by simp only [findK, Option.some.injEq] at h; exact ⟨none, by simp [Instr.findNow], .inl ⟨h.symm, rfl⟩⟩
  | [], _ :: _, _, _, h1, _ => by have := h1.1; simp at this
  | _ :: _, [], _, _, h1, _ => by have := h1.1; simp at this
  | m :: L, y :: es, i0, r, h1, h => by
    obtain ⟨yk, yv⟩ := y
    simp only [findK] at h
    have hr := (h1.2 0 (by simp)).1
    simp only [List.getD_cons_zero] at hr
    have key : ∀ b, kEq kd x yk = some b → Instr.sameNow dd u m.key = some b := by
      intro b hb
      cases hk with
      | int k k' n hty =>
        rw [hdd] at hty
        cases hty
        obtain ⟨k1, m', n', g1, rfl, rfl⟩ := kEq_int hb
        cases g1
        rw [rep_intv hu, rep_intv hr]
        simp [Instr.sameNow]
      | str l hty =>
        rw [hdd] at hty
        cases hty
        obtain ⟨m', n', g1, rfl, rfl⟩ := kEq_str hb
        cases g1
        obtain ⟨s1, rfl, rfl⟩ := rep_str hu
        obtain ⟨s2, h2, rfl⟩ := rep_str hr
        rw [h2, ← str_beq]
        rfl
      | agg fs cs => omega
    split at h
    · rename_i hk'
      cases h
      exact ⟨some (i0, m.val), by simp [Instr.findNow, key _ hk'], .inr ⟨0, by simp, by simp, by simp, by simpa using hk'⟩⟩
    · rename_i hk'
      obtain ⟨out, h2, h3⟩ := find_now hdd hk hkd hu L es (i0 + 1) r h1.tail h
      exact ⟨out, by simp [Instr.findNow, key _ hk', h2], h3.step⟩
    · cases h
theorem run_findKey {t : TypeId} {kd : Nat} {x : DV} (hty : keyKd P t kd = true) (hk : KeyShape P t kd x) {u : Value} (hu : Rep φ ρ u x) (w : World) {L : List MapEntry} {es : List (DV × DV)} {r : Option Nat} (h1 : EntR φ ρ L es) (h : findK kd x es 0 = some r) :
    ∃ out, (Instr.findKey t u L).run P w = .ok out w ∧ FindR L es kd x 0 r out := by
  have hty' : kdOk P t kd = true := by simp only [keyKd, Bool.and_eq_true] at hty; exact hty.1
  by_cases hkd : kd < 10
  · have : ∃ dd, P.underlying t = some dd := by cases hk <;> exact ⟨_, by assumption⟩
    obtain ⟨dd, hdd⟩ := this
    obtain ⟨out, h2, h3⟩ := find_now hdd hk hkd hu L es 0 r h1 h
    exact ⟨out, by simp [Instr.findKey, run_underlying hdd, h2], h3⟩
  · cases hk with
    | int => omega
    | str => omega
    | agg fs cs hdd hf hl =>
      obtain ⟨out, h2, h3⟩ := find_asking hty' hu w L es 0 r h1 h
      refine ⟨out, ?_, h3⟩
      match L, es, h1, h3, h2 with
      | [], [], _, h3, _ =>
        have : out = none := by
          rcases h3 with ⟨_, h⟩ | ⟨q, hq, _⟩
          · exact h
          · simp at hq
        simp [Instr.findKey, run_underlying hdd, Instr.findNow, this]
      | m :: L, _, _, _, h2 =>
        have : Instr.findNow (.struct fs) u (m :: L) 0 = none := by simp [Instr.findNow, Instr.sameNow]
        simp [Instr.findKey, run_underlying hdd, this, h2]
      | [], _ :: _, h1, _, _ => have := h1.1; simp at this
end Go.Proofs.YtfmicbbflpkdgaaGreatDoor.D
/-
  The D machine, part m: operations on maps and iterators.
-/
namespace Go.Proofs.YtfmicbbflpkdgaaGreatDoor.D
open Go.RowKit Go.Lib
variable {P : Program} {G : List (List DV)} {φ φ' : Phi} {ρ ρ' : Rho} {S S' : DS} {w w' : World}
variable {n0 base : Nat} {al : List Nat} {o : Oper} {a : Act} {e : Env} {d : DV} {ps : Puts}
theorem OpSim.skip {w1 : World} (h : (execOp a.eval o).run P w = .ok .skip w1) (s1 : SR G φ ρ (S.puts ps) w1) (s2 : Trans n0 φ ρ S w φ ρ (S.puts ps) w1) : OpSim P G n0 base al o a φ ρ S w (.tup []) ps :=
  ⟨undef, w1, φ, ρ, .inr ⟨h, rfl⟩, .tup #[] [] rfl (by simp), s1, s2, fun _ _ _ => rfl⟩
/-- An object of the state's that holds no cells is written. -/
theorem SR.setObj (hs : SR G φ ρ S w) {b : Nat} {o o' : DO} {p : PB} {ob ob' : Obj} (hb : S.h b = some o) (hp : ρ b = some p) (hob : w.heap[p.blk]? = some ob) (hnc : ∀ arr el fr, ob ≠ .cells arr el fr)
    (h : ∀ w' : World, w'.heap[p.blk]? = some ob' → OR φ ρ w' p o') :
    SR G φ ρ (S.put b (some o')) { w with heap := w.heap.setIfInBounds p.blk ob' } ∧ Trans n0 φ ρ S w φ ρ (S.put b (some o')) { w with heap := w.heap.setIfInBounds p.blk ob' } := by
  have hlt := heap_lt hob
  have hoth : ∀ c, c ≠ p.blk → ({ w with heap := w.heap.setIfInBounds p.blk ob' } : World).heap[c]? = w.heap[c]? := fun c hc => by simp [Ne.symm hc]
  refine ⟨hs.write b o p hb hp (by simp) hoth (fun ad v ha => ?_) o' (h _ (by simp [hlt])), Trans.write (w := w) (w' := { w with heap := w.heap.setIfInBounds p.blk ob' }) n0 b o p hb hp (by simp) rfl rfl rfl (Nat.le_refl _) hoth _⟩
  have hc := hs.phi ad v ha
  by_cases hbk : ad.block = p.blk
  · unfold World.cell? at hc
    rw [hbk, hob] at hc
    cases ob with
    | cells arr el fr => exact (hnc arr el fr rfl).elim
    | _ => cases hc
  · rw [cell_same (hoth _ hbk)]; exact hc
theorem or_map {p : PB} {es : List (DV × DV)} (h : OR φ ρ w p (.map es)) : ∃ ents, w.heap[p.blk]? = some (.map ents es.length) ∧ ents.size = es.length ∧ EntR φ ρ ents.toList es ∧ ∀ i, i < es.length → (ents.getD i default).born = i := by
  obtain ⟨ents, h1, h2, h3⟩ := h
  refine ⟨ents, h1, h2, ⟨by simpa using h2, fun i hi => ?_⟩, fun i hi => (h3 i hi).1⟩
  have : ents.toList.getD i default = ents.getD i default := by simp [Array.getD_eq_getD_getElem?, List.getD_eq_getElem?_getD]
  rw [this]
  exact (h3 i hi).2
/-! ### lookup -/
def zvOk (P : Program) (t : TypeId) (z : DV) : Bool := match P.info? t with
  | some i => (match i.zero with | some v => cOk v z | none => false)
  | none => false
theorem zvOk_run {t : TypeId} {z : DV} (h : zvOk P t z = true) : ∃ v, (∀ w : World, (zeroValue t).run P w = .ok v w) ∧ ∀ (φ : Phi) (ρ : Rho), Rep φ ρ v z := by
  unfold zvOk at h
  split at h
  · rename_i i hi
    split at h
    · rename_i v hv
      exact ⟨v, fun w => run_zero hi hv w, fun φ ρ => cOk_rep h⟩
    · cases h
  · cases h
def mLk (P : Program) (G : List (List DV)) (kd : Nat) (z : DV) (ok : Bool) (m x : Opd) : Op → Bool
  | .lookup t m' x' ok' => opOk G m' m && opOk G x' x && (ok == ok') && (match P.underlying t with | some (.map k el) => keyKd P k kd && zvOk P el z | _ => false)
  | _ => false
def lkFin (zv : Value) (ok : Bool) (out : Option (Nat × Value)) : Value :=
  match out with
  | some (_, v) => if ok = true then .tuple #[v, .bool true] else v
  | none => if ok = true then .tuple #[zv, .bool false] else zv
theorem rep_pair {u : Value} {x : DV} (h : Rep φ ρ u x) (b : Bool) : Rep φ ρ (.tuple #[u, .bool b]) (.tup [x, .bool b]) := by
  refine .tup _ _ rfl (fun i hi => ?_)
  match i, hi with
  | 0, _ => exact h
  | 1, _ => exact .bool b
theorem sim_lk {kd : Nat} {z : DV} {ok : Bool} {m x : Opd} (hs : SR G φ ρ S w) (he : ER φ ρ a.tmps e) (hm : mLk P G kd z ok m x o.op = true) (hd : dop G base e S.h (.lk kd z ok m x) = some (d, ps)) :
    OpSim P G n0 base al o a φ ρ S w d ps := by
  unfold mLk at hm
  split at hm
  · rename_i t m' x' ok' hop
    simp only [Bool.and_eq_true, beq_iff_eq] at hm
    obtain ⟨⟨⟨hmm, hx⟩, rfl⟩, ht⟩ := hm
    split at ht
    · rename_i k el hty
      simp only [Bool.and_eq_true] at ht
      obtain ⟨hkd, hz⟩ := ht
      obtain ⟨zv, hz1, hz2⟩ := zvOk_run hz
      have rm := opOk_rep hs he hmm
      have rx := opOk_rep hs he hx
      simp only [dop] at hd
      split at hd
      · rename_i hself
        have hks := keyShape hkd hself
        split at hd
        · rename_i es hes
          have hent : ∃ ents : Array MapEntry, EntR φ ρ ents.toList es ∧ ∀ out, (Instr.findKey k (a.eval x') ents.toList).run P w = .ok out w →
              (Instr.lookup t (a.eval m') (a.eval x') ok).run P w = .ok (lkFin zv ok out) w := by
            split at hes
            · rename_i hmv
              cases hes
              rw [hmv] at rm
              generalize a.eval m' = mv at rm
              cases rm
              refine ⟨#[], ⟨rfl, by simp⟩, fun out hout => ?_⟩
              cases out <;> simp [Instr.lookup, run_underlying hty, run_checkKey hks rx, hout, hz1, lkFin]
            · rename_i mm hmv
              rw [hmv] at rm
              split at hes
              · rename_i es' hes'
                cases hes
                generalize a.eval m' = mv at rm
                cases rm with
                | map mm p hp =>
                  obtain ⟨q, h1, h2⟩ := hs.heap mm _ hes'
                  rw [hp] at h1
                  cases h1
                  obtain ⟨ents, h3, h4, h5, _⟩ := or_map h2
                  refine ⟨ents, h5, fun out hout => ?_⟩
                  cases out <;> simp [Instr.lookup, run_underlying hty, MapKept.run_getObj_map h3, run_checkKey hks rx, hout, hz1, lkFin]
              · cases hes
            · cases hes
          obtain ⟨ents, hE, hrunE⟩ := hent
          have fin : ∀ (u : Value) (b : Bool) (x : DV), Rep φ ρ u x → (Instr.lookup t (a.eval m') (a.eval x') ok).run P w = .ok (if ok = true then .tuple #[u, .bool b] else u) w →
              d = (bif ok then .tup [x, .bool b] else x) → ps = [] → OpSim P G n0 base al o a φ ρ S w d ps := by
            intro u b x hu hrun h1 h2
            subst h1 h2
            cases ok with
            | true => exact OpSim.pure hs (by simp [execOp, hop, hrun] <;> rfl) (rep_pair hu b)
            | false => exact OpSim.pure hs (by simp [execOp, hop, hrun] <;> rfl) hu
          split at hd
          · rename_i i hfind
            obtain ⟨out, hrun, hfr⟩ := run_findKey hkd hks rx w hE hfind
            rcases hfr with ⟨h1, _⟩ | ⟨q, hq, h1, rfl, _⟩
            · cases h1
            · simp only [Nat.zero_add, Option.some.injEq] at h1
              subst h1
              rw [nth_eq, List.getElem?_eq_getElem hq] at hd
              have hr := (hE.2 i hq).2
              rw [show es.getD i (.nilp, .nilp) = es[i] by simp [List.getD_eq_getElem?_getD, hq]] at hr
              generalize es[i] = pr at hr hd
              obtain ⟨k1, v1⟩ := pr
              cases hd
              exact fin _ true v1 hr (hrunE _ hrun) rfl rfl
          · rename_i hfind
            obtain ⟨out, hrun, hfr⟩ := run_findKey hkd hks rx w hE hfind
            rcases hfr with ⟨_, rfl⟩ | ⟨q, hq, h1, _, _⟩
            · cases hd
              exact fin _ false z (hz2 _ _) (hrunE _ hrun) rfl rfl
            · cases h1
          · cases hd
        · cases hd
      · cases hd
    · cases ht
  · cases hm
/-! ### update -/
def mMu (P : Program) (G : List (List DV)) (kd : Nat) (m x v : Opd) : Op → Bool
  | .mapUpdate t m' x' v' | .insert t m' x' v' => opOk G m' m && opOk G x' x && opOk G v' v && (match P.underlying t with | some (.map k _) => keyKd P k kd | _ => false)
  | _ => false
theorem mMu_spec {kd : Nat} {m x v : Opd} {op : Op} (h : mMu P G kd m x v op = true) : ∃ t m' x' v' k el, (op = .mapUpdate t m' x' v' ∨ op = .insert t m' x' v') ∧ opOk G m' m = true ∧ opOk G x' x = true ∧ opOk G v' v = true ∧ P.underlying t = some (.map k el) ∧ keyKd P k kd = true := by
  unfold mMu at h
  split at h
  · simp only [Bool.and_eq_true] at h
    obtain ⟨⟨⟨h1, h2⟩, h3⟩, h4⟩ := h
    split at h4
    · exact ⟨_, _, _, _, _, _, .inl rfl, h1, h2, h3, by assumption, h4⟩
    · cases h4
  · simp only [Bool.and_eq_true] at h
    obtain ⟨⟨⟨h1, h2⟩, h3⟩, h4⟩ := h
    split at h4
    · exact ⟨_, _, _, _, _, _, .inr rfl, h1, h2, h3, by assumption, h4⟩
    · cases h4
  · cases h
theorem getD_arr (A : Array MapEntry) (i : Nat) : A.toList.getD i default = A.getD i default := by simp [Array.getD_eq_getD_getElem?, List.getD_eq_getElem?_getD]
theorem sim_mu {kd : Nat} {m x v : Opd} (hs : SR G φ ρ S w) (he : ER φ ρ a.tmps e) (hm : mMu P G kd m x v o.op = true) (hd : dop G base e S.h (.mu kd m x v) = some (d, ps)) :
    OpSim P G n0 base al o a φ ρ S w d ps := by
  obtain ⟨t, m', x', v', k, el, hop, hmm, hx, hv, hty, hkd⟩ := mMu_spec hm
  have hexec : ∀ w1, (Instr.mapUpdate t (a.eval m') (a.eval x') (a.eval v')).run P w = .ok () w1 → (execOp a.eval o).run P w = .ok .skip w1 := by
    intro w1 h
    rcases hop with hop | hop <;> simp [execOp, hop, h]
  have rm := opOk_rep hs he hmm
  have rx := opOk_rep hs he hx
  have rv := opOk_rep hs he hv
  simp only [dop] at hd
  split at hd
  · rename_i hself
    have hks := keyShape hkd hself
    split at hd
    · rename_i mm hmv
      rw [hmv] at rm
      split at hd
      · rename_i es hes
        generalize a.eval m' = mv at rm hexec
        cases rm with
        | map mm p hp =>
          obtain ⟨q, h1, h2⟩ := hs.heap mm _ hes
          rw [hp] at h1
          cases h1
          obtain ⟨ents, h3, h4, hE, hborn⟩ := or_map h2
          split at hd
          · rename_i i hfind
            obtain ⟨out, hrun, hfr⟩ := run_findKey hkd hks rx w hE hfind
            rcases hfr with ⟨h1, _⟩ | ⟨q, hq, h1, rfl, hkeq⟩
            · cases h1
            · simp only [Nat.zero_add, Option.some.injEq] at h1
              subst h1
              cases hd
              have hil : i < ents.size := by omega
              have hkey : ents[i].key = a.eval x' ∧ Instr.sameBits 10000 (a.eval x') (a.eval x') = true := by
                have := key_same hks rx (hE.2 i hq).1 hkeq
                rwa [getD_arr, show ents.getD i default = ents[i] by simp [Array.getD_eq_getD_getElem?, hil]] at this
              have hst : (Instr.keyThatStays (a.eval x') (a.eval x')).run P w = .ok (a.eval x') w := by simp [Instr.keyThatStays, hkey.2]
              obtain ⟨s1, s2⟩ := hs.setObj (n0 := n0) (o' := .map (es.set i (ev G e x, ev G e v))) (ob' := .map (ents.modify i fun y => { y with key := a.eval x', val := a.eval v' }) es.length) hes hp h3 (by simp) (fun w' hw' => by
                refine ⟨_, by simpa using hw', by simpa using h4, fun j hj => ?_⟩
                rw [List.length_set] at hj
                have hjl : j < ents.size := by omega
                by_cases hij : i = j
                · subst hij
                  have hb := hborn i hj
                  rw [show ents.getD i default = ents[i] by simp [Array.getD_eq_getD_getElem?, hjl]] at hb
                  simp only [Array.getD_eq_getD_getElem?, Array.getElem?_modify, List.getD_eq_getElem?_getD]
                  simp only [if_true, Array.getElem?_eq_getElem hjl, Option.map_some, Option.getD_some, List.getElem?_set_self hj]
                  exact ⟨hb, rx, rv⟩
                · have hb := hborn j hj
                  have h5 := hE.2 j hj
                  rw [getD_arr] at h5
                  simpa [Array.getD_eq_getD_getElem?, Array.getElem?_modify, List.getD_eq_getElem?_getD, hij] using And.intro hb h5)
              rw [setN_eq]
              refine OpSim.skip (hexec _ ?_) s1 s2
              simp only [Instr.mapUpdate, Sem.run_bind, run_underlying hty, MapKept.run_getObj_map h3, run_checkKey hks rx, hrun, Result.andThen_ok, Nat.zero_add, Array.getElem?_eq_getElem hil, Option.map_some, Option.getD_some, hkey.1, hst, MapKept.run_setObj_map _ h3]
          · rename_i hfind
            obtain ⟨out, hrun, hfr⟩ := run_findKey hkd hks rx w hE hfind
            rcases hfr with ⟨_, rfl⟩ | ⟨q, hq, h1, _, _⟩
            · cases hd
              obtain ⟨s1, s2⟩ := hs.setObj (n0 := n0) (o' := .map (es ++ [(ev G e x, ev G e v)])) (ob' := .map (ents.push { key := a.eval x', val := a.eval v', born := es.length }) (es.length + 1)) hes hp h3 (by simp) (fun w' hw' => by
                refine ⟨_, by simpa using hw', by simpa using h4, fun j hj => ?_⟩
                simp only [List.length_append, List.length_singleton] at hj
                by_cases hij : j = es.length
                · subst hij
                  simp only [Array.getD_eq_getD_getElem?, List.getD_eq_getElem?_getD, ← h4, Array.getElem?_push_size]
                  rw [h4]
                  simp only [List.getElem?_concat_length, Option.getD_some]
                  exact ⟨trivial, rx, rv⟩
                · have hj' : j < es.length := by omega
                  have hb := hborn j hj'
                  have h5 := hE.2 j hj'
                  rw [getD_arr] at h5
                  have hjl : j < ents.size := by omega
                  rw [show (ents.push { key := a.eval x', val := a.eval v', born := es.length }).getD j default = ents.getD j default by
                    simp [Array.getD_eq_getD_getElem?, Array.getElem?_push, show j ≠ ents.size by omega]]
                  rw [show (es ++ [(ev G e x, ev G e v)]).getD j (.nilp, .nilp) = es.getD j (.nilp, .nilp) by simp [List.getD_eq_getElem?_getD, List.getElem?_append_left hj']]
                  exact ⟨hb, h5⟩)
              refine OpSim.skip (hexec _ ?_) s1 s2
              simp only [Instr.mapUpdate, Sem.run_bind, run_underlying hty, MapKept.run_getObj_map h3, run_checkKey hks rx, hrun, Result.andThen_ok, MapKept.run_setObj_map _ h3]
            · cases h1
          · cases hd
      · cases hd
    · cases hd
  · cases hd
/-! ### iterators -/
def mRgs (P : Program) (G : List (List DV)) (x : Opd) : Op → Bool
  | .range t x' => opOk G x' x && (match P.underlying t with | some .string => true | _ => false)
  | _ => false
theorem sim_rgs {j : Nat} {x : Opd} (hs : SR G φ ρ S w) (he : ER φ ρ a.tmps e) (hm : mRgs P G x o.op = true) (hn0 : n0 ≤ base) (hfresh : ρ (base + j) = none) (hlt : base + j < S.nx)
    (hd : dop G base e S.h (.rgs j x) = some (d, ps)) : OpSim P G n0 base [j] o a φ ρ S w d ps := by
  unfold mRgs at hm
  split at hm
  · rename_i t x' hop
    simp only [Bool.and_eq_true] at hm
    obtain ⟨hx, ht⟩ := hm
    split at ht
    · rename_i hty
      have rx := opOk_rep hs he hx
      simp only [dop] at hd
      split at hd
      · rename_i l hl
        cases hd
        rw [hl] at rx
        obtain ⟨s, hsv, rfl⟩ := rep_str rx
        refine OpSim.alloc (v := .pointer (some ⟨w.heap.size, 0, none⟩)) hs hn0 hfresh hlt (.stringIter s 0) 0 0 _ ?_ ?_ (.it _ _ rhoAdd_same)
        · simp [execOp, hop, Instr.range, run_underlying hty, hsv]
        · exact ⟨s, heap_alloc_new w _, rfl⟩
      · cases hd
    · cases ht
  · cases hm
def mRgm (P : Program) (G : List (List DV)) (x : Opd) : Op → Bool
  | .range t x' => opOk G x' x && (match P.underlying t with | some (.map ..) => true | _ => false)
  | _ => false
theorem upto_eq : ∀ (n i : Nat), upto n i = List.range' i n
  | 0, i => rfl
  | n + 1, i => by simp [upto, upto_eq n (i + 1), List.range'_succ]
theorem sim_rgm {j : Nat} {x : Opd} (hs : SR G φ ρ S w) (he : ER φ ρ a.tmps e) (hm : mRgm P G x o.op = true) (hn0 : n0 ≤ base) (hfresh : ρ (base + j) = none) (hlt : base + j < S.nx)
    (hd : dop G base e S.h (.rgm j x) = some (d, ps)) : OpSim P G n0 base [j] o a φ ρ S w d ps := by
  unfold mRgm at hm
  split at hm
  · rename_i t x' hop
    simp only [Bool.and_eq_true] at hm
    obtain ⟨hx, ht⟩ := hm
    split at ht
    · rename_i kt et hty
      have rx := opOk_rep hs he hx
      simp only [dop] at hd
      split at hd
      · rename_i m hl
        rw [hl] at rx
        split at hd
        · rename_i es hes
          cases hd
          generalize hxv : a.eval x' = xv at rx
          cases rx with
          | map m p hp =>
            obtain ⟨q, h1, h2⟩ := hs.heap m _ hes
            rw [hp] at h1
            cases h1
            obtain ⟨ents, h3, h4, _, _⟩ := or_map h2
            refine OpSim.alloc (v := .pointer (some ⟨w.heap.size, 0, none⟩)) hs hn0 hfresh hlt (.mapIter (some p.blk) es.length #[] es.length) 0 0 _ ?_ ?_ (.it _ _ rhoAdd_same)
            · simp [execOp, hop, Instr.range, run_underlying hty, hxv, MapKept.run_getObj_map h3]
            · refine ⟨p, #[], rhoAdd_le hfresh _ _ hp, ?_, ?_, rfl, by simp⟩
              · rw [lenN_eq]; exact heap_alloc_new w _
              · rw [lenN_eq, upto_eq, ← List.range_eq_range']
                exact (List.filter_eq_self.2 (by simp)).symm
        · cases hd
      · cases hd
    · cases ht
  · cases hm
def mNxs (G : List (List DV)) (x : Opd) : Op → Bool
  | .next x' true => opOk G x' x
  | _ => false
theorem OpSim.skipV {w1 : World} {v : Value} (h : (execOp a.eval o).run P w = .ok (.value v) w1) (hv : Rep φ ρ v d) (s1 : SR G φ ρ (S.puts ps) w1) (s2 : Trans n0 φ ρ S w φ ρ (S.puts ps) w1) : OpSim P G n0 base al o a φ ρ S w d ps :=
  ⟨v, w1, φ, ρ, .inl h, hv, s1, s2, fun _ _ _ => rfl⟩
theorem rep_tup3 {u v x : Value} {a b c : DV} (h1 : Rep φ ρ u a) (h2 : Rep φ ρ v b) (h3 : Rep φ ρ x c) : Rep φ ρ (.tuple #[u, v, x]) (.tup [a, b, c]) := by
  refine .tup _ _ rfl (fun i hi => ?_)
  match i, hi with
  | 0, _ => exact h1
  | 1, _ => exact h2
  | 2, _ => exact h3
theorem rep_tup2 {u v : Value} {a b : DV} (h1 : Rep φ ρ u a) (h2 : Rep φ ρ v b) : Rep φ ρ (.tuple #[u, v]) (.tup [a, b]) := by
  refine .tup _ _ rfl (fun i hi => ?_)
  match i, hi with
  | 0, _ => exact h1
  | 1, _ => exact h2
theorem rep_false : Rep φ ρ (.tuple #[.bool false]) (.tup [.bool false]) := by
  refine .tup _ _ rfl (fun i hi => ?_)
  match i, hi with
  | 0, _ => exact .bool _
theorem sim_nxs {x : Opd} (hs : SR G φ ρ S w) (he : ER φ ρ a.tmps e) (hm : mNxs G x o.op = true) (hd : dop G base e S.h (.nxs x) = some (d, ps)) :
    OpSim P G n0 base al o a φ ρ S w d ps := by
  unfold mNxs at hm
  split at hm
  · rename_i x' hop
    have rx := opOk_rep hs he hm
    simp only [dop] at hd
    split at hd
    · rename_i b hb
      rw [hb] at rx
      split at hd
      · rename_i s pos hsit
        generalize hxv : a.eval x' = xv at rx
        cases rx with
        | it b p hp =>
          obtain ⟨q, h1, h2⟩ := hs.heap b _ hsit
          rw [hp] at h1
          cases h1
          obtain ⟨bs, h3, rfl⟩ := h2
          simp only [bltN, lenN_eq, len_bytes] at hd
          split at hd
          · rename_i hlt
            have hlt : pos < bs.size := by simpa using hlt
            split at hd
            · rename_i c hc
              cases hd
              simp only [utf1, nth_eq, bltN] at hc
              split at hc
              · rename_i b' hb'
                split at hc
                · rename_i hasc
                  cases hc
                  have hb2 : (bs[pos]'hlt).toNat = c := by
                    simp only [bytesN, List.getElem?_map, Option.map_eq_some_iff] at hb'
                    obtain ⟨u, hu, rfl⟩ := hb'
                    have h5 := (bytes_get bs pos).trans hu
                    rw [getElem?_def, dif_pos hlt] at h5
                    cases h5
                    rfl
                  have hrun := fun ty => run_next_ascii_at (P := P) w p.blk bs pos ty h3 hlt (by rw [hb2]; simpa using hasc)
                  obtain ⟨s1, s2⟩ := hs.setObj (n0 := n0) (o' := .sit (bytesN bs) (pos + 1)) (ob' := .stringIter bs (pos + 1)) hsit hp h3 (by simp) (fun w' hw' => ⟨bs, hw', rfl⟩)
                  refine OpSim.skipV (v := .tuple #[.bool true, .int .i64 (pos : Int), .int .i32 (c : Int)]) (w1 := w.iterAt p.blk bs (pos + 1)) ?_ (rep_tup3 (.bool _) (.int _ _) (.int _ _)) s1 s2
                  rw [hb2] at hrun
                  simp [execOp, hop, hxv, hrun]
                · cases hc
              · cases hc
            · cases hd
          · rename_i hlt
            have hlt : ¬ pos < bs.size := by simpa using hlt
            cases hd
            have hrun := fun ty => run_next_end_at (P := P) w p.blk bs pos ty h3 hlt
            exact OpSim.pure (v := .tuple #[.bool false]) hs (by simp [execOp, hop, hxv, hrun]) rep_false
      · cases hd
    · cases hd
  · cases hm
def mNxm (G : List (List DV)) (x : Opd) : Op → Bool
  | .next x' false => opOk G x' x
  | _ => false
/-- A step of a loop over a map: nothing is left, or one of those that are left. -/
theorem step_nxm {x : Opd} {b m n : Nat} {left : List Nat} {cur : Option Nat} {es : List (DV × DV)} (hs : SR G φ ρ S w) (he : ER φ ρ a.tmps e) (hm : mNxm G x o.op = true) (hx : ev G e x = .it b) (hb : S.h b = some (.mit m n left cur))
    (hmap : S.h m = some (.map es)) (hn : es.length = n) :
    (left = [] ∧ OpSim P G n0 base al o a φ ρ S w (.tup [.bool false]) []) ∨
    ∃ i, i ∈ left ∧ i < es.length ∧ OpSim P G n0 base al o a φ ρ S w (.tup [.bool true, (es.getD i (.nilp, .nilp)).1, (es.getD i (.nilp, .nilp)).2]) [(b, some (.mit m n (left.filter (fun j => j != i)) (some i)))] := by
  unfold mNxm at hm
  split at hm
  · rename_i x' hop
    have rx := opOk_rep hs he hm
    rw [hx] at rx
    generalize hxv : a.eval x' = xv at rx
    cases rx with
    | it b p hp =>
      obtain ⟨q, h1, h2⟩ := hs.heap b _ hb
      rw [hp] at h1
      cases h1
      obtain ⟨pm, seen, hpm, h3, hleft, hcur, hseen⟩ := h2
      obtain ⟨q, h1, h2⟩ := hs.heap m _ hmap
      rw [hpm] at h1
      cases h1
      obtain ⟨ents, h4, h5, hE, hborn⟩ := or_map h2
      have hbo : ∀ y, y ∈ ents.toList → ∃ i, i < es.length ∧ ents[i]? = some y ∧ y.born = i := by
        intro y hy
        obtain ⟨i, hi, rfl⟩ := List.getElem_of_mem hy
        have hi' : i < ents.size := by simpa using hi
        refine ⟨i, by omega, by simp, ?_⟩
        have := hborn i (by omega)
        rwa [show ents.getD i default = ents.toList[i] by simp [Array.getD_eq_getD_getElem?, hi']] at this
      rcases run_next_at (P := P) w o.type p.blk pm.blk n n seen ents es.length h3 h4 (fun y hy => by obtain ⟨i, hi, _, rfl⟩ := hbo y hy; omega) (Nat.le_refl _) with ⟨hz, hrun⟩ | ⟨y, hy, w1, hw1, hrun⟩
      · left
        refine ⟨?_, OpSim.pure (v := .tuple #[.bool false]) hs (by simp [execOp, hop, hxv, hrun]) rep_false⟩
        rw [hleft, List.filter_eq_nil_iff]
        intro i hi
        have hi : i < n := by simpa using hi
        intro hc
        have hil : i < ents.size := by omega
        have hmem : ents[i] ∈ leftOf ents seen := by
          simp only [leftOf, Array.mem_filter]
          refine ⟨Array.getElem_mem hil, ?_⟩
          have := hborn i (by omega)
          rw [show ents.getD i default = ents[i] by simp [Array.getD_eq_getD_getElem?, hil]] at this
          rw [this]
          exact hc
        have := Array.size_pos_of_mem hmem
        omega
      · right
        have hy' : y ∈ ents.toList ∧ (!seen.contains y.born) = true := by
          simp only [leftOf, Array.toList_filter, List.mem_filter] at hy
          exact hy
        obtain ⟨i, hi, hyi, hyb⟩ := hbo y hy'.1
        have hil : i < ents.size := by omega
        have hyi' : y = ents.getD i default := by
          rw [Array.getElem?_eq_getElem hil] at hyi
          cases hyi
          simp [Array.getD_eq_getD_getElem?, hil]
        refine ⟨i, ?_, hi, ?_⟩
        · rw [hleft, List.mem_filter]
          exact ⟨by simp; omega, by rw [← hyb]; exact hy'.2⟩
        · have hr := hE.2 i hi
          rw [getD_arr, ← hyi'] at hr
          have hw2 : ∃ k, w1 = { w with drawn := k } ∧ w.drawn ≤ k := by
            rcases hw1 with rfl | rfl
            · exact ⟨w1.drawn, rfl, Nat.le_refl _⟩
            · exact ⟨_, rfl, Nat.le_succ _⟩
          obtain ⟨k, rfl, hdk⟩ := hw2
          have h3' : ({ w with drawn := k } : World).heap[p.blk]? = some (.mapIter (some pm.blk) n seen n) := h3
          obtain ⟨s1, s2⟩ := (hs.drewN k).setObj (n0 := n0) (o' := .mit m n (left.filter (fun j => j != i)) (some i)) (ob' := .mapIter (some pm.blk) n (seen.push y.born) es.length) hb hp h3' (by simp) (fun w' hw' => by
            refine ⟨pm, seen.push y.born, hpm, by rw [← hn]; rw [← hn] at hw'; exact hw', ?_, by simp [hyb], fun x hx => ?_⟩
            · rw [hleft, List.filter_filter]
              congr 1
              funext j
              rw [hyb, Array.contains_push]
              cases seen.contains j <;> simp <;> rfl
            · rcases Array.mem_push.1 hx with hx | rfl
              · exact hseen x hx
              · omega)
          refine OpSim.skipV (v := .tuple #[.bool true, y.key, y.val]) ?_ (rep_tup3 (.bool _) hr.1 hr.2) s1 ((Trans.drewN n0 k hdk).trans s2)
          simp only [execOp, hop, hxv, Sem.run_bind, hrun, Result.andThen_ok, Sem.run_pure]
          rfl
  · cases hm
def mEn (G : List (List DV)) (x : Opd) : Op → Bool
  | .entry x' => opOk G x' x
  | _ => false
theorem sim_en {x : Opd} (hs : SR G φ ρ S w) (he : ER φ ρ a.tmps e) (hm : mEn G x o.op = true) (hd : dop G base e S.h (.en x) = some (d, ps)) :
    OpSim P G n0 base al o a φ ρ S w d ps := by
  unfold mEn at hm
  split at hm
  · rename_i x' hop
    have rx := opOk_rep hs he hm
    simp only [dop] at hd
    split at hd
    · rename_i b hb
      rw [hb] at rx
      split at hd
      · rename_i m n left i hmit
        generalize hxv : a.eval x' = xv at rx
        cases rx with
        | it b p hp =>
          obtain ⟨q, h1, h2⟩ := hs.heap b _ hmit
          rw [hp] at h1
          cases h1
          obtain ⟨pm, seen, hpm, h3, hleft, hcur, hseen⟩ := h2
          split at hd
          · rename_i es hes
            obtain ⟨q, h1, h2⟩ := hs.heap m _ hes
            rw [hpm] at h1
            cases h1
            obtain ⟨ents, h4, h5, hE, hborn⟩ := or_map h2
            simp only [beqN, lenN_eq, nth_eq] at hd
            split at hd
            · rename_i k v hn hki
              cases hd
              rw [decide_eq_true_eq] at hn
              obtain ⟨hi, hki⟩ := List.getElem?_eq_some_iff.1 hki
              have hil : i < ents.size := by omega
              have hr := hE.2 i hi
              rw [getD_arr, show es.getD i (.nilp, .nilp) = (k, v) by simp [List.getD_eq_getElem?_getD, hi, hki]] at hr
              have hgi : ents.getD i default = ents[i] := by simp [Array.getD_eq_getD_getElem?, hil]
              have hfind : ents.find? (fun y => y.born == i) = some (ents.getD i default) := by
                rw [Array.find?_eq_some_iff_getElem]
                refine ⟨by rw [hborn i hi]; simp, i, hil, hgi.symm, fun j hj => ?_⟩
                have hb := hborn j (by omega)
                rw [show ents.getD j default = ents[j] by simp [Array.getD_eq_getD_getElem?, show j < ents.size by omega]] at hb
                rw [hb]
                simp; omega
              refine OpSim.pure (v := .tuple #[(ents.getD i default).key, (ents.getD i default).val]) hs ?_ (rep_tup2 hr.1 hr.2)
              have hne : (es.length != n) = false := by simp [hn]
              have hrun : (Instr.entry (.pointer (some ⟨p.blk, 0, none⟩))).run P w = .ok (.tuple #[(ents.getD i default).key, (ents.getD i default).val]) w := by
                simp only [Instr.entry, getObj, Sem.run_bind, Sem.run, h3, h4, ← hcur, Result.andThen, hne, Bool.false_eq_true, if_false, hfind]
                rfl
              simp only [execOp, hop, hxv, Sem.run_bind, hrun, Result.andThen_ok, Sem.run_pure]
            · cases hd
          · cases hd
      · cases hd
    · cases hd
  · cases hm
end Go.Proofs.YtfmicbbflpkdgaaGreatDoor.D
