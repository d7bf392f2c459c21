/-
  The D machine, part H: what a run is told of calls that are known.
-/
import Derived.Test.YtfmicbbflpkdgaaGreatDoorA06
import Derived.Test.YtfmicbbflpkdgaaGreatDoorA07
import Derived.Test.YtfmicbbflpkdgaaGreatDoorA09
set_option linter.unusedVariables false
set_option linter.unusedSimpArgs false
namespace Go.Proofs.YtfmicbbflpkdgaaGreatDoor.D
open Go.RowKit
variable {P : Program} {G : List (List DV)} {φ : Phi} {ρ : Rho} {S : DS}
/-! ### The leave to append goes -/
def stripN : Nat → DV → DV
  | 0, d => d
  | Nat.succ n, d => match d with
    | .isl k nf rows tl => .isl k nf (rows.map fun r => r.map (stripN n)) (match tl with | .tk _ _ => .no | tl => tl)
    | .agg cs => .agg (cs.map (stripN n))
    | .tup cs => .tup (cs.map (stripN n))
    | d => d
theorem getD_map {α β : Type} (f : α → β) {l : List α} {i : Nat} {a : α} {b : β} (h : i < l.length) : (l.map f).getD i b = f (l.getD i a) := by
  simp [List.getD_eq_getElem?_getD, h]
theorem Rep.strip : ∀ (n : Nat) {v : Value} {d : DV}, Rep φ ρ v d → Rep φ ρ v (stripN n d)
  | 0, _, _, h => h
  | n + 1, v, d, h => by
    have ih : ∀ {v : Value} {d : DV}, Rep φ ρ v d → Rep φ ρ v (stripN n d) := fun h => Rep.strip n h
    cases h with
    | isl a m C k nf rows tl c hn hC hk hnf hz hc hr ht =>
      refine .isl a m C k nf _ _ c (by simpa using hn) hC ?_ hnf hz hc ?_ ?_
      · intro r hr'
        obtain ⟨r0, h0, rfl⟩ := List.mem_map.1 hr'
        simpa using hk r0 h0
      · intro i j hi hj
        have hi' : i < rows.length := by omega
        have hm := mem_getD (l := rows) (d := []) hi'
        rw [getD_map (a := []) _ hi', getD_map (a := .nilp) _ (by rw [hk _ hm]; exact hj)]
        exact ih (hr i j hi hj)
      · cases tl with
        | no => exact ht
        | ex => exact ht
        | tk => trivial
    | agg A cs hA h =>
      refine .agg A _ (by simpa using hA) fun i hi => ?_
      have hi' : i < cs.length := by simpa using hi
      rw [getD_map (a := .nilp) _ hi']
      exact ih (h i hi')
    | tup A cs hA h =>
      refine .tup A _ (by simpa using hA) fun i hi => ?_
      have hi' : i < cs.length := by simpa using hi
      rw [getD_map (a := .nilp) _ hi']
      exact ih (h i hi')
    | bool b => exact .bool b
    | int k n => exact .int k n
    | str s l h => exact .str s l h
    | nilp => exact .nilp
    | ptr b i o p h => exact .ptr b i o p h
    | iptr a row o c h1 h2 => exact .iptr a row o c h1 h2
    | sl a b i n C cap p h hC h1 h2 ha => exact .sl a b i n C cap p h hC h1 h2 ha
    | nilm => exact .nilm
    | map m p h => exact .map m p h
    | it m p h => exact .it m p h
    | func f A B fa fb hA hB h1 h2 => exact .func f A B fa fb hA hB h1 h2
    | nilf => exact .nilf
    | iface t v d h => exact .iface t v d h
    | nili => exact .nili
theorem DCalls.strip {f : Nat} {args : List DV} {R R' : DV → DS → Prop} (n : Nat) (h : DCalls P G f args S R) (hr : ∀ d D, R d D → R' (stripN n d) D) : DCalls P G f args S R' :=
  ⟨h.1, fun φ ρ w va hs ha => (h.2 φ ρ w va hs ha).mono fun e w' h => by
    cases e with
    | returned v => obtain ⟨d, φ', ρ', S', h1, h2, h3⟩ := h; exact ⟨stripN n d, φ', ρ', S', hr _ _ h1, h2.strip n, h3⟩
    | panicked c => exact h
    | outgrown => exact h⟩
/-! ### The keys of a map, as the run computes them -/
def insI (a : Int) : List Int → List Int
  | [] => [a]
  | b :: l => match ilt b a with | true => b :: insI a l | false => a :: b :: l
def sortI : List Int → List Int
  | [] => []
  | a :: l => insI a (sortI l)
theorem insI_perm (a : Int) : ∀ l : List Int, (insI a l).Perm (a :: l)
  | [] => List.Perm.refl _
  | b :: l => by
    simp only [insI]
    split
    · exact ((insI_perm a l).cons b).trans (List.Perm.swap a b l)
    · exact List.Perm.refl _
theorem insI_sorted (a : Int) : ∀ l : List Int, l.Pairwise (· ≤ ·) → (insI a l).Pairwise (· ≤ ·)
  | [], _ => by simp [insI]
  | b :: l, h => by
    obtain ⟨h1, h2⟩ := List.pairwise_cons.1 h
    simp only [insI]
    split
    · rename_i hb
      rw [ilt_eq, decide_eq_true_eq] at hb
      refine List.pairwise_cons.2 ⟨fun x hx => ?_, insI_sorted a l h2⟩
      rcases List.mem_cons.1 ((insI_perm a l).mem_iff.1 hx) with rfl | hx
      · omega
      · exact h1 x hx
    · rename_i hb
      rw [ilt_eq, decide_eq_false_iff_not] at hb
      refine List.pairwise_cons.2 ⟨fun x hx => ?_, h⟩
      rcases List.mem_cons.1 hx with rfl | hx
      · omega
      · have := h1 x hx; omega
theorem sortI_eq (l : List Int) : sortI l = sortZ l := by
  have tr : ∀ a b c : Int, decide (a ≤ b) = true → decide (b ≤ c) = true → decide (a ≤ c) = true := fun a b c h1 h2 => by simp at h1 h2 ⊢; omega
  have to : ∀ a b : Int, (decide (a ≤ b) || decide (b ≤ a)) = true := fun a b => by simp; omega
  have hp : ∀ l : List Int, (sortI l).Perm l := fun l => by
    induction l with
    | nil => exact List.Perm.refl _
    | cons a l ih => exact (insI_perm a _).trans (ih.cons a)
  have hs : ∀ l : List Int, (sortI l).Pairwise (· ≤ ·) := fun l => by
    induction l with
    | nil => exact List.Pairwise.nil
    | cons a l ih => exact insI_sorted a _ ih
  exact List.Perm.eq_of_pairwise (le := fun a b : Int => a ≤ b) (fun a b _ _ h1 h2 => by omega) (hs l) ((List.pairwise_mergeSort tr to l).imp (by intro a b h; simpa using h)) ((hp l).trans (List.mergeSort_perm l _).symm)
def keysI : List (DV × DV) → Option (List Int)
  | [] => some []
  | (.int .i64 a, _) :: es => match keysI es with | some l => some (a :: l) | none => none
  | _ => none
theorem keysI_ok : ∀ {es : List (DV × DV)} {ks : List Int}, keysI es = some ks → es.map Prod.fst = ks.map fun z => .int .i64 z
  | [], ks, h => by simp only [keysI, Option.some.injEq] at h; subst h; rfl
  | (k, v) :: es, ks, h => by
    unfold keysI at h
    split at h
    · rename_i heq
      cases heq
    · rename_i heq
      cases heq
      split at h
      · rename_i l hl
        cases h
        simp [keysI_ok hl]
      · cases h
    · cases h
def rowsI : List Int → List (List DV)
  | [] => []
  | z :: l => rowI z :: rowsI l
theorem rowsI_eq (l : List Int) : rowsI l = l.map rowI := by
  induction l with
  | nil => rfl
  | cons z l ih => simp [rowsI, ih]
def numC (S : CS) (m : Nat) : Option (DV × CS) := match S.get m with
  | some (.map es) => match keysI es, Nat.ble (lenN es) 1048576 with
    | some ks, true => some (.isl 1 none (rowsI (sortI ks)) .no, ⟨S.h, Nat.add (Nat.add S.nx 1) (lenN es)⟩)
    | _, _ => none
  | _ => none
theorem numC_ok (ht : TabOk P G tab.get) (hs : SortOk P G) {S S' : CS} {m : Nat} {v : DV} (h : numC S m = some (v, S')) : DCalls P G 42 [.map m] S.ds fun d D => d = v ∧ D = S'.ds := by
  unfold numC at h
  split at h
  · rename_i es hm
    split at h
    · rename_i ks hk hle
      cases h
      rw [bleN, decide_eq_true_eq, lenN_eq] at hle
      refine (numbers_ok (S := S.ds) ht hs hm (keysI_ok hk) hle).mono fun d D ⟨h1, h2⟩ => ⟨?_, ?_⟩
      · rw [h1, rowsI_eq, sortI_eq]
      · rw [h2, lenN_eq]
        rfl
    · cases h
  · cases h
/-! ### Calls whose results are known -/
abbrev Known := List (Nat × List DV × DV)
def look (f : Nat) (args : List DV) : Known → Option DV
  | [] => none
  | (g, a, v) :: l => match Nat.beq g f with
    | true => (match allEq (dvEq 1000) a args with | true => some v | false => look f args l)
    | false => look f args l
theorem look_ok {f : Nat} {args : List DV} {v : DV} : ∀ {l : Known}, look f args l = some v → (f, args, v) ∈ l
  | [], h => by cases h
  | (g, a, u) :: l, h => by
    simp only [look, beqN] at h
    split at h
    · rename_i hg
      rw [decide_eq_true_eq] at hg
      subst hg
      split at h
      · rename_i ha
        cases h
        rw [allEq_sound (dvEq_sound 1000) _ _ ha]
        simp
      · simp [look_ok h]
    · simp [look_ok h]
def hkT (l : Known) : Hook := fun f S args => match look f args l with
  | some v => some (some (v, S))
  | none => match Nat.beq f 42, args with
    | true, [.map m] => some (numC S m)
    | _, _ => none
def idleB (f : Nat) : Bool := match Nat.beq f 148 with | true => true | false => Nat.beq f 159
/-- A call that the run has computed from nothing. -/
def chkCall (l : Known) (f : Nat) (args : List DV) (v : DV) : Bool := match callC tab (hkT l) (run tab gl (hkT l) idleB 1000000) ⟨.lf, 0⟩ f args with
  | some (d, _) => (match dvEq 1000 (stripN 100 d) v, closedB 100 v with | true, true => allB (closedB 100) args | _, _ => false)
  | none => false
structure World0 (P : Program) : Prop where
  tab : TabOk P gl tab.get
  sort : SortOk P gl
  idle : ∀ f fa fb D, idleB f = true → DIdle P gl (.func f fa fb) D
def KnownOk (P : Program) (l : Known) : Prop := ∀ f args v, (f, args, v) ∈ l → Val P gl f args fun d => d = v
theorem told_of (hw : World0 P) {l : Known} (hl : KnownOk P l) : Told P gl tab (hkT l) idleB := by
  refine ⟨hw.tab.mixed, hw.tab.tab, fun f S args v S' h => ?_, hw.idle⟩
  unfold hkT at h
  split at h
  · rename_i u hu
    cases h
    exact hl f args _ (look_ok hu) S.ds
  · split at h
    · rename_i m hf _
      rw [beqN, decide_eq_true_eq] at hf
      subst hf
      simp only [Option.some.injEq] at h
      exact numC_ok hw.tab hw.sort h
    · cases h
theorem cs0 : (⟨.lf, 0⟩ : CS).ds = S0 := by
  simp only [CS.ds, S0, DS.mk.injEq, and_true]
  funext j
  exact Tr.get_lf j
theorem chkCall_ok (hw : World0 P) {l : Known} (hl : KnownOk P l) {f : Nat} {args : List DV} {v : DV} (h : chkCall l f args v = true) : Val P gl f args fun d => d = v := by
  unfold chkCall at h
  split at h
  · rename_i d S hc
    split at h
    · rename_i hv hcl
      have h1 := DCalls.of_run (told_of hw hl) hc
      rw [cs0] at h1
      refine DCalls.closed gl_ok (fun c hc => closedB_ok 100 c (allB_iff h c hc)) (fun d hd => by rw [hd]; exact closedB_ok 100 v hcl) (h1.strip 100 fun d D ⟨h2, _⟩ => ?_)
      rw [h2]
      exact dvEq_sound _ _ _ hv
    · cases h
  · cases h
end Go.Proofs.YtfmicbbflpkdgaaGreatDoor.D
