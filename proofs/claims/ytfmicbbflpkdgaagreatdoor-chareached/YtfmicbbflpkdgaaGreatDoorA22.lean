/-
  Contracts: part 1.
-/
import Derived.Test.YtfmicbbflpkdgaaGreatDoorA09
set_option linter.unusedVariables false
set_option linter.unusedSimpArgs false
namespace Go.Proofs.YtfmicbbflpkdgaaGreatDoor.D
variable {P : Program}
/-- Whether a list has a text. -/
theorem f128 (ht : TabOk P gl tab.get) (l : List Str) (s : Str) (hl : l.length < 4611686018427387904) : Val P gl 128 [.isl 1 none (l.map rS) .no, .str s] fun d => d = .bool (decide (s ∈ l)) := by
  refine Val.of_wp gl_ok ht (df := d128) rfl (cl_cons (cl_isl cl_rS ..) (cl_cons (.str _) cl_nil)) (fun d hd => by rw [hd]; exact .bool _) ?_
  simp only [d128, go_sem, wp_sq, reduceIte, Nat.reduceEqDiff, Nat.reduceAdd, Nat.reduceBEq, reduceCtorEq]
  refine wp_lpE [4, 5, 6, 7, 8, 9, 10, 11, 12, 13, 14, 15, 16, 17] (fun n e _ => ∃ i : Nat, n = l.length - i ∧ i ≤ l.length ∧ e 5 = .int .i64 i ∧ s ∉ l.take i) l.length ⟨0, rfl, Nat.zero_le _, rfl, by simp⟩ ?_
  rintro n e S ⟨i, hn, hi, hx, hI⟩ hf
  have hs0 : e 0 = .isl 1 none (l.map rS) .no := hf 0 rfl
  have hs1 : e 1 = .str s := hf 1 rfl
  have hw := wrap_succ (i := i) (by omega)
  simp only [go_sem, wp_sq, reduceIte, Nat.reduceEqDiff, Nat.reduceAdd, Nat.reduceBEq, reduceCtorEq, *]
  repeat' (first | (refine wp_rdH ?_; simp only [go_sem, wp_sq, reduceIte, Nat.reduceEqDiff, Nat.reduceAdd, Nat.reduceBEq, reduceCtorEq, *]) | (refine ⟨_, _, _, rfl, put_same _ _ _, rfl, rfl, rfl, ?_⟩; try simp only [go_sem, wp_sq, reduceIte, Nat.reduceEqDiff, Nat.reduceAdd, Nat.reduceBEq, reduceCtorEq, *]) | (refine ifP_dec (fun hp => ?_) (fun hp => ?_) <;> try simp only [go_sem, wp_sq, reduceIte, Nat.reduceEqDiff, Nat.reduceAdd, Nat.reduceBEq, reduceCtorEq, *]) | (refine ifP_b (fun hp => ?_) (fun hp => ?_) <;> try simp only [go_sem, wp_sq, reduceIte, Nat.reduceEqDiff, Nat.reduceAdd, Nat.reduceBEq, reduceCtorEq, *]))
  · refine ret_one (b := none) rfl ?_
    rename_i h
    rw [decide_eq_true (show s ∈ l by rw [← hp]; exact List.getElem_mem h)]
    rfl
  · rename_i h
    refine ⟨_, by omega, rfl, (by repeat' first | exact hf | exact rfl | exact Fr0.refl _ _ | apply Fr0.upd | exact hf2 | refine Fr0.sub hf2 rfl ?_ | refine Fr0.sub hf rfl ?_), i + 1, rfl, by omega, rfl, ?_⟩
    rw [List.take_succ_eq_append_getElem h, List.mem_append, List.mem_singleton]
    exact fun hm => hm.elim hI fun he => hp he.symm
  · refine ret_one (b := none) rfl ?_
    rw [List.take_of_length_le (by omega)] at hI
    rw [decide_eq_false hI]
    rfl
theorem f237 (ht : TabOk P gl tab.get) (z : Int) : Val P gl 237 [.int .u8 z] fun d => ∃ b, d = .bool b := by
  refine Val.of_wp gl_ok ht (df := d237) rfl (cl_cons (.int _ _) cl_nil) (fun d hd => by obtain ⟨b, rfl⟩ := hd; exact .bool _) ?_
  simp only [d237, go_sem, wp_sq, reduceIte, Nat.reduceEqDiff, Nat.reduceAdd, Nat.reduceBEq, reduceCtorEq]
  repeat' (first | (refine wp_rdH ?_; simp only [go_sem, wp_sq, reduceIte, Nat.reduceEqDiff, Nat.reduceAdd, Nat.reduceBEq, reduceCtorEq, *]) | (refine ⟨_, _, _, rfl, put_same _ _ _, rfl, rfl, rfl, ?_⟩; try simp only [go_sem, wp_sq, reduceIte, Nat.reduceEqDiff, Nat.reduceAdd, Nat.reduceBEq, reduceCtorEq, *]) | (refine ifP_dec (fun hp => ?_) (fun hp => ?_) <;> try simp only [go_sem, wp_sq, reduceIte, Nat.reduceEqDiff, Nat.reduceAdd, Nat.reduceBEq, reduceCtorEq, *]) | (refine ifP_b (fun hp => ?_) (fun hp => ?_) <;> try simp only [go_sem, wp_sq, reduceIte, Nat.reduceEqDiff, Nat.reduceAdd, Nat.reduceBEq, reduceCtorEq, *]))
  all_goals (refine ret_one (b := none) rfl ?_; exact ⟨_, rfl⟩)
theorem f272 (ht : TabOk P gl tab.get) (z : Int) : Val P gl 272 [.int .u8 z] fun d => ∃ b, d = .bool b := by
  refine Val.of_wp gl_ok ht (df := d272) rfl (cl_cons (.int _ _) cl_nil) (fun d hd => by obtain ⟨b, rfl⟩ := hd; exact .bool _) ?_
  simp only [d272, go_sem, wp_sq, reduceIte, Nat.reduceEqDiff, Nat.reduceAdd, Nat.reduceBEq, reduceCtorEq]
  repeat' (first | (refine wp_rdH ?_; simp only [go_sem, wp_sq, reduceIte, Nat.reduceEqDiff, Nat.reduceAdd, Nat.reduceBEq, reduceCtorEq, *]) | (refine ⟨_, _, _, rfl, put_same _ _ _, rfl, rfl, rfl, ?_⟩; try simp only [go_sem, wp_sq, reduceIte, Nat.reduceEqDiff, Nat.reduceAdd, Nat.reduceBEq, reduceCtorEq, *]) | (refine ifP_dec (fun hp => ?_) (fun hp => ?_) <;> try simp only [go_sem, wp_sq, reduceIte, Nat.reduceEqDiff, Nat.reduceAdd, Nat.reduceBEq, reduceCtorEq, *]) | (refine ifP_b (fun hp => ?_) (fun hp => ?_) <;> try simp only [go_sem, wp_sq, reduceIte, Nat.reduceEqDiff, Nat.reduceAdd, Nat.reduceBEq, reduceCtorEq, *]))
  all_goals (refine ret_one (b := none) rfl ?_; exact ⟨_, rfl⟩)
theorem f239 (ht : TabOk P gl tab.get) (z : Int) : Val P gl 239 [.int .u8 z] fun d => ∃ b, d = .bool b := by
  refine Val.of_wp gl_ok ht (df := d239) rfl (cl_cons (.int _ _) cl_nil) (fun d hd => by obtain ⟨b, rfl⟩ := hd; exact .bool _) ?_
  simp only [d239, go_sem, wp_sq, reduceIte, Nat.reduceEqDiff, Nat.reduceAdd, Nat.reduceBEq, reduceCtorEq]
  repeat' (first | (refine wp_rdH ?_; simp only [go_sem, wp_sq, reduceIte, Nat.reduceEqDiff, Nat.reduceAdd, Nat.reduceBEq, reduceCtorEq, *]) | (refine ⟨_, _, _, rfl, put_same _ _ _, rfl, rfl, rfl, ?_⟩; try simp only [go_sem, wp_sq, reduceIte, Nat.reduceEqDiff, Nat.reduceAdd, Nat.reduceBEq, reduceCtorEq, *]) | (refine ifP_dec (fun hp => ?_) (fun hp => ?_) <;> try simp only [go_sem, wp_sq, reduceIte, Nat.reduceEqDiff, Nat.reduceAdd, Nat.reduceBEq, reduceCtorEq, *]) | (refine ifP_b (fun hp => ?_) (fun hp => ?_) <;> try simp only [go_sem, wp_sq, reduceIte, Nat.reduceEqDiff, Nat.reduceAdd, Nat.reduceBEq, reduceCtorEq, *]) | (refine ex_call (f237 ht _) ?_; rintro _ (⟨b, rfl⟩); try simp only [go_sem, wp_sq, reduceIte, Nat.reduceEqDiff, Nat.reduceAdd, Nat.reduceBEq, reduceCtorEq, *]) | (refine ex_call (f272 ht _) ?_; rintro _ (⟨b, rfl⟩); try simp only [go_sem, wp_sq, reduceIte, Nat.reduceEqDiff, Nat.reduceAdd, Nat.reduceBEq, reduceCtorEq, *]))
  all_goals (refine ret_one (b := none) rfl ?_; exact ⟨_, rfl⟩)
def kwL : List Str := [[99, 108, 97, 115, 115], [101, 120, 116, 101, 110, 100, 115], [118, 97, 114], [100, 101, 102], [115, 116, 97, 116, 105, 99], [105, 102], [101, 108, 115, 101], [119, 104, 105, 108, 101], [116, 114, 121], [99, 97, 116, 99, 104], [116, 104, 114, 111, 119], [114, 101, 116, 117, 114, 110], [110, 101, 119], [110, 117, 108, 108], [116, 104, 105, 115], [105, 110, 112, 117, 116], [105, 110, 116]]
theorem f238 (ht : TabOk P gl tab.get) (s : Str) : Val P gl 238 [.str s] fun d => ∃ b, d = .bool b := by
  refine Val.of_wp gl_ok ht (df := d238) rfl (cl_cons (.str _) cl_nil) (fun d hd => by obtain ⟨b, rfl⟩ := hd; exact .bool _) ?_
  simp only [d238, go_sem, wp_sq, reduceIte, Nat.reduceEqDiff, Nat.reduceAdd, Nat.reduceBEq, reduceCtorEq, rowsK, lenN]
  refine wp_lpE [2, 4, 6, 7, 8, 9, 10, 11, 12, 13, 14, 15, 16, 17] (fun n e _ => Idx 17 4 n e) 17 (Idx.zero rfl) ?_
  rintro n e S ⟨i, hn, hi, hx⟩ hf
  have hs0 : e 0 = .str s := hf 0 rfl
  have hs3 : e 3 = .isl 1 (some false) (kwL.map rS) .ex := hf 3 rfl
  have hl : kwL.length = 17 := rfl
  have hw := wrap_succ (i := i) (by omega)
  simp only [go_sem, wp_sq, reduceIte, Nat.reduceEqDiff, Nat.reduceAdd, Nat.reduceBEq, reduceCtorEq, *]
  repeat' (first | (refine wp_rdH ?_; simp only [go_sem, wp_sq, reduceIte, Nat.reduceEqDiff, Nat.reduceAdd, Nat.reduceBEq, reduceCtorEq, *]) | (refine ⟨_, _, _, rfl, put_same _ _ _, rfl, rfl, rfl, ?_⟩; try simp only [go_sem, wp_sq, reduceIte, Nat.reduceEqDiff, Nat.reduceAdd, Nat.reduceBEq, reduceCtorEq, *]) | (refine ifP_dec (fun hp => ?_) (fun hp => ?_) <;> try simp only [go_sem, wp_sq, reduceIte, Nat.reduceEqDiff, Nat.reduceAdd, Nat.reduceBEq, reduceCtorEq, *]) | (refine ifP_b (fun hp => ?_) (fun hp => ?_) <;> try simp only [go_sem, wp_sq, reduceIte, Nat.reduceEqDiff, Nat.reduceAdd, Nat.reduceBEq, reduceCtorEq, *]))
  all_goals first | (refine ret_one (b := none) rfl ?_; exact ⟨_, rfl⟩) | exact ⟨_, by omega, rfl, (by repeat' first | exact hf | exact rfl | exact Fr0.refl _ _ | apply Fr0.upd | exact hf2 | refine Fr0.sub hf2 rfl ?_ | refine Fr0.sub hf rfl ?_), i + 1, rfl, by omega, rfl⟩
theorem f195 (ht : TabOk P gl tab.get) (s : Str) (hs : s.length < 4611686018427387904) : Val P gl 195 [.str s] fun d => ∃ b, d = .bool b := by
  refine Val.of_wp gl_ok ht (df := d195) rfl (cl_cons (.str _) cl_nil) (fun d hd => by obtain ⟨b, rfl⟩ := hd; exact .bool _) ?_
  rcases s with _ | ⟨c, s⟩
  · simp only [d195, go_sem, wp_sq, reduceIte, Nat.reduceEqDiff, Nat.reduceAdd, Nat.reduceBEq, reduceCtorEq]
    exact ret_one (b := none) rfl ⟨_, rfl⟩
  · simp only [d195, go_sem, wp_sq, reduceIte, Nat.reduceEqDiff, Nat.reduceAdd, Nat.reduceBEq, reduceCtorEq]
    repeat' (first | (refine wp_rdH ?_; simp only [go_sem, wp_sq, reduceIte, Nat.reduceEqDiff, Nat.reduceAdd, Nat.reduceBEq, reduceCtorEq, *]) | (refine ⟨_, _, _, rfl, put_same _ _ _, rfl, rfl, rfl, ?_⟩; try simp only [go_sem, wp_sq, reduceIte, Nat.reduceEqDiff, Nat.reduceAdd, Nat.reduceBEq, reduceCtorEq, *]) | (refine ifP_dec (fun hp => ?_) (fun hp => ?_) <;> try simp only [go_sem, wp_sq, reduceIte, Nat.reduceEqDiff, Nat.reduceAdd, Nat.reduceBEq, reduceCtorEq, *]) | (refine ifP_b (fun hp => ?_) (fun hp => ?_) <;> try simp only [go_sem, wp_sq, reduceIte, Nat.reduceEqDiff, Nat.reduceAdd, Nat.reduceBEq, reduceCtorEq, *]) | (refine ex_call (f237 ht _) ?_; rintro _ (⟨b, rfl⟩); try simp only [go_sem, wp_sq, reduceIte, Nat.reduceEqDiff, Nat.reduceAdd, Nat.reduceBEq, reduceCtorEq, *]) | (refine ex_call (f238 ht _) ?_; rintro _ (⟨b, rfl⟩); try simp only [go_sem, wp_sq, reduceIte, Nat.reduceEqDiff, Nat.reduceAdd, Nat.reduceBEq, reduceCtorEq, *]))
    all_goals first | (refine ret_one (b := none) rfl ?_; exact ⟨_, rfl⟩) | skip
    refine wp_lpE [2, 3, 21, 22, 23, 24, 25, 26, 27, 28, 29, 30, 31] (fun n e _ => Idx (c :: s).length 3 n e) (c :: s).length (Idx.zero rfl) ?_
    rintro n e S ⟨i, hn, hi, hx⟩ hf
    have hs0 : e 0 = .str (c :: s) := hf 0 rfl
    have hl : (c :: s).length < 4611686018427387904 := hs
    have hw := wrap_succ (i := i) (by omega)
    generalize hcs : c :: s = cs at *
    simp only [go_sem, wp_sq, reduceIte, Nat.reduceEqDiff, Nat.reduceAdd, Nat.reduceBEq, reduceCtorEq, *]
    repeat' (first | (refine wp_rdH ?_; simp only [go_sem, wp_sq, reduceIte, Nat.reduceEqDiff, Nat.reduceAdd, Nat.reduceBEq, reduceCtorEq, *]) | (refine ⟨_, _, _, rfl, put_same _ _ _, rfl, rfl, rfl, ?_⟩; try simp only [go_sem, wp_sq, reduceIte, Nat.reduceEqDiff, Nat.reduceAdd, Nat.reduceBEq, reduceCtorEq, *]) | (refine ifP_dec (fun hp => ?_) (fun hp => ?_) <;> try simp only [go_sem, wp_sq, reduceIte, Nat.reduceEqDiff, Nat.reduceAdd, Nat.reduceBEq, reduceCtorEq, *]) | (refine ifP_b (fun hp => ?_) (fun hp => ?_) <;> try simp only [go_sem, wp_sq, reduceIte, Nat.reduceEqDiff, Nat.reduceAdd, Nat.reduceBEq, reduceCtorEq, *]) | (refine ex_call (f239 ht _) ?_; rintro _ (⟨b, rfl⟩); try simp only [go_sem, wp_sq, reduceIte, Nat.reduceEqDiff, Nat.reduceAdd, Nat.reduceBEq, reduceCtorEq, *]))
    all_goals first | (refine ret_one (b := none) rfl ?_; exact ⟨_, rfl⟩) | exact ⟨_, by omega, rfl, (by repeat' first | exact hf | exact rfl | exact Fr0.refl _ _ | apply Fr0.upd | exact hf2 | refine Fr0.sub hf2 rfl ?_ | refine Fr0.sub hf rfl ?_), i + 1, rfl, by omega, rfl⟩
/-! ### Classes -/
def findN : NHier → Str → Option Nat
  | [], _ => none
  | x :: h, c => if x.name = c then some 0 else (findN h c).map (· + 1)
def findZ (h : NHier) (c : Str) : Int := match findN h c with | some i => (i : Int) | none => -1
theorem findN_none {c : Str} : ∀ {h : NHier}, (∀ x, x ∈ h → x.name ≠ c) → findN h c = none
  | [], _ => rfl
  | x :: h, hh => by
    simp only [findN, if_neg (hh x (by simp)), findN_none (h := h) fun y hy => hh y (by simp [hy]), Option.map_none]
theorem findN_at {c : Str} : ∀ {h : NHier} {i : Nat} (hi : i < h.length), (∀ x, x ∈ h.take i → x.name ≠ c) → h[i].name = c → findN h c = some i
  | [], i, hi, _, _ => by simp at hi
  | x :: h, 0, _, _, h2 => by exact if_pos h2
  | x :: h, i + 1, hi, h1, h2 => by
    simp only [findN, if_neg (h1 x (by simp)), findN_at (h := h) (i := i) (by simpa using hi) (fun y hy => h1 y (by simp [hy])) h2, Option.map_some]
theorem findN_some {c : Str} : ∀ {h : NHier} {i : Nat}, findN h c = some i → ∃ hi : i < h.length, h[i].name = c
  | [], i, h => by simp [findN] at h
  | x :: h, i, hh => by
    simp only [findN] at hh
    split at hh
    · cases hh; rename_i hx; exact ⟨by simp, hx⟩
    · cases hf : findN h c with
      | none => rw [hf] at hh; cases hh
      | some j =>
        rw [hf] at hh
        cases hh
        obtain ⟨h1, h2⟩ := findN_some hf
        exact ⟨by simpa using h1, by simpa using h2⟩
theorem f170 (ht : TabOk P gl tab.get) (h : NHier) (c : Str) (hl : h.length < 4611686018427387904) : Val P gl 170 [.agg (eHr h), .str c] fun d => d = .int .i64 (findZ h c) := by
  refine Val.of_wp gl_ok ht (df := d170) rfl (cl_cons (.agg _ (cl_eHr h)) (cl_cons (.str _) cl_nil)) (fun d hd => by rw [hd]; exact .int _ _) ?_
  simp only [d170, go_sem, wp_sq, reduceIte, Nat.reduceEqDiff, Nat.reduceAdd, Nat.reduceBEq, reduceCtorEq]
  refine wp_lpE [4, 5, 6, 7, 8, 9, 10, 11, 12, 13, 14, 15, 16, 17, 18, 19, 20, 21] (fun n e _ => ∃ i : Nat, n = h.length - i ∧ i ≤ h.length ∧ e 5 = .int .i64 i ∧ ∀ x, x ∈ h.take i → x.name ≠ c) h.length ⟨0, rfl, Nat.zero_le _, rfl, by simp⟩ ?_
  rintro n e S ⟨i, hn, hi, hx, hI⟩ hf
  have hs2 : e 2 = .iptr (eHr h) 0 := hf 2 rfl
  have hs1 : e 1 = .str c := hf 1 rfl
  have hw := wrap_succ (i := i) (by omega)
  simp only [go_sem, wp_sq, reduceIte, Nat.reduceEqDiff, Nat.reduceAdd, Nat.reduceBEq, reduceCtorEq, *]
  repeat' (first | (refine wp_rdH ?_; simp only [go_sem, wp_sq, reduceIte, Nat.reduceEqDiff, Nat.reduceAdd, Nat.reduceBEq, reduceCtorEq, *]) | (refine ⟨_, _, _, rfl, put_same _ _ _, rfl, rfl, rfl, ?_⟩; try simp only [go_sem, wp_sq, reduceIte, Nat.reduceEqDiff, Nat.reduceAdd, Nat.reduceBEq, reduceCtorEq, *]) | (refine ifP_dec (fun hp => ?_) (fun hp => ?_) <;> try simp only [go_sem, wp_sq, reduceIte, Nat.reduceEqDiff, Nat.reduceAdd, Nat.reduceBEq, reduceCtorEq, *]) | (refine ifP_b (fun hp => ?_) (fun hp => ?_) <;> try simp only [go_sem, wp_sq, reduceIte, Nat.reduceEqDiff, Nat.reduceAdd, Nat.reduceBEq, reduceCtorEq, *]))
  · refine ret_one (b := none) rfl ?_
    rename_i hp1
    rw [findZ, findN_at hp1 hI hp]
    rfl
  · rename_i hp1
    refine ⟨_, by omega, rfl, (by repeat' first | exact hf | exact rfl | exact Fr0.refl _ _ | apply Fr0.upd | exact hf2 | refine Fr0.sub hf2 rfl ?_ | refine Fr0.sub hf rfl ?_), i + 1, rfl, by omega, rfl, ?_⟩
    rw [List.take_succ_eq_append_getElem hp1]
    intro x hx
    rcases List.mem_append.1 hx with hx | hx
    · exact hI x hx
    · rw [List.mem_singleton.1 hx]; exact hp
  · refine ret_one (b := none) rfl ?_
    rw [List.take_of_length_le (by omega)] at hI
    rw [findZ, findN_none hI]
    rfl
end Go.Proofs.YtfmicbbflpkdgaaGreatDoor.D
/-
  Contracts: part 2: chains of classes.
-/
namespace Go.Proofs.YtfmicbbflpkdgaaGreatDoor.D
variable {P : Program}
theorem findZ_nonneg {h : NHier} {c : Str} : 0 ≤ findZ h c ↔ ∃ i, findN h c = some i := by
  unfold findZ
  cases findN h c with
  | none => simp
  | some i => simp
theorem findZ_some {h : NHier} {c : Str} {i : Nat} (hf : findN h c = some i) : findZ h c = (i : Int) := by rw [findZ, hf]
def chainN (h : NHier) : Nat → List Str → Str → List Str × Bool
  | 0, out, _ => (out, true)
  | n + 1, out, c => match findN h c with
    | none => (out, false)
    | some i => if c ∈ out then (out, true) else if ((h[i]?).map NClass.super).getD [] = [] then (out ++ [c], false) else chainN h n (out ++ [c]) (((h[i]?).map NClass.super).getD [])
def chainF (h : NHier) (c : Str) : List Str × Bool := chainN h (h.length + 1) [] c
theorem nodup_len {α : Type} [DecidableEq α] : ∀ {l m : List α}, l.Nodup → (∀ x, x ∈ l → x ∈ m) → l.length ≤ m.length
  | [], m, _, _ => Nat.zero_le _
  | a :: l, m, hn, hs => by
    obtain ⟨h1, h2⟩ := List.nodup_cons.1 hn
    have ha : a ∈ m := hs a (by simp)
    have := nodup_len (l := l) (m := m.erase a) h2 fun x hx => (List.mem_erase_of_ne (fun he => by subst he; exact h1 hx)).2 (hs x (by simp [hx]))
    rw [List.length_erase_of_mem ha] at this
    have := List.length_pos_of_mem ha
    simp only [List.length_cons]
    omega
/-- What a chain that has been gathered is. -/
def ChOk (h : NHier) (out : List Str) : Prop := out.Nodup ∧ ∀ s, s ∈ out → ∃ i, findN h s = some i
theorem ChOk.len {h : NHier} {out : List Str} (hc : ChOk h out) : out.length ≤ h.length := by
  have := nodup_len (m := h.map NClass.name) hc.1 fun s hs => by
    obtain ⟨i, hi⟩ := hc.2 s hs
    obtain ⟨h1, h2⟩ := findN_some hi
    exact List.mem_map.2 ⟨h[i], List.getElem_mem h1, h2⟩
  simpa using this
theorem ChOk.snoc {h : NHier} {out : List Str} {c : Str} (hc : ChOk h out) (hn : c ∉ out) {i : Nat} (hi : findN h c = some i) : ChOk h (out ++ [c]) := by
  refine ⟨List.nodup_append.2 ⟨hc.1, by simp, fun a ha b hb hab => ?_⟩, fun s hs => ?_⟩
  · rw [List.mem_singleton.1 hb] at hab
    exact hn (hab ▸ ha)
  · rcases List.mem_append.1 hs with hs | hs
    · exact hc.2 s hs
    · rw [List.mem_singleton.1 hs]; exact ⟨i, hi⟩
theorem chainN_ok {h : NHier} : ∀ {n : Nat} {out : List Str} {c : Str}, ChOk h out → ChOk h (chainN h n out c).1
  | 0, _, _, hc => hc
  | n + 1, out, c, hc => by
    simp only [chainN]
    split
    · exact hc
    · rename_i i hi
      split
      · exact hc
      · rename_i hn
        split
        · exact hc.snoc hn hi
        · exact chainN_ok (hc.snoc hn hi)
theorem chOk_nil {h : NHier} : ChOk h [] := ⟨List.nodup_nil, fun _ hs => by simp at hs⟩
theorem chain_ok {h : NHier} {c : Str} : ChOk h (chainF h c).1 := chainN_ok chOk_nil
theorem f197 (ht : TabOk P gl tab.get) (h : NHier) (c : Str) (hl : h.length < 4611686018427387904) : Val P gl 197 [.agg (eHr h), .str c] fun d => ∃ b, d = .bool b := by
  refine Val.of_wp gl_ok ht (df := d197) rfl (cl_cons (.agg _ (cl_eHr h)) (cl_cons (.str _) cl_nil)) (fun d hd => by obtain ⟨b, rfl⟩ := hd; exact .bool _) ?_
  simp only [d197, go_sem, wp_sq, reduceIte, Nat.reduceEqDiff, Nat.reduceAdd, Nat.reduceBEq, reduceCtorEq]
  repeat' (first | (refine wp_rdH ?_; simp only [go_sem, wp_sq, reduceIte, Nat.reduceEqDiff, Nat.reduceAdd, Nat.reduceBEq, reduceCtorEq, *]) | (refine ⟨_, _, _, rfl, put_same _ _ _, rfl, rfl, rfl, ?_⟩; try simp only [go_sem, wp_sq, reduceIte, Nat.reduceEqDiff, Nat.reduceAdd, Nat.reduceBEq, reduceCtorEq, *]) | (refine ifP_dec (fun hp => ?_) (fun hp => ?_) <;> try simp only [go_sem, wp_sq, reduceIte, Nat.reduceEqDiff, Nat.reduceAdd, Nat.reduceBEq, reduceCtorEq, *]) | (refine ifP_b (fun hp => ?_) (fun hp => ?_) <;> try simp only [go_sem, wp_sq, reduceIte, Nat.reduceEqDiff, Nat.reduceAdd, Nat.reduceBEq, reduceCtorEq, *]) | (refine ex_call (f170 ht h _ hl) ?_; rintro _ rfl; try simp only [go_sem, wp_sq, reduceIte, Nat.reduceEqDiff, Nat.reduceAdd, Nat.reduceBEq, reduceCtorEq, *]))
  all_goals (refine ret_one (b := none) rfl ?_; exact ⟨_, rfl⟩)
theorem f189 (ht : TabOk P gl tab.get) (h : NHier) (c : Str) (hl : h.length ≤ 1048576) : Val P gl 189 [.agg (eHr h), .str c] fun d => d = .tup [.isl 1 none ((chainF h c).1.map rS) .no, .bool (chainF h c).2] := by
  have hl2 : h.length < 4611686018427387904 := by omega
  refine Val.of_wp gl_ok ht (df := d189) rfl (cl_cons (.agg _ (cl_eHr h)) (cl_cons (.str _) cl_nil)) (fun d hd => by rw [hd]; exact .tup _ (cl_cons (cl_isl cl_rS ..) (cl_cons (.bool _) cl_nil))) ?_
  simp only [d189, go_sem, wp_sq, reduceIte, Nat.reduceEqDiff, Nat.reduceAdd, Nat.reduceBEq, reduceCtorEq]
  repeat' (first | (refine wp_rdH ?_; simp only [go_sem, wp_sq, reduceIte, Nat.reduceEqDiff, Nat.reduceAdd, Nat.reduceBEq, reduceCtorEq, *]) | (refine ⟨_, _, _, rfl, put_same _ _ _, rfl, rfl, rfl, ?_⟩; try simp only [go_sem, wp_sq, reduceIte, Nat.reduceEqDiff, Nat.reduceAdd, Nat.reduceBEq, reduceCtorEq, *]) | (refine ifP_dec (fun hp => ?_) (fun hp => ?_) <;> try simp only [go_sem, wp_sq, reduceIte, Nat.reduceEqDiff, Nat.reduceAdd, Nat.reduceBEq, reduceCtorEq, *]) | (refine ifP_b (fun hp => ?_) (fun hp => ?_) <;> try simp only [go_sem, wp_sq, reduceIte, Nat.reduceEqDiff, Nat.reduceAdd, Nat.reduceBEq, reduceCtorEq, *]) | (refine ex_call (f170 ht h _ hl2) ?_; rintro _ rfl; try simp only [go_sem, wp_sq, reduceIte, Nat.reduceEqDiff, Nat.reduceAdd, Nat.reduceBEq, reduceCtorEq, *]))
  refine wp_lpE [1, 4, 5, 6, 7, 11, 12, 13, 14, 15, 16, 17, 18, 19, 20, 21, 22, 23, 24, 25, 26, 27, 28, 29, 30, 31, 32, 33, 34, 35, 36, 37] (fun n e S => ∃ out c1, n = h.length + 1 - out.length ∧ ChOk h out ∧ e 1 = .str c1 ∧ e 7 = .int .i64 (findZ h c1) ∧ AppS S (e 6) 1 (out.map rS) ∧ chainF h c = chainN h (h.length + 1 - out.length) out c1) (h.length + 1) ?_ ?_
  · exact ⟨[], c, rfl, chOk_nil, rfl, rfl, AppS.nil, rfl⟩
  rintro n e S ⟨out, c1, hn, hok, hc1, h7, happ, hch⟩ hf
  have hs2 : e 2 = .iptr (eHr h) 0 := hf 2 rfl
  have hol := hok.len
  obtain ⟨m, hm⟩ : ∃ m, h.length + 1 - out.length = m + 1 := ⟨h.length - out.length, by omega⟩
  rw [hm] at hch
  obtain ⟨nf, tl, h6, _⟩ := id happ
  rw [h6] at happ
  have hcl : (out.map rS).length = out.length := by simp
  simp only [go_sem, wp_sq, reduceIte, Nat.reduceEqDiff, Nat.reduceAdd, Nat.reduceBEq, reduceCtorEq, hs2, hc1, h7, h6]
  repeat' (first | (refine wp_rdH ?_; simp only [go_sem, wp_sq, reduceIte, Nat.reduceEqDiff, Nat.reduceAdd, Nat.reduceBEq, reduceCtorEq, *]) | (refine ⟨_, _, _, rfl, put_same _ _ _, rfl, rfl, rfl, ?_⟩; try simp only [go_sem, wp_sq, reduceIte, Nat.reduceEqDiff, Nat.reduceAdd, Nat.reduceBEq, reduceCtorEq, *]) | (refine ifP_dec (fun hp => ?_) (fun hp => ?_) <;> try simp only [go_sem, wp_sq, reduceIte, Nat.reduceEqDiff, Nat.reduceAdd, Nat.reduceBEq, reduceCtorEq, *]) | (refine ifP_b (fun hp => ?_) (fun hp => ?_) <;> try simp only [go_sem, wp_sq, reduceIte, Nat.reduceEqDiff, Nat.reduceAdd, Nat.reduceBEq, reduceCtorEq, *]) | (refine ex_call (Val.w0 (f128 ht out c1 (by omega))) ?_; rintro _ rfl; try simp only [go_sem, wp_sq, reduceIte, Nat.reduceEqDiff, Nat.reduceAdd, Nat.reduceBEq, reduceCtorEq, *]))
  · refine ret_two (u := .isl 1 none (out.map rS) .no) (v := .bool true) rfl rfl ?_
    obtain ⟨i, hi⟩ := findZ_nonneg.1 ‹0 ≤ findZ h c1›
    simp only [chainN, hi, if_pos hp]
  · rename_i hp1
    obtain ⟨i, hi⟩ := findZ_nonneg.1 hp1
    have hz := findZ_some hi
    obtain ⟨hil, hin⟩ := findN_some hi
    obtain ⟨v', ps, hcap, happ2⟩ := happ.app (j := S.nx) (new := [[.str c1]]) (by simp) rfl (by rw [hcl]; omega) (by simp) (Nat.le_refl _)
    have happ3 := happ2 (S.nx + 1) (by omega)
    refine ⟨v', ps, hcap, ?_⟩
    have hsup : ((h[i]?).map NClass.super).getD [] = h[i].super := by simp [hil]
    have hsn : out.map rS ++ [[.str c1]] = (out ++ [c1]).map rS := by simp [rS]
    rw [hsn] at happ3
    have hok2 := hok.snoc hp hi
    simp only [go_sem, wp_sq, reduceIte, Nat.reduceEqDiff, Nat.reduceAdd, Nat.reduceBEq, reduceCtorEq, hz, hil]
    repeat' (first | (refine wp_rdH ?_; simp only [go_sem, wp_sq, reduceIte, Nat.reduceEqDiff, Nat.reduceAdd, Nat.reduceBEq, reduceCtorEq, *]) | (refine ⟨_, _, _, rfl, put_same _ _ _, rfl, rfl, rfl, ?_⟩; try simp only [go_sem, wp_sq, reduceIte, Nat.reduceEqDiff, Nat.reduceAdd, Nat.reduceBEq, reduceCtorEq, *]) | (refine ifP_dec (fun hp => ?_) (fun hp => ?_) <;> try simp only [go_sem, wp_sq, reduceIte, Nat.reduceEqDiff, Nat.reduceAdd, Nat.reduceBEq, reduceCtorEq, *]) | (refine ifP_b (fun hp => ?_) (fun hp => ?_) <;> try simp only [go_sem, wp_sq, reduceIte, Nat.reduceEqDiff, Nat.reduceAdd, Nat.reduceBEq, reduceCtorEq, *]) | (refine ex_call (f170 ht h _ hl2) ?_; rintro _ rfl; try simp only [go_sem, wp_sq, reduceIte, Nat.reduceEqDiff, Nat.reduceAdd, Nat.reduceBEq, reduceCtorEq, *]))
    · refine ret_two (u := .isl 1 none ((out ++ [c1]).map rS) .no) (v := .bool false) happ3.fz rfl ?_
      rename_i hp2
      simp only [hch, chainN, hi, if_neg hp2, hsup, if_pos hp]
    · rename_i hp2
      refine ⟨h.length + 1 - (out ++ [c1]).length, by simp; omega, rfl, (by repeat' first | exact hf | exact rfl | exact Fr0.refl _ _ | apply Fr0.upd | exact hf2 | refine Fr0.sub hf2 rfl ?_ | refine Fr0.sub hf rfl ?_), out ++ [c1], h[i].super, rfl, hok2, rfl, rfl, happ3, ?_⟩
      simp only [hch, chainN, hi, if_neg hp2, hsup, if_neg hp]
      congr 1
      simp
      omega
  · refine ret_two (u := .isl 1 none (out.map rS) .no) (v := .bool false) rfl rfl ?_
    have hno : findN h c1 = none := by
      cases hf2 : findN h c1 with
      | none => rfl
      | some i => exact absurd (findZ_nonneg.2 ⟨i, hf2⟩) hp
    simp only [hch, chainN, hno]
theorem f129 (ht : TabOk P gl tab.get) (h : NHier) (c : Str) (hl : h.length ≤ 1048576) : Val P gl 129 [.agg (eHr h), .str c] fun d => d = .isl 1 none ((chainF h c).1.map rS) .no := by
  refine Val.of_wp gl_ok ht (df := d129) rfl (cl_cons (.agg _ (cl_eHr h)) (cl_cons (.str _) cl_nil)) (fun d hd => by rw [hd]; exact cl_isl cl_rS ..) ?_
  simp only [d129, go_sem, wp_sq, reduceIte, Nat.reduceEqDiff, Nat.reduceAdd, Nat.reduceBEq, reduceCtorEq]
  repeat' (first | (refine wp_rdH ?_; simp only [go_sem, wp_sq, reduceIte, Nat.reduceEqDiff, Nat.reduceAdd, Nat.reduceBEq, reduceCtorEq, *]) | (refine ⟨_, _, _, rfl, put_same _ _ _, rfl, rfl, rfl, ?_⟩; try simp only [go_sem, wp_sq, reduceIte, Nat.reduceEqDiff, Nat.reduceAdd, Nat.reduceBEq, reduceCtorEq, *]) | (refine ifP_dec (fun hp => ?_) (fun hp => ?_) <;> try simp only [go_sem, wp_sq, reduceIte, Nat.reduceEqDiff, Nat.reduceAdd, Nat.reduceBEq, reduceCtorEq, *]) | (refine ifP_b (fun hp => ?_) (fun hp => ?_) <;> try simp only [go_sem, wp_sq, reduceIte, Nat.reduceEqDiff, Nat.reduceAdd, Nat.reduceBEq, reduceCtorEq, *]) | (refine ex_call (f189 ht h _ hl) ?_; rintro _ rfl; try simp only [go_sem, wp_sq, reduceIte, Nat.reduceEqDiff, Nat.reduceAdd, Nat.reduceBEq, reduceCtorEq, *]))
  exact ret_one (b := none) rfl rfl
def isSub (h : NHier) (a b : Str) : Bool := decide (b ∈ (chainF h a).1)
theorem f74 (ht : TabOk P gl tab.get) (h : NHier) (a b : Str) (hl : h.length ≤ 1048576) : Val P gl 74 [.agg (eHr h), .str a, .str b] fun d => d = .bool (isSub h a b) := by
  have hlen := (chain_ok (h := h) (c := a)).len
  refine Val.of_wp gl_ok ht (df := d74) rfl (cl_cons (.agg _ (cl_eHr h)) (cl_cons (.str _) (cl_cons (.str _) cl_nil))) (fun d hd => by rw [hd]; exact .bool _) ?_
  simp only [d74, go_sem, wp_sq, reduceIte, Nat.reduceEqDiff, Nat.reduceAdd, Nat.reduceBEq, reduceCtorEq]
  repeat' (first | (refine wp_rdH ?_; simp only [go_sem, wp_sq, reduceIte, Nat.reduceEqDiff, Nat.reduceAdd, Nat.reduceBEq, reduceCtorEq, *]) | (refine ⟨_, _, _, rfl, put_same _ _ _, rfl, rfl, rfl, ?_⟩; try simp only [go_sem, wp_sq, reduceIte, Nat.reduceEqDiff, Nat.reduceAdd, Nat.reduceBEq, reduceCtorEq, *]) | (refine ifP_dec (fun hp => ?_) (fun hp => ?_) <;> try simp only [go_sem, wp_sq, reduceIte, Nat.reduceEqDiff, Nat.reduceAdd, Nat.reduceBEq, reduceCtorEq, *]) | (refine ifP_b (fun hp => ?_) (fun hp => ?_) <;> try simp only [go_sem, wp_sq, reduceIte, Nat.reduceEqDiff, Nat.reduceAdd, Nat.reduceBEq, reduceCtorEq, *]) | (refine ex_call (f129 ht h _ hl) ?_; rintro _ rfl; try simp only [go_sem, wp_sq, reduceIte, Nat.reduceEqDiff, Nat.reduceAdd, Nat.reduceBEq, reduceCtorEq, *]) | (refine ex_call (f128 ht (chainF h a).1 b (by omega)) ?_; rintro _ rfl; try simp only [go_sem, wp_sq, reduceIte, Nat.reduceEqDiff, Nat.reduceAdd, Nat.reduceBEq, reduceCtorEq, *]))
  exact ret_one (b := none) rfl rfl
theorem f242 (ht : TabOk P gl tab.get) (h : NHier) (c : Str) (hl : h.length < 4611686018427387904) : Val P gl 242 [.agg (eHr h), .str c] fun d => d = .bool (decide (0 ≤ findZ h c)) := by
  refine Val.of_wp gl_ok ht (df := d242) rfl (cl_cons (.agg _ (cl_eHr h)) (cl_cons (.str _) cl_nil)) (fun d hd => by rw [hd]; exact .bool _) ?_
  simp only [d242, go_sem, wp_sq, reduceIte, Nat.reduceEqDiff, Nat.reduceAdd, Nat.reduceBEq, reduceCtorEq]
  repeat' (first | (refine wp_rdH ?_; simp only [go_sem, wp_sq, reduceIte, Nat.reduceEqDiff, Nat.reduceAdd, Nat.reduceBEq, reduceCtorEq, *]) | (refine ⟨_, _, _, rfl, put_same _ _ _, rfl, rfl, rfl, ?_⟩; try simp only [go_sem, wp_sq, reduceIte, Nat.reduceEqDiff, Nat.reduceAdd, Nat.reduceBEq, reduceCtorEq, *]) | (refine ifP_dec (fun hp => ?_) (fun hp => ?_) <;> try simp only [go_sem, wp_sq, reduceIte, Nat.reduceEqDiff, Nat.reduceAdd, Nat.reduceBEq, reduceCtorEq, *]) | (refine ifP_b (fun hp => ?_) (fun hp => ?_) <;> try simp only [go_sem, wp_sq, reduceIte, Nat.reduceEqDiff, Nat.reduceAdd, Nat.reduceBEq, reduceCtorEq, *]) | (refine ex_call (f170 ht h _ hl) ?_; rintro _ rfl; try simp only [go_sem, wp_sq, reduceIte, Nat.reduceEqDiff, Nat.reduceAdd, Nat.reduceBEq, reduceCtorEq, *]))
  exact ret_one (b := none) rfl rfl
theorem f243 (ht : TabOk P gl tab.get) (h : NHier) (a b : Str) (hl : h.length ≤ 1048576) : Val P gl 243 [.agg (eHr h), .str a, .str b] fun d => ∃ b, d = .bool b := by
  have hl2 : h.length < 4611686018427387904 := by omega
  refine Val.of_wp gl_ok ht (df := d243) rfl (cl_cons (.agg _ (cl_eHr h)) (cl_cons (.str _) (cl_cons (.str _) cl_nil))) (fun d hd => by obtain ⟨b, rfl⟩ := hd; exact .bool _) ?_
  simp only [d243, go_sem, wp_sq, reduceIte, Nat.reduceEqDiff, Nat.reduceAdd, Nat.reduceBEq, reduceCtorEq]
  repeat' (first | (refine wp_rdH ?_; simp only [go_sem, wp_sq, reduceIte, Nat.reduceEqDiff, Nat.reduceAdd, Nat.reduceBEq, reduceCtorEq, *]) | (refine ⟨_, _, _, rfl, put_same _ _ _, rfl, rfl, rfl, ?_⟩; try simp only [go_sem, wp_sq, reduceIte, Nat.reduceEqDiff, Nat.reduceAdd, Nat.reduceBEq, reduceCtorEq, *]) | (refine ifP_dec (fun hp => ?_) (fun hp => ?_) <;> try simp only [go_sem, wp_sq, reduceIte, Nat.reduceEqDiff, Nat.reduceAdd, Nat.reduceBEq, reduceCtorEq, *]) | (refine ifP_b (fun hp => ?_) (fun hp => ?_) <;> try simp only [go_sem, wp_sq, reduceIte, Nat.reduceEqDiff, Nat.reduceAdd, Nat.reduceBEq, reduceCtorEq, *]) | (refine ex_call (f242 ht h _ hl2) ?_; rintro _ rfl; try simp only [go_sem, wp_sq, reduceIte, Nat.reduceEqDiff, Nat.reduceAdd, Nat.reduceBEq, reduceCtorEq, *]) | (refine ex_call (f74 ht h _ _ hl) ?_; rintro _ rfl; try simp only [go_sem, wp_sq, reduceIte, Nat.reduceEqDiff, Nat.reduceAdd, Nat.reduceBEq, reduceCtorEq, *]))
  all_goals (refine ret_one (b := none) rfl ?_; exact ⟨_, rfl⟩)
end Go.Proofs.YtfmicbbflpkdgaaGreatDoor.D
/-
  Contracts: part 3: the check of a hierarchy (the reference's).
-/
namespace Go.Proofs.YtfmicbbflpkdgaaGreatDoor.D
variable {P : Program}
theorem f293 (ht : TabOk P gl tab.get) (h : NHier) (c : Str) (hl : h.length ≤ 1048576) : Val P gl 293 [.agg (eHr h), .str c] fun d => d = .isl 1 none (((chainF h c).1.drop 1).map rS) .no := by
  refine Val.of_wp gl_ok ht (df := d293) rfl (cl_cons (.agg _ (cl_eHr h)) (cl_cons (.str _) cl_nil)) (fun d hd => by rw [hd]; exact cl_isl cl_rS ..) ?_
  simp only [d293, go_sem, wp_sq, reduceIte, Nat.reduceEqDiff, Nat.reduceAdd, Nat.reduceBEq, reduceCtorEq]
  repeat' (first | (refine wp_rdH ?_; simp only [go_sem, wp_sq, reduceIte, Nat.reduceEqDiff, Nat.reduceAdd, Nat.reduceBEq, reduceCtorEq, *]) | (refine ⟨_, _, _, rfl, put_same _ _ _, rfl, rfl, rfl, ?_⟩; try simp only [go_sem, wp_sq, reduceIte, Nat.reduceEqDiff, Nat.reduceAdd, Nat.reduceBEq, reduceCtorEq, *]) | (refine ifP_dec (fun hp => ?_) (fun hp => ?_) <;> try simp only [go_sem, wp_sq, reduceIte, Nat.reduceEqDiff, Nat.reduceAdd, Nat.reduceBEq, reduceCtorEq, *]) | (refine ifP_b (fun hp => ?_) (fun hp => ?_) <;> try simp only [go_sem, wp_sq, reduceIte, Nat.reduceEqDiff, Nat.reduceAdd, Nat.reduceBEq, reduceCtorEq, *]) | (refine ex_call (f129 ht h _ hl) ?_; rintro _ rfl; try simp only [go_sem, wp_sq, reduceIte, Nat.reduceEqDiff, Nat.reduceAdd, Nat.reduceBEq, reduceCtorEq, *]))
  · refine ret_one (b := none) rfl ?_
    have : (chainF h c).1 = [] := List.eq_nil_of_length_eq_zero (by omega)
    rw [this]
    rfl
  · have hp1 : 1 ≤ ((chainF h c).1.map rS).length := by simp; omega
    simp only [go_sem, wp_sq, reduceIte, Nat.reduceEqDiff, Nat.reduceAdd, Nat.reduceBEq, reduceCtorEq, dslice_1 hp1]
    refine ret_one (b := none) rfl ?_
    rw [List.map_drop]
theorem f294 (ht : TabOk P gl tab.get) (a b : NSig) (hl : a.params.length < 4611686018427387904) : Val P gl 294 [.agg (eSg a), .agg (eSg b)] fun d => ∃ b, d = .bool b := by
  refine Val.of_wp gl_ok ht (df := d294) rfl (cl_cons (.agg _ (cl_eSg a)) (cl_cons (.agg _ (cl_eSg b)) cl_nil)) (fun d hd => by obtain ⟨b, rfl⟩ := hd; exact .bool _) ?_
  simp only [d294, go_sem, wp_sq, reduceIte, Nat.reduceEqDiff, Nat.reduceAdd, Nat.reduceBEq, reduceCtorEq]
  by_cases hq : a.params.length = b.params.length
  · simp only [go_sem, wp_sq, reduceIte, Nat.reduceEqDiff, Nat.reduceAdd, Nat.reduceBEq, reduceCtorEq, hq]
    repeat' (first | (refine wp_rdH ?_; simp only [go_sem, wp_sq, reduceIte, Nat.reduceEqDiff, Nat.reduceAdd, Nat.reduceBEq, reduceCtorEq, *]) | (refine ⟨_, _, _, rfl, put_same _ _ _, rfl, rfl, rfl, ?_⟩; try simp only [go_sem, wp_sq, reduceIte, Nat.reduceEqDiff, Nat.reduceAdd, Nat.reduceBEq, reduceCtorEq, *]) | (refine ifP_dec (fun hp => ?_) (fun hp => ?_) <;> try simp only [go_sem, wp_sq, reduceIte, Nat.reduceEqDiff, Nat.reduceAdd, Nat.reduceBEq, reduceCtorEq, *]) | (refine ifP_b (fun hp => ?_) (fun hp => ?_) <;> try simp only [go_sem, wp_sq, reduceIte, Nat.reduceEqDiff, Nat.reduceAdd, Nat.reduceBEq, reduceCtorEq, *]))
    all_goals first | (refine ret_one (b := none) rfl ?_; exact ⟨_, rfl⟩) | skip
    refine wp_lpE [4, 5, 20, 21, 22, 23, 24, 25, 26, 27, 28, 29, 30, 31, 32, 33, 34, 35, 36, 37] (fun n e _ => Idx a.params.length 5 n e) a.params.length (Idx.zero rfl) ?_
    rintro n e S ⟨i, hn, hi, hx⟩ hf
    have hs2 : e 2 = .iptr [.str a.name, .bool a.static, .isl 1 none (a.params.map rS) .no, .str b.result] 0 := hf 2 rfl
    have hs3 : e 3 = .iptr (eSg b) 0 := hf 3 rfl
    have hw := wrap_succ (i := i) (by omega)
    by_cases h1 : i < a.params.length
    · have h2 : i < b.params.length := by omega
      simp only [go_sem, wp_sq, reduceIte, Nat.reduceEqDiff, Nat.reduceAdd, Nat.reduceBEq, reduceCtorEq, *]
      repeat' (first | (refine wp_rdH ?_; simp only [go_sem, wp_sq, reduceIte, Nat.reduceEqDiff, Nat.reduceAdd, Nat.reduceBEq, reduceCtorEq, *]) | (refine ⟨_, _, _, rfl, put_same _ _ _, rfl, rfl, rfl, ?_⟩; try simp only [go_sem, wp_sq, reduceIte, Nat.reduceEqDiff, Nat.reduceAdd, Nat.reduceBEq, reduceCtorEq, *]) | (refine ifP_dec (fun hp => ?_) (fun hp => ?_) <;> try simp only [go_sem, wp_sq, reduceIte, Nat.reduceEqDiff, Nat.reduceAdd, Nat.reduceBEq, reduceCtorEq, *]) | (refine ifP_b (fun hp => ?_) (fun hp => ?_) <;> try simp only [go_sem, wp_sq, reduceIte, Nat.reduceEqDiff, Nat.reduceAdd, Nat.reduceBEq, reduceCtorEq, *]))
      all_goals first | (refine ret_one (b := none) rfl ?_; exact ⟨_, rfl⟩) | exact ⟨_, by omega, rfl, (by repeat' first | exact hf | exact rfl | exact Fr0.refl _ _ | apply Fr0.upd | exact hf2 | refine Fr0.sub hf2 rfl ?_ | refine Fr0.sub hf rfl ?_), i + 1, rfl, by omega, rfl⟩
    · simp only [go_sem, wp_sq, reduceIte, Nat.reduceEqDiff, Nat.reduceAdd, Nat.reduceBEq, reduceCtorEq, *]
      repeat' (first | (refine wp_rdH ?_; simp only [go_sem, wp_sq, reduceIte, Nat.reduceEqDiff, Nat.reduceAdd, Nat.reduceBEq, reduceCtorEq, *]) | (refine ⟨_, _, _, rfl, put_same _ _ _, rfl, rfl, rfl, ?_⟩; try simp only [go_sem, wp_sq, reduceIte, Nat.reduceEqDiff, Nat.reduceAdd, Nat.reduceBEq, reduceCtorEq, *]) | (refine ifP_dec (fun hp => ?_) (fun hp => ?_) <;> try simp only [go_sem, wp_sq, reduceIte, Nat.reduceEqDiff, Nat.reduceAdd, Nat.reduceBEq, reduceCtorEq, *]) | (refine ifP_b (fun hp => ?_) (fun hp => ?_) <;> try simp only [go_sem, wp_sq, reduceIte, Nat.reduceEqDiff, Nat.reduceAdd, Nat.reduceBEq, reduceCtorEq, *]))
      all_goals first | (refine ret_one (b := none) rfl ?_; exact ⟨_, rfl⟩) | exact ⟨_, by omega, rfl, (by repeat' first | exact hf | exact rfl | exact Fr0.refl _ _ | apply Fr0.upd | exact hf2 | refine Fr0.sub hf2 rfl ?_ | refine Fr0.sub hf rfl ?_), i + 1, rfl, by omega, rfl⟩
  · simp only [go_sem, wp_sq, reduceIte, Nat.reduceEqDiff, Nat.reduceAdd, Nat.reduceBEq, reduceCtorEq, hq]
    exact ret_one (b := none) rfl ⟨_, rfl⟩
theorem f270 (ht : TabOk P gl tab.get) (h : NHier) (s : NSig) (hl : h.length < 4611686018427387904) (hp : s.params.length < 4611686018427387904) : Val P gl 270 [.agg (eHr h), .agg (eSg s)] fun d => ∃ z, d = .int .i64 z := by
  refine Val.of_wp gl_ok ht (df := d270) rfl (cl_cons (.agg _ (cl_eHr h)) (cl_cons (.agg _ (cl_eSg s)) cl_nil)) (fun d hd => by obtain ⟨b, rfl⟩ := hd; exact .int _ _) ?_
  simp only [d270, go_sem, wp_sq, reduceIte, Nat.reduceEqDiff, Nat.reduceAdd, Nat.reduceBEq, reduceCtorEq]
  refine wp_lpE [4, 5, 6, 7, 8, 9, 10, 11, 12, 13, 14, 15, 16, 17, 18, 19, 20] (fun n e _ => Idx s.params.length 5 n e) s.params.length (Idx.zero rfl) ?_
  rintro n e S ⟨i, hn, hi, hx⟩ hf
  have hs2 : e 2 = .iptr (eHr h) 0 := hf 2 rfl
  have hs3 : e 3 = .iptr (eSg s) 0 := hf 3 rfl
  have hw := wrap_succ (i := i) (by omega)
  by_cases h1 : i < s.params.length
  · simp only [go_sem, wp_sq, reduceIte, Nat.reduceEqDiff, Nat.reduceAdd, Nat.reduceBEq, reduceCtorEq, *]
    repeat' (first | (refine wp_rdH ?_; simp only [go_sem, wp_sq, reduceIte, Nat.reduceEqDiff, Nat.reduceAdd, Nat.reduceBEq, reduceCtorEq, *]) | (refine ⟨_, _, _, rfl, put_same _ _ _, rfl, rfl, rfl, ?_⟩; try simp only [go_sem, wp_sq, reduceIte, Nat.reduceEqDiff, Nat.reduceAdd, Nat.reduceBEq, reduceCtorEq, *]) | (refine ifP_dec (fun hp => ?_) (fun hp => ?_) <;> try simp only [go_sem, wp_sq, reduceIte, Nat.reduceEqDiff, Nat.reduceAdd, Nat.reduceBEq, reduceCtorEq, *]) | (refine ifP_b (fun hp => ?_) (fun hp => ?_) <;> try simp only [go_sem, wp_sq, reduceIte, Nat.reduceEqDiff, Nat.reduceAdd, Nat.reduceBEq, reduceCtorEq, *]) | (refine ex_call (f197 ht h _ hl) ?_; rintro _ (⟨b, rfl⟩); try simp only [go_sem, wp_sq, reduceIte, Nat.reduceEqDiff, Nat.reduceAdd, Nat.reduceBEq, reduceCtorEq, *]))
    all_goals first | (refine ret_one (b := none) rfl ?_; exact ⟨_, rfl⟩) | exact ⟨_, by omega, rfl, (by repeat' first | exact hf | exact rfl | exact Fr0.refl _ _ | apply Fr0.upd | exact hf2 | refine Fr0.sub hf2 rfl ?_ | refine Fr0.sub hf rfl ?_), i + 1, rfl, by omega, rfl⟩
  · simp only [go_sem, wp_sq, reduceIte, Nat.reduceEqDiff, Nat.reduceAdd, Nat.reduceBEq, reduceCtorEq, *]
    repeat' (first | (refine wp_rdH ?_; simp only [go_sem, wp_sq, reduceIte, Nat.reduceEqDiff, Nat.reduceAdd, Nat.reduceBEq, reduceCtorEq, *]) | (refine ⟨_, _, _, rfl, put_same _ _ _, rfl, rfl, rfl, ?_⟩; try simp only [go_sem, wp_sq, reduceIte, Nat.reduceEqDiff, Nat.reduceAdd, Nat.reduceBEq, reduceCtorEq, *]) | (refine ifP_dec (fun hp => ?_) (fun hp => ?_) <;> try simp only [go_sem, wp_sq, reduceIte, Nat.reduceEqDiff, Nat.reduceAdd, Nat.reduceBEq, reduceCtorEq, *]) | (refine ifP_b (fun hp => ?_) (fun hp => ?_) <;> try simp only [go_sem, wp_sq, reduceIte, Nat.reduceEqDiff, Nat.reduceAdd, Nat.reduceBEq, reduceCtorEq, *]) | (refine ex_call (f197 ht h _ hl) ?_; rintro _ (⟨b, rfl⟩); try simp only [go_sem, wp_sq, reduceIte, Nat.reduceEqDiff, Nat.reduceAdd, Nat.reduceBEq, reduceCtorEq, *]))
    all_goals first | (refine ret_one (b := none) rfl ?_; exact ⟨_, rfl⟩) | exact ⟨_, by omega, rfl, (by repeat' first | exact hf | exact rfl | exact Fr0.refl _ _ | apply Fr0.upd | exact hf2 | refine Fr0.sub hf2 rfl ?_ | refine Fr0.sub hf rfl ?_), i + 1, rfl, by omega, rfl⟩
theorem f269 (ht : TabOk P gl tab.get) (h : NHier) (c f : Str) (hl : h.length ≤ 1048576) (hfl : ∀ x, x ∈ h → x.fields.length < 4611686018427387904) : Val P gl 269 [.agg (eHr h), .str c, .str f] fun d => ∃ a b ok, d = .tup [.str a, .str b, .bool ok] := by
  have hl2 : h.length < 4611686018427387904 := by omega
  have hcl := (chain_ok (h := h) (c := c)).len
  refine Val.of_wp gl_ok ht (df := d269) rfl (cl_cons (.agg _ (cl_eHr h)) (cl_cons (.str _) (cl_cons (.str _) cl_nil))) (fun d hd => by obtain ⟨a, b, ok, rfl⟩ := hd; exact .tup _ (cl_cons (.str _) (cl_cons (.str _) (cl_cons (.bool _) cl_nil)))) ?_
  simp only [d269, go_sem, wp_sq, reduceIte, Nat.reduceEqDiff, Nat.reduceAdd, Nat.reduceBEq, reduceCtorEq]
  repeat' (first | (refine wp_rdH ?_; simp only [go_sem, wp_sq, reduceIte, Nat.reduceEqDiff, Nat.reduceAdd, Nat.reduceBEq, reduceCtorEq, *]) | (refine ⟨_, _, _, rfl, put_same _ _ _, rfl, rfl, rfl, ?_⟩; try simp only [go_sem, wp_sq, reduceIte, Nat.reduceEqDiff, Nat.reduceAdd, Nat.reduceBEq, reduceCtorEq, *]) | (refine ifP_dec (fun hp => ?_) (fun hp => ?_) <;> try simp only [go_sem, wp_sq, reduceIte, Nat.reduceEqDiff, Nat.reduceAdd, Nat.reduceBEq, reduceCtorEq, *]) | (refine ifP_b (fun hp => ?_) (fun hp => ?_) <;> try simp only [go_sem, wp_sq, reduceIte, Nat.reduceEqDiff, Nat.reduceAdd, Nat.reduceBEq, reduceCtorEq, *]) | (refine ex_call (f129 ht h _ hl) ?_; rintro _ rfl; try simp only [go_sem, wp_sq, reduceIte, Nat.reduceEqDiff, Nat.reduceAdd, Nat.reduceBEq, reduceCtorEq, *]))
  refine wp_lpE [6, 7, 8, 10, 11, 12, 16, 17, 18, 19, 20, 21, 22, 23, 24, 25, 26, 27, 28, 29, 30, 31, 32, 33, 34, 35, 36, 37, 38, 39, 40, 41, 42, 43, 44, 45, 46, 47, 48, 49, 50, 51, 52, 53, 54, 55, 56] (fun n e _ => Idx (chainF h c).1.length 10 n e) (chainF h c).1.length (Idx.zero rfl) ?_
  rintro n e S ⟨i, hn, hi, hx⟩ hf
  have hs2 : e 2 = .str f := hf 2 rfl
  have hs3 : e 3 = .iptr (eHr h) 0 := hf 3 rfl
  have hs9 : e 9 = .isl 1 none ((chainF h c).1.map rS) .no := hf 9 rfl
  have hw := wrap_succ (i := i) (by omega)
  by_cases h1 : i < (chainF h c).1.length
  · obtain ⟨k, hk⟩ := (chain_ok (h := h) (c := c)).2 _ (List.getElem_mem h1)
    have hz := findZ_some hk
    obtain ⟨hkl, -⟩ := findN_some hk
    have hfk := hfl _ (List.getElem_mem hkl)
    simp only [go_sem, wp_sq, reduceIte, Nat.reduceEqDiff, Nat.reduceAdd, Nat.reduceBEq, reduceCtorEq, *]
    repeat' (first | (refine wp_rdH ?_; simp only [go_sem, wp_sq, reduceIte, Nat.reduceEqDiff, Nat.reduceAdd, Nat.reduceBEq, reduceCtorEq, *]) | (refine ⟨_, _, _, rfl, put_same _ _ _, rfl, rfl, rfl, ?_⟩; try simp only [go_sem, wp_sq, reduceIte, Nat.reduceEqDiff, Nat.reduceAdd, Nat.reduceBEq, reduceCtorEq, *]) | (refine ifP_dec (fun hp => ?_) (fun hp => ?_) <;> try simp only [go_sem, wp_sq, reduceIte, Nat.reduceEqDiff, Nat.reduceAdd, Nat.reduceBEq, reduceCtorEq, *]) | (refine ifP_b (fun hp => ?_) (fun hp => ?_) <;> try simp only [go_sem, wp_sq, reduceIte, Nat.reduceEqDiff, Nat.reduceAdd, Nat.reduceBEq, reduceCtorEq, *]) | (refine ex_call (f170 ht h _ hl2) ?_; rintro _ rfl; try simp only [go_sem, wp_sq, reduceIte, Nat.reduceEqDiff, Nat.reduceAdd, Nat.reduceBEq, reduceCtorEq, *]))
    refine wp_lpE [6, 7, 8, 12, 32, 33, 34, 35, 36, 37, 38, 39, 40, 41, 42, 43, 44, 45, 46, 47, 48, 49, 50, 51, 52, 53, 54, 55, 56] (fun n e _ => Idx h[k].fields.length 12 n e) h[k].fields.length (Idx.zero rfl) ?_
    rintro n2 e2 S2 ⟨j, hn2, hj, hy⟩ hf2
    have ht10 := (show e2 10 = e 10 from hf2 10 rfl).trans hx
    have ht2 := (show e2 2 = e 2 from hf2 2 rfl).trans hs2
    have ht3 := (show e2 3 = e 3 from hf2 3 rfl).trans hs3
    have ht9 := (show e2 9 = e 9 from hf2 9 rfl).trans hs9
    have ht11 : e2 11 = .iptr (eCl h[k]) 0 := hf2 11 rfl
    have hw2 := wrap_succ (i := j) (by omega)
    by_cases h2 : j < h[k].fields.length
    · simp only [go_sem, wp_sq, reduceIte, Nat.reduceEqDiff, Nat.reduceAdd, Nat.reduceBEq, reduceCtorEq, *]
      repeat' (first | (refine wp_rdH ?_; simp only [go_sem, wp_sq, reduceIte, Nat.reduceEqDiff, Nat.reduceAdd, Nat.reduceBEq, reduceCtorEq, *]) | (refine ⟨_, _, _, rfl, put_same _ _ _, rfl, rfl, rfl, ?_⟩; try simp only [go_sem, wp_sq, reduceIte, Nat.reduceEqDiff, Nat.reduceAdd, Nat.reduceBEq, reduceCtorEq, *]) | (refine ifP_dec (fun hp => ?_) (fun hp => ?_) <;> try simp only [go_sem, wp_sq, reduceIte, Nat.reduceEqDiff, Nat.reduceAdd, Nat.reduceBEq, reduceCtorEq, *]) | (refine ifP_b (fun hp => ?_) (fun hp => ?_) <;> try simp only [go_sem, wp_sq, reduceIte, Nat.reduceEqDiff, Nat.reduceAdd, Nat.reduceBEq, reduceCtorEq, *]))
      · exact ret_three rfl rfl rfl ⟨_, _, _, rfl⟩
      · exact ⟨_, by omega, rfl, (by repeat' first | exact hf | exact rfl | exact Fr0.refl _ _ | apply Fr0.upd | exact hf2 | refine Fr0.sub hf2 rfl ?_ | refine Fr0.sub hf rfl ?_), j + 1, rfl, by omega, rfl⟩
    · simp only [go_sem, wp_sq, reduceIte, Nat.reduceEqDiff, Nat.reduceAdd, Nat.reduceBEq, reduceCtorEq, *]
      repeat' (first | (refine wp_rdH ?_; simp only [go_sem, wp_sq, reduceIte, Nat.reduceEqDiff, Nat.reduceAdd, Nat.reduceBEq, reduceCtorEq, *]) | (refine ⟨_, _, _, rfl, put_same _ _ _, rfl, rfl, rfl, ?_⟩; try simp only [go_sem, wp_sq, reduceIte, Nat.reduceEqDiff, Nat.reduceAdd, Nat.reduceBEq, reduceCtorEq, *]) | (refine ifP_dec (fun hp => ?_) (fun hp => ?_) <;> try simp only [go_sem, wp_sq, reduceIte, Nat.reduceEqDiff, Nat.reduceAdd, Nat.reduceBEq, reduceCtorEq, *]) | (refine ifP_b (fun hp => ?_) (fun hp => ?_) <;> try simp only [go_sem, wp_sq, reduceIte, Nat.reduceEqDiff, Nat.reduceAdd, Nat.reduceBEq, reduceCtorEq, *]))
      exact ⟨_, by omega, rfl, (by repeat' first | exact hf | exact rfl | exact Fr0.refl _ _ | apply Fr0.upd | exact hf2 | refine Fr0.sub hf2 rfl ?_ | refine Fr0.sub hf rfl ?_), i + 1, rfl, by omega, rfl⟩
  · simp only [go_sem, wp_sq, reduceIte, Nat.reduceEqDiff, Nat.reduceAdd, Nat.reduceBEq, reduceCtorEq, *]
    repeat' (first | (refine wp_rdH ?_; simp only [go_sem, wp_sq, reduceIte, Nat.reduceEqDiff, Nat.reduceAdd, Nat.reduceBEq, reduceCtorEq, *]) | (refine ⟨_, _, _, rfl, put_same _ _ _, rfl, rfl, rfl, ?_⟩; try simp only [go_sem, wp_sq, reduceIte, Nat.reduceEqDiff, Nat.reduceAdd, Nat.reduceBEq, reduceCtorEq, *]) | (refine ifP_dec (fun hp => ?_) (fun hp => ?_) <;> try simp only [go_sem, wp_sq, reduceIte, Nat.reduceEqDiff, Nat.reduceAdd, Nat.reduceBEq, reduceCtorEq, *]) | (refine ifP_b (fun hp => ?_) (fun hp => ?_) <;> try simp only [go_sem, wp_sq, reduceIte, Nat.reduceEqDiff, Nat.reduceAdd, Nat.reduceBEq, reduceCtorEq, *]))
    exact ret_three rfl rfl rfl ⟨_, _, _, rfl⟩
end Go.Proofs.YtfmicbbflpkdgaaGreatDoor.D
/-
  Contracts: part 4: Lookup (the reference's).
-/
namespace Go.Proofs.YtfmicbbflpkdgaaGreatDoor.D
variable {P : Program}
def zSg : List DV := [.str [], .bool false, .isl 1 (some true) [] .ex, .str []]
theorem cl_zSg : ∀ c, c ∈ zSg → Closed c := by
  intro c hc
  simp only [zSg, List.mem_cons, List.not_mem_nil, or_false] at hc
  rcases hc with rfl | rfl | rfl | rfl <;> first | exact .str _ | exact .bool _ | exact .isl_ex fun _ h => by simp at h
def lookupC (h : NHier) (m k : Str) : Option NSig := match findN h k with
  | some i => ((h[i]?).map NClass.methods).getD [] |>.find? fun s => decide (s.name = m)
  | none => none
def lookupL (h : NHier) (m : Str) : List Str → Option (Str × NSig)
  | [] => none
  | k :: l => match lookupC h m k with | some s => some (k, s) | none => lookupL h m l
def lookupN (h : NHier) (c m : Str) : Option (Str × NSig) := lookupL h m (chainF h c).1
def lookV : Option (Str × NSig) → DV
  | some (k, s) => .tup [.str k, .agg (eSg s), .bool true]
  | none => .tup [.str [], .agg zSg, .bool false]
theorem cl_lookV (o : Option (Str × NSig)) : Closed (lookV o) := by
  cases o with
  | none => exact .tup _ (cl_cons (.str _) (cl_cons (.agg _ cl_zSg) (cl_cons (.bool _) cl_nil)))
  | some p => exact .tup _ (cl_cons (.str _) (cl_cons (.agg _ (cl_eSg _)) (cl_cons (.bool _) cl_nil)))
theorem ret_cell {G : List (List DV)} {S : DS} {e : Env} {a b c q k mode : Nat} {R : DV → DS → Prop} {u w : DV} {v1 v2 v3 v4 : DV} (hq : e b = .ptr q 0 0) (hS : S.h q = some (.cells k [[v1, v2, v3, v4]])) (hu : fzH mode S.h (e a) = some (u, none)) (hw : fzH mode S.h (e c) = some (w, none)) (hm : fzH mode S.h (.agg [v1, v2, v3, v4]) = some (.agg [v1, v2, v3, v4], none))
    (hr : R (.tup [u, .agg [v1, v2, v3, v4], w]) S) : RetP P G [.t a, .c b (some 4), .t c] mode R e S [] := by
  rw [ret_nil]
  refine ⟨[e a, .agg [v1, v2, v3, v4], e c], [u, .agg [v1, v2, v3, v4], w], S, ?_, by simp [fzL, hu, hw, hm, killO], hr⟩
  simp only [resH, hq, cload, hS, nth, dpart_some4]
theorem f105 (ht : TabOk P gl tab.get) (h : NHier) (c m : Str) (hl : h.length ≤ 1048576) (hml : ∀ x, x ∈ h → x.methods.length < 4611686018427387904) : Val P gl 105 [.agg (eHr h), .str c, .str m] fun d => d = lookV (lookupN h c m) := by
  have hl2 : h.length < 4611686018427387904 := by omega
  have hcl := (chain_ok (h := h) (c := c)).len
  refine Val.of_wp gl_ok ht (df := d105) rfl (cl_cons (.agg _ (cl_eHr h)) (cl_cons (.str _) (cl_cons (.str _) cl_nil))) (fun d hd => by rw [hd]; exact cl_lookV _) ?_
  simp only [d105, go_sem, wp_sq, reduceIte, Nat.reduceEqDiff, Nat.reduceAdd, Nat.reduceBEq, reduceCtorEq]
  repeat' (first | (refine wp_rdH ?_; simp only [go_sem, wp_sq, reduceIte, Nat.reduceEqDiff, Nat.reduceAdd, Nat.reduceBEq, reduceCtorEq, *]) | (refine ⟨_, _, _, rfl, put_same _ _ _, rfl, rfl, rfl, ?_⟩; try simp only [go_sem, wp_sq, reduceIte, Nat.reduceEqDiff, Nat.reduceAdd, Nat.reduceBEq, reduceCtorEq, *]) | (refine ifP_dec (fun hp => ?_) (fun hp => ?_) <;> try simp only [go_sem, wp_sq, reduceIte, Nat.reduceEqDiff, Nat.reduceAdd, Nat.reduceBEq, reduceCtorEq, *]) | (refine ifP_b (fun hp => ?_) (fun hp => ?_) <;> try simp only [go_sem, wp_sq, reduceIte, Nat.reduceEqDiff, Nat.reduceAdd, Nat.reduceBEq, reduceCtorEq, *]) | (refine ex_call (f129 ht h _ hl) ?_; rintro _ rfl; try simp only [go_sem, wp_sq, reduceIte, Nat.reduceEqDiff, Nat.reduceAdd, Nat.reduceBEq, reduceCtorEq, *]))
  refine wp_lpE [6, 8, 10, 11, 12, 16, 17, 18, 19, 20, 21, 22, 23, 24, 25, 26, 27, 28, 29, 30, 31, 32, 33, 34, 35, 36, 37, 38, 39, 40, 41, 42, 43, 44, 45, 46, 47, 48, 49, 50, 51, 52, 53, 54, 55] (fun n e S => ∃ i : Nat, n = (chainF h c).1.length - i ∧ i ≤ (chainF h c).1.length ∧ e 10 = .int .i64 i ∧ S.h 0 = some (.cells 4 [[.str [], .bool false, .isl 1 (some true) [] .ex, .str []]]) ∧ 0 < S.nx ∧ lookupN h c m = lookupL h m ((chainF h c).1.drop i)) (chainF h c).1.length ?_ ?_
  · exact ⟨0, rfl, Nat.zero_le _, rfl, rfl, Nat.zero_lt_one, rfl⟩
  rintro n e S ⟨i, hn, hi, hx, hS, hnx, hI⟩ hf
  have hs2 : e 2 = .str m := hf 2 rfl
  have hs3 : e 3 = .iptr (eHr h) 0 := hf 3 rfl
  have hs9 : e 9 = .isl 1 none ((chainF h c).1.map rS) .no := hf 9 rfl
  have hs7 : e 7 = .ptr 0 0 0 := hf 7 rfl
  have hw := wrap_succ (i := i) (by omega)
  by_cases h1 : i < (chainF h c).1.length
  · obtain ⟨k, hk⟩ := (chain_ok (h := h) (c := c)).2 _ (List.getElem_mem h1)
    have hz := findZ_some hk
    obtain ⟨hkl, hkn⟩ := findN_some hk
    have hmk := hml _ (List.getElem_mem hkl)
    rw [List.drop_eq_getElem_cons h1] at hI
    have hlc : lookupC h m (chainF h c).1[i] = h[k].methods.find? fun s => decide (s.name = m) := by
      simp [lookupC, hk, hkl]
    simp only [lookupL, hlc] at hI
    clear hlc hkn
    simp only [go_sem, wp_sq, reduceIte, Nat.reduceEqDiff, Nat.reduceAdd, Nat.reduceBEq, reduceCtorEq, hx, hs2, hs3, hs9, hs7, hw, h1, hz, hkl]
    refine wp_rdH ?_
    simp only [go_sem, wp_sq, reduceIte, Nat.reduceEqDiff, Nat.reduceAdd, Nat.reduceBEq, reduceCtorEq, hx, hs2, hs3, hs9, hs7, hw, h1, hz, hkl]
    refine ex_call (f170 ht h _ hl2) ?_
    rintro _ rfl
    simp only [go_sem, wp_sq, reduceIte, Nat.reduceEqDiff, Nat.reduceAdd, Nat.reduceBEq, reduceCtorEq, hx, hs2, hs3, hs9, hs7, hw, h1, hz, hkl]
    refine ⟨_, _, _, rfl, put_same _ _ _, rfl, rfl, rfl, ?_⟩
    simp only [go_sem, wp_sq, reduceIte, Nat.reduceEqDiff, Nat.reduceAdd, Nat.reduceBEq, reduceCtorEq]
    refine wp_lpE [6, 8, 12, 32, 33, 34, 35, 36, 37, 38, 39, 40, 41, 42, 43, 44, 45, 46, 47, 48, 49, 50, 51, 52, 53, 54, 55] (fun n e S => ∃ j : Nat, n = h[k].methods.length - j ∧ j ≤ h[k].methods.length ∧ e 12 = .int .i64 j ∧ S.h 0 = some (.cells 4 [[.str [], .bool false, .isl 1 (some true) [] .ex, .str []]]) ∧ 0 < S.nx ∧ (h[k].methods.find? fun s => decide (s.name = m)) = (h[k].methods.drop j).find? fun s => decide (s.name = m)) h[k].methods.length ?_ ?_
    · exact ⟨0, rfl, Nat.zero_le _, rfl, by rw [ds_put, put_ne _ _ (by omega), ds_put, put_ne _ _ (by omega)]; exact hS, Nat.succ_pos _, rfl⟩
    rintro n2 e2 S2 ⟨j, hn2, hj, hy, hS2, hnx2, hJ⟩ hf2
    have ht10 := (show e2 10 = e 10 from hf2 10 rfl).trans hx
    have ht2 := (show e2 2 = e 2 from hf2 2 rfl).trans hs2
    have ht3 := (show e2 3 = e 3 from hf2 3 rfl).trans hs3
    have ht9 := (show e2 9 = e 9 from hf2 9 rfl).trans hs9
    have ht7 := (show e2 7 = e 7 from hf2 7 rfl).trans hs7
    have ht11 : e2 11 = .iptr (eCl h[k]) 0 := hf2 11 rfl
    have hw2 := wrap_succ (i := j) (by omega)
    by_cases h2 : j < h[k].methods.length
    · rw [List.drop_eq_getElem_cons h2] at hJ
      simp only [go_sem, wp_sq, reduceIte, Nat.reduceEqDiff, Nat.reduceAdd, Nat.reduceBEq, reduceCtorEq, hy, ht10, ht2, ht3, ht9, ht7, ht11, hw2, h2]
      refine ifP_dec (fun hp => ?_) (fun hp => ?_)
      · simp only [go_sem, wp_sq, reduceIte, Nat.reduceEqDiff, Nat.reduceAdd, Nat.reduceBEq, reduceCtorEq, hy, ht10, ht2, ht3, ht9, ht7, ht11, hw2, h2, h1]
        refine wp_rdH ?_
        simp only [go_sem, wp_sq, reduceIte, Nat.reduceEqDiff, Nat.reduceAdd, Nat.reduceBEq, reduceCtorEq, hy, ht10, ht2, ht3, ht9, ht7, ht11, hw2, h2, h1, hS2, setN, putN, allSc, bleN, Nat.le_refl]
        refine ret_cell (q := 0) (k := 4) (by simp only [upd_at, reduceIte, Nat.reduceEqDiff, Nat.add_eq, Nat.reduceAdd, Nat.add_zero, Nat.succ_eq_add_one, Nat.reduceBEq, Nat.beq_eq_true_eq, Exits.set_at, envA_at, nth, List.length_cons, List.length_nil, decide_true, Nat.zero_add, ht7]) rfl rfl rfl rfl ?_
        rw [hJ, List.find?_cons_of_pos (by simpa using hp)] at hI
        rw [hI]
        rfl
      · simp only [go_sem, wp_sq, reduceIte, Nat.reduceEqDiff, Nat.reduceAdd, Nat.reduceBEq, reduceCtorEq, hy, ht10, ht2, ht3, ht9, ht7, ht11, hw2, h2]
        refine ⟨_, by omega, rfl, (by repeat' first | exact hf | exact rfl | exact Fr0.refl _ _ | apply Fr0.upd | exact hf2 | refine Fr0.sub hf2 rfl ?_ | refine Fr0.sub hf rfl ?_), j + 1, rfl, by omega, rfl, hS2, hnx2, ?_⟩
        rw [hJ, List.find?_cons_of_neg (by simpa using hp)]
    · simp only [go_sem, wp_sq, reduceIte, Nat.reduceEqDiff, Nat.reduceAdd, Nat.reduceBEq, reduceCtorEq, hy, ht10, ht2, ht3, ht9, ht7, ht11, hw2, h2]
      refine ⟨_, by omega, rfl, (by repeat' first | exact hf | exact rfl | exact Fr0.refl _ _ | apply Fr0.upd | exact hf2 | refine Fr0.sub hf2 rfl ?_ | refine Fr0.sub hf rfl ?_), i + 1, rfl, by omega, ?_, hS2, hnx2, ?_⟩
      · simp only [go_sem, wp_sq, reduceIte, Nat.reduceEqDiff, Nat.reduceAdd, Nat.reduceBEq, reduceCtorEq, ht10, hw]
      · rw [List.drop_of_length_le (by omega)] at hJ
        rw [hJ] at hI
        exact hI
  · simp only [go_sem, wp_sq, reduceIte, Nat.reduceEqDiff, Nat.reduceAdd, Nat.reduceBEq, reduceCtorEq, hx, hs2, hs3, hs9, hs7, hw, h1, dBuild, hS, setN, putN, allSc, bleN, beqN, Nat.le_refl]
    rw [List.drop_of_length_le (by omega)] at hI
    refine ret_cell (q := 0) (k := 4) (by simp only [upd_at, reduceIte, Nat.reduceEqDiff, Nat.add_eq, Nat.reduceAdd, Nat.add_zero, Nat.succ_eq_add_one, Nat.reduceBEq, Nat.beq_eq_true_eq, Exits.set_at, envA_at, nth, List.length_cons, List.length_nil, decide_true, Nat.zero_add, hs7]) rfl rfl rfl rfl ?_
    rw [hI]
    rfl
end Go.Proofs.YtfmicbbflpkdgaaGreatDoor.D
