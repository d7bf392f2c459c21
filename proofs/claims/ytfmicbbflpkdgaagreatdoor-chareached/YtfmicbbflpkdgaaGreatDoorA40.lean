/-
  DERIVED: THE SHELF's CONTRACTS AT THIS DUMP, IN PLAIN WORDS (tools/lay-plain.mjs out of 'SFb.lean', which tools/lay-shelf.mjs wrote): THE SAME DECLARATIONS UNDER THE SAME NAMES: 'import', 'namespace', 'open', 'def', 'theorem' AND NOTHING ELSE: no command of the shelf's: FOR A HAND-IN. Each laying: the table of numbers ('.._ren') and one theorem, a field a fact of the dump's own or the kernel's comparison; each contract: ONE APPLICATION.
-/
import Derived.Shelf.SlSortCmp.NoneTotal
import Derived.Ground.SlsfProg
import Derived.Ground.NamesProg
import Derived.Test.YtfmicbbflpkdgaaGreatDoorProg
import Derived.Test.YtfmicbbflpkdgaaGreatDoorA35
import Derived.Test.YtfmicbbflpkdgaaGreatDoorA38
set_option linter.unusedVariables false
set_option linter.unusedSimpArgs false
namespace Go.Proofs
open Go.Shelf
def Tryz.sortE_ren : Go.Shelf.Ren := ⟨fun | 6 => 35 | 15 => 68 | 14 => 67 | 28 => 115 | 29 => 116 | 20 => 107 | 21 => 108 | 22 => 109 | 23 => 110 | 24 => 111 | 25 => 112 | 26 => 113 | 27 => 114 | 46 => 171 | 47 => 172 | 48 => 173 | 49 => 174 | 50 => 175 | 57 => 229 | n => n, fun | 22 => 37 | 24 => 42 | 25 => 78 | 3 => 3 | 39 => 128 | 0 => 0 | 53 => 182 | 55 => 184 | 4 => 4 | 46 => 176 | 45 => 175 | 50 => 133 | 5 => 5 | 9 => 9 | 66 => 235 | 70 => 239 | 76 => 276 | 77 => 277 | n => n, fun | n => n⟩
theorem Tryz.sortE : Go.Proofs.SlLaysF0.n6 Tryz.prog Tryz.sortE_ren := {
  mixed := by kernel_rfl
  f6 := ⟨Tryz.f35.name, by decide, Tryz.func35.trans (congrArg some (by kernel_rfl))⟩
  f14 := ⟨Tryz.f67.name, by decide, Tryz.func67.trans (congrArg some (by kernel_rfl))⟩
  f15 := Tryz.func68.trans (congrArg some (by kernel_rfl))
  f20 := ⟨Tryz.f107.name, by decide, Tryz.func107.trans (congrArg some (by kernel_rfl))⟩
  f21 := ⟨Tryz.f108.name, by decide, Tryz.func108.trans (congrArg some (by kernel_rfl))⟩
  f22 := ⟨Tryz.f109.name, by decide, Tryz.func109.trans (congrArg some (by kernel_rfl))⟩
  f23 := ⟨Tryz.f110.name, by decide, Tryz.func110.trans (congrArg some (by kernel_rfl))⟩
  f24 := ⟨Tryz.f111.name, by decide, Tryz.func111.trans (congrArg some (by kernel_rfl))⟩
  f25 := ⟨Tryz.f112.name, by decide, Tryz.func112.trans (congrArg some (by kernel_rfl))⟩
  f26 := ⟨Tryz.f113.name, by decide, Tryz.func113.trans (congrArg some (by kernel_rfl))⟩
  f27 := ⟨Tryz.f114.name, by decide, Tryz.func114.trans (congrArg some (by kernel_rfl))⟩
  f28 := Tryz.func115.trans (congrArg some (by kernel_rfl))
  f29 := Tryz.func116.trans (congrArg some (by kernel_rfl))
  f46 := ⟨Tryz.f171.name, by decide, Tryz.func171.trans (congrArg some (by kernel_rfl))⟩
  f47 := Tryz.func172.trans (congrArg some (by kernel_rfl))
  f48 := Tryz.func173.trans (congrArg some (by kernel_rfl))
  f49 := ⟨Tryz.f174.name, by decide, Tryz.func174.trans (congrArg some (by kernel_rfl))⟩
  f50 := ⟨Tryz.f175.name, by decide, Tryz.func175.trans (congrArg some (by kernel_rfl))⟩
  f57 := ⟨Tryz.f229.name, by decide, Tryz.func229.trans (congrArg some (by kernel_rfl))⟩
  t0 := Tryz.underlying0
  a0 := Tryz.isAgg0
  z0 := Tryz.sizeOf0
  v0 := Tryz.zeroValue0
  t3 := Tryz.underlying3
  a3 := Tryz.isAgg3
  z3 := Tryz.sizeOf3
  v3 := Tryz.zeroValue3
  t4 := Tryz.underlying4
  a4 := Tryz.isAgg4
  z4 := Tryz.sizeOf4
  v4 := Tryz.zeroValue4
  t5 := Tryz.underlying5
  a5 := Tryz.isAgg5
  z5 := Tryz.sizeOf5
  v5 := Tryz.zeroValue5
  t9 := Tryz.underlying9
  a9 := Tryz.isAgg9
  z9 := Tryz.sizeOf9
  v9 := Tryz.zeroValue9
  t22 := Tryz.underlying37
  a22 := Tryz.isAgg37
  z22 := Tryz.sizeOf37
  v22 := Tryz.zeroValue37
  t25 := Tryz.underlying78
  a25 := Tryz.isAgg78
  z25 := Tryz.sizeOf78
  v25 := Tryz.zeroValue78
  t39 := Tryz.underlying128
  a39 := Tryz.isAgg128
  z39 := Tryz.sizeOf128
  v39 := Tryz.zeroValue128
  t45 := Tryz.underlying175
  a45 := Tryz.isAgg175
  z45 := Tryz.sizeOf175
  v45 := Tryz.zeroValue175
  t46 := Tryz.underlying176
  a46 := Tryz.isAgg176
  z46 := Tryz.sizeOf176
  v46 := Tryz.zeroValue176
  t50 := Tryz.underlying133
  a50 := Tryz.isAgg133
  z50 := Tryz.sizeOf133
  v50 := Tryz.zeroValue133
  t53 := Tryz.underlying182
  a53 := Tryz.isAgg182
  z53 := Tryz.sizeOf182
  v53 := Tryz.zeroValue182
  t55 := Tryz.underlying184
  a55 := Tryz.isAgg184
  z55 := Tryz.sizeOf184
  v55 := Tryz.zeroValue184
  t66 := Tryz.underlying235
  a66 := Tryz.isAgg235
  z66 := Tryz.sizeOf235
  v66 := Tryz.zeroValue235
  t70 := Tryz.underlying239
  a70 := Tryz.isAgg239
  z70 := Tryz.sizeOf239
  v70 := Tryz.zeroValue239
  t76 := Tryz.underlying276
  a76 := Tryz.isAgg276
  z76 := Tryz.sizeOf276
  v76 := Tryz.zeroValue276
  t77 := Tryz.underlying277
  a77 := Tryz.isAgg277
  z77 := Tryz.sizeOf277
  v77 := Tryz.zeroValue277 }
end Go.Proofs
/-
  The library's sorting of rows of several cells by a function of the program's, in the D machine's words.
-/
namespace Go.Proofs.YtfmicbbflpkdgaaGreatDoor.D
open Go.Shelf Go.Sort Go.RowKit
variable {P : Program} {G : List (List DV)} {S : DS}
theorem world_grow {w w' : World} (hos : w'.os = w.os) (ht : w'.tape = w.tape) (ho : w'.output = w.output) (hsz : w.heap.size ≤ w'.heap.size) (hold : ∀ b, b < w.heap.size → w'.heap[b]? = w.heap[b]?) (hd : w.drawn ≤ w'.drawn) : ∃ q os', w' = grow (w.drewN q) os' := by
  refine ⟨w'.drawn - w.drawn, w'.heap.extract w.heap.size w'.heap.size, ?_⟩
  have hheap : w'.heap = w.heap ++ w'.heap.extract w.heap.size w'.heap.size := by
    apply Array.ext
    · simp; omega
    · intro i h1 h2
      by_cases hi : i < w.heap.size
      · have := hold i hi
        rw [Array.getElem?_eq_getElem h1, Array.getElem?_eq_getElem hi, Option.some.injEq] at this
        rw [this, Array.getElem_append_left hi]
      · rw [Array.getElem_append_right (by omega)]
        simp only [Array.getElem_extract]
        congr 1
        omega
  have hdr : w'.drawn = w.drawn + (w'.drawn - w.drawn) := by omega
  cases w with
  | mk h t d o out =>
    cases w' with
    | mk h' t' d' o' out' =>
      simp only at hos ht ho hheap hdr
      subst hos ht ho
      simp only [grow, World.drewN]
      congr 1
theorem list_getD {l : List Value} {j : Nat} (h : j < l.length) : l[j]! = l.getD j undef := by
  rw [getElem!_pos l j h, List.getD_eq_getElem?_getD, List.getElem?_eq_getElem h]
  rfl
theorem sortWorldK_heap {α : Type} [Inhabited α] {enc : α → List Value} {k : Nat} {w : World} {blk off m : Nat} {d : Array α} {os : Array Obj} {b : Nat} (hb : b ≠ blk) (hl : b < w.heap.size) : (sortWorldK enc k w blk off m d os).heap[b]? = w.heap[b]? := by
  have h1 : (putRowK enc k (Sort.ahead w m) blk off d).heap[b]? = w.heap[b]? := by
    simp only [putRowK, putRow, mapBlock, Sort.ahead, Array.getElem?_modify, Ne.symm hb, if_false]
  have h2 : (putRowK enc k (Sort.ahead w m) blk off d).heap.size = w.heap.size := by simp [putRowK, putRow, mapBlock, Sort.ahead]
  rw [← h1]
  simp only [sortWorldK, grow]
  exact Array.getElem?_append_left (by omega)
theorem cmpLays_of {α : Type} [Inhabited α] {enc : α → List Value} {encD : α → List DV} {k g : Nat} (hgok : GOk G) (hk : ∀ x, (enc x).length = k) (hkD : ∀ x, (encD x).length = k)
    (hrep : ∀ x j φ ρ, j < k → Rep φ ρ ((enc x).getD j undef) ((encD x).getD j .nilp)) {cf : α → α → Int} (hv : ∀ x y, Val P G g [.agg (encD x), .agg (encD y)] fun d => d = .int .i64 (cf x y))
    {φ : Phi} {ρ : Rho} {w : World} {blk off size : Nat} (hs : SR G φ ρ S w) (hne : ∀ a v, φ a = some v → a.block ≠ blk) : CmpLays P g #[] enc k cf blk off size w := by
  intro m os dk hdk x y
  have sr0 : SR G φ (fun _ => none) S0 (sortWorldK enc k w blk off m dk os) := ⟨fun a v ha => by
      have h1 := hs.phi a v ha
      rw [← h1]
      exact cell_same (sortWorldK_heap (hne a v ha) (cell_lt h1)), fun id o ho => (by cases ho), fun id id' o o' p p' ho => (by cases ho), fun id p hp => (by cases hp), fun g row hr => (hs.glob g row hr).closed (.iptr row 0 (hgok row (by
    rw [nth_eq] at hr
    exact List.mem_of_getElem? hr)))⟩
  have hag : ∀ x, Rep φ (fun _ => none) (.agg (enc x).toArray) (.agg (encD x)) := fun x => .agg _ _ (by simp [hk, hkD]) fun i hi => by
    rw [hkD] at hi
    have := hrep x i φ (fun _ => none) hi
    simpa [Array.getD_eq_getD_getElem?, List.getD_eq_getElem?_getD] using this
  have hra : RepL φ (fun _ => none) #[.agg (enc x).toArray, .agg (enc y).toArray] [.agg (encD x), .agg (encD y)] := ⟨rfl, fun i hi => by
    match i, hi with
    | 0, _ => exact hag x
    | 1, _ => exact hag y⟩
  have hcall := (hv x y S0).2 φ (fun _ => none) (sortWorldK enc k w blk off m dk os) _ sr0 hra
  refine hcall.mono fun e w' h => ?_
  · cases e with
    | returned v =>
      obtain ⟨d, φ', ρ', S', ⟨rfl, _⟩, h2, _, h4⟩ := h
      rw [rep_int h2]
      exact ⟨rfl, world_grow h4.os h4.tape h4.output h4.size (fun b hb => h4.frame b hb not_own0) h4.drawn⟩
    | panicked c => exact h.elim
    | outgrown => exact h.elim
theorem DCalls.of_sortK {α : Type} [Inhabited α] {enc : α → List Value} {encD : α → List DV} {k g f : Nat} (hgok : GOk G) (hk0 : 0 < k) (hk : ∀ x, (enc x).length = k) (hkD : ∀ x, (encD x).length = k)
    (hrep : ∀ x j φ ρ, j < k → Rep φ ρ ((enc x).getD j undef) ((encD x).getD j .nilp)) (hinv : ∀ v x j φ ρ, j < k → Rep φ ρ v ((encD x).getD j .nilp) → v = (enc x).getD j undef)
    {cf : α → α → Int} (hv : ∀ x y, Val P G g [.agg (encD x), .agg (encD y)] fun d => d = .int .i64 (cf x y)) (hb : HasBody P f) {zs ts : List α} (hlen : ts.length = zs.length)
    (hcalls : ∀ blk off cap w, CmpLays P g #[] enc k cf blk off zs.toArray.size w → HoldsK enc k w blk off zs.toArray → blk < w.heap.size → Calls P f #[.slice (some ⟨blk, off, none⟩) zs.toArray.size cap, .func (.func g) #[] #[]] w fun e w' => e = .returned (.tuple #[]) ∧ ∃ n os, w' = sortWorldK enc k w blk off n ts.toArray os)
    {b : Nat} {c : Option Nat} (hS : S.h b = some (.cells k (zs.map encD))) (hpos : 0 < zs.length) :
    DCalls P G f [.sl b 0 zs.length c, .func g [] []] S fun d D => d = .tup [] ∧ D = S.put b (some (.cells k (ts.map encD))) := by
  refine ⟨hb, fun φ ρ w va hs ha => ?_⟩
  obtain ⟨hsz, hrep0⟩ := ha
  have h0 := hrep0 0 (by simp)
  have h1 := hrep0 1 (by simp)
  have hva : va = #[va.getD 0 undef, va.getD 1 undef] := by
    apply Array.ext
    · simpa using hsz
    · intro i h1 h2
      have h2 : i < 2 := by simpa using h2
      match i, h2 with
      | 0, _ => simp [Array.getD, h1]
      | 1, _ => simp [Array.getD, h1]
  rw [hva]
  simp only [List.getD_cons_zero] at h0
  have h1 : Rep φ ρ (va.getD 1 undef) (.func g [] []) := h1
  generalize va.getD 0 undef = v at h0
  generalize va.getD 1 undef = u at h1
  cases h1 with
  | func f A B fa fb hA hB g1 g2 =>
    obtain rfl : A = #[] := by simpa using hA
    obtain rfl : B = #[] := by simpa using hB
    cases h0 with
    | sl a b i n C cap p hp hC h1 h2 ha' =>
      obtain ⟨q, g1, g2⟩ := hs.heap b _ hS
      rw [hp] at g1
      cases g1
      obtain ⟨hpk, hoff, hcap, hlen1, hphi, arr, el, harr, hasz, hrow⟩ := g2
      simp only [List.length_map] at hcap hrow
      rcases ha' with rfl | h0
      case inr => omega
      have hblk : p.blk < w.heap.size := heap_lt harr
      have htot : ∀ t, t < zs.length * k → t < arr.size := fun t ht => by
        rw [hasz]
        exact Nat.lt_of_lt_of_le ht (Nat.mul_le_mul_right k hcap)
      have hval : ∀ t, t < zs.length * k → arr.getD t undef = (enc (zs.toArray[t / k]!))[t % k]! := by
        intro t ht
        have hi : t / k < zs.length := (Nat.div_lt_iff_lt_mul hk0).2 ht
        have hj : t % k < k := Nat.mod_lt _ hk0
        have := hrow (t / k) (t % k) hi hj
        rw [Nat.div_add_mod'] at this
        have hg : (((zs.map encD).getD (t / k) []).getD (t % k) .nilp) = (encD (zs.toArray[t / k]!)).getD (t % k) .nilp := by simp [List.getD_eq_getElem?_getD, hi]
        rw [hg] at this
        rw [hinv _ _ _ _ _ hj this, list_getD (by rw [hk]; exact hj)]
      have hoff0 : (⟨p.blk, 0 * p.k, none⟩ : Addr) = ⟨p.blk, 0, none⟩ := by rw [Nat.zero_mul]
      rw [hoff0]
      have hlay : CmpLays P g #[] enc k cf p.blk 0 zs.toArray.size w := cmpLays_of hgok hk hkD hrep hv hs hphi
      have hH : HoldsK enc k w p.blk 0 zs.toArray := fun t ht => by
        have ht : t < zs.length * k := by simpa using ht
        refine ⟨?_, by simp [World.frozen?, harr]⟩
        rw [Nat.zero_add, cell_arr harr, get_flatK _ _ _ _ (by simpa using ht), id, ← hval t ht]
        simp [Array.getD, htot t ht]
      have hcc := hcalls p.blk 0 C w hlay hH hblk
      rw [List.size_toArray] at hcc
      refine hcc.mono fun e w' ⟨he, n, os, hw⟩ => ?_
      subst he
      subst hw
      have hsz0 : (putRowK enc k (Sort.ahead w n) p.blk 0 ts.toArray).heap.size = w.heap.size := by simp [putRowK, putRow, mapBlock, Sort.ahead]
      have hmb : ∀ b', (putRowK enc k (Sort.ahead w n) p.blk 0 ts.toArray).heap[b']? = if b' = p.blk then some (.cells (putCells id 0 (flatK enc k ts.toArray) arr) el (0, 0)) else w.heap[b']? := by
        intro b'
        simp only [putRowK, putRow, mapBlock, Sort.ahead, Array.getElem?_modify]
        by_cases hb' : p.blk = b'
        · subst hb'
          simp [harr, onCells]
        · simp [hb', Ne.symm hb']
      have hother : ∀ b', b' ≠ p.blk → (putRowK enc k (Sort.ahead w n) p.blk 0 ts.toArray).heap[b']? = w.heap[b']? := fun b' hb' => by rw [hmb, if_neg hb']
      have sr1 := hs.write b _ p hS hp hsz0 hother (fun a v ha => by
        rw [← hs.phi a v ha]
        exact cell_same (hother _ (hphi a v ha))) (.cells k (ts.map encD)) (by
        refine ⟨hpk, hoff, by simp only [List.length_map]; omega, fun r hr => ?_, hphi, _, el, (hmb p.blk).trans (if_pos rfl), by simpa [putCells] using hasz, fun i j hi hj => ?_⟩
        · obtain ⟨z, _, rfl⟩ := List.mem_map.1 hr
          exact hkD z
        · simp only [List.length_map] at hi
          have hi3 : i * k + j < ts.length * k := by
            have : (i + 1) * k ≤ ts.length * k := Nat.mul_le_mul_right k hi
            rw [Nat.add_mul, Nat.one_mul] at this
            omega
          have hi2 : i * k + j < arr.size := htot _ (by rw [← hlen]; exact hi3)
          have hg : (((ts.map encD).getD i []).getD j .nilp) = (encD (ts[i])).getD j .nilp := by simp [List.getD_eq_getElem?_getD, hi]
          have hd1 : (i * k + j) / k = i := by
            rw [Nat.add_comm, Nat.add_mul_div_right _ _ hk0, Nat.div_eq_of_lt hj, Nat.zero_add]
          have hd2 : (i * k + j) % k = j := by
            rw [Nat.add_comm, Nat.add_mul_mod_self_right, Nat.mod_eq_of_lt hj]
          have hv : (putCells id 0 (flatK enc k ts.toArray) arr).getD (i * k + j) undef = (enc (ts[i])).getD j undef := by
            have hflat := get_flatK enc k ts.toArray (i * k + j) (by simpa using hi3)
            rw [hd1, hd2, list_getD (by rw [hk]; exact hj)] at hflat
            have ht0 : ts.toArray[i]! = ts[i] := by simp [hi]
            rw [ht0] at hflat
            rw [← hflat]
            simp [putCells, Array.getD, hi2, hi3]
          rw [hg, hv]
          exact hrep _ _ _ _ hj)
      have t1 : Trans S.nx φ ρ S w φ ρ (S.put b _) (putRowK enc k (Sort.ahead w n) p.blk 0 ts.toArray) := Trans.write S.nx b _ p hS hp hsz0 rfl rfl rfl (Nat.le_add_right _ _) hother (some (.cells k (ts.map encD)))
      have hsz2 : (putRowK enc k (Sort.ahead w n) p.blk 0 ts.toArray).heap.size ≤ (grow (putRowK enc k (Sort.ahead w n) p.blk 0 ts.toArray) os).heap.size := by simp [grow]
      have hold : ∀ b', b' < (putRowK enc k (Sort.ahead w n) p.blk 0 ts.toArray).heap.size → (grow (putRowK enc k (Sort.ahead w n) p.blk 0 ts.toArray) os).heap[b']? = (putRowK enc k (Sort.ahead w n) p.blk 0 ts.toArray).heap[b']? := fun b' hb' => by
        simp only [grow]
        exact Array.getElem?_append_left hb'
      exact ⟨.tup [], φ, ρ, _, ⟨rfl, rfl⟩, .tup #[] [] rfl (by simp), sr1.more hsz2 hold, t1.trans (Trans.more _ hsz2 hold rfl rfl rfl (Nat.le_refl _))⟩
end Go.Proofs.YtfmicbbflpkdgaaGreatDoor.D
/-
  The library's sorting of edges, at this program.
-/
namespace Go.Proofs.YtfmicbbflpkdgaaGreatDoor.D
open Go.Shelf Go.Sort Go.RowKit
variable {P : Program} {G : List (List DV)} {S : DS}
theorem DCalls.of_nil2 {f g k : Nat} (hb : HasBody P f) (hc : ∀ p cap w, Calls P f #[.slice p 0 cap, .func (.func g) #[] #[]] w fun e w' => e = .returned (.tuple #[]) ∧ w' = w) : DCalls P G f [.isl k (some true) [] .ex, .func g [] []] S fun d D => d = .tup [] ∧ D = S := by
  refine ⟨hb, fun φ ρ w va hs ha => ?_⟩
  obtain ⟨hsz, hrep0⟩ := ha
  have h0 := hrep0 0 (by simp)
  have h1 := hrep0 1 (by simp)
  have hva : va = #[va.getD 0 undef, va.getD 1 undef] := by
    apply Array.ext
    · simpa using hsz
    · intro i h1 h2
      have h2 : i < 2 := by simpa using h2
      match i, h2 with
      | 0, _ => simp [Array.getD, h1]
      | 1, _ => simp [Array.getD, h1]
  rw [hva]
  simp only [List.getD_cons_zero] at h0
  have h1 : Rep φ ρ (va.getD 1 undef) (.func g [] []) := h1
  generalize va.getD 0 undef = v at h0
  generalize va.getD 1 undef = u at h1
  cases h1 with
  | func f A B fa fb hA hB g1 g2 =>
    obtain rfl : A = #[] := by simpa using hA
    obtain rfl : B = #[] := by simpa using hB
    generalize hd : DV.isl k (some true) [] .ex = d at h0
    cases h0 with
    | isl a n C k nf rows tl c hn hC hk hnf hz hc' hr ht =>
      injection hd with h1 h2 h3 h4
      subst h3
      have hn : n = 0 := hn.symm
      subst hn
      refine (hc a C w).mono fun e w' ⟨he, hw⟩ => ?_
      subst he
      subst hw
      exact ⟨.tup [], φ, ρ, S, ⟨rfl, rfl⟩, .tup #[] [] rfl (by simp), hs, Trans.refl ..⟩
    | _ => cases hd
def encE2 (p : NEd) : List Value := [.int .i64 (p.1 : Int), .int .i64 (p.2 : Int)]
theorem ltE_of {x y : NEd} : ltOf cfE x y = decide (ltE x y) := decide_eq_decide.2 cfE_lt
theorem sortEOk (ht : TabOk Tryz.prog gl tab.get) : SortEOk Tryz.prog gl where
  edge S b es c hS hpos hlt := by
    have hO : SWO (ltOf cfE) := ⟨fun x => by rw [ltE_of]; simp [ltE], fun x y z h1 h2 => by
      rw [ltE_of, decide_eq_true_eq] at *
      simp only [ltE] at *
      omega, fun x y z h1 h2 => by
      rw [ltE_of, decide_eq_false_iff_not] at *
      simp only [ltE] at *
      omega⟩
    have hT : ∀ x y : NEd, ltOf cfE x y = false → ltOf cfE y x = false → x = y := fun x y h1 h2 => by
      rw [ltE_of, decide_eq_false_iff_not] at *
      simp only [ltE] at *
      exact Prod.ext (by omega) (by omega)
    have eg : ∀ args w, (callFunc 36 args).run Tryz.prog w = .ok (.enter 36 args) w := enters_of Tryz.func36 (by kernel_rfl) rfl
    refine (DCalls.of_sortK (enc := encE2) (encD := rE) (k := 2) (zs := es) (ts := es.mergeSort fun x y => !ltOf cfE y x) gl_ok (by decide) (fun _ => rfl) (fun _ => rfl) (fun x j φ ρ hj => ?_) (fun v x j φ ρ hj h => ?_) (fun x y => f36 ht x y) ⟨_, _, Tryz.func35, by kernel_rfl, rfl⟩ (List.length_mergeSort _) (fun blk off cap w hl hH hb => ?_) hS hpos).mono fun d D ⟨h1, h2⟩ => ⟨h1, _, List.mergeSort_perm _ _, ?_, h2⟩
    · match j, hj with
      | 0, _ => exact .int _ _
      | 1, _ => exact .int _ _
    · match j, hj with
      | 0, _ => exact rep_int h
      | 1, _ => exact rep_int h
    · exact AnyQ.slices_SortFunc_total Tryz.sortE 2 Tryz.isAgg42 Tryz.sizeOf42 encE2 (fun _ => rfl) (fun x v hv => by
        simp only [encE2, List.mem_cons, List.not_mem_nil, or_false] at hv
        rcases hv with rfl | rfl <;> rfl) cfE hO 36 #[] blk off cap es.toArray w eg hl hH hb (by simpa using hlt) hT
    · refine (List.pairwise_mergeSort (le := fun x y => !ltOf cfE y x) (fun a b c h1 h2 => ?_) (fun a b => ?_) es).imp fun {x y} h => ?_
      · have h1 : ¬ ltE b a := by simpa [ltE_of] using h1
        have h2 : ¬ ltE c b := by simpa [ltE_of] using h2
        have h3 : ¬ ltE c a := by
          simp only [ltE] at *
          omega
        simpa [ltE_of] using h3
      · have h3 : ¬ ltE b a ∨ ¬ ltE a b := by
          simp only [ltE]
          omega
        simpa [ltE_of] using h3
      · simpa [ltE_of] using h
  edge0 S := DCalls.of_nil2 ⟨_, _, Tryz.func35, by kernel_rfl, rfl⟩ fun p cap w => AnyF.slices_SortFunc_none Tryz.sortE p cap _ w
end Go.Proofs.YtfmicbbflpkdgaaGreatDoor.D
