/-
  Arguments: what stands in the world, as the D machine's values.
-/
import Derived.Test.YtfmicbbflpkdgaaGreatDoorA29
import Derived.SizedLaws
import Derived.ChangeArms
import Derived.Test.YtfmicbbflpkdgaaGreatDoorRows
import Derived.KernelRfl
set_option linter.unusedVariables false
set_option linter.unusedSimpArgs false
namespace Go.Proofs.YtfmicbbflpkdgaaGreatDoor.D
variable {H : Type} {enc : TypeId × Value → H} {P : Program} {w : World} {t e : TypeId}
def phiW (w : World) : Phi := fun a => w.cell? a
def rho0 : Rho := fun _ => none
def Lim (P : Program) (t : TypeId) (d : DataW H) : Prop := ∀ n, n ∈ d.weights P t → n ≤ reachBytes
theorem lim_lt {n : Nat} (h : n ≤ reachBytes) : n < 4611686018427387904 := Nat.lt_of_le_of_lt h (Nat.lt_trans reachBytes_lt (by decide))
/-- A value of one cell. -/
def Rd1 (enc : TypeId × Value → H) (P : Program) (w : World) (t : TypeId) (R : DV → Prop) : Prop := P.cellsOf t = 1 ∧ ∀ fuel cs x, DataW.trod enc P w 0 (fun _ => true) true fuel t cs = some x → Lim P t x.1 → ∃ v d, cs = [v] ∧ R d ∧ Rep (phiW w) rho0 v d
/-- A row of cells. -/
def RdR {α : Type} (enc : TypeId × Value → H) (P : Program) (w : World) (t : TypeId) (k : Nat) (en : α → List DV) (W : α → Prop) : Prop := P.cellsOf t = k ∧ ∀ fuel cs x, DataW.trod enc P w 0 (fun _ => true) true fuel t cs = some x → Lim P t x.1 → ∃ y, W y ∧ cs.length = k ∧ (en y).length = k ∧ ∀ j, j < k → Rep (phiW w) rho0 (cs.getD j undef) ((en y).getD j .nilp)
theorem rd_bool (ht : P.underlying t = some .bool) (hc : P.cellsOf t = 1) : Rd1 enc P w t fun d => ∃ b, d = .bool b :=
  ⟨hc, fun _ _ _ h _ => by
    obtain ⟨b, h1, _⟩ := DataW.trod_bool ht h
    exact ⟨_, _, h1, ⟨b, rfl⟩, .bool b⟩⟩
theorem rd_int (ht : P.underlying t = some (.int .i64)) (hc : P.cellsOf t = 1) : Rd1 enc P w t fun d => ∃ n, d = .int .i64 n :=
  ⟨hc, fun _ _ _ h _ => by
    obtain ⟨b, h1, _⟩ := DataW.trod_int ht h
    exact ⟨_, _, h1, ⟨b, rfl⟩, .int _ b⟩⟩
theorem rd_str (ht : P.underlying t = some .string) (hc : P.cellsOf t = 1) : Rd1 enc P w t fun d => ∃ s : Str, d = .str s ∧ s.length < 4611686018427387904 :=
  ⟨hc, fun _ _ x h hl => by
    obtain ⟨s, h1, h2, _⟩ := DataW.trod_string ht h
    refine ⟨_, _, h1, ⟨bytesN s, rfl, lim_lt (hl _ ?_)⟩, .str s _ rfl⟩
    rw [h2]
    simp [DataW.weights, bytesN]⟩
theorem cells_get {a : Addr} {k : Nat} {cs : List Value} (h : w.cells? 0 a k = some cs) : cs.length = k ∧ ∀ j, j < k → w.cell? (a.add j) = some (cs.getD j undef) := by
  unfold World.cells? at h
  rw [if_pos (Nat.zero_le _)] at h
  have hl : cs.length = k := by simpa using mapM_some_length h
  refine ⟨hl, fun j hj => ?_⟩
  have := mapM_some_get h j j (by simp [hj])
  rw [this]
  have h2 : j < cs.length := by omega
  simp [List.getD_eq_getElem?_getD, h2]
theorem rd_slice {α : Type} [Inhabited α] {k : Nat} {en : α → List DV} {W : α → Prop} (ht : P.underlying t = some (.slice e)) (hc : P.cellsOf t = 1) (hb : 1 ≤ P.bytesOf e) (he : RdR enc P w e k en W) : Rd1 enc P w t fun d => ∃ l : List α, d = .isl k none (l.map en) .no ∧ l.length < 4611686018427387904 ∧ ∀ y, y ∈ l → W y := by
  refine ⟨hc, fun fuel cs x h hl => ?_⟩
  rcases DataW.trod_slice ht h with ⟨rfl, rfl⟩ | ⟨a, len, cap, elems, rest, n, _, rfl, rfl, _, hlc, _, hlen, hel, _, _⟩
  · exact ⟨_, _, rfl, ⟨[], rfl, by simp, by simp⟩, .isl none 0 0 k none [] .no (fun _ _ => undef) rfl (Nat.le_refl _) (by simp) (by simp) (fun _ => rfl) (by simp) (fun i j hi => by omega) trivial⟩
  · have hwt : ∀ p, p ∈ elems → Lim P e p.1 := fun p hp n hn => hl n (by
      simp only [DataW.weights, ht]
      refine List.mem_cons_of_mem _ (List.mem_append_left _ ?_)
      have hall : ∀ (l : List (DataW H)) (d : DataW H), d ∈ l → n ∈ d.weights P e → n ∈ DataW.weightsAll P e l := by
        intro l
        induction l with
        | nil => intro d hd; simp at hd
        | cons a l ih =>
          intro d hd hn
          simp only [DataW.weightsAll, List.mem_append]
          rcases List.mem_cons.1 hd with rfl | hd
          · exact .inl hn
          · exact .inr (ih d hd hn)
      exact hall _ _ (List.mem_map_of_mem hp) hn)
    have hlen2 : len < 4611686018427387904 := by
      refine lim_lt (hl _ ?_ |> fun (h : (elems.length + rest.length) * P.bytesOf e ≤ reachBytes) => Nat.le_trans ?_ h)
      · rw [← hlen]
        exact Nat.le_trans (Nat.le_add_right _ _) (Nat.le_mul_of_pos_right _ hb)
      · simp [DataW.weights, ht]
    have hw : ∀ i : Nat, ∃ p : List Value × α, i < len → (∀ j, j < k → w.cell? (a.add (i * k + j)) = some (p.1.getD j undef)) ∧ W p.2 ∧ (en p.2).length = k ∧ ∀ j, j < k → Rep (phiW w) rho0 (p.1.getD j undef) ((en p.2).getD j .nilp) := by
      intro i
      by_cases hi : i < len
      · have h1 := hel i hi
        have h2 : i < elems.length := by omega
        rw [List.getElem?_eq_getElem h2, Option.bind_eq_some_iff] at h1
        obtain ⟨cs', g1, g2⟩ := h1
        obtain ⟨y, r1, r2, r3, r4⟩ := he.2 _ _ _ g2 (hwt _ (List.getElem_mem h2))
        rw [he.1] at g1
        obtain ⟨g3, g4⟩ := cells_get g1
        exact ⟨(cs', y), fun _ => ⟨fun j hj => by rw [← add_add]; exact g4 j hj, r1, r3, r4⟩⟩
      · exact ⟨([], default), fun h => absurd h hi⟩
    obtain ⟨F, hF⟩ := Classical.axiomOfChoice hw
    have hF : ∀ i, i < len → (∀ j, j < k → w.cell? (a.add (i * k + j)) = some ((F i).1.getD j undef)) ∧ W (F i).2 ∧ (en (F i).2).length = k ∧ ∀ j, j < k → Rep (phiW w) rho0 ((F i).1.getD j undef) ((en (F i).2).getD j .nilp) := hF
    refine ⟨_, _, rfl, ⟨(List.range len).map fun i => (F i).2, rfl, by simpa using hlen2, fun y hy => ?_⟩, ?_⟩
    · obtain ⟨i, hi, rfl⟩ := List.mem_map.1 hy
      exact (hF i (List.mem_range.1 hi)).2.1
    · refine .isl (some a) len cap k none _ .no (fun i j => (F i).1.getD j undef) (by simp) hlc (fun r hr => ?_) (by simp) (by simp) (fun ad had i j hi hj => ?_) (fun i j hi hj => ?_) trivial
      · obtain ⟨y, hy, rfl⟩ := List.mem_map.1 hr
        obtain ⟨i, hi, rfl⟩ := List.mem_map.1 hy
        exact (hF i (List.mem_range.1 hi)).2.2.1
      · cases had
        exact (hF i hi).1 j hj
      · have hg : ((((List.range len).map fun i => (F i).2).map en).getD i []) = en (F i).2 := by simp [List.getD_eq_getElem?_getD, hi]
        rw [hg]
        exact (hF i hi).2.2.2 j hj
/-- A struct's fields. -/
theorem rd_fields {fs : Array Field} {fuel : Nat} {cs : List Value} {x : DataW H × List MemPlace} (ht : P.underlying t = some (.struct fs)) (h : DataW.trod enc P w 0 (fun _ => true) true fuel t cs = some x) (hl : Lim P t x.1) :
    cs.length = P.cellsOf t ∧ ∀ (i : Nat) (f : Field) (R : DV → Prop), fs[i]? = some f → Rd1 enc P w f.type R → ∃ d, R d ∧ Rep (phiW w) rho0 (cs.getD f.offset undef) d := by
  obtain ⟨xs, n, _, rfl, h1, h2, h3⟩ := DataW.trod_struct ht h
  refine ⟨h1, fun i f R hf ⟨hc, hr⟩ => ?_⟩
  have hi : i < xs.length := by
    rw [h2]
    exact (Array.getElem?_eq_some_iff.1 hf).1
  have h4 := h3 i f hf
  rw [List.getElem?_eq_getElem hi] at h4
  obtain ⟨v, d, g1, g2, g3⟩ := hr _ _ _ h4 fun n hn => hl n (by
    simp only [DataW.weights, ht]
    refine DataW.weights_mem_each (j := i) (t := f.type) (d := xs[i].1) ?_ ?_ n hn
    · rw [List.getElem?_map, Array.getElem?_toList, hf]
      rfl
    · rw [List.getElem?_map, List.getElem?_eq_getElem hi]
      rfl)
  rw [hc] at g1
  refine ⟨d, g2, ?_⟩
  have hg : cs.getD f.offset undef = v := by
    have h5 := congrArg (fun l => l[0]?) g1
    simp only [List.getElem?_take, List.getElem?_drop, Nat.add_zero, Nat.zero_lt_one, if_true, List.getElem?_cons_zero] at h5
    rw [List.getD_eq_getElem?_getD, h5]
    rfl
  rw [hg]
  exact g3
end Go.Proofs.YtfmicbbflpkdgaaGreatDoor.D
/-
  Arguments: a unit in the world, and the listed variables.
-/
namespace Go.Proofs.YtfmicbbflpkdgaaGreatDoor.D
variable {H : Type} {enc : TypeId × Value → H} {P : Program} {w : World} {t e : TypeId}
theorem rd_row {α : Type} {e1 : α → DV} {W : α → Prop} {R : DV → Prop} (h : Rd1 enc P w t R) (hR : ∀ d, R d → ∃ y, W y ∧ d = e1 y) : RdR enc P w t 1 (fun y => [e1 y]) W :=
  ⟨h.1, fun fuel cs x h1 h2 => by
    obtain ⟨v, d, rfl, h3, h4⟩ := h.2 fuel cs x h1 h2
    obtain ⟨y, h5, rfl⟩ := hR d h3
    exact ⟨y, h5, rfl, rfl, fun j hj => by
      have : j = 0 := by omega
      subst this
      exact h4⟩⟩
theorem rd_struct1 {f : Field} {R : DV → Prop} (ht : P.underlying t = some (.struct #[f])) (hc : P.cellsOf t = 1) (ho : f.offset = 0) (h : Rd1 enc P w f.type R) : Rd1 enc P w t R :=
  ⟨hc, fun fuel cs x h1 h2 => by
    obtain ⟨h3, h4⟩ := rd_fields ht h1 h2
    rw [hc] at h3
    obtain ⟨v, rfl⟩ := List.length_eq_one_iff.1 h3
    obtain ⟨d, h5, h6⟩ := h4 0 f R rfl h
    rw [ho] at h6
    exact ⟨v, d, rfl, h5, h6⟩⟩
instance : Inhabited NField := ⟨⟨[], []⟩⟩
instance : Inhabited NSig := ⟨⟨[], false, [], []⟩⟩
instance : Inhabited NClass := ⟨⟨[], [], [], []⟩⟩
instance : Inhabited NInstr := ⟨⟨0, 0, 0, 0, 0, [], [], [], 0, 0⟩⟩
instance : Inhabited NFunc := ⟨⟨[], [], false, 0, [], [], []⟩⟩
abbrev Fin62 (n : Nat) : Prop := n < 4611686018427387904
def WF (f : NField) : Prop := Fin62 f.name.length
def WS (s : NSig) : Prop := Fin62 s.name.length ∧ Fin62 s.params.length
def WC (c : NClass) : Prop := Fin62 c.name.length ∧ (Fin62 c.fields.length ∧ ∀ f, f ∈ c.fields → WF f) ∧ (Fin62 c.methods.length ∧ ∀ s, s ∈ c.methods → WS s)
def WI (x : NInstr) : Prop := Fin62 x.args.length
def WN (f : NFunc) : Prop := (Fin62 f.vars.length ∧ ∀ v, v ∈ f.vars → WF v) ∧ (Fin62 f.code.length ∧ ∀ x, x ∈ f.code → WI x)
abbrev SlR {α : Type} (k : Nat) (en : α → List DV) (W : α → Prop) : DV → Prop := fun d => ∃ l : List α, d = .isl k none (l.map en) .no ∧ l.length < 4611686018427387904 ∧ ∀ y, y ∈ l → W y
theorem r4 : Rd1 enc Tryz.prog w 4 fun d => ∃ b, d = .bool b := rd_bool Tryz.underlying4 (by kernel_rfl)
theorem r3 : Rd1 enc Tryz.prog w 3 fun d => ∃ n, d = .int .i64 n := rd_int Tryz.underlying3 (by kernel_rfl)
theorem r2 : Rd1 enc Tryz.prog w 2 fun d => ∃ n, d = .int .i64 n := rd_int Tryz.underlying2 (by kernel_rfl)
theorem r9 : Rd1 enc Tryz.prog w 9 fun d => ∃ s : Str, d = .str s ∧ s.length < 4611686018427387904 := rd_str Tryz.underlying9 (by kernel_rfl)
theorem r9r : RdR enc Tryz.prog w 9 1 rS fun s => Fin62 s.length := rd_row r9 fun d ⟨s, h1, h2⟩ => ⟨s, h2, h1⟩
theorem r3r : RdR enc Tryz.prog w 3 1 rI fun _ => True := rd_row r3 fun d ⟨s, h1⟩ => ⟨s, trivial, h1⟩
theorem r59 : Rd1 enc Tryz.prog w 59 (SlR 1 rS fun s => Fin62 s.length) := rd_slice Tryz.underlying59 (by kernel_rfl) (Nat.le_of_ble_eq_true (by kernel_rfl)) r9r
theorem r31 : Rd1 enc Tryz.prog w 31 (SlR 1 rI fun _ => True) := rd_slice Tryz.underlying31 (by kernel_rfl) (Nat.le_of_ble_eq_true (by kernel_rfl)) r3r
theorem r163 : RdR enc Tryz.prog w 163 2 eF WF := ⟨by kernel_rfl, fun fuel cs x h hl => by
  obtain ⟨hlen, hf⟩ := rd_fields Tryz.underlying163 h hl
  rw [show Tryz.prog.cellsOf 163 = 2 by kernel_rfl] at hlen
  obtain ⟨_, ⟨s0, rfl, l0⟩, q0⟩ := hf 0 _ _ rfl r9
  obtain ⟨_, ⟨s1, rfl, l1⟩, q1⟩ := hf 1 _ _ rfl r9
  exact ⟨⟨s0, s1⟩, l0, hlen, rfl, fun j hj => match j, hj with | 0, _ => q0 | 1, _ => q1⟩⟩
theorem r52 : Rd1 enc Tryz.prog w 52 (SlR 2 eF WF) := rd_slice Tryz.underlying52 (by kernel_rfl) (Nat.le_of_ble_eq_true (by kernel_rfl)) r163
theorem r104 : RdR enc Tryz.prog w 104 4 eSg WS := ⟨by kernel_rfl, fun fuel cs x h hl => by
  obtain ⟨hlen, hf⟩ := rd_fields Tryz.underlying104 h hl
  rw [show Tryz.prog.cellsOf 104 = 4 by kernel_rfl] at hlen
  obtain ⟨_, ⟨s0, rfl, l0⟩, q0⟩ := hf 0 _ _ rfl r9
  obtain ⟨_, ⟨s1, rfl⟩, q1⟩ := hf 1 _ _ rfl r4
  obtain ⟨_, ⟨s2, rfl, l2, _⟩, q2⟩ := hf 2 _ _ rfl r59
  obtain ⟨_, ⟨s3, rfl, l3⟩, q3⟩ := hf 3 _ _ rfl r9
  exact ⟨⟨s0, s1, s2, s3⟩, ⟨l0, l2⟩, hlen, rfl, fun j hj => match j, hj with | 0, _ => q0 | 1, _ => q1 | 2, _ => q2 | 3, _ => q3⟩⟩
theorem r94 : Rd1 enc Tryz.prog w 94 (SlR 4 eSg WS) := rd_slice Tryz.underlying94 (by kernel_rfl) (Nat.le_of_ble_eq_true (by kernel_rfl)) r104
theorem r96 : RdR enc Tryz.prog w 96 4 eCl WC := ⟨by kernel_rfl, fun fuel cs x h hl => by
  obtain ⟨hlen, hf⟩ := rd_fields Tryz.underlying96 h hl
  rw [show Tryz.prog.cellsOf 96 = 4 by kernel_rfl] at hlen
  obtain ⟨_, ⟨s0, rfl, l0⟩, q0⟩ := hf 0 _ _ rfl r9
  obtain ⟨_, ⟨s1, rfl, l1⟩, q1⟩ := hf 1 _ _ rfl r9
  obtain ⟨_, ⟨s2, rfl, l2⟩, q2⟩ := hf 2 _ _ rfl r52
  obtain ⟨_, ⟨s3, rfl, l3⟩, q3⟩ := hf 3 _ _ rfl r94
  exact ⟨⟨s0, s1, s2, s3⟩, ⟨l0, l2, l3⟩, hlen, rfl, fun j hj => match j, hj with | 0, _ => q0 | 1, _ => q1 | 2, _ => q2 | 3, _ => q3⟩⟩
theorem r22 : Rd1 enc Tryz.prog w 22 (SlR 4 eCl WC) := rd_slice Tryz.underlying22 (by kernel_rfl) (Nat.le_of_ble_eq_true (by kernel_rfl)) r96
theorem r24 : Rd1 enc Tryz.prog w 24 (SlR 4 eCl WC) := rd_struct1 Tryz.underlying24 (by kernel_rfl) rfl r22
theorem r57 : RdR enc Tryz.prog w 57 10 eIn WI := ⟨by kernel_rfl, fun fuel cs x h hl => by
  obtain ⟨hlen, hf⟩ := rd_fields Tryz.underlying57 h hl
  rw [show Tryz.prog.cellsOf 57 = 10 by kernel_rfl] at hlen
  obtain ⟨_, ⟨s0, rfl⟩, q0⟩ := hf 0 _ _ rfl r3
  obtain ⟨_, ⟨s1, rfl⟩, q1⟩ := hf 1 _ _ rfl r3
  obtain ⟨_, ⟨s2, rfl⟩, q2⟩ := hf 2 _ _ rfl r3
  obtain ⟨_, ⟨s3, rfl⟩, q3⟩ := hf 3 _ _ rfl r3
  obtain ⟨_, ⟨s4, rfl⟩, q4⟩ := hf 4 _ _ rfl r2
  obtain ⟨_, ⟨s5, rfl, l5⟩, q5⟩ := hf 5 _ _ rfl r9
  obtain ⟨_, ⟨s6, rfl, l6⟩, q6⟩ := hf 6 _ _ rfl r9
  obtain ⟨_, ⟨s7, rfl, l7, _⟩, q7⟩ := hf 7 _ _ rfl r31
  obtain ⟨_, ⟨s8, rfl⟩, q8⟩ := hf 8 _ _ rfl r3
  obtain ⟨_, ⟨s9, rfl⟩, q9⟩ := hf 9 _ _ rfl r3
  exact ⟨⟨s0, s1, s2, s3, s4, s5, s6, s7, s8, s9⟩, l7, hlen, rfl, fun j hj => match j, hj with | 0, _ => q0 | 1, _ => q1 | 2, _ => q2 | 3, _ => q3 | 4, _ => q4 | 5, _ => q5 | 6, _ => q6 | 7, _ => q7 | 8, _ => q8 | 9, _ => q9⟩⟩
theorem r53 : Rd1 enc Tryz.prog w 53 (SlR 10 eIn WI) := rd_slice Tryz.underlying53 (by kernel_rfl) (Nat.le_of_ble_eq_true (by kernel_rfl)) r57
theorem r55 : RdR enc Tryz.prog w 55 7 eFn WN := ⟨by kernel_rfl, fun fuel cs x h hl => by
  obtain ⟨hlen, hf⟩ := rd_fields Tryz.underlying55 h hl
  rw [show Tryz.prog.cellsOf 55 = 7 by kernel_rfl] at hlen
  obtain ⟨_, ⟨s0, rfl, l0⟩, q0⟩ := hf 0 _ _ rfl r9
  obtain ⟨_, ⟨s1, rfl, l1⟩, q1⟩ := hf 1 _ _ rfl r9
  obtain ⟨_, ⟨s2, rfl⟩, q2⟩ := hf 2 _ _ rfl r4
  obtain ⟨_, ⟨s3, rfl⟩, q3⟩ := hf 3 _ _ rfl r3
  obtain ⟨_, ⟨s4, rfl, l4⟩, q4⟩ := hf 4 _ _ rfl r52
  obtain ⟨_, ⟨s5, rfl, l5⟩, q5⟩ := hf 5 _ _ rfl r9
  obtain ⟨_, ⟨s6, rfl, l6⟩, q6⟩ := hf 6 _ _ rfl r53
  exact ⟨⟨s0, s1, s2, s3, s4, s5, s6⟩, ⟨l4, l6⟩, hlen, rfl, fun j hj => match j, hj with | 0, _ => q0 | 1, _ => q1 | 2, _ => q2 | 3, _ => q3 | 4, _ => q4 | 5, _ => q5 | 6, _ => q6⟩⟩
theorem r25 : Rd1 enc Tryz.prog w 25 (SlR 7 eFn WN) := rd_slice Tryz.underlying25 (by kernel_rfl) (Nat.le_of_ble_eq_true (by kernel_rfl)) r55
theorem r27 : RdR enc Tryz.prog w 27 3 eUn UW := ⟨by kernel_rfl, fun fuel cs x h hl => by
  obtain ⟨hlen, hf⟩ := rd_fields Tryz.underlying27 h hl
  rw [show Tryz.prog.cellsOf 27 = 3 by kernel_rfl] at hlen
  obtain ⟨_, ⟨s0, rfl, l0, k0⟩, q0⟩ := hf 0 _ _ rfl r24
  obtain ⟨_, ⟨s1, rfl, l1, k1⟩, q1⟩ := hf 1 _ _ rfl r25
  obtain ⟨_, ⟨s2, rfl⟩, q2⟩ := hf 2 _ _ rfl r3
  exact ⟨⟨s0, s1, s2⟩, ⟨l0, fun x hx => (k0 x hx).1, fun x hx => (k0 x hx).2.1.1, fun x hx => (k0 x hx).2.1.2, fun x hx => (k0 x hx).2.2.1, fun x hx s hs => ((k0 x hx).2.2.2 s hs).1, fun x hx s hs => ((k0 x hx).2.2.2 s hs).2, l1, fun f hf => (k1 f hf).1.1, fun f hf => (k1 f hf).1.2, fun f hf => (k1 f hf).2.1, fun f hf => (k1 f hf).2.2⟩, hlen, rfl, fun j hj => match j, hj with | 0, _ => q0 | 1, _ => q1 | 2, _ => q2⟩⟩
end Go.Proofs.YtfmicbbflpkdgaaGreatDoor.D
