/-
  The listed variables in the world; a unit among the arguments.
-/
import Derived.Test.YtfmicbbflpkdgaaGreatDoorA34
import Derived.Test.YtfmicbbflpkdgaaGreatDoorA35
import Derived.Test.YtfmicbbflpkdgaaGreatDoorA33
import Derived.Test.YtfmicbbflpkdgaaGreatDoorTie
import Derived.Test.YtfmicbbflpkdgaaGreatDoorCards
import Derived.ProofKit
import Derived.OpenShut
import Derived.LaidMore
import Derived.Lay
import Derived.SevenTiedAt
import Derived.Stop.Joined
import Derived.MakeChecks
import Derived.WideKeyArgs
set_option linter.unusedVariables false
set_option linter.unusedSimpArgs false
namespace Go.Proofs.YtfmicbbflpkdgaaGreatDoor.D
open Go.ChangeShapes Go.WideShapes Go.ChangeAt Go.RowKit
theorem own : ownKnob Tryz.prog.godebug = none := by kernel_rfl
theorem laidOut : laidOutB Tryz.prog = true := by kernel_rfl
theorem str_cell {H : Type} {enc : TypeId × Value → H} {P : Program} {W : World} {sp : Nat → Bool} {hd : Bool} {nm : String} {g t e n fuel : Nat} {cs : Array Value} {bs : List (List UInt8)} {p : List MemPlace} (hg : P.globalNamed nm = some g) (hv : W.var? P nm = some cs) (ht : P.underlying t = some (.array n e)) (he : P.underlying e = some .string) (hc : P.cellsOf e = 1)
    (h : DataW.trod enc P W 0 sp hd fuel t cs.toList = some (.agg (bs.map fun b => .lit (.string b)), p)) (j : Nat) (hj : j < bs.length) : W.cell? ⟨g, j, none⟩ = some (.string ⟨bs[j].toArray⟩) := by
  obtain ⟨xs, m, _, ex, _, hl, hel⟩ := DataW.trod_array ht h
  have e3 : (xs.map (·.1)) = bs.map fun b => .lit (.string b) := (DataW.agg.inj (Prod.mk.inj ex).1).symm
  have hlen : xs.length = bs.length := by
    have := congrArg List.length e3
    simpa using this
  have hE := hel j (by omega)
  rw [hc, Nat.mul_one, List.getElem?_eq_getElem (by omega)] at hE
  obtain ⟨s, e1, e2, _⟩ := DataW.trod_string he hE
  have e4 : (xs.map (·.1))[j]? = (bs.map fun b => (DataW.lit (.string b) : DataW H))[j]? := by rw [e3]
  rw [List.getElem?_map, List.getElem?_map, List.getElem?_eq_getElem (by omega : j < xs.length), List.getElem?_eq_getElem hj, e2] at e4
  simp only [Option.map_some, Option.some.injEq, DataW.lit.injEq, Lit.string.injEq] at e4
  have hs : s = ⟨bs[j].toArray⟩ := by
    cases s
    simp only at e4
    rw [← e4]
  rw [World.var?_cell hg hv j]
  have : cs.toList[j]? = some (.string s) := by
    have h0 : ((cs.toList.drop j).take 1)[0]? = some (.string s) := by rw [e1]; rfl
    simpa using h0
  rw [← hs]
  simpa using this
theorem rep_row_str {φ : Phi} {ρ : Rho} {g : Nat} {bs : List (List UInt8)} (h : ∀ j (hj : j < bs.length), φ ⟨g, j, none⟩ = some (.string ⟨bs[j].toArray⟩)) : Rep φ ρ (.pointer (some ⟨g, 0, none⟩)) (.iptr (bs.map encB) 0) := by
  have hadd : ∀ j, (⟨g, 0, none⟩ : Addr).add j = ⟨g, j, none⟩ := fun j => by
    unfold Addr.add
    by_cases hj : j = 0
    · simp [hj]
    · simp [hj]
  have := Rep.iptr (φ := φ) (ρ := ρ) ⟨g, 0, none⟩ (bs.map encB) 0 (fun j => .string ⟨(bs.getD j []).toArray⟩) (fun j hj => ?_) (fun j hj => ?_)
  · rw [hadd] at this
    exact this
  · have hj : j < bs.length := by simpa using hj
    rw [hadd, h j hj]
    simp [List.getD_eq_getElem?_getD, hj]
  · have hj : j < bs.length := by simpa using hj
    have hg : (bs.map encB).getD j .nilp = encB bs[j] := by simp [List.getD_eq_getElem?_getD, hj]
    rw [hg, List.getD_eq_getElem?_getD, List.getElem?_eq_getElem hj]
    exact .str _ _ rfl
def bsM : List (List UInt8) := [[58, 58], [61, 61], [58], [123], [125], [40], [41], [59], [44], [46], [61], [60], [43], [45], [42]]
def bsK : List (List UInt8) := [[99, 108, 97, 115, 115], [101, 120, 116, 101, 110, 100, 115], [118, 97, 114], [100, 101, 102], [115, 116, 97, 116, 105, 99], [105, 102], [101, 108, 115, 101], [119, 104, 105, 108, 101], [116, 114, 121], [99, 97, 116, 99, 104], [116, 104, 114, 111, 119], [114, 101, 116, 117, 114, 110], [110, 101, 119], [110, 117, 108, 108], [116, 104, 105, 115], [105, 110, 112, 117, 116], [105, 110, 116]]
theorem gl_eq : gl = [bsM.map encB, bsK.map encB] := by kernel_rfl
def laidL : List (String × DataW Unit) := [("math/bits.deBruijn32tab", Rows.laid_math_bits_deBruijn32tab), ("math/bits.deBruijn64tab", Rows.laid_math_bits_deBruijn64tab), ("internal/strconv.uint64pow10", Rows.laid_internal_strconv_uint64pow10), ("dataflow/lex.keywords", Rows.laid_dataflow_lex_keywords), ("dataflow/lex.marks", Rows.laid_dataflow_lex_marks)]
theorem sr0 {W : World} (h : laidMetH Tryz.prog laidL W) : SR gl (phiW W) rho0 S0 W := by
  rw [MakeChecks.laidMetH_plain _ _ _ (by kernel_rfl)] at h
  obtain ⟨ps, ⟨_, _, _, _, _, _, _, _, _, _, ⟨_, _, _, _, _, _, _, _, _, _, ⟨_, _, _, _, _, _, _, _, _, _, ⟨g1, t1, cs1, fuel1, p1, q1, hg1, ht1, hv1, hd1, ⟨g0, t0, cs0, fuel0, p0, q0, hg0, ht0, hv0, hd0, _, _⟩, _⟩, _⟩, _⟩, _⟩, _, _⟩ := h
  obtain rfl := Option.some.inj ((show Tryz.prog.globalNamed "dataflow/lex.keywords" = some 1 by kernel_rfl).symm.trans hg1)
  obtain rfl := Option.some.inj ((show Tryz.prog.globalNamed "dataflow/lex.marks" = some 0 by kernel_rfl).symm.trans hg0)
  obtain rfl := Option.some.inj ((show (Tryz.prog.globals[1]?).map (·.type) = some 286 by kernel_rfl).symm.trans ht1)
  obtain rfl := Option.some.inj ((show (Tryz.prog.globals[0]?).map (·.type) = some 261 by kernel_rfl).symm.trans ht0)
  have e1 : Rows.laid_dataflow_lex_keywords (H := Unit) = .agg (bsK.map fun b => .lit (.string b)) := rfl
  have e0 : Rows.laid_dataflow_lex_marks (H := Unit) = .agg (bsM.map fun b => .lit (.string b)) := rfl
  rw [e1] at hd1
  rw [e0] at hd0
  refine ⟨fun _ _ h => h, fun id o ho => (by cases ho), fun id id' o o' p p' ho => (by cases ho), fun id p hp => (by cases hp), fun g row hr => ?_⟩
  rw [gl_eq] at hr
  match g with
  | 0 =>
    simp only [nth, Option.some.injEq] at hr
    subst hr
    exact rep_row_str fun j hj => str_cell hg0 hv0 Tryz.underlying261 Tryz.underlying9 (by kernel_rfl) hd0 j hj
  | 1 =>
    simp only [nth, Option.some.injEq] at hr
    subst hr
    exact rep_row_str fun j hj => str_cell hg1 hv1 Tryz.underlying286 Tryz.underlying9 (by kernel_rfl) hd1 j hj
  | g + 2 => simp [nth] at hr
/-- What a law of the D machine comes to in the world. -/
theorem law_of {f : Nat} {args : List DV} {va : Array Value} {W : World} (hv : Val Tryz.prog gl f args fun d => d = .bool true) (hs : SR gl (phiW W) rho0 S0 W) (ha : RepL (phiW W) rho0 va args) :
    Calls Tryz.prog f va W fun e W' => e = .returned (.bool true) ∧ Below W.heap.size W W' := by
  refine ((hv S0).2 _ _ W va hs ha).mono fun e W' h => ?_
  cases e with
  | returned v =>
    obtain ⟨d, φ', ρ', S', ⟨rfl, _⟩, h2, _, h4⟩ := h
    rw [rep_bool h2]
    exact ⟨rfl, h4.os, h4.tape, h4.output, h4.size, fun b hb => h4.frame b hb not_own0⟩
  | panicked c => exact h.elim
  | outgrown => exact h.elim
set_option maxRecDepth 100000 in
/-- A unit among the arguments. -/
theorem unit_arg {H : Type} {enc : TypeId × Value → H} {W : World} {base : Nat} {v : Value} {d : DataW H} {p : List MemPlace} (hval : Value.okWide Tryz.prog W .any base 27 v) (h : DataW.Trod enc Tryz.prog W 0 (fun _ => true) true 27 v d p) (hl : Lim Tryz.prog 27 d) : ∃ u, UW u ∧ Rep (phiW W) rho0 v (.agg (eUn u)) := by
  obtain ⟨fuel, hf⟩ := h
  obtain ⟨cs, rfl, _⟩ := okWide_struct Tryz.underlying27 hval
  clear hval
  obtain ⟨u, h1, h2, h3, h4⟩ := r27.2 _ _ _ hf hl
  refine ⟨u, h1, .agg cs (eUn u) ?_ fun i hi => ?_⟩
  · rw [h3]
    simpa [Value.cells] using h2
  · have := h4 i (by omega)
    simpa [Value.cells, List.getD_eq_getElem?_getD, Array.getD_eq_getD_getElem?] using this
end Go.Proofs.YtfmicbbflpkdgaaGreatDoor.D
