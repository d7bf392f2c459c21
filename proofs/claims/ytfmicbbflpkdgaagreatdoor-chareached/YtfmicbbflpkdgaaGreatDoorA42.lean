/-
  ChaReached: the arguments; the row.
-/
import Derived.Test.YtfmicbbflpkdgaaGreatDoorA41
import Derived.Test.YtfmicbbflpkdgaaGreatDoorA39
import Derived.Test.YtfmicbbflpkdgaaGreatDoorA40
set_option linter.unusedVariables false
set_option linter.unusedSimpArgs false
namespace Go.Proofs.YtfmicbbflpkdgaaGreatDoor.D
open Go.ChangeShapes Go.WideShapes Go.ChangeAt Go.RowKit
section
variable {H : Type} {enc : TypeId × Value → H} {w : World}
instance : Inhabited NCall := ⟨⟨0, 0, 0⟩⟩
theorem r51 : RdR enc Tryz.prog w 51 3 eC fun _ => True := ⟨by kernel_rfl, fun fuel cs x h hl => by
  obtain ⟨hlen, hf⟩ := rd_fields Tryz.underlying51 h hl
  rw [show Tryz.prog.cellsOf 51 = 3 by kernel_rfl] at hlen
  obtain ⟨_, ⟨s0, rfl⟩, q0⟩ := hf 0 _ _ rfl r3
  obtain ⟨_, ⟨s1, rfl⟩, q1⟩ := hf 1 _ _ rfl r3
  obtain ⟨_, ⟨s2, rfl⟩, q2⟩ := hf 2 _ _ rfl r3
  exact ⟨⟨s0, s1, s2⟩, trivial, hlen, rfl, fun j hj => match j, hj with | 0, _ => q0 | 1, _ => q1 | 2, _ => q2⟩⟩
theorem r34 : Rd1 enc Tryz.prog w 34 (SlR 3 eC fun _ => True) := rd_slice Tryz.underlying34 (by kernel_rfl) (Nat.le_of_ble_eq_true (by kernel_rfl)) r51
end
set_option maxRecDepth 100000 in
theorem calls_arg {H : Type} {enc : TypeId × Value → H} {W : World} {base : Nat} {v : Value} {d : DataW H} {p : List MemPlace} (hval : Value.okWide Tryz.prog W .any base 34 v) (h : DataW.Trod enc Tryz.prog W 0 (fun _ => true) true 34 v d p) (hl : Lim Tryz.prog 34 d) : ∃ l : List NCall, l.length < 4611686018427387904 ∧ Rep (phiW W) rho0 v (.isl 3 none (l.map eC) .no) := by
  obtain ⟨fuel, hf⟩ := h
  obtain ⟨a0, len, cap, rfl⟩ := okWide_slice Tryz.underlying34 hval
  clear hval
  obtain ⟨v, _, h1, ⟨l, rfl, h2, _⟩, h3⟩ := r34.2 _ _ _ hf hl
  obtain rfl : Value.slice a0 len cap = v := by simpa [Value.cells] using h1
  exact ⟨l, h2, h3⟩
set_option maxRecDepth 100000 in
theorem lifted (os : Os) (started : os.Started) (H : Type) (enc : TypeId × Value → H) :
    ReturnsInHanded {} Tryz.checked os 4 .any (fun w args => (Rows.chaReachedSpec.pre enc Tryz.prog Tryz.f4 Rows.chaReachedRow.domain false w args ∧ laidMetH Tryz.prog laidL w) ∧ sizedMet enc Tryz.prog Tryz.f4 (OpenSpec.ofChange Rows.chaReachedSpec) false w args)
      (Rows.chaReachedSpec.post enc Tryz.prog Tryz.f4 false true false false) := by
  refine returnsInHanded_of_change_and (C := Tryz.checked) (X := fun w _ => laidMetH Tryz.prog laidL w) (fun _ _ _ hh h => h.of_heap hh) own started (by kernel_rfl) Tryz.func4
    (ChangeSpec.witness_shaped (enc := enc) (C := Tryz.checked) (os := os) (X := fun w _ => laidMetH Tryz.prog laidL w) false (World.laidAll Tryz.prog os laidL) #[.agg #[.slice none 0 0, .slice none 0 0, .int .i64 0], .slice none 0 0] 8 (World.laidAll_os _ _ _)
      (World.shaped_of_ZipB (by kernel_rfl) (by kernel_rfl)) (by kernel_rfl) (by kernel_rfl) (by kernel_rfl)
      (by rw [MakeChecks.laidMetH_plain _ _ _ (by kernel_rfl)]; exact laidMet_laidAll _ (by kernel_rfl) (by kernel_rfl))) ?_
  intro W base args ds gs before hval0 hW _ hwt hL _
  have hval : ∀ (j : Nat) t v, Tryz.f4.params[j]? = some t → args[j]? = some v → Value.okWide Tryz.prog W .any base t v := hval0
  have hW' := hW
  obtain ⟨p, q, hA0, hV, rfl, _, _⟩ := hW
  have hA : DataW.TrodAll enc Tryz.prog W 0 (fun _ => true) true Tryz.f4.params.toList args.toList ds p := hA0
  have hwt2 : (DataW.weightsEach Tryz.prog (Tryz.f4.params.toList ++ []) (ds ++ gs)).all (· ≤ reachBytes) = true := hwt
  rw [Tryz.params4] at hA hval hwt2
  obtain ⟨v0, vs0, d0, ds0, p0, q0, hargs, rfl, rfl, h0, r0⟩ := trodAll_cons hA
  obtain ⟨v1, vs1, d1, ds1, p1, q1, rfl, rfl, rfl, h1, r1⟩ := trodAll_cons r0
  obtain ⟨rfl, rfl, rfl⟩ := trodAll_nil r1
  obtain rfl : args = #[v0, v1] := by cases args; simp_all
  obtain ⟨rfl, rfl⟩ := trodVars_none hV
  have hlim : Lim Tryz.prog 27 d0 := fun n hn => by
    have := List.all_eq_true.1 hwt2 n (DataW.weights_mem_each (j := 0) (t := 27) (d := d0) rfl rfl n hn)
    simpa using this
  have hlim1 : Lim Tryz.prog 34 d1 := fun n hn => by
    have := List.all_eq_true.1 hwt2 n (DataW.weights_mem_each (j := 1) (t := 34) (d := d1) rfl rfl n hn)
    simpa using this
  obtain ⟨u, hu, hrep⟩ := unit_arg (hval 0 27 v0 rfl rfl) h0 hlim
  obtain ⟨l, hl, hrep1⟩ := calls_arg (hval 1 34 v1 rfl rfl) h1 hlim1
  have hlt : ∀ x ∈ p0, x.block < W.heap.size := fun x hx => hW'.lt x (by simp [hx])
  have hlt1 : ∀ x ∈ p1, x.block < W.heap.size := fun x hx => hW'.lt x (by simp [hx])
  simp only [List.append_nil] at hW'
  refine (law_of (f4 world0 (sortEOk world0.tab) u hu l hl) (sr0 hL) (va := #[v0, v1]) ⟨rfl, fun i hi => ?_⟩).mono fun e W' ⟨he, hb⟩ => ?_
  · match i, hi with
    | 0, _ => exact hrep
    | 1, _ => exact hrep1
  subst he
  have e1 : Rows.chaReachedSpec.fn H ([d0, d1] ++ []) = { results := [.lit (.bool true)], args := [d0, d1] } := rfl
  refine ⟨_, rfl, _, _, _, [], p0 ++ (p1 ++ []), [], hW', ?_, ?_, ?_, hb.frame _, fun h => by cases h⟩
  · rw [e1]; exact trodAll_mk1 (shut_bool Tryz.underlying4 _)
  · rw [e1]
    refine trodAll_cons_mk ?_ (trodAll_cons_mk ?_ trodAll_mk0)
    · exact WideElems.Trod_stays laidOut (by kernel_rfl) (of_decide_eq_true (by kernel_rfl)) h0 (fun x hx => hb.same (hlt x hx)) (fun x hx => by simpa using hlt x hx)
    · exact WideElems.Trod_stays laidOut (by kernel_rfl) (of_decide_eq_true (by kernel_rfl)) h1 (fun x hx => hb.same (hlt1 x hx)) (fun x hx => by simpa using hlt1 x hx)
  · rw [e1]; rfl
end Go.Proofs.YtfmicbbflpkdgaaGreatDoor.D
